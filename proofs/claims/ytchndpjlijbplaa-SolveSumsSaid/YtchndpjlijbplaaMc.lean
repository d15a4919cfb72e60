/- Part of a proof, made small by a program (wip/mini.py). -/
import Derived.Test.YtchndpjlijbplaaMb
namespace Go.Proofs.Ytchndpjlijbplaa.Am
open Go.RowKit
set_option linter.unusedSimpArgs false
set_option linter.unusedVariables false
def gr (vs:Operand->D):Op->Option (D×List D)
 | .call c=>match c.callee with | .value f=>some (vs f,c.args.toList.map vs)|_=>none
 | _=>none
theorem mA {vs:Operand->D} {op:Op} {q:D} {args:List D} (hc:gr vs op=some (q,args)):∃c f,op=.call c∧c.callee=.value f∧q=vs f∧args=c.args.toList.map vs:=by
 unfold gr at hc
 split at hc<;>try (cases hc;done)
 rename_i c
 split at hc<;>try (cases hc;done)
 rename_i f hf
 simp only[acK,Prod.mk.injEq]at hc
 exact⟨c,f,rfl,hf,hc.1.symm,hc.2.symm⟩
def zp (Γ:Env) (e:Nat) (h:Nat->Option Row):Option (D×List D)->Option bI
 | some (.fn g,args)=>pX Γ e h g args
 | _=>none
def BT (e d:Nat) (h:Nat->Option Row) (args:List D):Option (List D->Option (Nat×Nat×Nat×Nat×Nat×List D))->Option bI
 | some p=>EL p e d (bj (EH h) args)
 | none=>none
def lL (Γ:Env) (e:Nat) (h:Nat->Option Row):Option Nat->Option (D×List D)->Option bI
 | some d,some (.fn g,args)=>BT e d h args (Γ.nx.res g)
 | _,_=>none
def tj (T:Nat->Option Ty) (Γ:Env) (e:Nat) (o:Oper) (vs:Operand->D) (h:Nat->Option Row):Option bI :=
 match o.op with
 | .load ty p=>match T ty with|some τ=>m0 τ h (vs p)|none=>none
 | .store ty p x=>match T ty with|some τ=>kZ τ e h (vs p) (vs x)|none=>none
 | .call c=>zp Γ e h (gr vs (.call c))
 | _=>none
def W5 (h:Nat->Option Row):Option bI->Option bI->Option bI
 | some ⟨v,hw⟩,_=>some ⟨v,jC h hw⟩
 | none,y=>y
def oS (T:Nat->Option Ty) (Γ:Env) (e:Nat) (o:Oper) (vs:Operand->D) (h:Nat->Option Row):Option bI :=
 match iH T Γ e o vs with
 | some E=>some E
 | none =>
  match lL Γ e h o.dst (gr vs o.op) with
  | some E=>some E
  | none=>W5 h (lK T Γ e o vs (EH h)) (tj T Γ e o vs h)
def bg (o:Oper) (vs:Operand->D):List Nat:=(gC o vs).map rt
def VE (N e:Nat) (done:List Nat) (h:Nat->Option Row) (x v:Nat):Prop:=(x<N∧(v<e∨(v=e∧x∈done))) ∨
 (2*PK<=x∧v<=4*e+3∧(x % PK∉done->v<=4*e+1)∧∀r ty s nv cs,h (x % PK)=some r->r.mp=true->r.cells=[.nr ty s nv cs]->v<=nv)
def DL (e:Nat) (done:List Nat) (h:Nat->Option Row):Prop:=∀x r ty s nv cs,h x=some r->r.mp=true->r.cells=[.nr ty s nv cs]->x<PK->nv<=4*e+3∧(x∉done->nv<=4*e+1)
def lJ (e:Nat) (h h':Nat->Option Row):Prop:=∀x r' ty' s' nv' cs',h' x=some r'->r'.mp=true->r'.cells=[.nr ty' s' nv' cs']->x<PK->∃r ty s nv cs,h x=some r∧r.mp=true∧r.cells=[.nr ty s nv cs]∧(nv'=nv∨oR nv e=some nv')
theorem lJ.refl (e:Nat) (h:Nat->Option Row):lJ e h h:=fun x r ty s nv cs hx hm hc _=>⟨r,ty,s,nv,cs,hx,hm,hc,.inl rfl⟩
theorem Hy {nv e nv':Nat} (h:oR nv e=some nv'):nv<nv'∧(nv'=4*e+1∨(nv=4*e+2∧nv'=4*e+3)):=by
 unfold oR at h
 split at h
 ·cases h;omega
 ·split at h
  ·cases h;omega
  ·cases h
theorem DL.step {e:Nat} {done done':List Nat} {h h':Nat->Option Row} (hN:DL e done h) (hr:lJ e h h') (hd:∀x,x∈done->x∈done'):DL e done' h':=by
 intro x r' ty' s' nv' cs' hx hm hc hp
 obtain⟨r,ty,s,nv,cs,k1,k2,k3,k4⟩:=hr x r' ty' s' nv' cs' hx hm hc hp
 obtain⟨q1,q2⟩:=hN x r ty s nv cs k1 k2 k3 hp
 rcases k4 with rfl|k4
 ·exact⟨q1,fun hn=>q2 fun h=>hn (hd x h)⟩
 ·obtain⟨b1,b2⟩:=Hy k4
  refine⟨by omega,fun hn =>?_⟩
  rcases b2 with b2|⟨b2,b3⟩
  ·omega
  ·have:=q2 fun h=>hn (hd x h)
   omega
theorem VE.step {N e:Nat} {done done':List Nat} {h h':Nat->Option Row} (hr:lJ e h h') (hd:∀x,x∈done->x∈done') {x v:Nat} (hv:VE N e done h x v):VE N e done' h' x v:=by
 rcases hv with⟨h1,h2⟩|⟨h1,h2,h3,h4⟩
 ·exact .inl ⟨h1,h2.imp id fun⟨q1,q2⟩=>⟨q1,hd x q2⟩⟩
 ·refine .inr ⟨h1,h2,fun hn=>h3 fun h=>hn (hd _ h),fun r' ty' s' nv' cs' k1 k2 k3 =>?_⟩
  obtain⟨r,ty,s,nv,cs,q1,q2,q3,q4⟩:=hr _ r' ty' s' nv' cs' k1 k2 k3 (F9 _)
  have:=h4 r ty s nv cs q1 q2 q3
  rcases q4 with rfl|q4
  ·exact this
  ·have:=(Hy q4).1
   omega
theorem DL.aao {N e:Nat} {done:List Nat} {h:Nat->Option Row} (hN:DL e done h):VNr (VE N e done h) h:=by
 intro x r ty s nv cs hx hm hc hp o
 obtain⟨q1,q2⟩:=hN x r ty s nv cs hx hm hc hp
 refine .inr ⟨fL x o,q1,by rw[qH o hp];exact q2,fun r' ty' s' nv' cs' k1 k2 k3 =>?_⟩
 rw[qH o hp,hx]at k1
 cases k1
 rw[hc]at k3
 cases k3
 exact acB _
theorem DL.new {N e:Nat} {done:List Nat} {h:Nat->Option Row} (hN:DL e done h) (hb:N<=PK):Y2 (VE N e done h) h e:=by
 intro x r ty s nv cs nv' hx hm hc hp hbm o hv
 have hge:=fL x o
 have:=cP
 rcases hv with⟨h1,_⟩|⟨_,_,_,h4⟩
 ·omega
 ·have h5:=h4 r ty s nv cs (by rw[qH o hp];exact hx) hm hc
  have h6:=(Hy hbm).1
  omega
theorem Kw (e:Nat):∀(l:List (Nat×Option Row)) (h:Nat->Option Row),lJ e h (aF h (jC h l))
 | [],h =>.refl e h
 | (k,r)::l,h=>by
  intro x r' ty' s' nv' cs' hx hm hc hp
  obtain⟨r1,ty1,s1,nv1,cs1,k1,k2,k3,k4⟩:=Kw e l (bU h (rt k) (xD h k r)) x r' ty' s' nv' cs' hx hm hc hp
  by_cases hxk:x=rt k
  rotate_left
  ·rw[az _ _ hxk]at k1
   exact⟨r1,ty1,s1,nv1,cs1,k1,k2,k3,k4⟩
  ·rw[hxk,av]at k1
   unfold xD at k1
   split at k1
   ·exfalso
    obtain⟨_,h2,_⟩:=yD (o:=0) k1
    unfold CC at k1
    split at k1
    ·split at k1
     ·split at k1
      ·cases k1
      ·rename_i hne
       simp only[acK]at k1
       subst k1
       exact hne _ _ _ _ k3
     ·rename_i hmp
      simp only[acK]at k1
      subst k1
      exact hmp k2
    ·cases k1
   ·rename_i hk2
    have hrt:rt k=k % PK:=by unfold rt;rw[if_neg hk2]
    rw[acz]at k1
    obtain⟨q,q1,q2⟩:=k1
    unfold C2 at q2
    split at q2
    ·rename_i hqm
     split at q2
     ·rename_i ty s nv cs hqc
      subst q2
      simp only at k3
      refine⟨q,ty,s,nv,cs,by rw[hxk,hrt];exact q1,hqm,hqc,?_⟩
      unfold yL at k3
      split at k3<;>(simp only[acZ,D.nr.injEq,and_true]at k3;obtain⟨rfl,rfl,rfl,_⟩:=k3;exact k4)
     ·subst q2
      exact⟨q,ty1,s1,nv1,cs1,by rw[hxk,hrt];exact q1,k2,k3,k4⟩
    ·subst q2
     exact⟨q,ty1,s1,nv1,cs1,by rw[hxk,hrt];exact q1,k2,k3,k4⟩
section
variable {P:Program} {T:Nat->Option Ty} {N:Nat} {M:Nat->Prop} {L:jF} {w0:World} {blk:Nat->Option (Nat×Nat)} {t:Nat->D} {h h':Nat->Option Row} {a:Act} {w:World} {e:Nat} {o:Oper} {Γ:Env} {done:List Nat}
theorem lJ.set {x:Nat} {r r':Row} {ty s nv nv' ty' s':Nat} {cs cs':List D} (hx:h x=some r) (hm:r.mp=true) (hc:r.cells=[.nr ty s nv cs]) (hc':r'.cells=[.nr ty' s' nv' cs']) (hn:nv'=nv∨oR nv e=some nv'):lJ e h (bU h x (some r')):=by
 intro y r1 ty1 s1 nv1 cs1 hy hm1 hc1 hp
 by_cases hyx:y=x
 ·subst hyx
  rw[av]at hy
  cases hy
  rw[hc']at hc1
  cases hc1
  exact⟨r,ty,s,nv,cs,hx,hm,hc,hn⟩
 ·rw[az _ _ hyx]at hy
  exact⟨r1,ty1,s1,nv1,cs1,hy,hm1,hc1,.inl rfl⟩
theorem lJ.drop {y:Nat} (hr:lJ e (bU h y none) h'):lJ e h h':=by
 intro x r' ty' s' nv' cs' hx hm hc hp
 obtain⟨r,ty,s,nv,cs,k1,k⟩:=hr x r' ty' s' nv' cs' hx hm hc hp
 by_cases hxy:x=y
 ·subst hxy;rw[av]at k1;cases k1
 ·rw[az _ _ hxy]at k1
  exact⟨r,ty,s,nv,cs,k1,k⟩
theorem Fq {τ:Ty} {d:D} {E:bI} (hE:m0 τ h d=some E):E.hw=[]:=by
 unfold m0 at hE
 split at hE<;>try (cases hE;done)
 split at hE<;>try (cases hE;done)
 unfold Cn at hE
 split at hE
 ·split at hE<;>try (cases hE;done)
  cases hE;rfl
 ·split at hE<;>try (cases hE;done)
  split at hE<;>try (cases hE;done)
  cases hE;rfl
 ·cases hE
theorem Oi {τ:Ty} {p d:D} {E:bI} (hE:kZ τ e h p d=some E):lJ e h (aF h E.hw):=by
 unfold kZ at hE
 split at hE<;>try (cases hE;done)
 rename_i y0 v0 c0
 split at hE<;>try (cases hE;done)
 rename_i r ty s nv cs hl
 obtain⟨hx,hv,hz,hm,hp1,hc⟩:=lY hl
 split at hE<;>try (cases hE;done)
 have plain:∀ {c':Option (List D)},yQ τ y0 r ty s nv cs c0 c'=some E->lJ e h (aF h E.hw):=by
  intro c' hE
  unfold yQ at hE
  split at hE<;>try (cases hE;done)
  split at hE<;>try (cases hE;done)
  cases hE
  exact lJ.set hx hm hc rfl (.inl rfl)
 unfold vx at hE
 split at hE
 ·rename_i yq vq sq oq nq
  split at hE<;>try (cases hE;done)
  split at hE
  ·split at hE<;>try (cases hE;done)
   unfold yO at hE
   split at hE<;>try (cases hE;done)
   split at hE<;>try (cases hE;done)
   cases hE
   exact lJ.set hx hm hc rfl (.inl rfl)
  ·split at hE<;>try (cases hE;done)
   split at hE<;>try (cases hE;done)
   rename_i q hlq
   split at hE<;>try (cases hE;done)
   unfold yP at hE
   split at hE<;>try (cases hE;done)
   rename_i nv' hb
   cases hE
   obtain⟨hq1,hq2⟩:=bQ hlq
   refine lJ.drop (y:=yq) ?_
   exact lJ.set (by
    rw[az]
    ·exact hx
    ·rintro rfl
     rw[hx]at hq1
     cases hq1
     have:=fK hlq
     rw[hm]at this
     cases this) hm hc rfl (.inr hb)
 ·exact plain hE
structure DK (N:Nat) (M:Nat->Prop) (L:jF) (w0:World) (blk:Nat->Option (Nat×Nat)) (e:Nat) (done:List Nat) (t:Nat->D) (h:Nat->Option Row) (a:Act) (w:World):Prop where
 inv:Inv N M L w0 blk (VE N e done h) t (EH h) a w
 nv:DL e done h
def NH (N:Nat) (M:Nat->Prop) (L:jF) (w0:World) (t:Nat->D) (h:Nat->Option Row) (a:Act) (e:Nat) (done:List Nat) (E:bI) (v:Value) (w':World):Prop :=
 ∃blk',DK N M L w0 blk' e done t (aF h E.hw) a w'∧RT w' (Own M (EH (aF h E.hw)) blk') (EH (aF h E.hw)) blk' (VE N e done (aF h E.hw)) E.val v
theorem Og (hT:jf P T) (hΓ:bC P Γ) (hI:DK N M L w0 blk e done t h a w) (hd:∀d:Nat,o.dst=some d->d∉done∧d<N) {E:bI} (hE:oS T Γ e o (ev t) h=some E):eo P o a w (NH N M L w0 t h a e (o.dst.toList++done) E):=by
 have hbig:=hI.inv.big
 have hpk:=cP
 have hV:∀d:Nat,o.dst=some d->jB N (VE N e done h) d e:=by
  intro d hd'
  obtain⟨q1,q2⟩:=hd d hd'
  replace q2:(d:Nat)<N:=q2
  refine⟨fun hv =>?_,q2⟩
  rcases hv with⟨_,hv|⟨_,hv⟩⟩|⟨hv,_⟩
  ·omega
  ·exact q1 hv
  ·omega
 have hP:∀x v,VE N e done h x v->x<N∨2*PK<=x:=fun x v hv=>hv.imp (fun h=>h.1) (fun h=>h.1)
 have hsub:∀x,x∈done->x∈o.dst.toList++done:=fun x hx=>acQ _ hx
 have fin:lJ e h (aF h E.hw)->∀ {v:Value} {w':World},pM N M L w0 (VE N e done h) t h a e o.dst E v w'->NH N M L w0 t h a e (o.dst.toList++done) E v w':=by
  intro hrel v w' hA
  obtain⟨blk',h1,h2⟩:=hA
  have hVV:∀x n,VE N e done h x n∨(o.dst=some x∧n=e)->VE N e (o.dst.toList++done) (aF h E.hw) x n:=by
   rintro x n (hv|⟨hx,rfl⟩)
   ·exact hv.step hrel hsub
   ·exact .inl ⟨(hd x hx).2,.inr ⟨rfl,acP _ (by rw[hx];simp)⟩⟩
  refine⟨blk',⟨h1.weaken hVV,hI.nv.step hrel hsub⟩,h2.mono ⟨fun _ h1 h2=>⟨h1,h2,rfl⟩,hVV,fun _ _ _ r' h1 h2=>⟨⟨r',h1,h2⟩,rfl,fun _ _=>rfl⟩⟩⟩
 have fin2:∀ {E0:bI} {d:Nat} {r0:Row} {ty' s:Nat} {cs0:List D},o.dst=some d->E0.hw=[(d,some r0)]->r0.mp=true->r0.cells=[.nr ty' s (4*e+2) cs0]->∀ {v:Value} {w':World},pM N M L w0 (VE N e done h) t h a e o.dst E0 v w'->NH N M L w0 t h a e (o.dst.toList++done) E0 v w':=by
  intro E0 d r0 ty' s cs0 hdst hr0 hrm hrc v w' hA
  obtain⟨blk',h1,h2⟩:=hA
  obtain⟨hdn,hdN⟩:=hd d hdst
  have hap:aF h E0.hw=bU h d (some r0):=by rw[hr0];rfl
  have hVV:∀x n,VE N e done h x n∨(o.dst=some x∧n=e)->VE N e (o.dst.toList++done) (aF h E0.hw) x n:=by
   rintro x n (hv|⟨hx,rfl⟩)
   ·rcases hv with⟨q1,q2⟩|⟨q1,q2,q3,q4⟩
    ·exact .inl ⟨q1,q2.imp id fun⟨p1,p2⟩=>⟨p1,hsub _ p2⟩⟩
    ·refine .inr ⟨q1,q2,fun hn=>q3 fun h=>hn (hsub _ h),fun r' ty1 s1 nv1 cs1 k1 k2 k3 =>?_⟩
     rw[hap]at k1
     by_cases hxd:x % PK=d
     ·rw[hxd,av]at k1
      cases k1
      rw[hrc]at k3
      cases k3
      have:=q3 (by rw[hxd];exact hdn)
      omega
     ·rw[az _ _ hxd]at k1
      exact q4 r' ty1 s1 nv1 cs1 k1 k2 k3
   ·exact .inl ⟨(hd x hx).2,.inr ⟨rfl,acP _ (by rw[hx];simp)⟩⟩
  refine⟨blk',⟨h1.weaken hVV,?_⟩,h2.mono ⟨fun _ h1 h2=>⟨h1,h2,rfl⟩,hVV,fun _ _ _ r' h1 h2=>⟨⟨r',h1,h2⟩,rfl,fun _ _=>rfl⟩⟩⟩
  intro x r' ty1 s1 nv1 cs1 k1 k2 k3 hp
  rw[hap]at k1
  by_cases hxd:x=d
  ·subst hxd
   rw[av]at k1
   cases k1
   rw[hrc]at k3
   cases k3
   exact⟨by omega,fun hn=>absurd (acP _ (by rw[hdst];simp)) hn⟩
  ·rw[az _ _ hxd]at k1
   obtain⟨p1,p2⟩:=hI.nv x r' ty1 s1 nv1 cs1 k1 k2 k3 hp
   exact⟨p1,fun hn=>p2 fun h=>hn (hsub _ h)⟩
 have hnk:∀d:Nat,o.dst=some d->∀o',¬VE N e done h (NK d o') (4*e+2):=by
  intro d hdst o' hv
  obtain⟨hdn,hdN⟩:=hd d hdst
  have hdp:(d:Nat)<PK:=acE hdN hbig
  rcases hv with⟨hv,_⟩|⟨_,_,hv,_⟩
  ·have:=fL d o';omega
  ·have:=hv (by rw[qH o' hdp];exact hdn)
   omega
 unfold oS at hE
 split at hE
 ·rename_i E0 hmk
  simp only[acK]at hE
  subst hE
  unfold iH at hmk
  split at hmk<;>try (cases hmk;done)
  rename_i ty l c ho
  split at hmk<;>try (cases hmk;done)
  rename_i d hdst
  split at hmk<;>try (cases hmk;done)
  rename_i ty' s f hn
  split at hmk<;>try (cases hmk;done)
  rename_i τ hτ
  obtain⟨hdn,hdN⟩:=hd d hdst
  have hA:=UQ hT hI.inv ho hdst (hV d hdst) (fun o' hv=>by
   have hdp:(d:Nat)<PK:=acE hdN hbig
   rcases hv with⟨hv,_⟩|⟨_,_,hv,_⟩
   ·have:=fL d o';omega
   ·have:=hv (by rw[qH o' hdp];exact hdn)
    omega) hτ hmk
  obtain⟨r0,hr0,hrm,hrc⟩:∃r0:Row,E0.hw=[(d,some r0)]∧r0.mp=true∧∃cs,r0.cells=[.nr ty' s (4*e+2) cs]:=by
   unfold mL at hmk
   split at hmk<;>try (cases hmk;done)
   split at hmk<;>try (cases hmk;done)
   split at hmk<;>try (cases hmk;done)
   cases hmk
   exact⟨_,rfl,rfl,_,rfl⟩
  obtain⟨cs0,hrc⟩:=hrc
  exact hA.mono fun v w' hA=>fin2 hdst hr0 hrm hrc hA
 split at hE
 ·rename_i E0 hcf
  simp only[acK]at hE
  subst hE
  unfold lL at hcf
  split at hcf<;>try (cases hcf;done)
  rename_i d g args hdst hco
  obtain⟨c,f,hop,hcc,hq,hargs⟩:=mA hco
  unfold BT at hcf
  split at hcf<;>try (cases hcf;done)
  rename_i p hp
  obtain⟨_,ty',ti,s',S',n',cs',_,_,_,hE0⟩:=wk hcf
  subst hargs
  have hA:=BC hI.inv hop hcc hq.symm (fun vs q1 q2=>Uq hΓ hI.inv hdst (hV d hdst) (hnk d hdst) hp hcf q1 q2)
  refine hA.mono fun v w' hA =>?_
  exact fin2 (r0:=⟨e,ty',[.nr ti s' (4*e+2) cs'],false,true,true⟩) hdst (by rw[hE0]) rfl rfl hA
 ·unfold W5 at hE
  split at hE
  ·rename_i v0 hw he
   simp only[acK]at hE
   subst hE
   have hA:=SH hT hΓ hI.inv hV hP he
   exact hA.mono fun v w' hA=>fin (Kw e hw h) (hA.le (Ku hw h))
  ·unfold tj at hE
   split at hE
   ·rename_i ty p ho
    split at hE<;>try (cases hE;done)
    rename_i τ hτ
    exact (UO hT hI.inv hI.nv.aao ho hτ hE).mono fun v w' hA=>fin (by rw[Fq hE];exact .refl e h) hA
   ·rename_i ty p x ho
    split at hE<;>try (cases hE;done)
    rename_i τ hτ
    exact (US hT hI.inv (hI.nv.new hbig) ho hτ hE).mono fun v w' hA=>fin (Oi hE) hA
   ·rename_i c ho
    unfold zp at hE
    split at hE<;>try (cases hE;done)
    rename_i g args hco
    obtain⟨c',f,hop,hcc,hq,hargs⟩:=mA hco
    cases hop
    subst hargs
    refine (BC hI.inv ho hcc hq.symm (fun vs q1 q2=>Us hΓ hI.inv (hI.nv.new hbig) (dst:=o.dst) hE q1 q2)).mono fun v w' hA=>fin ?_ hA
    obtain⟨x,v,o',rest,r,ty,s,nv,cs,p,acw,nv',d,cs',_,hl,_,_,hb,_,_,rfl⟩:=qU hE
    obtain⟨hx,_,_,hm,_,hc⟩:=lY hl
    exact lJ.set hx hm hc rfl (.inr hb)
   ·cases hE
end
section
variable {T:Nat->Option Ty} {h h':Nat->Option Row} {e:Nat} {o:Oper} {Γ:Env}
theorem tw {x v:Nat} (hx:h x=h' x):iP h x v=iP h' x v:=by simp[iP,hx]
theorem tx {x v:Nat} {q:Row×Nat×Nat×Nat×List D} (hl:iP h x v=some q):x<PK:=by
 obtain⟨r,ty,s,nv,cs⟩:=q
 exact (lY hl).2.2.2.2.1
theorem zu:∀(l:List (Nat×Option Row)) {h h':Nat->Option Row},(∀p∈l,h (rt p.1)=h' (rt p.1))->jC h l=jC h' l
 | [],_,_,_=>rfl
 | (k,r)::l,h,h',hl=>by
  have hk:h (rt k)=h' (rt k):=hl (k,r) (by simp)
  have hp:xD h k r=xD h' k r:=by
   unfold xD
   split
   ·rfl
   ·rename_i hk2
    have:rt k=k % PK:=by unfold rt;rw[if_neg hk2]
    rw[<- this,hk]
  unfold jC
  rw[hp]
  congr 1
  refine zu l fun p hp' =>?_
  by_cases he:rt p.1=rt k
  ·rw[he,av,av]
  ·rw[az _ _ he,az _ _ he]
   exact hl p (ad4 _ hp')
theorem zw:∀(l:List (Nat×Option Row)) {h:Nat->Option Row},∀p∈jC h l,∃q∈l,p.1=rt q.1
 | [],_,p,hp=>by simp[jC]at hp
 | (k,r)::l,h,p,hp=>by
  unfold jC at hp
  rcases acI.1 hp with rfl|hp
  ·exact⟨(k,r),by simp,rfl⟩
  ·obtain⟨q,h1,h2⟩:=zw l p hp
   exact⟨q,ad4 _ h1,h2⟩
theorem TB {τ:Ty} {p d:D} {E:bI} (hE:kZ τ e h p d=some E):∀q∈E.hw,q.1<PK∧(q.1∈nm p∨q.1∈nm d):=by
 unfold kZ at hE
 split at hE<;>try (cases hE;done)
 rename_i y0 v0 c0
 split at hE<;>try (cases hE;done)
 rename_i r ty s nv cs hl
 have hlt:=tx hl
 split at hE<;>try (cases hE;done)
 have one:∀ {r':Option Row} (q:Nat×Option Row),q∈[(y0,r')]->q.1<PK∧(q.1∈nm (.ptr y0 v0 c0)∨q.1∈nm d):=by
  intro r' q hq
  simp only[acY]at hq
  subst hq
  exact⟨hlt,.inl (by simp[nm,gE])⟩
 have plain:∀ {c':Option (List D)},yQ τ y0 r ty s nv cs c0 c'=some E->∀q∈E.hw,q.1<PK∧(q.1∈nm (.ptr y0 v0 c0)∨q.1∈nm d):=by
  intro c' hE
  unfold yQ at hE
  split at hE<;>try (cases hE;done)
  split at hE<;>try (cases hE;done)
  cases hE
  exact one
 unfold vx at hE
 split at hE
 ·rename_i yq vq sq oq nq
  split at hE<;>try (cases hE;done)
  split at hE
  ·split at hE<;>try (cases hE;done)
   unfold yO at hE
   split at hE<;>try (cases hE;done)
   split at hE<;>try (cases hE;done)
   cases hE
   exact one
  ·split at hE<;>try (cases hE;done)
   rename_i hyp
   split at hE<;>try (cases hE;done)
   split at hE<;>try (cases hE;done)
   unfold yP at hE
   split at hE<;>try (cases hE;done)
   cases hE
   intro q hq
   rcases acI.1 hq with rfl|hq
   ·exact⟨hyp,.inr (by simp[nm,gE])⟩
   ·exact one q hq
 ·exact plain hE
theorem SY {τ:Ty} {d:D} (hx:∀x∈nm d,x<2*PK->h x=h' x):m0 τ h d=m0 τ h' d:=by
 unfold m0
 split
 ·rename_i x v o
  by_cases hp:x<2*PK
  ·rw[tw (hx x (by simp[nm,gE]) hp)]
  ·have hn:∀h:Nat->Option Row,iP h x v=none:=by
    intro h
    cases hl:iP h x v with
    | none=>rfl
    | some q=>have:=tx hl;omega
   rw[hn,hn]
 ·rfl
theorem TA {τ:Ty} {p d:D} (hp:∀x∈nm p,x<2*PK->h x=h' x) (hd:∀x∈nm d,x<2*PK->h x=h' x):kZ τ e h p d=kZ τ e h' p d:=by
 unfold kZ
 split
 ·rename_i x v o
  by_cases hxp:x<2*PK
  rotate_left
  ·have hn:∀h:Nat->Option Row,iP h x v=none:=by
    intro h
    cases hl:iP h x v with
    | none=>rfl
    | some q=>have:=tx hl;omega
   rw[hn,hn]
  rw[tw (hp x (by simp[nm,gE]) hxp)]
  split
  ·split
   ·unfold vx
    split
    ·rename_i y vy s' oy n
     by_cases hyp:y<2*PK
     ·rw[cr (hd y (by simp[nm,gE]) hyp)]
     ·split
      ·split
       ·rfl
       ·rw[if_neg (by have:=cP;omega),if_neg (by have:=cP;omega)]
      ·rfl
    ·rfl
   ·rfl
  ·rfl
 ·rfl
theorem fH {vs:Operand->D} {x:Nat} (hx:x∈gC o vs):rt x∈bg o vs:=acA.2 ⟨x,hx,rfl⟩
theorem oP {vs:Operand->D} {y:Operand} (hy:y∈o.op.operands.toList) (h1:∀a b c,o.op ≠ .pick a b c) (h2:∀a,o.op ≠ .move a) (h3:∀a b c,o.op ≠ .makeFunc a b c) {x:Nat} (hx:x∈nm (vs y)):x∈gC o vs:=by
 unfold gC
 split
 ·rename_i ho;exact absurd ho (h2 _)
 ·rename_i ho;exact absurd ho (h1 _ _ _)
 ·rename_i ho;exact absurd ho (h3 _ _ _)
 ·exact acP _ (ad1.2 ⟨y,hy,hx⟩)
theorem EP {vs:Operand->D} {q:D} {args:List D} (hc:gr vs o.op=some (q,args)) (hx:∀x∈bg o vs,h x=h' x):∀d∈args,∀x∈nm d,h (rt x)=h' (rt x):=by
 obtain⟨c,f,ho,hcc,_,hargs⟩:=mA hc
 subst hargs
 intro d hd x hxd
 obtain⟨y,hy,rfl⟩:=acA.1 hd
 exact hx _ (fH (oP (y:=y) (by simp[ho,Op.operands,Call.operands,hcc];exact .inr (by simpa using hy)) (by simp[ho]) (by simp[ho]) (by simp[ho]) hxd))
theorem Jp {g:Nat} {args:List D} (hx:∀d∈args,∀x∈nm d,h (rt x)=h' (rt x)):pX Γ e h g args=pX Γ e h' g args:=by
 unfold pX
 split
 ·rename_i x v c rest
  have hca:bj (EH h) rest=bj (EH h') rest:=ig fun d hd x hxd=>eB (hx d (ad4 _ hd) x hxd)
  by_cases hp:x<2*PK
  ·have:=hx _ ad3 x (by simp[nm,gE])
   rw[jD hp]at this
   rw[tw this,hca]
  ·have hn:∀h:Nat->Option Row,iP h x v=none:=by
    intro h
    cases hl:iP h x v with
    | none=>rfl
    | some q=>have:=tx hl;omega
   rw[hn,hn]
 ·rfl
theorem Kf {vs:Operand->D} (hx:∀x∈bg o vs,h x=h' x):lL Γ e h o.dst (gr vs o.op)=lL Γ e h' o.dst (gr vs o.op):=by
 unfold lL
 split
 ·rename_i d g args hd hc
  unfold BT
  split
  ·rw[ig fun d hd x hxd=>eB (EP hc hx d hd x hxd)]
  ·rfl
 ·rfl
theorem Oh {vs:Operand->D} (hx:∀x∈bg o vs,h x=h' x):tj T Γ e o vs h=tj T Γ e o vs h':=by
 unfold tj
 split
 ·rename_i ty p ho
  split
  ·exact SY fun x hxm hl=>by
    have:=hx _ (fH (oP (y:=p) (by simp[ho,Op.operands]) (by simp[ho]) (by simp[ho]) (by simp[ho]) hxm))
    rwa [jD hl]at this
  ·rfl
 ·rename_i ty p x ho
  split
  ·exact TA (fun y hxm hl=>by
    have:=hx _ (fH (oP (y:=p) (by simp[ho,Op.operands]) (by simp[ho]) (by simp[ho]) (by simp[ho]) hxm))
    rwa [jD hl]at this) (fun y hxm hl=>by
    have:=hx _ (fH (oP (y:=x) (by simp[ho,Op.operands]) (by simp[ho]) (by simp[ho]) (by simp[ho]) hxm))
    rwa [jD hl]at this)
  ·rfl
 ·rename_i c ho
  unfold zp
  split
  ·rename_i g args hc
   exact Jp (EP (by rw[ho];exact hc) hx)
  ·rfl
 ·rfl
theorem Oe {vs:Operand->D} (hx:∀x∈bg o vs,h x=h' x):oS T Γ e o vs h=oS T Γ e o vs h':=by
 have h1:lK T Γ e o vs (EH h)=lK T Γ e o vs (EH h'):=SG fun x hxm=>eB (hx _ (fH hxm))
 unfold oS
 rw[h1,Oh hx,Kf hx]
 split
 ·rfl
 split
 ·rfl
 ·cases hE:lK T Γ e o vs (EH h') with
  | none=>rfl
  | some E =>
   simp only[W5]
   rw[zu E.hw fun p hp=>hx _ (fH (Fs hE p hp))]
theorem Of {vs:Operand->D} {E:bI} (hE:oS T Γ e o vs h=some E):∀p∈E.hw,p.1∈bg o vs:=by
 unfold oS at hE
 split at hE
 ·rename_i E0 hmk
  simp only[acK]at hE
  subst hE
  unfold iH at hmk
  split at hmk<;>try (cases hmk;done)
  rename_i ty l c ho
  split at hmk<;>try (cases hmk;done)
  rename_i d hdst
  split at hmk<;>try (cases hmk;done)
  split at hmk<;>try (cases hmk;done)
  unfold mL at hmk
  split at hmk<;>try (cases hmk;done)
  split at hmk<;>try (cases hmk;done)
  split at hmk<;>try (cases hmk;done)
  rename_i hcond
  cases hmk
  intro p hp
  simp only[acY]at hp
  subst hp
  have hd:d∈gC o vs:=by
   unfold gC
   rw[ho]
   exact acQ _ (by rw[hdst];simp)
  have:=fH hd
  rwa [jD (by have:=hcond.2.2.2.2.2.2.1;omega)]at this
 split at hE
 ·rename_i E0 hcf
  simp only[acK]at hE
  subst hE
  unfold lL at hcf
  split at hcf<;>try (cases hcf;done)
  rename_i d g args hdst hco
  obtain⟨c,f,hop,hcc,hq,hargs⟩:=mA hco
  unfold BT at hcf
  split at hcf<;>try (cases hcf;done)
  obtain⟨_,_,_,_,_,_,_,_,_,hdp,rfl⟩:=wk hcf
  intro p hp
  simp only[acY]at hp
  subst hp
  have hd:d∈gC o vs:=by
   unfold gC
   rw[hop]
   exact acQ _ (by rw[hdst];simp)
  have:=fH hd
  rwa [jD (by omega)]at this
 ·unfold W5 at hE
  split at hE
  ·rename_i v0 hw he
   simp only[acK]at hE
   subst hE
   intro p hp
   obtain⟨q,h1,h2⟩:=zw hw p hp
   rw[h2]
   exact fH (Fs he q h1)
  ·unfold tj at hE
   split at hE
   ·split at hE<;>try (cases hE;done)
    rw[Fq hE]
    intro p hp
    simp at hp
   ·rename_i ty p x ho
    split at hE<;>try (cases hE;done)
    intro q hq
    obtain⟨q1,q2⟩:=TB hE q hq
    have:q.1∈gC o vs:=by
     rcases q2 with q2|q2
     ·exact oP (y:=p) (by simp[ho,Op.operands]) (by simp[ho]) (by simp[ho]) (by simp[ho]) q2
     ·exact oP (y:=x) (by simp[ho,Op.operands]) (by simp[ho]) (by simp[ho]) (by simp[ho]) q2
    have:=fH this
    rwa [jD (by omega)]at this
   ·rename_i c ho
    unfold zp at hE
    split at hE<;>try (cases hE;done)
    rename_i g args hco
    obtain⟨c',f,hop,hcc,hq,hargs⟩:=mA hco
    cases hop
    obtain⟨x,v,o',rest,r,ty,s,nv,cs,p,acw,nv',d,cs',hag,hl,_,_,_,_,_,rfl⟩:=qU hE
    have hlt:=tx hl
    intro q hq
    simp only[acY]at hq
    subst hq
    obtain⟨y,hy,hyx⟩:∃y∈c.args.toList,vs y=.ptr x v o':=by
     have:(.ptr x v o':D)∈c.args.toList.map vs:=by rw[<- hargs,hag];exact ad3
     obtain⟨y,h1,h2⟩:=acA.1 this
     exact⟨y,h1,h2⟩
    have:x∈gC o vs:=oP (y:=y) (by simp[ho,Op.operands,Call.operands,hcc];exact .inr (by simpa using hy)) (by simp[ho]) (by simp[ho]) (by simp[ho]) (by rw[hyx];simp[nm,gE])
    have:=fH this
    rwa [jD (by omega)]at this
   ·cases hE
theorem Xo {vs vs':Operand->D} (hx:∀y∈o.op.operands.toList,vs y=vs' y):oS T Γ e o vs h=oS T Γ e o vs' h∧bg o vs=bg o vs':=by
 obtain⟨h1,h2⟩:=Zf (T:=T) (Γ:=Γ) (e:=e) (h:=EH h) hx
 have h3:iH T Γ e o vs=iH T Γ e o vs':=by
  unfold iH
  split
  ·rename_i ty l c ho
   rw[hx l (by simp[ho,Op.operands]),hx c (by simp[ho,Op.operands])]
  ·rfl
 have hco:∀c,o.op=.call c->gr vs (.call c)=gr vs' (.call c):=by
  intro c ho
  unfold gr
  simp only
  split
  ·rename_i f hf
   rw[hx f (by simp[ho,Op.operands,Call.operands,hf]),ad2 fun y hy=>hx y (by simp[ho,Op.operands,Call.operands,hf];exact .inr (by simpa using hy))]
  ·rfl
 have h4:tj T Γ e o vs h=tj T Γ e o vs' h:=by
  unfold tj
  split
  ·rename_i ty p ho
   rw[hx p (by simp[ho,Op.operands])]
  ·rename_i ty p x ho
   rw[hx p (by simp[ho,Op.operands]),hx x (by simp[ho,Op.operands])]
  ·rename_i c ho
   rw[hco c ho]
  ·rfl
 have h5:gr vs o.op=gr vs' o.op:=by
  by_cases hc:∃c,o.op=.call c
  ·obtain⟨c,hc⟩:=hc
   rw[hc]
   exact hco c hc
  ·unfold gr
   split
   ·rename_i c ho;exact absurd ⟨c,ho⟩ hc
   ·rfl
 unfold oS bg
 rw[h1,h2,h3,h4,h5]
 exact⟨rfl,rfl⟩
end
structure jE where
 tc:List Nat
 q:Bool
def tu (ops:Array Oper) (t:Nat->D) (o:Oper):Option Bool :=
 match o.guard with
 | none=>some true
 | some (j,want) =>
  match (ops[j]?).bind (·.dst) with
  | some g=>match t g with | .bool b=>some (b==want) | .skp=>some false|_=>none
  | none=>none
def dP (t:Nat->D) (dst:Option Nat) (d:D):Nat->D :=
 match dst with
 | none=>t
 | some i=>bU t i d
def fits (N:Nat) (dst:Option Nat):Bool :=
 match dst with
 | none=>true
 | some i=>decide (i<N)
def tY (T:Nat->Option Ty) (Γ:Env) (N e:Nat) (ops:Array Oper) (o:Oper) (t:Nat->D) (h:Nat->Option Row):Option ((Nat->D)×(Nat->Option Row)×jE) :=
 if fits N o.dst then
  match tu ops t o with
  | some true =>
   match oS T Γ e o (ev t) h with
   | some E=>some (dP t o.dst E.val,aF h E.hw,⟨bg o (ev t),E.hw.isEmpty⟩)
   | none=>none
  | some false=>some (dP t o.dst .skp,h,⟨[],true⟩)
  | none=>none
 else none
section
variable {P:Program} {T:Nat->Option Ty} {N:Nat} {M:Nat->Prop} {L:jF} {w0:World} {blk:Nat->Option (Nat×Nat)} {t:Nat->D} {h:Nat->Option Row} {a:Act} {w:World} {e:Nat} {o:Oper} {Γ:Env} {ops:Array Oper}
theorem xo {V:Nat->Nat->Prop} (hI:Inv N M L w0 blk V t h a w) {b:Bool} (hg:tu ops t o=some b):Region.wanted o (yielded ops a.tmps)=b:=by
 unfold tu at hg
 split at hg
 ·rename_i ho
  simp only[acK]at hg
  subst hg
  simp[Region.wanted,ho]
 ·rename_i j want ho
  split at hg
  ·rename_i g hgd
   split at hg
   ·rename_i b' hb
    simp only[acK]at hg
    subst hg
    have hs:=hI.slots g
    rw[hb]at hs
    have hv:=uo hs
    have hget:a.tmps[g]? = some (.bool b'):=by
     simp only[acG]at hv
     cases hx:a.tmps[g]? with
     | none=>rw[hx]at hv;cases hv
     | some v=>rw[hx]at hv;simp only[Option.getD_some]at hv;rw[hv]
    have hy:yielded ops a.tmps j=some b':=by
     unfold yielded
     rw[hgd]
     simp[hget]
    simp only[Region.wanted,ho,hy]
    cases b'<;>cases want<;>rfl
   ·rename_i hb
    simp only[acK]at hg
    subst hg
    have hs:=hI.slots g
    rw[hb]at hs
    have hv:a.tmps.getD g undef=undef:=hs
    have hy:yielded ops a.tmps j=none:=by
     unfold yielded
     rw[hgd]
     simp only[acG]at hv
     cases hx:a.tmps[g]? with
     | none=>simp only[Option.bind_some,hx]
     | some v=>rw[hx]at hv;simp only[Option.getD_some]at hv;subst hv;simp only[Option.bind_some,hx];rfl
    simp only[Region.wanted,ho,hy]
    cases want<;>rfl
   ·cases hg
  ·cases hg
theorem Inv.aaA {V:Nat->Nat->Prop} (hI:Inv N M L w0 blk V t h a w) (hf:fits N o.dst=true) {d:D} {v:Value} (hx:RT w (Own M h blk) h blk V d v):Inv N M L w0 blk V (dP t o.dst d) h (a.put o.dst v) w:=by
 cases hd:o.dst with
 | none=>simpa [dP,Act.put] using hI
 | some i =>
  rw[hd]at hf
  exact hI.put (by simpa [fits] using hf) hx
theorem R5 (hT:jf P T) (hΓ:bC P Γ) {done:List Nat} {t':Nat->D} {h':Nat->Option Row} {f:jE} {K:Act->World->Prop} {Q:Exit->Act->World->Prop} (hI:DK N M L w0 blk e done t h a w)
  (hs:tY T Γ N e ops o t h=some (t',h',f)) (hd:∀d,o.dst=some d->d∉done) (hK:∀a' w' blk',DK N M L w0 blk' e (o.dst.toList++done) t' h' a' w'->K a' w') :
  if Region.wanted o (yielded ops a.tmps) then o.wp P a w K Q∨(o.asks P a w∧LetsOut Q) else K (a.put o.dst undef) w:=by
 unfold tY at hs
 split at hs
 ·rename_i hf
  split at hs
  ·rename_i hg
   rw[xo hI.inv hg]
   simp only[if_true]
   split at hs
   ·rename_i E hE
    simp only[acK,Prod.mk.injEq]at hs
    obtain⟨rfl,rfl,_⟩:=hs
    have:=Og hT hΓ hI (fun d hd'=>⟨hd d hd',by rw[hd']at hf;simpa [fits] using hf⟩) hE
    refine .inl (this.wp fun v w' hA =>?_)
    obtain⟨blk',hI',hR⟩:=hA
    exact hK _ _ blk' ⟨hI'.inv.aaA hf hR,hI'.nv⟩
   ·cases hs
  ·rename_i hg
   rw[xo hI.inv hg]
   simp only[adb,if_false]
   simp only[acK,Prod.mk.injEq]at hs
   obtain⟨rfl,rfl,_⟩:=hs
   have hsub:∀x,x∈done->x∈o.dst.toList++done:=fun x hx=>acQ _ hx
   exact hK _ _ blk ⟨(hI.inv.aaA hf (d := .skp) (v:=undef) rfl).weaken fun x n hx=>hx.step (.refl e h) hsub,hI.nv.step (.refl e h) hsub⟩
  ·cases hs
 ·cases hs
theorem ey {x:Nat} : ∀ {l:List (Nat×Option Row)} {h:Nat->Option Row},(∀p∈l,p.1≠x)->aF h l x=h x
 | [],_,_=>rfl
 | (y,r)::l,h,hn=>by
  simp only[aF]
  rw[ey (fun p hp=>hn p (by simp[hp]))]
  exact az _ _ (fun e=>hn (y,r) (by simp) e.symm)
theorem yi {x:Nat} : ∀ {l:List (Nat×Option Row)} {h h':Nat->Option Row},(∃p∈l,p.1=x)->aF h l x=aF h' l x
 | [],_,_,he=>by obtain⟨p,hp,_⟩:=he;simp at hp
 | (y,r)::l,h,h',he=>by
  simp only[aF]
  by_cases hl:∃p∈l,p.1=x
  ·exact yi hl
  ·have hn:∀p∈l,p.1≠x:=fun p hp hpx=>hl ⟨p,hp,hpx⟩
   rw[ey hn,ey hn]
   obtain⟨p,hp,hpx⟩:=he
   rcases acI.1 hp with rfl|hp
   ·simp only at hpx;subst hpx;rw[av,av]
   ·exact absurd hpx (hn p hp)
theorem I8 {l l':List (Nat×Option Row)} {h:Nat->Option Row} (hd:∀p∈l,∀q∈l',p.1≠q.1):aF (aF h l) l'=aF (aF h l') l:=by
 funext x
 by_cases h1:∃p∈l,p.1=x
 ·obtain⟨p,hp,rfl⟩:=h1
  rw[ey (fun q hq e=>hd p hp q hq e.symm)]
  exact yi ⟨p,hp,rfl⟩
 ·have hn:∀p∈l,p.1≠x:=fun p hp hpx=>h1 ⟨p,hp,hpx⟩
  rw[ey hn]
  by_cases h2:∃p∈l',p.1=x
  ·exact yi h2
  ·have hn':∀p∈l',p.1≠x:=fun p hp hpx=>h2 ⟨p,hp,hpx⟩
   rw[ey hn',ey hn',ey hn]
theorem Tv {t:Nat->D} {x y:Option Nat} {v u:D} (hne:∀d,x=some d->y≠some d):dP (dP t x v) y u=dP (dP t y u) x v:=by
 cases x with
 | none=>rfl
 | some i =>
  cases y with
  | none=>rfl
  | some j=>exact WR t v u (fun e=>hne i rfl (by rw[e]))
theorem RM {t:Nat->D} {x:Option Nat} {v:D} {s:Nat} (hne:x≠some s):dP t x v s=t s:=by
 cases x with
 | none=>rfl
 | some i=>exact az _ _ (fun e=>hne (by rw[e]))
theorem Nu {t t1:Nat->D} {h h1:Nat->Option Row} {f:jE} (hs:tY T Γ N e ops o t h=some (t1,h1,f)) :
  ∃v hw,t1=dP t o.dst v∧h1=aF h hw∧(∀p∈hw,p.1∈f.tc)∧(f.q=true->hw=[]) ∧
   ∀t' h',(∀s∈o.looksAt ops,t s=t' s)->(∀x∈f.tc,h x=h' x)->tY T Γ N e ops o t' h'=some (dP t' o.dst v,aF h' hw,f):=by
 have hgd:∀t':Nat->D,(∀s∈o.looksAt ops,t s=t' s)->tu ops t o=tu ops t' o:=by
  intro t' ht
  unfold tu
  split
  ·rfl
  ·rename_i j want ho
   split
   ·rename_i g hg
    rw[ht g (by simp[Oper.looksAt,ho,hg])]
   ·rfl
 have hvs:∀t':Nat->D,(∀s∈o.looksAt ops,t s=t' s)->∀y∈o.op.operands.toList,ev t y=ev t' y:=by
  intro t' ht y hy
  cases y with
  | tmp i=>exact ht i (by unfold Oper.looksAt;exact acP _ (List.mem_filterMap.2 ⟨_,hy,rfl⟩))
  | const v=>rfl
  | global g=>rfl
  | func f=>rfl
 unfold tY at hs
 split at hs
 ·rename_i hf
  split at hs
  ·rename_i hg
   split at hs
   ·rename_i E hE
    simp only[acK,Prod.mk.injEq]at hs
    obtain⟨rfl,rfl,rfl⟩:=hs
    refine⟨E.val,E.hw,rfl,rfl,Of hE,fun hq=>by simpa using hq,fun t' h' ht hh =>?_⟩
    obtain⟨e1,e2⟩:=Xo (T:=T) (Γ:=Γ) (e:=e) (h:=h) (hvs t' ht)
    have e3:oS T Γ e o (ev t') h'=some E:=by
     rw[<- hE,e1]
     exact (Oe (fun x hx=>hh x (by rw[e2];exact hx))).symm
    unfold tY
    rw[if_pos hf,<- hgd t' ht,hg]
    simp only[e3,e2]
   ·cases hs
  ·rename_i hg
   simp only[acK,Prod.mk.injEq]at hs
   obtain⟨rfl,rfl,rfl⟩:=hs
   refine⟨.skp,[],rfl,rfl,fun p hp=>by simp at hp,fun _=>rfl,fun t' h' ht hh =>?_⟩
   unfold tY
   rw[if_pos hf,<- hgd t' ht,hg]
   rfl
  ·cases hs
 ·cases hs
def NT (T:Nat->Option Ty) (Γ:Env) (N e:Nat) (ops:Array Oper) (F:Nat->jE):List Nat->(Nat->D)->(Nat->Option Row)->(Nat->D)->(Nat->Option Row)->Prop
 | [],t,h,t',h'=>t=t'∧h=h'
 | i::L,t,h,t',h'=>∃o t1 h1,ops[i]? = some o∧tY T Γ N e ops o t h=some (t1,h1,F i)∧NT T Γ N e ops F L t1 h1 t' h'
def Xj (l l':List Nat):Bool:=l.all fun x => !l'.contains x
structure P8 (ops:Array Oper) (F:Nat->jE) (j i:Nat):Prop where
 apart:∀oj oi,ops[j]? = some oj->ops[i]? = some oi->oj.apart ops oi=true
 foot:((F j).q&&(F i).q||Xj (F j).tc (F i).tc)=true
theorem swap {F:Nat->jE} {i j:Nat} {L:List Nat} {t t':Nat->D} {h h':Nat->Option Row} (hr:NT T Γ N e ops F (j::i::L) t h t' h') (hi:P8 ops F j i):NT T Γ N e ops F (i::j::L) t h t' h':=by
 obtain⟨oj,t1,h1,hoj,hsj,oi,t2,h2,hoi,hsi,hrest⟩:=hr
 obtain⟨a1,a2,a3⟩:=Oper.apart_spec (hi.apart oj oi hoj hoi)
 obtain⟨vj,wj,rfl,rfl,nj,qj,locj⟩:=Nu hsj
 obtain⟨vi,wi,rfl,rfl,ni,qi,loci⟩:=Nu hsi
 have hfoot:=hi.foot
 simp only[ad8,ade]at hfoot
 have d1:∀x∈(F i).tc,∀p∈wj,p.1≠x:=by
  intro x hx p hp he
  rcases hfoot with⟨h1,_⟩|h1
  ·rw[qj h1]at hp;simp at hp
  ·simp only[Xj,acM]at h1
   have:=h1 p.1 (nj p hp)
   rw[he]at this
   simp[hx]at this
 have d2:∀x∈(F j).tc,∀p∈wi,p.1≠x:=by
  intro x hx p hp he
  rcases hfoot with⟨_,h1⟩|h1
  ·rw[qi h1]at hp;simp at hp
  ·simp only[Xj,acM]at h1
   have:=h1 x hx
   have hm:=ni p hp
   rw[he]at hm
   simp[hm]at this
 have hsi':=loci t h (fun s hs=>RM (fun hd=>a1 s hd hs)) (fun x hx=>ey (d1 x hx))
 have hsj':=locj (dP t oi.dst vi) (aF h wi) (fun s hs=>(RM (fun hd=>a3 s hd hs)).symm) (fun x hx=>(ey (d2 x hx)).symm)
 refine⟨oi,_,_,hoi,hsi',oj,_,_,hoj,hsj',?_⟩
 rw[Tv (x:=oi.dst) (y:=oj.dst) (fun d hd hd'=>a2 d hd' hd),I8 (l:=wi) (l':=wj) (fun p hp q hq he=>d1 p.1 (ni p hp) q hq he.symm)]
 exact hrest
theorem front {F:Nat->jE} {i:Nat} {post:List Nat} : ∀ {pre:List Nat} {t t':Nat->D} {h h':Nat->Option Row},NT T Γ N e ops F (pre++i::post) t h t' h'->(∀j∈pre,P8 ops F j i)->NT T Γ N e ops F (i::(pre++post)) t h t' h'
 | [],_,_,_,_,hr,_=>hr
 | j::pre,t,t',h,h',hr,hi=>by
  obtain⟨oj,t1,h1,hoj,hsj,hrest⟩:=hr
  have ih:=front (pre:=pre) hrest (fun k hk=>hi k (by simp[hk]))
  exact swap ⟨oj,t1,h1,hoj,hsj,ih⟩ (hi j (by simp))
def direct (o:Oper):List Nat:=(o.after.toList.filter (Region.binds .any)).map (·.on)
def uu:List Oper->List (List Nat)->List (List Nat)
 | [],acc=>acc
 | o::l,acc=>uu l (acc++[direct o++(direct o).flatMap fun k=>acc.getD k []])
def Y8 (ops:Array Oper):List (List Nat):=uu ops.toList []
theorem Bp (S:Nat->Prop):∀(l:List Oper) (acc:List (List Nat)) (k:Nat),k=acc.length->(∀i j,j∈acc.getD i []->i<k->(∀m o,ops[m]? = some o->S m->∀d∈direct o,S d)->(∀o,ops[i]? = some o->∀d∈direct o,S d)->S j) ->
  (∀j,l[j]? = ops[k+j]?)->∀i j,j∈(uu l acc).getD i []->(∀m o,ops[m]? = some o->S m->∀d∈direct o,S d)->(∀o,ops[i]? = some o->∀d∈direct o,S d)->S j
 | [],acc,k,hk,hacc,hl,i,j,hj,hS,hi=>by
  simp only[uu]at hj
  by_cases hik:i<k
  ·exact hacc i j hj hik hS hi
  ·have:acc.getD i []=[]:=by simp[List.getD,ad9 (show acc.length<=i by omega)]
   rw[this]at hj
   simp at hj
 | o::l,acc,k,hk,hacc,hl,i,j,hj,hS,hi=>by
  simp only[uu]at hj
  refine Bp S l _ (k+1) (by simp[hk]) ?_ (fun j=>by have:=hl (j+1);simpa [acW,Nat.add_comm 1 j] using this) i j hj hS hi
  intro i' j' hj' hik' hS' hi'
  by_cases hlt:i'<k
  ·have:(acc++[direct o++(direct o).flatMap fun k=>acc.getD k []]).getD i' []=acc.getD i' []:=by
    simp[List.getD,adh (show i'<acc.length by omega)]
   rw[this]at hj'
   exact hacc i' j' hj' hlt hS' hi'
  ·obtain rfl:i'=k:=by omega
   have:(acc++[direct o++(direct o).flatMap fun k=>acc.getD k []]).getD i' []=direct o++(direct o).flatMap fun k=>acc.getD k []:=by
    simp[List.getD,adi (show acc.length<=i' by omega),hk]
   rw[this]at hj'
   have ho:ops[i']? = some o:=by have:=hl 0;simpa using this.symm
   rcases adL.1 hj' with hd|hd
   ·exact hi' o ho j' hd
   ·obtain⟨m,hm,hmj⟩:=ad1.1 hd
    have hSm:=hi' o ho m hm
    by_cases hmk:m<i'
    ·exact hacc m j' hmj hmk hS' (fun o' ho' d hd'=>hS' m o' ho' hSm d hd')
    ·have:acc.getD m []=[]:=by simp[List.getD,ad9 (show acc.length<=m by omega)]
     rw[this]at hmj
     simp at hmj
theorem Xh {S:Nat->Prop} {i j:Nat} (hj:j∈(Y8 ops).getD i []) (hS:∀m o,ops[m]? = some o->S m->∀d∈direct o,S d) (hi:∀o,ops[i]? = some o->∀d∈direct o,S d):S j :=
 Bp S ops.toList [] 0 rfl (fun i j hj _ _ _=>by simp at hj) (fun j=>by simp) i j hj hS hi
def UJ (acc:List Nat):List Nat->Nat
 | []=>0
 | k::l=>(2 ^ k ||| acc.getD k 0) ||| UJ acc l
def Bq:List Oper->List Nat->List Nat
 | [],acc=>acc
 | o::l,acc=>Bq l (acc++[UJ acc (direct o)])
def QM (ops:Array Oper):List Nat:=Bq ops.toList []
theorem QP {acc:List Nat} {j:Nat} : ∀ {l:List Nat},(UJ acc l).testBit j=true->j∈l∨∃k∈l,(acc.getD k 0).testBit j=true
 | [],h=>by simp[UJ]at h
 | k::l,h=>by
  simp only[UJ,Nat.testBit_or,ad8,Nat.testBit_two_pow,decide_eq_true_eq]at h
  rcases h with (rfl|h)|h
  ·exact .inl (ad3 ..)
  ·exact .inr ⟨k,ad3 ..,h⟩
  ·rcases QP h with h|⟨k',h1,h2⟩
   ·exact .inl (ad4 _ h)
   ·exact .inr ⟨k',ad4 _ h1,h2⟩
theorem zb:∀(l:List Oper) (accM:List Nat) (acc:List (List Nat)),accM.length=acc.length->(∀i j,(accM.getD i 0).testBit j=true->j∈acc.getD i [])->∀i j,((Bq l accM).getD i 0).testBit j=true->j∈(uu l acc).getD i []
 | [],_,_,_,h,i,j,hj=>h i j hj
 | o::l,accM,acc,hl,h,i,j,hj=>by
  refine zb l _ _ (by simp[hl]) (fun i' j' hj' =>?_) i j hj
  by_cases h1:i'<accM.length
  ·rw[adg,adh h1,<- adg]at hj'
   rw[adg,adh (by omega),<- adg]
   exact h i' j' hj'
  ·by_cases h2:i'=accM.length
   ·subst h2
    rw[adg,adi (acB _),adH]at hj'
    simp only[List.getElem?_cons_zero,Option.getD_some]at hj'
    rw[hl,adg,adi (acB _),adH]
    simp only[List.getElem?_cons_zero,Option.getD_some,adL,ad1]
    rcases QP hj' with hj'|⟨k,hk,hj'⟩
    ·exact .inl hj'
    ·exact .inr ⟨k,hk,h k j' hj'⟩
   ·rw[adg,ad9 (by simp;omega)]at hj'
    simp at hj'
theorem Uz {i j:Nat} (h:((QM ops).getD i 0).testBit j=true):j∈(Y8 ops).getD i [] :=
 zb ops.toList [] [] rfl (fun i j h=>by simp at h) i j h
def Qc (ops:Array Oper) (F:Nat->jE):Prop:=∀j i,j<i->i<ops.size->j∈(Y8 ops).getD i []∨P8 ops F j i
theorem TJ (hT:jf P T) (hΓ:bC P Γ) {F:Nat->jE} {Q:Exit->Act->World->Prop} {t':Nat->D} {h':Nat->Option Row} (hp:Qc ops F) (hedge:∀i o,ops[i]? = some o->∀d∈direct o,d<i)
  (hdst:∀(i j:Nat) (oi oj:Oper) (d:Nat),ops[i]? = some oi->ops[j]? = some oj->oi.dst=some d->oj.dst=some d->i=j) (hQ:∀a' w' blk' done,DK N M L w0 blk' e done t' h' a' w'->Q .normal a' w') :
  ∀(n:Nat) (LL:List Nat) (listed:Array Bool) (t:Nat->D) (h:Nat->Option Row) (a:Act) (w:World) (blk:Nat->Option (Nat×Nat)) (done:List Nat),LL.length=n->(∀i,i∈LL↔listed.getD i true=false)->LL.Pairwise (· < ·)->(∀i∈LL,i<ops.size)->listed.size=ops.size ->
   (∀i o,ops[i]? = some o->listed.getD i false=true->∀d∈direct o,listed.getD d false=true)->(∀d∈done,∃i o,ops[i]? = some o∧o.dst=some d∧listed.getD i false=true) ->
   NT T Γ N e ops F LL t h t' h'->DK N M L w0 blk e done t h a w->wpAny P .any ops Q n listed a w:=by
 intro n
 induction n with
 | zero =>
  intro LL listed t h a w blk done hn hL hs hlt hsz hdown hdone hr hI
  have:LL=[]:=adM hn
  subst this
  obtain⟨rfl,rfl⟩:=hr
  refine⟨?_,hQ a w blk done hI⟩
  refine List.eq_nil_iff_forall_not_mem.2 fun i hi =>?_
  have:=(mem_ready.1 hi).1
  exact absurd ((hL i).2 this) (by simp)
 | succ n ih =>
  intro LL listed t h a w blk done hn hL hs hlt hsz hdown hdone hr hI
  refine⟨fun hempty =>?_,fun i hi =>?_⟩
  ·cases LL with
   | nil=>simp at hn
   | cons i LL =>
    obtain⟨o,t1,h1,ho,_⟩:=hr
    have hready:i∈Region.ready .any ops listed:=by
     refine mem_ready.2 ⟨(hL i).1 (by simp),o,ho,fun ed hed hb =>?_⟩
     have hd:ed.on∈direct o:=acA.2 ⟨ed,aea.2 ⟨by simpa using hed,hb⟩,rfl⟩
     have hlt':=hedge i o ho _ hd
     by_cases hm:ed.on∈i::LL
     ·rcases acI.1 hm with hm|hm
      ·omega
      ·have:=(aeb.1 hs).1 _ hm
       omega
     ·have h1:¬listed.getD ed.on true=false:=fun hf=>hm ((hL _).2 hf)
      have h2:ed.on<listed.size:=by rw[hsz];have:=hlt i (by simp);omega
      have:listed.getD ed.on true=listed.getD ed.on false:=by simp[Array.getD,h2]
      rw[<- this]
      simpa using h1
    rw[hempty]at hready
    simp at hready
  ·obtain⟨hi0,o,ho,hneeds⟩:=mem_ready.1 hi
   have hiL:i∈LL:=(hL i).2 hi0
   obtain⟨pre,post,rfl⟩:=List.append_of_mem hiL
   have hisz:i<listed.size:=by rw[hsz];exact hlt i hiL
   have hdirect:∀d∈direct o,listed.getD d false=true:=by
    intro d hd
    obtain⟨ed,hed,rfl⟩:=acA.1 hd
    obtain⟨h1,h2⟩:=aea.1 hed
    exact hneeds ed (by simpa using h1) h2
   have hind:∀j∈pre,P8 ops F j i:=by
    intro j hj
    have hji:j<i:=by
     have:=aec.1 hs
     exact this.2.2 j hj i (by simp)
    rcases hp j i hji (hlt i hiL) with hc|hc
    ·have hjl:listed.getD j false=true:=Xh (S:=fun m=>listed.getD m false=true) hc (fun m om hm hSm d hd=>hdown m om hm hSm d hd) (fun o' ho' d hd=>by
      rw[ho]at ho'
      cases ho'
      exact hdirect d hd)
     have hjt:=(hL j).1 (by simp[hj])
     have hjs:j<listed.size:=by omega
     have:listed.getD j true=listed.getD j false:=by simp[Array.getD,hjs]
     rw[this,hjl]at hjt
     cases hjt
    ·exact hc
   obtain⟨o',t1,h1,ho',hstep,hrest⟩:=front hr hind
   rw[ho]at ho'
   cases ho'
   unfold wpOp
   simp only[ho]
   refine R5 hT hΓ hI hstep (fun d hd hdd =>?_) (fun a' w' blk' hI' =>?_)
   ·obtain⟨k,ok,hk,hkd,hkl⟩:=hdone d hdd
    have:=hdst i k o ok d ho hk hd hkd
    subst this
    have:listed.getD i true=listed.getD i false:=by simp[Array.getD,hisz]
    rw[this,hkl]at hi0
    cases hi0
   ·have hset:∀k,(listed.setIfInBounds i true).getD k false=true↔k=i∨listed.getD k false=true:=by
     intro k
     by_cases hki:k=i
     ·subst hki;simp[hisz]
     ·rw[getD_set_ne false (Ne.symm hki)];simp[hki]
    have hset2:∀k,(listed.setIfInBounds i true).getD k true=false↔k≠i∧listed.getD k true=false:=by
     intro k
     by_cases hki:k=i
     ·subst hki;simp[hisz]
     ·rw[getD_set_ne true (Ne.symm hki)];simp[hki]
    have hnd:(pre++i::post).Nodup:=hs.imp (fun h=>Nat.ne_of_lt h)
    refine ih (pre++post) (listed.setIfInBounds i true) t1 h1 a' w' blk' _ (by simp at hn ⊢;omega) (fun k =>?_) ?_ (fun k hk=>hlt k (by simp at hk ⊢;rcases hk with hk|hk<;>simp[hk])) (by simpa using hsz) (fun k ok hk hkl d hd =>?_) (fun d hd =>?_) hrest hI'
    ·rw[hset2]
     constructor
     ·intro hk
      have hkL:k∈pre++i::post:=by simp at hk ⊢;rcases hk with hk|hk<;>simp[hk]
      refine⟨fun e =>?_,(hL k).1 hkL⟩
      subst e
      have:=List.nodup_append.1 hnd
      simp only[aed]at this
      rcases adL.1 hk with hk|hk
      ·exact this.2.2 k hk k (by simp) rfl
      ·exact this.2.1.1 hk
     ·rintro⟨hk,hkl⟩
      have:=(hL k).2 hkl
      simp only[adL,acI]at this ⊢
      rcases this with h|h|h
      ·exact .inl h
      ·exact absurd h hk
      ·exact .inr h
    ·refine List.Pairwise.sublist ?_ hs
     exact List.Sublist.append_left (List.sublist_cons_self _ _) _
    ·rw[hset]
     rcases (hset k).1 hkl with rfl|hkl
     ·rw[ho]at hk;cases hk;exact .inr (hdirect d hd)
     ·exact .inr (hdown k ok hk hkl d hd)
    ·rcases adL.1 hd with hd|hd
     ·exact⟨i,o,ho,by simpa using hd,(hset i).2 (.inl rfl)⟩
     ·obtain⟨k,ok,hk,hkd,hkl⟩:=hdone d hd
      exact⟨k,ok,hk,hkd,(hset k).2 (.inr hkl)⟩
end
def Ao (T:Nat->Option Ty) (Γ:Env) (N e:Nat) (ops:Array Oper):List Oper->(Nat->D)->(Nat->Option Row)->Option ((Nat->D)×(Nat->Option Row)×List jE)
 | [],t,h=>some (t,h,[])
 | o::l,t,h =>
  match tY T Γ N e ops o t h with
  | some (t1,h1,f) =>
   match Ao T Γ N e ops l t1 h1 with
   | some (t2,h2,fs)=>some (t2,h2,f::fs)
   | none=>none
  | none=>none
def Im:List Nat->Bool
 | []=>true
 | x::l => !l.contains x&&Im l
def UU (ops:Array Oper):Bool:=Im (ops.toList.filterMap (·.dst))
def Qm (ops:Array Oper) (j i:Nat):Bool :=
 match ops[j]?,ops[i]? with
 | some oj,some oi=>oj.apart ops oi
 | _,_=>true
def Od (ops:Array Oper):Bool :=
 (ops.toList.zipIdx.all fun p=>(direct p.1).all fun d=>decide (d<p.2)) &&
 ((List.range ops.size).all fun i=>(List.range i).all fun j=>((QM ops).getD i 0).testBit j||Qm ops j i)
def Gs (ops:Array Oper):List (Nat×Nat):=(List.range ops.size).flatMap fun i=>((List.range i).filter fun j => !((QM ops).getD i 0).testBit j).map fun j=>(j,i)
def VS (fs:List jE) (p:Nat×Nat):Bool :=
 match fs[p.1]?,fs[p.2]? with
 | some f,some g=>f.q&&g.q||Xj f.tc g.tc
 | _,_=>false
def BL (ops:Array Oper) (fs:List jE):Bool:=(Gs ops).all (VS fs)
inductive Ex where
 | normal
 | exit (n:Nat)
 | ret
structure St where
 t:Nat->D
 h:Nat->Option Row
 e:Nat
def iter (f:St->Option (Ex×St)):Nat->St->Option (Ex×St)
 | 0,_=>none
 | n+1,s =>
  match f s with
  | some (.normal,s1)=>iter f n s1
  | r=>r
def vg (T:Nat->Option Ty) (Γ:Env) (N:Nat) (ops:Array Oper) (draw:Bool) (s:St):Option (Ex×St) :=
 match Ao T Γ N s.e ops ops.toList s.t s.h with
 | some (t,h,fs)=>if !draw||BL ops fs then some (.normal,⟨t,h,s.e+1⟩) else none
 | none=>none
def NC (d:D) (x y:Option (Ex×St)):Option (Ex×St) :=
 match d with
 | .bool b=>if b then x else y
 | _=>none
def abh (r:Option (Ex×St)) (k:St->Option (Ex×St)):Option (Ex×St) :=
 match r with
 | some (.normal,s)=>k s
 | r=>r
def PW (id:Nat) (r:Option (Ex×St)):Option (Ex×St) :=
 match r with
 | some (.exit n,s)=>if n=id then some (.normal,s) else some (.exit n,s)
 | r=>r
def fO (T:Nat->Option Ty) (Γ:Env) (N F:Nat):Code->St->Option (Ex×St)
 | .skip,s=>some (.normal,s)
 | .region _ ops draw,s=>vg T Γ N ops draw s
 | .seq a b,s=>abh (fO T Γ N F a s) (fO T Γ N F b)
 | .cond c x y,s=>NC (ev s.t c) (fO T Γ N F x s) (fO T Γ N F y s)
 | .block id b,s=>PW id (fO T Γ N F b s)
 | .loop b,s=>iter (fO T Γ N F b) F s
 | .exit id,s=>some (.exit id,s)
 | .ret,s=>some (.ret,s)
 | _,_=>none
def codeOk:Code->Bool
 | .region _ ops draw=>UU ops&&(!draw||Od ops)
 | .seq a b=>codeOk a&&codeOk b
 | .cond _ x y=>codeOk x&&codeOk y
 | .block _ b=>codeOk b
 | .loop b=>codeOk b
 | _=>true
section
variable {P:Program} {T:Nat->Option Ty} {N:Nat} {M:Nat->Prop} {L:jF} {w0:World} {blk:Nat->Option (Nat×Nat)} {t:Nat->D} {h:Nat->Option Row} {a:Act} {w:World} {e:Nat} {o:Oper} {Γ:Env} {ops:Array Oper}
theorem Gl:∀ {l:List Nat},Im l=true->l.Nodup
 | [],_=>List.nodup_nil
 | x::l,h=>by
  simp only[Im,ade,adf,List.contains_eq_mem,decide_eq_false_iff_not]at h
  exact aed.2 ⟨h.1,Gl h.2⟩
theorem DQ:∀ {l:List Oper} {done:List Nat},(l.filterMap (·.dst)).Nodup->(∀o∈l,∀d,o.dst=some d->d∉done)->∀o l',l=o::l'->(l'.filterMap (·.dst)).Nodup∧∀o'∈l',∀d,o'.dst=some d->d∉o.dst.toList++done:=by
 intro l done hn hd o l' he
 subst he
 cases ho:o.dst with
 | none =>
  rw[List.filterMap_cons_none ho]at hn
  exact⟨hn,fun o' ho' d hd'=>by simpa using hd o' (by simp[ho']) d hd'⟩
 | some x =>
  rw[List.filterMap_cons_some ho]at hn
  obtain⟨h1,h2⟩:=aed.1 hn
  refine⟨h2,fun o' ho' d hd' hm =>?_⟩
  simp only[Option.toList_some,List.singleton_append,acI]at hm
  rcases hm with rfl|hm
  ·exact h1 (List.mem_filterMap.2 ⟨o',ho',hd'⟩)
  ·exact hd o' (by simp[ho']) d hd' hm
theorem DH (hT:jf P T) (hΓ:bC P Γ) {Q:Exit->Act->World->Prop} : ∀ {l:List Oper} {t t':Nat->D} {h h':Nat->Option Row} {fs:List jE} {a:Act} {w:World} {blk:Nat->Option (Nat×Nat)} {done:List Nat},
  Ao T Γ N e ops l t h=some (t',h',fs)->(l.filterMap (·.dst)).Nodup->(∀o∈l,∀d,o.dst=some d->d∉done)->DK N M L w0 blk e done t h a w ->
  (∀a' w' blk' done,DK N M L w0 blk' e done t' h' a' w'->Q .normal a' w')->wpList P ops Q l a w
 | [],t,t',h,h',fs,a,w,blk,done,hr,_,_,hI,hQ=>by
  simp only[Ao,acK,Prod.mk.injEq]at hr
  obtain⟨rfl,rfl,_⟩:=hr
  exact hQ a w blk done hI
 | o::l,t,t',h,h',fs,a,w,blk,done,hr,hn,hd,hI,hQ=>by
  simp only[Ao]at hr
  split at hr
  ·rename_i t1 h1 f hs
   split at hr
   ·rename_i t2 h2 fs2 hr2
    simp only[acK,Prod.mk.injEq]at hr
    obtain⟨rfl,rfl,_⟩:=hr
    obtain⟨hn',hd'⟩:=DQ hn hd o l rfl
    have:=R5 (K:=wpList P ops Q l) (Q:=Q) hT hΓ hI hs (hd o (by simp)) (fun a' w' blk' hI'=>DH hT hΓ hr2 hn' hd' hI' hQ)
    unfold wpList
    exact this
   ·cases hr
  ·cases hr
theorem xI {F:Nat->jE} : ∀ {l:List Oper} {k:Nat} {t t':Nat->D} {h h':Nat->Option Row} {fs:List jE},Ao T Γ N e ops l t h=some (t',h',fs)->(∀j,l[j]? = ops[k+j]?)->(∀j f,fs[j]? = some f->F (k+j)=f) ->
  fs.length=l.length∧NT T Γ N e ops F (List.range' k l.length) t h t' h'
 | [],k,t,t',h,h',fs,hr,_,_=>by
  simp only[Ao,acK,Prod.mk.injEq]at hr
  obtain⟨rfl,rfl,rfl⟩:=hr
  exact⟨rfl,rfl,rfl⟩
 | o::l,k,t,t',h,h',fs,hr,hl,hF=>by
  simp only[Ao]at hr
  split at hr
  ·rename_i t1 h1 f hs
   split at hr
   ·rename_i t2 h2 fs2 hr2
    simp only[acK,Prod.mk.injEq]at hr
    obtain⟨rfl,rfl,rfl⟩:=hr
    obtain⟨i1,i2⟩:=xI (k:=k+1) hr2 (fun j=>by have:=hl (j+1);simpa [acW,Nat.add_comm 1 j] using this) (fun j f' hj=>by have:=hF (j+1) f' (by simpa using hj);rwa [show k+(j+1)=k+1+j by omega]at this)
    refine⟨by simp[i1],o,t1,h1,by have:=hl 0;simpa using this.symm,?_,i2⟩
    have:=hF 0 f rfl
    rw[ada]at this
    rw[this]
    exact hs
   ·cases hr
  ·cases hr
def Holds (N:Nat) (M:Nat->Prop) (L:jF) (w0:World) (s:St) (a:Act) (w:World):Prop:=∃blk,DK N M L w0 blk s.e [] s.t s.h a w
theorem Ei (hT:jf P T) (hΓ:bC P Γ) (hm:P.follows .mixedOrders=true) {id:Nat} {draw:Bool} {s:St} {x:Ex} {s':St} {Q:Exit->Act->World->Prop} (hr:vg T Γ N ops draw s=some (x,s')) (hok:(UU ops&&(!draw||Od ops))=true)
  (hH:Holds N M L w0 s a w) (hQ:∀a' w',Holds N M L w0 s' a' w'->Q .normal a' w'):x=.normal∧(Code.region id ops draw).wp P Q a w:=by
 unfold vg at hr
 split at hr
 ·rename_i t h fs hrun
  split at hr
  ·rename_i hdyn
   simp only[acK,Prod.mk.injEq]at hr
   obtain⟨rfl,rfl⟩:=hr
   refine⟨rfl,?_⟩
   simp only[ade]at hok
   have hnd:(ops.toList.filterMap (·.dst)).Nodup:=Gl hok.1
   obtain⟨blk,hI⟩:=hH
   have hfin:∀a' w' blk' done,DK N M L w0 blk' s.e done t h a' w'->Q .normal a' w':=by
    intro a' w' blk' done hI'
    refine hQ a' w' ⟨blk',hI'.inv.weaken fun x v hx =>?_,fun x r ty s nv cs k1 k2 k3 k4 =>?_⟩
    ·rcases hx with⟨hn,hx|⟨hx,_⟩⟩|⟨hn,h2,h3,h4⟩
     ·exact .inl ⟨hn,.inl (by simp only;omega)⟩
     ·exact .inl ⟨hn,.inl (by simp only;omega)⟩
     ·exact .inr ⟨hn,by simp only;omega,fun _=>by simp only;omega,h4⟩
    ·have:=hI'.nv x r ty s nv cs k1 k2 k3 k4
     exact⟨by simp only;omega,fun _=>by simp only;omega⟩
   cases draw with
   | false =>
    refine wp_region_list ?_
    exact DH hT hΓ hrun hnd (done:=[]) (fun o _ d _=>by simp) hI hfin
   | true =>
    simp only[adY,Bool.false_or]at hdyn hok
    refine wp_region_any hm ?_
    have hdr:=hok.2
    simp only[Od,ade]at hdr
    let F:Nat->jE:=fun i=>fs.getD i ⟨[],true⟩
    obtain⟨hlen,hRun⟩:=xI (F:=F) (k:=0) hrun (fun j=>by simp) (fun j f hj=>by simp[F,List.getD,hj])
    have hedge:∀i o,ops[i]? = some o->∀d∈direct o,d<i:=by
     intro i o ho d hd
     have h1:=hdr.1
     rw[acM]at h1
     have hmem:(o,i)∈ops.toList.zipIdx:=by
      rw[List.mem_zipIdx_iff_getElem?]
      simpa using ho
     have:=h1 _ hmem
     rw[acM]at this
     simpa using this d hd
    have hdst:∀(i j:Nat) (oi oj:Oper) (d:Nat),ops[i]? = some oi->ops[j]? = some oj->oi.dst=some d->oj.dst=some d->i=j:=by
     have key:∀(l:List Oper),(l.filterMap (·.dst)).Nodup->∀(i j:Nat) (oi oj:Oper) (d:Nat),l[i]? = some oi->l[j]? = some oj->oi.dst=some d->oj.dst=some d->i=j:=by
      intro l
      induction l with
      | nil=>intro _ i j oi oj d hi;simp at hi
      | cons o l ih =>
       intro hn i j oi oj d hi hj hdi hdj
       have hn':(l.filterMap (·.dst)).Nodup:=by
        cases ho:o.dst with
        | none=>rw[List.filterMap_cons_none ho]at hn;exact hn
        | some x=>rw[List.filterMap_cons_some ho]at hn;exact (aed.1 hn).2
       have hnot:∀(k:Nat) (ok:Oper),l[k]? = some ok->o.dst=some d->ok.dst=some d->False:=by
        intro k ok hk ho hkd
        rw[List.filterMap_cons_some ho]at hn
        exact (aed.1 hn).1 (List.mem_filterMap.2 ⟨ok,ac3 hk,hkd⟩)
       cases i with
       | zero =>
        simp only[List.getElem?_cons_zero,acK]at hi
        subst hi
        cases j with
        | zero=>rfl
        | succ j=>exact (hnot j oj (by simpa using hj) hdi hdj).elim
       | succ i =>
        cases j with
        | zero =>
         simp only[List.getElem?_cons_zero,acK]at hj
         subst hj
         exact (hnot i oi (by simpa using hi) hdj hdi).elim
        | succ j=>rw[ih hn' i j oi oj d (by simpa using hi) (by simpa using hj) hdi hdj]
     intro i j oi oj d hi hj
     exact key ops.toList hnd i j oi oj d (by simpa using hi) (by simpa using hj)
    have hpairs:Qc ops F:=by
     intro j i hji hi
     by_cases hc:((QM ops).getD i 0).testBit j=true
     ·exact .inl (Uz hc)
     ·refine .inr ⟨fun oj oi hoj hoi =>?_,?_⟩
      ·have h2:=hdr.2
       rw[acM]at h2
       have:=h2 i (aee.2 hi)
       rw[acM]at this
       have:=this j (aee.2 hji)
       simp only[ad8]at this
       rcases this with h'|h'
       ·exact absurd h' hc
       ·simpa [Qm,hoj,hoi] using h'
      ·rw[BL,acM]at hdyn
       have hmem:(j,i)∈Gs ops:=by
        refine ad1.2 ⟨i,aee.2 hi,acA.2 ⟨j,aea.2 ⟨aee.2 hji,?_⟩,rfl⟩⟩
        simpa using hc
       have:=hdyn _ hmem
       have hi':i<fs.length:=by rw[hlen];simpa using hi
       have hj':j<fs.length:=by omega
       simp only[VS,acO hj',acO hi']at this
       simp only[F,adg,acO hj',acO hi',Option.getD_some]
       exact this
    rw[adj,<- List.range_eq_range']at hRun
    have hrep:∀i,(Array.replicate ops.size false).getD i false=false:=by
     intro i
     by_cases hi:i<ops.size
     ·simp[Array.getD,hi]
     ·simp[Array.getD,hi]
    have hrept:∀i,(Array.replicate ops.size false).getD i true=false↔i<ops.size:=by
     intro i
     by_cases hi:i<ops.size
     ·simp[Array.getD,hi]
     ·simp[Array.getD,hi]
    exact TJ hT hΓ hpairs hedge hdst hfin ops.size (List.range ops.size) (Array.replicate ops.size false) s.t s.h a _ blk [] (by simp) (fun i=>by rw[hrept];exact aee) List.pairwise_lt_range (fun i hi=>aee.1 hi) (by simp)
     (fun i o _ hl=>by rw[hrep]at hl;cases hl) (fun d hd=>by simp at hd) hRun ⟨hI.inv.drew,hI.nv⟩
  ·cases hr
 ·cases hr
def Ol:Ex->Exit
 | .normal =>.normal
 | .exit n =>.exit n
 | .ret =>.ret
theorem pL (hT:jf P T) (hΓ:bC P Γ) (hm:P.follows .mixedOrders=true) {F:Nat} : ∀(c:Code) (s:St) (x:Ex) (s':St) (Q:Exit->Act->World->Prop) (a:Act) (w:World),fO T Γ N F c s=some (x,s')->codeOk c=true->Holds N M L w0 s a w ->
  (∀a' w',Holds N M L w0 s' a' w'->Q (Ol x) a' w')->c.wp P Q a w:=by
 intro c
 induction c with
 | skip =>
  intro s x s' Q a w hr _ hH hQ
  simp only[fO,acK,Prod.mk.injEq]at hr
  obtain⟨rfl,rfl⟩:=hr
  exact wp_skip (hQ a w hH)
 | region id ops draw =>
  intro s x s' Q a w hr hok hH hQ
  simp only[fO]at hr
  have hx:x=.normal:=by
   unfold vg at hr
   split at hr
   ·split at hr
    ·simp only[acK,Prod.mk.injEq]at hr;exact hr.1.symm
    ·cases hr
   ·cases hr
  subst hx
  exact (Ei hT hΓ hm hr hok hH hQ).2
 | seq b c ihb ihc =>
  intro s x s' Q a w hr hok hH hQ
  simp only[codeOk,ade]at hok
  simp only[fO,abh]at hr
  refine wp_seq ?_
  split at hr
  ·rename_i s1 h1
   exact ihb s .normal s1 _ a w h1 hok.1 hH (fun a' w' hH'=>ihc s1 x s' Q a' w' hr hok.2 hH' hQ)
  ·rename_i r hne
   refine ihb s x s' _ a w hr hok.1 hH (fun a' w' hH' =>?_)
   cases x with
   | normal=>exact absurd hr (fun h=>hne s' h)
   | exit n=>exact hQ a' w' hH'
   | ret=>exact hQ a' w' hH'
 | cond c b d ihb ihd =>
  intro s x s' Q a w hr hok hH hQ
  simp only[codeOk,ade]at hok
  simp only[fO]at hr
  unfold NC at hr
  split at hr
  ·rename_i bb hb
   obtain⟨blk,hI⟩:=hH
   have hv:=hI.inv.ev c
   rw[hb]at hv
   refine wp_cond (t:=bb) (uo hv) ?_
   cases bb with
   | true=>exact ihb s x s' Q a w hr hok.1 ⟨blk,hI⟩ hQ
   | false=>exact ihd s x s' Q a w hr hok.2 ⟨blk,hI⟩ hQ
  ·cases hr
 | block id b ih =>
  intro s x s' Q a w hr hok hH hQ
  simp only[fO]at hr
  refine wp_block ?_
  unfold PW at hr
  split at hr
  ·rename_i n s1 h1
   refine ih s (.exit n) s1 _ a w h1 hok hH (fun a' w' hH' =>?_)
   split at hr
   ·rename_i hn
    simp only[acK,Prod.mk.injEq]at hr
    obtain⟨rfl,rfl⟩:=hr
    simp only[Ol,Exit.inBlock,hn,if_true]
    exact hQ a' w' hH'
   ·rename_i hn
    simp only[acK,Prod.mk.injEq]at hr
    obtain⟨rfl,rfl⟩:=hr
    simp only[Ol,Exit.inBlock,hn,if_false]
    exact hQ a' w' hH'
  ·rename_i r hne
   refine ih s x s' _ a w hr hok hH (fun a' w' hH' =>?_)
   cases x with
   | normal=>exact hQ a' w' hH'
   | exit n=>exact absurd hr (fun h=>hne n s' h)
   | ret=>exact hQ a' w' hH'
 | loop b ih =>
  intro s x s' Q a w hr hok hH hQ
  simp only[fO]at hr
  refine wp_loop_ghost (fun n a w=>∃s,Holds N M L w0 s a w∧iter (fO T Γ N F b) n s=some (x,s')) F ⟨s,hH,hr⟩ ?_
  intro n a w ⟨s1,hH1,h1⟩
  cases n with
  | zero=>simp[iter]at h1
  | succ n =>
   simp only[iter]at h1
   split at h1
   ·rename_i s2 h2
    exact ih s1 .normal s2 _ a w h2 hok hH1 (fun a' w' hH'=>⟨n,by omega,s2,hH',h1⟩)
   ·rename_i r hne
    refine ih s1 x s' _ a w h1 hok hH1 (fun a' w' hH' =>?_)
    cases x with
    | normal=>exact absurd h1 (fun h=>hne s' h)
    | exit n=>exact hQ a' w' hH'
    | ret=>exact hQ a' w' hH'
 | exit id =>
  intro s x s' Q a w hr _ hH hQ
  simp only[fO,acK,Prod.mk.injEq]at hr
  obtain⟨rfl,rfl⟩:=hr
  exact wp_exit (hQ a w hH)
 | ret =>
  intro s x s' Q a w hr _ hH hQ
  simp only[fO,acK,Prod.mk.injEq]at hr
  obtain⟨rfl,rfl⟩:=hr
  exact wp_ret (hQ a w hH)
 | _=>intro s x s' Q a w hr;simp[fO]at hr
end
def MS (T:Nat->Option Ty) (s:St):ResultVar->Option (D×List Nat)
 | .tmp i=>bn s.h (s.t i)
 | .cell i ty =>
  match T ty,s.t i with
  | some τ,.ptr x v o=>match df τ s.h (.ptr x v o) with|some E=>some (e9 E.val,[])|none=>none
  | _,_=>none
def tR (T:Nat->Option Ty) (s:St):List ResultVar->Option (List D×List Nat)
 | []=>some ([],[])
 | r::rs =>
  match MS T s r with
  | some (d,fr)=>match tR T s rs with
   | some (ds,fr')=>some (d::ds,fr++fr')
   | none=>none
  | none=>none
def l9:List D->D
 | [d]=>d
 | ds =>.tup ds
inductive Mode where
 | clean|same|tight
 | fresh (ty s:Nat)
def bT:Option (D×Row)->List D->St
 | none,args=>⟨fun i=>args.getD i .und,fun _=>none,0⟩
 | some (d0,r),args=>⟨fun i=>(d0::args).getD i .und,fun x=>if x=0 then some { r with v:=0 } else none,1⟩
def lj:Option (D×Row)->St->Option (Option Row)
 | none,_=>some none
 | some (_,r),s =>
  match s.h 0 with
  | some r1=>if r1.v=0∧r1.fz=false∧r1.ty=r.ty∧r1.mp=false then some (some r1) else none
  | none=>none
def XK:Option (D×Row)->List Nat->Bool
 | none,_=>true
 | some _,fr => !fr.contains 0
def tn (T:Nat->Option Ty) (lent:Option (D×Row)) (rs:List ResultVar) (s:St):Option (RK×Option Row) :=
 match tR T s rs,lj lent s with
 | some (ds,fr),some o=>if XK lent fr then some (.clean (l9 ds),o) else none
 | _,_=>none
def Ax (lent:Option (D×Row)) (rs:List ResultVar) (s:St):Option (RK×Option Row) :=
 match rs with
 | [.tmp i] =>
  match s.t i,lj lent s with
  | .buf 0 0 sz o n,some (some r)=>some (.same sz o n,some r)
  | _,_=>none
 | _=>none
def uA:D->Option (RK×Option Row)
 | .sl nl tg n xs=>some (.clean (.sl nl tg n xs),none)
 | _=>none
def B2 (lent:Option (D×Row)) (rs:List ResultVar) (s:St):Option (RK×Option Row) :=
 match lent,rs with
 | none,[.tmp i]=>uA (s.t i)
 | _,_=>none
def uz (ty s o n:Nat):Option Row->Option (RK×Option Row)
 | some r=>if r.fz=false∧r.ty=ty∧o+n*s<=r.cells.length then some (.fresh ty s n ((r.cells.drop o).take (n*s)),none) else none
 | none=>none
def lX (ty s:Nat) (h:Nat->Option Row):D->Option (RK×Option Row)
 | .buf x v sz o n=>if sz=s then uz ty s o n (live h x v) else none
 | .sl _ tg 0 _=>if tg=true then some (.fresh ty s 0 [],none) else none
 | _=>none
def p7 (ty s:Nat) (rs:List ResultVar) (st:St):Option (RK×Option Row) :=
 match rs with
 | [.tmp i]=>lX ty s st.h (st.t i)
 | _=>none
def jl (mode:Mode) (T:Nat->Option Ty) (lent:Option (D×Row)) (rs:List ResultVar) (s:St):Option (RK×Option Row) :=
 match mode with
 | .clean=>tn T lent rs s
 | .same=>Ax lent rs s
 | .tight=>B2 lent rs s
 | .fresh ty sz=>p7 ty sz rs s
def a7 (mode:Mode) (T:Nat->Option Ty) (Γ:Env) (F:Nat) (fn:Func) (lent:Option (D×Row)) (args:List D):Option (RK×Option Row) :=
 match fn.body with
 | some c =>
  if fn.ntmps<=PK then
   match fO T Γ fn.ntmps F c (bT lent args) with
   | some (.exit _,_)=>none
   | some (_,s)=>jl mode T lent fn.results.toList ⟨s.t,EH s.h,s.e⟩
   | none=>none
  else none
 | none=>none
def Ip:Option (D×Row)->Bool
 | none=>true
 | some (.buf 0 0 _ _ _,_)=>true
 | some (.ptr 0 0 _,_)=>true
 | _=>false
def Ga:Option (D×Row)->List D->Nat
 | none,acw=>acw.length
 | some _,acw=>acw.length+1
section
variable {P:Program} {T:Nat->Option Ty} {N:Nat} {M:Nat->Prop} {L:jF} {w0:World} {blk:Nat->Option (Nat×Nat)} {a:Act} {w:World} {Γ:Env}
theorem Inv.YC {V:Nat->Nat->Prop} {t:Nat->D} {h:Nat->Option Row} (hI:Inv N M L w0 blk V t h a w) (fr:List Nat):nh M h blk fr M where
 le b hb := .inl hb
 no x hx r g hr hg hb:=hI.notM hr hg hb
def yJ (tm:Array Value):ResultVar->Sem Value
 | .tmp t=>pure (tm.getD t undef)
 | .cell b t=>do loadVar t (<- asAddr (tm.getD b undef))
theorem De (fn:Func) (tm:Array Value):results fn tm=(do
  let vs <- fn.results.mapM (yJ tm)
  pure (if h:vs.size=1 then vs[0] else .tuple vs)):=by
 unfold results
 congr 1
theorem Tw (hT:jf P T) {M':Nat->Prop} {ty:Nat} {τ:Ty} {g c:Nat} {xs:List D} {d:D} (hτ:T ty=some τ) (hat:At w M' g c xs) (hl:xs.length=τ.size) (hd:ln τ xs=some d) :
  ∃u,(loadVar ty ⟨g,c,none⟩).run P w=.ok u w∧RP w M' d u:=by
 obtain⟨us,h1,h2,h3,h4⟩:=hat.yR
 have hone:τ.ds.oB=false->xs.length=1∧xs=[d]:=by
  intro hf
  simp only[ln,hf,adb,if_false]at hd
  split at hd
  ·simp only[acK]at hd;subst hd;exact⟨rfl,rfl⟩
  ·cases hd
 have hrun:=jy (hT ty τ hτ) w g c us (by rw[h1,hl]) h2 (fun hf=>by rw[h1];exact (hone hf).1)
 refine⟨_,hrun,?_⟩
 cases ha:τ.ds.oB with
 | true =>
  simp only[ln,ha,if_true,acK]at hd
  subst hd
  exact .agg xs us h1 h3 h4
 | false =>
  obtain⟨_,rfl⟩:=hone ha
  exact h3 0 d rfl
theorem V0 (hT:jf P T) {M':Nat->Prop} {V:Nat->Nat->Prop} {s:St} (hI:Inv N M L w0 blk V s.t s.h a w) {r:ResultVar} {d:D} {fr:List Nat} (h1:MS T s r=some (d,fr)) (hl:nh M s.h blk fr M'):∃u,(yJ a.tmps r).run P w=.ok u w∧RP w M' d u:=by
 cases r with
 | tmp i =>
  simp only[MS]at h1
  exact⟨a.tmps.getD i undef,rfl,hI.bn h1 hl (hI.slots i)⟩
 | cell i ty =>
  simp only[MS]at h1
  split at h1
  ·rename_i τ x v o hτ hp
   split at h1
   ·rename_i E hE
    simp only[acK,Prod.mk.injEq]at h1
    obtain⟨rfl,_⟩:=h1
    have hsl:=hI.slots i
    rw[hp]at hsl
    simp only[df]at hE
    split at hE
    ·rename_i rr hlv
     obtain⟨hx,hv⟩:=bQ hlv
     split at hE
     ·rename_i hle
      split at hE
      ·rename_i d' hd'
       simp only[acK]at hE
       subst hE
       obtain⟨g,hg,hpv⟩:=hsl.2 rr hx hv
       have hat:=((hI.rowAt hx hg (fK hlv)).drop o).take τ.size
       obtain⟨u,hu1,hu2⟩:=Tw hT hτ hat (by simp;omega) hd'
       refine⟨u,?_,(hu2.less fun b hb=>hl.le b hb).e9⟩
       simp only[yJ,hpv,asAddr,ac8,Sem.run_pure,Result.andThen_ok,hu1]
      ·cases hE
     ·cases hE
    ·cases hE
   ·cases h1
  ·cases h1
theorem M8 (hT:jf P T) {M':Nat->Prop} {V:Nat->Nat->Prop} {s:St} (hI:Inv N M L w0 blk V s.t s.h a w):∀(rs:List ResultVar) (ds:List D) (fr:List Nat),tR T s rs=some (ds,fr)->nh M s.h blk fr M' ->
  ∃us:List Value,(rs.mapM (yJ a.tmps)).run P w=.ok us w∧us.length=ds.length∧∀j d,ds[j]? = some d->RP w M' d (us.getD j undef)
 | [],ds,fr,h,_=>by
  simp only[tR,acK,Prod.mk.injEq]at h
  obtain⟨rfl,_⟩:=h
  exact⟨[],by simp,rfl,fun j d hj=>by simp at hj⟩
 | r::rs,ds,fr,h,hl=>by
  simp only[tR]at h
  split at h
  ·rename_i d fr1 h1
   split at h
   ·rename_i ds2 fr2 h2
    simp only[acK,Prod.mk.injEq]at h
    obtain⟨rfl,rfl⟩:=h
    obtain⟨us,i1,i2,i3⟩:=M8 hT hI rs ds2 fr2 h2 hl.right
    obtain⟨u,hu1,hu2⟩:=V0 (P:=P) hT hI h1 hl.left
    refine⟨u::us,?_,by simp[i2],fun j d hj =>?_⟩
    ·simp only[List.mapM_cons,ac8,hu1,Result.andThen_ok,i1,Sem.run_pure]
    ·cases j with
     | zero=>simp only[List.getElem?_cons_zero,acK]at hj;subst hj;simpa using hu2
     | succ j=>simpa using i3 j d (by simpa using hj)
   ·cases h
  ·cases h
theorem tU (hT:jf P T) {M':Nat->Prop} {V:Nat->Nat->Prop} {s:St} (hI:Inv N M L w0 blk V s.t s.h a w) {fn:Func} {ds:List D} {fr:List Nat} (h:tR T s fn.results.toList=some (ds,fr)) (hl:nh M s.h blk fr M') :
  ∃v,(results fn a.tmps).run P w=.ok v w∧RP w M' (l9 ds) v:=by
 obtain⟨us,i1,i2,i3⟩:=M8 (P:=P) hT hI _ ds fr h hl
 have hm:(fn.results.mapM (yJ a.tmps)).run P w=.ok us.toArray w:=by
  rw[adu,Sem.run_map,i1]
  rfl
 rw[De]
 simp only[ac8,hm,Result.andThen_ok,Sem.run_pure]
 refine⟨_,rfl,?_⟩
 match us,ds,i2,i3 with
 | [u],[d],_,i3=>simpa [l9] using i3 0 d rfl
 | [],[],_,_=>exact .tup [] [] rfl (fun j x hj=>by simp at hj)
 | u1::u2::us,d1::d2::ds,i2,i3 =>
  have:¬(u1::u2::us).toArray.size=1:=by simp
  rw[dif_neg this]
  exact .tup _ _ (by simpa using i2) i3
theorem kJ {fn:Func} {tm:Array Value} {i:Nat} (h:fn.results.toList=[.tmp i]):(results fn tm).run P w=.ok (tm.getD i undef) w:=by
 have he:fn.results = #[.tmp i]:=by rw[<- h]
 rw[De,he]
 simp[yJ]
theorem Inv.p7 {V:Nat->Nat->Prop} {s:St} {ty0 s0:Nat} (hI:Inv N M L w0 blk V s.t s.h a w) {fn:Func} {rk:RK} {out:Option Row} (he:Am.p7 ty0 s0 fn.results.toList s=some (rk,out)) :
  out=none∧∃v ty sz n cells,rk=.fresh ty sz n cells∧(results fn a.tmps).run P w=.ok v w∧AL w0 w M (LB L) v rk:=by
 unfold Am.p7 at he
 split at he
 ·rename_i i hrs
  have hsl:=hI.slots i
  unfold lX at he
  split at he
  ·rename_i x v sz o n ht
   rw[ht]at hsl
   split at he
   ·rename_i hsz
    subst hsz
    unfold uz at he
    split at he
    ·rename_i r hlv
     split at he
     ·rename_i hcond
      obtain⟨hz,hty,hle⟩:=hcond
      simp only[acK,Prod.mk.injEq]at he
      obtain⟨rfl,rfl⟩:=he
      refine⟨rfl,a.tmps.getD i undef,_,_,_,_,rfl,kJ hrs,?_⟩
      obtain⟨hx,hv⟩:=bQ hlv
      have hol:((r.cells.drop o).take (n*sz)).length=n*sz:=by simp;omega
      rcases hI.wY hlv hsl with⟨g,o',c,cs,g0,g1,g2,g3,g4,g5,g7,g8⟩|⟨g0,rfl,g2,A,g3⟩
      ·by_cases hc:0<c∨o=0
       ·obtain⟨k1,k2⟩:=g5 hc
        subst k1
        refine .inl ⟨(g.1,g.2+o),c,cs,g1,(show w0.heap.size<=g.1∨LB L g.1 from hI.base hx g0),by rw[<- hty];exact g4,g2,g3,k2,by rw[hol];simp only;omega,fun j d hj =>?_⟩
        rw[cc]at hj
        split at hj
        ·rw[acW]
         refine⟨(g8 _ _ hj).1,(g8 _ _ hj).2.less fun b hb =>?_⟩
         rcases hb with hb|rfl
         ·exact .inl hb
         ·exact .inr ⟨x,r,g,hx,hz,g0,rfl⟩
        ·cases hj
       ·have hn:n=0:=by omega
        have hc0:c=0:=by omega
        subst hn hc0
        exact .inr ⟨rfl,by simp,_,g1⟩
      ·exact .inr ⟨rfl,by simp,A,g3⟩
     ·cases he
    ·cases he
   ·cases he
  ·rename_i nl tg xs ht
   rw[ht]at hsl
   split at he
   ·rename_i hnt
    simp only[acK,Prod.mk.injEq]at he
    obtain⟨rfl,rfl⟩:=he
    refine⟨rfl,a.tmps.getD i undef,_,_,_,_,rfl,kJ hrs,.inr ⟨rfl,rfl,?_⟩⟩
    have hr:RP w (Own M s.h blk) (.sl nl tg 0 xs) (a.tmps.getD i undef):=hsl
    generalize a.tmps.getD i undef=u at *
    cases hr with
    | sl A c nl tight n xs us h1 h2 h3 h4 h5 h6 h7 h8 =>
     have hc:c=0:=by
      exact h5 hnt
     subst hc
     exact⟨A,rfl⟩
   ·cases he
  ·cases he
 ·cases he
theorem xJ {args:List D} {vs:Array Value} {n i:Nat} (hs:vs.size=args.length):(vs++Array.replicate (n-vs.size) undef).getD i undef=vs.getD i undef∨args.getD i .und=.und:=by
 by_cases hi:i<args.length
 ·left
  have:i<vs.size:=by omega
  simp[acG,aef this]
 ·right
  simp[List.getD,ad9 (aeg hi)]
theorem AI {h:Nat->Option Row} (hp:∀k r,h k=some r->k<2*PK∧r.mp=false):EH h=h:=by
 funext k
 by_cases hk:k<2*PK
 ·rw[sN hk]
  cases hh:h k with
  | none=>rfl
  | some r =>
   simp only[Option.map_some,AG,(hp k r hh).2]
   rfl
 ·have h1:h k=none:=by
   cases hh:h k with
   | none=>rfl
   | some r=>exact absurd (hp k r hh).1 hk
  rw[h1]
  unfold EH
  rw[if_neg hk]
  cases hh:h (k % PK) with
  | none=>rfl
  | some r =>
   simp only[Option.bind_some,qf,(hp _ r hh).2]
   rfl
theorem kM (hT:jf P T) (hΓ:bC P Γ) (hm:P.follows .mixedOrders=true) {mode:Mode} {f:FuncId} {fn:Func} {F:Nat} {lent:Option (D×Row)} {args:List D} {rk:RK} {out:Option Row} (hf:P.funcs[f]? = some fn)
  (hok:(match fn.body with|some c=>codeOk c|none=>true)=true) (hn:Ga lent args<=fn.ntmps) (hlo:Ip lent=true)
  (hr:a7 mode T Γ F fn lent args=some (rk,out)):nV P f lent args rk out:=by
 unfold a7 at hr
 split at hr<;>try (cases hr;done)
 rename_i c hc
 rw[hc]at hok
 simp only at hok
 split at hr<;>try (cases hr;done)
 rename_i hbig
 split at hr<;>try (cases hr;done)
 rename_i x s hne hv
 cases lent with
 | none =>
  intro w M vs hM hargs
  have hI:Inv fn.ntmps M none w (fun _=>none) (fun x v=>x<fn.ntmps∧v<0) (bT none args).t (bT none args).h { tmps:=vs++Array.replicate (fn.ntmps-vs.size) undef,defers:=[] } w:={
   tab:=fun b hb=>(hargs.tab b hb).less fun b hb=>by
    rcases hb with hb|⟨x,r,g,hx,_⟩
    ·exact hb
    ·cases hx
   below:=di.refl _ _
   mlt:=hM
   lent:=fun b hb=>absurd hb qG
   pin:=fun go hg=>by cases hg
   defers:=rfl
   tsz:=by have:=hargs.1;simp only[Ga]at hn;simp;omega
   slots:=fun i=>by
    simp only[bT]
    rcases xJ (n:=fn.ntmps) (i:=i) hargs.1 with he|he
    ·rw[he]
     by_cases hi:i<args.length
     ·have h1:=hargs.2 i _ (acO hi)
      have e1:args.getD i .und=args[i]:=by simp[List.getD,hi]
      rw[e1]
      exact bA (h1.less fun b hb=>by
       rcases hb with hb|⟨x,r,g,hx,_⟩
       ·exact hb
       ·cases hx)
     ·have e1:args.getD i .und=.und:=by simp[List.getD,ad9 (aeg hi)]
      rw[e1]
      trivial
    ·rw[he];trivial
   rows:=fun x r hx=>by cases hx
   inj:=fun x y r s g g' hx=>by cases hx
   big:=hbig
   pha:=fun y r g hy=>by cases hy
   ali:=fun y r g hy=>by cases hy }
  refine calls_of_wp hf hc ?_
  refine pL hT hΓ hm c (bT none args) x s _ _ _ hv hok ⟨_,⟨(by rw[AI (fun k r hk=>by cases hk)];exact hI.weaken fun x v hx=>absurd hx.2 (Nat.not_lt_zero _)),fun x r ty s nv cs hx=>by cases hx⟩⟩ (fun a' w' hH =>?_)
  obtain⟨blk',hIE⟩:=hH
  obtain⟨sE,hsE⟩:∃sE:St,sE=⟨s.t,EH s.h,s.e⟩:=⟨_,rfl⟩
  have hI':Inv fn.ntmps M none w blk' (VE fn.ntmps s.e [] s.h) sE.t sE.h a' w':=by rw[hsE];exact hIE.inv
  rw[<- hsE]at hr
  have hbel:Below w.heap.size w w':=hI'.below.below (fun b hb=>absurd hb qG)
  have hpost:a'.defers=[]∧∃v,(results fn a'.tmps).run P w'=.ok v w'∧(∃v',Ending.returned v=.returned v'∧Below w.heap.size w w'∧AL w w' M (fun _=>False) v' rk):=by
   refine⟨hI'.defers,?_⟩
   cases mode with
   | clean =>
    simp only[jl,tn,lj]at hr
    split at hr<;>try (cases hr;done)
    rename_i ds fr o hres ho
    split at hr<;>try (cases hr;done)
    simp only[acK,Prod.mk.injEq]at hr
    obtain⟨rfl,_⟩:=hr
    obtain⟨v,hv1,hv2⟩:=tU (P:=P) hT hI' hres (hI'.YC fr)
    exact⟨v,hv1,v,rfl,hbel,hv2⟩
   | same =>
    simp only[jl,Ax,lj]at hr
    split at hr<;>try (cases hr;done)
    split at hr
    ·rename_i hq;cases hq
    ·cases hr
   | tight =>
    simp only[jl,B2]at hr
    split at hr<;>try (cases hr;done)
    rename_i i _ hrs
    have hsl:=hI'.slots i
    generalize sE.t i=dd at *
    unfold uA at hr
    split at hr<;>try (cases hr;done)
    rename_i nl tg n xs
    simp only[acK,Prod.mk.injEq]at hr
    obtain⟨rfl,_⟩:=hr
    have hsl':RP w' (Own M sE.h blk') (.sl nl tg n xs) (a'.tmps.getD i undef):=hsl
    exact⟨a'.tmps.getD i undef,kJ hrs,_,rfl,hbel,hsl'.less fun b hb =>.inl hb⟩
   | fresh ty0 s0 =>
    obtain⟨rfl,v,ty,sz,n,cells,rfl,hv1,hv2⟩:=hI'.p7 (P:=P) hr
    refine⟨v,hv1,v,rfl,hbel,?_⟩
    rcases hv2 with⟨g,k1,cs,k2,k3,k4⟩|hv2
    ·exact .inl ⟨g,k1,cs,k2,k3.imp id (fun hb=>absurd hb qG),k4⟩
    ·exact .inr hv2
  cases x with
  | normal=>exact hpost
  | ret=>exact hpost
  | exit n=>exact (hne n rfl).elim
 | some p =>
  obtain⟨d0,r⟩:=p
  intro w M go u0 vs hM hgoM hz hmp hrow hlv hargs
  have hown:∀b,Own M (bT (some (d0,r)) args).h (fun x=>if x=0 then go else none) b↔(M b∨sF go b):=by
   intro b
   constructor
   ·rintro (hb|⟨x,r',g,hx,_,hg,he⟩)
    ·exact .inl hb
    ·simp only[bT]at hx
     split at hx
     ·rename_i h0
      subst h0
      simp only[if_true]at hg
      exact .inr ⟨g,hg,he.symm⟩
     ·cases hx
   ·rintro (hb|⟨g,hg,he⟩)
    ·exact .inl hb
    ·exact .inr ⟨0,{ r with v:=0 },g,rfl,hz,by simpa using hg,he.symm⟩
  have hI:Inv fn.ntmps M (H7 go) w (fun x=>if x=0 then go else none) (fun x v=>x<fn.ntmps∧v<1) (bT (some (d0,r)) args).t (bT (some (d0,r)) args).h { tmps:=(#[u0]++vs)++Array.replicate (fn.ntmps-(#[u0]++vs).size) undef,defers:=[] } w:={
   tab:=fun b hb=>(hargs.tab b hb).less fun b hb=>(hown b).1 hb
   below:=di.refl _ _
   mlt:=hM
   lent:=fun b hb=>hgoM b (Ht.1 hb)
   pin:=fun go' hg=>by
    cases hg
    exact⟨⟨by simp only[Ga]at hn;omega,aeh⟩,fun r' _ _=>⟨rfl,fun g _=>rfl⟩⟩
   defers:=rfl
   tsz:=by have:=hargs.1;simp only[Ga]at hn;simp;omega
   slots:=fun i=>by
    simp only[bT]
    rcases xJ (args:=d0::args) (vs:=#[u0]++vs) (n:=fn.ntmps) (i:=i) (by simp[hargs.1];omega) with he|he
    ·rw[he]
     cases i with
     | zero =>
      have e1:(#[u0]++vs).getD 0 undef=u0:=by simp[Array.getElem?_append]
      rw[e1]
      simp only[adN]
      cases d0 with
      | buf x v sz o n =>
       have hxv:x=0∧v=0:=by
        simp only[Ip]at hlo
        split at hlo<;>simp_all
       obtain⟨rfl,rfl⟩:=hxv
       exact⟨⟨by simp only[Ga]at hn;omega,aeh⟩,fun r' h1 h2=>by simpa using hlv.2 ⟨0,0,[],false,false,false⟩ rfl rfl⟩
      | ptr x v o =>
       have hxv:x=0∧v=0:=by
        simp only[Ip]at hlo
        split at hlo<;>simp_all
       obtain⟨rfl,rfl⟩:=hxv
       exact⟨⟨by simp only[Ga]at hn;omega,aeh⟩,fun r' h1 h2=>by simpa using hlv.2 ⟨0,0,[],false,false,false⟩ rfl rfl⟩
      | _=>simp[Ip]at hlo
     | succ i =>
      have e1:(#[u0]++vs).getD (i+1) undef=vs.getD i undef:=by
       simp only[acG]
       rw[Array.getElem?_append_right (by simp)]
       simp
      rw[e1]
      simp only[List.getD_cons_succ]
      by_cases hi:i<args.length
      ·have h1:=hargs.2 i _ (acO hi)
       have e1:args.getD i .und=args[i]:=by simp[List.getD,hi]
       rw[e1]
       exact bA (h1.less fun b hb=>(hown b).1 hb)
      ·have e1:args.getD i .und=.und:=by simp[List.getD,ad9 (aeg hi)]
       rw[e1]
       trivial
    ·rw[he];trivial
   rows:=fun x r' hx=>by
    simp only[bT]at hx
    split at hx
    ·rename_i h0
     subst h0
     simp only[acK]at hx
     subst hx
     refine⟨fun hn=>⟨hn,aeh⟩,?_⟩
     simp only[if_true]
     cases go with
     | none=>exact hrow
     | some g =>
      obtain⟨cs,k1,k2,k3⟩:=hrow
      refine⟨.inr (Ht.2 ⟨g,rfl,rfl⟩),?_⟩
      unfold dG
      simp only[hmp]
      exact⟨cs,k1,k2,fun j d hj=>⟨(k3 j d hj).1,(k3 j d hj).2.less fun b hb=>(hown b).1 hb⟩⟩
    ·cases hx
   inj:=fun x y r1 r2 g g' hx hy _ _ _=>by
    simp only[bT]at hx hy
    split at hx
    ·split at hy
     ·omega
     ·cases hy
    ·cases hx
   big:=hbig
   pha:=fun y r1 g hy hm=>by
    simp only[bT]at hy
    split at hy
    ·simp only[acK]at hy
     subst hy
     simp_all
    ·cases hy
   ali:=fun y r1 g hy hz1=>by
    simp only[bT]at hy
    split at hy
    ·simp only[acK]at hy
     subst hy
     simp_all
    ·cases hy }
  have hplain:EH (bT (some (d0,r)) args).h=(bT (some (d0,r)) args).h:=by
   refine AI fun k r' hk =>?_
   simp only[bT]at hk
   split at hk
   ·rename_i h0
    subst h0
    simp only[acK]at hk
    subst hk
    exact⟨(by have:=cP;omega),hmp⟩
   ·cases hk
  have hnv0:DL (bT (some (d0,r)) args).e [] (bT (some (d0,r)) args).h:=by
   intro x r' ty s nv cs hx hm'
   simp only[bT]at hx
   split at hx
   ·simp only[acK]at hx
    subst hx
    simp only[hmp]at hm'
    cases hm'
   ·cases hx
  refine calls_of_wp hf hc ?_
  refine pL hT hΓ hm c (bT (some (d0,r)) args) x s _ _ _ hv hok ⟨_,⟨(by rw[hplain];exact hI.weaken fun x v hx =>.inl ⟨hx.1,.inl hx.2⟩),hnv0⟩⟩ (fun a' w' hH =>?_)
  obtain⟨blk',hIE⟩:=hH
  obtain⟨sE,hsE⟩:∃sE:St,sE=⟨s.t,EH s.h,s.e⟩:=⟨_,rfl⟩
  have hI':Inv fn.ntmps M (H7 go) w blk' (VE fn.ntmps s.e [] s.h) sE.t sE.h a' w':=by rw[hsE];exact hIE.inv
  rw[<- hsE]at hr
  have hbel:di (sF go) w w':=⟨hI'.below.os,hI'.below.tape,hI'.below.output,hI'.below.size,fun k hk hn=>hI'.below.block k hk (fun hb=>hn (Ht.1 hb))⟩
  have hlast:∀r1,lj (some (d0,r)) sE=some (some r1)->sE.h 0=some r1∧r1.v=0∧r1.fz=false∧(r1.ty=r.ty∧r1.mp=false)∧blk' 0=go∧(∀g,go=some g->w'.shape? g.1=w.shape? g.1)∧(∀b,(M b∨sF go b)->Own M sE.h blk' b):=by
   intro r1 hl
   simp only[lj]at hl
   split at hl<;>try (cases hl;done)
   rename_i r2 h2
   split at hl<;>try (cases hl;done)
   rename_i hcond
   simp only[acK]at hl
   subst hl
   obtain⟨c1,c2,c3⟩:=hcond
   obtain⟨_,k2⟩:=hI'.pin _ rfl
   obtain⟨k3,k4⟩:=k2 r2 h2 c1
   refine⟨h2,c1,c2,c3,k3,k4,?_⟩
   rintro b (hb|⟨g,hg,he⟩)
   ·exact .inl hb
   ·exact .inr ⟨0,r2,g,h2,c2,k3.trans hg,he.symm⟩
  have hrowin:∀r1,lj (some (d0,r)) sE=some (some r1)->Qd w' (fun b=>M b∨sF go b) go r1:=by
   intro r1 hl
   obtain⟨h1,_,_,h4,h5,_,h7⟩:=hlast r1 hl
   have:=(hI'.rows 0 r1 h1).2
   rw[h5]at this
   cases go with
   | none=>exact this
   | some g =>
    have this:=this.2
    unfold dG at this
    rw[h4.2]at this
    obtain⟨cs,k1,k2,k3⟩:=this
    exact⟨cs,k1,k2,fun j d hj=>⟨(k3 j d hj).1,(k3 j d hj).2.less h7⟩⟩
  have hpost:a'.defers=[]∧∃v,(results fn a'.tmps).run P w'=.ok v w'∧(∃v',Ending.returned v=.returned v'∧di (sF go) w w'∧Yc w w' M go r out∧Ye w w' M go v' rk):=by
   refine⟨hI'.defers,?_⟩
   cases mode with
   | clean =>
    simp only[jl,tn]at hr
    split at hr<;>try (cases hr;done)
    rename_i ds fr o hres ho
    split at hr<;>try (cases hr;done)
    rename_i hfr
    simp only[XK,adf,List.contains_eq_mem,decide_eq_false_iff_not]at hfr
    simp only[acK,Prod.mk.injEq]at hr
    obtain⟨rfl,rfl⟩:=hr
    cases o with
    | none =>
     simp only[lj]at ho
     split at ho<;>try (cases ho;done)
     split at ho<;>cases ho
    | some r1 =>
     obtain⟨h1,h2,h3,h4,h5,h6,h7⟩:=hlast r1 ho
     have hless:nh M sE.h blk' fr (fun b=>M b∨sF go b):=by
      refine⟨h7,fun x hx r' g hx' hg hb =>?_⟩
      rcases hb with hb|⟨g',hg',he⟩
      ·exact hI'.notM hx' hg hb
      ·have:x=0:=hI'.inj x 0 r' r1 g g' hx' h1 hg (h5.trans hg') he
       subst this
       exact hfr hx
     obtain⟨v,hv1,hv2⟩:=tU (P:=P) hT hI' hres hless
     exact⟨v,hv1,v,rfl,hbel,⟨h4.1,h3,h4.2,h6,hrowin r1 ho⟩,hv2⟩
   | same =>
    simp only[jl,Ax]at hr
    split at hr<;>try (cases hr;done)
    rename_i i hrs
    split at hr<;>try (cases hr;done)
    rename_i sz o n r1 ht ho
    simp only[acK,Prod.mk.injEq]at hr
    obtain⟨rfl,rfl⟩:=hr
    obtain⟨h1,h2,h3,h4,h5,h6,h7⟩:=hlast r1 ho
    refine⟨a'.tmps.getD i undef,kJ hrs,_,rfl,hbel,⟨h4.1,h3,h4.2,h6,hrowin r1 ho⟩,?_⟩
    have hsl:=hI'.slots i
    rw[ht]at hsl
    refine⟨trivial,fun r' _ _ =>?_⟩
    have:=hsl.2 r1 h1 h2
    rw[h5]at this
    exact this
   | tight =>
    simp only[jl,B2]at hr
    cases hr
   | fresh ty0 s0 =>
    obtain⟨rfl,v,ty,sz,n,cells,rfl,hv1,hv2⟩:=hI'.p7 (P:=P) hr
    refine⟨v,hv1,v,rfl,hbel,trivial,?_⟩
    rcases hv2 with⟨g,k1,cs,k2,k3,k4⟩|hv2
    ·exact .inl ⟨g,k1,cs,k2,k3.imp id (fun hb=>Ht.1 hb),k4⟩
    ·exact .inr hv2
  cases x with
  | normal=>exact hpost
  | ret=>exact hpost
  | exit n=>exact (hne n rfl).elim
def ext (Γ:Env) (f:Nat) (l:Bool) (G:Option (D×Row)->List D->Option (RK×Option Row)):Env:=⟨fun g=>if g=f then l else Γ.lends g,fun g lent acw=>if g=f then G lent acw else Γ.sem g lent acw,Γ.own,Γ.hint,Γ.ins,Γ.grw,Γ.nst,Γ.nx⟩
theorem bC.ext (hΓ:bC P Γ) {f:Nat} {l:Bool} {G:Option (D×Row)->List D->Option (RK×Option Row)} (hG:∀lent acw rk out,G lent acw=some (rk,out)->nV P f lent acw rk out) (hc:dn P f):bC P (Am.ext Γ f l G):=by
 refine⟨fun g lent acw rk out h =>?_,hΓ.ins,hΓ.grw,hΓ.lnd,hΓ.res⟩
 simp only[Am.ext]at h
 split at h
 ·rename_i he;subst he;exact⟨hG lent acw rk out h,hc⟩
 ·exact hΓ.calls g lent acw rk out h
def a6:Env:=⟨fun _=>false,fun _ _ _=>none,fun _=>true,fun _=>none,fun _=>none,fun _=>none,fun _=>none,{}⟩
theorem bC.none:bC P a6:=⟨fun f lent args rk out h=>(by cases h),fun f p h=>(by cases h),fun f p h=>(by cases h),fun f p h=>(by cases h),fun f p h=>(by cases h)⟩
def keep (d:Nat) (Γ:Env):Env:=⟨Γ.lends,Γ.sem,fun i=>i != d&&Γ.own i,Γ.hint,Γ.ins,Γ.grw,Γ.nst,Γ.nx⟩
theorem bC.keep (hΓ:bC P Γ) (d:Nat):bC P (Am.keep d Γ):=⟨hΓ.calls,hΓ.ins,hΓ.grw,hΓ.lnd,hΓ.res⟩
def vO (d y:Nat) (Γ:Env):Env:=⟨Γ.lends,Γ.sem,Γ.own,fun i=>if i=d then some y else Γ.hint i,Γ.ins,Γ.grw,Γ.nst,Γ.nx⟩
theorem bC.vO (hΓ:bC P Γ) (d y:Nat):bC P (Am.vO d y Γ):=⟨hΓ.calls,hΓ.ins,hΓ.grw,hΓ.lnd,hΓ.res⟩
def yx (f:Nat) (p:Nat×Nat×Nat) (Γ:Env):Env:=⟨Γ.lends,Γ.sem,Γ.own,Γ.hint,fun g=>if g=f then some p else Γ.ins g,Γ.grw,Γ.nst,Γ.nx⟩
theorem bC.yx (hΓ:bC P Γ) {f:Nat} {p:Nat×Nat×Nat} (hi:TS P f p):bC P (Am.yx f p Γ):=⟨hΓ.calls,fun g q h=>by
 simp only[Am.yx]at h
 split at h
 ·rename_i he;subst he;cases h;exact hi
 ·exact hΓ.ins g q h,hΓ.grw,hΓ.lnd,hΓ.res⟩
def xA (d:Nat) (p:Nat×Nat×Nat) (Γ:Env):Env:=⟨Γ.lends,Γ.sem,Γ.own,Γ.hint,Γ.ins,Γ.grw,fun i=>if i=d then some p else Γ.nst i,Γ.nx⟩
theorem bC.xA (hΓ:bC P Γ) (d:Nat) (p:Nat×Nat×Nat):bC P (Am.xA d p Γ):=⟨hΓ.calls,hΓ.ins,hΓ.grw,hΓ.lnd,hΓ.res⟩
def nF (f:Nat) (p:Nat×(Nat->Nat->Nat->Nat->List D->List D->Option (D×List D))) (Γ:Env):Env:=⟨Γ.lends,Γ.sem,Γ.own,Γ.hint,Γ.ins,Γ.grw,Γ.nst,⟨fun g=>if g=f then some p else Γ.nx.lnd g,Γ.nx.res⟩⟩
theorem bC.nF (hΓ:bC P Γ) {f:Nat} {p:Nat×(Nat->Nat->Nat->Nat->List D->List D->Option (D×List D))} (hc:dn P f) (hi:∀ty t s o cs args d cs',p.2 ty t s o cs args=some (d,cs')->Hr P f ty t s o cs args d cs'):bC P (Am.nF f p Γ):=⟨hΓ.calls,hΓ.ins,hΓ.grw,fun g q h=>by
 simp only[Am.nF]at h
 split at h
 ·rename_i he;subst he;cases h;exact⟨hc,hi⟩
 ·exact hΓ.lnd g q h,hΓ.res⟩
def xz (f:Nat) (p:List D->Option (Nat×Nat×Nat×Nat×Nat×List D)) (Γ:Env):Env:=⟨Γ.lends,Γ.sem,Γ.own,Γ.hint,Γ.ins,Γ.grw,Γ.nst,⟨Γ.nx.lnd,fun g=>if g=f then some p else Γ.nx.res g⟩⟩
theorem bC.xz (hΓ:bC P Γ) {f:Nat} {p:List D->Option (Nat×Nat×Nat×Nat×Nat×List D)} (hc:dn P f) (hi:∀args ty t s S n cs,p args=some (ty,t,s,S,n,cs)->Hq P f args ty t s S n cs):bC P (Am.xz f p Γ):=⟨hΓ.calls,hΓ.ins,hΓ.grw,hΓ.lnd,fun g q h=>by
 simp only[Am.xz]at h
 split at h
 ·rename_i he;subst he;cases h;exact⟨hc,hi⟩
 ·exact hΓ.res g q h⟩
def Cf (f:Nat) (p:Grow) (Γ:Env):Env:=⟨Γ.lends,Γ.sem,Γ.own,Γ.hint,Γ.ins,fun g=>if g=f then some p else Γ.grw g,Γ.nst,Γ.nx⟩
theorem bC.Cf (hΓ:bC P Γ) {f:Nat} {p:Grow} (hi:TR P f p):bC P (Am.Cf f p Γ):=⟨hΓ.calls,hΓ.ins,fun g q h=>by
 simp only[Am.Cf]at h
 split at h
 ·rename_i he;subst he;cases h;exact hi
 ·exact hΓ.grw g q h,hΓ.lnd,hΓ.res⟩
end
def oN (ty t s o:Nat) (cs args:List D):St:=⟨fun i=>(.ptr 0 0 o::args).getD i .und,lD (gj ty t s 0 cs),1⟩
def U4 (t s:Nat) (ds:List D):List D->Option (D×List D)
 | [.nr t' s' _ cs']=>if t'=t∧s'=s then some (l9 ds,cs') else none
 | _=>none
def Kl (ty t s:Nat):Option (List D×List Nat)->Option Row->Option (D×List D)
 | some (ds,fr),some r=>if r.v=0∧r.fz=false∧r.ty=ty∧r.mp=true∧fr.all (fun k=>rt k != 0)=true then U4 t s ds r.cells else none
 | _,_=>none
def SL (T:Nat->Option Ty) (ty t s:Nat) (rs:List ResultVar) (st:St):Option (D×List D):=Kl ty t s (tR T ⟨st.t,EH st.h,st.e⟩ rs) (st.h 0)
def sf (T:Nat->Option Ty) (Γ:Env) (F:Nat) (fn:Func) (ty t s o:Nat) (cs args:List D):Option (D×List D) :=
 match fn.body with
 | some c =>
  if fn.ntmps<=PK then
   match fO T Γ fn.ntmps F c (oN ty t s o cs args) with
   | some (.exit _,_)=>none
   | some (_,st)=>SL T ty t s fn.results.toList st
   | none=>none
  else none
 | none=>none
def U3 (x S n:Nat) (ty:Nat):List D->Option (Nat×Nat×Nat×Nat×Nat×List D)
 | [.nr t s _ cs]=>if x<PK then some (ty,t,s,S,n,cs) else none
 | _=>none
def Kj (x v S n:Nat):Option Row->Option (Nat×Nat×Nat×Nat×Nat×List D)
 | some r=>if r.v=v∧r.fz=false∧r.mp=true then U3 x S n r.ty r.cells else none
 | none=>none
def QY (h:Nat->Option Row):D->Option (Nat×Nat×Nat×Nat×Nat×List D)
 | .buf x v S 0 n=>Kj x v S n (h x)
 | _=>none
def SK (rs:List ResultVar) (st:St):Option (Nat×Nat×Nat×Nat×Nat×List D) :=
 match rs with
 | [.tmp i]=>QY st.h (st.t i)
 | _=>none
def se (T:Nat->Option Ty) (Γ:Env) (F:Nat) (fn:Func) (args:List D):Option (Nat×Nat×Nat×Nat×Nat×List D) :=
 match fn.body with
 | some c =>
  if fn.ntmps<=PK then
   match fO T Γ fn.ntmps F c (bT none args) with
   | some (.exit _,_)=>none
   | some (_,st)=>SK fn.results.toList st
   | none=>none
  else none
 | none=>none
def U5 (T:Nat->Option Ty):Option (Nat×Nat×Nat×Nat×Nat×List D)->Option D
 | some (_,_,s,S,n,cs)=>if n*S<=cs.length∧cs.all (vv s)=true then some (.sl false false n ((cs.map DF).take (n*S))) else none
 | none=>none
def PX (T:Nat->Option Ty) (Γ:Env) (F:Nat) (fn:Func) (args:List D):Option D:=U5 T (se T Γ F fn args)
section
variable {P:Program} {T:Nat->Option Ty} {N:Nat} {M:Nat->Prop} {L:jF} {w0:World} {blk:Nat->Option (Nat×Nat)} {a:Act} {w:World} {Γ:Env}
theorem IU (hT:jf P T) (hΓ:bC P Γ) (hm:P.follows .mixedOrders=true) {f:FuncId} {fn:Func} {F:Nat} {ty t s o:Nat} {cs args cs':List D} {d:D} (hf:P.funcs[f]? = some fn)
  (hok:(match fn.body with|some c=>codeOk c|none=>true)=true) (hn:args.length+1<=fn.ntmps)
  (hr:sf T Γ F fn ty t s o cs args=some (d,cs')):Hr P f ty t s o cs args d cs':=by
 unfold sf at hr
 split at hr<;>try (cases hr;done)
 rename_i c hc
 rw[hc]at hok
 simp only at hok
 split at hr<;>try (cases hr;done)
 rename_i hbig
 split at hr<;>try (cases hr;done)
 rename_i x st hne hv
 intro w M blk h0 h1 g0 vs hh0 hh1 hM hdis hg0 hR hargs
 have hpk:=cP
 have hfz:∀k r,h0 k=some r->r.fz=false:=by
  intro k r hk
  rw[hh0]at hk
  rcases ic hk with⟨_,rfl⟩|⟨_,_,_,_,_,rfl⟩<;>rfl
 have hown:∀b,Own M h0 blk b↔(M b∨um blk h0 b):=by
  intro b
  constructor
  ·rintro (hb|⟨k,r,g,h1,_,h2,h3⟩)
   ·exact .inl hb
   ·exact .inr ⟨k,r,g,h1,h2,h3⟩
  ·rintro (hb|⟨k,r,g,h1,h2,h3⟩)
   ·exact .inl hb
   ·exact .inr ⟨k,r,g,h1,hfz k r h1,h2,h3⟩
 have hrow0:h0 0=some ⟨0,ty,cs.mapIdx (pK 0 s),false,true,true⟩:=by rw[hh0];exact tS
 obtain⟨LL,hLL⟩:∃LL:jF,LL=some (some g0,um blk h0):=⟨_,rfl⟩
 have hLB:∀b,LB LL b↔um blk h0 b:=by
  intro b
  subst hLL
  constructor
  ·rintro⟨p,hp,h⟩
   cases hp
   rcases h with⟨g,hg,rfl⟩|h
   ·cases hg;exact⟨0,_,g0,hrow0,hg0,rfl⟩
   ·exact h
  ·exact fun h=>⟨_,rfl,.inr h⟩
 have hI:Inv fn.ntmps M LL w blk (fun x v=>x<fn.ntmps∧v<1) (oN ty t s o cs args).t h0 { tmps:=(#[Value.pointer (some ⟨g0.1,g0.2+o,none⟩)]++vs)++Array.replicate (fn.ntmps-(#[Value.pointer (some ⟨g0.1,g0.2+o,none⟩)]++vs).size) undef,defers:=[] } w:={
  tab:=fun b hb=>(hargs.tab b hb).less fun b hb=>(hown b).1 hb
  below:=di.refl _ _
  mlt:=hM
  lent:=fun b hb=>hdis b ((hLB b).1 hb)
  pin:=fun p hp=>by
   subst hLL
   cases hp
   exact⟨⟨by omega,aeh⟩,fun r' _ _=>⟨hg0,fun g _=>rfl⟩⟩
  defers:=rfl
  tsz:=by have:=hargs.1;simp;omega
  slots:=fun i=>by
   simp only[oN]
   rcases xJ (args := .ptr 0 0 o::args) (vs:=#[.pointer (some ⟨g0.1,g0.2+o,none⟩)]++vs) (n:=fn.ntmps) (i:=i) (by simp[hargs.1];omega) with he|he
   ·rw[he]
    cases i with
    | zero =>
     have e1:(#[Value.pointer (some ⟨g0.1,g0.2+o,none⟩)]++vs).getD 0 undef=.pointer (some ⟨g0.1,g0.2+o,none⟩):=by simp[Array.getElem?_append]
     rw[e1]
     simp only[adN]
     exact⟨⟨by omega,aeh⟩,fun r' _ _=>⟨g0,hg0,rfl⟩⟩
    | succ i =>
     have e1:(#[Value.pointer (some ⟨g0.1,g0.2+o,none⟩)]++vs).getD (i+1) undef=vs.getD i undef:=by
      simp only[acG]
      rw[Array.getElem?_append_right (by simp)]
      simp
     rw[e1]
     simp only[List.getD_cons_succ]
     by_cases hi:i<args.length
     ·have h1:=hargs.2 i _ (acO hi)
      have e1:args.getD i .und=args[i]:=by simp[List.getD,hi]
      rw[e1]
      exact bA (h1.less fun b hb=>(hown b).1 hb)
     ·have e1:args.getD i .und=.und:=by simp[List.getD,ad9 (aeg hi)]
      rw[e1]
      trivial
   ·rw[he];trivial
  rows:=fun k r hk=>by
   refine⟨fun hn =>?_,?_⟩
   ·rw[hh0]at hk
    rcases ic hk with⟨rfl,rfl⟩|⟨o',_,_,rfl,_,rfl⟩
    ·exact⟨hn,aeh⟩
    ·have:=fL 0 o';omega
   ·have:=hR.rows k r hk
    cases hg:blk k with
    | none=>rw[hg]at this;exact this
    | some g =>
     rw[hg]at this
     exact⟨.inr ((hLB g.1).2 ⟨k,r,g,hk,hg,rfl⟩),this.keep rfl rfl rfl rfl fun b q1 q2=>⟨q1,fun hb=>q2 ((hown b).1 hb),rfl⟩⟩
  inj:=hR.inj
  big:=hbig
  pha:=hR.pha
  ali:=fun y r g hy hz=>by rw[hfz y r hy]at hz;cases hz }
 have hnv0:DL (oN ty t s o cs args).e [] (oN ty t s o cs args).h:=by
  intro k r' ty' s' nv' cs1 hx hm' hcc
  simp only[oN,lD]at hx
  split at hx
  ·simp only[acK]at hx
   subst hx
   simp only[gj,acZ,D.nr.injEq,and_true]at hcc
   obtain⟨_,_,rfl,_⟩:=hcc
   exact fun _=>⟨by simp[oN],fun _=>by simp[oN]⟩
  ·cases hx
 have hEH:EH (oN ty t s o cs args).h=h0:=hh0.symm
 refine calls_of_wp hf hc ?_
 refine pL hT hΓ hm c (oN ty t s o cs args) x st _ _ _ hv hok ⟨_,⟨(by rw[hEH];exact hI.weaken fun x v hx=>Or.inl ⟨hx.1,Or.inl hx.2⟩),hnv0⟩⟩ (fun a' w' hH =>?_)
 obtain⟨blk',hIE⟩:=hH
 have hI':=hIE.inv
 unfold SL Kl at hr
 split at hr<;>try (cases hr;done)
 rename_i ds fr r1 hres hr1
 split at hr<;>try (cases hr;done)
 rename_i hcond
 obtain⟨c1,c2,c3,c4,c5⟩:=hcond
 unfold U4 at hr
 split at hr<;>try (cases hr;done)
 rename_i t' s' nv' cs1 hcells
 split at hr<;>try (cases hr;done)
 rename_i hts
 obtain⟨rfl,rfl⟩:=hts
 simp only[acK,Prod.mk.injEq]at hr
 obtain⟨rfl,rfl⟩:=hr
 have hE0:=fu hr1 c4 hcells lQ
 obtain⟨p1,p2⟩:=(hI'.pin (some g0,um blk h0) hLL).2 _ hE0 c1
 have hIB:=Hs (blk:=blk') hr1 c4 hcells lQ
 rw[c3]at hIB
 have hQ:∀b,(M b∨um (oT blk' 0) h1 b)->Own M (EH st.h) blk' b:=by
  rintro b (hb|hb)
  ·exact .inl hb
  ·rw[hh1]at hb
   obtain⟨k,r',g',q0,q1,q2,q3⟩:=(hIB b).1 hb
   refine .inr ⟨k,r',g',q1,?_,q2,q3⟩
   rcases dF hr1 c4 hcells lQ q0 q1 with⟨_,rfl⟩|⟨_,_,_,_,_,rfl⟩<;>exact c2
 have hless:nh M (EH st.h) blk' fr (fun b=>M b∨um (oT blk' 0) h1 b):=by
  refine⟨hQ,fun k hk r' g hk1 hg hb =>?_⟩
  rcases hb with hb|hb
  ·exact hI'.notM hk1 hg hb
  ·rw[hh1]at hb
   obtain⟨l,r2,g',q0,q1,q2,q3⟩:=(hIB _).1 hb
   have:=hI'.inj k l r' r2 g g' hk1 q1 hg q2 q3.symm
   subst this
   have:=acM.1 c5 _ hk
   simp[q0]at this
 obtain⟨v,hv1,hv2⟩:=tU (P:=P) (s:=⟨st.t,EH st.h,st.e⟩) hT hI' hres hless
 have hlend:=hI'.Zu hr1 c4 hcells c2 lQ hQ
 rw[c3,<- hh1]at hlend
 have hpost:a'.defers=[]∧∃v,(results fn a'.tmps).run P w'=.ok v w'∧(∃v' blk1,Ending.returned v=.returned v'∧di (um blk h0) w w'∧blk1 0=some g0∧w'.shape? g0.1=w.shape? g0.1∧(∀b,um blk1 h1 b->w.heap.size<=b∨um blk h0 b)∧Em w' (fun b=>M b∨um blk1 h1 b) blk1 h1∧RP w' (fun b=>M b∨um blk1 h1 b) (l9 ds) v'):=by
  refine⟨hI'.defers,v,hv1,v,oT blk' 0,rfl,⟨hI'.below.os,hI'.below.tape,hI'.below.output,hI'.below.size,fun k hk hn=>hI'.below.block k hk fun hb=>hn ((hLB k).1 hb)⟩,by rw[oT,pU];exact p1,p2 g0 rfl,fun b hb =>?_,hlend,hv2⟩
  rw[hh1]at hb
  obtain⟨k,r',g',q0,q1,q2,q3⟩:=(hIB b).1 hb
  rcases hI'.base q1 q2 with q|q
  ·exact .inl (by omega)
  ·exact .inr (by rw[<- q3];exact (hLB _).1 q)
 cases x with
 | normal=>exact hpost
 | ret=>exact hpost
 | exit n=>exact (hne n rfl).elim
theorem aaE (hT:jf P T) (hΓ:bC P Γ) (hm:P.follows .mixedOrders=true) {f:FuncId} {fn:Func} {F:Nat} {args:List D} {c:Code} {x:Ex} {st:St} (hf:P.funcs[f]? = some fn) (hc:fn.body=some c) (hok:codeOk c=true) (hn:args.length<=fn.ntmps) (hbig:fn.ntmps<=PK)
  (hv:fO T Γ fn.ntmps F c (bT none args)=some (x,st)) (hne:∀n,x ≠ .exit n) {w:World} {M:Nat->Prop} {vs:Array Value} (hM:∀b,M b->b<w.heap.size) (hargs:yV w M args vs) {Φ:Ending->World->Prop}
  (hk:∀a' w' blk',Inv fn.ntmps M none w blk' (VE fn.ntmps st.e [] st.h) st.t (EH st.h) a' w'->∃v,(results fn a'.tmps).run P w'=.ok v w'∧Φ (.returned v) w'):Calls P f vs w Φ:=by
 have hI:Inv fn.ntmps M none w (fun _=>none) (fun x v=>x<fn.ntmps∧v<0) (bT none args).t (bT none args).h { tmps:=vs++Array.replicate (fn.ntmps-vs.size) undef,defers:=[] } w:={
  tab:=fun b hb=>(hargs.tab b hb).less fun b hb=>by
   rcases hb with hb|⟨x,r,g,hx,_⟩
   ·exact hb
   ·cases hx
  below:=di.refl _ _
  mlt:=hM
  lent:=fun b hb=>absurd hb qG
  pin:=fun go hg=>by cases hg
  defers:=rfl
  tsz:=by have:=hargs.1;simp;omega
  slots:=fun i=>by
   simp only[bT]
   rcases xJ (n:=fn.ntmps) (i:=i) hargs.1 with he|he
   ·rw[he]
    by_cases hi:i<args.length
    ·have h1:=hargs.2 i _ (acO hi)
     have e1:args.getD i .und=args[i]:=by simp[List.getD,hi]
     rw[e1]
     exact bA (h1.less fun b hb=>by
      rcases hb with hb|⟨x,r,g,hx,_⟩
      ·exact hb
      ·cases hx)
    ·have e1:args.getD i .und=.und:=by simp[List.getD,ad9 (aeg hi)]
     rw[e1]
     trivial
   ·rw[he];trivial
  rows:=fun x r hx=>by cases hx
  inj:=fun x y r s g g' hx=>by cases hx
  big:=hbig
  pha:=fun y r g hy=>by cases hy
  ali:=fun y r g hy=>by cases hy }
 refine calls_of_wp hf hc ?_
 refine pL hT hΓ hm c (bT none args) x st _ _ _ hv hok ⟨_,⟨(by rw[AI (fun k r hk=>by cases hk)];exact hI.weaken fun x v hx=>absurd hx.2 (Nat.not_lt_zero _)),fun x r ty s nv cs hx=>by cases hx⟩⟩ (fun a' w' hH =>?_)
 obtain⟨blk',hIE⟩:=hH
 obtain⟨v,h1,h2⟩:=hk a' w' blk' hIE.inv
 have hpost:a'.defers=[]∧∃v,(results fn a'.tmps).run P w'=.ok v w'∧Φ (.returned v) w':=⟨hIE.inv.defers,v,h1,h2⟩
 cases x with
 | normal=>exact hpost
 | ret=>exact hpost
 | exit n=>exact (hne n rfl).elim
theorem z7 {F:Nat} {fn:Func} {args:List D} {ty t s S n:Nat} {cs:List D} (hr:se T Γ F fn args=some (ty,t,s,S,n,cs)) :
  ∃c x st i k v r nv,fn.body=some c∧fn.ntmps<=PK∧fO T Γ fn.ntmps F c (bT none args)=some (x,st)∧(∀m,x ≠ .exit m)∧fn.results.toList=[.tmp i]∧st.t i=.buf k v S 0 n∧st.h k=some r∧r.v=v∧r.fz=false∧r.mp=true∧k<PK∧r.ty=ty∧r.cells=[.nr t s nv cs]:=by
 unfold se at hr
 split at hr<;>try (cases hr;done)
 rename_i c hc
 split at hr<;>try (cases hr;done)
 rename_i hbig
 split at hr<;>try (cases hr;done)
 rename_i x st hne hv
 unfold SK at hr
 split at hr<;>try (cases hr;done)
 rename_i i hrs
 unfold QY at hr
 split at hr<;>try (cases hr;done)
 rename_i k v S' n' ht
 unfold Kj at hr
 split at hr<;>try (cases hr;done)
 rename_i r hh
 split at hr<;>try (cases hr;done)
 rename_i hcond
 unfold U3 at hr
 split at hr<;>try (cases hr;done)
 rename_i t' s' nv cs' hcells
 split at hr<;>try (cases hr;done)
 rename_i hk
 simp only[acK,Prod.mk.injEq]at hr
 obtain⟨h1,h2,h3,h4,h5,h6⟩:=hr
 subst h2 h3 h4 h5 h6
 exact⟨c,x,st,i,k,v,r,nv,hc,hbig,hv,fun m hm=>hne m hm,hrs,ht,hh,hcond.1,hcond.2.1,hcond.2.2,hk,h1,hcells⟩
theorem IT (hT:jf P T) (hΓ:bC P Γ) (hm:P.follows .mixedOrders=true) {f:FuncId} {fn:Func} {F:Nat} {args:List D} {ty t s S n:Nat} {cs:List D} (hf:P.funcs[f]? = some fn)
  (hok:(match fn.body with|some c=>codeOk c|none=>true)=true) (hn:args.length<=fn.ntmps)
  (hr:se T Γ F fn args=some (ty,t,s,S,n,cs)):Hq P f args ty t s S n cs:=by
 obtain⟨c,x,st,i,k,v,r,nv,hc,hbig,hv,hne,hrs,ht,hh,c1,c2,c3,hk,hty,hcells⟩:=z7 hr
 rw[hc]at hok
 simp only at hok
 intro w M h vs hh0 hM hargs
 refine aaE hT hΓ hm hf hc hok hn hbig hv hne hM hargs fun a' w' blk' hI' =>?_
 have hIB:=Hs (blk:=blk') hh c3 hcells hk
 rw[hty,<- hh0]at hIB
 have hbel:Below w.heap.size w w':=hI'.below.below (fun b hb=>absurd hb qG)
 have hQ:∀b,(M b∨um (oT blk' k) h b)->Own M (EH st.h) blk' b:=by
  rintro b (hb|hb)
  ·exact .inl hb
  ·obtain⟨l,r',g',q0,q1,q2,q3⟩:=(hIB b).1 hb
   refine .inr ⟨l,r',g',q1,?_,q2,q3⟩
   rcases dF hh c3 hcells hk q0 q1 with⟨_,rfl⟩|⟨_,_,_,_,_,rfl⟩<;>exact c2
 have hlend:=hI'.Zu hh c3 hcells c2 hk hQ
 rw[hty,<- hh0]at hlend
 have hsl:=hI'.slots i
 rw[ht]at hsl
 refine⟨_,kJ hrs,_,oT blk' k,rfl,hbel,fun b hb =>?_,hlend,trivial,fun r' _ _ =>?_⟩
 ·obtain⟨l,r',g',q0,q1,q2,q3⟩:=(hIB b).1 hb
  rcases hI'.base q1 q2 with q|q
  ·omega
  ·exact absurd q qG
 ·rw[oT,pU]
  exact hsl.2 _ (fu hh c3 hcells hk) c1
theorem WQ {s:Nat} {d:D} (h:vv s d=true):eY (DF d)=true:=by
 cases d<;>first|rfl|exact h
theorem IV (hT:jf P T) (hΓ:bC P Γ) (hm:P.follows .mixedOrders=true) {f:FuncId} {fn:Func} {F:Nat} {args:List D} {d:D} (hf:P.funcs[f]? = some fn)
  (hok:(match fn.body with|some c=>codeOk c|none=>true)=true) (hn:args.length<=fn.ntmps)
  (hr:PX T Γ F fn args=some d):nV P f none args (.clean d) none:=by
 unfold PX U5 at hr
 split at hr<;>try (cases hr;done)
 rename_i ty t s S n cs hF
 split at hr<;>try (cases hr;done)
 rename_i hcond
 simp only[acK]at hr
 subst hr
 obtain⟨hle,hall⟩:=hcond
 obtain⟨c,x,st,i,k,v,r,nv,hc,hbig,hv,hne,hrs,ht,hh,c1,c2,c3,hk,hty,hcells⟩:=z7 hF
 rw[hc]at hok
 simp only at hok
 intro w M vs hM hargs
 refine aaE hT hΓ hm hf hc hok hn hbig hv hne hM hargs fun a' w' blk' hI' =>?_
 have hbel:Below w.heap.size w w':=hI'.below.below (fun b hb=>absurd hb qG)
 obtain⟨k1,_⟩:=hI'.Zo (o:=0) hh c3 hcells c2 hk cs.length (by rw[adX,aeC];exact hall)
 have hw:qt cs.length 0 cs=cs.map DF:=by
  apply aeD
  intro j
  rw[sg,acy]
  cases hj:cs[j]? with
  | none=>rfl
  | some d =>
   have:=(ac4.1 hj).1
   simp only[Option.map_some]
   rw[if_pos (by omega)]
 rw[hw]at k1
 generalize hh2:bU st.h k (some (⟨r.v,r.ty,[.nr t s nv (cs.map DF)],false,r.lst,true⟩:Row))=h2 at k1
 have hx2:h2 k=some ⟨r.v,r.ty,[.nr t s nv (cs.map DF)],false,r.lst,true⟩:=by rw[<- hh2,av]
 have hEk:=fu hx2 rfl rfl hk
 have k2:=k1.lC (x:=k) (r:=⟨r.v,r.ty,(cs.map DF).mapIdx (pK k s),false,r.lst,true⟩) (r0:=⟨r.v,r.ty,cs.map DF,false,r.lst,false⟩) (w':=w') hEk rfl rfl rfl rfl rfl (acB _) (fun _ _ _=>rfl) (by
  cases hg:blk' k with
  | none =>
   have:=(k1.rows k _ hEk).2
   rw[hg]at this
   have h1:(cs.map DF).mapIdx (pK k s)=[]:=this
   have h2:(cs.map DF).length=0:=by
    have:=congrArg List.length h1
    simpa using this
   exact adM h2
  | some g =>
   obtain⟨arr,a1,a2,a3⟩:=k1.CE hx2 rfl rfl hk hg
   refine⟨rfl,arr,a1,a2,fun j d hj =>?_⟩
   have hd:eY d=true:=by
    have:=hj
    simp only[acy,acz]at this
    obtain⟨d0,hd0,rfl⟩:=this
    exact WQ (acM.1 hall d0 (ac3 hd0))
   exact⟨(fZ hd).1,a3 j d hj hd⟩) (fun h=>by cases h)
 have hlive:live (bU (EH h2) k (some ⟨r.v,r.ty,cs.map DF,false,r.lst,false⟩)) k v=some ⟨r.v,r.ty,cs.map DF,false,r.lst,false⟩:=by
  unfold live
  rw[av]
  simp[c1]
 have hcl:Am.bn (bU (EH h2) k (some ⟨r.v,r.ty,cs.map DF,false,r.lst,false⟩)) (.buf k v S 0 n)=some (.sl false false n ((cs.map DF).take (n*S)),[k]):=by
  simp only[Am.bn,Am.aM,Am.cS,hlive,adq,adX]
  rw[if_pos (by rw[ac5];exact hle)]
  rfl
 have hsl:=k2.slots i
 rw[ht]at hsl
 exact⟨_,kJ hrs,_,rfl,hbel,k2.bn hcl (k2.YC [k]) hsl⟩
end
def tab (t:Nat):Option Ty :=
 match t with
 | 2=>some ⟨.int .i64,1,8,[.int .i64 0],false⟩
 | 3=>some ⟨.int .i64,1,8,[.int .i64 0],false⟩
 | 4=>some ⟨.bool,1,1,[.bool false],false⟩
 | 5=>some ⟨.int .u8,1,1,[.int .u8 0],false⟩
 | 9=>some ⟨.str,1,16,[.string ⟨#[]⟩],false⟩
 | 12=>some ⟨.int .u64,1,8,[.int .u64 0],false⟩
 | 21=>some ⟨.int .i32,1,4,[.int .i32 0],false⟩
 | 22=>some ⟨.slice 46,1,24,[.slice none 0 0],false⟩
 | 23=>some ⟨.struct [(3,0),(22,1)],2,32,[.int .i64 0,.slice none 0 0],false⟩
 | 24=>some ⟨.struct [(3,0),(22,1)],2,32,[.int .i64 0,.slice none 0 0],false⟩
 | 25=>some ⟨.slice 41,1,24,[.slice none 0 0],false⟩
 | 30=>some ⟨.int .i64,1,8,[.int .i64 0],false⟩
 | 33=>some ⟨.slice 3,1,24,[.slice none 0 0],false⟩
 | 37=>some ⟨.slice 4,1,24,[.slice none 0 0],false⟩
 | 38=>some ⟨.struct [(3,0),(33,1)],2,32,[.int .i64 0,.slice none 0 0],false⟩
 | 39=>some ⟨.struct [(3,0),(33,1)],2,32,[.int .i64 0,.slice none 0 0],false⟩
 | 40=>some ⟨.struct [(39,0),(39,2)],4,64,[.int .i64 0,.slice none 0 0,.int .i64 0,.slice none 0 0],false⟩
 | 41=>some ⟨.struct [(39,0),(39,2)],4,64,[.int .i64 0,.slice none 0 0,.int .i64 0,.slice none 0 0],false⟩
 | 45=>some ⟨.struct [(3,0),(3,1),(41,2)],6,80,[.int .i64 0,.int .i64 0,.int .i64 0,.slice none 0 0,.int .i64 0,.slice none 0 0],false⟩
 | 46=>some ⟨.struct [(3,0),(3,1),(41,2)],6,80,[.int .i64 0,.int .i64 0,.int .i64 0,.slice none 0 0,.int .i64 0,.slice none 0 0],false⟩
 | 55=>some ⟨.slice 5,1,24,[.slice none 0 0],false⟩
 | 65=>some ⟨.slice 69,1,24,[.slice none 0 0],false⟩
 | 67=>some ⟨.slice 74,1,24,[.slice none 0 0],false⟩
 | 68=>some ⟨.struct [(41,0),(67,4)],5,88,[.int .i64 0,.slice none 0 0,.int .i64 0,.slice none 0 0,.slice none 0 0],false⟩
 | 69=>some ⟨.struct [(41,0),(67,4)],5,88,[.int .i64 0,.slice none 0 0,.int .i64 0,.slice none 0 0,.slice none 0 0],false⟩
 | 73=>some ⟨.struct [(3,0),(41,1)],5,72,[.int .i64 0,.int .i64 0,.slice none 0 0,.int .i64 0,.slice none 0 0],false⟩
 | 74=>some ⟨.struct [(3,0),(41,1)],5,72,[.int .i64 0,.int .i64 0,.slice none 0 0,.int .i64 0,.slice none 0 0],false⟩
 | 97=>some ⟨.slice 33,1,24,[.slice none 0 0],false⟩
 | 111=>some ⟨.int .u64,1,8,[.int .u64 0],false⟩
 | 117=>some ⟨.int .u64,1,8,[.int .u64 0],false⟩
 | 123=>some ⟨.int .u32,1,4,[.int .u32 0],false⟩
 | _=>none
theorem YS:tab 2=some ⟨.int .i64,1,8,[.int .i64 0],false⟩:=rfl
theorem Si:tab 3=some ⟨.int .i64,1,8,[.int .i64 0],false⟩:=rfl
theorem YT:tab 4=some ⟨.bool,1,1,[.bool false],false⟩:=rfl
theorem YU:tab 5=some ⟨.int .u8,1,1,[.int .u8 0],false⟩:=rfl
theorem YV:tab 9=some ⟨.str,1,16,[.string ⟨#[]⟩],false⟩:=rfl
theorem Wk:tab 12=some ⟨.int .u64,1,8,[.int .u64 0],false⟩:=rfl
theorem Wl:tab 21=some ⟨.int .i32,1,4,[.int .i32 0],false⟩:=rfl
theorem Pz:tab 22=some ⟨.slice 46,1,24,[.slice none 0 0],false⟩:=rfl
theorem Wm:tab 23=some ⟨.struct [(3,0),(22,1)],2,32,[.int .i64 0,.slice none 0 0],false⟩:=rfl
theorem IJ:tab 24=some ⟨.struct [(3,0),(22,1)],2,32,[.int .i64 0,.slice none 0 0],false⟩:=rfl
theorem IK:tab 25=some ⟨.slice 41,1,24,[.slice none 0 0],false⟩:=rfl
theorem Wn:tab 30=some ⟨.int .i64,1,8,[.int .i64 0],false⟩:=rfl
theorem IL:tab 33=some ⟨.slice 3,1,24,[.slice none 0 0],false⟩:=rfl
theorem Wo:tab 37=some ⟨.slice 4,1,24,[.slice none 0 0],false⟩:=rfl
theorem Wp:tab 38=some ⟨.struct [(3,0),(33,1)],2,32,[.int .i64 0,.slice none 0 0],false⟩:=rfl
theorem PA:tab 39=some ⟨.struct [(3,0),(33,1)],2,32,[.int .i64 0,.slice none 0 0],false⟩:=rfl
theorem Wq:tab 40=some ⟨.struct [(39,0),(39,2)],4,64,[.int .i64 0,.slice none 0 0,.int .i64 0,.slice none 0 0],false⟩:=rfl
theorem IM:tab 41=some ⟨.struct [(39,0),(39,2)],4,64,[.int .i64 0,.slice none 0 0,.int .i64 0,.slice none 0 0],false⟩:=rfl
theorem Wr:tab 45=some ⟨.struct [(3,0),(3,1),(41,2)],6,80,[.int .i64 0,.int .i64 0,.int .i64 0,.slice none 0 0,.int .i64 0,.slice none 0 0],false⟩:=rfl
theorem IN:tab 46=some ⟨.struct [(3,0),(3,1),(41,2)],6,80,[.int .i64 0,.int .i64 0,.int .i64 0,.slice none 0 0,.int .i64 0,.slice none 0 0],false⟩:=rfl
theorem Ws:tab 55=some ⟨.slice 5,1,24,[.slice none 0 0],false⟩:=rfl
theorem Wt:tab 65=some ⟨.slice 69,1,24,[.slice none 0 0],false⟩:=rfl
theorem Wu:tab 67=some ⟨.slice 74,1,24,[.slice none 0 0],false⟩:=rfl
theorem Wv:tab 68=some ⟨.struct [(41,0),(67,4)],5,88,[.int .i64 0,.slice none 0 0,.int .i64 0,.slice none 0 0,.slice none 0 0],false⟩:=rfl
theorem PB:tab 69=some ⟨.struct [(41,0),(67,4)],5,88,[.int .i64 0,.slice none 0 0,.int .i64 0,.slice none 0 0,.slice none 0 0],false⟩:=rfl
theorem Ww:tab 73=some ⟨.struct [(3,0),(41,1)],5,72,[.int .i64 0,.int .i64 0,.slice none 0 0,.int .i64 0,.slice none 0 0],false⟩:=rfl
theorem Wx:tab 74=some ⟨.struct [(3,0),(41,1)],5,72,[.int .i64 0,.int .i64 0,.slice none 0 0,.int .i64 0,.slice none 0 0],false⟩:=rfl
theorem Wy:tab 97=some ⟨.slice 33,1,24,[.slice none 0 0],false⟩:=rfl
theorem Sf:tab 111=some ⟨.int .u64,1,8,[.int .u64 0],false⟩:=rfl
theorem Sg:tab 117=some ⟨.int .u64,1,8,[.int .u64 0],false⟩:=rfl
theorem Sh:tab 123=some ⟨.int .u32,1,4,[.int .u32 0],false⟩:=rfl
theorem abW:fP Try.prog 2 ⟨.int .i64,1,8,[.int .i64 0],false⟩:=⟨by kernel_rfl,by kernel_rfl,by kernel_rfl,fun h=>by cases h⟩
theorem abX:fP Try.prog 3 ⟨.int .i64,1,8,[.int .i64 0],false⟩:=⟨by kernel_rfl,by kernel_rfl,by kernel_rfl,fun h=>by cases h⟩
theorem abY:fP Try.prog 4 ⟨.bool,1,1,[.bool false],false⟩:=⟨by kernel_rfl,by kernel_rfl,by kernel_rfl,fun h=>by cases h⟩
theorem abZ:fP Try.prog 5 ⟨.int .u8,1,1,[.int .u8 0],false⟩:=⟨by kernel_rfl,by kernel_rfl,by kernel_rfl,fun h=>by cases h⟩
theorem ab0:fP Try.prog 9 ⟨.str,1,16,[.string ⟨#[]⟩],false⟩:=⟨by kernel_rfl,by kernel_rfl,by kernel_rfl,fun h=>by cases h⟩
theorem aaM:fP Try.prog 12 ⟨.int .u64,1,8,[.int .u64 0],false⟩:=⟨by kernel_rfl,by kernel_rfl,by kernel_rfl,fun h=>by cases h⟩
theorem aaN:fP Try.prog 21 ⟨.int .i32,1,4,[.int .i32 0],false⟩:=⟨by kernel_rfl,by kernel_rfl,by kernel_rfl,fun h=>by cases h⟩
theorem aaO:fP Try.prog 22 ⟨.slice 46,1,24,[.slice none 0 0],false⟩:=⟨by kernel_rfl,by kernel_rfl,by kernel_rfl,fun h=>by cases h⟩
theorem aaP:fP Try.prog 23 ⟨.struct [(3,0),(22,1)],2,32,[.int .i64 0,.slice none 0 0],false⟩:=⟨by kernel_rfl,by kernel_rfl,by kernel_rfl,fun h=>by cases h⟩
theorem aaQ:fP Try.prog 24 ⟨.struct [(3,0),(22,1)],2,32,[.int .i64 0,.slice none 0 0],false⟩:=⟨by kernel_rfl,by kernel_rfl,by kernel_rfl,fun h=>by cases h⟩
theorem aaR:fP Try.prog 25 ⟨.slice 41,1,24,[.slice none 0 0],false⟩:=⟨by kernel_rfl,by kernel_rfl,by kernel_rfl,fun h=>by cases h⟩
theorem aaS:fP Try.prog 30 ⟨.int .i64,1,8,[.int .i64 0],false⟩:=⟨by kernel_rfl,by kernel_rfl,by kernel_rfl,fun h=>by cases h⟩
theorem aaT:fP Try.prog 33 ⟨.slice 3,1,24,[.slice none 0 0],false⟩:=⟨by kernel_rfl,by kernel_rfl,by kernel_rfl,fun h=>by cases h⟩
theorem aaU:fP Try.prog 37 ⟨.slice 4,1,24,[.slice none 0 0],false⟩:=⟨by kernel_rfl,by kernel_rfl,by kernel_rfl,fun h=>by cases h⟩
theorem aaV:fP Try.prog 38 ⟨.struct [(3,0),(33,1)],2,32,[.int .i64 0,.slice none 0 0],false⟩:=⟨by kernel_rfl,by kernel_rfl,by kernel_rfl,fun h=>by cases h⟩
theorem aaW:fP Try.prog 39 ⟨.struct [(3,0),(33,1)],2,32,[.int .i64 0,.slice none 0 0],false⟩:=⟨by kernel_rfl,by kernel_rfl,by kernel_rfl,fun h=>by cases h⟩
theorem aaX:fP Try.prog 40 ⟨.struct [(39,0),(39,2)],4,64,[.int .i64 0,.slice none 0 0,.int .i64 0,.slice none 0 0],false⟩:=⟨by kernel_rfl,by kernel_rfl,by kernel_rfl,fun h=>by cases h⟩
theorem aaY:fP Try.prog 41 ⟨.struct [(39,0),(39,2)],4,64,[.int .i64 0,.slice none 0 0,.int .i64 0,.slice none 0 0],false⟩:=⟨by kernel_rfl,by kernel_rfl,by kernel_rfl,fun h=>by cases h⟩
theorem aaZ:fP Try.prog 45 ⟨.struct [(3,0),(3,1),(41,2)],6,80,[.int .i64 0,.int .i64 0,.int .i64 0,.slice none 0 0,.int .i64 0,.slice none 0 0],false⟩:=⟨by kernel_rfl,by kernel_rfl,by kernel_rfl,fun h=>by cases h⟩
theorem aa0:fP Try.prog 46 ⟨.struct [(3,0),(3,1),(41,2)],6,80,[.int .i64 0,.int .i64 0,.int .i64 0,.slice none 0 0,.int .i64 0,.slice none 0 0],false⟩:=⟨by kernel_rfl,by kernel_rfl,by kernel_rfl,fun h=>by cases h⟩
theorem aa1:fP Try.prog 55 ⟨.slice 5,1,24,[.slice none 0 0],false⟩:=⟨by kernel_rfl,by kernel_rfl,by kernel_rfl,fun h=>by cases h⟩
theorem aa2:fP Try.prog 65 ⟨.slice 69,1,24,[.slice none 0 0],false⟩:=⟨by kernel_rfl,by kernel_rfl,by kernel_rfl,fun h=>by cases h⟩
theorem aa3:fP Try.prog 67 ⟨.slice 74,1,24,[.slice none 0 0],false⟩:=⟨by kernel_rfl,by kernel_rfl,by kernel_rfl,fun h=>by cases h⟩
theorem aa4:fP Try.prog 68 ⟨.struct [(41,0),(67,4)],5,88,[.int .i64 0,.slice none 0 0,.int .i64 0,.slice none 0 0,.slice none 0 0],false⟩:=⟨by kernel_rfl,by kernel_rfl,by kernel_rfl,fun h=>by cases h⟩
theorem aa5:fP Try.prog 69 ⟨.struct [(41,0),(67,4)],5,88,[.int .i64 0,.slice none 0 0,.int .i64 0,.slice none 0 0,.slice none 0 0],false⟩:=⟨by kernel_rfl,by kernel_rfl,by kernel_rfl,fun h=>by cases h⟩
theorem aa6:fP Try.prog 73 ⟨.struct [(3,0),(41,1)],5,72,[.int .i64 0,.int .i64 0,.slice none 0 0,.int .i64 0,.slice none 0 0],false⟩:=⟨by kernel_rfl,by kernel_rfl,by kernel_rfl,fun h=>by cases h⟩
theorem aa7:fP Try.prog 74 ⟨.struct [(3,0),(41,1)],5,72,[.int .i64 0,.int .i64 0,.slice none 0 0,.int .i64 0,.slice none 0 0],false⟩:=⟨by kernel_rfl,by kernel_rfl,by kernel_rfl,fun h=>by cases h⟩
theorem aa8:fP Try.prog 97 ⟨.slice 33,1,24,[.slice none 0 0],false⟩:=⟨by kernel_rfl,by kernel_rfl,by kernel_rfl,fun h=>by cases h⟩
theorem ZQ:fP Try.prog 111 ⟨.int .u64,1,8,[.int .u64 0],false⟩:=⟨by kernel_rfl,by kernel_rfl,by kernel_rfl,fun h=>by cases h⟩
theorem ZR:fP Try.prog 117 ⟨.int .u64,1,8,[.int .u64 0],false⟩:=⟨by kernel_rfl,by kernel_rfl,by kernel_rfl,fun h=>by cases h⟩
theorem ZS:fP Try.prog 123 ⟨.int .u32,1,4,[.int .u32 0],false⟩:=⟨by kernel_rfl,by kernel_rfl,by kernel_rfl,fun h=>by cases h⟩
theorem tok:jf Try.prog tab:=by
 intro t τ h
 unfold tab at h
 split at h
 ·cases h;exact abW
 ·cases h;exact abX
 ·cases h;exact abY
 ·cases h;exact abZ
 ·cases h;exact ab0
 ·cases h;exact aaM
 ·cases h;exact aaN
 ·cases h;exact aaO
 ·cases h;exact aaP
 ·cases h;exact aaQ
 ·cases h;exact aaR
 ·cases h;exact aaS
 ·cases h;exact aaT
 ·cases h;exact aaU
 ·cases h;exact aaV
 ·cases h;exact aaW
 ·cases h;exact aaX
 ·cases h;exact aaY
 ·cases h;exact aaZ
 ·cases h;exact aa0
 ·cases h;exact aa1
 ·cases h;exact aa2
 ·cases h;exact aa3
 ·cases h;exact aa4
 ·cases h;exact aa5
 ·cases h;exact aa6
 ·cases h;exact aa7
 ·cases h;exact aa8
 ·cases h;exact ZQ
 ·cases h;exact ZR
 ·cases h;exact ZS
 ·cases h
theorem mixed:Try.prog.follows .mixedOrders=true:=by kernel_rfl
def oF {α:Type} (x:Option α) (K:α->Prop):Prop :=
 match x with
 | some a=>K a
 | none=>False
def br (b:Bool) (A B:Prop):Prop:=(b=true->A)∧(b=false->B)
def PY (d:D) (t:Nat->D) (g:Nat) (A B:(Nat->D)->Prop):Prop :=
 match d with
 | .bool b=>br b (A (bU t g (.bool b))) (B (bU t g (.bool b)))
 | _=>False
def wpS (d:D) (t:Nat->D) (g:Nat) (A B S:(Nat->D)->Prop):Prop :=
 match d with
 | .skp=>S t
 | d=>PY d t g A B
theorem xQ {t:Nat->D} {g:Nat} {b:Bool} {A B S:(Nat->D)->Prop} : wpS (.bool b) t g A B S=br b (A (bU t g (.bool b))) (B (bU t g (.bool b))):=rfl
def WX (ops:List Oper) (t:Nat->D) (gd:Option (Nat×Bool)) (A B:(Nat->D)->Prop):Prop :=
 match gd with
 | none=>A t
 | some (j,want)=>oF ((ops[j]?).bind (·.dst)) fun g=>wpS (t g) t g (if want then A else B) (if want then B else A) B
def P0 (T:Nat->Option Ty) (Γ:Env) (e:Nat) (o:Oper) (t:Nat->D) (h:Nat->Option Row) (K:(Nat->D)->bI->Prop):Prop :=
 match o.op with
 | .pick (.tmp c) a b=>PY (t c) t c (fun t=>K t ⟨ev t a,[]⟩) (fun t=>K t ⟨ev t b,[]⟩)
 | _=>oF (oS T Γ e o (ev t) h) (K t)
def Dj (T:Nat->Option Ty) (Γ:Env) (N e:Nat) (ops:List Oper):List Oper->(Nat->D)->(Nat->Option Row)->((Nat->D)->(Nat->Option Row)->Prop)->Prop
 | [],t,h,K=>K t h
 | o::l,t,h,K=>fits N o.dst=true∧WX ops t o.guard (fun t=>P0 T Γ e o t h fun t E=>Dj T Γ N e ops l (dP t o.dst E.val) (aF h E.hw) K) (fun t=>Dj T Γ N e ops l (dP t o.dst .skp) h K)
def runK (T:Nat->Option Ty) (Γ:Env) (N e:Nat) (ops:List Oper):List Oper->(Nat->D)->(Nat->Option Row)->List jE->((Nat->D)->(Nat->Option Row)->List jE->Prop)->Prop
 | [],t,h,fs,K=>K t h fs
 | o::l,t,h,fs,K=>fits N o.dst=true∧WX ops t o.guard (fun t=>P0 T Γ e o t h fun t E=>runK T Γ N e ops l (dP t o.dst E.val) (aF h E.hw) (fs++[⟨bg o (ev t),E.hw.isEmpty⟩]) K) (fun t=>runK T Γ N e ops l (dP t o.dst .skp) h (fs++[⟨[],true⟩]) K)
abbrev Kt:=Ex->(Nat->D)->(Nat->Option Row)->Nat->Prop
def aaG (x:Ex) (A:Prop) (B:Prop):Prop :=
 match x with
 | .normal=>A
 | _=>B
def Ui (id:Nat) (x:Ex) (t:Nat->D) (h:Nat->Option Row) (e:Nat) (K:Kt):Prop :=
 match x with
 | .exit n=>if n=id then K .normal t h e else K (.exit n) t h e
 | x=>K x t h e
def wpR (T:Nat->Option Ty) (Γ:Env) (N:Nat) (ops:Array Oper) (draw:Bool) (t:Nat->D) (h:Nat->Option Row) (e:Nat) (K:(Nat->D)->(Nat->Option Row)->Prop):Prop :=
 match draw with
 | true=>runK T Γ N e ops.toList ops.toList t h [] fun t h fs=>BL ops fs=true∧K t h
 | false=>Dj T Γ N e ops.toList ops.toList t h K
def I2 (T:Nat->Option Ty) (Γ:Env) (N F:Nat):Code->(Nat->D)->(Nat->Option Row)->Nat->Kt->Prop
 | .skip,t,h,e,K=>K .normal t h e
 | .region _ ops draw,t,h,e,K=>wpR T Γ N ops draw t h e fun t h=>K .normal t h (e+1)
 | .seq a b,t,h,e,K=>I2 T Γ N F a t h e fun x t h e=>aaG x (I2 T Γ N F b t h e K) (K x t h e)
 | .cond c x y,t,h,e,K =>
  match c with
  | .tmp g=>PY (t g) t g (fun t=>I2 T Γ N F x t h e K) (fun t=>I2 T Γ N F y t h e K)
  | .const (.bool true)=>I2 T Γ N F x t h e K
  | .const (.bool false)=>I2 T Γ N F y t h e K
  | _=>False
 | .block id b,t,h,e,K=>I2 T Γ N F b t h e fun x t h e=>Ui id x t h e K
 | .loop b,t,h,e,K=>∃x s,iter (fO T Γ N F b) F ⟨t,h,e⟩=some (x,s)∧K x s.t s.h s.e
 | .exit id,t,h,e,K=>K (.exit id) t h e
 | .ret,t,h,e,K=>K .ret t h e
 | _,_,_,_,_=>False
def Zi (mode:Mode) (T:Nat->Option Ty) (lent:Option (D×Row)) (rs:List ResultVar) (x:Ex) (t:Nat->D) (h:Nat->Option Row) (e:Nat) (r:RK×Option Row):Prop :=
 match x with
 | .exit _=>False
 | _=>jl mode T lent rs ⟨t,EH h,e⟩=some r
def wpf (mode:Mode) (T:Nat->Option Ty) (Γ:Env) (F:Nat) (fn:Func) (lent:Option (D×Row)) (args:List D) (r:RK×Option Row):Prop :=
 oF fn.body fun c=>I2 T Γ fn.ntmps F c (bT lent args).t (bT lent args).h (bT lent args).e fun x t h e=>Zi mode T lent fn.results.toList x t h e r
theorem rJ {α:Type} (a:α) (K:α->Prop):oF (some a) K=K a:=rfl
theorem CI {α:Type} {x:Option α} {K:α->Prop} (h:oF x K):∃a,x=some a∧K a:=by
 cases x with
 | none=>exact h.elim
 | some a=>exact⟨a,rfl,h⟩
theorem PU {t:Nat->D} {g:Nat} {d:D} (h:t g=d):bU t g d=t:=by
 funext j
 unfold bU
 split
 ·rename_i e;subst e;exact h.symm
 ·rfl
theorem Hw (A B:Prop):br true A B=A:=by simp[br]
theorem A6 (A B:Prop):br false A B=B:=by simp[br]
theorem Xd {b:Bool} {A B:Prop} (h:br b A B):if b then A else B:=by
 cases b with
 | true=>exact h.1 rfl
 | false=>exact h.2 rfl
theorem WV {t:Nat->D} {g:Nat} {b:Bool} {A B:(Nat->D)->Prop} : PY (.bool b) t g A B=br b (A (bU t g (.bool b))) (B (bU t g (.bool b))):=rfl
theorem xO {t:Nat->D} {g:Nat} {A B:(Nat->D)->Prop} (h:t g=.bool true):PY (.bool true) t g A B=A t:=by simp[PY,PU h,Hw]
theorem vl {t:Nat->D} {g:Nat} {A B:(Nat->D)->Prop} (h:t g=.bool false):PY (.bool false) t g A B=B t:=by simp[PY,PU h,A6]
theorem xR {t:Nat->D} {g:Nat} {A B S:(Nat->D)->Prop} (h:t g=.bool true):wpS (.bool true) t g A B S=A t:=xO h
theorem vo {t:Nat->D} {g:Nat} {A B S:(Nat->D)->Prop} (h:t g=.bool false):wpS (.bool false) t g A B S=B t:=vl h
theorem PZ {t:Nat->D} {g:Nat} {A B:(Nat->D)->Prop} (h:PY (t g) t g A B):∃b,t g=.bool b∧(if b then A t else B t):=by
 unfold PY at h
 split at h
 ·rename_i b hb
  rw[PU hb]at h
  exact⟨b,hb,Xd h⟩
 ·exact h.elim
section
variable {T:Nat->Option Ty} {Γ:Env} {N F e:Nat}
theorem WY {ops:Array Oper} {t:Nat->D} {o:Oper} {A B:(Nat->D)->Prop} (h:WX ops.toList t o.guard A B):∃b,tu ops t o=some b∧(if b then A t else B t):=by
 unfold WX at h
 unfold tu
 split at h
 ·rename_i hg
  try rw[hg]
  exact⟨true,rfl,by simpa using h⟩
 ·rename_i j want hg
  try rw[hg]
  obtain⟨g,h1,h2⟩:=CI h
  rw[adt]at h1
  unfold wpS at h2
  split at h2
  ·rename_i hs
   simp only[h1,hs]
   exact⟨false,rfl,h2⟩
  ·obtain⟨b,h3,h4⟩:=PZ h2
   simp only[h1,h3]
   refine⟨_,rfl,?_⟩
   cases b<;>cases want<;>simpa using h4
theorem WW {o:Oper} {t:Nat->D} {h:Nat->Option Row} {K:(Nat->D)->bI->Prop} (hw:P0 T Γ e o t h K):∃E,oS T Γ e o (ev t) h=some E∧K t E:=by
 unfold P0 at hw
 split at hw
 ·rename_i c a b ho
  obtain⟨v,h1,h2⟩:=PZ hw
  have hq:lL Γ e h o.dst none=none:=by cases o.dst<;>rfl
  cases v with
  | true=>exact⟨⟨ev t a,[]⟩,by unfold oS iH lK;rw[ho];simp only[ev,h1,W5,jC,gr,hq],by simpa only[if_true] using h2⟩
  | false=>exact⟨⟨ev t b,[]⟩,by unfold oS iH lK;rw[ho];simp only[ev,h1,W5,jC,gr,hq],by simpa only[adb,if_false] using h2⟩
 ·obtain⟨E,h1,h2⟩:=CI hw
  exact⟨E,h1,h2⟩
theorem IC {ops:Array Oper} {K:(Nat->D)->(Nat->Option Row)->Prop} : ∀(l:List Oper) (t:Nat->D) (h:Nat->Option Row),Dj T Γ N e ops.toList l t h K->∃t' h' fs,Ao T Γ N e ops l t h=some (t',h',fs)∧K t' h'
 | [],t,h,hk=>⟨t,h,[],rfl,hk⟩
 | o::l,t,h,hk=>by
  unfold Dj at hk
  obtain⟨hf,hg⟩:=hk
  obtain⟨b,h1,h2⟩:=WY hg
  unfold Ao tY
  rw[if_pos hf,h1]
  cases b with
  | true =>
   obtain⟨E,h3,h4⟩:=WW (by simpa using h2)
   obtain⟨t',h',fs,h5,h6⟩:=IC l _ _ h4
   simp only[h3,h5]
   exact⟨_,_,_,rfl,h6⟩
  | false =>
   obtain⟨t',h',fs,h5,h6⟩:=IC l _ _ (by simpa using h2)
   simp only[h5]
   exact⟨_,_,_,rfl,h6⟩
theorem IB {ops:Array Oper} {K:(Nat->D)->(Nat->Option Row)->List jE->Prop} : ∀(l:List Oper) (t:Nat->D) (h:Nat->Option Row) (f0:List jE),runK T Γ N e ops.toList l t h f0 K->∃t' h' fs,Ao T Γ N e ops l t h=some (t',h',fs)∧K t' h' (f0++fs)
 | [],t,h,f0,hk=>⟨t,h,[],rfl,by unfold runK at hk;simpa using hk⟩
 | o::l,t,h,f0,hk=>by
  unfold runK at hk
  obtain⟨hf,hg⟩:=hk
  obtain⟨b,h1,h2⟩:=WY hg
  unfold Ao tY
  rw[if_pos hf,h1]
  cases b with
  | true =>
   obtain⟨E,h3,h4⟩:=WW (by simpa using h2)
   obtain⟨t',h',fs,h5,h6⟩:=IB l _ _ _ h4
   simp only[h3,h5]
   exact⟨_,_,_,rfl,by simpa using h6⟩
  | false =>
   obtain⟨t',h',fs,h5,h6⟩:=IB l _ _ _ (by simpa using h2)
   simp only[h5]
   exact⟨_,_,_,rfl,by simpa using h6⟩
theorem ZU {ops:Array Oper} {draw:Bool} {t:Nat->D} {h:Nat->Option Row} {K:(Nat->D)->(Nat->Option Row)->Prop} (hk:wpR T Γ N ops draw t h e K):∃t' h',vg T Γ N ops draw ⟨t,h,e⟩=some (.normal,⟨t',h',e+1⟩)∧K t' h':=by
 unfold vg
 cases draw with
 | false =>
  obtain⟨t',h',fs,h1,h2⟩:=IC _ _ _ hk
  simp only[h1]
  exact⟨t',h',by simp,h2⟩
 | true =>
  obtain⟨t',h',fs,h1,h2,h3⟩:=IB _ _ _ _ hk
  simp only[h1]
  exact⟨t',h',by rw[aei]at h2;simp[h2],h3⟩
theorem IW:∀(c:Code) (t:Nat->D) (h:Nat->Option Row) (e:Nat) (K:Kt),I2 T Γ N F c t h e K->∃x s,fO T Γ N F c ⟨t,h,e⟩=some (x,s)∧K x s.t s.h s.e:=by
 intro c
 induction c with
 | skip=>intro t h e K hk;exact⟨_,_,rfl,hk⟩
 | region i ops draw =>
  intro t h e K hk
  obtain⟨t',h',h1,h2⟩:=ZU hk
  exact⟨_,_,h1,h2⟩
 | seq a b iha ihb =>
  intro t h e K hk
  obtain⟨x,s,h1,h2⟩:=iha _ _ _ _ hk
  simp only[fO,h1]
  cases x with
  | normal =>
   obtain⟨x2,s2,h3,h4⟩:=ihb _ _ _ _ h2
   exact⟨x2,s2,h3,h4⟩
  | exit n=>exact⟨_,_,rfl,h2⟩
  | ret=>exact⟨_,_,rfl,h2⟩
 | cond c x y ihx ihy =>
  intro t h e K hk
  unfold I2 at hk
  split at hk
  ·rename_i g
   obtain⟨b,h1,h2⟩:=PZ hk
   simp only[fO,ev,h1,NC]
   cases b with
   | true=>exact ihx _ _ _ _ (by simpa using h2)
   | false=>exact ihy _ _ _ _ (by simpa using h2)
  ·simpa only[fO,ev,m6,NC,if_true] using ihx _ _ _ _ hk
  ·simpa only[fO,ev,m6,NC,adb,if_false] using ihy _ _ _ _ hk
  ·exact hk.elim
 | block id b ih =>
  intro t h e K hk
  obtain⟨x,s,h1,h2⟩:=ih _ _ _ _ hk
  simp only[fO,h1]
  cases x with
  | normal=>exact⟨_,_,rfl,h2⟩
  | ret=>exact⟨_,_,rfl,h2⟩
  | exit n =>
   simp only[PW]
   unfold Ui at h2
   simp only at h2
   split at h2
   ·rename_i hn;rw[if_pos hn];exact⟨_,_,rfl,h2⟩
   ·rename_i hn;rw[if_neg hn];exact⟨_,_,rfl,h2⟩
 | loop b ih=>intro t h e K hk;exact hk
 | exit id=>intro t h e K hk;exact⟨_,_,rfl,hk⟩
 | ret=>intro t h e K hk;exact⟨_,_,rfl,hk⟩
 | _=>intro t h e K hk;exact hk.elim
theorem W0 {mode:Mode} {fn:Func} {lent:Option (D×Row)} {args:List D} {r:RK×Option Row} (h:wpf mode T Γ F fn lent args r) (hN:fn.ntmps<=PK):a7 mode T Γ F fn lent args=some r:=by
 obtain⟨c,h1,h2⟩:=CI h
 obtain⟨x,s,h3,h4⟩:=IW _ _ _ _ _ h2
 unfold a7
 simp only[h1]
 rw[if_pos hN]
 have e0:bT lent args=⟨(bT lent args).t,(bT lent args).h,(bT lent args).e⟩:=rfl
 rw[e0,h3]
 unfold Zi at h4
 split at h4
 ·exact h4.elim
 ·rename_i hx
  split
  ·rename_i n _ he;cases he;exact (hx n rfl).elim
  ·rename_i _ x' s' _ he
   cases he
   exact h4
  ·rename_i he;cases he
theorem Sm {α:Type} (f:Nat->α) (i:Nat) (v:α) (j:Nat):bU f i v j=if j=i then v else f j:=afp
def yj (args:List D) (i:Nat):D:=args.getD i .und
theorem I9 (i:Nat):yj [] i=.und:=by simp[yj]
theorem Er (d:D) (l:List D):yj (d::l) 0=d:=afp
theorem Ep (d:D) (l:List D) (i:Nat):yj (d::l) (i+1)=yj l i:=afp
def Mi (_:Nat):Option Row:=none
theorem Gk (i:Nat):Mi i=none:=afp
end
inductive W where
 | code (c:Code)
 | blk (id:Nat)
section
variable (T:Nat->Option Ty) (Γ:Env) (N F:Nat)
def cD:List W->Kt->Kt
 | [],Q=>Q
 | .code c::ws,Q=>fun x t h e=>aaG x (I2 T Γ N F c t h e (cD ws Q)) (cD ws Q x t h e)
 | .blk id::ws,Q=>fun x t h e=>Ui id x t h e (cD ws Q)
def kn (ops l:List Oper) (ws:List W) (Q:Kt) (t:Nat->D) (h:Nat->Option Row) (e:Nat):Prop :=
 Dj T Γ N e ops l t h fun t h=>cD T Γ N F ws Q .normal t h (e+1)
def ko (ops l:List Oper) (ws:List W) (Q:Kt) (t:Nat->D) (h:Nat->Option Row) (e:Nat) (fs:List jE):Prop :=
 runK T Γ N e ops l t h fs fun t h fs=>BL ops.toArray fs=true∧cD T Γ N F ws Q .normal t h (e+1)
def oc (o:Oper) (ops l:List Oper) (ws:List W) (Q:Kt) (t:Nat->D) (h:Nat->Option Row) (e:Nat):Prop :=
 P0 T Γ e o t h fun t E=>kn T Γ N F ops l ws Q (dP t o.dst E.val) (aF h E.hw) e
def od (o:Oper) (ops l:List Oper) (ws:List W) (Q:Kt) (t:Nat->D) (h:Nat->Option Row) (e:Nat) (fs:List jE):Prop :=
 P0 T Γ e o t h fun t E=>ko T Γ N F ops l ws Q (dP t o.dst E.val) (aF h E.hw) e (fs++[⟨bg o (ev t),E.hw.isEmpty⟩])
def vA (d:D) (g:Nat) (want:Bool) (o:Oper) (ops l:List Oper) (ws:List W) (Q:Kt) (t:Nat->D) (h:Nat->Option Row) (e:Nat):Prop :=
 wpS d t g (fun t=>if want then oc T Γ N F o ops l ws Q t h e else kn T Γ N F ops l ws Q (dP t o.dst .skp) h e) (fun t=>if want then kn T Γ N F ops l ws Q (dP t o.dst .skp) h e else oc T Γ N F o ops l ws Q t h e) (fun t=>kn T Γ N F ops l ws Q (dP t o.dst .skp) h e)
def vB (d:D) (g:Nat) (want:Bool) (o:Oper) (ops l:List Oper) (ws:List W) (Q:Kt) (t:Nat->D) (h:Nat->Option Row) (e:Nat) (fs:List jE):Prop :=
 wpS d t g (fun t=>if want then od T Γ N F o ops l ws Q t h e fs else ko T Γ N F ops l ws Q (dP t o.dst .skp) h e (fs++[⟨[],true⟩])) (fun t=>if want then ko T Γ N F ops l ws Q (dP t o.dst .skp) h e (fs++[⟨[],true⟩]) else od T Γ N F o ops l ws Q t h e fs) (fun t=>ko T Γ N F ops l ws Q (dP t o.dst .skp) h e (fs++[⟨[],true⟩]))
def Dt (x y:Option bI) (dst:Option Nat) (ops l:List Oper) (ws:List W) (Q:Kt) (t:Nat->D) (h:Nat->Option Row) (e:Nat):Prop :=
 oF (W5 h x y) fun E=>kn T Γ N F ops l ws Q (dP t dst E.val) (aF h E.hw) e
def Du (x y:Option bI) (dst:Option Nat) (ft:List Nat) (ops l:List Oper) (ws:List W) (Q:Kt) (t:Nat->D) (h:Nat->Option Row) (e:Nat) (fs:List jE):Prop :=
 oF (W5 h x y) fun E=>ko T Γ N F ops l ws Q (dP t dst E.val) (aF h E.hw) e (fs++[⟨ft,E.hw.isEmpty⟩])
def wS (x:Option bI) (dst:Option Nat) (ops l:List Oper) (ws:List W) (Q:Kt) (t:Nat->D) (h:Nat->Option Row) (e:Nat):Prop:=Dt T Γ N F x none dst ops l ws Q t h e
def wT (x:Option bI) (dst:Option Nat) (ft:List Nat) (ops l:List Oper) (ws:List W) (Q:Kt) (t:Nat->D) (h:Nat->Option Row) (e:Nat) (fs:List jE):Prop:=Du T Γ N F x none dst ft ops l ws Q t h e fs
def Ef (y:Option bI) (dst:Option Nat) (ops l:List Oper) (ws:List W) (Q:Kt) (t:Nat->D) (h:Nat->Option Row) (e:Nat):Prop :=
 oF y fun E=>kn T Γ N F ops l ws Q (dP t dst E.val) (aF h E.hw) e
def Eg (y:Option bI) (dst:Option Nat) (ft:List Nat) (ops l:List Oper) (ws:List W) (Q:Kt) (t:Nat->D) (h:Nat->Option Row) (e:Nat) (fs:List jE):Prop :=
 oF y fun E=>ko T Γ N F ops l ws Q (dP t dst E.val) (aF h E.hw) e (fs++[⟨ft,E.hw.isEmpty⟩])
def IQ (d:D) (g:Nat) (x y:Code) (ws:List W) (Q:Kt) (t:Nat->D) (h:Nat->Option Row) (e:Nat):Prop :=
 PY d t g (fun t=>cD T Γ N F (.code x::ws) Q .normal t h e) (fun t=>cD T Γ N F (.code y::ws) Q .normal t h e)
def VT (d:D) (g:Nat) (a b:Operand) (dst:Option Nat) (ops l:List Oper) (ws:List W) (Q:Kt) (t:Nat->D) (h:Nat->Option Row) (e:Nat):Prop :=
 PY d t g (fun t=>kn T Γ N F ops l ws Q (dP t dst (ev t a)) h e) (fun t=>kn T Γ N F ops l ws Q (dP t dst (ev t b)) h e)
def VU (d:D) (g:Nat) (a b:Operand) (dst:Option Nat) (ops l:List Oper) (ws:List W) (Q:Kt) (t:Nat->D) (h:Nat->Option Row) (e:Nat) (fs:List jE):Prop :=
 PY d t g (fun t=>ko T Γ N F ops l ws Q (dP t dst (ev t a)) h e (fs++[⟨[],true⟩])) (fun t=>ko T Γ N F ops l ws Q (dP t dst (ev t b)) h e (fs++[⟨[],true⟩]))
def RR (b:Code) (ws:List W) (Q:Kt) (t:Nat->D) (h:Nat->Option Row) (e:Nat):Prop:=I2 T Γ N F (.loop b) t h e (cD T Γ N F ws Q)
end
theorem FZ {n:Nat} (h:n<=1000000):n<=maxLen:=acD h (by decide)
theorem GK {z:List D} : l8 0 z=[]:=afp
theorem GJ {n:Nat} {z:List D} : l8 (n+1) z=z++l8 n z:=by simp[l8,List.replicate_succ]
theorem FE {N:Nat} : fits N none=true:=afp
theorem FF {N i:Nat} : fits N (some i)=decide (i<N):=afp
def tf:List Oper->Nat->Nat
 | [],_=>0
 | o::_,0=>o.dst.getD 0
 | _::l,j+1=>tf l j
def xp:List Oper->Nat->Bool
 | [],_=>false
 | o::_,0=>o.dst.isSome
 | _::l,j+1=>xp l j
theorem BH:∀(l:List Oper) (j:Nat),xp l j=true->(l[j]?).bind (·.dst)=some (tf l j)
 | [],j,h=>by simp[xp]at h
 | o::l,0,h=>by
  simp only[xp]at h
  simp only[List.getElem?_cons_zero,Option.bind_some,tf]
  cases hd:o.dst with
  | none=>rw[hd]at h;cases h
  | some d=>rfl
 | o::l,j+1,h=>by simpa [tf] using BH l j h
theorem BJ {d:Nat} {op:Op} {ty:Nat} {pos:String} {af:Array Edge} {gd:Option (Nat×Bool)} {l:List Oper} : tf (⟨some d,op,ty,pos,af,gd⟩::l) 0=d:=afp
theorem BI {o:Oper} {l:List Oper} {j:Nat} : tf (o::l) (j+1)=tf l j:=afp
theorem Ci {d:Nat} {op:Op} {ty:Nat} {pos:String} {af:Array Edge} {gd:Option (Nat×Bool)} {l:List Oper} : xp (⟨some d,op,ty,pos,af,gd⟩::l) 0=true:=afp
theorem Ch {o:Oper} {l:List Oper} {j:Nat} : xp (o::l) (j+1)=xp l j:=afp
section
variable {dst:Option Nat} {ty:Nat} {pos:String} {af:Array Edge} {gd:Option (Nat×Bool)} {vs:Operand->D}
def xx (vs:Operand->D):List Operand->List Nat
 | []=>[]
 | x::l=>nm (vs x)++xx vs l
theorem eU (vs:Operand->D):∀l:List Operand,(l.flatMap fun x=>nm (vs x))=xx vs l
 | []=>Eq.trans rfl rfl
 | x::l=>by rw[List.flatMap_cons,eU vs l];exact Eq.trans rfl rfl
theorem RA:xx vs []=[]:=afp
theorem Mg {x:Operand} {l:List Operand} : xx vs (x::l)=nm (vs x)++xx vs l:=afp
theorem zT {o:BinOp} {tt z:Nat} {x y:Operand} : bg ⟨dst,.binOp o tt x y z,ty,pos,af,gd⟩ vs=(xx vs [x,y]++dst.toList).map rt:=by rw[<- eU];rfl
theorem Dy {o:UnOp} {tt:Nat} {x:Operand} : bg ⟨dst,.unOp o tt x,ty,pos,af,gd⟩ vs=(xx vs [x]++dst.toList).map rt:=by rw[<- eU];rfl
theorem xK {x:Operand} : bg ⟨dst,.assign x,ty,pos,af,gd⟩ vs=(xx vs [x]++dst.toList).map rt:=by rw[<- eU];rfl
theorem Dx {tt:Nat} {x:Operand} : bg ⟨dst,.load tt x,ty,pos,af,gd⟩ vs=(xx vs [x]++dst.toList).map rt:=by rw[<- eU];rfl
theorem zY {tt:Nat} {x y:Operand} : bg ⟨dst,.store tt x y,ty,pos,af,gd⟩ vs=(xx vs [x,y]++dst.toList).map rt:=by rw[<- eU];rfl
theorem tZ {x:Operand} : bg ⟨dst,.nilCheck x,ty,pos,af,gd⟩ vs=(xx vs [x]++dst.toList).map rt:=by rw[<- eU];rfl
theorem sw {tt i:Nat} {x:Operand} : bg ⟨dst,.fieldAddr tt x i,ty,pos,af,gd⟩ vs=(xx vs [x]++dst.toList).map rt:=by rw[<- eU];rfl
theorem zV {tt i:Nat} {x:Operand} : bg ⟨dst,.field tt x i,ty,pos,af,gd⟩ vs=(xx vs [x]++dst.toList).map rt:=by rw[<- eU];rfl
theorem sA {tt:Nat} {x i:Operand} : bg ⟨dst,.indexAddr tt x i,ty,pos,af,gd⟩ vs=(xx vs [x,i]++dst.toList).map rt:=by rw[<- eU];rfl
theorem zW {tt:Nat} {x i:Operand} : bg ⟨dst,.index tt x i,ty,pos,af,gd⟩ vs=(xx vs [x,i]++dst.toList).map rt:=by rw[<- eU];rfl
theorem sB {tt:Nat} {x y:Operand} : bg ⟨dst,.makeSlice tt x y,ty,pos,af,gd⟩ vs=(xx vs [x,y]++dst.toList).map rt:=by rw[<- eU];rfl
theorem zS {tt:Nat} : bg ⟨dst,.alloc tt,ty,pos,af,gd⟩ vs=(xx vs []++dst.toList).map rt:=by rw[<- eU];rfl
theorem Hj {tt:Nat} {x:Operand} : bg ⟨dst,.box tt x,ty,pos,af,gd⟩ vs=(xx vs [x]++dst.toList).map rt:=by rw[<- eU];rfl
theorem vY {tt:Nat} : bg ⟨dst,.makeMap tt none,ty,pos,af,gd⟩ vs=(xx vs []++dst.toList).map rt:=by rw[<- eU];rfl
theorem xM {tt:Nat} {m i:Operand} {ok:Bool} : bg ⟨dst,.lookup tt m i ok,ty,pos,af,gd⟩ vs=(xx vs [m,i]++dst.toList).map rt:=by rw[<- eU];rfl
theorem sC {tt:Nat} {m i x:Operand} : bg ⟨dst,.mapUpdate tt m i x,ty,pos,af,gd⟩ vs=(xx vs [m,i,x]++dst.toList).map rt:=by rw[<- eU];rfl
theorem xL {tt:Nat} {m i x:Operand} : bg ⟨dst,.insert tt m i x,ty,pos,af,gd⟩ vs=(xx vs [m,i,x]++dst.toList).map rt:=by rw[<- eU];rfl
theorem vW {a b:Nat} {x:Operand} : bg ⟨dst,.convert a b x,ty,pos,af,gd⟩ vs=(xx vs [x]++dst.toList).map rt:=by rw[<- eU];rfl
theorem vX {x:Operand} {i:Nat} : bg ⟨dst,.extract x i,ty,pos,af,gd⟩ vs=(xx vs [x]++dst.toList).map rt:=by rw[<- eU];rfl
theorem zU {tt:Nat} {ps:List (Nat×Operand)} : bg ⟨dst,.build tt ps.toArray,ty,pos,af,gd⟩ vs=(xx vs (ps.map (·.2))++dst.toList).map rt:=by rw[<- eU];rfl
theorem qq {tt len:Nat} {ps:List (Nat×Operand)} : bg ⟨dst,.buildSlice tt len ps.toArray,ty,pos,af,gd⟩ vs=(xx vs (ps.map (·.2))++dst.toList).map rt:=by rw[<- eU];rfl
theorem zX {tt:Nat} {x:Operand} {lo hi mx:Option Operand} : bg ⟨dst,.slice tt x lo hi mx,ty,pos,af,gd⟩ vs=(xx vs (x::(lo.toList++(hi.toList++mx.toList)))++dst.toList).map rt:=by
 rw[<- eU];cases lo<;>cases hi<;>cases mx<;>rfl
theorem Dw {x:Operand} {l:List Operand} {tys:Array Nat} : bg ⟨dst,.call ⟨.value x,l.toArray,tys⟩,ty,pos,af,gd⟩ vs=(xx vs (x::l)++dst.toList).map rt:=by
 rw[<- eU];simp[bg,gC,Op.operands,Call.operands]
theorem vV {x:Builtin} {l:List Operand} {tys:Array Nat} : bg ⟨dst,.call ⟨.builtin x,l.toArray,tys⟩,ty,pos,af,gd⟩ vs=(xx vs l++dst.toList).map rt:=by
 rw[<- eU];simp[bg,gC,Op.operands,Call.operands]
end
section
variable {T:Nat->Option Ty} {ty e:Nat} {dst:Option Nat} {h:Nat->Option Row}
theorem Qp {k:IntKind} {n:Int} : bE T ty e dst h (.int k n)=some ⟨.int k n,[]⟩:=afp
theorem Ja {b:Bool} : bE T ty e dst h (.bool b)=some ⟨.bool b,[]⟩:=afp
theorem Qt {b:ByteArray} : bE T ty e dst h (.str b)=some ⟨.str b,[]⟩:=afp
theorem Uf {tg:Bool} {n:Nat} {xs:List D} : bE T ty e dst h (.sl false tg n xs)=some ⟨.sl false tg n xs,[]⟩:=afp
theorem Qs {x v o:Nat} : bE T ty e dst h (.ptr x v o)=some ⟨.ptr x v o,[]⟩:=afp
theorem Uc {xs:List D} : bE T ty e dst h (.ip xs)=some ⟨.ip xs,[]⟩:=afp
theorem Qn {xs:List D} : bE T ty e dst h (.agg xs)=some ⟨.agg xs,[]⟩:=afp
theorem Qu {xs:List D} : bE T ty e dst h (.tup xs)=some ⟨.tup xs,[]⟩:=afp
theorem Ub {f:Nat} : bE T ty e dst h (.fn f)=some ⟨.fn f,[]⟩:=afp
theorem Ud {x v:Nat} : bE T ty e dst h (.mp x v)=some ⟨.mp x v,[]⟩:=afp
theorem Qq {ks:List Int} {vs:List D} : bE T ty e dst h (.mpc ks vs)=some ⟨.mpc ks vs,[]⟩:=afp
theorem Ue {x v y:Nat} : bE T ty e dst h (.pm x v y)=some ⟨.pm x v y,[]⟩:=afp
theorem Au {f kk:Nat} {xs:List D} : bE T ty e dst h (.clo f kk xs)=some ⟨.clo f kk xs,[]⟩:=afp
def Y4 (b:Bool) (T:Nat->Option Ty) (ty e d:Nat) (h:Nat->Option Row) (x:D):Option bI:=if b then bE T ty e (some d) h x else gJ h x
theorem Ew {d:Nat} {x:D} : Y4 true T ty e d h x=bE T ty e (some d) h x:=afp
theorem A2 {d:Nat} {x:D} : Y4 false T ty e d h x=gJ h x:=afp
theorem Yh {q:Nat->Bool} {d:Nat} {x:D} : pS T q ty e (some d) h x=Y4 (q d) T ty e d h x:=afp
theorem Qk {k:IntKind} {n:Int} : gJ h (.int k n)=some ⟨.int k n,[]⟩:=afp
theorem I5 {b:Bool} : gJ h (.bool b)=some ⟨.bool b,[]⟩:=afp
theorem Ql {b:ByteArray} : gJ h (.str b)=some ⟨.str b,[]⟩:=afp
theorem Qi {xs:List D} : gJ h (.agg xs)=some ⟨.agg (xs.map canon),[]⟩:=afp
theorem T3 {a b:Bool} {n:Nat} {xs:List D} : gJ h (.sl a b n xs)=some ⟨.sl false false n xs,[]⟩:=afp
theorem Qv:bE T ty e dst h .und=some ⟨.und,[]⟩:=afp
def Xb (e d y s o n:Nat) (r:Row):Bool->Option bI
 | true=>some ⟨.buf y r.v s o n,[]⟩
 | false=>some ⟨.buf d e s o n,[(y,none),(d,some { r with v:=e })]⟩
theorem A1 {d y s o n:Nat} {r:Row} : Xb e d y s o n r false=some ⟨.buf d e s o n,[(y,none),(d,some { r with v:=e })]⟩:=afp
def Y3 (y v s o n:Nat):Option Row->Option bI
 | some _=>some ⟨.buf y v s o n,[]⟩
 | none=>some ⟨.und,[]⟩
theorem Es {y v s o n:Nat} {r:Row} : Y3 y v s o n (some r)=some ⟨.buf y v s o n,[]⟩:=afp
def Ua (e:Nat) (dst:Option Nat) (y s o n:Nat) (w:Option bI):Option Row->Option bI
 | some r=>match dst with|some d=>Xb e d y s o n r r.fz|none=>w
 | none=>w
theorem Eu {d y s o n:Nat} {r:Row} {w:Option bI} : Ua e (some d) y s o n w (some r)=Xb e d y s o n r r.fz:=afp
theorem Et {d y s o n:Nat} {w:Option bI} : Ua e (some d) y s o n w none=w:=afp
theorem Qo {d y v s o n:Nat} : bE T ty e (some d) h (.buf y v s o n)=Ua e (some d) y s o n (Y3 y v s o n (mJ h y v)) (live h y v):=by
 simp only[bE]
 cases hl:live h y v with
 | none=>simp only[Ua];cases mJ h y v<;>simp[Y3]
 | some r =>
  obtain⟨_,hv⟩:=bQ hl
  simp only[Ua]
  cases hz:r.fz<;>simp[Xb,hv,hz]
def Xc (e:Nat) (dst:Option Nat) (T:Nat->Option Ty):Option Ty->Option bI
 | some τ =>
  match dst with
  | some d=>match τ.ds with
   | .slice el=>match T el with|some φ=>some ⟨.buf d e φ.size 0 0,[(d,some ⟨e,el,[],false,true,false⟩)]⟩|none=>none
   | _=>none
  | none=>none
 | none=>none
theorem Ev {d el b c:Nat} {z:List Value} {q:Bool} {φ:Ty} (hφ:T el=some φ):Xc e (some d) T (some ⟨.slice el,b,c,z,q⟩)=some ⟨.buf d e φ.size 0 0,[(d,some ⟨e,el,[],false,true,false⟩)]⟩:=by simp only[Xc,hφ]
theorem Qr:bE T ty e dst h (.sl true true 0 [])=Xc e dst T (T ty):=by
 unfold bE Xc
 cases dst<;>cases T ty<;>rfl
end
def YK (x:Option D):Option bI:=match x with|some d=>some ⟨d,[]⟩|none=>none
theorem Mw (d:D):YK (some d)=some ⟨d,[]⟩:=afp
def wF (x:Option Ty) (f:Ty->Option bI):Option bI:=match x with|some τ=>f τ|none=>none
theorem MH (τ:Ty) (f:Ty->Option bI):wF (some τ) f=f τ:=afp
def Y5 (x:Option (List D×List Nat)) (h:Nat->Option Row) (ty d e:Nat):Option bI :=
 match x with
 | some (cs,fr)=>if fr.contains d=false then some ⟨.ptr d e 0,ik h fr++[(d,some ⟨e,ty,cs,false,false,false⟩)]⟩ else none
 | none=>none
theorem EB (cs:List D) (fr:List Nat) (h:Nat->Option Row) (ty d e:Nat):Y5 (some (cs,fr)) h ty d e=if fr.contains d=false then some ⟨.ptr d e 0,ik h fr++[(d,some ⟨e,ty,cs,false,false,false⟩)]⟩ else none:=afp
def XM (d e:Nat):Option Nat->D
 | some y =>.pm d e y
 | none =>.ptr d e 0
theorem Gx {d e y:Nat} : XM d e (some y)=.pm d e y:=afp
theorem Gw {d e:Nat} : XM d e none=.ptr d e 0:=afp
def AZ (x:Option Ty) (ty d e:Nat) (y:Option Nat):Option bI :=
 match x with
 | some τ=>if (τ.zero.map m6).all aT then some ⟨XM d e y,[(d,some ⟨e,ty,τ.zero.map m6,false,false,false⟩)]⟩ else none
 | none=>none
theorem yW (τ:Ty) (ty d e:Nat) (y:Option Nat):AZ (some τ) ty d e y=if (τ.zero.map m6).all aT then some ⟨XM d e y,[(d,some ⟨e,ty,τ.zero.map m6,false,false,false⟩)]⟩ else none:=afp
def aat (T:Nat->Option Ty) (x:Option Ty) (ty e d:Nat):Option bI:=match x with|some τ=>oo T ty τ e d|none=>none
def UA (x y:Option Ty) (d:D):Option bI :=
 match x,y,d with
 | some τ,some _,.int _ n=>(match τ.ds with | .int k=>some ⟨.int k (k.wrap n),[]⟩|_=>none)
 | _,_,_=>none
theorem E1 (k:IntKind) (b c:Nat) (z:List Value) (q:Bool) (σ:Ty) (k':IntKind) (n:Int):UA (some ⟨.int k,b,c,z,q⟩) (some σ) (.int k' n)=some ⟨.int k (k.wrap n),[]⟩:=afp
def Xr (d:D) (i:Nat):Option bI:=match d with | .tup xs=>(match xs[i]? with|some d=>some ⟨d,[]⟩|none=>none)|_=>none
theorem Kq (xs:List D) (i:Nat):Xr (.tup xs) i=YK xs[i]?:=by simp only[Xr,YK]
section
variable {T:Nat->Option Ty} {Γ:Env} {N F e:Nat} {ws:List W} {Q:Kt} {t:Nat->D} {h:Nat->Option Row}
theorem eH {x:Ex} : cD T Γ N F [] Q x t h e=Q x t h e:=afp
theorem GU:cD T Γ N F (.code .skip::ws) Q .normal t h e=cD T Γ N F ws Q .normal t h e:=afp
theorem M0 {a b:Code} : cD T Γ N F (.code (.seq a b)::ws) Q .normal t h e=cD T Γ N F (.code a :: .code b::ws) Q .normal t h e:=afp
theorem MZ:cD T Γ N F (.code .ret::ws) Q .normal t h e=cD T Γ N F ws Q .ret t h e:=afp
theorem GR {id:Nat} : cD T Γ N F (.code (.exit id)::ws) Q .normal t h e=cD T Γ N F ws Q (.exit id) t h e:=afp
theorem Dk {id:Nat} {b:Code} : cD T Γ N F (.code (.block id b)::ws) Q .normal t h e=cD T Γ N F (.code b :: .blk id::ws) Q .normal t h e:=afp
theorem GS {b:Code} : cD T Γ N F (.code (.loop b)::ws) Q .normal t h e=RR T Γ N F b ws Q t h e:=afp
theorem bP {c:Code} : cD T Γ N F (.code c::ws) Q .ret t h e=cD T Γ N F ws Q .ret t h e:=afp
theorem bH {c:Code} {n:Nat} : cD T Γ N F (.code c::ws) Q (.exit n) t h e=cD T Γ N F ws Q (.exit n) t h e:=afp
theorem su {id:Nat} : cD T Γ N F (.blk id::ws) Q .normal t h e=cD T Γ N F ws Q .normal t h e:=afp
theorem b7 {id:Nat} : cD T Γ N F (.blk id::ws) Q .ret t h e=cD T Γ N F ws Q .ret t h e:=afp
theorem vU {id n:Nat} : cD T Γ N F (.blk id::ws) Q (.exit n) t h e=if n=id then cD T Γ N F ws Q .normal t h e else cD T Γ N F ws Q (.exit n) t h e:=afp
theorem zR {i:Nat} {ops:List Oper} : cD T Γ N F (.code (.region i ops.toArray false)::ws) Q .normal t h e=kn T Γ N F ops ops ws Q t h e:=afp
theorem Dn {i:Nat} {ops:List Oper} : cD T Γ N F (.code (.region i ops.toArray true)::ws) Q .normal t h e=ko T Γ N F ops ops ws Q t h e []:=afp
theorem GQ {g:Nat} {x y:Code} : cD T Γ N F (.code (.cond (.tmp g) x y)::ws) Q .normal t h e=IQ T Γ N F (t g) g x y ws Q t h e:=afp
theorem Dm {x y:Code} : cD T Γ N F (.code (.cond (.const (.bool true)) x y)::ws) Q .normal t h e=cD T Γ N F (.code x::ws) Q .normal t h e:=afp
theorem Dl {x y:Code} : cD T Γ N F (.code (.cond (.const (.bool false)) x y)::ws) Q .normal t h e=cD T Γ N F (.code y::ws) Q .normal t h e:=afp
theorem Hl {g:Nat} {x y:Code} (hg:t g=.bool true):IQ T Γ N F (.bool true) g x y ws Q t h e=cD T Γ N F (.code x::ws) Q .normal t h e:=xO hg
theorem DA {g:Nat} {x y:Code} (hg:t g=.bool false):IQ T Γ N F (.bool false) g x y ws Q t h e=cD T Γ N F (.code y::ws) Q .normal t h e:=vl hg
theorem TD {b:Bool} {g:Nat} {x y:Code} : IQ T Γ N F (.bool b) g x y ws Q t h e=br b (cD T Γ N F (.code x::ws) Q .normal (bU t g (.bool true)) h e) (cD T Γ N F (.code y::ws) Q .normal (bU t g (.bool false)) h e):=by
 unfold IQ;rw[WV];cases b<;>simp[br]
variable {ops l:List Oper} {dst:Option Nat} {op:Op} {ty:Nat} {pos:String} {af:Array Edge} {gd:Option (Nat×Bool)} {fs:List jE}
theorem MX:kn T Γ N F ops [] ws Q t h e=cD T Γ N F ws Q .normal t h (e+1):=afp
theorem GO (hf:fits N dst=true):kn T Γ N F ops (⟨dst,op,ty,pos,af,none⟩::l) ws Q t h e=oc T Γ N F ⟨dst,op,ty,pos,af,none⟩ ops l ws Q t h e:=by
 simp only[kn,Dj,WX,hf,true_and,oc]
theorem Dh {j:Nat} {want:Bool} (hf:fits N dst=true) (hj:xp ops j=true):kn T Γ N F ops (⟨dst,op,ty,pos,af,some (j,want)⟩::l) ws Q t h e=vA T Γ N F (t (tf ops j)) (tf ops j) want ⟨dst,op,ty,pos,af,none⟩ ops l ws Q t h e:=by
 simp only[kn,Dj,WX,hf,true_and,BH ops j hj,rJ,vA]
 cases want<;>rfl
theorem Nx {g:Nat} {want:Bool} {o:Oper} : vA T Γ N F .skp g want o ops l ws Q t h e=kn T Γ N F ops l ws Q (dP t o.dst .skp) h e:=afp
theorem Hm {g:Nat} {o:Oper} (hg:t g=.bool true):vA T Γ N F (.bool true) g true o ops l ws Q t h e=oc T Γ N F o ops l ws Q t h e:=(xR hg).trans (if_pos rfl)
theorem DB {g:Nat} {o:Oper} (hg:t g=.bool false):vA T Γ N F (.bool false) g true o ops l ws Q t h e=kn T Γ N F ops l ws Q (dP t o.dst .skp) h e:=(vo hg).trans (if_pos rfl)
theorem DC {g:Nat} {o:Oper} (hg:t g=.bool true):vA T Γ N F (.bool true) g false o ops l ws Q t h e=kn T Γ N F ops l ws Q (dP t o.dst .skp) h e:=(xR hg).trans (if_neg (by decide))
theorem zZ {g:Nat} {o:Oper} (hg:t g=.bool false):vA T Γ N F (.bool false) g false o ops l ws Q t h e=oc T Γ N F o ops l ws Q t h e:=(vo hg).trans (if_neg (by decide))
theorem TE {b:Bool} {g:Nat} {o:Oper} : vA T Γ N F (.bool b) g true o ops l ws Q t h e=br b (oc T Γ N F o ops l ws Q (bU t g (.bool true)) h e) (kn T Γ N F ops l ws Q (dP (bU t g (.bool false)) o.dst .skp) h e):=by
 unfold vA;rw[xQ];cases b<;>simp[br]
theorem PR {b:Bool} {g:Nat} {o:Oper} : vA T Γ N F (.bool b) g false o ops l ws Q t h e=br b (kn T Γ N F ops l ws Q (dP (bU t g (.bool true)) o.dst .skp) h e) (oc T Γ N F o ops l ws Q (bU t g (.bool false)) h e):=by
 unfold vA;rw[xQ];cases b<;>simp[br]
theorem MY:ko T Γ N F ops [] ws Q t h e fs=(BL ops.toArray fs=true∧cD T Γ N F ws Q .normal t h (e+1)):=afp
theorem GP (hf:fits N dst=true):ko T Γ N F ops (⟨dst,op,ty,pos,af,none⟩::l) ws Q t h e fs=od T Γ N F ⟨dst,op,ty,pos,af,none⟩ ops l ws Q t h e fs:=by
 simp only[ko,runK,WX,hf,true_and,od]
theorem Di {j:Nat} {want:Bool} (hf:fits N dst=true) (hj:xp ops j=true):ko T Γ N F ops (⟨dst,op,ty,pos,af,some (j,want)⟩::l) ws Q t h e fs=vB T Γ N F (t (tf ops j)) (tf ops j) want ⟨dst,op,ty,pos,af,none⟩ ops l ws Q t h e fs:=by
 simp only[ko,runK,WX,hf,true_and,BH ops j hj,rJ,vB]
 cases want<;>rfl
theorem Ny {g:Nat} {want:Bool} {o:Oper} : vB T Γ N F .skp g want o ops l ws Q t h e fs=ko T Γ N F ops l ws Q (dP t o.dst .skp) h e (fs++[⟨[],true⟩]):=afp
theorem Hn {g:Nat} {o:Oper} (hg:t g=.bool true):vB T Γ N F (.bool true) g true o ops l ws Q t h e fs=od T Γ N F o ops l ws Q t h e fs:=(xR hg).trans (if_pos rfl)
theorem DD {g:Nat} {o:Oper} (hg:t g=.bool false):vB T Γ N F (.bool false) g true o ops l ws Q t h e fs=ko T Γ N F ops l ws Q (dP t o.dst .skp) h e (fs++[⟨[],true⟩]):=(vo hg).trans (if_pos rfl)
theorem DE {g:Nat} {o:Oper} (hg:t g=.bool true):vB T Γ N F (.bool true) g false o ops l ws Q t h e fs=ko T Γ N F ops l ws Q (dP t o.dst .skp) h e (fs++[⟨[],true⟩]):=(xR hg).trans (if_neg (by decide))
theorem z6 {g:Nat} {o:Oper} (hg:t g=.bool false):vB T Γ N F (.bool false) g false o ops l ws Q t h e fs=od T Γ N F o ops l ws Q t h e fs:=(vo hg).trans (if_neg (by decide))
theorem TF {b:Bool} {g:Nat} {o:Oper} : vB T Γ N F (.bool b) g true o ops l ws Q t h e fs=br b (od T Γ N F o ops l ws Q (bU t g (.bool true)) h e fs) (ko T Γ N F ops l ws Q (dP (bU t g (.bool false)) o.dst .skp) h e (fs++[⟨[],true⟩])):=by
 unfold vB;rw[xQ];cases b<;>simp[br]
theorem PS {b:Bool} {g:Nat} {o:Oper} : vB T Γ N F (.bool b) g false o ops l ws Q t h e fs=br b (ko T Γ N F ops l ws Q (dP (bU t g (.bool true)) o.dst .skp) h e (fs++[⟨[],true⟩])) (od T Γ N F o ops l ws Q (bU t g (.bool false)) h e fs):=by
 unfold vB;rw[xQ];cases b<;>simp[br]
theorem Nl {d:D} {hw:List (Nat×Option Row)} : wS T Γ N F (some ⟨d,hw⟩) dst ops l ws Q t h e=kn T Γ N F ops l ws Q (dP t dst d) (aF h (jC h hw)) e:=afp
theorem Nt {d:D} {hw:List (Nat×Option Row)} {ft:List Nat} : wT T Γ N F (some ⟨d,hw⟩) dst ft ops l ws Q t h e fs=ko T Γ N F ops l ws Q (dP t dst d) (aF h (jC h hw)) e (fs++[⟨ft,(jC h hw).isEmpty⟩]):=afp
theorem RZ {c:Prop} [Decidable c] {E:bI} : wS T Γ N F (if c then some E else none) dst ops l ws Q t h e=(c∧wS T Γ N F (some E) dst ops l ws Q t h e):=by
 by_cases hc:c<;>simp[hc,wS,Dt,W5,oF]
theorem R4 {c:Prop} [Decidable c] {E:bI} {ft:List Nat} : wT T Γ N F (if c then some E else none) dst ft ops l ws Q t h e fs=(c∧wT T Γ N F (some E) dst ft ops l ws Q t h e fs):=by
 by_cases hc:c<;>simp[hc,wT,Du,W5,oF]
theorem G3 {E:bI} {y:Option bI} : Dt T Γ N F (some E) y dst ops l ws Q t h e=wS T Γ N F (some E) dst ops l ws Q t h e:=afp
theorem Hd {E:bI} {y:Option bI} {ft:List Nat} : Du T Γ N F (some E) y dst ft ops l ws Q t h e fs=wT T Γ N F (some E) dst ft ops l ws Q t h e fs:=afp
theorem G2 {y:Option bI} : Dt T Γ N F none y dst ops l ws Q t h e=Ef T Γ N F y dst ops l ws Q t h e:=afp
theorem Hc {y:Option bI} {ft:List Nat} : Du T Γ N F none y dst ft ops l ws Q t h e fs=Eg T Γ N F y dst ft ops l ws Q t h e fs:=afp
theorem RY {x:Option bI} : Dt T Γ N F x none dst ops l ws Q t h e=wS T Γ N F x dst ops l ws Q t h e:=afp
theorem R3 {x:Option bI} {ft:List Nat} : Du T Γ N F x none dst ft ops l ws Q t h e fs=wT T Γ N F x dst ft ops l ws Q t h e fs:=afp
theorem G4 {d:D} {hw:List (Nat×Option Row)} : Ef T Γ N F (some ⟨d,hw⟩) dst ops l ws Q t h e=kn T Γ N F ops l ws Q (dP t dst d) (aF h hw) e:=afp
theorem He {d:D} {hw:List (Nat×Option Row)} {ft:List Nat} : Eg T Γ N F (some ⟨d,hw⟩) dst ft ops l ws Q t h e fs=ko T Γ N F ops l ws Q (dP t dst d) (aF h hw) e (fs++[⟨ft,hw.isEmpty⟩]):=afp
theorem Nk {c:Prop} [Decidable c] {E:bI} : Ef T Γ N F (if c then some E else none) dst ops l ws Q t h e=(c∧Ef T Γ N F (some E) dst ops l ws Q t h e):=by
 by_cases hc:c<;>simp[hc,Ef,oF]
theorem Ns {c:Prop} [Decidable c] {E:bI} {ft:List Nat} : Eg T Γ N F (if c then some E else none) dst ft ops l ws Q t h e fs=(c∧Eg T Γ N F (some E) dst ft ops l ws Q t h e fs):=by
 by_cases hc:c<;>simp[hc,Eg,oF]
theorem CZ {g:Nat} {a b:Operand} (hg:t g=.bool true):VT T Γ N F (.bool true) g a b dst ops l ws Q t h e=kn T Γ N F ops l ws Q (dP t dst (ev t a)) h e:=xO hg
theorem zI {g:Nat} {a b:Operand} (hg:t g=.bool false):VT T Γ N F (.bool false) g a b dst ops l ws Q t h e=kn T Γ N F ops l ws Q (dP t dst (ev t b)) h e:=vl hg
theorem C0 {g:Nat} {a b:Operand} (hg:t g=.bool true):VU T Γ N F (.bool true) g a b dst ops l ws Q t h e fs=ko T Γ N F ops l ws Q (dP t dst (ev t a)) h e (fs++[⟨[],true⟩]):=xO hg
theorem zJ {g:Nat} {a b:Operand} (hg:t g=.bool false):VU T Γ N F (.bool false) g a b dst ops l ws Q t h e fs=ko T Γ N F ops l ws Q (dP t dst (ev t b)) h e (fs++[⟨[],true⟩]):=vl hg
theorem JY {c:Nat} {a b:Operand} : oc T Γ N F ⟨dst,.pick (.tmp c) a b,ty,pos,af,gd⟩ ops l ws Q t h e=VT T Γ N F (t c) c a b dst ops l ws Q t h e:=afp
theorem J4 {c:Nat} {a b:Operand} : od T Γ N F ⟨dst,.pick (.tmp c) a b,ty,pos,af,gd⟩ ops l ws Q t h e fs=VU T Γ N F (t c) c a b dst ops l ws Q t h e fs:=afp
theorem w7 {x y:Option bI} (hp:∀c a b,op ≠ .pick c a b) (hm:iH T Γ e ⟨dst,op,ty,pos,af,gd⟩ (ev t)=none) (hcf:lL Γ e h dst (gr (ev t) op)=none) (hx:lK T Γ e ⟨dst,op,ty,pos,af,gd⟩ (ev t) (EH h)=x) (hy:tj T Γ e ⟨dst,op,ty,pos,af,gd⟩ (ev t) h=y):oc T Γ N F ⟨dst,op,ty,pos,af,gd⟩ ops l ws Q t h e=Dt T Γ N F x y dst ops l ws Q t h e:=by
 subst hx
 subst hy
 unfold oc Dt P0 oS
 rw[hm]
 simp only
 rw[hcf]
 cases op<;>first|rfl|exact absurd rfl (hp _ _ _)
theorem xa {x y:Option bI} (hp:∀c a b,op ≠ .pick c a b) (hm:iH T Γ e ⟨dst,op,ty,pos,af,gd⟩ (ev t)=none) (hcf:lL Γ e h dst (gr (ev t) op)=none) (hx:lK T Γ e ⟨dst,op,ty,pos,af,gd⟩ (ev t) (EH h)=x) (hy:tj T Γ e ⟨dst,op,ty,pos,af,gd⟩ (ev t) h=y):od T Γ N F ⟨dst,op,ty,pos,af,gd⟩ ops l ws Q t h e fs=Du T Γ N F x y dst (bg ⟨dst,op,ty,pos,af,gd⟩ (ev t)) ops l ws Q t h e fs:=by
 subst hx
 subst hy
 unfold od Du P0 oS
 rw[hm]
 simp only
 rw[hcf]
 cases op<;>first|rfl|exact absurd rfl (hp _ _ _)
theorem dU {x:Option bI} (hp:∀c a b,op ≠ .pick c a b) (hx:lK T Γ e ⟨dst,op,ty,pos,af,gd⟩ (ev t) (EH h)=x) (hm:iH T Γ e ⟨dst,op,ty,pos,af,gd⟩ (ev t)=none:=by rfl) (hy:tj T Γ e ⟨dst,op,ty,pos,af,gd⟩ (ev t) h=none:=by rfl) (hcf:lL Γ e h dst (gr (ev t) op)=none:=by first|rfl|(cases dst<;>rfl)):oc T Γ N F ⟨dst,op,ty,pos,af,gd⟩ ops l ws Q t h e=wS T Γ N F x dst ops l ws Q t h e:=w7 hp hm hcf hx hy
theorem dV {x:Option bI} (hp:∀c a b,op ≠ .pick c a b) (hx:lK T Γ e ⟨dst,op,ty,pos,af,gd⟩ (ev t) (EH h)=x) (hm:iH T Γ e ⟨dst,op,ty,pos,af,gd⟩ (ev t)=none:=by rfl) (hy:tj T Γ e ⟨dst,op,ty,pos,af,gd⟩ (ev t) h=none:=by rfl) (hcf:lL Γ e h dst (gr (ev t) op)=none:=by first|rfl|(cases dst<;>rfl)):od T Γ N F ⟨dst,op,ty,pos,af,gd⟩ ops l ws Q t h e fs=wT T Γ N F x dst (bg ⟨dst,op,ty,pos,af,gd⟩ (ev t)) ops l ws Q t h e fs:=xa hp hm hcf hx hy
theorem JX {x:Operand} : oc T Γ N F ⟨dst,.move x,ty,pos,af,gd⟩ ops l ws Q t h e=kn T Γ N F ops l ws Q (dP t dst (ev t x)) h e:=(dU (fun _ _ _ hh=>by cases hh) rfl).trans rfl
theorem J3 {x:Operand} : od T Γ N F ⟨dst,.move x,ty,pos,af,gd⟩ ops l ws Q t h e fs=ko T Γ N F ops l ws Q (dP t dst (ev t x)) h e (fs++[⟨[],true⟩]):=(dV (fun _ _ _ hh=>by cases hh) rfl).trans rfl
theorem E5 {o:BinOp} {tt z:Nat} {x y:Operand} : oc T Γ N F ⟨dst,.binOp o tt x y z,ty,pos,af,gd⟩ ops l ws Q t h e=wS T Γ N F (YK (yk T tt o (ev t x) (ev t y))) dst ops l ws Q t h e:=dU (fun _ _ _ hh=>by cases hh) (by simp only[lK];first|rfl|(cases yk T tt o (ev t x) (ev t y)<;>rfl))
theorem Fe {o:BinOp} {tt z:Nat} {x y:Operand} : od T Γ N F ⟨dst,.binOp o tt x y z,ty,pos,af,gd⟩ ops l ws Q t h e fs=wT T Γ N F (YK (yk T tt o (ev t x) (ev t y))) dst (bg ⟨dst,.binOp o tt x y z,ty,pos,af,gd⟩ (ev t)) ops l ws Q t h e fs:=dV (fun _ _ _ hh=>by cases hh) (by simp only[lK];first|rfl|(cases yk T tt o (ev t x) (ev t y)<;>rfl))
theorem JZ {o:UnOp} {tt:Nat} {x:Operand} : oc T Γ N F ⟨dst,.unOp o tt x,ty,pos,af,gd⟩ ops l ws Q t h e=wS T Γ N F (YK (Eh o (ev t x))) dst ops l ws Q t h e:=dU (fun _ _ _ hh=>by cases hh) (by simp only[lK];first|rfl|(cases Eh o (ev t x)<;>rfl))
theorem J5 {o:UnOp} {tt:Nat} {x:Operand} : od T Γ N F ⟨dst,.unOp o tt x,ty,pos,af,gd⟩ ops l ws Q t h e fs=wT T Γ N F (YK (Eh o (ev t x))) dst (bg ⟨dst,.unOp o tt x,ty,pos,af,gd⟩ (ev t)) ops l ws Q t h e fs:=dV (fun _ _ _ hh=>by cases hh) (by simp only[lK];first|rfl|(cases Eh o (ev t x)<;>rfl))
theorem Bw {x:Operand} : oc T Γ N F ⟨dst,.assign x,ty,pos,af,gd⟩ ops l ws Q t h e=wS T Γ N F (pS T Γ.own ty e dst (EH h) (ev t x)) dst ops l ws Q t h e:=dU (fun _ _ _ hh=>by cases hh) rfl
theorem Bz {x:Operand} : od T Γ N F ⟨dst,.assign x,ty,pos,af,gd⟩ ops l ws Q t h e fs=wT T Γ N F (pS T Γ.own ty e dst (EH h) (ev t x)) dst (bg ⟨dst,.assign x,ty,pos,af,gd⟩ (ev t)) ops l ws Q t h e fs:=dV (fun _ _ _ hh=>by cases hh) rfl
theorem w8 {f:Nat} {first caps:List Operand} : oc T Γ N F ⟨dst,.makeFunc (.func f) first.toArray caps.toArray,ty,pos,af,gd⟩ ops l ws Q t h e=wS T Γ N F (if (first.map (ev t)++caps.map (ev t)).all iQ then some ⟨.clo f first.length (first.map (ev t)++caps.map (ev t)),[]⟩ else none) dst ops l ws Q t h e:=dU (fun _ _ _ hh=>by cases hh) rfl
theorem xb {f:Nat} {first caps:List Operand} : od T Γ N F ⟨dst,.makeFunc (.func f) first.toArray caps.toArray,ty,pos,af,gd⟩ ops l ws Q t h e fs=wT T Γ N F (if (first.map (ev t)++caps.map (ev t)).all iQ then some ⟨.clo f first.length (first.map (ev t)++caps.map (ev t)),[]⟩ else none) dst (bg ⟨dst,.makeFunc (.func f) first.toArray caps.toArray,ty,pos,af,gd⟩ (ev t)) ops l ws Q t h e fs:=dV (fun _ _ _ hh=>by cases hh) rfl
theorem JV {tt:Nat} {x:Operand} : oc T Γ N F ⟨dst,.load tt x,ty,pos,af,gd⟩ ops l ws Q t h e=Dt T Γ N F (wF (T tt) fun τ=>mE τ (EH h) (ev t x)) (wF (T tt) fun τ=>m0 τ h (ev t x)) dst ops l ws Q t h e:=w7 (fun _ _ _ hh=>by cases hh) rfl (by cases dst<;>rfl) (by simp only[lK];first|rfl|(cases T tt<;>rfl)) (by simp only[tj];first|rfl|(cases T tt<;>rfl))
theorem J1 {tt:Nat} {x:Operand} : od T Γ N F ⟨dst,.load tt x,ty,pos,af,gd⟩ ops l ws Q t h e fs=Du T Γ N F (wF (T tt) fun τ=>mE τ (EH h) (ev t x)) (wF (T tt) fun τ=>m0 τ h (ev t x)) dst (bg ⟨dst,.load tt x,ty,pos,af,gd⟩ (ev t)) ops l ws Q t h e fs:=xa (fun _ _ _ hh=>by cases hh) rfl (by cases dst<;>rfl) (by simp only[lK];first|rfl|(cases T tt<;>rfl)) (by simp only[tj];first|rfl|(cases T tt<;>rfl))
theorem Fb {tt:Nat} {x y:Operand} : oc T Γ N F ⟨dst,.store tt x y,ty,pos,af,gd⟩ ops l ws Q t h e=Dt T Γ N F (wF (T tt) fun τ=>cM τ (EH h) (ev t x) (ev t y)) (wF (T tt) fun τ=>kZ τ e h (ev t x) (ev t y)) dst ops l ws Q t h e:=w7 (fun _ _ _ hh=>by cases hh) rfl (by cases dst<;>rfl) (by simp only[lK];first|rfl|(cases T tt<;>rfl)) (by simp only[tj];first|rfl|(cases T tt<;>rfl))
theorem Fk {tt:Nat} {x y:Operand} : od T Γ N F ⟨dst,.store tt x y,ty,pos,af,gd⟩ ops l ws Q t h e fs=Du T Γ N F (wF (T tt) fun τ=>cM τ (EH h) (ev t x) (ev t y)) (wF (T tt) fun τ=>kZ τ e h (ev t x) (ev t y)) dst (bg ⟨dst,.store tt x y,ty,pos,af,gd⟩ (ev t)) ops l ws Q t h e fs:=xa (fun _ _ _ hh=>by cases hh) rfl (by cases dst<;>rfl) (by simp only[lK];first|rfl|(cases T tt<;>rfl)) (by simp only[tj];first|rfl|(cases T tt<;>rfl))
theorem w9 {x:Operand} : oc T Γ N F ⟨dst,.nilCheck x,ty,pos,af,gd⟩ ops l ws Q t h e=wS T Γ N F (iT (EH h) (ev t x)) dst ops l ws Q t h e:=dU (fun _ _ _ hh=>by cases hh) rfl
theorem xc {x:Operand} : od T Γ N F ⟨dst,.nilCheck x,ty,pos,af,gd⟩ ops l ws Q t h e fs=wT T Γ N F (iT (EH h) (ev t x)) dst (bg ⟨dst,.nilCheck x,ty,pos,af,gd⟩ (ev t)) ops l ws Q t h e fs:=dV (fun _ _ _ hh=>by cases hh) rfl
theorem vD {tt i:Nat} {x:Operand} : oc T Γ N F ⟨dst,.fieldAddr tt x i,ty,pos,af,gd⟩ ops l ws Q t h e=wS T Γ N F (wF (T tt) fun τ=>dr T τ (EH h) i (ev t x)) dst ops l ws Q t h e:=dU (fun _ _ _ hh=>by cases hh) (by simp only[lK];first|rfl|(cases T tt<;>rfl))
theorem vH {tt i:Nat} {x:Operand} : od T Γ N F ⟨dst,.fieldAddr tt x i,ty,pos,af,gd⟩ ops l ws Q t h e fs=wT T Γ N F (wF (T tt) fun τ=>dr T τ (EH h) i (ev t x)) dst (bg ⟨dst,.fieldAddr tt x i,ty,pos,af,gd⟩ (ev t)) ops l ws Q t h e fs:=dV (fun _ _ _ hh=>by cases hh) (by simp only[lK];first|rfl|(cases T tt<;>rfl))
theorem E7 {tt i:Nat} {x:Operand} : oc T Γ N F ⟨dst,.field tt x i,ty,pos,af,gd⟩ ops l ws Q t h e=wS T Γ N F (wF (T tt) fun τ=>kY T τ i (ev t x)) dst ops l ws Q t h e:=dU (fun _ _ _ hh=>by cases hh) (by simp only[lK];first|rfl|(cases T tt<;>rfl))
theorem Fg {tt i:Nat} {x:Operand} : od T Γ N F ⟨dst,.field tt x i,ty,pos,af,gd⟩ ops l ws Q t h e fs=wT T Γ N F (wF (T tt) fun τ=>kY T τ i (ev t x)) dst (bg ⟨dst,.field tt x i,ty,pos,af,gd⟩ (ev t)) ops l ws Q t h e fs:=dV (fun _ _ _ hh=>by cases hh) (by simp only[lK];first|rfl|(cases T tt<;>rfl))
theorem vE {tt:Nat} {x i:Operand} : oc T Γ N F ⟨dst,.indexAddr tt x i,ty,pos,af,gd⟩ ops l ws Q t h e=wS T Γ N F (wF (T tt) fun τ=>bx T τ (EH h) (ev t x) (ev t i)) dst ops l ws Q t h e:=dU (fun _ _ _ hh=>by cases hh) (by simp only[lK];first|rfl|(cases T tt<;>rfl))
theorem vI {tt:Nat} {x i:Operand} : od T Γ N F ⟨dst,.indexAddr tt x i,ty,pos,af,gd⟩ ops l ws Q t h e fs=wT T Γ N F (wF (T tt) fun τ=>bx T τ (EH h) (ev t x) (ev t i)) dst (bg ⟨dst,.indexAddr tt x i,ty,pos,af,gd⟩ (ev t)) ops l ws Q t h e fs:=dV (fun _ _ _ hh=>by cases hh) (by simp only[lK];first|rfl|(cases T tt<;>rfl))
theorem E8 {tt:Nat} {x i:Operand} : oc T Γ N F ⟨dst,.index tt x i,ty,pos,af,gd⟩ ops l ws Q t h e=wS T Γ N F (wF (T tt) fun τ=>fw T τ (ev t x) (ev t i)) dst ops l ws Q t h e:=dU (fun _ _ _ hh=>by cases hh) (by simp only[lK];first|rfl|(cases T tt<;>rfl))
theorem Fh {tt:Nat} {x i:Operand} : od T Γ N F ⟨dst,.index tt x i,ty,pos,af,gd⟩ ops l ws Q t h e fs=wT T Γ N F (wF (T tt) fun τ=>fw T τ (ev t x) (ev t i)) dst (bg ⟨dst,.index tt x i,ty,pos,af,gd⟩ (ev t)) ops l ws Q t h e fs:=dV (fun _ _ _ hh=>by cases hh) (by simp only[lK];first|rfl|(cases T tt<;>rfl))
theorem E9 {tt:Nat} {x:Operand} {lo hi mx:Option Operand} : oc T Γ N F ⟨dst,.slice tt x lo hi mx,ty,pos,af,gd⟩ ops l ws Q t h e=wS T Γ N F (wF (T tt) fun τ=>cw T τ (EH h) (ev t x) (lo.map (ev t)) (hi.map (ev t)) (mx.map (ev t))) dst ops l ws Q t h e:=dU (fun _ _ _ hh=>by cases hh) (by simp only[lK];first|rfl|(cases T tt<;>rfl))
theorem Fi {tt:Nat} {x:Operand} {lo hi mx:Option Operand} : od T Γ N F ⟨dst,.slice tt x lo hi mx,ty,pos,af,gd⟩ ops l ws Q t h e fs=wT T Γ N F (wF (T tt) fun τ=>cw T τ (EH h) (ev t x) (lo.map (ev t)) (hi.map (ev t)) (mx.map (ev t))) dst (bg ⟨dst,.slice tt x lo hi mx,ty,pos,af,gd⟩ (ev t)) ops l ws Q t h e fs:=dV (fun _ _ _ hh=>by cases hh) (by simp only[lK];first|rfl|(cases T tt<;>rfl))
theorem E6 {tt:Nat} {ps:List (Nat×Operand)} : oc T Γ N F ⟨dst,.build tt ps.toArray,ty,pos,af,gd⟩ ops l ws Q t h e=wS T Γ N F (wF (T tt) fun τ=>oe Γ.own T τ (EH h) dst (ps.map fun p=>(p.1,ev t p.2))) dst ops l ws Q t h e:=dU (fun _ _ _ hh=>by cases hh) (by simp only[lK];first|rfl|(cases T tt<;>rfl))
theorem Ff {tt:Nat} {ps:List (Nat×Operand)} : od T Γ N F ⟨dst,.build tt ps.toArray,ty,pos,af,gd⟩ ops l ws Q t h e fs=wT T Γ N F (wF (T tt) fun τ=>oe Γ.own T τ (EH h) dst (ps.map fun p=>(p.1,ev t p.2))) dst (bg ⟨dst,.build tt ps.toArray,ty,pos,af,gd⟩ (ev t)) ops l ws Q t h e fs:=dV (fun _ _ _ hh=>by cases hh) (by simp only[lK];first|rfl|(cases T tt<;>rfl))
theorem s8 {tt len d:Nat} {ps:List (Nat×Operand)} : oc T Γ N F ⟨some d,.buildSlice tt len ps.toArray,ty,pos,af,gd⟩ ops l ws Q t h e=wS T Γ N F (wF (T tt) fun τ=>dq T τ (EH h) e d len (ps.map fun p=>(p.1,ev t p.2))) (some d) ops l ws Q t h e:=dU (fun _ _ _ hh=>by cases hh) (by simp only[lK];first|rfl|(cases T tt<;>rfl))
theorem s9 {tt len d:Nat} {ps:List (Nat×Operand)} : od T Γ N F ⟨some d,.buildSlice tt len ps.toArray,ty,pos,af,gd⟩ ops l ws Q t h e fs=wT T Γ N F (wF (T tt) fun τ=>dq T τ (EH h) e d len (ps.map fun p=>(p.1,ev t p.2))) (some d) (bg ⟨some d,.buildSlice tt len ps.toArray,ty,pos,af,gd⟩ (ev t)) ops l ws Q t h e fs:=dV (fun _ _ _ hh=>by cases hh) (by simp only[lK];first|rfl|(cases T tt<;>rfl))
def Cz (T:Nat->Option Ty) (e d tt:Nat) (x y:D):Option (Nat×Nat×Nat)->Option bI
 | some p=>(match T tt with|some τ=>mL T τ e d p.1 p.2.1 p.2.2 x y|none=>none)
 | none=>none
theorem F7 {d tt:Nat} {x y:D} : Cz T e d tt x y none=none:=afp
theorem F8 {d tt:Nat} {x y:D} {p:Nat×Nat×Nat} {τ:Ty} (hτ:T tt=some τ):Cz T e d tt x y (some p)=mL T τ e d p.1 p.2.1 p.2.2 x y:=by simp only[Cz,hτ]
def stM (y x:Option bI) (dst:Option Nat) (ops l:List Oper) (ws:List W) (Q:Kt) (t:Nat->D) (h:Nat->Option Row) (e:Nat):Prop :=
 match y with
 | some E=>Ef T Γ N F (some E) dst ops l ws Q t h e
 | none=>wS T Γ N F x dst ops l ws Q t h e
def XX (y x:Option bI) (dst:Option Nat) (ft:List Nat) (ops l:List Oper) (ws:List W) (Q:Kt) (t:Nat->D) (h:Nat->Option Row) (e:Nat) (fs:List jE):Prop :=
 match y with
 | some E=>Eg T Γ N F (some E) dst ft ops l ws Q t h e fs
 | none=>wT T Γ N F x dst ft ops l ws Q t h e fs
theorem vF {tt d:Nat} {x y:Operand} : oc T Γ N F ⟨some d,.makeSlice tt x y,ty,pos,af,gd⟩ ops l ws Q t h e=stM (T:=T) (Γ:=Γ) (N:=N) (F:=F) (Cz T e d tt (ev t x) (ev t y) (Γ.nst d)) (wF (T tt) fun τ=>o0 T τ e d (ev t x) (ev t y)) (some d) ops l ws Q t h e:=by
 have hm:iH T Γ e ⟨some d,.makeSlice tt x y,ty,pos,af,gd⟩ (ev t)=Cz T e d tt (ev t x) (ev t y) (Γ.nst d):=by
  unfold iH Cz
  simp only
  cases Γ.nst d<;>rfl
 cases hc:Cz T e d tt (ev t x) (ev t y) (Γ.nst d) with
 | none=>exact dU (fun _ _ _ hh=>by cases hh) (by simp only[lK];first|rfl|(cases T tt<;>rfl)) (hm.trans hc)
 | some E=>unfold oc P0 oS;rw[hm,hc];rfl
theorem vJ {tt d:Nat} {x y:Operand} : od T Γ N F ⟨some d,.makeSlice tt x y,ty,pos,af,gd⟩ ops l ws Q t h e fs=XX (T:=T) (Γ:=Γ) (N:=N) (F:=F) (Cz T e d tt (ev t x) (ev t y) (Γ.nst d)) (wF (T tt) fun τ=>o0 T τ e d (ev t x) (ev t y)) (some d) (bg ⟨some d,.makeSlice tt x y,ty,pos,af,gd⟩ (ev t)) ops l ws Q t h e fs:=by
 have hm:iH T Γ e ⟨some d,.makeSlice tt x y,ty,pos,af,gd⟩ (ev t)=Cz T e d tt (ev t x) (ev t y) (Γ.nst d):=by
  unfold iH Cz
  simp only
  cases Γ.nst d<;>rfl
 cases hc:Cz T e d tt (ev t x) (ev t y) (Γ.nst d) with
 | none=>exact dV (fun _ _ _ hh=>by cases hh) (by simp only[lK];first|rfl|(cases T tt<;>rfl)) (hm.trans hc)
 | some E=>unfold od P0 oS;rw[hm,hc];rfl
theorem Nn {x:Option bI} : stM (T:=T) (Γ:=Γ) (N:=N) (F:=F) none x dst ops l ws Q t h e=wS T Γ N F x dst ops l ws Q t h e:=afp
theorem G5 {x:Option bI} {ft:List Nat} : XX (T:=T) (Γ:=Γ) (N:=N) (F:=F) none x dst ft ops l ws Q t h e fs=wT T Γ N F x dst ft ops l ws Q t h e fs:=afp
theorem No {x:Option bI} {E:bI} : stM (T:=T) (Γ:=Γ) (N:=N) (F:=F) (some E) x dst ops l ws Q t h e=Ef T Γ N F (some E) dst ops l ws Q t h e:=afp
theorem G6 {x:Option bI} {ft:List Nat} {E:bI} : XX (T:=T) (Γ:=Γ) (N:=N) (F:=F) (some E) x dst ft ops l ws Q t h e fs=Eg T Γ N F (some E) dst ft ops l ws Q t h e fs:=afp
theorem R0 {x:Option bI} {c:Prop} [Decidable c] {E:bI} (hc:c):stM (T:=T) (Γ:=Γ) (N:=N) (F:=F) (if c then some E else none) x dst ops l ws Q t h e=Ef T Γ N F (some E) dst ops l ws Q t h e:=by rw[if_pos hc];rfl
theorem Nm {x:Option bI} {ft:List Nat} {c:Prop} [Decidable c] {E:bI} (hc:c):XX (T:=T) (Γ:=Γ) (N:=N) (F:=F) (if c then some E else none) x dst ft ops l ws Q t h e fs=Eg T Γ N F (some E) dst ft ops l ws Q t h e fs:=by rw[if_pos hc];rfl
theorem E4 {tt d:Nat} : oc T Γ N F ⟨some d,.alloc tt,ty,pos,af,gd⟩ ops l ws Q t h e=wS T Γ N F (AZ (T tt) tt d e (Γ.hint d)) (some d) ops l ws Q t h e:=dU (fun _ _ _ hh=>by cases hh) (by simp only[lK];cases T tt with|none=>rfl|some τ=>(dsimp only[AZ];cases Γ.hint d<;>rfl))
theorem Fc {tt d:Nat} : od T Γ N F ⟨some d,.alloc tt,ty,pos,af,gd⟩ ops l ws Q t h e fs=wT T Γ N F (AZ (T tt) tt d e (Γ.hint d)) (some d) (bg ⟨some d,.alloc tt,ty,pos,af,gd⟩ (ev t)) ops l ws Q t h e fs:=dV (fun _ _ _ hh=>by cases hh) (by simp only[lK];cases T tt with|none=>rfl|some τ=>(dsimp only[AZ];cases Γ.hint d<;>rfl))
theorem zf {tt d:Nat} : oc T Γ N F ⟨some d,.makeMap tt none,ty,pos,af,gd⟩ ops l ws Q t h e=wS T Γ N F (aat T (T tt) tt e d) (some d) ops l ws Q t h e:=dU (fun _ _ _ hh=>by cases hh) (by simp only[lK];first|rfl|(cases T tt<;>rfl))
theorem zj {tt d:Nat} : od T Γ N F ⟨some d,.makeMap tt none,ty,pos,af,gd⟩ ops l ws Q t h e fs=wT T Γ N F (aat T (T tt) tt e d) (some d) (bg ⟨some d,.makeMap tt none,ty,pos,af,gd⟩ (ev t)) ops l ws Q t h e fs:=dV (fun _ _ _ hh=>by cases hh) (by simp only[lK];first|rfl|(cases T tt<;>rfl))
theorem By {tt:Nat} {m i:Operand} {ok:Bool} : oc T Γ N F ⟨dst,.lookup tt m i ok,ty,pos,af,gd⟩ ops l ws Q t h e=wS T Γ N F (wF (T tt) fun τ=>iy T τ (EH h) (ev t m) (ev t i) ok) dst ops l ws Q t h e:=dU (fun _ _ _ hh=>by cases hh) (by simp only[lK];first|rfl|(cases T tt<;>rfl))
theorem BB {tt:Nat} {m i:Operand} {ok:Bool} : od T Γ N F ⟨dst,.lookup tt m i ok,ty,pos,af,gd⟩ ops l ws Q t h e fs=wT T Γ N F (wF (T tt) fun τ=>iy T τ (EH h) (ev t m) (ev t i) ok) dst (bg ⟨dst,.lookup tt m i ok,ty,pos,af,gd⟩ (ev t)) ops l ws Q t h e fs:=dV (fun _ _ _ hh=>by cases hh) (by simp only[lK];first|rfl|(cases T tt<;>rfl))
theorem vG {tt:Nat} {m i x:Operand} : oc T Γ N F ⟨dst,.mapUpdate tt m i x,ty,pos,af,gd⟩ ops l ws Q t h e=wS T Γ N F (wF (T tt) fun τ=>dg T τ (EH h) (ev t m) (ev t i) (ev t x)) dst ops l ws Q t h e:=dU (fun _ _ _ hh=>by cases hh) (by simp only[lK];first|rfl|(cases T tt<;>rfl))
theorem vK {tt:Nat} {m i x:Operand} : od T Γ N F ⟨dst,.mapUpdate tt m i x,ty,pos,af,gd⟩ ops l ws Q t h e fs=wT T Γ N F (wF (T tt) fun τ=>dg T τ (EH h) (ev t m) (ev t i) (ev t x)) dst (bg ⟨dst,.mapUpdate tt m i x,ty,pos,af,gd⟩ (ev t)) ops l ws Q t h e fs:=dV (fun _ _ _ hh=>by cases hh) (by simp only[lK];first|rfl|(cases T tt<;>rfl))
theorem Bx {tt:Nat} {m i x:Operand} : oc T Γ N F ⟨dst,.insert tt m i x,ty,pos,af,gd⟩ ops l ws Q t h e=wS T Γ N F (wF (T tt) fun τ=>dg T τ (EH h) (ev t m) (ev t i) (ev t x)) dst ops l ws Q t h e:=dU (fun _ _ _ hh=>by cases hh) (by simp only[lK];first|rfl|(cases T tt<;>rfl))
theorem BA {tt:Nat} {m i x:Operand} : od T Γ N F ⟨dst,.insert tt m i x,ty,pos,af,gd⟩ ops l ws Q t h e fs=wT T Γ N F (wF (T tt) fun τ=>dg T τ (EH h) (ev t m) (ev t i) (ev t x)) dst (bg ⟨dst,.insert tt m i x,ty,pos,af,gd⟩ (ev t)) ops l ws Q t h e fs:=dV (fun _ _ _ hh=>by cases hh) (by simp only[lK];first|rfl|(cases T tt<;>rfl))
theorem QQ {tt d:Nat} {x:Operand} : oc T Γ N F ⟨some d,.box tt x,ty,pos,af,gd⟩ ops l ws Q t h e=wS T Γ N F (Y5 (dR (EH h) (ev t x)) (EH h) tt d e) (some d) ops l ws Q t h e:=dU (fun _ _ _ hh=>by cases hh) (by simp only[lK];first|rfl|(cases dR (EH h) (ev t x)<;>rfl))
theorem QR {tt d:Nat} {x:Operand} : od T Γ N F ⟨some d,.box tt x,ty,pos,af,gd⟩ ops l ws Q t h e fs=wT T Γ N F (Y5 (dR (EH h) (ev t x)) (EH h) tt d e) (some d) (bg ⟨some d,.box tt x,ty,pos,af,gd⟩ (ev t)) ops l ws Q t h e fs:=dV (fun _ _ _ hh=>by cases hh) (by simp only[lK];first|rfl|(cases dR (EH h) (ev t x)<;>rfl))
theorem zd {a b:Nat} {x:Operand} : oc T Γ N F ⟨dst,.convert a b x,ty,pos,af,gd⟩ ops l ws Q t h e=wS T Γ N F (UA (T b) (T a) (ev t x)) dst ops l ws Q t h e:=dU (fun _ _ _ hh=>by cases hh) rfl
theorem zh {a b:Nat} {x:Operand} : od T Γ N F ⟨dst,.convert a b x,ty,pos,af,gd⟩ ops l ws Q t h e fs=wT T Γ N F (UA (T b) (T a) (ev t x)) dst (bg ⟨dst,.convert a b x,ty,pos,af,gd⟩ (ev t)) ops l ws Q t h e fs:=dV (fun _ _ _ hh=>by cases hh) rfl
theorem ze {x:Nat} {i:Nat} : oc T Γ N F ⟨dst,.extract (.tmp x) i,ty,pos,af,gd⟩ ops l ws Q t h e=wS T Γ N F (Xr (t x) i) dst ops l ws Q t h e:=dU (fun _ _ _ hh=>by cases hh) rfl
theorem zi {x:Nat} {i:Nat} : od T Γ N F ⟨dst,.extract (.tmp x) i,ty,pos,af,gd⟩ ops l ws Q t h e fs=wT T Γ N F (Xr (t x) i) dst (bg ⟨dst,.extract (.tmp x) i,ty,pos,af,gd⟩ (ev t)) ops l ws Q t h e fs:=dV (fun _ _ _ hh=>by cases hh) rfl
def cnL (Γ:Env) (e:Nat) (h:Nat->Option Row) (g:Nat) (args:List D):Option (Nat×(Nat->Nat->Nat->Nat->List D->List D->Option (D×List D)))->Option bI
 | some _=>pX Γ e h g args
 | none=>none
theorem JO {g:Nat} {args:List D} : cnL Γ e h g args none=none:=afp
theorem JP {g:Nat} {args:List D} {p:Nat×(Nat->Nat->Nat->Nat->List D->List D->Option (D×List D))} : cnL Γ e h g args (some p)=pX Γ e h g args:=afp
theorem UZ {g:Nat} {args:List D} : zp Γ e h (some (.fn g,args))=cnL Γ e h g args (Γ.nx.lnd g):=by
 cases hl:Γ.nx.lnd g with
 | some p=>rfl
 | none =>
  show pX Γ e h g args=none
  cases hc:pX Γ e h g args with
  | none=>rfl
  | some E =>
   obtain⟨_,_,_,_,_,_,_,_,_,_,_,_,_,_,_,_,h1,_⟩:=qU hc
   rw[hl]at h1
   cases h1
theorem QW {f k:Nat} {xs args:List D} : zp Γ e h (some (.clo f k xs,args))=none:=afp
theorem UY {d g:Nat} {args:List D} : lL Γ e h (some d) (some (.fn g,args))=BT e d h args (Γ.nx.res g):=afp
theorem QV {dst:Option Nat} {f k:Nat} {xs args:List D} : lL Γ e h dst (some (.clo f k xs,args))=none:=by cases dst<;>rfl
theorem J9 {q:Option (D×List D)} : lL Γ e h none q=none:=afp
theorem Ka {d:Nat} {args:List D} : BT e d h args none=none:=afp
theorem Kb {d:Nat} {args:List D} {p:List D->Option (Nat×Nat×Nat×Nat×Nat×List D)} : BT e d h args (some p)=EL p e d (bj (EH h) args):=afp
theorem Jl {d:Nat} {acw:List D} {p:List D->Option (Nat×Nat×Nat×Nat×Nat×List D)} : EL p e d (some (acw,[]))=Hz e d (p acw):=afp
theorem EM {d ty tt s S n:Nat} {cs:List D} (hd:d<1000000):Hz e d (some (ty,tt,s,S,n,cs))=some ⟨.buf d e S 0 n,[(d,some ⟨e,ty,[.nr tt s (4*e+2) cs],false,true,true⟩)]⟩:=if_pos (by rw[cP];exact hd)
def stC (y0 x y:Option bI) (dst:Option Nat) (ops l:List Oper) (ws:List W) (Q:Kt) (t:Nat->D) (h:Nat->Option Row) (e:Nat):Prop :=
 match y0 with
 | some E=>Ef T Γ N F (some E) dst ops l ws Q t h e
 | none=>Dt T Γ N F x y dst ops l ws Q t h e
def ZO (y0 x y:Option bI) (dst:Option Nat) (ft:List Nat) (ops l:List Oper) (ws:List W) (Q:Kt) (t:Nat->D) (h:Nat->Option Row) (e:Nat) (fs:List jE):Prop :=
 match y0 with
 | some E=>Eg T Γ N F (some E) dst ft ops l ws Q t h e fs
 | none=>Du T Γ N F x y dst ft ops l ws Q t h e fs
theorem Ni {x y:Option bI} : stC (T:=T) (Γ:=Γ) (N:=N) (F:=F) none x y dst ops l ws Q t h e=Dt T Γ N F x y dst ops l ws Q t h e:=afp
theorem G0 {x y:Option bI} {ft:List Nat} : ZO (T:=T) (Γ:=Γ) (N:=N) (F:=F) none x y dst ft ops l ws Q t h e fs=Du T Γ N F x y dst ft ops l ws Q t h e fs:=afp
theorem Nj {x y:Option bI} {E:bI} : stC (T:=T) (Γ:=Γ) (N:=N) (F:=F) (some E) x y dst ops l ws Q t h e=Ef T Γ N F (some E) dst ops l ws Q t h e:=afp
theorem G1 {x y:Option bI} {ft:List Nat} {E:bI} : ZO (T:=T) (Γ:=Γ) (N:=N) (F:=F) (some E) x y dst ft ops l ws Q t h e fs=Eg T Γ N F (some E) dst ft ops l ws Q t h e fs:=afp
theorem JU {x:Operand} {acw:List Operand} {tys:Array Nat} : oc T Γ N F ⟨dst,.call ⟨.value x,acw.toArray,tys⟩,ty,pos,af,gd⟩ ops l ws Q t h e=stC (T:=T) (Γ:=Γ) (N:=N) (F:=F) (lL Γ e h dst (some (ev t x,acw.map (ev t)))) (gD Γ (EH h) e dst (ev t x) (acw.map (ev t))) (zp Γ e h (some (ev t x,acw.map (ev t)))) dst ops l ws Q t h e:=by
 have hco:gr (ev t) (.call ⟨.value x,acw.toArray,tys⟩)=some (ev t x,acw.map (ev t)):=rfl
 cases hc:lL Γ e h dst (some (ev t x,acw.map (ev t))) with
 | none=>exact w7 (fun _ _ _ hh=>by cases hh) rfl (by rw[hco];exact hc) rfl rfl
 | some E=>unfold oc P0 oS;simp only[iH,hco,hc];rfl
theorem J0 {x:Operand} {acw:List Operand} {tys:Array Nat} : od T Γ N F ⟨dst,.call ⟨.value x,acw.toArray,tys⟩,ty,pos,af,gd⟩ ops l ws Q t h e fs=ZO (T:=T) (Γ:=Γ) (N:=N) (F:=F) (lL Γ e h dst (some (ev t x,acw.map (ev t)))) (gD Γ (EH h) e dst (ev t x) (acw.map (ev t))) (zp Γ e h (some (ev t x,acw.map (ev t)))) dst (bg ⟨dst,.call ⟨.value x,acw.toArray,tys⟩,ty,pos,af,gd⟩ (ev t)) ops l ws Q t h e fs:=by
 have hco:gr (ev t) (.call ⟨.value x,acw.toArray,tys⟩)=some (ev t x,acw.map (ev t)):=rfl
 cases hc:lL Γ e h dst (some (ev t x,acw.map (ev t))) with
 | none=>exact xa (fun _ _ _ hh=>by cases hh) rfl (by rw[hco];exact hc) rfl rfl
 | some E=>unfold od P0 oS;simp only[iH,hco,hc];rfl
theorem zc {x:Builtin} {acw:List Operand} {tys:List Nat} : oc T Γ N F ⟨dst,.call ⟨.builtin x,acw.toArray,tys.toArray⟩,ty,pos,af,gd⟩ ops l ws Q t h e=wS T Γ N F (b9 T (EH h) e dst x tys (acw.map (ev t))) dst ops l ws Q t h e:=dU (fun _ _ _ hh=>by cases hh) rfl
theorem zg {x:Builtin} {acw:List Operand} {tys:List Nat} : od T Γ N F ⟨dst,.call ⟨.builtin x,acw.toArray,tys.toArray⟩,ty,pos,af,gd⟩ ops l ws Q t h e fs=wT T Γ N F (b9 T (EH h) e dst x tys (acw.map (ev t))) dst (bg ⟨dst,.call ⟨.builtin x,acw.toArray,tys.toArray⟩,ty,pos,af,gd⟩ (ev t)) ops l ws Q t h e fs:=dV (fun _ _ _ hh=>by cases hh) rfl
theorem bo {o:Array Oper} {A:Prop} (h1:BL o fs=true) (h2:A):BL o fs=true∧A:=⟨h1,h2⟩
theorem an {b:Bool} {g:Nat} {x y:Code} (h1:b=true->cD T Γ N F (.code x::ws) Q .normal (bU t g (.bool true)) h e) (h2:b=false->cD T Γ N F (.code y::ws) Q .normal (bU t g (.bool false)) h e):IQ T Γ N F (.bool b) g x y ws Q t h e:=by rw[TD];exact⟨h1,h2⟩
theorem dW {b:Bool} {g:Nat} {o:Oper} (h1:b=true->oc T Γ N F o ops l ws Q (bU t g (.bool true)) h e) (h2:b=false->kn T Γ N F ops l ws Q (dP (bU t g (.bool false)) o.dst .skp) h e):vA T Γ N F (.bool b) g true o ops l ws Q t h e:=by rw[TE];exact⟨h1,h2⟩
theorem bB {b:Bool} {g:Nat} {o:Oper} (h1:b=true->kn T Γ N F ops l ws Q (dP (bU t g (.bool true)) o.dst .skp) h e) (h2:b=false->oc T Γ N F o ops l ws Q (bU t g (.bool false)) h e):vA T Γ N F (.bool b) g false o ops l ws Q t h e:=by rw[PR];exact⟨h1,h2⟩
theorem sd {b:Bool} {g:Nat} {o:Oper} (h1:b=true->od T Γ N F o ops l ws Q (bU t g (.bool true)) h e fs) (h2:b=false->ko T Γ N F ops l ws Q (dP (bU t g (.bool false)) o.dst .skp) h e (fs++[⟨[],true⟩])):vB T Γ N F (.bool b) g true o ops l ws Q t h e fs:=by rw[TF];exact⟨h1,h2⟩
theorem WN {b:Bool} {g:Nat} {o:Oper} (h1:b=true->ko T Γ N F ops l ws Q (dP (bU t g (.bool true)) o.dst .skp) h e (fs++[⟨[],true⟩])) (h2:b=false->od T Γ N F o ops l ws Q (bU t g (.bool false)) h e fs):vB T Γ N F (.bool b) g false o ops l ws Q t h e fs:=by rw[PS];exact⟨h1,h2⟩
def Xq (mode:Mode) (T:Nat->Option Ty) (lent:Option (D×Row)) (rs:List ResultVar) (r:RK×Option Row):Kt:=fun x t h e=>Zi mode T lent rs x t h e r
theorem zr {mode:Mode} {lent:Option (D×Row)} {rs:List ResultVar} {r:RK×Option Row} : Xq mode T lent rs r .normal t h e=(jl mode T lent rs ⟨t,EH h,e⟩=some r):=afp
theorem eE {mode:Mode} {lent:Option (D×Row)} {rs:List ResultVar} {r:RK×Option Row} : Xq mode T lent rs r .ret t h e=(jl mode T lent rs ⟨t,EH h,e⟩=some r):=afp
def Q1 (T:Nat->Option Ty) (ty tt s:Nat) (rs:List ResultVar) (r:D×List D):Kt:=fun x t h e =>
 match x with
 | .exit _=>False
 | _=>SL T ty tt s rs ⟨t,h,e⟩=some r
theorem xk {ty tt s:Nat} {rs:List ResultVar} {r:D×List D} : Q1 T ty tt s rs r .normal t h e=(SL T ty tt s rs ⟨t,h,e⟩=some r):=afp
theorem dJ {ty tt s:Nat} {rs:List ResultVar} {r:D×List D} : Q1 T ty tt s rs r .ret t h e=(SL T ty tt s rs ⟨t,h,e⟩=some r):=afp
def Q0 (rs:List ResultVar) (r:Nat×Nat×Nat×Nat×Nat×List D):Kt:=fun x t h e =>
 match x with
 | .exit _=>False
 | _=>SK rs ⟨t,h,e⟩=some r
theorem xj {rs:List ResultVar} {r:Nat×Nat×Nat×Nat×Nat×List D} : Q0 rs r .normal t h e=(SK rs ⟨t,h,e⟩=some r):=afp
theorem dI {rs:List ResultVar} {r:Nat×Nat×Nat×Nat×Nat×List D} : Q0 rs r .ret t h e=(SK rs ⟨t,h,e⟩=some r):=afp
theorem Q3 {ty tt s:Nat} {rs:List ResultVar} : SL T ty tt s rs ⟨t,h,e⟩=Kl ty tt s (tR T ⟨t,EH h,e⟩ rs) (h 0):=afp
theorem Km {ty tt s nv:Nat} {lst:Bool} {ds cs:List D} : Kl ty tt s (some (ds,[])) (some ⟨0,ty,[.nr tt s nv cs],false,lst,true⟩)=some (l9 ds,cs):=by
 simp[Kl,U4]
theorem QZ {i:Nat} : SK [.tmp i] ⟨t,h,e⟩=QY h (t i):=afp
theorem Fu {x v S n:Nat} : QY h (.buf x v S 0 n)=Kj x v S n (h x):=afp
theorem Kk {x v S n ty tt s nv:Nat} {lst:Bool} {cs:List D} (hx:x<1000000):Kj x v S n (some ⟨v,ty,[.nr tt s nv cs],false,lst,true⟩)=some (ty,tt,s,S,n,cs):=by
 have:x<PK:=by rw[cP];exact hx
 simp[Kj,U3,this]
theorem vf {fn:Func} {c:Code} {n ty tt s o:Nat} {cs args:List D} {rs:List ResultVar} {r:D×List D} (hb:fn.body=some c) (hn:fn.ntmps=n) (hr:fn.results=rs.toArray) (hw:cD T Γ n F [.code c] (Q1 T ty tt s rs r) .normal (yj (.ptr 0 0 o::args)) (lD (gj ty tt s 0 cs)) 1) (hpk:n<=1000000:=by exact aej rfl):sf T Γ F fn ty tt s o cs args=some r:=by
 obtain⟨x,st,h1,h2⟩:=IW _ _ _ _ _ (show I2 T Γ n F c (yj (.ptr 0 0 o::args)) (lD (gj ty tt s 0 cs)) 1 (Q1 T ty tt s rs r) from hw)
 unfold sf
 simp only[hb,hn]
 rw[if_pos (by rw[cP];exact hpk)]
 have e0:oN ty tt s o cs args=⟨yj (.ptr 0 0 o::args),lD (gj ty tt s 0 cs),1⟩:=rfl
 rw[e0,h1,hr]
 cases x with
 | normal=>exact h2
 | ret=>exact h2
 | exit m=>exact h2.elim
theorem TI {fn:Func} {c:Code} {n:Nat} {args:List D} {rs:List ResultVar} {r:Nat×Nat×Nat×Nat×Nat×List D} (hb:fn.body=some c) (hn:fn.ntmps=n) (hr:fn.results=rs.toArray) (hw:cD T Γ n F [.code c] (Q0 rs r) .normal (yj args) Mi 0) (hpk:n<=1000000:=by exact aej rfl):se T Γ F fn args=some r:=by
 obtain⟨x,st,h1,h2⟩:=IW _ _ _ _ _ (show I2 T Γ n F c (yj args) Mi 0 (Q0 rs r) from hw)
 unfold se
 simp only[hb,hn]
 rw[if_pos (by rw[cP];exact hpk)]
 have e0:bT none args=⟨yj args,Mi,0⟩:=rfl
 rw[e0,h1,hr]
 cases x with
 | normal=>exact h2
 | ret=>exact h2
 | exit m=>exact h2.elim
theorem aB {mode:Mode} {fn:Func} {c:Code} {n:Nat} {rs:List ResultVar} {args:List D} {r:RK×Option Row} (hb:fn.body=some c) (hn:fn.ntmps=n) (hr:fn.results=rs.toArray) (hw:cD T Γ n F [.code c] (Xq mode T none rs r) .normal (yj args) Mi 0) (hpk:n<=1000000:=by exact aej rfl):a7 mode T Γ F fn none args=some r:=by
 refine W0 ?_ (by rw[hn];exact hpk)
 unfold wpf
 rw[hb,hn,hr]
 exact hw
theorem MW (r:Row) (i:Nat):lD r i=if i=0 then some r else none:=afp
theorem DG {mode:Mode} {fn:Func} {c:Code} {n:Nat} {rs:List ResultVar} {d0:D} {ty:Nat} {cells:List D} {fz lst:Bool} {args:List D} {r:RK×Option Row} (hb:fn.body=some c) (hn:fn.ntmps=n) (hr:fn.results=rs.toArray)
  (hw:cD T Γ n F [.code c] (Xq mode T (some (d0,⟨0,ty,cells,fz,lst,false⟩)) rs r) .normal (yj (d0::args)) (lD ⟨0,ty,cells,fz,lst,false⟩) 1) (hpk:n<=1000000:=by exact aej rfl):a7 mode T Γ F fn (some (d0,⟨0,ty,cells,fz,lst,false⟩)) args=some r:=by
 refine W0 ?_ (by rw[hn];exact hpk)
 unfold wpf
 rw[hb,hn,hr]
 exact hw
end
section
variable {h:Nat->Option Row} {k x o v ty fz' nv s n e:Nat} {cs xs:List D} {fz lst:Bool}
theorem TP (hk:k<2000000):EH h k=(h k).map (AG k):=sN (by rw[cP];exact hk)
theorem X5 (hx:x<1000000):EH h (NK x o)=(h x).bind fun r=>qf r o:=vC (by rw[cP];exact hx)
theorem GX:AG k ⟨v,ty,cs,fz,lst,false⟩=⟨v,ty,cs,fz,lst,false⟩:=afp
theorem RW {ks:List Int} : AG k ⟨v,ty,[.mpc ks xs],fz,lst,true⟩=⟨v,ty,[.mpc ks xs],fz,lst,true⟩:=afp
theorem V5 {y:Nat} : AG k ⟨v,ty,[.ph y s n],fz,lst,true⟩=⟨v,ty,[.ph y s n],fz,lst,true⟩:=afp
theorem V4 {t:Nat} : AG k ⟨v,ty,[.nr t s nv cs],fz,lst,true⟩=⟨v,ty,cs.mapIdx (pK k s),fz,lst,true⟩:=afp
theorem Mf {t:Nat} : qf ⟨v,ty,[.nr t s nv cs],fz,lst,true⟩ o=CB t nv fz (cs.drop o).head?:=afp
theorem Me:CB ty nv fz (some (.nx n xs))=some ⟨nv,ty,xs,fz,true,false⟩:=afp
theorem YP (hx:x<1000000):rt (NK x o)=x:=tT (by rw[cP];exact hx)
theorem FN:jC h []=[]:=afp
theorem FM {r:Option Row} {l:List (Nat×Option Row)} (hk:k<2000000):jC h ((k,r)::l)=(k,CC r)::jC (bU h k (CC r)) l:=by
 have h1:rt k=k:=jD (by rw[cP];exact hk)
 have h2:xD h k r=CC r:=if_pos (by rw[cP];exact hk)
 simp only[jC,h1,h2]
theorem Kv {r:Option Row} {l:List (Nat×Option Row)} (hx:x<1000000):jC h ((NK x o,r)::l)=(x,(h x).map (C2 o r))::jC (bU h x ((h x).map (C2 o r))) l:=by
 have hx':x<PK:=by rw[cP];exact hx
 have h1:rt (NK x o)=x:=tT hx'
 have h2:xD h (NK x o) r=(h x).map (C2 o r):=by
  unfold xD
  rw[if_neg (by have:=fL x o;omega),qH o hx',AR o hx']
 simp only[jC,h1,h2]
theorem Gj:CC none=none:=afp
theorem CD:CC (some ⟨v,ty,cs,fz,lst,false⟩)=some ⟨v,ty,cs,fz,lst,false⟩:=afp
theorem Mh {ks:List Int} : CC (some ⟨v,ty,[.mpc ks xs],fz,lst,true⟩)=some ⟨v,ty,[.mpc ks xs],fz,lst,true⟩:=afp
theorem RB {y:Nat} : CC (some ⟨v,ty,[.ph y s n],fz,lst,true⟩)=some ⟨v,ty,[.ph y s n],fz,lst,true⟩:=afp
theorem RL {t:Nat} {r:Option Row} : C2 o r ⟨v,ty,[.nr t s nv cs],fz,lst,true⟩=⟨v,ty,yL t s nv fz cs o r (cs.drop o).head?,fz,lst,true⟩:=afp
theorem RV {t v':Nat} {xs':List D} : yL t s nv fz cs o (some ⟨v',t,xs',fz,true,false⟩) (some (.nx n xs))=if v'=nv then [.nr t s nv (putCells cs o [.nx n xs'])] else [.nr t s nv (putCells cs o [.und])]:=by
 by_cases hv:v'=nv<;>simp[yL,Gt,hv]
def lvN (x v:Nat):Option Row->Option (Row×Nat×Nat×Nat×List D)
 | some r=>if r.v=v∧r.fz=false∧r.mp=true∧x<1000000 then nrO r r.cells else none
 | none=>none
theorem Ly:iP h x v=lvN x v (h x):=by
 unfold iP lvN
 rw[cP]
 cases h x<;>rfl
theorem Vw {t:Nat} (hx:x<1000000):lvN x v (some ⟨v,ty,[.nr t s nv cs],false,lst,true⟩)=some (⟨v,ty,[.nr t s nv cs],false,lst,true⟩,t,s,nv,cs):=by
 simp only[lvN,true_and,hx,and_self,if_true,nrO]
def Zs (τ:Ty) (x o:Nat):Option (Row×Nat×Nat×Nat×List D)->Option bI
 | some (r,ty,s,nv,cs)=>Cn τ x s nv o cs (cs.drop o).head?
 | none=>none
theorem Rn {τ:Ty} : m0 τ h (.ptr x v o)=Zs τ x o (iP h x v):=by
 simp only[m0,Zs]
 cases iP h x v<;>rfl
theorem FX {τ:Ty} {r:Row} {t:Nat} : Zs τ x o (some (r,t,s,nv,cs))=Cn τ x s nv o cs (cs.drop o).head?:=afp
theorem Rl {ds:Ds} {b:Nat} {z:List Value} {q:Bool} : Cn ⟨ds,1,b,z,q⟩ x s nv o cs (some (.nx n xs))=if ds.oB=false then some ⟨.buf (NK x o) nv s 0 n,[]⟩ else none:=by
 simp only[Cn,true_and]
def SX (τ:Ty) (o:Nat) (cs:List D):Option bI :=
 if o+τ.size<=cs.length∧((cs.drop o).take τ.size).all eY=true then YK (ln τ ((cs.drop o).take τ.size)) else none
theorem Lp {τ:Ty} {kk:IntKind} {i:Int} : Cn τ x s nv o cs (some (.int kk i))=SX τ o cs:=afp
theorem FY {τ:Ty} {b:Bool} : Cn τ x s nv o cs (some (.bool b))=SX τ o cs:=afp
theorem Lq {τ:Ty} {b:ByteArray} : Cn τ x s nv o cs (some (.str b))=SX τ o cs:=afp
theorem Rm {τ:Ty} {a b:Bool} : Cn τ x s nv o cs (some (.sl a b n xs))=SX τ o cs:=afp
def XY (τ:Ty) (e:Nat) (h:Nat->Option Row) (x o:Nat) (d:D):Option (Row×Nat×Nat×Nat×List D)->Option bI
 | some (r,ty,s,nv,cs)=>if o+τ.size<=cs.length∧0<τ.size then vx τ e h x r ty s nv cs o d else none
 | none=>none
theorem R2 {τ:Ty} {d:D} : kZ τ e h (.ptr x v o) d=XY τ e h x o d (iP h x v):=by
 simp only[kZ,XY]
 cases iP h x v<;>rfl
theorem G8 {ds:Ds} {m b:Nat} {z:List Value} {q:Bool} {d:D} {r:Row} {t:Nat} (hm:0<m) (hc:o+m<=cs.length):XY ⟨ds,m,b,z,q⟩ e h x o d (some (r,t,s,nv,cs))=vx ⟨ds,m,b,z,q⟩ e h x r t s nv cs o d:=by
 simp only[XY,hm,hc,and_self,if_true]
theorem G9 {ds:Ds} {b:Nat} {z:List Value} {q:Bool} {r:Row} {t:Nat} : vx ⟨ds,1,b,z,q⟩ e h x r t s nv cs o (.buf (NK x o) nv s 0 n)=yO x r t s nv cs o n (cs.drop o).head?:=by
 simp only[vx,and_self,if_true]
theorem GZ {ds:Ds} {r:Row} {t n0:Nat} : yO x r t s nv cs o n (some (.nx n0 xs))=if n*s<=xs.length then some ⟨.und,[(x,some ⟨r.v,r.ty,[.nr t s nv (putCells cs o [.nx n (xs.take (n*s))])],false,r.lst,true⟩)]⟩ else none:=afp
def ZP (x:Nat) (r:Row) (ty s:Nat) (cs:List D) (o y n:Nat) (b:Option Nat):Option Row->Option bI
 | some q=>if q.fz=false∧q.lst=true∧q.ty=ty∧q.cells.length=n*s then yP x r ty s cs o y n q b else none
 | none=>none
theorem Hb {ds:Ds} {b y vy:Nat} {z:List Value} {q:Bool} {r:Row} {t:Nat} (hy:y<1000000):vx ⟨ds,1,b,z,q⟩ e h x r t s nv cs o (.buf y vy s 0 n)=ZP x r t s cs o y n (oR nv e) (live h y vy):=by
 have h1:¬y=NK x o:=by have:=fL x o;rw[cP]at this;omega
 have h2:y<PK:=by rw[cP];exact hy
 simp only[vx,and_self,if_true,h1,if_false,h2]
 cases live h y vy<;>rfl
theorem G7 {r q:Row} {t nv' y:Nat} (hc:q.fz=false∧q.lst=true∧q.ty=t∧q.cells.length=n*s):ZP x r t s cs o y n (some nv') (some q)=some ⟨.und,[(y,none),(x,some ⟨r.v,r.ty,[.nr t s nv' (putCells cs o [.nx n q.cells])],false,r.lst,true⟩)]⟩:=by
 simp only[ZP,hc,and_self,if_true,yP]
theorem Nq {τ:Ty} {r:Row} {t:Nat} {kk:IntKind} {i:Int} : vx τ e h x r t s nv cs o (.int kk i)=yQ τ x r t s nv cs o (some [.int kk i]):=afp
theorem Ha {τ:Ty} {r:Row} {t:Nat} {b:Bool} : vx τ e h x r t s nv cs o (.bool b)=yQ τ x r t s nv cs o (some [.bool b]):=afp
theorem Nr {τ:Ty} {r:Row} {t:Nat} {b:ByteArray} : vx τ e h x r t s nv cs o (.str b)=yQ τ x r t s nv cs o (some [.str b]):=afp
theorem R1 {τ:Ty} {r:Row} {t:Nat} {a b:Bool} : vx τ e h x r t s nv cs o (.sl a b n xs)=yQ τ x r t s nv cs o (some [.sl a b n xs]):=afp
theorem Np {τ:Ty} {r:Row} {t:Nat} : vx τ e h x r t s nv cs o (.agg xs)=yQ τ x r t s nv cs o (some xs):=afp
theorem Hf {τ:Ty} {r:Row} {t:Nat} {c':List D} : yQ τ x r t s nv cs o (some c')=if c'.length=τ.size∧c'.all eY=true then some ⟨.und,[(x,some ⟨r.v,r.ty,[.nr t s nv (putCells cs o (c'.map canon))],false,r.lst,true⟩)]⟩ else none:=afp
theorem jj (hn:nv<=4*e):oR nv e=some (4*e+1):=if_pos hn
end
section
variable {Γ:Env} {g d:Nat} {p:Nat×Nat×Nat}
theorem Q8 {f:Nat} {l:Bool} {G:Option (D×Row)->List D->Option (RK×Option Row)} : (Am.ext Γ f l G).nst g=Γ.nst g:=afp
theorem Lj:(Am.keep d Γ).nst g=Γ.nst g:=afp
theorem K5 {y:Nat} : (Am.vO d y Γ).nst g=Γ.nst g:=afp
theorem Ld {f:Nat} : (Am.yx f p Γ).nst g=Γ.nst g:=afp
theorem KW {f:Nat} {q:Grow} : (Am.Cf f q Γ).nst g=Γ.nst g:=afp
theorem Gf:a6.nst g=none:=afp
theorem Mt:(Am.xA d p Γ).nst g=if g=d then some p else Γ.nst g:=afp
theorem CH:(Am.xA d p Γ).lends g=Γ.lends g:=afp
theorem Mv {l:Option (D×Row)} {acw:List D} : (Am.xA d p Γ).sem g l acw=Γ.sem g l acw:=afp
theorem Mu:(Am.xA d p Γ).own g=Γ.own g:=afp
theorem Gn:(Am.xA d p Γ).hint g=Γ.hint g:=afp
theorem Ms:(Am.xA d p Γ).ins g=Γ.ins g:=afp
theorem Mr:(Am.xA d p Γ).grw g=Γ.grw g:=afp
theorem U7 {f:Nat} {l:Bool} {G:Option (D×Row)->List D->Option (RK×Option Row)} : (Am.ext Γ f l G).nx=Γ.nx:=afp
theorem Rj:(Am.keep d Γ).nx=Γ.nx:=afp
theorem Rg {y:Nat} : (Am.vO d y Γ).nx=Γ.nx:=afp
theorem Rh {f:Nat} : (Am.yx f p Γ).nx=Γ.nx:=afp
theorem Rd {f:Nat} {q:Grow} : (Am.Cf f q Γ).nx=Γ.nx:=afp
theorem RD:(Am.xA d p Γ).nx=Γ.nx:=afp
theorem Ge:a6.nx.lnd g=none:=afp
theorem Gh:a6.nx.res g=none:=afp
end
section
variable {Γ:Env} {g d f:Nat} {p:Nat×(Nat->Nat->Nat->Nat->List D->List D->Option (D×List D))}
theorem LG:(Am.nF f p Γ).nx.lnd g=if g=f then some p else Γ.nx.lnd g:=afp
theorem LJ:(Am.nF f p Γ).nx.res g=Γ.nx.res g:=afp
theorem Cs:(Am.nF f p Γ).lends g=Γ.lends g:=afp
theorem LM {l:Option (D×Row)} {acw:List D} : (Am.nF f p Γ).sem g l acw=Γ.sem g l acw:=afp
theorem LI:(Am.nF f p Γ).own g=Γ.own g:=afp
theorem F3:(Am.nF f p Γ).hint g=Γ.hint g:=afp
theorem LD:(Am.nF f p Γ).ins g=Γ.ins g:=afp
theorem LC:(Am.nF f p Γ).grw g=Γ.grw g:=afp
theorem LH:(Am.nF f p Γ).nst g=Γ.nst g:=afp
end
section
variable {Γ:Env} {g d f:Nat} {p:List D->Option (Nat×Nat×Nat×Nat×Nat×List D)}
theorem Mp:(Am.xz f p Γ).nx.res g=if g=f then some p else Γ.nx.res g:=afp
theorem Mm:(Am.xz f p Γ).nx.lnd g=Γ.nx.lnd g:=afp
theorem CG:(Am.xz f p Γ).lends g=Γ.lends g:=afp
theorem Mq {l:Option (D×Row)} {acw:List D} : (Am.xz f p Γ).sem g l acw=Γ.sem g l acw:=afp
theorem Mo:(Am.xz f p Γ).own g=Γ.own g:=afp
theorem Gm:(Am.xz f p Γ).hint g=Γ.hint g:=afp
theorem Ml:(Am.xz f p Γ).ins g=Γ.ins g:=afp
theorem Mk:(Am.xz f p Γ).grw g=Γ.grw g:=afp
theorem Mn:(Am.xz f p Γ).nst g=Γ.nst g:=afp
end
section
variable {Γ:Env} {h:Nat->Option Row} {e x v o g:Nat} {rest:List D}
def N5 (Γ:Env) (e:Nat) (h:Nat->Option Row) (g x o:Nat) (rest:List D):Option (Row×Nat×Nat×Nat×List D)->Option bI
 | some (r,ty,s,nv,cs)=>Bh e x r ty s nv cs o (Γ.nx.lnd g) (bj (EH h) rest)
 | none=>none
theorem EO:pX Γ e h g (.ptr x v o::rest)=N5 Γ e h g x o rest (iP h x v):=by
 simp only[pX,N5]
 cases iP h x v<;>rfl
theorem y8 {r:Row} {ty s nv:Nat} {cs:List D} : N5 Γ e h g x o rest (some (r,ty,s,nv,cs))=Bh e x r ty s nv cs o (Γ.nx.lnd g) (bj (EH h) rest):=afp
theorem y6 {r:Row} {ty s nv:Nat} {cs acw:List D} {p:Nat×(Nat->Nat->Nat->Nat->List D->List D->Option (D×List D))} : Bh e x r ty s nv cs o (some p) (some (acw,[]))=HA x r ty s o p.1 (oR nv e) (p.2 r.ty ty s o cs acw):=afp
theorem y7 {r:Row} {ty s nv' k:Nat} {d:D} {cs':List D} : HA x r ty s o k (some nv') (some (d,cs'))=if ((cs'.drop o).take k).all (vv s)=true then some ⟨d,[(x,some ⟨r.v,r.ty,[.nr ty s nv' (qt k o cs')],false,r.lst,true⟩)]⟩ else none:=afp
end
end Go.Proofs.Ytchndpjlijbplaa.Am
namespace Go.Proofs.Ytchndpjlijbplaa.P
open Go.RowKit
set_option linter.unusedSimpArgs false
set_option linter.unusedVariables false
def FU:Nat:=1000000000000000000000000
def nc {σ ρ:Type} (body:σ->Option (σ⊕ρ)):Nat->σ->Option ρ
 | 0,_=>none
 | n+1,s =>
  match body s with
  | some (.inl s')=>nc body n s'
  | some (.inr r)=>some r
  | none=>none
def aY {σ ρ:Type} (body:σ->Option (σ⊕ρ)) (s:σ):Option ρ:=nc body FU s
theorem Vn {σ ρ:Type} {body:σ->Option (σ⊕ρ)} (I:σ->Prop) (μ:σ->Nat) (Q:ρ->Prop)
  (hstep:∀s,I s->(∃s',body s=some (.inl s')∧I s'∧μ s'<μ s)∨(∃r,body s=some (.inr r)∧Q r)):∀(n:Nat) (s:σ),I s->μ s<n->∃r,nc body n s=some r∧Q r:=by
 intro n
 induction n with
 | zero=>intro s _ h;omega
 | succ n ih =>
  intro s hI hμ
  rcases hstep s hI with⟨s',h1,h2,h3⟩|⟨r,h1,h2⟩
  ·obtain⟨r,h4,h5⟩:=ih s' h2 (by omega)
   exact⟨r,by simp only[nc,h1];exact h4,h5⟩
  ·exact⟨r,by simp only[nc,h1],h2⟩
theorem oD {σ ρ:Type} {body:σ->Option (σ⊕ρ)} (I:σ->Prop) (μ:σ->Nat) (Q:ρ->Prop) {s:σ} (hI:I s) (hμ:μ s<FU)
  (hstep:∀s,I s->(∃s',body s=some (.inl s')∧I s'∧μ s'<μ s)∨(∃r,body s=some (.inr r)∧Q r)):∃r,aY body s=some r∧Q r:=Vn I μ Q hstep FU s hI hμ
def idx {α:Type} (l:List α) (i:Int):Option α:=if 0<=i∧i<l.length then l[i.toNat]? else none
def Aq {α:Type} (l:List α) (a b:Int):Option (List α):=if 0<=a∧a<=b∧b<=l.length then some ((l.drop a.toNat).take (b.toNat-a.toNat)) else none
def D7 {α:Type} (bytes:Nat) (n c:Int) (z:α):Option (List α):=if 0<=n∧n<=c∧c<=maxLen∧c.toNat*bytes<=140737488355328 then some (List.replicate n.toNat z) else none
def lS {α:Type} (bytes:Nat) (l m:List α):Option (List α):=if l.length+m.length<=maxLen∧(l.length+m.length)*bytes<=140737488355328 then some (l++m) else none
def Vl {α:Type} (bytes:Nat) (l:List α) (i:Int) (xs:List α):Option (List α):=if 0<=i∧i<=l.length∧0<xs.length∧(l.length+xs.length)*bytes<=140737488355328 then some (l.take i.toNat++(xs++l.drop i.toNat)) else none
def UF {α:Type} (l:List α) (i j:Int):Option (List α):=if 0<=i∧i<=j∧j<=l.length∧l.length<=maxLen then some (l.take i.toNat++l.drop j.toNat) else none
def MI {α:Type} (x:Bool×α):Option α:=if x.1=true then none else some x.2
def Nf {α:Type} (x:Bool×α):Option α:=if x.1=true then some x.2 else none
def FG {α:Type} (l:List α):List (Bool×α):=l.map fun x=>(false,x)
def ym (k:IntKind) (x y:Int):Option Int:=if y=0 then none else some (k.wrap (x.tdiv y))
def CA (_:IntKind) (x y:Int):Option Int:=if y=0 then none else some (x.tmod y)
def Ee (k:IntKind) (x y:Int):Option Int:=if y<0 then none else some (k.wrap (x*2 ^ (min y.toNat k.bits)))
def wK (k:IntKind) (x y:Int):Option Int:=if y<0 then none else some (x.fdiv (2 ^ (min y.toNat k.bits)))
def jK (op:BinOp) (k:IntKind) (x y:Int):Int :=
 let a:=BitVec.ofInt k.bits x
 let b:=BitVec.ofInt k.bits y
 match op with
 | .and=>k.wrap (a &&& b).toNat
 | .or=>k.wrap (a ||| b).toNat
 | .xor=>k.wrap (a ^^^ b).toNat
 | _=>k.wrap (a &&& ~~~b).toNat
def Xt {α:Type} : List (Int×α)->Int->Bool
 | [],_=>false
 | (k,_)::m,n=>k==n||Xt m n
theorem ah {α β:Type} {o:Option α} {f:α->Option β} {r:β} (h:o.bind f=some r):∃a,o=some a∧f a=some r:=by
 cases o with
 | none=>cases h
 | some a=>exact⟨a,rfl,h⟩
theorem aan {α:Type} {b:Bool} {x y r:α} (hb:b=true) (h:(if b=true then x else y)=r):x=r:=by rw[if_pos hb]at h;exact h
theorem aam {α:Type} {b:Bool} {x y r:α} (hb:b=false) (h:(if b=true then x else y)=r):y=r:=by rw[hb]at h;simpa using h
theorem ai {a b:Prop} (x:a) (y:b):a∧b:=⟨x,y⟩
theorem sp {α:Type} {b:Bool} {P1 P2 Q:Prop} {x y r:α} (k:(b=true->P1)->(b=false->P2)->Q) (h:(if b=true then x else y)=r) (h1:b=true->x=r->P1) (h2:b=false->y=r->P2):Q:=k (fun hb=>h1 hb (aan hb h)) fun hb=>h2 hb (aam hb h)
end Go.Proofs.Ytchndpjlijbplaa.P
namespace Go.Proofs.Ytchndpjlijbplaa.Am
open Go.RowKit Go.Proofs.Ytchndpjlijbplaa.P
set_option linter.unusedSimpArgs false
set_option linter.unusedVariables false
structure hY (α:Type) where
 cells:α->List D
 size:Nat
 len:∀x,(cells x).length=size
 pos:0<size
 inj:∀x y,cells x=cells y->x=y
def ae {α:Type} (e:hY α):List α->List D
 | []=>[]
 | x::l=>e.cells x++ae e l
section
variable {α β:Type} (e:hY α)
theorem xi:ae e []=[]:=rfl
theorem aK (x:α) (l:List α):ae e (x::l)=e.cells x++ae e l:=rfl
theorem fh:∀l m:List α,ae e (l++m)=ae e l++ae e m
 | [],m=>rfl
 | x::l,m=>by rw[aes,aK,aK,fh l m,adR]
theorem bG:∀l:List α,(ae e l).length=l.length*e.size
 | []=>by simp[ae]
 | x::l=>by rw[aK,adF,bG l,e.len,ac1,adz];omega
theorem nQ:∀(l:List α) (i:Nat),(ae e l).drop (i*e.size)=ae e (l.drop i)
 | l,0=>by simp
 | [],i+1=>by simp[ae]
 | x::l,i+1=>by
  rw[aK,aet,<- nQ l i,aek,e.len,ael (by rw[e.len,adz];omega),aei]
  congr 1
  rw[adz];omega
theorem dY:∀(l:List α) (i:Nat),(ae e l).take (i*e.size)=ae e (l.take i)
 | l,0=>by simp[ae]
 | [],i+1=>by simp[ae]
 | x::l,i+1=>by
  rw[aK,aeu,aK,adU,e.len,adW (by rw[e.len,adz];omega),<- dY l i]
  congr 2
  rw[adz];omega
theorem tl:∀l m:List α,ae e l=ae e m->l=m
 | [],[],_=>rfl
 | [],y::m,h=>by
  have:=congrArg List.length h
  have hp:=e.pos
  rw[aK,adF,e.len]at this
  simp[ae]at this
  omega
 | x::l,[],h=>by
  have:=congrArg List.length h
  have hp:=e.pos
  rw[aK,adF,e.len]at this
  simp[ae]at this
  omega
 | x::l,y::m,h=>by
  rw[aK,aK]at h
  obtain⟨h1,h2⟩:=aev h (by rw[e.len,e.len])
  rw[e.inj _ _ h1,tl l m h2]
theorem Ki:∀(n:Nat) (x:α),l8 n (e.cells x)=ae e (List.replicate n x)
 | 0,x=>by simp[l8,ae]
 | n+1,x=>by rw[adx,aK,<- Ki n x];simp[l8,List.replicate_succ]
end
def eI (k:IntKind):hY Int:=⟨fun n=>[.int k n],1,fun _=>rfl,by decide,fun x y h=>by simpa using h⟩
def zl:hY Bool:=⟨fun n=>[.bool n],1,fun _=>rfl,by decide,fun x y h=>by simpa using h⟩
def aae:hY ByteArray:=⟨fun n=>[.str n],1,fun _=>rfl,by decide,fun x y h=>by simpa using h⟩
def NG {α:Type} (e:hY α):hY (List α):=⟨fun l=>[.sl false false l.length (ae e l)],1,fun _=>rfl,by decide,fun x y h=>by
 simp only[acZ,D.sl.injEq,true_and,and_true]at h
 exact tl e _ _ h.2⟩
def xd {α β:Type} (e:hY α) (f:hY β):hY (α×β):=⟨fun x=>e.cells x.1++f.cells x.2,e.size+f.size,fun x=>by rw[adF,e.len,f.len],acE e.pos (Nat.le_add_right _ _),fun x y h=>by
 obtain⟨h1,h2⟩:=aev h (by rw[e.len,e.len])
 exact Prod.ext (e.inj _ _ h1) (f.inj _ _ h2)⟩
def Kd {α β:Type} (e:hY β) (f:α->β) (hf:∀x y,f x=f y->x=y):hY α:=⟨fun x=>e.cells (f x),e.size,fun x=>e.len _,e.pos,fun x y h=>hf _ _ (e.inj _ _ h)⟩
structure Arg (α:Type) where
 d:α->D
 inj:∀x y,d x=d y->x=y
def aI (k:IntKind):Arg Int:=⟨fun n =>.int k n,fun x y h=>by simpa using h⟩
def Z6:Arg Bool:=⟨fun n =>.bool n,fun x y h=>by simpa using h⟩
def mX {α:Type} (e:hY α):Arg (List α):=⟨fun l =>.sl false false l.length (ae e l),fun x y h=>by
 simp only[D.sl.injEq,true_and]at h
 exact tl e _ _ h.2⟩
def de {α:Type} (e:hY α):Arg α:=⟨fun x =>.agg (e.cells x),fun x y h=>e.inj _ _ (by simpa using h)⟩
theorem BM (k:IntKind) (n:Int):(eI k).cells n=[.int k n]:=afp
theorem zm (n:Bool):zl.cells n=[.bool n]:=afp
theorem BO (n:ByteArray):aae.cells n=[.str n]:=afp
theorem yp {α:Type} (e:hY α) (l:List α):(NG e).cells l=[.sl false false l.length (ae e l)]:=afp
structure kO (α:Type) where
 ds:α->List D
 inj:∀x y,ds x=ds y->x=y
def as0:kO Unit:=⟨fun _=>[],fun _ _ _=>rfl⟩
def fQ {α:Type} (a:Arg α):kO α:=⟨fun x=>[a.d x],fun x y h=>a.inj _ _ (by simpa using h)⟩
def jg {α β:Type} (a:Arg α) (b:kO β):kO (α×β):=⟨fun x=>a.d x.1::b.ds x.2,fun x y h=>by
 simp only[acZ]at h
 exact Prod.ext (a.inj _ _ h.1) (b.inj _ _ h.2)⟩
noncomputable def fU {α β:Type} (A:kO α) (F:α->Option β) (R:β->RK):Option (D×Row)->List D->Option (RK×Option Row):=fun lent ds =>
 match lent with
 | none=>open Classical in if h:∃a,A.ds a=ds then (F (Classical.choose h)).map fun r=>(R r,none) else none
 | some _=>none
theorem aV {α β:Type} (A:kO α) (F:α->Option β) (R:β->RK) (a:α):fU A F R none (A.ds a)=(F a).map fun r=>(R r,none):=by
 have h:∃b,A.ds b=A.ds a:=⟨a,rfl⟩
 simp only[fU]
 rw[dif_pos h,A.inj _ _ (Classical.choose_spec h)]
theorem xv {α β:Type} {A:kO α} {F:α->Option β} {R:β->RK} {lent:Option (D×Row)} {ds:List D} {rk:RK} {out:Option Row} (h:fU A F R lent ds=some (rk,out)):lent=none∧out=none∧∃a r,ds=A.ds a∧F a=some r∧rk=R r:=by
 unfold fU at h
 split at h
 ·split at h
  ·rename_i he
   rw[acz]at h
   obtain⟨r,h1,h2⟩:=h
   simp only[Prod.mk.injEq]at h2
   obtain⟨rfl,rfl⟩:=h2
   exact⟨rfl,rfl,_,r,(Classical.choose_spec he).symm,h1,rfl⟩
  ·cases h
 ·cases h
structure bW (P:Program) (f:FuncId) (G:Option (D×Row)->List D->Option (RK×Option Row)):Prop where
 calls:∀lent acw rk out,G lent acw=some (rk,out)->nV P f lent acw rk out
 callable:dn P f
theorem bW.of {P:Program} {T:Nat->Option Ty} {Γ:Env} (hT:jf P T) (hΓ:bC P Γ) (hm:P.follows .mixedOrders=true) {α β:Type} {A:kO α} {F:α->Option β} {R:β->RK} {mode:Mode} {f:FuncId} {fn:Func} (hf:P.funcs[f]? = some fn) (hok:(match fn.body with|some c=>codeOk c|none=>true)=true)
  (hc:(fn.name == "runtime.NumGoroutine")=false∧fn.body.isNone=false) (hn:∀a,(A.ds a).length<=fn.ntmps) (h:∀a r,F a=some r->a7 mode T Γ FU fn none (A.ds a)=some (R r,none)):bW P f (fU A F R) where
 calls lent acw rk out hg:=by
  obtain⟨rfl,rfl,a,r,rfl,hr,rfl⟩:=xv hg
  exact kM hT hΓ hm hf hok (hn a) rfl (h a r hr)
 callable:=⟨fn,hf,hc⟩
theorem bC.add {P:Program} {Γ:Env} (hΓ:bC P Γ) {f:Nat} {G:Option (D×Row)->List D->Option (RK×Option Row)} (h:bW P f G) (l:Bool):bC P (Am.ext Γ f l G):=hΓ.ext h.calls h.callable
section
variable {T:Nat->Option Ty} {Γ:Env} {N e:Nat} {ws:List W} {Q:Kt} {t:Nat->D} {h:Nat->Option Row}
def LK {σ ρ:Type} (Rel:σ->(Nat->D)->(Nat->Option Row)->Nat->Prop) (RelX:ρ->Ex->(Nat->D)->(Nat->Option Row)->Nat->Prop) (c:σ⊕ρ):Kt:=fun x t h e =>
 match x with
 | .normal=>∃s',c=.inl s'∧Rel s' t h e
 | x=>∃o,c=.inr o∧RelX o x t h e
theorem j5 {σ ρ:Type} {Rel:σ->(Nat->D)->(Nat->Option Row)->Nat->Prop} {RelX:ρ->Ex->(Nat->D)->(Nat->Option Row)->Nat->Prop} {s':σ} (k:Rel s' t h e):LK Rel RelX (.inl s') .normal t h e:=⟨s',rfl,k⟩
theorem ll {σ ρ:Type} {Rel:σ->(Nat->D)->(Nat->Option Row)->Nat->Prop} {RelX:ρ->Ex->(Nat->D)->(Nat->Option Row)->Nat->Prop} {o:ρ} {n:Nat} (k:RelX o (.exit n) t h e):LK Rel RelX (.inr o) (.exit n) t h e:=⟨o,rfl,k⟩
theorem IZ {σ ρ:Type} {Rel:σ->(Nat->D)->(Nat->Option Row)->Nat->Prop} {RelX:ρ->Ex->(Nat->D)->(Nat->Option Row)->Nat->Prop} {o:ρ} (k:RelX o .ret t h e):LK Rel RelX (.inr o) .ret t h e:=⟨o,rfl,k⟩
theorem aA {σ ρ:Type} {body:σ->Option (σ⊕ρ)} {b:Code} (Rel:σ->(Nat->D)->(Nat->Option Row)->Nat->Prop) (RelX:ρ->Ex->(Nat->D)->(Nat->Option Row)->Nat->Prop) {s0:σ} {out:ρ} (hL:aY body s0=some out) (h0:Rel s0 t h e)
  (hstep:∀s t h e,Rel s t h e->∀c,body s=some c->cD T Γ N FU [.code b] (LK Rel RelX c) .normal t h e)
  (hexit:∀x t h e,RelX out x t h e->cD T Γ N FU ws Q x t h e):RR T Γ N FU b ws Q t h e:=by
 have key:∀(n:Nat) (s:σ) (t:Nat->D) (h:Nat->Option Row) (e:Nat),Rel s t h e->nc body n s=some out->∃x s',iter (fO T Γ N FU b) n ⟨t,h,e⟩=some (x,s')∧cD T Γ N FU ws Q x s'.t s'.h s'.e:=by
  intro n
  induction n with
  | zero=>intro s t h e _ hi;cases hi
  | succ n ih =>
   intro s t h e hR hi
   simp only[nc]at hi
   cases hb:body s with
   | none=>rw[hb]at hi;cases hi
   | some c =>
    rw[hb]at hi
    obtain⟨x,s1,h1,h2⟩:=IW _ _ _ _ _ (show I2 T Γ N FU b t h e (LK Rel RelX c) from hstep s t h e hR c hb)
    simp only[iter,h1]
    cases x with
    | normal =>
     obtain⟨s',rfl,h4⟩:=h2
     exact ih s' s1.t s1.h s1.e h4 hi
    | exit m =>
     obtain⟨o,rfl,h4⟩:=h2
     simp only[acK]at hi
     subst hi
     exact⟨_,_,rfl,hexit _ _ _ _ h4⟩
    | ret =>
     obtain⟨o,rfl,h4⟩:=h2
     simp only[acK]at hi
     subst hi
     exact⟨_,_,rfl,hexit _ _ _ _ h4⟩
 exact key FU s0 t h e h0 hL
theorem xN {d:D} {g:Nat} {A B A' B':(Nat->D)->Prop} (hk:PY d t g A B) (h1:∀t,A t->A' t) (h2:∀t,B t->B' t):PY d t g A' B':=by
 cases d with
 | bool b=>exact⟨fun hb=>h1 _ (hk.1 hb),fun hb=>h2 _ (hk.2 hb)⟩
 | _=>exact hk
theorem DI {d:D} {g:Nat} {A B S A' B' S':(Nat->D)->Prop} (hk:wpS d t g A B S) (h1:∀t,A t->A' t) (h2:∀t,B t->B' t) (h3:∀t,S t->S' t):wpS d t g A' B' S':=by
 unfold wpS at hk ⊢
 split at hk
 ·exact h3 _ hk
 ·exact xN hk h1 h2
theorem CJ {α:Type} {x:Option α} {K K':α->Prop} (hk:oF x K) (h1:∀a,K a->K' a):oF x K':=by
 cases x with
 | none=>exact hk
 | some a=>exact h1 a hk
theorem ND {ops:List Oper} {gd:Option (Nat×Bool)} {A B A' B':(Nat->D)->Prop} (hk:WX ops t gd A B) (h1:∀t,A t->A' t) (h2:∀t,B t->B' t):WX ops t gd A' B':=by
 unfold WX at hk ⊢
 split
 ·exact h1 _ hk
 ·rename_i j want
  refine CJ hk fun g hg=>DI hg ?_ ?_ h2
  ·intro t ht;cases want<;>simp_all
  ·intro t ht;cases want<;>simp_all
theorem xP {o:Oper} {K K':(Nat->D)->bI->Prop} (hk:P0 T Γ e o t h K) (h1:∀t E,K t E->K' t E):P0 T Γ e o t h K':=by
 unfold P0 at hk ⊢
 split
 ·rename_i ho
  rw[ho]at hk
  exact xN hk (fun _ h=>h1 _ _ h) (fun _ h=>h1 _ _ h)
 ·rename_i hne
  split at hk
  ·rename_i c a b ho;exact absurd ho (hne _ _ _)
  ·exact CJ hk (fun _ h=>h1 _ _ h)
theorem vd {ops:List Oper} {K K':(Nat->D)->(Nat->Option Row)->Prop} (h1:∀t h,K t h->K' t h):∀(l:List Oper) (t:Nat->D) (h:Nat->Option Row),Dj T Γ N e ops l t h K->Dj T Γ N e ops l t h K'
 | [],t,h,hk=>h1 _ _ hk
 | o::l,t,h,hk=>by
  unfold Dj at hk ⊢
  exact⟨hk.1,ND hk.2 (fun t ht=>xP ht fun t E hE=>vd h1 l _ _ hE) (fun t ht=>vd h1 l _ _ ht)⟩
theorem u7 {ops:List Oper} {K K':(Nat->D)->(Nat->Option Row)->List jE->Prop} (h1:∀t h fs,K t h fs->K' t h fs):∀(l:List Oper) (t:Nat->D) (h:Nat->Option Row) (fs:List jE),runK T Γ N e ops l t h fs K->runK T Γ N e ops l t h fs K'
 | [],t,h,fs,hk=>h1 _ _ _ hk
 | o::l,t,h,fs,hk=>by
  unfold runK at hk ⊢
  exact⟨hk.1,ND hk.2 (fun t ht=>xP ht fun t E hE=>u7 h1 l _ _ _ hE) (fun t ht=>u7 h1 l _ _ _ ht)⟩
theorem WZ {ops:Array Oper} {draw:Bool} {K K':(Nat->D)->(Nat->Option Row)->Prop} (hk:wpR T Γ N ops draw t h e K) (h1:∀t h,K t h->K' t h):wpR T Γ N ops draw t h e K':=by
 unfold wpR at hk ⊢
 cases draw with
 | true=>exact u7 (fun t h fs hh=>⟨hh.1,h1 _ _ hh.2⟩) _ _ _ _ hk
 | false=>exact vd h1 _ _ _ hk
theorem TK {F:Nat} : ∀(c:Code) (t:Nat->D) (h:Nat->Option Row) (e:Nat) (K K':Kt),I2 T Γ N F c t h e K->(∀x t h e,K x t h e->K' x t h e)->I2 T Γ N F c t h e K':=by
 intro c
 induction c with
 | skip=>intro t h e K K' hk hm;exact hm _ _ _ _ hk
 | region i ops draw=>intro t h e K K' hk hm;exact WZ hk fun t h hh=>hm _ _ _ _ hh
 | seq a b iha ihb =>
  intro t h e K K' hk hm
  refine iha _ _ _ _ _ hk fun x t h e hx =>?_
  cases x with
  | normal=>exact ihb _ _ _ _ _ hx hm
  | exit n=>exact hm _ _ _ _ hx
  | ret=>exact hm _ _ _ _ hx
 | cond c x y ihx ihy =>
  intro t h e K K' hk hm
  unfold I2 at hk ⊢
  cases c with
  | tmp g=>exact xN hk (fun t ht=>ihx _ _ _ _ _ ht hm) (fun t ht=>ihy _ _ _ _ _ ht hm)
  | const v =>
   cases v with
   | bool b =>
    cases b with
    | true=>exact ihx _ _ _ _ _ hk hm
    | false=>exact ihy _ _ _ _ _ hk hm
   | _=>exact hk
  | _=>exact hk
 | block id b ih =>
  intro t h e K K' hk hm
  refine ih _ _ _ _ _ hk fun x t h e hx =>?_
  cases x with
  | normal=>exact hm _ _ _ _ hx
  | ret=>exact hm _ _ _ _ hx
  | exit n =>
   unfold Ui at hx ⊢
   simp only at hx ⊢
   split at hx
   ·rename_i hn;rw[if_pos hn];exact hm _ _ _ _ hx
   ·rename_i hn;rw[if_neg hn];exact hm _ _ _ _ hx
 | loop b ih =>
  intro t h e K K' hk hm
  obtain⟨x,s,h1,h2⟩:=hk
  exact⟨x,s,h1,hm _ _ _ _ h2⟩
 | exit id=>intro t h e K K' hk hm;exact hm _ _ _ _ hk
 | ret=>intro t h e K K' hk hm;exact hm _ _ _ _ hk
 | _=>intro t h e K K' hk;exact hk.elim
def CK {σ:Type} (J:σ->(Nat->D)->(Nat->Option Row)->Nat->Prop) (P:σ->Prop) (R:Kt):Kt:=fun x t h e =>
 match x with
 | .normal=>∃s,P s∧J s t h e
 | x=>R x t h e
theorem au {σ:Type} {J:σ->(Nat->D)->(Nat->Option Row)->Nat->Prop} {P:σ->Prop} {R:Kt} : CK J P R .normal t h e = ∃s,P s∧J s t h e:=afp
end
section
variable {h:Nat->Option Row}
theorem ES {k:IntKind} {n:Int} : canon (.int k n)=.int k n:=afp
theorem Bm {b:Bool} : canon (.bool b)=.bool b:=afp
theorem EU {b:ByteArray} : canon (.str b)=.str b:=afp
theorem Js {a b:Bool} {n:Nat} {xs:List D} : canon (.sl a b n xs)=.sl false false n xs:=afp
theorem Bj {k:IntKind} {n:Int} : e9 (.int k n)=.int k n:=afp
theorem y9 {b:Bool} : e9 (.bool b)=.bool b:=afp
theorem Bl {b:ByteArray} : e9 (.str b)=.str b:=afp
theorem ER {a b:Bool} {n:Nat} {xs:List D} : e9 (.sl a b n xs)=.sl false false n xs:=afp
theorem Bi {xs:List D} : e9 (.agg xs)=.agg (xs.map canon):=afp
def Xg (x s o n:Nat):Option Row->Option (D×List Nat)
 | some r=>if o+n*s<=r.cells.length then some (.sl false false n ((r.cells.drop o).take (n*s)),[x]) else none
 | none=>none
theorem JD {x s o n:Nat} {r:Row} : Xg x s o n (some r)=if o+n*s<=r.cells.length then some (.sl false false n ((r.cells.drop o).take (n*s)),[x]) else none:=afp
def ZY (x o:Nat):Option Row->Option (D×List Nat)
 | some r=>if o<=r.cells.length then some (.ip (r.cells.drop o),[x]) else none
 | none=>none
theorem JJ {x o:Nat} {r:Row} : ZY x o (some r)=if o<=r.cells.length then some (.ip (r.cells.drop o),[x]) else none:=afp
theorem Jz {k:IntKind} {n:Int} : bn h (.int k n)=some (.int k n,[]):=afp
theorem EW {b:Bool} : bn h (.bool b)=some (.bool b,[]):=afp
theorem JC {b:ByteArray} : bn h (.str b)=some (.str b,[]):=afp
theorem QL {a b:Bool} {n:Nat} {xs:List D} : bn h (.sl a b n xs)=some (.sl false false n xs,[]):=afp
theorem Jv {xs:List D} : bn h (.agg xs)=some (.agg (xs.map canon),[]):=afp
theorem QJ {xs:List D} : bn h (.ip xs)=some (.ip xs,[]):=afp
theorem QI {f:Nat} : bn h (.fn f)=some (.fn f,[]):=afp
theorem Jx {x v s o n:Nat} : bn h (.buf x v s o n)=Xg x s o n (live h x v):=by
 simp only[bn,aM,cS]
 cases live h x v with
 | none=>rfl
 | some r=>by_cases hc:o+n*s<=r.cells.length<;>simp[Xg,hc,canon]
theorem JB {x v o:Nat} : bn h (.ptr x v o)=ZY x o (live h x v):=by
 simp only[bn,aM]
 cases live h x v with
 | none=>rfl
 | some r=>simp only[ZY]
theorem UD {k:IntKind} {n:Int} : dR h (.int k n)=some ([.int k n],[]):=afp
theorem QO {b:Bool} : dR h (.bool b)=some ([.bool b],[]):=afp
theorem UE {b:ByteArray} : dR h (.str b)=some ([.str b],[]):=afp
theorem Yj {a b:Bool} {n:Nat} {xs:List D} : dR h (.sl a b n xs)=some ([.sl a b n xs],[]):=afp
theorem UB {xs:List D} : dR h (.agg xs)=some (xs,[]):=afp
def cvB:Option (D×List Nat)->Option (List D×List Nat)
 | some (d,fr)=>some ([d],fr)
 | none=>none
theorem JR {d:D} {fr:List Nat} : cvB (some (d,fr))=some ([d],fr):=afp
theorem UC {x v s o n:Nat} : dR h (.buf x v s o n)=cvB (Xg x s o n (live h x v)):=by
 simp only[dR,cS]
 cases live h x v with
 | none=>rfl
 | some r=>by_cases hc:o+n*s<=r.cells.length<;>simp[Xg,cvB,hc]
def clF (h:Nat->Option Row):Option (D×List Nat)->Option bI
 | some (d,fr)=>some ⟨d,ik h fr⟩
 | none=>none
theorem JF {d:D} {fr:List Nat} : clF h (some (d,fr))=some ⟨d,ik h fr⟩:=afp
theorem Qj {x v s o n:Nat} : gJ h (.buf x v s o n)=clF h (Xg x s o n (live h x v)):=by
 simp only[gJ,oa,cS]
 cases live h x v with
 | none=>rfl
 | some r=>by_cases hc:o+n*s<=r.cells.length<;>simp[Xg,clF,hc,canon,e9]
variable {Γ:Env} {f g e:Nat} {l:Bool} {G:Option (D×Row)->List D->Option (RK×Option Row)} {lent:Option (D×Row)} {acw:List D} {dst:Option Nat} {fr:List Nat}
theorem FC:(Am.ext Γ f l G).lends g=if g=f then l else Γ.lends g:=afp
theorem Ra:(Am.ext Γ f l G).sem g lent acw=if g=f then G lent acw else Γ.sem g lent acw:=afp
theorem Q9 {d:Nat} : (Am.ext Γ f l G).own d=Γ.own d:=afp
theorem Gg {d:Nat} : a6.own d=true:=afp
theorem Lk {d i:Nat} : (Am.keep d Γ).own i=(i != d&&Γ.own i):=afp
theorem Cl {d i:Nat} : (Am.keep d Γ).lends i=Γ.lends i:=afp
theorem Ll {d i:Nat} : (Am.keep d Γ).sem i lent acw=Γ.sem i lent acw:=afp
def A9 (lends:Bool) (Γ:Env) (h:Nat->Option Row) (e:Nat) (dst:Option Nat) (g:Nat) (args:List D):Option bI :=
 if lends then
  match args with
  | .buf x v s o n::rest=>sn Γ h e dst g x v (.buf 0 0 s o n) rest
  | .ptr x v o::rest=>sn Γ h e dst g x v (.ptr 0 0 o) rest
  | _=>none
 else sY Γ h e dst g args
def Xf (p:Option (Nat×Nat×Nat)) (Γ:Env) (h:Nat->Option Row) (e:Nat) (dst:Option Nat) (g:Nat) (args:List D):Option bI :=
 match p with
 | some p=>sk h e dst p args
 | none =>
  match Γ.grw g with
  | some p=>sj h p args
  | none=>A9 (Γ.lends g) Γ h e dst g args
def Y7 (p:Option Grow) (Γ:Env) (h:Nat->Option Row) (e:Nat) (dst:Option Nat) (g:Nat) (args:List D):Option bI :=
 match p with
 | some p=>sj h p args
 | none=>A9 (Γ.lends g) Γ h e dst g args
theorem EJ {args:List D} : Xf none Γ h e dst g args=Y7 (Γ.grw g) Γ h e dst g args:=afp
theorem EG {args:List D} : Y7 none Γ h e dst g args=A9 (Γ.lends g) Γ h e dst g args:=afp
theorem EI {p:Grow} {args:List D} : Y7 (some p) Γ h e dst g args=sj h p args:=afp
theorem Q6 {f:Nat} {l:Bool} {G:Option (D×Row)->List D->Option (RK×Option Row)} : (Am.ext Γ f l G).grw g=Γ.grw g:=afp
theorem Lh {d:Nat} : (Am.keep d Γ).grw g=Γ.grw g:=afp
theorem K3 {d y:Nat} : (Am.vO d y Γ).grw g=Γ.grw g:=afp
theorem Lb {f:Nat} {p:Nat×Nat×Nat} : (Am.yx f p Γ).grw g=Γ.grw g:=afp
theorem Gc:a6.grw g=none:=afp
theorem KU {f:Nat} {p:Grow} : (Am.Cf f p Γ).grw g=if g=f then some p else Γ.grw g:=afp
theorem KV {f:Nat} {p:Grow} : (Am.Cf f p Γ).ins g=Γ.ins g:=afp
theorem Cg {f:Nat} {p:Grow} : (Am.Cf f p Γ).lends g=Γ.lends g:=afp
theorem KY {f:Nat} {p:Grow} {l:Option (D×Row)} {acw:List D} : (Am.Cf f p Γ).sem g l acw=Γ.sem g l acw:=afp
theorem KX {f:Nat} {p:Grow} {d:Nat} : (Am.Cf f p Γ).own d=Γ.own d:=afp
theorem FR {f:Nat} {p:Grow} {d:Nat} : (Am.Cf f p Γ).hint d=Γ.hint d:=afp
def lvP (v:Nat):Option Row->Option (Row×Nat×Nat×Nat)
 | some r=>if r.v=v∧r.mp=true then (match r.cells with | [.ph y s n]=>some (r,y,s,n)|_=>none) else none
 | none=>none
theorem LA {x v:Nat} : kz h x v=lvP v (h x):=by
 unfold kz lvP
 cases h x<;>rfl
theorem LP {v ty y s n:Nat} {fz lst:Bool} : lvP v (some ⟨v,ty,[.ph y s n],fz,lst,true⟩)=some (⟨v,ty,[.ph y s n],fz,lst,true⟩,y,s,n):=by simp[lvP]
def Ul (p:Grow) (y k:Nat) (rest:List D):Option (Row×Nat×Nat×Nat)->Option Row->Option bI
 | some (ry,k',s,n),some r =>
   if k'=k∧k=PK+y∧y<PK∧ry.fz=false∧r.mp=false∧r.fz=false∧r.lst=true∧s=p.k∧r.ty=p.ty∧r.cells.length=n*p.k∧(n+1)*p.bytes<=140737488355328 then
    match p.sem r.cells rest with
    | some cs=>some ⟨.int .i64 (n:Int),[(k,some ⟨r.v,p.ty,r.cells++cs,false,true,false⟩),(y,some ⟨ry.v,ry.ty,[.ph k p.k (n+1)],false,false,true⟩)]⟩
    | none=>none
   else none
 | _,_=>none
theorem Qz {p:Grow} {y v k:Nat} {rest:List D} : sj h p (.pm y v k::rest)=Ul p y k rest (kz h y v) (h k):=afp
def Yi (k y v ty e' ty' k' n:Nat) (cells:List D):Option (List D)->Option bI
 | some cs=>some ⟨.int .i64 (n:Int),[(k,some ⟨e',ty',cells++cs,false,true,false⟩),(y,some ⟨v,ty,[.ph k k' (n+1)],false,false,true⟩)]⟩
 | none=>none
theorem A7 {ty' k' by_:Nat} {sem:List D->List D->Option (List D)} {y k:Nat} {rest:List D} {v ty s n e' tyr:Nat} {cells:List D} : Ul ⟨ty',k',by_,sem⟩ y k rest (some (⟨v,ty,[.ph k s n],false,false,true⟩,k,s,n)) (some ⟨e',tyr,cells,false,true,false⟩) =
  if k=1000000+y∧y<1000000∧s=k'∧tyr=ty'∧cells.length=n*k'∧(n+1)*by_<=140737488355328 then Yi k y v ty e' ty' k' n cells (sem cells rest) else none:=by
 simp only[Ul,PK,true_and]
 cases sem cells rest<;>rfl
theorem A8 {k y v ty e' ty' k' n:Nat} {cells cs:List D} : Yi k y v ty e' ty' k' n cells (some cs)=some ⟨.int .i64 (n:Int),[(k,some ⟨e',ty',cells++cs,false,true,false⟩),(y,some ⟨v,ty,[.ph k k' (n+1)],false,false,true⟩)]⟩:=afp
theorem EK {p:Nat×Nat×Nat} {args:List D} : Xf (some p) Γ h e dst g args=sk h e dst p args:=afp
theorem Q7 {f:Nat} {l:Bool} {G:Option (D×Row)->List D->Option (RK×Option Row)} : (Am.ext Γ f l G).ins g=Γ.ins g:=afp
theorem Li {d:Nat} : (Am.keep d Γ).ins g=Γ.ins g:=afp
theorem K4 {d y:Nat} : (Am.vO d y Γ).ins g=Γ.ins g:=afp
theorem Gd:a6.ins g=none:=afp
theorem Lc {f:Nat} {p:Nat×Nat×Nat} : (Am.yx f p Γ).ins g=if g=f then some p else Γ.ins g:=afp
theorem Ck {f:Nat} {p:Nat×Nat×Nat} : (Am.yx f p Γ).lends g=Γ.lends g:=afp
theorem Lf {f:Nat} {p:Nat×Nat×Nat} {l:Option (D×Row)} {acw:List D} : (Am.yx f p Γ).sem g l acw=Γ.sem g l acw:=afp
theorem Le {f:Nat} {p:Nat×Nat×Nat} {d:Nat} : (Am.yx f p Γ).own d=Γ.own d:=afp
theorem FW {f:Nat} {p:Nat×Nat×Nat} {d:Nat} : (Am.yx f p Γ).hint d=Γ.hint d:=afp
def Um (ty k by_ x y s s' o o' n m:Nat) (i:Int) (e:Nat) (d:Nat):Option Row->Option Row->Option bI
 | some r,some r' =>
   if r.fz=false∧r'.fz=false∧r.lst=true∧r'.lst=true∧x≠y∧s=k∧s'=k∧r.ty=ty∧r'.ty=ty∧o=0∧o'=0∧r.cells.length=n*k∧r'.cells.length=m*k∧0<=i∧i<=n∧0<m∧(n+m)*by_<=140737488355328 then
    some ⟨.buf d e k 0 (n+m),[(y,none),(x,none),(d,some ⟨e,ty,r.cells.take (i.toNat*k)++(r'.cells++r.cells.drop (i.toNat*k)),false,true,false⟩)]⟩
   else none
 | _,_=>none
theorem QA {ty k by_ x v s o n y v' s' o' m d:Nat} {i:Int} : sk h e (some d) (ty,k,by_) [.buf x v s o n,.int .i64 i,.buf y v' s' o' m]=Um ty k by_ x y s s' o o' n m i e d (live h x v) (live h y v'):=by
 simp only[sk,Um]
 cases live h x v with
 | none=>rfl
 | some r=>cases live h y v'<;>rfl
theorem Bb {ty k by_ x y s s' o o' n m : Nat} {i : Int} {d : Nat} {r r' : Row} : Um ty k by_ x y s s' o o' n m i e d (some r) (some r') = if r.fz = false ∧ r'.fz = false ∧ r.lst = true ∧ r'.lst = true ∧ x ≠ y ∧ s = k ∧ s' = k ∧ r.ty = ty ∧ r'.ty = ty ∧ o = 0 ∧ o' = 0 ∧ r.cells.length = n * k ∧ r'.cells.length = m * k ∧ 0 <= i ∧ i <= n ∧ 0 < m ∧ (n + m) * by_ <= 140737488355328 then
        some ⟨.buf d e k 0 (n + m), [(y, none), (x, none), (d, some ⟨e, ty, r.cells.take (i.toNat * k) ++ (r'.cells ++ r.cells.drop (i.toNat * k)), false, true, false⟩)]⟩
      else none := Eq.trans rfl rfl
theorem QB {args:List D} : gD Γ h e dst (.fn g) args=Xf (Γ.ins g) Γ h e dst g args:=by
 simp only[gD,Xf,A9]
 cases Γ.ins g with
 | none=>cases Γ.grw g<;>rfl
 | some p=>rfl
def Sy (h:Nat->Option Row) (e:Nat) (dst:Option Nat) (fr:List Nat):Option (RK×Option Row)->Option bI
 | some (.clean r,_)=>some ⟨r,if fM r then [] else ik h fr⟩
 | some (.fresh ty s n cells,_) =>
  match dst with
  | some d=>if fr.contains d=false then some ⟨.buf d e s 0 n,(if ov cells then [] else ik h fr)++[(d,some ⟨e,ty,cells,false,true,false⟩)]⟩ else none
  | none=>none
 | _=>none
def Uk (Γ:Env) (h:Nat->Option Row) (e:Nat) (dst:Option Nat) (g:Nat):Option (List D×List Nat)->Option bI
 | some (acw,fr)=>Sy h e dst fr (Γ.sem g none acw)
 | none=>none
theorem yl {args:List D} : A9 false Γ h e dst g args=Uk Γ h e dst g (bj h args):=by
 simp only[A9,adb,if_false,sY,Uk]
 cases bj h args with
 | none=>rfl
 | some p =>
  obtain⟨acw,fr⟩:=p
  simp only
  cases hs:Γ.sem g none acw with
  | none=>rfl
  | some q =>
   obtain⟨rk,o⟩:=q
   cases rk<;>rfl
theorem EE:Uk Γ h e dst g (some (acw,fr))=Sy h e dst fr (Γ.sem g none acw):=afp
def Vb (h:Nat->Option Row) (fr:List Nat):Bool->List (Nat×Option Row)
 | true=>[]
 | false=>ik h fr
theorem FO:Vb h fr true=[]:=afp
theorem B6:Vb h fr false=ik h fr:=afp
theorem Kz {b:Bool} : Vb h [] b=[]:=by cases b<;>rfl
theorem Bf {r:D} {o:Option Row} : Sy h e dst fr (some (.clean r,o))=some ⟨r,Vb h fr (fM r)⟩:=by
 simp only[Sy]
 cases fM r<;>rfl
theorem Rc:ik h []=[]:=afp
theorem KA {x:Nat} : ik h (x::fr)=(x,(h x).map p8)::ik h fr:=afp
theorem Ve {v ty:Nat} {cells:List D} {lst mp:Bool} : p8 ⟨v,ty,cells,true,lst,mp⟩=⟨v,ty,cells,true,lst,mp⟩:=afp
theorem Vc {v ty:Nat} {cells:List D} {lst mp:Bool} : p8 ⟨v,ty,cells,false,lst,mp⟩=⟨v,ty,cells,true,true,mp⟩:=afp
theorem EX:bj h []=some ([],[]):=afp
def caC (p:Option (D×List Nat)) (q:Option (List D×List Nat)):Option (List D×List Nat) :=
 match p,q with
 | some (d',fr),some (ds',fr')=>some (d'::ds',fr++fr')
 | _,_=>none
theorem Je {d:D} {fr fr':List Nat} {ds:List D} : caC (some (d,fr)) (some (ds,fr'))=some (d::ds,fr++fr'):=afp
theorem Bn {d:D} {ds:List D} : bj h (d::ds)=caC (bn h d) (bj h ds):=by
 simp only[bj]
 cases bn h d with
 | none=>rfl
 | some p=>cases bj h ds<;>rfl
variable {T:Nat->Option Ty} {s:St} {rs:List ResultVar} {r:ResultVar}
theorem MU:tR T s []=some ([],[]):=afp
theorem GN:tR T s (r::rs)=caC (MS T s r) (tR T s rs):=by
 simp only[tR]
 cases MS T s r with
 | none=>rfl
 | some p=>cases tR T s rs<;>rfl
theorem MT {t:Nat->D} {i:Nat} : MS T ⟨t,h,e⟩ (.tmp i)=bn h (t i):=afp
def ZG (T:Nat->Option Ty) (h:Nat->Option Row) (d:D) (τ:Option Ty):Option (D×List Nat) :=
 match τ,d with
 | some τ,.ptr x v o=>match df τ h (.ptr x v o) with|some E=>some (e9 E.val,[])|none=>none
 | _,_=>none
theorem GL {t:Nat->D} {i ty:Nat} : MS T ⟨t,h,e⟩ (.cell i ty)=ZG T h (t i) (T ty):=afp
def ZH:Option bI->Option (D×List Nat)
 | some E=>some (e9 E.val,[])
 | none=>none
theorem GM {d:D} {w:List (Nat×Option Row)} : ZH (some ⟨d,w⟩)=some (e9 d,[]):=afp
theorem MR {τ:Ty} {x v o:Nat} : ZG T h (.ptr x v o) (some τ)=ZH (df τ h (.ptr x v o)):=by
 simp only[ZG,ZH]
def Zh (p:Option (List D×List Nat)):Option (RK×Option Row) :=
 match p with
 | some (ds,_)=>some (.clean (l9 ds),none)
 | none=>none
theorem Ft {ds:List D} {fr:List Nat} : Zh (some (ds,fr))=some (.clean (l9 ds),none):=afp
theorem BZ:jl .clean T none rs s=Zh (tR T s rs):=by
 simp only[jl,tn,lj,XK,Zh]
 cases tR T s rs<;>rfl
theorem Bg {ty sz n d:Nat} {cells:List D} {o:Option Row} : Sy h e (some d) fr (some (.fresh ty sz n cells,o))=if fr.contains d=false then some ⟨.buf d e sz 0 n,Vb h fr (ov cells)++[(d,some ⟨e,ty,cells,false,true,false⟩)]⟩ else none:=by
 simp only[Sy]
 cases ov cells<;>rfl
theorem yt {k:IntKind} : ∀l:List Int,ov (ae (eI k) l)=true
 | []=>rfl
 | x::l=>by
  have:=yt (k:=k) l
  simp only[aK,BM,List.cons_append,List.nil_append,ov,fM,this,Bool.and_self]
theorem B0 {ty sz i:Nat} {t:Nat->D} : jl (.fresh ty sz) T none [.tmp i] ⟨t,h,e⟩=lX ty sz h (t i):=afp
theorem B1 {i:Nat} {t:Nat->D} : jl .tight T none [.tmp i] ⟨t,h,e⟩=uA (t i):=afp
theorem U6 {nl tg:Bool} {n:Nat} {xs:List D} : uA (.sl nl tg n xs)=some (.clean (.sl nl tg n xs),none):=afp
theorem QX {ty sz x v o n:Nat} : lX ty sz h (.buf x v sz o n)=uz ty sz o n (live h x v):=by simp[lX]
theorem U0 {ty sz:Nat} {nl tg:Bool} {xs:List D} : lX ty sz h (.sl nl tg 0 xs)=if tg=true then some (.fresh ty sz 0 [],none) else none:=afp
theorem Ke {ty sz o n:Nat} {r:Row} : uz ty sz o n (some r)=if r.fz=false∧r.ty=ty∧o+n*sz<=r.cells.length then some (.fresh ty sz n ((r.cells.drop o).take (n*sz)),none) else none:=afp
theorem Dc {d:D} : l9 [d]=d:=afp
theorem Dd {d d':D} {ds:List D} : l9 (d::d'::ds)=.tup (d::d'::ds):=afp
end
theorem Aw (k:IntKind):(eI k).size=1:=afp
theorem qY:zl.size=1:=afp
theorem uy:aae.size=1:=afp
theorem xe {α:Type} (e:hY α):(NG e).size=1:=afp
section
variable {α:Type} (E:hY α) {l m:List α} {x x' z:α} {i a b n c:Int} {B:Nat}
theorem oA (h:P.idx l i=some x):0<=i∧i<l.length:=by
 unfold P.idx at h
 split at h
 ·assumption
 ·cases h
theorem H2 (h:P.idx l i=some x):l[i.toNat]? = some x:=by
 unfold P.idx at h
 split at h
 ·exact h
 ·cases h
theorem xq (h:P.idx l i=some x):(ae E l).drop (i.toNat*E.size)=E.cells x++ae E (l.drop (i.toNat+1)):=by
 have h':=H2 h
 obtain⟨hi,rfl⟩:=ac4.1 h'
 rw[nQ,aew hi]
 rfl
theorem iW (fo:Nat) (h:P.idx l i=some x):(ae E l).drop (i.toNat*E.size+fo)=(E.cells x++ae E (l.drop (i.toNat+1))).drop fo:=by
 rw[<- aen,xq E h]
theorem jn (h:P.idx l i=some x):i.toNat*E.size+E.size<=l.length*E.size:=by
 have h':=oA h
 have:i.toNat+1<=l.length:=by omega
 have:=adp E.size this
 rwa [adz]at this
theorem bN (h:P.idx l i=some x):(0<=i∧i<l.length)∧(ae E l).drop (i.toNat*E.size)=E.cells x++ae E (l.drop (i.toNat+1))∧i.toNat*E.size+E.size<=l.length*E.size:=⟨oA h,xq E h,jn E h⟩
theorem il (fo s:Nat) (hs:fo+s<=E.size) (h:P.idx l i=some x):i.toNat*E.size+fo+s<=l.length*E.size:=by
 have:=jn E h
 omega
theorem Ps:∀(l:List α) (i:Nat) (x:α),l[i]? = some x->∀x',ae E (l.set i x')=(ae E l).take (i*E.size)++E.cells x'++(ae E l).drop (i*E.size+E.size)
 | [],i,x,h,x'=>by simp at h
 | y::l,0,x,h,x'=>by
  rw[List.set_cons_zero,aK,aK,aep,aex,aei,adq,aek,E.len,adH,adX,ael (by rw[E.len];exact acB _),aei]
 | y::l,i+1,x,h,x'=>by
  have ih:=Ps l i x (by simpa using h) x'
  rw[List.set_cons_succ,aK,aK,ih,adz]
  have hy:=E.len y
  have e1:(E.cells y++ae E l).take (i*E.size+E.size)=E.cells y++(ae E l).take (i*E.size):=by rw[adU,hy,adW (by omega),aem]
  have e2:(E.cells y++ae E l).drop (i*E.size+E.size+E.size)=(ae E l).drop (i*E.size+E.size):=by
   rw[aek,hy,ael (by omega),aei,aem]
  rw[e1,e2]
  simp only[adR]
theorem eN (fo:Nat) (cs:List D) (h:P.idx l i=some x) (hc:E.cells x'=putCells (E.cells x) fo cs) (hfo:fo+cs.length<=E.size):putCells (ae E l) (i.toNat*E.size+fo) cs=ae E (l.set i.toNat x'):=by
 have h':=H2 h
 rw[Ps E l i.toNat x h' x',hc]
 have he:=xq E h
 have hf:=jn E h
 have hl:=bG E l
 have hx:=E.len x
 have hsplit:ae E l=(ae E l).take (i.toNat*E.size)++(E.cells x++(ae E l).drop (i.toNat*E.size+E.size)):=by
  have h1:=aeo (i.toNat*E.size) (ae E l)
  have h2:(ae E l).drop (i.toNat*E.size+E.size)=ae E (l.drop (i.toNat+1)):=by
   rw[<- aen,he,aek,hx,adH,adX,ael (by omega),aei]
  rw[h2,<- he,h1]
 generalize (ae E l).drop (i.toNat*E.size+E.size)=r at *
 generalize ht:(ae E l).take (i.toNat*E.size)=p at *
 have hp:p.length=i.toNat*E.size:=by rw[<- ht];simp;omega
 unfold putCells
 rw[hsplit]
 have e1:(p++(E.cells x++r)).take (i.toNat*E.size+fo)=p++(E.cells x).take fo:=by
  rw[adU,hp,adW (by omega),adT,adV (by omega)]
 have e2:(p++(E.cells x++r)).drop (i.toNat*E.size+fo+cs.length)=(E.cells x).drop (fo+cs.length)++r:=by
  rw[acW,aek,hp,ael (by omega),adT,aei,adS (by omega)]
 rw[e1,e2]
 simp only[adR]
theorem VW (h:P.idx l i=some x):putCells (ae E l) (i.toNat*E.size) (E.cells x')=ae E (l.set i.toNat x'):=by
 have:=eN E (x':=x') 0 (E.cells x') h (by unfold putCells;simp[E.len]) (by rw[E.len];omega)
 simpa using this
theorem VF (h:D7 B n c z=some m):m=List.replicate n.toNat z∧0<=n∧n<=c∧c<=maxLen∧c.toNat*B<=140737488355328:=by
 unfold D7 at h
 split at h
 ·cases h;exact⟨rfl,by assumption⟩
 ·cases h
theorem mk_one (h:D7 B n n z=some m):0<=n∧n.toNat=m.length∧m.length<=maxLen∧l8 m.length (E.cells z)=ae E m∧m.length*B<=140737488355328:=by
 obtain⟨rfl,h1,_,h3,h4⟩:=VF h
 refine⟨h1,by simp,by simp;omega,by rw[Ki];simp,by simpa using h4⟩
theorem yM (h:Aq l a b=some m):0<=a∧0<=b∧a.toNat<=b.toNat∧b.toNat<=l.length∧b.toNat-a.toNat=m.length∧(List.take (m.length*E.size) (List.drop (a.toNat*E.size) (ae E l))=ae E m):=by
 unfold Aq at h
 split at h
 ·rename_i hc
  cases h
  have hl:((l.drop a.toNat).take (b.toNat-a.toNat)).length=b.toNat-a.toNat:=by simp;omega
  refine⟨hc.1,by omega,by omega,by omega,hl.symm,?_⟩
  rw[hl,nQ,dY]
 ·cases h
theorem ZN (h:Aq l a b=some m):0<=a∧0<=b∧(a.toNat<=b.toNat∧b.toNat<=l.length)∧b.toNat-a.toNat=m.length∧(List.take (m.length*E.size) (List.drop (a.toNat*E.size) (ae E l))=ae E m):=by
 obtain⟨h1,h2,h3,h4,h5,h6⟩:=yM E h
 exact⟨h1,h2,⟨h3,h4⟩,h5,h6⟩
theorem V6 (h:Aq l a (l.length:Int)=some m):0<=a∧0<=a∧a.toNat<=l.length∧l.length-a.toNat=m.length∧(List.take (m.length*E.size) (List.drop (a.toNat*E.size) (ae E l))=ae E m):=by
 obtain⟨h1,h2,h3,h4,h5,h6⟩:=yM E h
 simp only[Int.toNat_natCast]at h3 h5
 exact⟨h1,h1,h3,h5,h6⟩
theorem IH (h:Aq l 0 b=some m):0<=b∧0<=b∧m.length<=l.length∧b.toNat=m.length∧(List.take (m.length*E.size) (ae E l)=ae E m):=by
 obtain⟨h1,h2,h3,h4,h5,h6⟩:=yM E h
 have h5':b.toNat=m.length:=by simpa using h5
 refine⟨h2,h2,by omega,h5',by simpa using h6⟩
theorem yh {n:List α} (h:lS B l m=some n):n=l++m∧n.length<=maxLen∧n.length*B<=140737488355328:=by
 unfold lS at h
 split at h
 ·rename_i hc
  cases h
  exact⟨rfl,by rw[adF];exact hc.1,by rw[adF];exact hc.2⟩
 ·cases h
theorem iK {n:List α} (h:lS B l [x]=some n):l.length+1=n.length∧ae E l++E.cells x=ae E n∧n.length<=maxLen∧n.length*B<=140737488355328:=by
 obtain⟨rfl,h1,h2⟩:=yh h
 exact⟨by simp,by rw[fh];simp[ae],h1,h2⟩
theorem As {n:List α} (h:lS B [] l=some n):n=l∧l.length<=maxLen∧l.length*B<=140737488355328:=by
 obtain⟨rfl,h1,h2⟩:=yh h
 exact⟨rfl,h1,h2⟩
theorem Xa {n:List α} (h:lS B l m=some n):l.length+m.length=n.length∧ae E l++ae E m=ae E n∧n.length<=maxLen∧n.length*B<=140737488355328:=by
 obtain⟨rfl,h1,h2⟩:=yh h
 exact⟨by simp,by rw[fh],h1,h2⟩
end
theorem qW {k:IntKind} {x y z:Int} (h:ym k x y=some z):¬y=0∧k.wrap (x.tdiv y)=z:=by
 unfold ym at h
 split at h
 ·cases h
 ·cases h;exact⟨by assumption,rfl⟩
theorem xw {k:IntKind} {x y z:Int} (h:CA k x y=some z):¬y=0∧x.tmod y=z:=by
 unfold CA at h
 split at h
 ·cases h
 ·cases h;exact⟨by assumption,rfl⟩
theorem AF {k:IntKind} {x y z:Int} (h:Ee k x y=some z):¬y<0∧k.wrap (x*2 ^ (min y.toNat k.bits))=z:=by
 unfold Ee at h
 split at h
 ·cases h
 ·cases h;exact⟨by assumption,rfl⟩
theorem sa {k:IntKind} {x y z:Int} (h:wK k x y=some z):¬y<0∧x.fdiv (2 ^ (min y.toNat k.bits))=z:=by
 unfold wK at h
 split at h
 ·cases h
 ·cases h;exact⟨by assumption,rfl⟩
theorem Qx (op:BinOp) (k:IntKind) (x y:Int):A4 op k x y=jK op k x y:=afp
theorem nV.emp {P:Program} {f:FuncId} {rk:RK} {out:Option Row} (h1:nV P f none [.sl true true 0 []] rk out) (h2:nV P f none [.sl true false 0 []] rk out):nV P f none [.sl false false 0 []] rk out:=by
 intro w M vs hM ha
 have hd:=ha.2 0 _ rfl
 generalize hu:vs.getD 0 undef=u at hd
 cases hd with
 | sl A c nl tight n xs us k1 k2 k3 k4 k5 k6 k7 k8 =>
  cases A with
  | none =>
   refine h1 w M vs hM ⟨ha.1,fun j d hj =>?_,ha.tab⟩
   cases j with
   | zero=>cases hj;rw[hu];exact .sl none c true true 0 [] us k1 k2 (fun _=>⟨fun _=>⟨rfl,(k4 rfl).2⟩,fun h=>by cases h⟩) k4 (fun _=>(k4 rfl).2) k6 k7 k8
   | succ j=>simp at hj
  | some A =>
   refine h2 w M vs hM ⟨ha.1,fun j d hj =>?_,ha.tab⟩
   cases j with
   | zero=>cases hj;rw[hu];exact .sl (some A) c true false 0 [] us k1 k2 (fun _=>⟨(fun h=>by cases h),fun _ h=>by cases h⟩) k4 (fun h=>by cases h) k6 k7 k8
   | succ j=>simp at hj
theorem bW.aas {P:Program} {T:Nat->Option Ty} {Γ:Env} (hT:jf P T) (hΓ:bC P Γ) (hm:P.follows .mixedOrders=true) {α β:Type} {E:hY α} {F:List α->Option β} {R:β->RK} {mode:Mode} {f:FuncId} {fn:Func} (hf:P.funcs[f]? = some fn) (hok:(match fn.body with|some c=>codeOk c|none=>true)=true)
  (hc:(fn.name == "runtime.NumGoroutine")=false∧fn.body.isNone=false) (hn:1<=fn.ntmps)
  (h0:∀r,F []=some r->a7 mode T Γ FU fn none [.sl true true 0 []]=some (R r,none))
  (h1:∀r,F []=some r->a7 mode T Γ FU fn none [.sl true false 0 []]=some (R r,none))
  (h2:∀l r,0<l.length->F l=some r->a7 mode T Γ FU fn none [.sl false false l.length (ae E l)]=some (R r,none)):bW P f (fU (fQ (mX E)) F R) where
 calls lent acw rk out hg:=by
  obtain⟨rfl,rfl,l,r,rfl,hr,rfl⟩:=xv hg
  cases l with
  | nil=>exact nV.emp (kM hT hΓ hm hf hok hn rfl (h0 r hr)) (kM hT hΓ hm hf hok hn rfl (h1 r hr))
  | cons x l=>exact kM hT hΓ hm hf hok hn rfl (h2 (x::l) r (by simp) hr)
 callable:=⟨fn,hf,hc⟩
theorem Xw {α:Type} (E:hY α) {B:Nat} {l n:List α} {i:Int} {x:α} (h:Vl B l i [x]=some n):0<=i∧i<=(l.length:Int)∧l.length+1=n.length∧n.length*B<=140737488355328 ∧
  (ae E l).take (i.toNat*E.size)++(E.cells x++(ae E l).drop (i.toNat*E.size))=ae E n:=by
 unfold Vl at h
 split at h
 ·rename_i hc
  cases h
  obtain⟨h1,h2,-,h4⟩:=hc
  have hl:l.length+1=(l.take i.toNat++([x]++l.drop i.toNat)).length:=by simp;omega
  refine⟨h1,h2,hl,by rw[<- hl];exact h4,?_⟩
  rw[fh,fh,dY,nQ]
  simp[ae]
 ·cases h
theorem T0 {w:World} {M:Nat->Prop} {k:IntKind} {n:Int} {u:Value} (h:RP w M (.int k n) u):u=.int k n:=by cases h;rfl
theorem fl (b:Nat) {ty:Nat} {fr:Nat×Nat} : ∀(vs:List Value) (o:Nat) (w:World) (arr:Array Value),w.heap[b]? = some (.cells arr ty fr)->o+vs.length<=arr.size ->
  (w.setCells b o vs).os=w.os∧(w.setCells b o vs).tape=w.tape∧(w.setCells b o vs).output=w.output∧(w.setCells b o vs).heap.size=w.heap.size∧(∀k,k≠b->(w.setCells b o vs).heap[k]? = w.heap[k]?) ∧
  ∃arr',(w.setCells b o vs).heap[b]? = some (.cells arr' ty fr)∧arr'.size=arr.size∧∀j,arr'[j]? = if o<=j∧j<o+vs.length then vs[j-o]? else arr[j]?
 | [],o,w,arr,h,_=>⟨rfl,rfl,rfl,rfl,fun k _=>rfl,arr,h,rfl,fun j=>by rw[if_neg (by simp)]⟩
 | v::r,o,w,arr,h,hl=>by
  simp only[List.length_cons]at hl
  have h1:(w.setCell ⟨b,o,none⟩ v).heap[b]? = some (.cells (arr.setIfInBounds o v) ty fr):=by
   simp[World.setCell,acL,h]
  obtain⟨e1,e2,e3,e4,e5,arr',e6,e7,e8⟩:=fl b r (o+1) (w.setCell ⟨b,o,none⟩ v) _ h1 (by simp;omega)
  refine⟨e1,e2,e3,e4.trans (by simp[World.setCell]),fun k hk=>(e5 k hk).trans (by simp[World.setCell,acL,Ne.symm hk]),arr',e6,by simpa using e7,fun j =>?_⟩
  rw[e8 j,Array.getElem?_setIfInBounds]
  simp only[List.length_cons]
  by_cases h1:o+1<=j∧j<o+1+r.length
  ·rw[if_pos h1,if_pos (by omega)]
   have:j-o=(j-(o+1))+1:=by omega
   rw[this,adE]
  ·rw[if_neg h1]
   by_cases h2:o=j
   ·subst h2
    rw[if_pos rfl,if_pos (by omega),if_pos (by omega),adH]
    rfl
   ·rw[if_neg h2,if_neg (by omega)]
theorem vm1:type_of% (ai @Hw<|ai @A6<|ai @GU<|ai @M0<|ai @MZ<|ai @GR<|ai @Dk<|ai @GS<|ai @bP<|ai @bH<|ai @su<|ai @b7<|ai @vU<|ai @zR<|ai @Dn<|ai @GQ<|ai @Hl<|ai @DA<|ai @MX<|ai @GO<|ai @Dh<|ai @Hm<|ai @DB<|ai @DC<|ai @zZ<|ai @MY<|ai @GP<|ai @Di<|ai @Hn<|ai @DD<|ai @DE<|ai @z6<|ai @Nl<|ai @Nt<|ai @RZ<|ai @R4<|ai @CZ<|ai @zI<|ai @C0<|ai @zJ<|ai @JY<|ai @J4<|ai @JX<|ai @J3<|ai @Bw<|ai @Bz<|ai @E5<|ai @Fe<|ai @JZ<|ai @J5<|ai @JV<|@J1):=⟨@Hw,@A6,@GU,@M0,@MZ,@GR,@Dk,@GS,@bP,@bH,@su,@b7,@vU,@zR,@Dn,@GQ,@Hl,@DA,@MX,@GO,@Dh,@Hm,@DB,@DC,@zZ,@MY,@GP,@Di,@Hn,@DD,@DE,@z6,@Nl,@Nt,@RZ,@R4,@CZ,@zI,@C0,@zJ,@JY,@J4,@JX,@J3,@Bw,@Bz,@E5,@Fe,@JZ,@J5,@JV,@J1⟩
theorem vm2:type_of% (ai @Fb<|ai @Fk<|ai @w9<|ai @xc<|ai @vD<|ai @vH<|ai @E7<|ai @Fg<|ai @vE<|ai @vI<|ai @E8<|ai @Fh<|ai @E9<|ai @Fi<|ai @E6<|ai @Ff<|ai @s8<|ai @s9<|ai @vF<|ai @vJ<|ai @E4<|ai @Fc<|ai @QQ<|ai @QR<|ai @zd<|ai @zh<|ai @ze<|ai @zi<|ai @JU<|ai @J0<|ai @zc<|ai @zg<|ai @Mw<|ai @MH<|ai @EB<|ai @yW<|ai @E1<|ai @Kq<|ai @BJ<|ai @BI<|ai @Ci<|ai @Ch<|ai @eH<|ai @zr<|ai @eE<|ai @rJ<|ai @Sm<|ai @I9<|ai @Er<|ai @Ep<|ai @Gk<|@FE):=⟨@Fb,@Fk,@w9,@xc,@vD,@vH,@E7,@Fg,@vE,@vI,@E8,@Fh,@E9,@Fi,@E6,@Ff,@s8,@s9,@vF,@vJ,@E4,@Fc,@QQ,@QR,@zd,@zh,@ze,@zi,@JU,@J0,@zc,@zg,@Mw,@MH,@EB,@yW,@E1,@Kq,@BJ,@BI,@Ci,@Ch,@eH,@zr,@eE,@rJ,@Sm,@I9,@Er,@Ep,@Gk,@FE⟩
theorem vm3:type_of% (ai @FF<|ai @zT<|ai @Dy<|ai @Dx<|ai @zY<|ai @tZ<|ai @sw<|ai @zV<|ai @sA<|ai @zW<|ai @sB<|ai @zS<|ai @Hj<|ai @vW<|ai @vX<|ai @zU<|ai @qq<|ai @zX<|ai @Dw<|ai @vV<|ai @xK<|ai @RA<|ai @Mg<|ai @GK<|ai @GJ<|ai @FZ<|ai @Qp<|ai @Ja<|ai @Qt<|ai @Uf<|ai @Qs<|ai @Uc<|ai @Qn<|ai @Qu<|ai @Ub<|ai @Au<|ai @Qv<|ai @Qo<|ai @Eu<|ai @A1<|ai @Qr<|ai @Ev<|ai @ES<|ai @Bm<|ai @EU<|ai @Js<|ai @Bj<|ai @y9<|ai @Bl<|ai @ER<|ai @Bi<|@JD):=⟨@FF,@zT,@Dy,@Dx,@zY,@tZ,@sw,@zV,@sA,@zW,@sB,@zS,@Hj,@vW,@vX,@zU,@qq,@zX,@Dw,@vV,@xK,@RA,@Mg,@GK,@GJ,@FZ,@Qp,@Ja,@Qt,@Uf,@Qs,@Uc,@Qn,@Qu,@Ub,@Au,@Qv,@Qo,@Eu,@A1,@Qr,@Ev,@ES,@Bm,@EU,@Js,@Bj,@y9,@Bl,@ER,@Bi,@JD⟩
theorem vm4:type_of% (ai @JJ<|ai @Jz<|ai @EW<|ai @JC<|ai @QL<|ai @Jv<|ai @QJ<|ai @QI<|ai @Jx<|ai @JB<|ai @UD<|ai @QO<|ai @UE<|ai @Yj<|ai @UB<|ai @UC<|ai @JR<|ai @FC<|ai @Ra<|ai @QB<|ai @yl<|ai @EE<|ai @Bf<|ai @FO<|ai @B6<|ai @Kz<|ai @Rc<|ai @KA<|ai @EX<|ai @Bn<|ai @Je<|ai @MU<|ai @GN<|ai @MT<|ai @GL<|ai @MR<|ai @GM<|ai @BZ<|ai @Ft<|ai @Bg<|ai @yt<|ai @B0<|ai @B1<|ai @U6<|ai @QX<|ai @U0<|ai @Ke<|ai @Dc<|ai @Dd<|ai @Qx<|ai @xi<|@aK):=⟨@JJ,@Jz,@EW,@JC,@QL,@Jv,@QJ,@QI,@Jx,@JB,@UD,@QO,@UE,@Yj,@UB,@UC,@JR,@FC,@Ra,@QB,@yl,@EE,@Bf,@FO,@B6,@Kz,@Rc,@KA,@EX,@Bn,@Je,@MU,@GN,@MT,@GL,@MR,@GM,@BZ,@Ft,@Bg,@yt,@B0,@B1,@U6,@QX,@U0,@Ke,@Dc,@Dd,@Qx,@xi,@aK⟩
theorem vmk:type_of% (And.intro (@Nx)<|@Ny):=⟨@Nx,@Ny⟩
theorem vmc:type_of% (ai @true_and<|ai @and_true<|ai @adb<|ai @acH<|ai @adr<|ai @aet<|ai @adX<|ai @aeu<|ai @aex<|ai @ac1<|ai @ac2<|ai @List.contains_nil.{0}<|ai @aei<|ai @aes<|ai @aer<|ai @ac0<|ai @adE<|ai @decide_true<|ai @decide_false<|ai @beq_self_eq_true.{0}<|ai @List.isEmpty_nil.{0}<|ai @List.isEmpty_cons.{0}<|ai @Option.map_none.{0,0}<|ai @acJ<|ai @List.all_cons.{0}<|ai @List.all_nil.{0}<|ai @aey<|ai @Bool.and_true<|ai @adZ<|ai @aez<|ai @Bool.and_self<|ai @adY<|ai @aeA<|ai @and_self<|ai @adq<|ai @ada<|ai @aep<|ai @Nat.sub_zero<|ai @acC<|ai @acB<|ai @acK<|ai @Nat.le_zero_eq<|ai @Nat.one_ne_zero<|ai @Bool.or_self<|ai @Bool.or_true<|ai @Bool.true_or<|ai @Bool.or_false<|ai @Bool.false_or<|@aeB):=⟨@true_and,@and_true,@adb,@acH,@adr,@aet,@adX,@aeu,@aex,@ac1,@ac2,@List.contains_nil.{0},@aei,@aes,@aer,@ac0,@adE,@decide_true,@decide_false,@beq_self_eq_true.{0},@List.isEmpty_nil.{0},@List.isEmpty_cons.{0},@Option.map_none.{0,0},@acJ,@List.all_cons.{0},@List.all_nil.{0},@aey,@Bool.and_true,@adZ,@aez,@Bool.and_self,@adY,@aeA,@and_self,@adq,@ada,@aep,@Nat.sub_zero,@acC,@acB,@acK,@Nat.le_zero_eq,@Nat.one_ne_zero,@Bool.or_self,@Bool.or_true,@Bool.true_or,@Bool.or_false,@Bool.false_or,@aeB⟩
theorem vm5:type_of% (ai @Dm<|ai @Dl<|ai @Yh<|ai @Ew<|ai @A2<|ai @Qk<|ai @I5<|ai @Ql<|ai @T3<|ai @Qi<|ai @Qj<|ai @JF<|ai @Q9<|ai @Gg<|ai @Lk<|ai @Cl<|@Ll):=⟨@Dm,@Dl,@Yh,@Ew,@A2,@Qk,@I5,@Ql,@T3,@Qi,@Qj,@JF,@Q9,@Gg,@Lk,@Cl,@Ll⟩
theorem vmu:type_of% (ai @wC.eq_1<|ai @wC.eq_2<|ai @ev.eq_1<|ai @ev.eq_2<|ai @ev.eq_3<|ai @ev.eq_4<|ai @m6.eq_1<|ai @m6.eq_2<|ai @m6.eq_3<|ai @m6.eq_4<|ai @m6.eq_5<|ai @m6.eq_6<|ai @dP.eq_1<|ai @dP.eq_2<|ai @yk.eq_1<|ai @yk.eq_2<|ai @yk.eq_3<|ai @j4.eq_1<|ai @j4.eq_2<|ai @j4.eq_3<|ai @fc.eq_1<|ai @fc.eq_2<|ai @fc.eq_3<|ai @fc.eq_4<|ai @fc.eq_5<|ai @fc.eq_6<|ai @fc.eq_7<|ai @fc.eq_8<|ai @fc.eq_9<|ai @fc.eq_10<|ai @fc.eq_11<|ai @fc.eq_12<|ai @fc.eq_13<|ai @fc.eq_14<|ai @fc.eq_15<|ai @fc.eq_16<|ai @Eh.eq_1<|ai @Eh.eq_2<|ai @Eh.eq_3<|ai @Eh.eq_4<|ai @Eh.eq_5<|ai @Eh.eq_6<|ai @XH.eq_1<|ai @aF.eq_1<|ai @aF.eq_2<|ai @dr.eq_1<|ai @dr.eq_2<|ai @dr.eq_3<|ai @df.eq_1<|ai @df.eq_2<|ai @df.eq_3<|ai @live.eq_1<|ai @ln.eq_1<|ai @ln.eq_2<|ai @Ds.oB.eq_1<|ai @Ds.oB.eq_2<|ai @Ds.oB.eq_3<|ai @b9.eq_1<|ai @b9.eq_2<|ai @b9.eq_3<|ai @b9.eq_4<|ai @b9.eq_5<|ai @b9.eq_6<|ai @fM.eq_1<|ai @fM.eq_2<|ai @fM.eq_3<|ai @fM.eq_4<|ai @fM.eq_5<|ai @fM.eq_6<|ai @ov.eq_1<|ai @ov.eq_2<|ai @xt.eq_1<|ai @xt.eq_2<|ai @xt.eq_3<|ai @xt.eq_4<|ai @alive.eq_1<|ai @alive.eq_2<|ai @alive.eq_3<|ai @nm.eq_1<|ai @nm.eq_2<|ai @gE.eq_1<|ai @gE.eq_2<|ai @gE.eq_3<|ai @gE.eq_4<|ai @gE.eq_5<|ai @gE.eq_6<|ai @cC.eq_1<|ai @cC.eq_2<|ai @py.eq_1<|ai @iT.eq_1<|ai @iT.eq_2<|ai @iT.eq_3<|ai @kY.eq_1<|ai @kY.eq_2<|ai @Gu.eq_1<|ai @bx.eq_1<|ai @bx.eq_2<|ai @bx.eq_3<|ai @bx.eq_4<|ai @fw.eq_1<|ai @fw.eq_2<|ai @fw.eq_3<|ai @cw.eq_1<|ai @cw.eq_2<|ai @cw.eq_3<|ai @cw.eq_4<|ai @cw.eq_5<|ai @cw.eq_6<|ai @eg.eq_1<|ai @gT.eq_1<|ai @gT.eq_2<|ai @fieldAt.eq_1<|ai @dq.eq_1<|ai @o0.eq_1<|ai @iw.eq_1<|ai @content.eq_1<|ai @content.eq_2<|ai @content.eq_3<|ai @putCells.eq_1<|ai @TN.eq_1<|ai @TN.eq_2<|ai @TN.eq_3<|ai @TN.eq_4<|ai @Ok.eq_1<|ai @Ok.eq_2<|ai @Ok.eq_3<|ai @Ok.eq_4<|ai @SN.eq_1<|ai @SN.eq_2<|ai @SN.eq_3<|ai @eS.eq_1<|ai @eS.eq_2<|ai @eS.eq_3<|ai @kindOk.eq_1<|ai @kindOk.eq_2<|ai @kindOk.eq_3<|ai @kindOk.eq_4<|ai @jU.eq_1<|ai @jU.eq_2<|ai @jU.eq_3<|ai @jU.eq_4<|ai @mV.eq_1<|ai @mV.eq_2<|ai @mV.eq_3<|ai @mV.eq_4<|ai @mV.eq_5<|ai @mV.eq_6<|ai @mV.eq_7<|ai @mV.eq_8<|ai @rZ.eq_1<|ai @rZ.eq_2<|ai @rZ.eq_3<|ai @aT.eq_1<|ai @aT.eq_2<|ai @aT.eq_3<|ai @aT.eq_4<|ai @aT.eq_5<|ai @aT.eq_6<|ai @aT.eq_7<|ai @mN.eq_1<|ai @mN.eq_2<|ai @sX.eq_1<|ai @sX.eq_2<|ai @sX.eq_3<|@sX.eq_4):=⟨@wC.eq_1,@wC.eq_2,@ev.eq_1,@ev.eq_2,@ev.eq_3,@ev.eq_4,@m6.eq_1,@m6.eq_2,@m6.eq_3,@m6.eq_4,@m6.eq_5,@m6.eq_6,@dP.eq_1,@dP.eq_2,@yk.eq_1,@yk.eq_2,@yk.eq_3,@j4.eq_1,@j4.eq_2,@j4.eq_3,@fc.eq_1,@fc.eq_2,@fc.eq_3,@fc.eq_4,@fc.eq_5,@fc.eq_6,@fc.eq_7,@fc.eq_8,@fc.eq_9,@fc.eq_10,@fc.eq_11,@fc.eq_12,@fc.eq_13,@fc.eq_14,@fc.eq_15,@fc.eq_16,@Eh.eq_1,@Eh.eq_2,@Eh.eq_3,@Eh.eq_4,@Eh.eq_5,@Eh.eq_6,@XH.eq_1,@aF.eq_1,@aF.eq_2,@dr.eq_1,@dr.eq_2,@dr.eq_3,@df.eq_1,@df.eq_2,@df.eq_3,@live.eq_1,@ln.eq_1,@ln.eq_2,@Ds.oB.eq_1,@Ds.oB.eq_2,@Ds.oB.eq_3,@b9.eq_1,@b9.eq_2,@b9.eq_3,@b9.eq_4,@b9.eq_5,@b9.eq_6,@fM.eq_1,@fM.eq_2,@fM.eq_3,@fM.eq_4,@fM.eq_5,@fM.eq_6,@ov.eq_1,@ov.eq_2,@xt.eq_1,@xt.eq_2,@xt.eq_3,@xt.eq_4,@alive.eq_1,@alive.eq_2,@alive.eq_3,@nm.eq_1,@nm.eq_2,@gE.eq_1,@gE.eq_2,@gE.eq_3,@gE.eq_4,@gE.eq_5,@gE.eq_6,@cC.eq_1,@cC.eq_2,@py.eq_1,@iT.eq_1,@iT.eq_2,@iT.eq_3,@kY.eq_1,@kY.eq_2,@Gu.eq_1,@bx.eq_1,@bx.eq_2,@bx.eq_3,@bx.eq_4,@fw.eq_1,@fw.eq_2,@fw.eq_3,@cw.eq_1,@cw.eq_2,@cw.eq_3,@cw.eq_4,@cw.eq_5,@cw.eq_6,@eg.eq_1,@gT.eq_1,@gT.eq_2,@fieldAt.eq_1,@dq.eq_1,@o0.eq_1,@iw.eq_1,@content.eq_1,@content.eq_2,@content.eq_3,@putCells.eq_1,@TN.eq_1,@TN.eq_2,@TN.eq_3,@TN.eq_4,@Ok.eq_1,@Ok.eq_2,@Ok.eq_3,@Ok.eq_4,@SN.eq_1,@SN.eq_2,@SN.eq_3,@eS.eq_1,@eS.eq_2,@eS.eq_3,@kindOk.eq_1,@kindOk.eq_2,@kindOk.eq_3,@kindOk.eq_4,@jU.eq_1,@jU.eq_2,@jU.eq_3,@jU.eq_4,@mV.eq_1,@mV.eq_2,@mV.eq_3,@mV.eq_4,@mV.eq_5,@mV.eq_6,@mV.eq_7,@mV.eq_8,@rZ.eq_1,@rZ.eq_2,@rZ.eq_3,@aT.eq_1,@aT.eq_2,@aT.eq_3,@aT.eq_4,@aT.eq_5,@aT.eq_6,@aT.eq_7,@mN.eq_1,@mN.eq_2,@sX.eq_1,@sX.eq_2,@sX.eq_3,@sX.eq_4⟩
theorem aa9:type_of% (ai @EJ<|ai @EG<|ai @EI<|ai @Q6<|ai @Lh<|ai @K3<|ai @Lb<|ai @Gc<|ai @KU<|ai @KV<|ai @Cg<|ai @KY<|ai @KX<|ai @FR<|ai @LA<|ai @LP<|ai @Qz<|ai @A7<|ai @A8<|ai @EK<|ai @Q7<|ai @Li<|ai @K4<|ai @Gd<|ai @Lc<|ai @Ck<|ai @Lf<|ai @Le<|ai @FW<|ai @QA<|@Bb):=⟨@EJ,@EG,@EI,@Q6,@Lh,@K3,@Lb,@Gc,@KU,@KV,@Cg,@KY,@KX,@FR,@LA,@LP,@Qz,@A7,@A8,@EK,@Q7,@Li,@K4,@Gd,@Lc,@Ck,@Lf,@Le,@FW,@QA,@Bb⟩
end Go.Proofs.Ytchndpjlijbplaa.Am
