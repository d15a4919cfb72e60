/- Part of a proof. -/
import Derived.Test.YtchndpjlijbplaaIb
set_option linter.unusedSimpArgs false
set_option linter.unusedVariables false
noncomputable section
namespace Go.Proofs.Ytchndpjlijbplaa.Am
open Go.RowKit
def gT (vs:Operand->D):Op->Option (D×List D)
 | .call c=>match c.callee with | .value f=>some (vs f,c.args.toList.map vs)|_=>none
 | _=>none
theorem nF {vs:Operand->D} {op:Op} {q:D} {args:List D} (hc:gT vs op=some (q,args)):∃c f,op=.call c∧c.callee=.value f∧q=vs f∧args=c.args.toList.map vs:=by
 unfold gT at hc
 split at hc<;>try (cases hc;done)
 rename_i c
 split at hc<;>try (cases hc;done)
 rename_i f hf
 simp only[aeX,Prod.mk.injEq]at hc
 exact⟨c,f,rfl,hf,hc.1.symm,hc.2.symm⟩
def AW (Γ:Env) (e:Nat) (h:Nat->Option Row):Option (D×List D)->Option bM
 | some (.fn g,args)=>qT Γ e h g args
 | _=>none
def Dq (e d:Nat) (h:Nat->Option Row) (args:List D):Option (List D->Option (Nat×Nat×Nat×Nat×Nat×List D))->Option bM
 | some p=>Gv p e d (bk (EH h) args)
 | none=>none
def mH (Γ:Env) (e:Nat) (h:Nat->Option Row):Option Nat->Option (D×List D)->Option bM
 | some d,some (.fn g,args)=>Dq e d h args (Γ.nx.res g)
 | _,_=>none
def ur (T:Nat->Option Ty) (Γ:Env) (e:Nat) (o:Oper) (vs:Operand->D) (h:Nat->Option Row):Option bM :=
 match o.op with
 | .load ty p=>match T ty with|some τ=>n7 τ h (vs p)|none=>none
 | .store ty p x=>match T ty with|some τ=>l4 τ e h (vs p) (vs x)|none=>none
 | .call c=>AW Γ e h (gT vs (.call c))
 | _=>none
def Zh (h:Nat->Option Row):Option bM->Option bM->Option bM
 | some ⟨v,hw⟩,_=>some ⟨v,kr h hw⟩
 | none,y=>y
def pV (T:Nat->Option Ty) (Γ:Env) (e:Nat) (o:Oper) (vs:Operand->D) (h:Nat->Option Row):Option bM :=
 match ju T Γ e o vs with
 | some E=>some E
 | none =>
  match mH Γ e h o.dst (gT vs o.op) with
  | some E=>some E
  | none=>Zh h (mG T Γ e o vs (EH h)) (ur T Γ e o vs h)
def bj (o:Oper) (vs:Operand->D):List Nat:=(gZ o vs).map rt
def VE (N e:Nat) (done:List Nat) (h:Nat->Option Row) (x v:Nat):Prop:=(x<N∧(v<e∨(v=e∧x∈done))) ∨
 (2*PK<=x∧v<=4*e+3∧(x % PK∉done->v<=4*e+1)∧∀r ty s nv cs,h (x % PK)=some r->r.mp=true->r.cells=[.nr ty s nv cs]->v<=nv)
def Fs (e:Nat) (done:List Nat) (h:Nat->Option Row):Prop:=∀x r ty s nv cs,h x=some r->r.mp=true->r.cells=[.nr ty s nv cs]->x<PK->nv<=4*e+3∧(x∉done->nv<=4*e+1)
def mF (e:Nat) (h h':Nat->Option Row):Prop:=∀x r' ty' s' nv' cs',h' x=some r'->r'.mp=true->r'.cells=[.nr ty' s' nv' cs']->x<PK->∃r ty s nv cs,h x=some r∧r.mp=true∧r.cells=[.nr ty s nv cs]∧(nv'=nv∨pU nv e=some nv')
theorem mF.refl (e:Nat) (h:Nat->Option Row):mF e h h:=fun x r ty s nv cs hx hm hc _=>⟨r,ty,s,nv,cs,hx,hm,hc,.inl rfl⟩
theorem Jf {nv e nv':Nat} (h:pU nv e=some nv'):nv<nv'∧(nv'=4*e+1∨(nv=4*e+2∧nv'=4*e+3)):=by
 unfold pU at h
 split at h
 ·cases h;omega
 ·split at h
  ·cases h;omega
  ·cases h
theorem Fs.step {e:Nat} {done done':List Nat} {h h':Nat->Option Row} (hN:Fs e done h) (hr:mF e h h') (hd:∀x,x∈done->x∈done'):Fs e done' h':=by
 intro x r' ty' s' nv' cs' hx hm hc hp
 obtain⟨r,ty,s,nv,cs,k1,k2,k3,k4⟩:=hr x r' ty' s' nv' cs' hx hm hc hp
 obtain⟨q1,q2⟩:=hN x r ty s nv cs k1 k2 k3 hp
 rcases k4 with rfl|k4
 ·exact⟨q1,fun hn=>q2 fun h=>hn (hd x h)⟩
 ·obtain⟨b1,b2⟩:=Jf k4
  refine⟨by omega,fun hn =>?_⟩
  rcases b2 with b2|⟨b2,b3⟩
  ·omega
  ·have:=q2 fun h=>hn (hd x h)
   omega
theorem VE.step {N e:Nat} {done done':List Nat} {h h':Nat->Option Row} (hr:mF e h h') (hd:∀x,x∈done->x∈done') {x v:Nat} (hv:VE N e done h x v):VE N e done' h' x v:=by
 rcases hv with⟨h1,h2⟩|⟨h1,h2,h3,h4⟩
 ·exact .inl ⟨h1,h2.imp id fun⟨q1,q2⟩=>⟨q1,hd x q2⟩⟩
 ·refine .inr ⟨h1,h2,fun hn=>h3 fun h=>hn (hd _ h),fun r' ty' s' nv' cs' k1 k2 k3 =>?_⟩
  obtain⟨r,ty,s,nv,cs,q1,q2,q3,q4⟩:=hr _ r' ty' s' nv' cs' k1 k2 k3 (HM _)
  have:=h4 r ty s nv cs q1 q2 q3
  rcases q4 with rfl|q4
  ·exact this
  ·have:=(Jf q4).1
   omega
theorem Fs.acJ {N e:Nat} {done:List Nat} {h:Nat->Option Row} (hN:Fs e done h):VNr (VE N e done h) h:=by
 intro x r ty s nv cs hx hm hc hp o
 obtain⟨q1,q2⟩:=hN x r ty s nv cs hx hm hc hp
 refine .inr ⟨gq x o,q1,by rw[rN o hp];exact q2,fun r' ty' s' nv' cs' k1 k2 k3 =>?_⟩
 rw[rN o hp,hx]at k1
 cases k1
 rw[hc]at k3
 cases k3
 exact aeO _
theorem Fs.new {N e:Nat} {done:List Nat} {h:Nat->Option Row} (hN:Fs e done h) (hb:N<=PK):abo (VE N e done h) h e:=by
 intro x r ty s nv cs nv' hx hm hc hp hbm o hv
 have hge:=gq x o
 have:=cO
 rcases hv with⟨h1,_⟩|⟨_,_,_,h4⟩
 ·omega
 ·have h5:=h4 r ty s nv cs (by rw[rN o hp];exact hx) hm hc
  have h6:=(Jf hbm).1
  omega
theorem Mx (e:Nat):∀(l:List (Nat×Option Row)) (h:Nat->Option Row),mF e h (aH h (kr h l))
 | [],h =>.refl e h
 | (k,r)::l,h=>by
  intro x r' ty' s' nv' cs' hx hm hc hp
  obtain⟨r1,ty1,s1,nv1,cs1,k1,k2,k3,k4⟩:=Mx e l (b8 h (rt k) (yP h k r)) x r' ty' s' nv' cs' hx hm hc hp
  by_cases hxk:x=rt k
  rotate_left
  ·rw[aC _ _ hxk]at k1
   exact⟨r1,ty1,s1,nv1,cs1,k1,k2,k3,k4⟩
  ·rw[hxk,ay]at k1
   unfold yP at k1
   split at k1
   ·exfalso
    obtain⟨_,h2,_⟩:=z7 (o:=0) k1
    unfold Ee at k1
    split at k1
    ·split at k1
     ·split at k1
      ·cases k1
      ·rename_i hne
       simp only[aeX]at k1
       subst k1
       exact hne _ _ _ _ k3
     ·rename_i hmp
      simp only[aeX]at k1
      subst k1
      exact hmp k2
    ·cases k1
   ·rename_i hk2
    have hrt:rt k=k % PK:=by unfold rt;rw[if_neg hk2]
    rw[aeM]at k1
    obtain⟨q,q1,q2⟩:=k1
    unfold ED at q2
    split at q2
    ·rename_i hqm
     split at q2
     ·rename_i ty s nv cs hqc
      subst q2
      simp only at k3
      refine⟨q,ty,s,nv,cs,by rw[hxk,hrt];exact q1,hqm,hqc,?_⟩
      unfold Aj at k3
      split at k3<;>(simp only[afc,D.nr.injEq,and_true]at k3;obtain⟨rfl,rfl,rfl,_⟩:=k3;exact k4)
     ·subst q2
      exact⟨q,ty1,s1,nv1,cs1,by rw[hxk,hrt];exact q1,k2,k3,k4⟩
    ·subst q2
     exact⟨q,ty1,s1,nv1,cs1,by rw[hxk,hrt];exact q1,k2,k3,k4⟩
section
variable {P:Program} {T:Nat->Option Ty} {N:Nat} {M:Nat->Prop} {L:ky} {w0:World} {blk:Nat->Option (Nat×Nat)} {t:Nat->D} {h h':Nat->Option Row} {a:Act} {w:World} {e:Nat} {o:Oper} {Γ:Env} {done:List Nat}
theorem mF.set {x:Nat} {r r':Row} {ty s nv nv' ty' s':Nat} {cs cs':List D} (hx:h x=some r) (hm:r.mp=true) (hc:r.cells=[.nr ty s nv cs]) (hc':r'.cells=[.nr ty' s' nv' cs']) (hn:nv'=nv∨pU nv e=some nv'):mF e h (b8 h x (some r')):=by
 intro y r1 ty1 s1 nv1 cs1 hy hm1 hc1 hp
 by_cases hyx:y=x
 ·subst hyx
  rw[ay]at hy
  cases hy
  rw[hc']at hc1
  cases hc1
  exact⟨r,ty,s,nv,cs,hx,hm,hc,hn⟩
 ·rw[aC _ _ hyx]at hy
  exact⟨r1,ty1,s1,nv1,cs1,hy,hm1,hc1,.inl rfl⟩
theorem mF.drop {y:Nat} (hr:mF e (b8 h y none) h'):mF e h h':=by
 intro x r' ty' s' nv' cs' hx hm hc hp
 obtain⟨r,ty,s,nv,cs,k1,k⟩:=hr x r' ty' s' nv' cs' hx hm hc hp
 by_cases hxy:x=y
 ·subst hxy;rw[ay]at k1;cases k1
 ·rw[aC _ _ hxy]at k1
  exact⟨r,ty,s,nv,cs,k1,k⟩
theorem G6 {τ:Ty} {d:D} {E:bM} (hE:n7 τ h d=some E):E.hw=[]:=by
 unfold n7 at hE
 split at hE<;>try (cases hE;done)
 split at hE<;>try (cases hE;done)
 unfold DX at hE
 split at hE
 ·split at hE<;>try (cases hE;done)
  cases hE;rfl
 ·split at hE<;>try (cases hE;done)
  split at hE<;>try (cases hE;done)
  cases hE;rfl
 ·cases hE
theorem Qb {τ:Ty} {p d:D} {E:bM} (hE:l4 τ e h p d=some E):mF e h (aH h E.hw):=by
 unfold l4 at hE
 split at hE<;>try (cases hE;done)
 rename_i y0 v0 c0
 split at hE<;>try (cases hE;done)
 rename_i r ty s nv cs hl
 obtain⟨hx,hv,hz,hm,hp1,hc⟩:=mW hl
 split at hE<;>try (cases hE;done)
 have plain:∀ {c':Option (List D)},Ap τ y0 r ty s nv cs c0 c'=some E->mF e h (aH h E.hw):=by
  intro c' hE
  unfold Ap at hE
  split at hE<;>try (cases hE;done)
  split at hE<;>try (cases hE;done)
  cases hE
  exact mF.set hx hm hc rfl (.inl rfl)
 unfold wD at hE
 split at hE
 ·rename_i yq vq sq oq nq
  split at hE<;>try (cases hE;done)
  split at hE
  ·split at hE<;>try (cases hE;done)
   unfold An at hE
   split at hE<;>try (cases hE;done)
   split at hE<;>try (cases hE;done)
   cases hE
   exact mF.set hx hm hc rfl (.inl rfl)
  ·split at hE<;>try (cases hE;done)
   split at hE<;>try (cases hE;done)
   rename_i q hlq
   split at hE<;>try (cases hE;done)
   unfold Ao at hE
   split at hE<;>try (cases hE;done)
   rename_i nv' hb
   cases hE
   obtain⟨hq1,hq2⟩:=bS hlq
   refine mF.drop (y:=yq) ?_
   exact mF.set (by
    rw[aC]
    ·exact hx
    ·rintro rfl
     rw[hx]at hq1
     cases hq1
     have:=gn hlq
     rw[hm]at this
     cases this) hm hc rfl (.inr hb)
 ·exact plain hE
structure Fq (N:Nat) (M:Nat->Prop) (L:ky) (w0:World) (blk:Nat->Option (Nat×Nat)) (e:Nat) (done:List Nat) (t:Nat->D) (h:Nat->Option Row) (a:Act) (w:World):Prop where
 inv:Inv N M L w0 blk (VE N e done h) t (EH h) a w
 nv:Fs e done h
def Py (N:Nat) (M:Nat->Prop) (L:ky) (w0:World) (t:Nat->D) (h:Nat->Option Row) (a:Act) (e:Nat) (done:List Nat) (E:bM) (v:Value) (w':World):Prop :=
 ∃blk',Fq N M L w0 blk' e done t (aH h E.hw) a w'∧RT w' (Own M (EH (aH h E.hw)) blk') (EH (aH h E.hw)) blk' (VE N e done (aH h E.hw)) E.val v
theorem P9 (hT:kq P T) (hΓ:bq P Γ) (hI:Fq N M L w0 blk e done t h a w) (hd:∀d:Nat,o.dst=some d->d∉done∧d<N) {E:bM} (hE:pV T Γ e o (ev t) h=some E):eK P o a w (Py N M L w0 t h a e (o.dst.toList++done) E):=by
 have hbig:=hI.inv.big
 have hpk:=cO
 have hV:∀d:Nat,o.dst=some d->kp N (VE N e done h) d e:=by
  intro d hd'
  obtain⟨q1,q2⟩:=hd d hd'
  replace q2:(d:Nat)<N:=q2
  refine⟨fun hv =>?_,q2⟩
  rcases hv with⟨_,hv|⟨_,hv⟩⟩|⟨hv,_⟩
  ·omega
  ·exact q1 hv
  ·omega
 have hP:∀x v,VE N e done h x v->x<N∨2*PK<=x:=fun x v hv=>hv.imp (fun h=>h.1) (fun h=>h.1)
 have hsub:∀x,x∈done->x∈o.dst.toList++done:=fun x hx=>ae3 _ hx
 have fin:mF e h (aH h E.hw)->∀ {v:Value} {w':World},qE N M L w0 (VE N e done h) t h a e o.dst E v w'->Py N M L w0 t h a e (o.dst.toList++done) E v w':=by
  intro hrel v w' hA
  obtain⟨blk',h1,h2⟩:=hA
  have hVV:∀x n,VE N e done h x n∨(o.dst=some x∧n=e)->VE N e (o.dst.toList++done) (aH h E.hw) x n:=by
   rintro x n (hv|⟨hx,rfl⟩)
   ·exact hv.step hrel hsub
   ·exact .inl ⟨(hd x hx).2,.inr ⟨rfl,ae2 _ (by rw[hx];simp)⟩⟩
  refine⟨blk',⟨h1.weaken hVV,hI.nv.step hrel hsub⟩,h2.mono ⟨fun _ h1 h2=>⟨h1,h2,rfl⟩,hVV,fun _ _ _ r' h1 h2=>⟨⟨r',h1,h2⟩,rfl,fun _ _=>rfl⟩⟩⟩
 have fin2:∀ {E0:bM} {d:Nat} {r0:Row} {ty' s:Nat} {cs0:List D},o.dst=some d->E0.hw=[(d,some r0)]->r0.mp=true->r0.cells=[.nr ty' s (4*e+2) cs0]->∀ {v:Value} {w':World},qE N M L w0 (VE N e done h) t h a e o.dst E0 v w'->Py N M L w0 t h a e (o.dst.toList++done) E0 v w':=by
  intro E0 d r0 ty' s cs0 hdst hr0 hrm hrc v w' hA
  obtain⟨blk',h1,h2⟩:=hA
  obtain⟨hdn,hdN⟩:=hd d hdst
  have hap:aH h E0.hw=b8 h d (some r0):=by rw[hr0];rfl
  have hVV:∀x n,VE N e done h x n∨(o.dst=some x∧n=e)->VE N e (o.dst.toList++done) (aH h E0.hw) x n:=by
   rintro x n (hv|⟨hx,rfl⟩)
   ·rcases hv with⟨q1,q2⟩|⟨q1,q2,q3,q4⟩
    ·exact .inl ⟨q1,q2.imp id fun⟨p1,p2⟩=>⟨p1,hsub _ p2⟩⟩
    ·refine .inr ⟨q1,q2,fun hn=>q3 fun h=>hn (hsub _ h),fun r' ty1 s1 nv1 cs1 k1 k2 k3 =>?_⟩
     rw[hap]at k1
     by_cases hxd:x % PK=d
     ·rw[hxd,ay]at k1
      cases k1
      rw[hrc]at k3
      cases k3
      have:=q3 (by rw[hxd];exact hdn)
      omega
     ·rw[aC _ _ hxd]at k1
      exact q4 r' ty1 s1 nv1 cs1 k1 k2 k3
   ·exact .inl ⟨(hd x hx).2,.inr ⟨rfl,ae2 _ (by rw[hx];simp)⟩⟩
  refine⟨blk',⟨h1.weaken hVV,?_⟩,h2.mono ⟨fun _ h1 h2=>⟨h1,h2,rfl⟩,hVV,fun _ _ _ r' h1 h2=>⟨⟨r',h1,h2⟩,rfl,fun _ _=>rfl⟩⟩⟩
  intro x r' ty1 s1 nv1 cs1 k1 k2 k3 hp
  rw[hap]at k1
  by_cases hxd:x=d
  ·subst hxd
   rw[ay]at k1
   cases k1
   rw[hrc]at k3
   cases k3
   exact⟨by omega,fun hn=>absurd (ae2 _ (by rw[hdst];simp)) hn⟩
  ·rw[aC _ _ hxd]at k1
   obtain⟨p1,p2⟩:=hI.nv x r' ty1 s1 nv1 cs1 k1 k2 k3 hp
   exact⟨p1,fun hn=>p2 fun h=>hn (hsub _ h)⟩
 have hnk:∀d:Nat,o.dst=some d->∀o',¬VE N e done h (NK d o') (4*e+2):=by
  intro d hdst o' hv
  obtain⟨hdn,hdN⟩:=hd d hdst
  have hdp:(d:Nat)<PK:=aeR hdN hbig
  rcases hv with⟨hv,_⟩|⟨_,_,hv,_⟩
  ·have:=gq d o';omega
  ·have:=hv (by rw[rN o' hdp];exact hdn)
   omega
 unfold pV at hE
 split at hE
 ·rename_i E0 hmk
  simp only[aeX]at hE
  subst hE
  unfold ju at hmk
  split at hmk<;>try (cases hmk;done)
  rename_i ty l c ho
  split at hmk<;>try (cases hmk;done)
  rename_i d hdst
  split at hmk<;>try (cases hmk;done)
  rename_i ty' s f hn
  split at hmk<;>try (cases hmk;done)
  rename_i τ hτ
  obtain⟨hdn,hdN⟩:=hd d hdst
  have hA:=WX hT hI.inv ho hdst (hV d hdst) (fun o' hv=>by
   have hdp:(d:Nat)<PK:=aeR hdN hbig
   rcases hv with⟨hv,_⟩|⟨_,_,hv,_⟩
   ·have:=gq d o';omega
   ·have:=hv (by rw[rN o' hdp];exact hdn)
    omega) hτ hmk
  obtain⟨r0,hr0,hrm,hrc⟩:∃r0:Row,E0.hw=[(d,some r0)]∧r0.mp=true∧∃cs,r0.cells=[.nr ty' s (4*e+2) cs]:=by
   unfold lN at hmk
   split at hmk<;>try (cases hmk;done)
   split at hmk<;>try (cases hmk;done)
   split at hmk<;>try (cases hmk;done)
   cases hmk
   exact⟨_,rfl,rfl,_,rfl⟩
  obtain⟨cs0,hrc⟩:=hrc
  exact hA.mono fun v w' hA=>fin2 hdst hr0 hrm hrc hA
 split at hE
 ·rename_i E0 hcf
  simp only[aeX]at hE
  subst hE
  unfold mH at hcf
  split at hcf<;>try (cases hcf;done)
  rename_i d g args hdst hco
  obtain⟨c,f,hop,hcc,hq,hargs⟩:=nF hco
  unfold Dq at hcf
  split at hcf<;>try (cases hcf;done)
  rename_i p hp
  obtain⟨_,ty',ti,s',S',n',cs',_,_,_,hE0⟩:=xf hcf
  subst hargs
  have hA:=C7 hI.inv hop hcc hq.symm (fun vs q1 q2=>Wv hΓ hI.inv hdst (hV d hdst) (hnk d hdst) hp hcf q1 q2)
  refine hA.mono fun v w' hA =>?_
  exact fin2 (r0:=⟨e,ty',[.nr ti s' (4*e+2) cs'],false,true,true⟩) hdst (by rw[hE0]) rfl rfl hA
 ·unfold Zh at hE
  split at hE
  ·rename_i v0 hw he
   simp only[aeX]at hE
   subst hE
   have hA:=UF hT hΓ hI.inv hV hP he
   exact hA.mono fun v w' hA=>fin (Mx e hw h) (hA.le (Mv hw h))
  ·unfold ur at hE
   split at hE
   ·rename_i ty p ho
    split at hE<;>try (cases hE;done)
    rename_i τ hτ
    exact (WV hT hI.inv hI.nv.acJ ho hτ hE).mono fun v w' hA=>fin (by rw[G6 hE];exact .refl e h) hA
   ·rename_i ty p x ho
    split at hE<;>try (cases hE;done)
    rename_i τ hτ
    exact (WZ hT hI.inv (hI.nv.new hbig) ho hτ hE).mono fun v w' hA=>fin (Qb hE) hA
   ·rename_i c ho
    unfold AW at hE
    split at hE<;>try (cases hE;done)
    rename_i g args hco
    obtain⟨c',f,hop,hcc,hq,hargs⟩:=nF hco
    cases hop
    subst hargs
    refine (C7 hI.inv ho hcc hq.symm (fun vs q1 q2=>Wx hΓ hI.inv (hI.nv.new hbig) (dst:=o.dst) hE q1 q2)).mono fun v w' hA=>fin ?_ hA
    obtain⟨x,v,o',rest,r,ty,s,nv,cs,p,aeJ,nv',d,cs',_,hl,_,_,hb,_,_,rfl⟩:=rZ hE
    obtain⟨hx,_,_,hm,_,hc⟩:=mW hl
    exact mF.set hx hm hc rfl (.inr hb)
   ·cases hE
end
section
variable {T:Nat->Option Ty} {h h':Nat->Option Row} {e:Nat} {o:Oper} {Γ:Env}
theorem uB {x v:Nat} (hx:h x=h' x):jB h x v=jB h' x v:=by simp[jB,hx]
theorem uC {x v:Nat} {q:Row×Nat×Nat×Nat×List D} (hl:jB h x v=some q):x<PK:=by
 obtain⟨r,ty,s,nv,cs⟩:=q
 exact (mW hl).2.2.2.2.1
theorem A0:∀(l:List (Nat×Option Row)) {h h':Nat->Option Row},(∀p∈l,h (rt p.1)=h' (rt p.1))->kr h l=kr h' l
 | [],_,_,_=>rfl
 | (k,r)::l,h,h',hl=>by
  have hk:h (rt k)=h' (rt k):=hl (k,r) (by simp)
  have hp:yP h k r=yP h' k r:=by
   unfold yP
   split
   ·rfl
   ·rename_i hk2
    have:rt k=k % PK:=by unfold rt;rw[if_neg hk2]
    rw[<- this,hk]
  unfold kr
  rw[hp]
  congr 1
  refine A0 l fun p hp' =>?_
  by_cases he:rt p.1=rt k
  ·rw[he,ay,ay]
  ·rw[aC _ _ he,aC _ _ he]
   exact hl p (age _ hp')
theorem A1:∀(l:List (Nat×Option Row)) {h:Nat->Option Row},∀p∈kr h l,∃q∈l,p.1=rt q.1
 | [],_,p,hp=>by simp[kr]at hp
 | (k,r)::l,h,p,hp=>by
  unfold kr at hp
  rcases aeV.1 hp with rfl|hp
  ·exact⟨(k,r),by simp,rfl⟩
  ·obtain⟨q,h1,h2⟩:=A1 l p hp
   exact⟨q,age _ h1,h2⟩
theorem Vz {τ:Ty} {p d:D} {E:bM} (hE:l4 τ e h p d=some E):∀q∈E.hw,q.1<PK∧(q.1∈nm p∨q.1∈nm d):=by
 unfold l4 at hE
 split at hE<;>try (cases hE;done)
 rename_i y0 v0 c0
 split at hE<;>try (cases hE;done)
 rename_i r ty s nv cs hl
 have hlt:=uC hl
 split at hE<;>try (cases hE;done)
 have one:∀ {r':Option Row} (q:Nat×Option Row),q∈[(y0,r')]->q.1<PK∧(q.1∈nm (.ptr y0 v0 c0)∨q.1∈nm d):=by
  intro r' q hq
  simp only[afb]at hq
  subst hq
  exact⟨hlt,.inl (by simp[nm,hZ])⟩
 have plain:∀ {c':Option (List D)},Ap τ y0 r ty s nv cs c0 c'=some E->∀q∈E.hw,q.1<PK∧(q.1∈nm (.ptr y0 v0 c0)∨q.1∈nm d):=by
  intro c' hE
  unfold Ap at hE
  split at hE<;>try (cases hE;done)
  split at hE<;>try (cases hE;done)
  cases hE
  exact one
 unfold wD at hE
 split at hE
 ·rename_i yq vq sq oq nq
  split at hE<;>try (cases hE;done)
  split at hE
  ·split at hE<;>try (cases hE;done)
   unfold An at hE
   split at hE<;>try (cases hE;done)
   split at hE<;>try (cases hE;done)
   cases hE
   exact one
  ·split at hE<;>try (cases hE;done)
   rename_i hyp
   split at hE<;>try (cases hE;done)
   split at hE<;>try (cases hE;done)
   unfold Ao at hE
   split at hE<;>try (cases hE;done)
   cases hE
   intro q hq
   rcases aeV.1 hq with rfl|hq
   ·exact⟨hyp,.inr (by simp[nm,hZ])⟩
   ·exact one q hq
 ·exact plain hE
theorem UX {τ:Ty} {d:D} (hx:∀x∈nm d,x<2*PK->h x=h' x):n7 τ h d=n7 τ h' d:=by
 unfold n7
 split
 ·rename_i x v o
  by_cases hp:x<2*PK
  ·rw[uB (hx x (by simp[nm,hZ]) hp)]
  ·have hn:∀h:Nat->Option Row,jB h x v=none:=by
    intro h
    cases hl:jB h x v with
    | none=>rfl
    | some q=>have:=uC hl;omega
   rw[hn,hn]
 ·rfl
theorem Vy {τ:Ty} {p d:D} (hp:∀x∈nm p,x<2*PK->h x=h' x) (hd:∀x∈nm d,x<2*PK->h x=h' x):l4 τ e h p d=l4 τ e h' p d:=by
 unfold l4
 split
 ·rename_i x v o
  by_cases hxp:x<2*PK
  rotate_left
  ·have hn:∀h:Nat->Option Row,jB h x v=none:=by
    intro h
    cases hl:jB h x v with
    | none=>rfl
    | some q=>have:=uC hl;omega
   rw[hn,hn]
  rw[uB (hp x (by simp[nm,hZ]) hxp)]
  split
  ·split
   ·unfold wD
    split
    ·rename_i y vy s' oy n
     by_cases hyp:y<2*PK
     ·rw[cm (hd y (by simp[nm,hZ]) hyp)]
     ·split
      ·split
       ·rfl
       ·rw[if_neg (by have:=cO;omega),if_neg (by have:=cO;omega)]
      ·rfl
    ·rfl
   ·rfl
  ·rfl
 ·rfl
theorem gh {vs:Operand->D} {x:Nat} (hx:x∈gZ o vs):rt x∈bj o vs:=aeN.2 ⟨x,hx,rfl⟩
theorem pT {vs:Operand->D} {y:Operand} (hy:y∈o.op.operands.toList) (h1:∀a b c,o.op ≠ .pick a b c) (h2:∀a,o.op ≠ .move a) (h3:∀a b c,o.op ≠ .makeFunc a b c) {x:Nat} (hx:x∈nm (vs y)):x∈gZ o vs:=by
 unfold gZ
 split
 ·rename_i ho;exact absurd ho (h2 _)
 ·rename_i ho;exact absurd ho (h1 _ _ _)
 ·rename_i ho;exact absurd ho (h3 _ _ _)
 ·exact ae2 _ (agb.2 ⟨y,hy,hx⟩)
theorem Gy {vs:Operand->D} {q:D} {args:List D} (hc:gT vs o.op=some (q,args)) (hx:∀x∈bj o vs,h x=h' x):∀d∈args,∀x∈nm d,h (rt x)=h' (rt x):=by
 obtain⟨c,f,ho,hcc,_,hargs⟩:=nF hc
 subst hargs
 intro d hd x hxd
 obtain⟨y,hy,rfl⟩:=aeN.1 hd
 exact hx _ (gh (pT (y:=y) (by simp[ho,Op.operands,Call.operands,hcc];exact .inr (by simpa using hy)) (by simp[ho]) (by simp[ho]) (by simp[ho]) hxd))
theorem Lh {g:Nat} {args:List D} (hx:∀d∈args,∀x∈nm d,h (rt x)=h' (rt x)):qT Γ e h g args=qT Γ e h' g args:=by
 unfold qT
 split
 ·rename_i x v c rest
  have hca:bk (EH h) rest=bk (EH h') rest:=iW fun d hd x hxd=>eU (hx d (age _ hd) x hxd)
  by_cases hp:x<2*PK
  ·have:=hx _ agd x (by simp[nm,hZ])
   rw[kv hp]at this
   rw[uB this,hca]
  ·have hn:∀h:Nat->Option Row,jB h x v=none:=by
    intro h
    cases hl:jB h x v with
    | none=>rfl
    | some q=>have:=uC hl;omega
   rw[hn,hn]
 ·rfl
theorem Mg {vs:Operand->D} (hx:∀x∈bj o vs,h x=h' x):mH Γ e h o.dst (gT vs o.op)=mH Γ e h' o.dst (gT vs o.op):=by
 unfold mH
 split
 ·rename_i d g args hd hc
  unfold Dq
  split
  ·rw[iW fun d hd x hxd=>eU (Gy hc hx d hd x hxd)]
  ·rfl
 ·rfl
theorem Qa {vs:Operand->D} (hx:∀x∈bj o vs,h x=h' x):ur T Γ e o vs h=ur T Γ e o vs h':=by
 unfold ur
 split
 ·rename_i ty p ho
  split
  ·exact UX fun x hxm hl=>by
    have:=hx _ (gh (pT (y:=p) (by simp[ho,Op.operands]) (by simp[ho]) (by simp[ho]) (by simp[ho]) hxm))
    rwa [kv hl]at this
  ·rfl
 ·rename_i ty p x ho
  split
  ·exact Vy (fun y hxm hl=>by
    have:=hx _ (gh (pT (y:=p) (by simp[ho,Op.operands]) (by simp[ho]) (by simp[ho]) (by simp[ho]) hxm))
    rwa [kv hl]at this) (fun y hxm hl=>by
    have:=hx _ (gh (pT (y:=x) (by simp[ho,Op.operands]) (by simp[ho]) (by simp[ho]) (by simp[ho]) hxm))
    rwa [kv hl]at this)
  ·rfl
 ·rename_i c ho
  unfold AW
  split
  ·rename_i g args hc
   exact Lh (Gy (by rw[ho];exact hc) hx)
  ·rfl
 ·rfl
theorem P7 {vs:Operand->D} (hx:∀x∈bj o vs,h x=h' x):pV T Γ e o vs h=pV T Γ e o vs h':=by
 have h1:mG T Γ e o vs (EH h)=mG T Γ e o vs (EH h'):=UE fun x hxm=>eU (hx _ (gh hxm))
 unfold pV
 rw[h1,Qa hx,Mg hx]
 split
 ·rfl
 split
 ·rfl
 ·cases hE:mG T Γ e o vs (EH h') with
  | none=>rfl
  | some E =>
   simp only[Zh]
   rw[A0 E.hw fun p hp=>hx _ (gh (G7 hE p hp))]
theorem P8 {vs:Operand->D} {E:bM} (hE:pV T Γ e o vs h=some E):∀p∈E.hw,p.1∈bj o vs:=by
 unfold pV at hE
 split at hE
 ·rename_i E0 hmk
  simp only[aeX]at hE
  subst hE
  unfold ju at hmk
  split at hmk<;>try (cases hmk;done)
  rename_i ty l c ho
  split at hmk<;>try (cases hmk;done)
  rename_i d hdst
  split at hmk<;>try (cases hmk;done)
  split at hmk<;>try (cases hmk;done)
  unfold lN at hmk
  split at hmk<;>try (cases hmk;done)
  split at hmk<;>try (cases hmk;done)
  split at hmk<;>try (cases hmk;done)
  rename_i hcond
  cases hmk
  intro p hp
  simp only[afb]at hp
  subst hp
  have hd:d∈gZ o vs:=by
   unfold gZ
   rw[ho]
   exact ae3 _ (by rw[hdst];simp)
  have:=gh hd
  rwa [kv (by have:=hcond.2.2.2.2.2.2.1;omega)]at this
 split at hE
 ·rename_i E0 hcf
  simp only[aeX]at hE
  subst hE
  unfold mH at hcf
  split at hcf<;>try (cases hcf;done)
  rename_i d g args hdst hco
  obtain⟨c,f,hop,hcc,hq,hargs⟩:=nF hco
  unfold Dq at hcf
  split at hcf<;>try (cases hcf;done)
  obtain⟨_,_,_,_,_,_,_,_,_,hdp,rfl⟩:=xf hcf
  intro p hp
  simp only[afb]at hp
  subst hp
  have hd:d∈gZ o vs:=by
   unfold gZ
   rw[hop]
   exact ae3 _ (by rw[hdst];simp)
  have:=gh hd
  rwa [kv (by omega)]at this
 ·unfold Zh at hE
  split at hE
  ·rename_i v0 hw he
   simp only[aeX]at hE
   subst hE
   intro p hp
   obtain⟨q,h1,h2⟩:=A1 hw p hp
   rw[h2]
   exact gh (G7 he q h1)
  ·unfold ur at hE
   split at hE
   ·split at hE<;>try (cases hE;done)
    rw[G6 hE]
    intro p hp
    simp at hp
   ·rename_i ty p x ho
    split at hE<;>try (cases hE;done)
    intro q hq
    obtain⟨q1,q2⟩:=Vz hE q hq
    have:q.1∈gZ o vs:=by
     rcases q2 with q2|q2
     ·exact pT (y:=p) (by simp[ho,Op.operands]) (by simp[ho]) (by simp[ho]) (by simp[ho]) q2
     ·exact pT (y:=x) (by simp[ho,Op.operands]) (by simp[ho]) (by simp[ho]) (by simp[ho]) q2
    have:=gh this
    rwa [kv (by omega)]at this
   ·rename_i c ho
    unfold AW at hE
    split at hE<;>try (cases hE;done)
    rename_i g args hco
    obtain⟨c',f,hop,hcc,hq,hargs⟩:=nF hco
    cases hop
    obtain⟨x,v,o',rest,r,ty,s,nv,cs,p,aeJ,nv',d,cs',hag,hl,_,_,_,_,_,rfl⟩:=rZ hE
    have hlt:=uC hl
    intro q hq
    simp only[afb]at hq
    subst hq
    obtain⟨y,hy,hyx⟩:∃y∈c.args.toList,vs y=.ptr x v o':=by
     have:(.ptr x v o':D)∈c.args.toList.map vs:=by rw[<- hargs,hag];exact agd
     obtain⟨y,h1,h2⟩:=aeN.1 this
     exact⟨y,h1,h2⟩
    have:x∈gZ o vs:=pT (y:=y) (by simp[ho,Op.operands,Call.operands,hcc];exact .inr (by simpa using hy)) (by simp[ho]) (by simp[ho]) (by simp[ho]) (by rw[hyx];simp[nm,hZ])
    have:=gh this
    rwa [kv (by omega)]at this
   ·cases hE
theorem ZD {vs vs':Operand->D} (hx:∀y∈o.op.operands.toList,vs y=vs' y):pV T Γ e o vs h=pV T Γ e o vs' h∧bj o vs=bj o vs':=by
 obtain⟨h1,h2⟩:=abA (T:=T) (Γ:=Γ) (e:=e) (h:=EH h) hx
 have h3:ju T Γ e o vs=ju T Γ e o vs':=by
  unfold ju
  split
  ·rename_i ty l c ho
   rw[hx l (by simp[ho,Op.operands]),hx c (by simp[ho,Op.operands])]
  ·rfl
 have hco:∀c,o.op=.call c->gT vs (.call c)=gT vs' (.call c):=by
  intro c ho
  unfold gT
  simp only
  split
  ·rename_i f hf
   rw[hx f (by simp[ho,Op.operands,Call.operands,hf]),agc fun y hy=>hx y (by simp[ho,Op.operands,Call.operands,hf];exact .inr (by simpa using hy))]
  ·rfl
 have h4:ur T Γ e o vs h=ur T Γ e o vs' h:=by
  unfold ur
  split
  ·rename_i ty p ho
   rw[hx p (by simp[ho,Op.operands])]
  ·rename_i ty p x ho
   rw[hx p (by simp[ho,Op.operands]),hx x (by simp[ho,Op.operands])]
  ·rename_i c ho
   rw[hco c ho]
  ·rfl
 have h5:gT vs o.op=gT vs' o.op:=by
  by_cases hc:∃c,o.op=.call c
  ·obtain⟨c,hc⟩:=hc
   rw[hc]
   exact hco c hc
  ·unfold gT
   split
   ·rename_i c ho;exact absurd ⟨c,ho⟩ hc
   ·rfl
 unfold pV bj
 rw[h1,h2,h3,h4,h5]
 exact⟨rfl,rfl⟩
end
structure kx where
 tc:List Nat
 q:Bool
def uz (ops:Array Oper) (t:Nat->D) (o:Oper):Option Bool :=
 match o.guard with
 | none=>some true
 | some (j,want) =>
  match (ops[j]?).bind (·.dst) with
  | some g=>match t g with | .bool b=>some (b==want) | .skp=>some false|_=>none
  | none=>none
def dY (t:Nat->D) (dst:Option Nat) (d:D):Nat->D :=
 match dst with
 | none=>t
 | some i=>b8 t i d
def fits (N:Nat) (dst:Option Nat):Bool :=
 match dst with
 | none=>true
 | some i=>decide (i<N)
def uY (T:Nat->Option Ty) (Γ:Env) (N e:Nat) (ops:Array Oper) (o:Oper) (t:Nat->D) (h:Nat->Option Row):Option ((Nat->D)×(Nat->Option Row)×kx) :=
 if fits N o.dst then
  match uz ops t o with
  | some true =>
   match pV T Γ e o (ev t) h with
   | some E=>some (dY t o.dst E.val,aH h E.hw,⟨bj o (ev t),E.hw.isEmpty⟩)
   | none=>none
  | some false=>some (dY t o.dst .skp,h,⟨[],true⟩)
  | none=>none
 else none
section
variable {P:Program} {T:Nat->Option Ty} {N:Nat} {M:Nat->Prop} {L:ky} {w0:World} {blk:Nat->Option (Nat×Nat)} {t:Nat->D} {h:Nat->Option Row} {a:Act} {w:World} {e:Nat} {o:Oper} {Γ:Env} {ops:Array Oper}
theorem yw {V:Nat->Nat->Prop} (hI:Inv N M L w0 blk V t h a w) {b:Bool} (hg:uz ops t o=some b):Region.wanted o (yielded ops a.tmps)=b:=by
 unfold uz at hg
 split at hg
 ·rename_i ho
  simp only[aeX]at hg
  subst hg
  simp[Region.wanted,ho]
 ·rename_i j want ho
  split at hg
  ·rename_i g hgd
   split at hg
   ·rename_i b' hb
    simp only[aeX]at hg
    subst hg
    have hs:=hI.slots g
    rw[hb]at hs
    have hv:=vl hs
    have hget:a.tmps[g]? = some (.bool b'):=by
     simp only[aeT]at hv
     cases hx:a.tmps[g]? with
     | none=>rw[hx]at hv;cases hv
     | some v=>rw[hx]at hv;simp only[Option.getD_some]at hv;rw[hv]
    have hy:yielded ops a.tmps j=some b':=by
     unfold yielded
     rw[hgd]
     simp[hget]
    simp only[Region.wanted,ho,hy]
    cases b'<;>cases want<;>rfl
   ·rename_i hb
    simp only[aeX]at hg
    subst hg
    have hs:=hI.slots g
    rw[hb]at hs
    have hv:a.tmps.getD g undef=undef:=hs
    have hy:yielded ops a.tmps j=none:=by
     unfold yielded
     rw[hgd]
     simp only[aeT]at hv
     cases hx:a.tmps[g]? with
     | none=>simp only[Option.bind_some,hx]
     | some v=>rw[hx]at hv;simp only[Option.getD_some]at hv;subst hv;simp only[Option.bind_some,hx];rfl
    simp only[Region.wanted,ho,hy]
    cases want<;>rfl
   ·cases hg
  ·cases hg
theorem Inv.acW {V:Nat->Nat->Prop} (hI:Inv N M L w0 blk V t h a w) (hf:fits N o.dst=true) {d:D} {v:Value} (hx:RT w (Own M h blk) h blk V d v):Inv N M L w0 blk V (dY t o.dst d) h (a.put o.dst v) w:=by
 cases hd:o.dst with
 | none=>simpa [dY,Act.put] using hI
 | some i =>
  rw[hd]at hf
  exact hI.put (by simpa [fits] using hf) hx
theorem TZ (hT:kq P T) (hΓ:bq P Γ) {done:List Nat} {t':Nat->D} {h':Nat->Option Row} {f:kx} {K:Act->World->Prop} {Q:Exit->Act->World->Prop} (hI:Fq N M L w0 blk e done t h a w)
  (hs:uY T Γ N e ops o t h=some (t',h',f)) (hd:∀d,o.dst=some d->d∉done) (hK:∀a' w' blk',Fq N M L w0 blk' e (o.dst.toList++done) t' h' a' w'->K a' w') :
  if Region.wanted o (yielded ops a.tmps) then o.wp P a w K Q∨(o.asks P a w∧LetsOut Q) else K (a.put o.dst undef) w:=by
 unfold uY at hs
 split at hs
 ·rename_i hf
  split at hs
  ·rename_i hg
   rw[yw hI.inv hg]
   simp only[if_true]
   split at hs
   ·rename_i E hE
    simp only[aeX,Prod.mk.injEq]at hs
    obtain⟨rfl,rfl,_⟩:=hs
    have:=P9 hT hΓ hI (fun d hd'=>⟨hd d hd',by rw[hd']at hf;simpa [fits] using hf⟩) hE
    refine .inl (this.wp fun v w' hA =>?_)
    obtain⟨blk',hI',hR⟩:=hA
    exact hK _ _ blk' ⟨hI'.inv.acW hf hR,hI'.nv⟩
   ·cases hs
  ·rename_i hg
   rw[yw hI.inv hg]
   simp only[afo,if_false]
   simp only[aeX,Prod.mk.injEq]at hs
   obtain⟨rfl,rfl,_⟩:=hs
   have hsub:∀x,x∈done->x∈o.dst.toList++done:=fun x hx=>ae3 _ hx
   exact hK _ _ blk ⟨(hI.inv.acW hf (d := .skp) (v:=undef) rfl).weaken fun x n hx=>hx.step (.refl e h) hsub,hI.nv.step (.refl e h) hsub⟩
  ·cases hs
 ·cases hs
theorem eP {x:Nat} : ∀ {l:List (Nat×Option Row)} {h:Nat->Option Row},(∀p∈l,p.1≠x)->aH h l x=h x
 | [],_,_=>rfl
 | (y,r)::l,h,hn=>by
  simp only[aH]
  rw[eP (fun p hp=>hn p (by simp[hp]))]
  exact aC _ _ (fun e=>hn (y,r) (by simp) e.symm)
theorem zH {x:Nat} : ∀ {l:List (Nat×Option Row)} {h h':Nat->Option Row},(∃p∈l,p.1=x)->aH h l x=aH h' l x
 | [],_,_,he=>by obtain⟨p,hp,_⟩:=he;simp at hp
 | (y,r)::l,h,h',he=>by
  simp only[aH]
  by_cases hl:∃p∈l,p.1=x
  ·exact zH hl
  ·have hn:∀p∈l,p.1≠x:=fun p hp hpx=>hl ⟨p,hp,hpx⟩
   rw[eP hn,eP hn]
   obtain⟨p,hp,hpx⟩:=he
   rcases aeV.1 hp with rfl|hp
   ·simp only at hpx;subst hpx;rw[ay,ay]
   ·exact absurd hpx (hn p hp)
theorem KX {l l':List (Nat×Option Row)} {h:Nat->Option Row} (hd:∀p∈l,∀q∈l',p.1≠q.1):aH (aH h l) l'=aH (aH h l') l:=by
 funext x
 by_cases h1:∃p∈l,p.1=x
 ·obtain⟨p,hp,rfl⟩:=h1
  rw[eP (fun q hq e=>hd p hp q hq e.symm)]
  exact zH ⟨p,hp,rfl⟩
 ·have hn:∀p∈l,p.1≠x:=fun p hp hpx=>h1 ⟨p,hp,hpx⟩
  rw[eP hn]
  by_cases h2:∃p∈l',p.1=x
  ·exact zH h2
  ·have hn':∀p∈l',p.1≠x:=fun p hp hpx=>h2 ⟨p,hp,hpx⟩
   rw[eP hn',eP hn',eP hn]
theorem Vt {t:Nat->D} {x y:Option Nat} {v u:D} (hne:∀d,x=some d->y≠some d):dY (dY t x v) y u=dY (dY t y u) x v:=by
 cases x with
 | none=>rfl
 | some i =>
  cases y with
  | none=>rfl
  | some j=>exact YX t v u (fun e=>hne i rfl (by rw[e]))
theorem TI {t:Nat->D} {x:Option Nat} {v:D} {s:Nat} (hne:x≠some s):dY t x v s=t s:=by
 cases x with
 | none=>rfl
 | some i=>exact aC _ _ (fun e=>hne (by rw[e]))
theorem Pn {t t1:Nat->D} {h h1:Nat->Option Row} {f:kx} (hs:uY T Γ N e ops o t h=some (t1,h1,f)) :
  ∃v hw,t1=dY t o.dst v∧h1=aH h hw∧(∀p∈hw,p.1∈f.tc)∧(f.q=true->hw=[]) ∧
   ∀t' h',(∀s∈o.looksAt ops,t s=t' s)->(∀x∈f.tc,h x=h' x)->uY T Γ N e ops o t' h'=some (dY t' o.dst v,aH h' hw,f):=by
 have hgd:∀t':Nat->D,(∀s∈o.looksAt ops,t s=t' s)->uz ops t o=uz ops t' o:=by
  intro t' ht
  unfold uz
  split
  ·rfl
  ·rename_i j want ho
   split
   ·rename_i g hg
    rw[ht g (by simp[Oper.looksAt,ho,hg])]
   ·rfl
 have hvs:∀t':Nat->D,(∀s∈o.looksAt ops,t s=t' s)->∀y∈o.op.operands.toList,ev t y=ev t' y:=by
  intro t' ht y hy
  cases y with
  | tmp i=>exact ht i (by unfold Oper.looksAt;exact ae2 _ (List.mem_filterMap.2 ⟨_,hy,rfl⟩))
  | const v=>rfl
  | global g=>rfl
  | func f=>rfl
 unfold uY at hs
 split at hs
 ·rename_i hf
  split at hs
  ·rename_i hg
   split at hs
   ·rename_i E hE
    simp only[aeX,Prod.mk.injEq]at hs
    obtain⟨rfl,rfl,rfl⟩:=hs
    refine⟨E.val,E.hw,rfl,rfl,P8 hE,fun hq=>by simpa using hq,fun t' h' ht hh =>?_⟩
    obtain⟨e1,e2⟩:=ZD (T:=T) (Γ:=Γ) (e:=e) (h:=h) (hvs t' ht)
    have e3:pV T Γ e o (ev t') h'=some E:=by
     rw[<- hE,e1]
     exact (P7 (fun x hx=>hh x (by rw[e2];exact hx))).symm
    unfold uY
    rw[if_pos hf,<- hgd t' ht,hg]
    simp only[e3,e2]
   ·cases hs
  ·rename_i hg
   simp only[aeX,Prod.mk.injEq]at hs
   obtain⟨rfl,rfl,rfl⟩:=hs
   refine⟨.skp,[],rfl,rfl,fun p hp=>by simp at hp,fun _=>rfl,fun t' h' ht hh =>?_⟩
   unfold uY
   rw[if_pos hf,<- hgd t' ht,hg]
   rfl
  ·cases hs
 ·cases hs
def PH (T:Nat->Option Ty) (Γ:Env) (N e:Nat) (ops:Array Oper) (F:Nat->kx):List Nat->(Nat->D)->(Nat->Option Row)->(Nat->D)->(Nat->Option Row)->Prop
 | [],t,h,t',h'=>t=t'∧h=h'
 | i::L,t,h,t',h'=>∃o t1 h1,ops[i]? = some o∧uY T Γ N e ops o t h=some (t1,h1,F i)∧PH T Γ N e ops F L t1 h1 t' h'
def Zz (l l':List Nat):Bool:=l.all fun x => !l'.contains x
structure RS (ops:Array Oper) (F:Nat->kx) (j i:Nat):Prop where
 apart:∀oj oi,ops[j]? = some oj->ops[i]? = some oi->oj.apart ops oi=true
 foot:((F j).q&&(F i).q||Zz (F j).tc (F i).tc)=true
theorem swap {F:Nat->kx} {i j:Nat} {L:List Nat} {t t':Nat->D} {h h':Nat->Option Row} (hr:PH T Γ N e ops F (j::i::L) t h t' h') (hi:RS ops F j i):PH T Γ N e ops F (i::j::L) t h t' h':=by
 obtain⟨oj,t1,h1,hoj,hsj,oi,t2,h2,hoi,hsi,hrest⟩:=hr
 obtain⟨a1,a2,a3⟩:=Oper.apart_spec (hi.apart oj oi hoj hoi)
 obtain⟨vj,wj,rfl,rfl,nj,qj,locj⟩:=Pn hsj
 obtain⟨vi,wi,rfl,rfl,ni,qi,loci⟩:=Pn hsi
 have hfoot:=hi.foot
 simp only[agj,afp]at hfoot
 have d1:∀x∈(F i).tc,∀p∈wj,p.1≠x:=by
  intro x hx p hp he
  rcases hfoot with⟨h1,_⟩|h1
  ·rw[qj h1]at hp;simp at hp
  ·simp only[Zz,aeZ]at h1
   have:=h1 p.1 (nj p hp)
   rw[he]at this
   simp[hx]at this
 have d2:∀x∈(F j).tc,∀p∈wi,p.1≠x:=by
  intro x hx p hp he
  rcases hfoot with⟨_,h1⟩|h1
  ·rw[qi h1]at hp;simp at hp
  ·simp only[Zz,aeZ]at h1
   have:=h1 x hx
   have hm:=ni p hp
   rw[he]at hm
   simp[hm]at this
 have hsi':=loci t h (fun s hs=>TI (fun hd=>a1 s hd hs)) (fun x hx=>eP (d1 x hx))
 have hsj':=locj (dY t oi.dst vi) (aH h wi) (fun s hs=>(TI (fun hd=>a3 s hd hs)).symm) (fun x hx=>(eP (d2 x hx)).symm)
 refine⟨oi,_,_,hoi,hsi',oj,_,_,hoj,hsj',?_⟩
 rw[Vt (x:=oi.dst) (y:=oj.dst) (fun d hd hd'=>a2 d hd' hd),KX (l:=wi) (l':=wj) (fun p hp q hq he=>d1 p.1 (ni p hp) q hq he.symm)]
 exact hrest
theorem front {F:Nat->kx} {i:Nat} {post:List Nat} : ∀ {pre:List Nat} {t t':Nat->D} {h h':Nat->Option Row},PH T Γ N e ops F (pre++i::post) t h t' h'->(∀j∈pre,RS ops F j i)->PH T Γ N e ops F (i::(pre++post)) t h t' h'
 | [],_,_,_,_,hr,_=>hr
 | j::pre,t,t',h,h',hr,hi=>by
  obtain⟨oj,t1,h1,hoj,hsj,hrest⟩:=hr
  have ih:=front (pre:=pre) hrest (fun k hk=>hi k (by simp[hk]))
  exact swap ⟨oj,t1,h1,hoj,hsj,ih⟩ (hi j (by simp))
def direct (o:Oper):List Nat:=(o.after.toList.filter (Region.binds .any)).map (·.on)
def vr:List Oper->List (List Nat)->List (List Nat)
 | [],acc=>acc
 | o::l,acc=>vr l (acc++[direct o++(direct o).flatMap fun k=>acc.getD k []])
def abx (ops:Array Oper):List (List Nat):=vr ops.toList []
theorem CT (S:Nat->Prop):∀(l:List Oper) (acc:List (List Nat)) (k:Nat),k=acc.length->(∀i j,j∈acc.getD i []->i<k->(∀m o,ops[m]? = some o->S m->∀d∈direct o,S d)->(∀o,ops[i]? = some o->∀d∈direct o,S d)->S j) ->
  (∀j,l[j]? = ops[k+j]?)->∀i j,j∈(vr l acc).getD i []->(∀m o,ops[m]? = some o->S m->∀d∈direct o,S d)->(∀o,ops[i]? = some o->∀d∈direct o,S d)->S j
 | [],acc,k,hk,hacc,hl,i,j,hj,hS,hi=>by
  simp only[vr]at hj
  by_cases hik:i<k
  ·exact hacc i j hj hik hS hi
  ·have:acc.getD i []=[]:=by simp[List.getD,agk (show acc.length<=i by omega)]
   rw[this]at hj
   simp at hj
 | o::l,acc,k,hk,hacc,hl,i,j,hj,hS,hi=>by
  simp only[vr]at hj
  refine CT S l _ (k+1) (by simp[hk]) ?_ (fun j=>by have:=hl (j+1);simpa [ae9,Nat.add_comm 1 j] using this) i j hj hS hi
  intro i' j' hj' hik' hS' hi'
  by_cases hlt:i'<k
  ·have:(acc++[direct o++(direct o).flatMap fun k=>acc.getD k []]).getD i' []=acc.getD i' []:=by
    simp[List.getD,afs (show i'<acc.length by omega)]
   rw[this]at hj'
   exact hacc i' j' hj' hlt hS' hi'
  ·obtain rfl:i'=k:=by omega
   have:(acc++[direct o++(direct o).flatMap fun k=>acc.getD k []]).getD i' []=direct o++(direct o).flatMap fun k=>acc.getD k []:=by
    simp[List.getD,aft (show acc.length<=i' by omega),hk]
   rw[this]at hj'
   have ho:ops[i']? = some o:=by have:=hl 0;simpa using this.symm
   rcases afV.1 hj' with hd|hd
   ·exact hi' o ho j' hd
   ·obtain⟨m,hm,hmj⟩:=agb.1 hd
    have hSm:=hi' o ho m hm
    by_cases hmk:m<i'
    ·exact hacc m j' hmj hmk hS' (fun o' ho' d hd'=>hS' m o' ho' hSm d hd')
    ·have:acc.getD m []=[]:=by simp[List.getD,agk (show acc.length<=m by omega)]
     rw[this]at hmj
     simp at hmj
theorem Zx {S:Nat->Prop} {i j:Nat} (hj:j∈(abx ops).getD i []) (hS:∀m o,ops[m]? = some o->S m->∀d∈direct o,S d) (hi:∀o,ops[i]? = some o->∀d∈direct o,S d):S j :=
 CT S ops.toList [] 0 rfl (fun i j hj _ _ _=>by simp at hj) (fun j=>by simp) i j hj hS hi
def WQ (acc:List Nat):List Nat->Nat
 | []=>0
 | k::l=>(2 ^ k ||| acc.getD k 0) ||| WQ acc l
def CU:List Oper->List Nat->List Nat
 | [],acc=>acc
 | o::l,acc=>CU l (acc++[WQ acc (direct o)])
def SB (ops:Array Oper):List Nat:=CU ops.toList []
theorem SF {acc:List Nat} {j:Nat} : ∀ {l:List Nat},(WQ acc l).testBit j=true->j∈l∨∃k∈l,(acc.getD k 0).testBit j=true
 | [],h=>by simp[WQ]at h
 | k::l,h=>by
  simp only[WQ,Nat.testBit_or,agj,agl,decide_eq_true_eq]at h
  rcases h with (rfl|h)|h
  ·exact .inl (agd ..)
  ·exact .inr ⟨k,agd ..,h⟩
  ·rcases SF h with h|⟨k',h1,h2⟩
   ·exact .inl (age _ h)
   ·exact .inr ⟨k',age _ h1,h2⟩
theorem AJ:∀(l:List Oper) (accM:List Nat) (acc:List (List Nat)),accM.length=acc.length->(∀i j,(accM.getD i 0).testBit j=true->j∈acc.getD i [])->∀i j,((CU l accM).getD i 0).testBit j=true->j∈(vr l acc).getD i []
 | [],_,_,_,h,i,j,hj=>h i j hj
 | o::l,accM,acc,hl,h,i,j,hj=>by
  refine AJ l _ _ (by simp[hl]) (fun i' j' hj' =>?_) i j hj
  by_cases h1:i'<accM.length
  ·rw[afr,afs h1,<- afr]at hj'
   rw[afr,afs (by omega),<- afr]
   exact h i' j' hj'
  ·by_cases h2:i'=accM.length
   ·subst h2
    rw[afr,aft (aeO _),afR]at hj'
    simp only[List.getElem?_cons_zero,Option.getD_some]at hj'
    rw[hl,afr,aft (aeO _),afR]
    simp only[List.getElem?_cons_zero,Option.getD_some,afV,agb]
    rcases SF hj' with hj'|⟨k,hk,hj'⟩
    ·exact .inl hj'
    ·exact .inr ⟨k,hk,h k j' hj'⟩
   ·rw[afr,agk (by simp;omega)]at hj'
    simp at hj'
theorem WE {i j:Nat} (h:((SB ops).getD i 0).testBit j=true):j∈(abx ops).getD i [] :=
 AJ ops.toList [] [] rfl (fun i j h=>by simp at h) i j h
def RY (ops:Array Oper) (F:Nat->kx):Prop:=∀j i,j<i->i<ops.size->j∈(abx ops).getD i []∨RS ops F j i
theorem VJ (hT:kq P T) (hΓ:bq P Γ) {F:Nat->kx} {Q:Exit->Act->World->Prop} {t':Nat->D} {h':Nat->Option Row} (hp:RY ops F) (hedge:∀i o,ops[i]? = some o->∀d∈direct o,d<i)
  (hdst:∀(i j:Nat) (oi oj:Oper) (d:Nat),ops[i]? = some oi->ops[j]? = some oj->oi.dst=some d->oj.dst=some d->i=j) (hQ:∀a' w' blk' done,Fq N M L w0 blk' e done t' h' a' w'->Q .normal a' w') :
  ∀(n:Nat) (LL:List Nat) (listed:Array Bool) (t:Nat->D) (h:Nat->Option Row) (a:Act) (w:World) (blk:Nat->Option (Nat×Nat)) (done:List Nat),LL.length=n->(∀i,i∈LL↔listed.getD i true=false)->LL.Pairwise (· < ·)->(∀i∈LL,i<ops.size)->listed.size=ops.size ->
   (∀i o,ops[i]? = some o->listed.getD i false=true->∀d∈direct o,listed.getD d false=true)->(∀d∈done,∃i o,ops[i]? = some o∧o.dst=some d∧listed.getD i false=true) ->
   PH T Γ N e ops F LL t h t' h'->Fq N M L w0 blk e done t h a w->wpAny P .any ops Q n listed a w:=by
 intro n
 induction n with
 | zero =>
  intro LL listed t h a w blk done hn hL hs hlt hsz hdown hdone hr hI
  have:LL=[]:=afW hn
  subst this
  obtain⟨rfl,rfl⟩:=hr
  refine⟨?_,hQ a w blk done hI⟩
  refine List.eq_nil_iff_forall_not_mem.2 fun i hi =>?_
  have:=(mem_ready.1 hi).1
  exact absurd ((hL i).2 this) (by simp)
 | succ n ih =>
  intro LL listed t h a w blk done hn hL hs hlt hsz hdown hdone hr hI
  refine⟨fun hempty =>?_,fun i hi =>?_⟩
  ·cases LL with
   | nil=>simp at hn
   | cons i LL =>
    obtain⟨o,t1,h1,ho,_⟩:=hr
    have hready:i∈Region.ready .any ops listed:=by
     refine mem_ready.2 ⟨(hL i).1 (by simp),o,ho,fun ed hed hb =>?_⟩
     have hd:ed.on∈direct o:=aeN.2 ⟨ed,agm.2 ⟨by simpa using hed,hb⟩,rfl⟩
     have hlt':=hedge i o ho _ hd
     by_cases hm:ed.on∈i::LL
     ·rcases aeV.1 hm with hm|hm
      ·omega
      ·have:=(agn.1 hs).1 _ hm
       omega
     ·have h1:¬listed.getD ed.on true=false:=fun hf=>hm ((hL _).2 hf)
      have h2:ed.on<listed.size:=by rw[hsz];have:=hlt i (by simp);omega
      have:listed.getD ed.on true=listed.getD ed.on false:=by simp[Array.getD,h2]
      rw[<- this]
      simpa using h1
    rw[hempty]at hready
    simp at hready
  ·obtain⟨hi0,o,ho,hneeds⟩:=mem_ready.1 hi
   have hiL:i∈LL:=(hL i).2 hi0
   obtain⟨pre,post,rfl⟩:=List.append_of_mem hiL
   have hisz:i<listed.size:=by rw[hsz];exact hlt i hiL
   have hdirect:∀d∈direct o,listed.getD d false=true:=by
    intro d hd
    obtain⟨ed,hed,rfl⟩:=aeN.1 hd
    obtain⟨h1,h2⟩:=agm.1 hed
    exact hneeds ed (by simpa using h1) h2
   have hind:∀j∈pre,RS ops F j i:=by
    intro j hj
    have hji:j<i:=by
     have:=ago.1 hs
     exact this.2.2 j hj i (by simp)
    rcases hp j i hji (hlt i hiL) with hc|hc
    ·have hjl:listed.getD j false=true:=Zx (S:=fun m=>listed.getD m false=true) hc (fun m om hm hSm d hd=>hdown m om hm hSm d hd) (fun o' ho' d hd=>by
      rw[ho]at ho'
      cases ho'
      exact hdirect d hd)
     have hjt:=(hL j).1 (by simp[hj])
     have hjs:j<listed.size:=by omega
     have:listed.getD j true=listed.getD j false:=by simp[Array.getD,hjs]
     rw[this,hjl]at hjt
     cases hjt
    ·exact hc
   obtain⟨o',t1,h1,ho',hstep,hrest⟩:=front hr hind
   rw[ho]at ho'
   cases ho'
   unfold wpOp
   simp only[ho]
   refine TZ hT hΓ hI hstep (fun d hd hdd =>?_) (fun a' w' blk' hI' =>?_)
   ·obtain⟨k,ok,hk,hkd,hkl⟩:=hdone d hdd
    have:=hdst i k o ok d ho hk hd hkd
    subst this
    have:listed.getD i true=listed.getD i false:=by simp[Array.getD,hisz]
    rw[this,hkl]at hi0
    cases hi0
   ·have hset:∀k,(listed.setIfInBounds i true).getD k false=true↔k=i∨listed.getD k false=true:=by
     intro k
     by_cases hki:k=i
     ·subst hki;simp[hisz]
     ·rw[getD_set_ne false (Ne.symm hki)];simp[hki]
    have hset2:∀k,(listed.setIfInBounds i true).getD k true=false↔k≠i∧listed.getD k true=false:=by
     intro k
     by_cases hki:k=i
     ·subst hki;simp[hisz]
     ·rw[getD_set_ne true (Ne.symm hki)];simp[hki]
    have hnd:(pre++i::post).Nodup:=hs.imp (fun h=>Nat.ne_of_lt h)
    refine ih (pre++post) (listed.setIfInBounds i true) t1 h1 a' w' blk' _ (by simp at hn ⊢;omega) (fun k =>?_) ?_ (fun k hk=>hlt k (by simp at hk ⊢;rcases hk with hk|hk<;>simp[hk])) (by simpa using hsz) (fun k ok hk hkl d hd =>?_) (fun d hd =>?_) hrest hI'
    ·rw[hset2]
     constructor
     ·intro hk
      have hkL:k∈pre++i::post:=by simp at hk ⊢;rcases hk with hk|hk<;>simp[hk]
      refine⟨fun e =>?_,(hL k).1 hkL⟩
      subst e
      have:=List.nodup_append.1 hnd
      simp only[agp]at this
      rcases afV.1 hk with hk|hk
      ·exact this.2.2 k hk k (by simp) rfl
      ·exact this.2.1.1 hk
     ·rintro⟨hk,hkl⟩
      have:=(hL k).2 hkl
      simp only[afV,aeV]at this ⊢
      rcases this with h|h|h
      ·exact .inl h
      ·exact absurd h hk
      ·exact .inr h
    ·refine List.Pairwise.sublist ?_ hs
     exact List.Sublist.append_left (List.sublist_cons_self _ _) _
    ·rw[hset]
     rcases (hset k).1 hkl with rfl|hkl
     ·rw[ho]at hk;cases hk;exact .inr (hdirect d hd)
     ·exact .inr (hdown k ok hk hkl d hd)
    ·rcases afV.1 hd with hd|hd
     ·exact⟨i,o,ho,by simpa using hd,(hset i).2 (.inl rfl)⟩
     ·obtain⟨k,ok,hk,hkd,hkl⟩:=hdone d hd
      exact⟨k,ok,hk,hkd,(hset k).2 (.inr hkl)⟩
end
def BR (T:Nat->Option Ty) (Γ:Env) (N e:Nat) (ops:Array Oper):List Oper->(Nat->D)->(Nat->Option Row)->Option ((Nat->D)×(Nat->Option Row)×List kx)
 | [],t,h=>some (t,h,[])
 | o::l,t,h =>
  match uY T Γ N e ops o t h with
  | some (t1,h1,f) =>
   match BR T Γ N e ops l t1 h1 with
   | some (t2,h2,fs)=>some (t2,h2,f::fs)
   | none=>none
  | none=>none
def J7:List Nat->Bool
 | []=>true
 | x::l => !l.contains x&&J7 l
def W2 (ops:Array Oper):Bool:=J7 (ops.toList.filterMap (·.dst))
def Sb (ops:Array Oper) (j i:Nat):Bool :=
 match ops[j]?,ops[i]? with
 | some oj,some oi=>oj.apart ops oi
 | _,_=>true
def P6 (ops:Array Oper):Bool :=
 (ops.toList.zipIdx.all fun p=>(direct p.1).all fun d=>decide (d<p.2)) &&
 ((List.range ops.size).all fun i=>(List.range i).all fun j=>((SB ops).getD i 0).testBit j||Sb ops j i)
def H5 (ops:Array Oper):List (Nat×Nat):=(List.range ops.size).flatMap fun i=>((List.range i).filter fun j => !((SB ops).getD i 0).testBit j).map fun j=>(j,i)
def XZ (fs:List kx) (p:Nat×Nat):Bool :=
 match fs[p.1]?,fs[p.2]? with
 | some f,some g=>f.q&&g.q||Zz f.tc g.tc
 | _,_=>false
def Df (ops:Array Oper) (fs:List kx):Bool:=(H5 ops).all (XZ fs)
inductive Ex where
 | normal
 | exit (n:Nat)
 | ret
structure St where
 t:Nat->D
 h:Nat->Option Row
 e:Nat
def iter (f:St->Option (Ex×St)):Nat->St->Option (Ex×St)
 | 0,_=>none
 | n+1,s =>
  match f s with
  | some (.normal,s1)=>iter f n s1
  | r=>r
def wo (T:Nat->Option Ty) (Γ:Env) (N:Nat) (ops:Array Oper) (draw:Bool) (s:St):Option (Ex×St) :=
 match BR T Γ N s.e ops ops.toList s.t s.h with
 | some (t,h,fs)=>if !draw||Df ops fs then some (.normal,⟨t,h,s.e+1⟩) else none
 | none=>none
def Pv (d:D) (x y:Option (Ex×St)):Option (Ex×St) :=
 match d with
 | .bool b=>if b then x else y
 | _=>none
def adD (r:Option (Ex×St)) (k:St->Option (Ex×St)):Option (Ex×St) :=
 match r with
 | some (.normal,s)=>k s
 | r=>r
def RL (id:Nat) (r:Option (Ex×St)):Option (Ex×St) :=
 match r with
 | some (.exit n,s)=>if n=id then some (.normal,s) else some (.exit n,s)
 | r=>r
def gz (T:Nat->Option Ty) (Γ:Env) (N F:Nat):Code->St->Option (Ex×St)
 | .skip,s=>some (.normal,s)
 | .region _ ops draw,s=>wo T Γ N ops draw s
 | .seq a b,s=>adD (gz T Γ N F a s) (gz T Γ N F b)
 | .cond c x y,s=>Pv (ev s.t c) (gz T Γ N F x s) (gz T Γ N F y s)
 | .block id b,s=>RL id (gz T Γ N F b s)
 | .loop b,s=>iter (gz T Γ N F b) F s
 | .exit id,s=>some (.exit id,s)
 | .ret,s=>some (.ret,s)
 | _,_=>none
def codeOk:Code->Bool
 | .region _ ops draw=>W2 ops&&(!draw||P6 ops)
 | .seq a b=>codeOk a&&codeOk b
 | .cond _ x y=>codeOk x&&codeOk y
 | .block _ b=>codeOk b
 | .loop b=>codeOk b
 | _=>true
section
variable {P:Program} {T:Nat->Option Ty} {N:Nat} {M:Nat->Prop} {L:ky} {w0:World} {blk:Nat->Option (Nat×Nat)} {t:Nat->D} {h:Nat->Option Row} {a:Act} {w:World} {e:Nat} {o:Oper} {Γ:Env} {ops:Array Oper}
theorem HY:∀ {l:List Nat},J7 l=true->l.Nodup
 | [],_=>List.nodup_nil
 | x::l,h=>by
  simp only[J7,afp,afq,List.contains_eq_mem,decide_eq_false_iff_not]at h
  exact agp.2 ⟨h.1,HY h.2⟩
theorem Fx:∀ {l:List Oper} {done:List Nat},(l.filterMap (·.dst)).Nodup->(∀o∈l,∀d,o.dst=some d->d∉done)->∀o l',l=o::l'->(l'.filterMap (·.dst)).Nodup∧∀o'∈l',∀d,o'.dst=some d->d∉o.dst.toList++done:=by
 intro l done hn hd o l' he
 subst he
 cases ho:o.dst with
 | none =>
  rw[List.filterMap_cons_none ho]at hn
  exact⟨hn,fun o' ho' d hd'=>by simpa using hd o' (by simp[ho']) d hd'⟩
 | some x =>
  rw[List.filterMap_cons_some ho]at hn
  obtain⟨h1,h2⟩:=agp.1 hn
  refine⟨h2,fun o' ho' d hd' hm =>?_⟩
  simp only[Option.toList_some,List.singleton_append,aeV]at hm
  rcases hm with rfl|hm
  ·exact h1 (List.mem_filterMap.2 ⟨o',ho',hd'⟩)
  ·exact hd o' (by simp[ho']) d hd' hm
theorem Fm (hT:kq P T) (hΓ:bq P Γ) {Q:Exit->Act->World->Prop} : ∀ {l:List Oper} {t t':Nat->D} {h h':Nat->Option Row} {fs:List kx} {a:Act} {w:World} {blk:Nat->Option (Nat×Nat)} {done:List Nat},
  BR T Γ N e ops l t h=some (t',h',fs)->(l.filterMap (·.dst)).Nodup->(∀o∈l,∀d,o.dst=some d->d∉done)->Fq N M L w0 blk e done t h a w ->
  (∀a' w' blk' done,Fq N M L w0 blk' e done t' h' a' w'->Q .normal a' w')->wpList P ops Q l a w
 | [],t,t',h,h',fs,a,w,blk,done,hr,_,_,hI,hQ=>by
  simp only[BR,aeX,Prod.mk.injEq]at hr
  obtain⟨rfl,rfl,_⟩:=hr
  exact hQ a w blk done hI
 | o::l,t,t',h,h',fs,a,w,blk,done,hr,hn,hd,hI,hQ=>by
  simp only[BR]at hr
  split at hr
  ·rename_i t1 h1 f hs
   split at hr
   ·rename_i t2 h2 fs2 hr2
    simp only[aeX,Prod.mk.injEq]at hr
    obtain⟨rfl,rfl,_⟩:=hr
    obtain⟨hn',hd'⟩:=Fx hn hd o l rfl
    have:=TZ (K:=wpList P ops Q l) (Q:=Q) hT hΓ hI hs (hd o (by simp)) (fun a' w' blk' hI'=>Fm hT hΓ hr2 hn' hd' hI' hQ)
    unfold wpList
    exact this
   ·cases hr
  ·cases hr
theorem y8 {F:Nat->kx} : ∀ {l:List Oper} {k:Nat} {t t':Nat->D} {h h':Nat->Option Row} {fs:List kx},BR T Γ N e ops l t h=some (t',h',fs)->(∀j,l[j]? = ops[k+j]?)->(∀j f,fs[j]? = some f->F (k+j)=f) ->
  fs.length=l.length∧PH T Γ N e ops F (List.range' k l.length) t h t' h'
 | [],k,t,t',h,h',fs,hr,_,_=>by
  simp only[BR,aeX,Prod.mk.injEq]at hr
  obtain⟨rfl,rfl,rfl⟩:=hr
  exact⟨rfl,rfl,rfl⟩
 | o::l,k,t,t',h,h',fs,hr,hl,hF=>by
  simp only[BR]at hr
  split at hr
  ·rename_i t1 h1 f hs
   split at hr
   ·rename_i t2 h2 fs2 hr2
    simp only[aeX,Prod.mk.injEq]at hr
    obtain⟨rfl,rfl,rfl⟩:=hr
    obtain⟨i1,i2⟩:=y8 (k:=k+1) hr2 (fun j=>by have:=hl (j+1);simpa [ae9,Nat.add_comm 1 j] using this) (fun j f' hj=>by have:=hF (j+1) f' (by simpa using hj);rwa [show k+(j+1)=k+1+j by omega]at this)
    refine⟨by simp[i1],o,t1,h1,by have:=hl 0;simpa using this.symm,?_,i2⟩
    have:=hF 0 f rfl
    rw[afn]at this
    rw[this]
    exact hs
   ·cases hr
  ·cases hr
def Holds (N:Nat) (M:Nat->Prop) (L:ky) (w0:World) (s:St) (a:Act) (w:World):Prop:=∃blk,Fq N M L w0 blk s.e [] s.t s.h a w
theorem F4 (hT:kq P T) (hΓ:bq P Γ) (hm:P.follows .mixedOrders=true) {id:Nat} {draw:Bool} {s:St} {x:Ex} {s':St} {Q:Exit->Act->World->Prop} (hr:wo T Γ N ops draw s=some (x,s')) (hok:(W2 ops&&(!draw||P6 ops))=true)
  (hH:Holds N M L w0 s a w) (hQ:∀a' w',Holds N M L w0 s' a' w'->Q .normal a' w'):x=.normal∧(Code.region id ops draw).wp P Q a w:=by
 unfold wo at hr
 split at hr
 ·rename_i t h fs hrun
  split at hr
  ·rename_i hdyn
   simp only[aeX,Prod.mk.injEq]at hr
   obtain⟨rfl,rfl⟩:=hr
   refine⟨rfl,?_⟩
   simp only[afp]at hok
   have hnd:(ops.toList.filterMap (·.dst)).Nodup:=HY hok.1
   obtain⟨blk,hI⟩:=hH
   have hfin:∀a' w' blk' done,Fq N M L w0 blk' s.e done t h a' w'->Q .normal a' w':=by
    intro a' w' blk' done hI'
    refine hQ a' w' ⟨blk',hI'.inv.weaken fun x v hx =>?_,fun x r ty s nv cs k1 k2 k3 k4 =>?_⟩
    ·rcases hx with⟨hn,hx|⟨hx,_⟩⟩|⟨hn,h2,h3,h4⟩
     ·exact .inl ⟨hn,.inl (by simp only;omega)⟩
     ·exact .inl ⟨hn,.inl (by simp only;omega)⟩
     ·exact .inr ⟨hn,by simp only;omega,fun _=>by simp only;omega,h4⟩
    ·have:=hI'.nv x r ty s nv cs k1 k2 k3 k4
     exact⟨by simp only;omega,fun _=>by simp only;omega⟩
   cases draw with
   | false =>
    apply wp_region_list
    exact Fm hT hΓ hrun hnd (done:=[]) (fun o _ d _=>by simp) hI hfin
   | true =>
    simp only[af8,Bool.false_or]at hdyn hok
    apply wp_region_any hm
    have hdr:=hok.2
    simp only[P6,afp]at hdr
    let F:Nat->kx:=fun i=>fs.getD i ⟨[],true⟩
    obtain⟨hlen,hRun⟩:=y8 (F:=F) (k:=0) hrun (fun j=>by simp) (fun j f hj=>by simp[F,List.getD,hj])
    have hedge:∀i o,ops[i]? = some o->∀d∈direct o,d<i:=by
     intro i o ho d hd
     have h1:=hdr.1
     rw[aeZ]at h1
     have hmem:(o,i)∈ops.toList.zipIdx:=by
      rw[List.mem_zipIdx_iff_getElem?]
      simpa using ho
     have:=h1 _ hmem
     rw[aeZ]at this
     simpa using this d hd
    have hdst:∀(i j:Nat) (oi oj:Oper) (d:Nat),ops[i]? = some oi->ops[j]? = some oj->oi.dst=some d->oj.dst=some d->i=j:=by
     have key:∀(l:List Oper),(l.filterMap (·.dst)).Nodup->∀(i j:Nat) (oi oj:Oper) (d:Nat),l[i]? = some oi->l[j]? = some oj->oi.dst=some d->oj.dst=some d->i=j:=by
      intro l
      induction l with
      | nil=>intro _ i j oi oj d hi;simp at hi
      | cons o l ih =>
       intro hn i j oi oj d hi hj hdi hdj
       have hn':(l.filterMap (·.dst)).Nodup:=by
        cases ho:o.dst with
        | none=>rw[List.filterMap_cons_none ho]at hn;exact hn
        | some x=>rw[List.filterMap_cons_some ho]at hn;exact (agp.1 hn).2
       have hnot:∀(k:Nat) (ok:Oper),l[k]? = some ok->o.dst=some d->ok.dst=some d->False:=by
        intro k ok hk ho hkd
        rw[List.filterMap_cons_some ho]at hn
        exact (agp.1 hn).1 (List.mem_filterMap.2 ⟨ok,afg hk,hkd⟩)
       cases i with
       | zero =>
        simp only[List.getElem?_cons_zero,aeX]at hi
        subst hi
        cases j with
        | zero=>rfl
        | succ j=>exact (hnot j oj (by simpa using hj) hdi hdj).elim
       | succ i =>
        cases j with
        | zero =>
         simp only[List.getElem?_cons_zero,aeX]at hj
         subst hj
         exact (hnot i oi (by simpa using hi) hdj hdi).elim
        | succ j=>rw[ih hn' i j oi oj d (by simpa using hi) (by simpa using hj) hdi hdj]
     intro i j oi oj d hi hj
     exact key ops.toList hnd i j oi oj d (by simpa using hi) (by simpa using hj)
    have hpairs:RY ops F:=by
     intro j i hji hi
     by_cases hc:((SB ops).getD i 0).testBit j=true
     ·exact .inl (WE hc)
     ·refine .inr ⟨fun oj oi hoj hoi =>?_,?_⟩
      ·have h2:=hdr.2
       rw[aeZ]at h2
       have:=h2 i (agq.2 hi)
       rw[aeZ]at this
       have:=this j (agq.2 hji)
       simp only[agj]at this
       rcases this with h'|h'
       ·exact absurd h' hc
       ·simpa [Sb,hoj,hoi] using h'
      ·rw[Df,aeZ]at hdyn
       have hmem:(j,i)∈H5 ops:=by
        refine agb.2 ⟨i,agq.2 hi,aeN.2 ⟨j,agm.2 ⟨agq.2 hji,?_⟩,rfl⟩⟩
        simpa using hc
       have:=hdyn _ hmem
       have hi':i<fs.length:=by rw[hlen];simpa using hi
       have hj':j<fs.length:=by omega
       simp only[XZ,ae1 hj',ae1 hi']at this
       simp only[F,afr,ae1 hj',ae1 hi',Option.getD_some]
       exact this
    rw[afu,<- List.range_eq_range']at hRun
    have hrep:∀i,(Array.replicate ops.size false).getD i false=false:=by
     intro i
     by_cases hi:i<ops.size
     ·simp[Array.getD,hi]
     ·simp[Array.getD,hi]
    have hrept:∀i,(Array.replicate ops.size false).getD i true=false↔i<ops.size:=by
     intro i
     by_cases hi:i<ops.size
     ·simp[Array.getD,hi]
     ·simp[Array.getD,hi]
    exact VJ hT hΓ hpairs hedge hdst hfin ops.size (List.range ops.size) (Array.replicate ops.size false) s.t s.h a _ blk [] (by simp) (fun i=>by rw[hrept];exact agq) List.pairwise_lt_range (fun i hi=>agq.1 hi) (by simp)
     (fun i o _ hl=>by rw[hrep]at hl;cases hl) (fun d hd=>by simp at hd) hRun ⟨hI.inv.drew,hI.nv⟩
  ·cases hr
 ·cases hr
def Qe:Ex->Exit
 | .normal =>.normal
 | .exit n =>.exit n
 | .ret =>.ret
theorem qD (hT:kq P T) (hΓ:bq P Γ) (hm:P.follows .mixedOrders=true) {F:Nat} : ∀(c:Code) (s:St) (x:Ex) (s':St) (Q:Exit->Act->World->Prop) (a:Act) (w:World),gz T Γ N F c s=some (x,s')->codeOk c=true->Holds N M L w0 s a w ->
  (∀a' w',Holds N M L w0 s' a' w'->Q (Qe x) a' w')->c.wp P Q a w:=by
 intro c
 induction c with
 | skip =>
  intro s x s' Q a w hr _ hH hQ
  simp only[gz,aeX,Prod.mk.injEq]at hr
  obtain⟨rfl,rfl⟩:=hr
  exact wp_skip (hQ a w hH)
 | region id ops draw =>
  intro s x s' Q a w hr hok hH hQ
  simp only[gz]at hr
  have hx:x=.normal:=by
   unfold wo at hr
   split at hr
   ·split at hr
    ·simp only[aeX,Prod.mk.injEq]at hr;exact hr.1.symm
    ·cases hr
   ·cases hr
  subst hx
  exact (F4 hT hΓ hm hr hok hH hQ).2
 | seq b c ihb ihc =>
  intro s x s' Q a w hr hok hH hQ
  simp only[codeOk,afp]at hok
  simp only[gz,adD]at hr
  apply wp_seq
  split at hr
  ·rename_i s1 h1
   exact ihb s .normal s1 _ a w h1 hok.1 hH (fun a' w' hH'=>ihc s1 x s' Q a' w' hr hok.2 hH' hQ)
  ·rename_i r hne
   refine ihb s x s' _ a w hr hok.1 hH (fun a' w' hH' =>?_)
   cases x with
   | normal=>exact absurd hr (fun h=>hne s' h)
   | exit n=>exact hQ a' w' hH'
   | ret=>exact hQ a' w' hH'
 | cond c b d ihb ihd =>
  intro s x s' Q a w hr hok hH hQ
  simp only[codeOk,afp]at hok
  simp only[gz]at hr
  unfold Pv at hr
  split at hr
  ·rename_i bb hb
   obtain⟨blk,hI⟩:=hH
   have hv:=hI.inv.ev c
   rw[hb]at hv
   refine wp_cond (t:=bb) (vl hv) ?_
   cases bb with
   | true=>exact ihb s x s' Q a w hr hok.1 ⟨blk,hI⟩ hQ
   | false=>exact ihd s x s' Q a w hr hok.2 ⟨blk,hI⟩ hQ
  ·cases hr
 | block id b ih =>
  intro s x s' Q a w hr hok hH hQ
  simp only[gz]at hr
  apply wp_block
  unfold RL at hr
  split at hr
  ·rename_i n s1 h1
   refine ih s (.exit n) s1 _ a w h1 hok hH (fun a' w' hH' =>?_)
   split at hr
   ·rename_i hn
    simp only[aeX,Prod.mk.injEq]at hr
    obtain⟨rfl,rfl⟩:=hr
    simp only[Qe,Exit.inBlock,hn,if_true]
    exact hQ a' w' hH'
   ·rename_i hn
    simp only[aeX,Prod.mk.injEq]at hr
    obtain⟨rfl,rfl⟩:=hr
    simp only[Qe,Exit.inBlock,hn,if_false]
    exact hQ a' w' hH'
  ·rename_i r hne
   refine ih s x s' _ a w hr hok hH (fun a' w' hH' =>?_)
   cases x with
   | normal=>exact hQ a' w' hH'
   | exit n=>exact absurd hr (fun h=>hne n s' h)
   | ret=>exact hQ a' w' hH'
 | loop b ih =>
  intro s x s' Q a w hr hok hH hQ
  simp only[gz]at hr
  refine wp_loop_ghost (fun n a w=>∃s,Holds N M L w0 s a w∧iter (gz T Γ N F b) n s=some (x,s')) F ⟨s,hH,hr⟩ ?_
  intro n a w ⟨s1,hH1,h1⟩
  cases n with
  | zero=>simp[iter]at h1
  | succ n =>
   simp only[iter]at h1
   split at h1
   ·rename_i s2 h2
    exact ih s1 .normal s2 _ a w h2 hok hH1 (fun a' w' hH'=>⟨n,by omega,s2,hH',h1⟩)
   ·rename_i r hne
    refine ih s1 x s' _ a w h1 hok hH1 (fun a' w' hH' =>?_)
    cases x with
    | normal=>exact absurd h1 (fun h=>hne s' h)
    | exit n=>exact hQ a' w' hH'
    | ret=>exact hQ a' w' hH'
 | exit id =>
  intro s x s' Q a w hr _ hH hQ
  simp only[gz,aeX,Prod.mk.injEq]at hr
  obtain⟨rfl,rfl⟩:=hr
  exact wp_exit (hQ a w hH)
 | ret =>
  intro s x s' Q a w hr _ hH hQ
  simp only[gz,aeX,Prod.mk.injEq]at hr
  obtain⟨rfl,rfl⟩:=hr
  exact wp_ret (hQ a w hH)
 | _=>intro s x s' Q a w hr;simp[gz]at hr
end
def OM (T:Nat->Option Ty) (s:St):ResultVar->Option (D×List Nat)
 | .tmp i=>bE s.h (s.t i)
 | .cell i ty =>
  match T ty,s.t i with
  | some τ,.ptr x v o=>match dg τ s.h (.ptr x v o) with|some E=>some (fD E.val,[])|none=>none
  | _,_=>none
def uT (T:Nat->Option Ty) (s:St):List ResultVar->Option (List D×List Nat)
 | []=>some ([],[])
 | r::rs =>
  match OM T s r with
  | some (d,fr)=>match uT T s rs with
   | some (ds,fr')=>some (d::ds,fr++fr')
   | none=>none
  | none=>none
def m9:List D->D
 | [d]=>d
 | ds =>.tup ds
inductive Mode where
 | clean|same|tight
 | fresh (ty s:Nat)
def bY:Option (D×Row)->List D->St
 | none,args=>⟨fun i=>args.getD i .und,fun _=>none,0⟩
 | some (d0,r),args=>⟨fun i=>(d0::args).getD i .und,fun x=>if x=0 then some { r with v:=0 } else none,1⟩
def mf:Option (D×Row)->St->Option (Option Row)
 | none,_=>some none
 | some (_,r),s =>
  match s.h 0 with
  | some r1=>if r1.v=0∧r1.fz=false∧r1.ty=r.ty∧r1.mp=false then some (some r1) else none
  | none=>none
def ZY:Option (D×Row)->List Nat->Bool
 | none,_=>true
 | some _,fr => !fr.contains 0
def uv (T:Nat->Option Ty) (lent:Option (D×Row)) (rs:List ResultVar) (s:St):Option (RK×Option Row) :=
 match uT T s rs,mf lent s with
 | some (ds,fr),some o=>if ZY lent fr then some (.clean (m9 ds),o) else none
 | _,_=>none
def B0 (lent:Option (D×Row)) (rs:List ResultVar) (s:St):Option (RK×Option Row) :=
 match rs with
 | [.tmp i] =>
  match s.t i,mf lent s with
  | .buf 0 0 sz o n,some (some r)=>some (.same sz o n,some r)
  | _,_=>none
 | _=>none
def vx:D->Option (RK×Option Row)
 | .sl nl tg n xs=>some (.clean (.sl nl tg n xs),none)
 | _=>none
def DA (lent:Option (D×Row)) (rs:List ResultVar) (s:St):Option (RK×Option Row) :=
 match lent,rs with
 | none,[.tmp i]=>vx (s.t i)
 | _,_=>none
def vw (ty s o n:Nat):Option Row->Option (RK×Option Row)
 | some r=>if r.fz=false∧r.ty=ty∧o+n*s<=r.cells.length then some (.fresh ty s n ((r.cells.drop o).take (n*s)),none) else none
 | none=>none
def mT (ty s:Nat) (h:Nat->Option Row):D->Option (RK×Option Row)
 | .buf x v sz o n=>if sz=s then vw ty s o n (live h x v) else none
 | .sl _ tg 0 _=>if tg=true then some (.fresh ty s 0 [],none) else none
 | _=>none
def qY (ty s:Nat) (rs:List ResultVar) (st:St):Option (RK×Option Row) :=
 match rs with
 | [.tmp i]=>mT ty s st.h (st.t i)
 | _=>none
def iP (mode:Mode) (T:Nat->Option Ty) (lent:Option (D×Row)) (rs:List ResultVar) (s:St):Option (RK×Option Row) :=
 match mode with
 | .clean=>uv T lent rs s
 | .same=>B0 lent rs s
 | .tight=>DA lent rs s
 | .fresh ty sz=>qY ty sz rs s
def a6 (mode:Mode) (T:Nat->Option Ty) (Γ:Env) (F:Nat) (fn:Func) (lent:Option (D×Row)) (args:List D):Option (RK×Option Row) :=
 match fn.body with
 | some c =>
  if fn.ntmps<=PK then
   match gz T Γ fn.ntmps F c (bY lent args) with
   | some (.exit _,_)=>none
   | some (_,s)=>iP mode T lent fn.results.toList ⟨s.t,EH s.h,s.e⟩
   | none=>none
  else none
 | none=>none
def J8:Option (D×Row)->Bool
 | none=>true
 | some (.buf 0 0 _ _ _,_)=>true
 | some (.ptr 0 0 _,_)=>true
 | _=>false
def HN:Option (D×Row)->List D->Nat
 | none,aeJ=>aeJ.length
 | some _,aeJ=>aeJ.length+1
section
variable {P:Program} {T:Nat->Option Ty} {N:Nat} {M:Nat->Prop} {L:ky} {w0:World} {blk:Nat->Option (Nat×Nat)} {a:Act} {w:World} {Γ:Env}
theorem Inv.acM {V:Nat->Nat->Prop} {t:Nat->D} {h:Nat->Option Row} (hI:Inv N M L w0 blk V t h a w) (fr:List Nat):ot M h blk fr M where
 le b hb := .inl hb
 no x hx r g hr hg hb:=hI.notM hr hg hb
def Ai (tm:Array Value):ResultVar->Sem Value
 | .tmp t=>pure (tm.getD t undef)
 | .cell b t=>do loadVar t (<- asAddr (tm.getD b undef))
theorem ER (fn:Func) (tm:Array Value):results fn tm=(do
  let vs <- fn.results.mapM (Ai tm)
  pure (if h:vs.size=1 then vs[0] else .tuple vs)):=by
 unfold results
 congr 1
theorem Vu (hT:kq P T) {M':Nat->Prop} {ty:Nat} {τ:Ty} {g c:Nat} {xs:List D} {d:D} (hτ:T ty=some τ) (hat:At w M' g c xs) (hl:xs.length=τ.size) (hd:mg τ xs=some d) :
  ∃u,(loadVar ty ⟨g,c,none⟩).run P w=.ok u w∧RP w M' d u:=by
 obtain⟨us,h1,h2,h3,h4⟩:=hat.Aq
 have hone:τ.ds.oQ=false->xs.length=1∧xs=[d]:=by
  intro hf
  simp only[mg,hf,afo,if_false]at hd
  split at hd
  ·simp only[aeX]at hd;subst hd;exact⟨rfl,rfl⟩
  ·cases hd
 have hrun:=kl (hT ty τ hτ) w g c us (by rw[h1,hl]) h2 (fun hf=>by rw[h1];exact (hone hf).1)
 refine⟨_,hrun,?_⟩
 cases ha:τ.ds.oQ with
 | true =>
  simp only[mg,ha,if_true,aeX]at hd
  subst hd
  exact .agg xs us h1 h3 h4
 | false =>
  obtain⟨_,rfl⟩:=hone ha
  exact h3 0 d rfl
theorem X9 (hT:kq P T) {M':Nat->Prop} {V:Nat->Nat->Prop} {s:St} (hI:Inv N M L w0 blk V s.t s.h a w) {r:ResultVar} {d:D} {fr:List Nat} (h1:OM T s r=some (d,fr)) (hl:ot M s.h blk fr M'):∃u,(Ai a.tmps r).run P w=.ok u w∧RP w M' d u:=by
 cases r with
 | tmp i =>
  simp only[OM]at h1
  exact⟨a.tmps.getD i undef,rfl,hI.bE h1 hl (hI.slots i)⟩
 | cell i ty =>
  simp only[OM]at h1
  split at h1
  ·rename_i τ x v o hτ hp
   split at h1
   ·rename_i E hE
    simp only[aeX,Prod.mk.injEq]at h1
    obtain⟨rfl,_⟩:=h1
    have hsl:=hI.slots i
    rw[hp]at hsl
    simp only[dg]at hE
    split at hE
    ·rename_i rr hlv
     obtain⟨hx,hv⟩:=bS hlv
     split at hE
     ·rename_i hle
      split at hE
      ·rename_i d' hd'
       simp only[aeX]at hE
       subst hE
       obtain⟨g,hg,hpv⟩:=hsl.2 rr hx hv
       have hat:=((hI.rowAt hx hg (gn hlv)).drop o).take τ.size
       obtain⟨u,hu1,hu2⟩:=Vu hT hτ hat (by simp;omega) hd'
       refine⟨u,?_,(hu2.less fun b hb=>hl.le b hb).fD⟩
       simp only[Ai,hpv,asAddr,afl,Sem.run_pure,Result.andThen_ok,hu1]
      ·cases hE
     ·cases hE
    ·cases hE
   ·cases h1
  ·cases h1
theorem OZ (hT:kq P T) {M':Nat->Prop} {V:Nat->Nat->Prop} {s:St} (hI:Inv N M L w0 blk V s.t s.h a w):∀(rs:List ResultVar) (ds:List D) (fr:List Nat),uT T s rs=some (ds,fr)->ot M s.h blk fr M' ->
  ∃us:List Value,(rs.mapM (Ai a.tmps)).run P w=.ok us w∧us.length=ds.length∧∀j d,ds[j]? = some d->RP w M' d (us.getD j undef)
 | [],ds,fr,h,_=>by
  simp only[uT,aeX,Prod.mk.injEq]at h
  obtain⟨rfl,_⟩:=h
  exact⟨[],by simp,rfl,fun j d hj=>by simp at hj⟩
 | r::rs,ds,fr,h,hl=>by
  simp only[uT]at h
  split at h
  ·rename_i d fr1 h1
   split at h
   ·rename_i ds2 fr2 h2
    simp only[aeX,Prod.mk.injEq]at h
    obtain⟨rfl,rfl⟩:=h
    obtain⟨us,i1,i2,i3⟩:=OZ hT hI rs ds2 fr2 h2 hl.right
    obtain⟨u,hu1,hu2⟩:=X9 (P:=P) hT hI h1 hl.left
    refine⟨u::us,?_,by simp[i2],fun j d hj =>?_⟩
    ·simp only[List.mapM_cons,afl,hu1,Result.andThen_ok,i1,Sem.run_pure]
    ·cases j with
     | zero=>simp only[List.getElem?_cons_zero,aeX]at hj;subst hj;simpa using hu2
     | succ j=>simpa using i3 j d (by simpa using hj)
   ·cases h
  ·cases h
theorem uW (hT:kq P T) {M':Nat->Prop} {V:Nat->Nat->Prop} {s:St} (hI:Inv N M L w0 blk V s.t s.h a w) {fn:Func} {ds:List D} {fr:List Nat} (h:uT T s fn.results.toList=some (ds,fr)) (hl:ot M s.h blk fr M') :
  ∃v,(results fn a.tmps).run P w=.ok v w∧RP w M' (m9 ds) v:=by
 obtain⟨us,i1,i2,i3⟩:=OZ (P:=P) hT hI _ ds fr h hl
 have hm:(fn.results.mapM (Ai a.tmps)).run P w=.ok us.toArray w:=by
  rw[afF,Sem.run_map,i1]
  rfl
 rw[ER]
 simp only[afl,hm,Result.andThen_ok,Sem.run_pure]
 refine⟨_,rfl,?_⟩
 match us,ds,i2,i3 with
 | [u],[d],_,i3=>simpa [m9] using i3 0 d rfl
 | [],[],_,_=>exact .tup [] [] rfl (fun j x hj=>by simp at hj)
 | u1::u2::us,d1::d2::ds,i2,i3 =>
  have:¬(u1::u2::us).toArray.size=1:=by simp
  rw[dif_neg this]
  exact .tup _ _ (by simpa using i2) i3
theorem nS {fn:Func} {tm:Array Value} {i:Nat} (h:fn.results.toList=[.tmp i]):(results fn tm).run P w=.ok (tm.getD i undef) w:=by
 have he:fn.results = #[.tmp i]:=by rw[<- h]
 rw[ER,he]
 simp[Ai]
theorem Inv.qY {V:Nat->Nat->Prop} {s:St} {ty0 s0:Nat} (hI:Inv N M L w0 blk V s.t s.h a w) {fn:Func} {rk:RK} {out:Option Row} (he:Am.qY ty0 s0 fn.results.toList s=some (rk,out)) :
  out=none∧∃v ty sz n cells,rk=.fresh ty sz n cells∧(results fn a.tmps).run P w=.ok v w∧Cc w0 w M (LB L) v rk:=by
 unfold Am.qY at he
 split at he
 ·rename_i i hrs
  have hsl:=hI.slots i
  unfold mT at he
  split at he
  ·rename_i x v sz o n ht
   rw[ht]at hsl
   split at he
   ·rename_i hsz
    subst hsz
    unfold vw at he
    split at he
    ·rename_i r hlv
     split at he
     ·rename_i hcond
      obtain⟨hz,hty,hle⟩:=hcond
      simp only[aeX,Prod.mk.injEq]at he
      obtain⟨rfl,rfl⟩:=he
      refine⟨rfl,a.tmps.getD i undef,_,_,_,_,rfl,nS hrs,?_⟩
      obtain⟨hx,hv⟩:=bS hlv
      have hol:((r.cells.drop o).take (n*sz)).length=n*sz:=by simp;omega
      rcases hI.xU hlv hsl with⟨g,o',c,cs,g0,g1,g2,g3,g4,g5,g7,g8⟩|⟨g0,rfl,g2,A,g3⟩
      ·by_cases hc:0<c∨o=0
       ·obtain⟨k1,k2⟩:=g5 hc
        subst k1
        refine .inl ⟨(g.1,g.2+o),c,cs,g1,(show w0.heap.size<=g.1∨LB L g.1 from hI.base hx g0),by rw[<- hty];exact g4,g2,g3,k2,by rw[hol];simp only;omega,fun j d hj =>?_⟩
        rw[cc]at hj
        split at hj
        ·rw[ae9]
         refine⟨(g8 _ _ hj).1,(g8 _ _ hj).2.less fun b hb =>?_⟩
         rcases hb with hb|rfl
         ·exact .inl hb
         ·exact .inr ⟨x,r,g,hx,hz,g0,rfl⟩
        ·cases hj
       ·have hn:n=0:=by omega
        have hc0:c=0:=by omega
        subst hn hc0
        exact .inr ⟨rfl,by simp,_,g1⟩
      ·exact .inr ⟨rfl,by simp,A,g3⟩
     ·cases he
    ·cases he
   ·cases he
  ·rename_i nl tg xs ht
   rw[ht]at hsl
   split at he
   ·rename_i hnt
    simp only[aeX,Prod.mk.injEq]at he
    obtain⟨rfl,rfl⟩:=he
    refine⟨rfl,a.tmps.getD i undef,_,_,_,_,rfl,nS hrs,.inr ⟨rfl,rfl,?_⟩⟩
    have hr:RP w (Own M s.h blk) (.sl nl tg 0 xs) (a.tmps.getD i undef):=hsl
    generalize a.tmps.getD i undef=u at *
    cases hr with
    | sl A c nl tight n xs us h1 h2 h3 h4 h5 h6 h7 h8 =>
     have hc:c=0:=by
      exact h5 hnt
     subst hc
     exact⟨A,rfl⟩
   ·cases he
  ·cases he
 ·cases he
theorem zb {args:List D} {vs:Array Value} {n i:Nat} (hs:vs.size=args.length):(vs++Array.replicate (n-vs.size) undef).getD i undef=vs.getD i undef∨args.getD i .und=.und:=by
 by_cases hi:i<args.length
 ·left
  have:i<vs.size:=by omega
  simp[aeT,agr this]
 ·right
  simp[List.getD,agk (ags hi)]
theorem B9 {h:Nat->Option Row} (hp:∀k r,h k=some r->k<2*PK∧r.mp=false):EH h=h:=by
 funext k
 by_cases hk:k<2*PK
 ·rw[tN hk]
  cases hh:h k with
  | none=>rfl
  | some r =>
   simp only[Option.map_some,B7,(hp k r hh).2]
   rfl
 ·have h1:h k=none:=by
   cases hh:h k with
   | none=>rfl
   | some r=>exact absurd (hp k r hh).1 hk
  rw[h1]
  unfold EH
  rw[if_neg hk]
  cases hh:h (k % PK) with
  | none=>rfl
  | some r =>
   simp only[Option.bind_some,rl,(hp _ r hh).2]
   rfl
theorem lH (hT:kq P T) (hΓ:bq P Γ) (hm:P.follows .mixedOrders=true) {mode:Mode} {f:FuncId} {fn:Func} {F:Nat} {lent:Option (D×Row)} {args:List D} {rk:RK} {out:Option Row} (hf:P.funcs[f]? = some fn)
  (hok:(match fn.body with|some c=>codeOk c|none=>true)=true) (hn:HN lent args<=fn.ntmps) (hlo:J8 lent=true)
  (hr:a6 mode T Γ F fn lent args=some (rk,out)):qF P f lent args rk out:=by
 unfold a6 at hr
 split at hr<;>try (cases hr;done)
 rename_i c hc
 rw[hc]at hok
 simp only at hok
 split at hr<;>try (cases hr;done)
 rename_i hbig
 split at hr<;>try (cases hr;done)
 rename_i x s hne hv
 cases lent with
 | none =>
  intro w M vs hM hargs
  have hI:Inv fn.ntmps M none w (fun _=>none) (fun x v=>x<fn.ntmps∧v<0) (bY none args).t (bY none args).h { tmps:=vs++Array.replicate (fn.ntmps-vs.size) undef,defers:=[] } w:={
   tab:=fun b hb=>(hargs.tab b hb).less fun b hb=>by
    rcases hb with hb|⟨x,r,g,hx,_⟩
    ·exact hb
    ·cases hx
   below:=dp.refl _ _
   mlt:=hM
   lent:=fun b hb=>absurd hb vk
   pin:=fun go hg=>by cases hg
   defers:=rfl
   tsz:=by have:=hargs.1;simp only[HN]at hn;simp;omega
   slots:=fun i=>by
    simp only[bY]
    rcases zb (n:=fn.ntmps) (i:=i) hargs.1 with he|he
    ·rw[he]
     by_cases hi:i<args.length
     ·have h1:=hargs.2 i _ (ae1 hi)
      have e1:args.getD i .und=args[i]:=by simp[List.getD,hi]
      rw[e1]
      exact bD (h1.less fun b hb=>by
       rcases hb with hb|⟨x,r,g,hx,_⟩
       ·exact hb
       ·cases hx)
     ·have e1:args.getD i .und=.und:=by simp[List.getD,agk (ags hi)]
      rw[e1]
      trivial
    ·rw[he];trivial
   rows:=fun x r hx=>by cases hx
   inj:=fun x y r s g g' hx=>by cases hx
   big:=hbig
   pha:=fun y r g hy=>by cases hy
   ali:=fun y r g hy=>by cases hy }
  apply calls_of_wp hf hc
  refine qD hT hΓ hm c (bY none args) x s _ _ _ hv hok ⟨_,⟨(by rw[B9 (fun k r hk=>by cases hk)];exact hI.weaken fun x v hx=>absurd hx.2 (Nat.not_lt_zero _)),fun x r ty s nv cs hx=>by cases hx⟩⟩ (fun a' w' hH =>?_)
  obtain⟨blk',hIE⟩:=hH
  obtain⟨sE,hsE⟩:∃sE:St,sE=⟨s.t,EH s.h,s.e⟩:=⟨_,rfl⟩
  have hI':Inv fn.ntmps M none w blk' (VE fn.ntmps s.e [] s.h) sE.t sE.h a' w':=by rw[hsE];exact hIE.inv
  rw[<- hsE]at hr
  have hbel:Below w.heap.size w w':=hI'.below.below (fun b hb=>absurd hb vk)
  have hpost:a'.defers=[]∧∃v,(results fn a'.tmps).run P w'=.ok v w'∧(∃v',Ending.returned v=.returned v'∧Below w.heap.size w w'∧Cc w w' M (fun _=>False) v' rk):=by
   refine⟨hI'.defers,?_⟩
   cases mode with
   | clean =>
    simp only[iP,uv,mf]at hr
    split at hr<;>try (cases hr;done)
    rename_i ds fr o hres ho
    split at hr<;>try (cases hr;done)
    simp only[aeX,Prod.mk.injEq]at hr
    obtain⟨rfl,_⟩:=hr
    obtain⟨v,hv1,hv2⟩:=uW (P:=P) hT hI' hres (hI'.acM fr)
    exact⟨v,hv1,v,rfl,hbel,hv2⟩
   | same =>
    simp only[iP,B0,mf]at hr
    split at hr<;>try (cases hr;done)
    split at hr
    ·rename_i hq;cases hq
    ·cases hr
   | tight =>
    simp only[iP,DA]at hr
    split at hr<;>try (cases hr;done)
    rename_i i _ hrs
    have hsl:=hI'.slots i
    generalize sE.t i=dd at *
    unfold vx at hr
    split at hr<;>try (cases hr;done)
    rename_i nl tg n xs
    simp only[aeX,Prod.mk.injEq]at hr
    obtain⟨rfl,_⟩:=hr
    have hsl':RP w' (Own M sE.h blk') (.sl nl tg n xs) (a'.tmps.getD i undef):=hsl
    exact⟨a'.tmps.getD i undef,nS hrs,_,rfl,hbel,hsl'.less fun b hb =>.inl hb⟩
   | fresh ty0 s0 =>
    obtain⟨rfl,v,ty,sz,n,cells,rfl,hv1,hv2⟩:=hI'.qY (P:=P) hr
    refine⟨v,hv1,v,rfl,hbel,?_⟩
    rcases hv2 with⟨g,k1,cs,k2,k3,k4⟩|hv2
    ·exact .inl ⟨g,k1,cs,k2,k3.imp id (fun hb=>absurd hb vk),k4⟩
    ·exact .inr hv2
  cases x with
  | normal=>exact hpost
  | ret=>exact hpost
  | exit n=>exact (hne n rfl).elim
 | some p =>
  obtain⟨d0,r⟩:=p
  intro w M go u0 vs hM hgoM hz hmp hrow hlv hargs
  have hown:∀b,Own M (bY (some (d0,r)) args).h (fun x=>if x=0 then go else none) b↔(M b∨tz go b):=by
   intro b
   constructor
   ·rintro (hb|⟨x,r',g,hx,_,hg,he⟩)
    ·exact .inl hb
    ·simp only[bY]at hx
     split at hx
     ·rename_i h0
      subst h0
      simp only[if_true]at hg
      exact .inr ⟨g,hg,he.symm⟩
     ·cases hx
   ·rintro (hb|⟨g,hg,he⟩)
    ·exact .inl hb
    ·exact .inr ⟨0,{ r with v:=0 },g,rfl,hz,by simpa using hg,he.symm⟩
  have hI:Inv fn.ntmps M (JR go) w (fun x=>if x=0 then go else none) (fun x v=>x<fn.ntmps∧v<1) (bY (some (d0,r)) args).t (bY (some (d0,r)) args).h { tmps:=(#[u0]++vs)++Array.replicate (fn.ntmps-(#[u0]++vs).size) undef,defers:=[] } w:={
   tab:=fun b hb=>(hargs.tab b hb).less fun b hb=>(hown b).1 hb
   below:=dp.refl _ _
   mlt:=hM
   lent:=fun b hb=>hgoM b (Jb.1 hb)
   pin:=fun go' hg=>by
    cases hg
    exact⟨⟨by simp only[HN]at hn;omega,agt⟩,fun r' _ _=>⟨rfl,fun g _=>rfl⟩⟩
   defers:=rfl
   tsz:=by have:=hargs.1;simp only[HN]at hn;simp;omega
   slots:=fun i=>by
    simp only[bY]
    rcases zb (args:=d0::args) (vs:=#[u0]++vs) (n:=fn.ntmps) (i:=i) (by simp[hargs.1];omega) with he|he
    ·rw[he]
     cases i with
     | zero =>
      have e1:(#[u0]++vs).getD 0 undef=u0:=by simp[Array.getElem?_append]
      rw[e1]
      simp only[afX]
      cases d0 with
      | buf x v sz o n =>
       have hxv:x=0∧v=0:=by
        simp only[J8]at hlo
        split at hlo<;>simp_all
       obtain⟨rfl,rfl⟩:=hxv
       exact⟨⟨by simp only[HN]at hn;omega,agt⟩,fun r' h1 h2=>by simpa using hlv.2 ⟨0,0,[],false,false,false⟩ rfl rfl⟩
      | ptr x v o =>
       have hxv:x=0∧v=0:=by
        simp only[J8]at hlo
        split at hlo<;>simp_all
       obtain⟨rfl,rfl⟩:=hxv
       exact⟨⟨by simp only[HN]at hn;omega,agt⟩,fun r' h1 h2=>by simpa using hlv.2 ⟨0,0,[],false,false,false⟩ rfl rfl⟩
      | _=>simp[J8]at hlo
     | succ i =>
      have e1:(#[u0]++vs).getD (i+1) undef=vs.getD i undef:=by
       simp only[aeT]
       rw[Array.getElem?_append_right (by simp)]
       simp
      rw[e1]
      simp only[List.getD_cons_succ]
      by_cases hi:i<args.length
      ·have h1:=hargs.2 i _ (ae1 hi)
       have e1:args.getD i .und=args[i]:=by simp[List.getD,hi]
       rw[e1]
       exact bD (h1.less fun b hb=>(hown b).1 hb)
      ·have e1:args.getD i .und=.und:=by simp[List.getD,agk (ags hi)]
       rw[e1]
       trivial
    ·rw[he];trivial
   rows:=fun x r' hx=>by
    simp only[bY]at hx
    split at hx
    ·rename_i h0
     subst h0
     simp only[aeX]at hx
     subst hx
     refine⟨fun hn=>⟨hn,agt⟩,?_⟩
     simp only[if_true]
     cases go with
     | none=>exact hrow
     | some g =>
      obtain⟨cs,k1,k2,k3⟩:=hrow
      refine⟨.inr (Jb.2 ⟨g,rfl,rfl⟩),?_⟩
      unfold dM
      simp only[hmp]
      exact⟨cs,k1,k2,fun j d hj=>⟨(k3 j d hj).1,(k3 j d hj).2.less fun b hb=>(hown b).1 hb⟩⟩
    ·cases hx
   inj:=fun x y r1 r2 g g' hx hy _ _ _=>by
    simp only[bY]at hx hy
    split at hx
    ·split at hy
     ·omega
     ·cases hy
    ·cases hx
   big:=hbig
   pha:=fun y r1 g hy hm=>by
    simp only[bY]at hy
    split at hy
    ·simp only[aeX]at hy
     subst hy
     simp_all
    ·cases hy
   ali:=fun y r1 g hy hz1=>by
    simp only[bY]at hy
    split at hy
    ·simp only[aeX]at hy
     subst hy
     simp_all
    ·cases hy }
  have hplain:EH (bY (some (d0,r)) args).h=(bY (some (d0,r)) args).h:=by
   refine B9 fun k r' hk =>?_
   simp only[bY]at hk
   split at hk
   ·rename_i h0
    subst h0
    simp only[aeX]at hk
    subst hk
    exact⟨(by have:=cO;omega),hmp⟩
   ·cases hk
  have hnv0:Fs (bY (some (d0,r)) args).e [] (bY (some (d0,r)) args).h:=by
   intro x r' ty s nv cs hx hm'
   simp only[bY]at hx
   split at hx
   ·simp only[aeX]at hx
    subst hx
    simp only[hmp]at hm'
    cases hm'
   ·cases hx
  apply calls_of_wp hf hc
  refine qD hT hΓ hm c (bY (some (d0,r)) args) x s _ _ _ hv hok ⟨_,⟨(by rw[hplain];exact hI.weaken fun x v hx =>.inl ⟨hx.1,.inl hx.2⟩),hnv0⟩⟩ (fun a' w' hH =>?_)
  obtain⟨blk',hIE⟩:=hH
  obtain⟨sE,hsE⟩:∃sE:St,sE=⟨s.t,EH s.h,s.e⟩:=⟨_,rfl⟩
  have hI':Inv fn.ntmps M (JR go) w blk' (VE fn.ntmps s.e [] s.h) sE.t sE.h a' w':=by rw[hsE];exact hIE.inv
  rw[<- hsE]at hr
  have hbel:dp (tz go) w w':=⟨hI'.below.os,hI'.below.tape,hI'.below.output,hI'.below.size,fun k hk hn=>hI'.below.block k hk (fun hb=>hn (Jb.1 hb))⟩
  have hlast:∀r1,mf (some (d0,r)) sE=some (some r1)->sE.h 0=some r1∧r1.v=0∧r1.fz=false∧(r1.ty=r.ty∧r1.mp=false)∧blk' 0=go∧(∀g,go=some g->w'.shape? g.1=w.shape? g.1)∧(∀b,(M b∨tz go b)->Own M sE.h blk' b):=by
   intro r1 hl
   simp only[mf]at hl
   split at hl<;>try (cases hl;done)
   rename_i r2 h2
   split at hl<;>try (cases hl;done)
   rename_i hcond
   simp only[aeX]at hl
   subst hl
   obtain⟨c1,c2,c3⟩:=hcond
   obtain⟨_,k2⟩:=hI'.pin _ rfl
   obtain⟨k3,k4⟩:=k2 r2 h2 c1
   refine⟨h2,c1,c2,c3,k3,k4,?_⟩
   rintro b (hb|⟨g,hg,he⟩)
   ·exact .inl hb
   ·exact .inr ⟨0,r2,g,h2,c2,k3.trans hg,he.symm⟩
  have hrowin:∀r1,mf (some (d0,r)) sE=some (some r1)->RZ w' (fun b=>M b∨tz go b) go r1:=by
   intro r1 hl
   obtain⟨h1,_,_,h4,h5,_,h7⟩:=hlast r1 hl
   have:=(hI'.rows 0 r1 h1).2
   rw[h5]at this
   cases go with
   | none=>exact this
   | some g =>
    have this:=this.2
    unfold dM at this
    rw[h4.2]at this
    obtain⟨cs,k1,k2,k3⟩:=this
    exact⟨cs,k1,k2,fun j d hj=>⟨(k3 j d hj).1,(k3 j d hj).2.less h7⟩⟩
  have hpost:a'.defers=[]∧∃v,(results fn a'.tmps).run P w'=.ok v w'∧(∃v',Ending.returned v=.returned v'∧dp (tz go) w w'∧aau w w' M go r out∧aaw w w' M go v' rk):=by
   refine⟨hI'.defers,?_⟩
   cases mode with
   | clean =>
    simp only[iP,uv]at hr
    split at hr<;>try (cases hr;done)
    rename_i ds fr o hres ho
    split at hr<;>try (cases hr;done)
    rename_i hfr
    simp only[ZY,afq,List.contains_eq_mem,decide_eq_false_iff_not]at hfr
    simp only[aeX,Prod.mk.injEq]at hr
    obtain⟨rfl,rfl⟩:=hr
    cases o with
    | none =>
     simp only[mf]at ho
     split at ho<;>try (cases ho;done)
     split at ho<;>cases ho
    | some r1 =>
     obtain⟨h1,h2,h3,h4,h5,h6,h7⟩:=hlast r1 ho
     have hless:ot M sE.h blk' fr (fun b=>M b∨tz go b):=by
      refine⟨h7,fun x hx r' g hx' hg hb =>?_⟩
      rcases hb with hb|⟨g',hg',he⟩
      ·exact hI'.notM hx' hg hb
      ·have:x=0:=hI'.inj x 0 r' r1 g g' hx' h1 hg (h5.trans hg') he
       subst this
       exact hfr hx
     obtain⟨v,hv1,hv2⟩:=uW (P:=P) hT hI' hres hless
     exact⟨v,hv1,v,rfl,hbel,⟨h4.1,h3,h4.2,h6,hrowin r1 ho⟩,hv2⟩
   | same =>
    simp only[iP,B0]at hr
    split at hr<;>try (cases hr;done)
    rename_i i hrs
    split at hr<;>try (cases hr;done)
    rename_i sz o n r1 ht ho
    simp only[aeX,Prod.mk.injEq]at hr
    obtain⟨rfl,rfl⟩:=hr
    obtain⟨h1,h2,h3,h4,h5,h6,h7⟩:=hlast r1 ho
    refine⟨a'.tmps.getD i undef,nS hrs,_,rfl,hbel,⟨h4.1,h3,h4.2,h6,hrowin r1 ho⟩,?_⟩
    have hsl:=hI'.slots i
    rw[ht]at hsl
    refine⟨trivial,fun r' _ _ =>?_⟩
    have:=hsl.2 r1 h1 h2
    rw[h5]at this
    exact this
   | tight =>
    simp only[iP,DA]at hr
    cases hr
   | fresh ty0 s0 =>
    obtain⟨rfl,v,ty,sz,n,cells,rfl,hv1,hv2⟩:=hI'.qY (P:=P) hr
    refine⟨v,hv1,v,rfl,hbel,trivial,?_⟩
    rcases hv2 with⟨g,k1,cs,k2,k3,k4⟩|hv2
    ·exact .inl ⟨g,k1,cs,k2,k3.imp id (fun hb=>Jb.1 hb),k4⟩
    ·exact .inr hv2
  cases x with
  | normal=>exact hpost
  | ret=>exact hpost
  | exit n=>exact (hne n rfl).elim
def ext (Γ:Env) (f:Nat) (l:Bool) (G:Option (D×Row)->List D->Option (RK×Option Row)):Env:=⟨fun g=>if g=f then l else Γ.lends g,fun g lent aeJ=>if g=f then G lent aeJ else Γ.sem g lent aeJ,Γ.own,Γ.hint,Γ.ins,Γ.grw,Γ.nst,Γ.nx⟩
theorem bq.ext (hΓ:bq P Γ) {f:Nat} {l:Bool} {G:Option (D×Row)->List D->Option (RK×Option Row)} (hG:∀lent aeJ rk out,G lent aeJ=some (rk,out)->qF P f lent aeJ rk out) (hc:dx P f):bq P (Am.ext Γ f l G):=by
 refine⟨fun g lent aeJ rk out h =>?_,hΓ.ins,hΓ.grw,hΓ.lnd,hΓ.res⟩
 simp only[Am.ext]at h
 split at h
 ·rename_i he;subst he;exact⟨hG lent aeJ rk out h,hc⟩
 ·exact hΓ.calls g lent aeJ rk out h
def aY:Env:=⟨fun _=>false,fun _ _ _=>none,fun _=>true,fun _=>none,fun _=>none,fun _=>none,fun _=>none,{}⟩
theorem bq.none:bq P aY:=⟨fun f lent args rk out h=>(by cases h),fun f p h=>(by cases h),fun f p h=>(by cases h),fun f p h=>(by cases h),fun f p h=>(by cases h)⟩
def keep (d:Nat) (Γ:Env):Env:=⟨Γ.lends,Γ.sem,fun i=>i != d&&Γ.own i,Γ.hint,Γ.ins,Γ.grw,Γ.nst,Γ.nx⟩
theorem bq.keep (hΓ:bq P Γ) (d:Nat):bq P (Am.keep d Γ):=⟨hΓ.calls,hΓ.ins,hΓ.grw,hΓ.lnd,hΓ.res⟩
def wS (d y:Nat) (Γ:Env):Env:=⟨Γ.lends,Γ.sem,Γ.own,fun i=>if i=d then some y else Γ.hint i,Γ.ins,Γ.grw,Γ.nst,Γ.nx⟩
def zU (f:Nat) (p:Nat×Nat×Nat) (Γ:Env):Env:=⟨Γ.lends,Γ.sem,Γ.own,Γ.hint,fun g=>if g=f then some p else Γ.ins g,Γ.grw,Γ.nst,Γ.nx⟩
theorem bq.zU (hΓ:bq P Γ) {f:Nat} {p:Nat×Nat×Nat} (hi:VT P f p):bq P (Am.zU f p Γ):=⟨hΓ.calls,fun g q h=>by
 simp only[Am.zU]at h
 split at h
 ·rename_i he;subst he;cases h;exact hi
 ·exact hΓ.ins g q h,hΓ.grw,hΓ.lnd,hΓ.res⟩
def yJ (d:Nat) (p:Nat×Nat×Nat) (Γ:Env):Env:=⟨Γ.lends,Γ.sem,Γ.own,Γ.hint,Γ.ins,Γ.grw,fun i=>if i=d then some p else Γ.nst i,Γ.nx⟩
theorem bq.yJ (hΓ:bq P Γ) (d:Nat) (p:Nat×Nat×Nat):bq P (Am.yJ d p Γ):=⟨hΓ.calls,hΓ.ins,hΓ.grw,hΓ.lnd,hΓ.res⟩
def oL (f:Nat) (p:Nat×(Nat->Nat->Nat->Nat->List D->List D->Option (D×List D))) (Γ:Env):Env:=⟨Γ.lends,Γ.sem,Γ.own,Γ.hint,Γ.ins,Γ.grw,Γ.nst,⟨fun g=>if g=f then some p else Γ.nx.lnd g,Γ.nx.res⟩⟩
theorem bq.oL (hΓ:bq P Γ) {f:Nat} {p:Nat×(Nat->Nat->Nat->Nat->List D->List D->Option (D×List D))} (hc:dx P f) (hi:∀ty t s o cs args d cs',p.2 ty t s o cs args=some (d,cs')->I9 P f ty t s o cs args d cs'):bq P (Am.oL f p Γ):=⟨hΓ.calls,hΓ.ins,hΓ.grw,fun g q h=>by
 simp only[Am.oL]at h
 split at h
 ·rename_i he;subst he;cases h;exact⟨hc,hi⟩
 ·exact hΓ.lnd g q h,hΓ.res⟩
def yI (f:Nat) (p:List D->Option (Nat×Nat×Nat×Nat×Nat×List D)) (Γ:Env):Env:=⟨Γ.lends,Γ.sem,Γ.own,Γ.hint,Γ.ins,Γ.grw,Γ.nst,⟨Γ.nx.lnd,fun g=>if g=f then some p else Γ.nx.res g⟩⟩
theorem bq.yI (hΓ:bq P Γ) {f:Nat} {p:List D->Option (Nat×Nat×Nat×Nat×Nat×List D)} (hc:dx P f) (hi:∀args ty t s S n cs,p args=some (ty,t,s,S,n,cs)->I8 P f args ty t s S n cs):bq P (Am.yI f p Γ):=⟨hΓ.calls,hΓ.ins,hΓ.grw,hΓ.lnd,fun g q h=>by
 simp only[Am.yI]at h
 split at h
 ·rename_i he;subst he;cases h;exact⟨hc,hi⟩
 ·exact hΓ.res g q h⟩
def DN (f:Nat) (p:Grow) (Γ:Env):Env:=⟨Γ.lends,Γ.sem,Γ.own,Γ.hint,Γ.ins,fun g=>if g=f then some p else Γ.grw g,Γ.nst,Γ.nx⟩
end
def pQ (ty t s o:Nat) (cs args:List D):St:=⟨fun i=>(.ptr 0 0 o::args).getD i .und,mA (gO ty t s 0 cs),1⟩
def Xa (t s:Nat) (ds:List D):List D->Option (D×List D)
 | [.nr t' s' _ cs']=>if t'=t∧s'=s then some (m9 ds,cs') else none
 | _=>none
def Mm (ty t s:Nat):Option (List D×List Nat)->Option Row->Option (D×List D)
 | some (ds,fr),some r=>if r.v=0∧r.fz=false∧r.ty=ty∧r.mp=true∧fr.all (fun k=>rt k != 0)=true then Xa t s ds r.cells else none
 | _,_=>none
def UJ (T:Nat->Option Ty) (ty t s:Nat) (rs:List ResultVar) (st:St):Option (D×List D):=Mm ty t s (uT T ⟨st.t,EH st.h,st.e⟩ rs) (st.h 0)
def sV (T:Nat->Option Ty) (Γ:Env) (F:Nat) (fn:Func) (ty t s o:Nat) (cs args:List D):Option (D×List D) :=
 match fn.body with
 | some c =>
  if fn.ntmps<=PK then
   match gz T Γ fn.ntmps F c (pQ ty t s o cs args) with
   | some (.exit _,_)=>none
   | some (_,st)=>UJ T ty t s fn.results.toList st
   | none=>none
  else none
 | none=>none
def W9 (x S n:Nat) (ty:Nat):List D->Option (Nat×Nat×Nat×Nat×Nat×List D)
 | [.nr t s _ cs]=>if x<PK then some (ty,t,s,S,n,cs) else none
 | _=>none
def Mk (x v S n:Nat):Option Row->Option (Nat×Nat×Nat×Nat×Nat×List D)
 | some r=>if r.v=v∧r.fz=false∧r.mp=true then W9 x S n r.ty r.cells else none
 | none=>none
def SP (h:Nat->Option Row):D->Option (Nat×Nat×Nat×Nat×Nat×List D)
 | .buf x v S 0 n=>Mk x v S n (h x)
 | _=>none
def UI (rs:List ResultVar) (st:St):Option (Nat×Nat×Nat×Nat×Nat×List D) :=
 match rs with
 | [.tmp i]=>SP st.h (st.t i)
 | _=>none
def xH (T:Nat->Option Ty) (Γ:Env) (F:Nat) (fn:Func) (args:List D):Option (Nat×Nat×Nat×Nat×Nat×List D) :=
 match fn.body with
 | some c =>
  if fn.ntmps<=PK then
   match gz T Γ fn.ntmps F c (bY none args) with
   | some (.exit _,_)=>none
   | some (_,st)=>UI fn.results.toList st
   | none=>none
  else none
 | none=>none
section
variable {P:Program} {T:Nat->Option Ty} {N:Nat} {M:Nat->Prop} {L:ky} {w0:World} {blk:Nat->Option (Nat×Nat)} {a:Act} {w:World} {Γ:Env}
theorem KE (hT:kq P T) (hΓ:bq P Γ) (hm:P.follows .mixedOrders=true) {f:FuncId} {fn:Func} {F:Nat} {ty t s o:Nat} {cs args cs':List D} {d:D} (hf:P.funcs[f]? = some fn)
  (hok:(match fn.body with|some c=>codeOk c|none=>true)=true) (hn:args.length+1<=fn.ntmps)
  (hr:sV T Γ F fn ty t s o cs args=some (d,cs')):I9 P f ty t s o cs args d cs':=by
 unfold sV at hr
 split at hr<;>try (cases hr;done)
 rename_i c hc
 rw[hc]at hok
 simp only at hok
 split at hr<;>try (cases hr;done)
 rename_i hbig
 split at hr<;>try (cases hr;done)
 rename_i x st hne hv
 intro w M blk h0 h1 g0 vs hh0 hh1 hM hdis hg0 hR hargs
 have hpk:=cO
 have hfz:∀k r,h0 k=some r->r.fz=false:=by
  intro k r hk
  rw[hh0]at hk
  rcases iU hk with⟨_,rfl⟩|⟨_,_,_,_,_,rfl⟩<;>rfl
 have hown:∀b,Own M h0 blk b↔(M b∨vg blk h0 b):=by
  intro b
  constructor
  ·rintro (hb|⟨k,r,g,h1,_,h2,h3⟩)
   ·exact .inl hb
   ·exact .inr ⟨k,r,g,h1,h2,h3⟩
  ·rintro (hb|⟨k,r,g,h1,h2,h3⟩)
   ·exact .inl hb
   ·exact .inr ⟨k,r,g,h1,hfz k r h1,h2,h3⟩
 have hrow0:h0 0=some ⟨0,ty,cs.mapIdx (qS 0 s),false,true,true⟩:=by rw[hh0];exact uU
 obtain⟨LL,hLL⟩:∃LL:ky,LL=some (some g0,vg blk h0):=⟨_,rfl⟩
 have hLB:∀b,LB LL b↔vg blk h0 b:=by
  intro b
  subst hLL
  constructor
  ·rintro⟨p,hp,h⟩
   cases hp
   rcases h with⟨g,hg,rfl⟩|h
   ·cases hg;exact⟨0,_,g0,hrow0,hg0,rfl⟩
   ·exact h
  ·exact fun h=>⟨_,rfl,.inr h⟩
 have hI:Inv fn.ntmps M LL w blk (fun x v=>x<fn.ntmps∧v<1) (pQ ty t s o cs args).t h0 { tmps:=(#[Value.pointer (some ⟨g0.1,g0.2+o,none⟩)]++vs)++Array.replicate (fn.ntmps-(#[Value.pointer (some ⟨g0.1,g0.2+o,none⟩)]++vs).size) undef,defers:=[] } w:={
  tab:=fun b hb=>(hargs.tab b hb).less fun b hb=>(hown b).1 hb
  below:=dp.refl _ _
  mlt:=hM
  lent:=fun b hb=>hdis b ((hLB b).1 hb)
  pin:=fun p hp=>by
   subst hLL
   cases hp
   exact⟨⟨by omega,agt⟩,fun r' _ _=>⟨hg0,fun g _=>rfl⟩⟩
  defers:=rfl
  tsz:=by have:=hargs.1;simp;omega
  slots:=fun i=>by
   simp only[pQ]
   rcases zb (args := .ptr 0 0 o::args) (vs:=#[.pointer (some ⟨g0.1,g0.2+o,none⟩)]++vs) (n:=fn.ntmps) (i:=i) (by simp[hargs.1];omega) with he|he
   ·rw[he]
    cases i with
    | zero =>
     have e1:(#[Value.pointer (some ⟨g0.1,g0.2+o,none⟩)]++vs).getD 0 undef=.pointer (some ⟨g0.1,g0.2+o,none⟩):=by simp[Array.getElem?_append]
     rw[e1]
     simp only[afX]
     exact⟨⟨by omega,agt⟩,fun r' _ _=>⟨g0,hg0,rfl⟩⟩
    | succ i =>
     have e1:(#[Value.pointer (some ⟨g0.1,g0.2+o,none⟩)]++vs).getD (i+1) undef=vs.getD i undef:=by
      simp only[aeT]
      rw[Array.getElem?_append_right (by simp)]
      simp
     rw[e1]
     simp only[List.getD_cons_succ]
     by_cases hi:i<args.length
     ·have h1:=hargs.2 i _ (ae1 hi)
      have e1:args.getD i .und=args[i]:=by simp[List.getD,hi]
      rw[e1]
      exact bD (h1.less fun b hb=>(hown b).1 hb)
     ·have e1:args.getD i .und=.und:=by simp[List.getD,agk (ags hi)]
      rw[e1]
      trivial
   ·rw[he];trivial
  rows:=fun k r hk=>by
   refine⟨fun hn =>?_,?_⟩
   ·rw[hh0]at hk
    rcases iU hk with⟨rfl,rfl⟩|⟨o',_,_,rfl,_,rfl⟩
    ·exact⟨hn,agt⟩
    ·have:=gq 0 o';omega
   ·have:=hR.rows k r hk
    cases hg:blk k with
    | none=>rw[hg]at this;exact this
    | some g =>
     rw[hg]at this
     exact⟨.inr ((hLB g.1).2 ⟨k,r,g,hk,hg,rfl⟩),this.keep rfl rfl rfl rfl fun b q1 q2=>⟨q1,fun hb=>q2 ((hown b).1 hb),rfl⟩⟩
  inj:=hR.inj
  big:=hbig
  pha:=hR.pha
  ali:=fun y r g hy hz=>by rw[hfz y r hy]at hz;cases hz }
 have hnv0:Fs (pQ ty t s o cs args).e [] (pQ ty t s o cs args).h:=by
  intro k r' ty' s' nv' cs1 hx hm' hcc
  simp only[pQ,mA]at hx
  split at hx
  ·simp only[aeX]at hx
   subst hx
   simp only[gO,afc,D.nr.injEq,and_true]at hcc
   obtain⟨_,_,rfl,_⟩:=hcc
   exact fun _=>⟨by simp[pQ],fun _=>by simp[pQ]⟩
  ·cases hx
 have hEH:EH (pQ ty t s o cs args).h=h0:=hh0.symm
 apply calls_of_wp hf hc
 refine qD hT hΓ hm c (pQ ty t s o cs args) x st _ _ _ hv hok ⟨_,⟨(by rw[hEH];exact hI.weaken fun x v hx=>Or.inl ⟨hx.1,Or.inl hx.2⟩),hnv0⟩⟩ (fun a' w' hH =>?_)
 obtain⟨blk',hIE⟩:=hH
 have hI':=hIE.inv
 unfold UJ Mm at hr
 split at hr<;>try (cases hr;done)
 rename_i ds fr r1 hres hr1
 split at hr<;>try (cases hr;done)
 rename_i hcond
 obtain⟨c1,c2,c3,c4,c5⟩:=hcond
 unfold Xa at hr
 split at hr<;>try (cases hr;done)
 rename_i t' s' nv' cs1 hcells
 split at hr<;>try (cases hr;done)
 rename_i hts
 obtain⟨rfl,rfl⟩:=hts
 simp only[aeX,Prod.mk.injEq]at hr
 obtain⟨rfl,rfl⟩:=hr
 have hE0:=gp hr1 c4 hcells mN
 obtain⟨p1,p2⟩:=(hI'.pin (some g0,vg blk h0) hLL).2 _ hE0 c1
 have hIB:=Ja (blk:=blk') hr1 c4 hcells mN
 rw[c3]at hIB
 have hQ:∀b,(M b∨vg (pW blk' 0) h1 b)->Own M (EH st.h) blk' b:=by
  rintro b (hb|hb)
  ·exact .inl hb
  ·rw[hh1]at hb
   obtain⟨k,r',g',q0,q1,q2,q3⟩:=(hIB b).1 hb
   refine .inr ⟨k,r',g',q1,?_,q2,q3⟩
   rcases dL hr1 c4 hcells mN q0 q1 with⟨_,rfl⟩|⟨_,_,_,_,_,rfl⟩<;>exact c2
 have hless:ot M (EH st.h) blk' fr (fun b=>M b∨vg (pW blk' 0) h1 b):=by
  refine⟨hQ,fun k hk r' g hk1 hg hb =>?_⟩
  rcases hb with hb|hb
  ·exact hI'.notM hk1 hg hb
  ·rw[hh1]at hb
   obtain⟨l,r2,g',q0,q1,q2,q3⟩:=(hIB _).1 hb
   have:=hI'.inj k l r' r2 g g' hk1 q1 hg q2 q3.symm
   subst this
   have:=aeZ.1 c5 _ hk
   simp[q0]at this
 obtain⟨v,hv1,hv2⟩:=uW (P:=P) (s:=⟨st.t,EH st.h,st.e⟩) hT hI' hres hless
 have hlend:=hI'.abM hr1 c4 hcells c2 mN hQ
 rw[c3,<- hh1]at hlend
 have hpost:a'.defers=[]∧∃v,(results fn a'.tmps).run P w'=.ok v w'∧(∃v' blk1,Ending.returned v=.returned v'∧dp (vg blk h0) w w'∧blk1 0=some g0∧w'.shape? g0.1=w.shape? g0.1∧(∀b,vg blk1 h1 b->w.heap.size<=b∨vg blk h0 b)∧F8 w' (fun b=>M b∨vg blk1 h1 b) blk1 h1∧RP w' (fun b=>M b∨vg blk1 h1 b) (m9 ds) v'):=by
  refine⟨hI'.defers,v,hv1,v,pW blk' 0,rfl,⟨hI'.below.os,hI'.below.tape,hI'.below.output,hI'.below.size,fun k hk hn=>hI'.below.block k hk fun hb=>hn ((hLB k).1 hb)⟩,by rw[pW,qM];exact p1,p2 g0 rfl,fun b hb =>?_,hlend,hv2⟩
  rw[hh1]at hb
  obtain⟨k,r',g',q0,q1,q2,q3⟩:=(hIB b).1 hb
  rcases hI'.base q1 q2 with q|q
  ·exact .inl (by omega)
  ·exact .inr (by rw[<- q3];exact (hLB _).1 q)
 cases x with
 | normal=>exact hpost
 | ret=>exact hpost
 | exit n=>exact (hne n rfl).elim
theorem aea (hT:kq P T) (hΓ:bq P Γ) (hm:P.follows .mixedOrders=true) {f:FuncId} {fn:Func} {F:Nat} {args:List D} {c:Code} {x:Ex} {st:St} (hf:P.funcs[f]? = some fn) (hc:fn.body=some c) (hok:codeOk c=true) (hn:args.length<=fn.ntmps) (hbig:fn.ntmps<=PK)
  (hv:gz T Γ fn.ntmps F c (bY none args)=some (x,st)) (hne:∀n,x ≠ .exit n) {w:World} {M:Nat->Prop} {vs:Array Value} (hM:∀b,M b->b<w.heap.size) (hargs:Av w M args vs) {Φ:Ending->World->Prop}
  (hk:∀a' w' blk',Inv fn.ntmps M none w blk' (VE fn.ntmps st.e [] st.h) st.t (EH st.h) a' w'->∃v,(results fn a'.tmps).run P w'=.ok v w'∧Φ (.returned v) w'):Calls P f vs w Φ:=by
 have hI:Inv fn.ntmps M none w (fun _=>none) (fun x v=>x<fn.ntmps∧v<0) (bY none args).t (bY none args).h { tmps:=vs++Array.replicate (fn.ntmps-vs.size) undef,defers:=[] } w:={
  tab:=fun b hb=>(hargs.tab b hb).less fun b hb=>by
   rcases hb with hb|⟨x,r,g,hx,_⟩
   ·exact hb
   ·cases hx
  below:=dp.refl _ _
  mlt:=hM
  lent:=fun b hb=>absurd hb vk
  pin:=fun go hg=>by cases hg
  defers:=rfl
  tsz:=by have:=hargs.1;simp;omega
  slots:=fun i=>by
   simp only[bY]
   rcases zb (n:=fn.ntmps) (i:=i) hargs.1 with he|he
   ·rw[he]
    by_cases hi:i<args.length
    ·have h1:=hargs.2 i _ (ae1 hi)
     have e1:args.getD i .und=args[i]:=by simp[List.getD,hi]
     rw[e1]
     exact bD (h1.less fun b hb=>by
      rcases hb with hb|⟨x,r,g,hx,_⟩
      ·exact hb
      ·cases hx)
    ·have e1:args.getD i .und=.und:=by simp[List.getD,agk (ags hi)]
     rw[e1]
     trivial
   ·rw[he];trivial
  rows:=fun x r hx=>by cases hx
  inj:=fun x y r s g g' hx=>by cases hx
  big:=hbig
  pha:=fun y r g hy=>by cases hy
  ali:=fun y r g hy=>by cases hy }
 apply calls_of_wp hf hc
 refine qD hT hΓ hm c (bY none args) x st _ _ _ hv hok ⟨_,⟨(by rw[B9 (fun k r hk=>by cases hk)];exact hI.weaken fun x v hx=>absurd hx.2 (Nat.not_lt_zero _)),fun x r ty s nv cs hx=>by cases hx⟩⟩ (fun a' w' hH =>?_)
 obtain⟨blk',hIE⟩:=hH
 obtain⟨v,h1,h2⟩:=hk a' w' blk' hIE.inv
 have hpost:a'.defers=[]∧∃v,(results fn a'.tmps).run P w'=.ok v w'∧Φ (.returned v) w':=⟨hIE.inv.defers,v,h1,h2⟩
 cases x with
 | normal=>exact hpost
 | ret=>exact hpost
 | exit n=>exact (hne n rfl).elim
theorem Pw {F:Nat} {fn:Func} {args:List D} {ty t s S n:Nat} {cs:List D} (hr:xH T Γ F fn args=some (ty,t,s,S,n,cs)) :
  ∃c x st i k v r nv,fn.body=some c∧fn.ntmps<=PK∧gz T Γ fn.ntmps F c (bY none args)=some (x,st)∧(∀m,x ≠ .exit m)∧fn.results.toList=[.tmp i]∧st.t i=.buf k v S 0 n∧st.h k=some r∧r.v=v∧r.fz=false∧r.mp=true∧k<PK∧r.ty=ty∧r.cells=[.nr t s nv cs]:=by
 unfold xH at hr
 split at hr<;>try (cases hr;done)
 rename_i c hc
 split at hr<;>try (cases hr;done)
 rename_i hbig
 split at hr<;>try (cases hr;done)
 rename_i x st hne hv
 unfold UI at hr
 split at hr<;>try (cases hr;done)
 rename_i i hrs
 unfold SP at hr
 split at hr<;>try (cases hr;done)
 rename_i k v S' n' ht
 unfold Mk at hr
 split at hr<;>try (cases hr;done)
 rename_i r hh
 split at hr<;>try (cases hr;done)
 rename_i hcond
 unfold W9 at hr
 split at hr<;>try (cases hr;done)
 rename_i t' s' nv cs' hcells
 split at hr<;>try (cases hr;done)
 rename_i hk
 simp only[aeX,Prod.mk.injEq]at hr
 obtain⟨h1,h2,h3,h4,h5,h6⟩:=hr
 subst h2 h3 h4 h5 h6
 exact⟨c,x,st,i,k,v,r,nv,hc,hbig,hv,fun m hm=>hne m hm,hrs,ht,hh,hcond.1,hcond.2.1,hcond.2.2,hk,h1,hcells⟩
theorem KD (hT:kq P T) (hΓ:bq P Γ) (hm:P.follows .mixedOrders=true) {f:FuncId} {fn:Func} {F:Nat} {args:List D} {ty t s S n:Nat} {cs:List D} (hf:P.funcs[f]? = some fn)
  (hok:(match fn.body with|some c=>codeOk c|none=>true)=true) (hn:args.length<=fn.ntmps)
  (hr:xH T Γ F fn args=some (ty,t,s,S,n,cs)):I8 P f args ty t s S n cs:=by
 obtain⟨c,x,st,i,k,v,r,nv,hc,hbig,hv,hne,hrs,ht,hh,c1,c2,c3,hk,hty,hcells⟩:=Pw hr
 rw[hc]at hok
 simp only at hok
 intro w M h vs hh0 hM hargs
 refine aea hT hΓ hm hf hc hok hn hbig hv hne hM hargs fun a' w' blk' hI' =>?_
 have hIB:=Ja (blk:=blk') hh c3 hcells hk
 rw[hty,<- hh0]at hIB
 have hbel:Below w.heap.size w w':=hI'.below.below (fun b hb=>absurd hb vk)
 have hQ:∀b,(M b∨vg (pW blk' k) h b)->Own M (EH st.h) blk' b:=by
  rintro b (hb|hb)
  ·exact .inl hb
  ·obtain⟨l,r',g',q0,q1,q2,q3⟩:=(hIB b).1 hb
   refine .inr ⟨l,r',g',q1,?_,q2,q3⟩
   rcases dL hh c3 hcells hk q0 q1 with⟨_,rfl⟩|⟨_,_,_,_,_,rfl⟩<;>exact c2
 have hlend:=hI'.abM hh c3 hcells c2 hk hQ
 rw[hty,<- hh0]at hlend
 have hsl:=hI'.slots i
 rw[ht]at hsl
 refine⟨_,nS hrs,_,pW blk' k,rfl,hbel,fun b hb =>?_,hlend,trivial,fun r' _ _ =>?_⟩
 ·obtain⟨l,r',g',q0,q1,q2,q3⟩:=(hIB b).1 hb
  rcases hI'.base q1 q2 with q|q
  ·omega
  ·exact absurd q vk
 ·rw[pW,qM]
  exact hsl.2 _ (gp hh c3 hcells hk) c1
end
def tab (t:Nat):Option Ty :=
 match t with
 | 2=>some ⟨.int .i64,1,8,[.int .i64 0],false⟩
 | 3=>some ⟨.int .i64,1,8,[.int .i64 0],false⟩
 | 4=>some ⟨.bool,1,1,[.bool false],false⟩
 | 5=>some ⟨.int .u8,1,1,[.int .u8 0],false⟩
 | 9=>some ⟨.str,1,16,[.string ⟨#[]⟩],false⟩
 | 12=>some ⟨.int .u64,1,8,[.int .u64 0],false⟩
 | 21=>some ⟨.int .i32,1,4,[.int .i32 0],false⟩
 | 22=>some ⟨.slice 46,1,24,[.slice none 0 0],false⟩
 | 23=>some ⟨.struct [(3,0),(22,1)],2,32,[.int .i64 0,.slice none 0 0],false⟩
 | 24=>some ⟨.struct [(3,0),(22,1)],2,32,[.int .i64 0,.slice none 0 0],false⟩
 | 25=>some ⟨.slice 41,1,24,[.slice none 0 0],false⟩
 | 30=>some ⟨.int .i64,1,8,[.int .i64 0],false⟩
 | 33=>some ⟨.slice 3,1,24,[.slice none 0 0],false⟩
 | 37=>some ⟨.slice 4,1,24,[.slice none 0 0],false⟩
 | 38=>some ⟨.struct [(3,0),(33,1)],2,32,[.int .i64 0,.slice none 0 0],false⟩
 | 39=>some ⟨.struct [(3,0),(33,1)],2,32,[.int .i64 0,.slice none 0 0],false⟩
 | 40=>some ⟨.struct [(39,0),(39,2)],4,64,[.int .i64 0,.slice none 0 0,.int .i64 0,.slice none 0 0],false⟩
 | 41=>some ⟨.struct [(39,0),(39,2)],4,64,[.int .i64 0,.slice none 0 0,.int .i64 0,.slice none 0 0],false⟩
 | 45=>some ⟨.struct [(3,0),(3,1),(41,2)],6,80,[.int .i64 0,.int .i64 0,.int .i64 0,.slice none 0 0,.int .i64 0,.slice none 0 0],false⟩
 | 46=>some ⟨.struct [(3,0),(3,1),(41,2)],6,80,[.int .i64 0,.int .i64 0,.int .i64 0,.slice none 0 0,.int .i64 0,.slice none 0 0],false⟩
 | 55=>some ⟨.slice 5,1,24,[.slice none 0 0],false⟩
 | 65=>some ⟨.slice 69,1,24,[.slice none 0 0],false⟩
 | 67=>some ⟨.slice 74,1,24,[.slice none 0 0],false⟩
 | 68=>some ⟨.struct [(41,0),(67,4)],5,88,[.int .i64 0,.slice none 0 0,.int .i64 0,.slice none 0 0,.slice none 0 0],false⟩
 | 69=>some ⟨.struct [(41,0),(67,4)],5,88,[.int .i64 0,.slice none 0 0,.int .i64 0,.slice none 0 0,.slice none 0 0],false⟩
 | 73=>some ⟨.struct [(3,0),(41,1)],5,72,[.int .i64 0,.int .i64 0,.slice none 0 0,.int .i64 0,.slice none 0 0],false⟩
 | 74=>some ⟨.struct [(3,0),(41,1)],5,72,[.int .i64 0,.int .i64 0,.slice none 0 0,.int .i64 0,.slice none 0 0],false⟩
 | 97=>some ⟨.slice 33,1,24,[.slice none 0 0],false⟩
 | 111=>some ⟨.int .u64,1,8,[.int .u64 0],false⟩
 | 117=>some ⟨.int .u64,1,8,[.int .u64 0],false⟩
 | 123=>some ⟨.int .u32,1,4,[.int .u32 0],false⟩
 | _=>none
theorem abd:tab 2=some ⟨.int .i64,1,8,[.int .i64 0],false⟩:=rfl
theorem Uc:tab 3=some ⟨.int .i64,1,8,[.int .i64 0],false⟩:=rfl
theorem abe:tab 4=some ⟨.bool,1,1,[.bool false],false⟩:=rfl
theorem Pq:tab 5=some ⟨.int .u8,1,1,[.int .u8 0],false⟩:=rfl
theorem abf:tab 9=some ⟨.str,1,16,[.string ⟨#[]⟩],false⟩:=rfl
theorem Yw:tab 12=some ⟨.int .u64,1,8,[.int .u64 0],false⟩:=rfl
theorem Yx:tab 21=some ⟨.int .i32,1,4,[.int .i32 0],false⟩:=rfl
theorem Ro:tab 22=some ⟨.slice 46,1,24,[.slice none 0 0],false⟩:=rfl
theorem Yy:tab 23=some ⟨.struct [(3,0),(22,1)],2,32,[.int .i64 0,.slice none 0 0],false⟩:=rfl
theorem Kv:tab 24=some ⟨.struct [(3,0),(22,1)],2,32,[.int .i64 0,.slice none 0 0],false⟩:=rfl
theorem Fa:tab 25=some ⟨.slice 41,1,24,[.slice none 0 0],false⟩:=rfl
theorem Yz:tab 30=some ⟨.int .i64,1,8,[.int .i64 0],false⟩:=rfl
theorem Kw:tab 33=some ⟨.slice 3,1,24,[.slice none 0 0],false⟩:=rfl
theorem YA:tab 37=some ⟨.slice 4,1,24,[.slice none 0 0],false⟩:=rfl
theorem YB:tab 38=some ⟨.struct [(3,0),(33,1)],2,32,[.int .i64 0,.slice none 0 0],false⟩:=rfl
theorem Rp:tab 39=some ⟨.struct [(3,0),(33,1)],2,32,[.int .i64 0,.slice none 0 0],false⟩:=rfl
theorem YC:tab 40=some ⟨.struct [(39,0),(39,2)],4,64,[.int .i64 0,.slice none 0 0,.int .i64 0,.slice none 0 0],false⟩:=rfl
theorem Kx:tab 41=some ⟨.struct [(39,0),(39,2)],4,64,[.int .i64 0,.slice none 0 0,.int .i64 0,.slice none 0 0],false⟩:=rfl
theorem YD:tab 45=some ⟨.struct [(3,0),(3,1),(41,2)],6,80,[.int .i64 0,.int .i64 0,.int .i64 0,.slice none 0 0,.int .i64 0,.slice none 0 0],false⟩:=rfl
theorem Ky:tab 46=some ⟨.struct [(3,0),(3,1),(41,2)],6,80,[.int .i64 0,.int .i64 0,.int .i64 0,.slice none 0 0,.int .i64 0,.slice none 0 0],false⟩:=rfl
theorem Kz:tab 55=some ⟨.slice 5,1,24,[.slice none 0 0],false⟩:=rfl
theorem YE:tab 65=some ⟨.slice 69,1,24,[.slice none 0 0],false⟩:=rfl
theorem YF:tab 67=some ⟨.slice 74,1,24,[.slice none 0 0],false⟩:=rfl
theorem YG:tab 68=some ⟨.struct [(41,0),(67,4)],5,88,[.int .i64 0,.slice none 0 0,.int .i64 0,.slice none 0 0,.slice none 0 0],false⟩:=rfl
theorem Rq:tab 69=some ⟨.struct [(41,0),(67,4)],5,88,[.int .i64 0,.slice none 0 0,.int .i64 0,.slice none 0 0,.slice none 0 0],false⟩:=rfl
theorem YH:tab 73=some ⟨.struct [(3,0),(41,1)],5,72,[.int .i64 0,.int .i64 0,.slice none 0 0,.int .i64 0,.slice none 0 0],false⟩:=rfl
theorem YI:tab 74=some ⟨.struct [(3,0),(41,1)],5,72,[.int .i64 0,.int .i64 0,.slice none 0 0,.int .i64 0,.slice none 0 0],false⟩:=rfl
theorem YJ:tab 97=some ⟨.slice 33,1,24,[.slice none 0 0],false⟩:=rfl
theorem T9:tab 111=some ⟨.int .u64,1,8,[.int .u64 0],false⟩:=rfl
theorem Ua:tab 117=some ⟨.int .u64,1,8,[.int .u64 0],false⟩:=rfl
theorem Ub:tab 123=some ⟨.int .u32,1,4,[.int .u32 0],false⟩:=rfl
theorem aed:gA Try.prog 2 ⟨.int .i64,1,8,[.int .i64 0],false⟩:=⟨by kernel_rfl,by kernel_rfl,by kernel_rfl,fun h=>by cases h⟩
theorem aee:gA Try.prog 3 ⟨.int .i64,1,8,[.int .i64 0],false⟩:=⟨by kernel_rfl,by kernel_rfl,by kernel_rfl,fun h=>by cases h⟩
theorem aef:gA Try.prog 4 ⟨.bool,1,1,[.bool false],false⟩:=⟨by kernel_rfl,by kernel_rfl,by kernel_rfl,fun h=>by cases h⟩
theorem aeg:gA Try.prog 5 ⟨.int .u8,1,1,[.int .u8 0],false⟩:=⟨by kernel_rfl,by kernel_rfl,by kernel_rfl,fun h=>by cases h⟩
theorem aeh:gA Try.prog 9 ⟨.str,1,16,[.string ⟨#[]⟩],false⟩:=⟨by kernel_rfl,by kernel_rfl,by kernel_rfl,fun h=>by cases h⟩
theorem ac6:gA Try.prog 12 ⟨.int .u64,1,8,[.int .u64 0],false⟩:=⟨by kernel_rfl,by kernel_rfl,by kernel_rfl,fun h=>by cases h⟩
theorem ac7:gA Try.prog 21 ⟨.int .i32,1,4,[.int .i32 0],false⟩:=⟨by kernel_rfl,by kernel_rfl,by kernel_rfl,fun h=>by cases h⟩
theorem ac8:gA Try.prog 22 ⟨.slice 46,1,24,[.slice none 0 0],false⟩:=⟨by kernel_rfl,by kernel_rfl,by kernel_rfl,fun h=>by cases h⟩
theorem ac9:gA Try.prog 23 ⟨.struct [(3,0),(22,1)],2,32,[.int .i64 0,.slice none 0 0],false⟩:=⟨by kernel_rfl,by kernel_rfl,by kernel_rfl,fun h=>by cases h⟩
theorem ada:gA Try.prog 24 ⟨.struct [(3,0),(22,1)],2,32,[.int .i64 0,.slice none 0 0],false⟩:=⟨by kernel_rfl,by kernel_rfl,by kernel_rfl,fun h=>by cases h⟩
theorem adb:gA Try.prog 25 ⟨.slice 41,1,24,[.slice none 0 0],false⟩:=⟨by kernel_rfl,by kernel_rfl,by kernel_rfl,fun h=>by cases h⟩
theorem ade:gA Try.prog 30 ⟨.int .i64,1,8,[.int .i64 0],false⟩:=⟨by kernel_rfl,by kernel_rfl,by kernel_rfl,fun h=>by cases h⟩
theorem adf:gA Try.prog 33 ⟨.slice 3,1,24,[.slice none 0 0],false⟩:=⟨by kernel_rfl,by kernel_rfl,by kernel_rfl,fun h=>by cases h⟩
theorem adg:gA Try.prog 37 ⟨.slice 4,1,24,[.slice none 0 0],false⟩:=⟨by kernel_rfl,by kernel_rfl,by kernel_rfl,fun h=>by cases h⟩
theorem adh:gA Try.prog 38 ⟨.struct [(3,0),(33,1)],2,32,[.int .i64 0,.slice none 0 0],false⟩:=⟨by kernel_rfl,by kernel_rfl,by kernel_rfl,fun h=>by cases h⟩
theorem adi:gA Try.prog 39 ⟨.struct [(3,0),(33,1)],2,32,[.int .i64 0,.slice none 0 0],false⟩:=⟨by kernel_rfl,by kernel_rfl,by kernel_rfl,fun h=>by cases h⟩
theorem adj:gA Try.prog 40 ⟨.struct [(39,0),(39,2)],4,64,[.int .i64 0,.slice none 0 0,.int .i64 0,.slice none 0 0],false⟩:=⟨by kernel_rfl,by kernel_rfl,by kernel_rfl,fun h=>by cases h⟩
theorem adk:gA Try.prog 41 ⟨.struct [(39,0),(39,2)],4,64,[.int .i64 0,.slice none 0 0,.int .i64 0,.slice none 0 0],false⟩:=⟨by kernel_rfl,by kernel_rfl,by kernel_rfl,fun h=>by cases h⟩
theorem adl:gA Try.prog 45 ⟨.struct [(3,0),(3,1),(41,2)],6,80,[.int .i64 0,.int .i64 0,.int .i64 0,.slice none 0 0,.int .i64 0,.slice none 0 0],false⟩:=⟨by kernel_rfl,by kernel_rfl,by kernel_rfl,fun h=>by cases h⟩
theorem adm:gA Try.prog 46 ⟨.struct [(3,0),(3,1),(41,2)],6,80,[.int .i64 0,.int .i64 0,.int .i64 0,.slice none 0 0,.int .i64 0,.slice none 0 0],false⟩:=⟨by kernel_rfl,by kernel_rfl,by kernel_rfl,fun h=>by cases h⟩
theorem adn:gA Try.prog 55 ⟨.slice 5,1,24,[.slice none 0 0],false⟩:=⟨by kernel_rfl,by kernel_rfl,by kernel_rfl,fun h=>by cases h⟩
theorem ado:gA Try.prog 65 ⟨.slice 69,1,24,[.slice none 0 0],false⟩:=⟨by kernel_rfl,by kernel_rfl,by kernel_rfl,fun h=>by cases h⟩
theorem adp:gA Try.prog 67 ⟨.slice 74,1,24,[.slice none 0 0],false⟩:=⟨by kernel_rfl,by kernel_rfl,by kernel_rfl,fun h=>by cases h⟩
theorem adq:gA Try.prog 68 ⟨.struct [(41,0),(67,4)],5,88,[.int .i64 0,.slice none 0 0,.int .i64 0,.slice none 0 0,.slice none 0 0],false⟩:=⟨by kernel_rfl,by kernel_rfl,by kernel_rfl,fun h=>by cases h⟩
theorem adr:gA Try.prog 69 ⟨.struct [(41,0),(67,4)],5,88,[.int .i64 0,.slice none 0 0,.int .i64 0,.slice none 0 0,.slice none 0 0],false⟩:=⟨by kernel_rfl,by kernel_rfl,by kernel_rfl,fun h=>by cases h⟩
theorem ads:gA Try.prog 73 ⟨.struct [(3,0),(41,1)],5,72,[.int .i64 0,.int .i64 0,.slice none 0 0,.int .i64 0,.slice none 0 0],false⟩:=⟨by kernel_rfl,by kernel_rfl,by kernel_rfl,fun h=>by cases h⟩
theorem adt:gA Try.prog 74 ⟨.struct [(3,0),(41,1)],5,72,[.int .i64 0,.int .i64 0,.slice none 0 0,.int .i64 0,.slice none 0 0],false⟩:=⟨by kernel_rfl,by kernel_rfl,by kernel_rfl,fun h=>by cases h⟩
theorem adu:gA Try.prog 97 ⟨.slice 33,1,24,[.slice none 0 0],false⟩:=⟨by kernel_rfl,by kernel_rfl,by kernel_rfl,fun h=>by cases h⟩
theorem ab6:gA Try.prog 111 ⟨.int .u64,1,8,[.int .u64 0],false⟩:=⟨by kernel_rfl,by kernel_rfl,by kernel_rfl,fun h=>by cases h⟩
theorem ab7:gA Try.prog 117 ⟨.int .u64,1,8,[.int .u64 0],false⟩:=⟨by kernel_rfl,by kernel_rfl,by kernel_rfl,fun h=>by cases h⟩
theorem ab8:gA Try.prog 123 ⟨.int .u32,1,4,[.int .u32 0],false⟩:=⟨by kernel_rfl,by kernel_rfl,by kernel_rfl,fun h=>by cases h⟩
theorem tok:kq Try.prog tab:=by
 intro t τ h
 unfold tab at h
 split at h
 ·cases h;exact aed
 ·cases h;exact aee
 ·cases h;exact aef
 ·cases h;exact aeg
 ·cases h;exact aeh
 ·cases h;exact ac6
 ·cases h;exact ac7
 ·cases h;exact ac8
 ·cases h;exact ac9
 ·cases h;exact ada
 ·cases h;exact adb
 ·cases h;exact ade
 ·cases h;exact adf
 ·cases h;exact adg
 ·cases h;exact adh
 ·cases h;exact adi
 ·cases h;exact adj
 ·cases h;exact adk
 ·cases h;exact adl
 ·cases h;exact adm
 ·cases h;exact adn
 ·cases h;exact ado
 ·cases h;exact adp
 ·cases h;exact adq
 ·cases h;exact adr
 ·cases h;exact ads
 ·cases h;exact adt
 ·cases h;exact adu
 ·cases h;exact ab6
 ·cases h;exact ab7
 ·cases h;exact ab8
 ·cases h
theorem mixed:Try.prog.follows .mixedOrders=true:=by kernel_rfl
def pJ {α:Type} (x:Option α) (K:α->Prop):Prop :=
 match x with
 | some a=>K a
 | none=>False
def br (b:Bool) (A B:Prop):Prop:=(b=true->A)∧(b=false->B)
def RM (d:D) (t:Nat->D) (g:Nat) (A B:(Nat->D)->Prop):Prop :=
 match d with
 | .bool b=>br b (A (b8 t g (.bool b))) (B (b8 t g (.bool b)))
 | _=>False
def wpS (d:D) (t:Nat->D) (g:Nat) (A B S:(Nat->D)->Prop):Prop :=
 match d with
 | .skp=>S t
 | d=>RM d t g A B
theorem zk {t:Nat->D} {g:Nat} {b:Bool} {A B S:(Nat->D)->Prop} : wpS (.bool b) t g A B S=br b (A (b8 t g (.bool b))) (B (b8 t g (.bool b))):=rfl
def Y4 (ops:List Oper) (t:Nat->D) (gd:Option (Nat×Bool)) (A B:(Nat->D)->Prop):Prop :=
 match gd with
 | none=>A t
 | some (j,want)=>pJ ((ops[j]?).bind (·.dst)) fun g=>wpS (t g) t g (if want then A else B) (if want then B else A) B
def RO (T:Nat->Option Ty) (Γ:Env) (e:Nat) (o:Oper) (t:Nat->D) (h:Nat->Option Row) (K:(Nat->D)->bM->Prop):Prop :=
 match o.op with
 | .pick (.tmp c) a b=>RM (t c) t c (fun t=>K t ⟨ev t a,[]⟩) (fun t=>K t ⟨ev t b,[]⟩)
 | _=>pJ (pV T Γ e o (ev t) h) (K t)
def EV (T:Nat->Option Ty) (Γ:Env) (N e:Nat) (ops:List Oper):List Oper->(Nat->D)->(Nat->Option Row)->((Nat->D)->(Nat->Option Row)->Prop)->Prop
 | [],t,h,K=>K t h
 | o::l,t,h,K=>fits N o.dst=true∧Y4 ops t o.guard (fun t=>RO T Γ e o t h fun t E=>EV T Γ N e ops l (dY t o.dst E.val) (aH h E.hw) K) (fun t=>EV T Γ N e ops l (dY t o.dst .skp) h K)
def runK (T:Nat->Option Ty) (Γ:Env) (N e:Nat) (ops:List Oper):List Oper->(Nat->D)->(Nat->Option Row)->List kx->((Nat->D)->(Nat->Option Row)->List kx->Prop)->Prop
 | [],t,h,fs,K=>K t h fs
 | o::l,t,h,fs,K=>fits N o.dst=true∧Y4 ops t o.guard (fun t=>RO T Γ e o t h fun t E=>runK T Γ N e ops l (dY t o.dst E.val) (aH h E.hw) (fs++[⟨bj o (ev t),E.hw.isEmpty⟩]) K) (fun t=>runK T Γ N e ops l (dY t o.dst .skp) h (fs++[⟨[],true⟩]) K)
abbrev Kt:=Ex->(Nat->D)->(Nat->Option Row)->Nat->Prop
def ac1 (x:Ex) (A:Prop) (B:Prop):Prop :=
 match x with
 | .normal=>A
 | _=>B
def Wn (id:Nat) (x:Ex) (t:Nat->D) (h:Nat->Option Row) (e:Nat) (K:Kt):Prop :=
 match x with
 | .exit n=>if n=id then K .normal t h e else K (.exit n) t h e
 | x=>K x t h e
def wpR (T:Nat->Option Ty) (Γ:Env) (N:Nat) (ops:Array Oper) (draw:Bool) (t:Nat->D) (h:Nat->Option Row) (e:Nat) (K:(Nat->D)->(Nat->Option Row)->Prop):Prop :=
 match draw with
 | true=>runK T Γ N e ops.toList ops.toList t h [] fun t h fs=>Df ops fs=true∧K t h
 | false=>EV T Γ N e ops.toList ops.toList t h K
def KN (T:Nat->Option Ty) (Γ:Env) (N F:Nat):Code->(Nat->D)->(Nat->Option Row)->Nat->Kt->Prop
 | .skip,t,h,e,K=>K .normal t h e
 | .region _ ops draw,t,h,e,K=>wpR T Γ N ops draw t h e fun t h=>K .normal t h (e+1)
 | .seq a b,t,h,e,K=>KN T Γ N F a t h e fun x t h e=>ac1 x (KN T Γ N F b t h e K) (K x t h e)
 | .cond c x y,t,h,e,K =>
  match c with
  | .tmp g=>RM (t g) t g (fun t=>KN T Γ N F x t h e K) (fun t=>KN T Γ N F y t h e K)
  | .const (.bool true)=>KN T Γ N F x t h e K
  | .const (.bool false)=>KN T Γ N F y t h e K
  | _=>False
 | .block id b,t,h,e,K=>KN T Γ N F b t h e fun x t h e=>Wn id x t h e K
 | .loop b,t,h,e,K=>∃x s,iter (gz T Γ N F b) F ⟨t,h,e⟩=some (x,s)∧K x s.t s.h s.e
 | .exit id,t,h,e,K=>K (.exit id) t h e
 | .ret,t,h,e,K=>K .ret t h e
 | _,_,_,_,_=>False
def abC (mode:Mode) (T:Nat->Option Ty) (lent:Option (D×Row)) (rs:List ResultVar) (x:Ex) (t:Nat->D) (h:Nat->Option Row) (e:Nat) (r:RK×Option Row):Prop :=
 match x with
 | .exit _=>False
 | _=>iP mode T lent rs ⟨t,EH h,e⟩=some r
def wpf (mode:Mode) (T:Nat->Option Ty) (Γ:Env) (F:Nat) (fn:Func) (lent:Option (D×Row)) (args:List D) (r:RK×Option Row):Prop :=
 pJ fn.body fun c=>KN T Γ fn.ntmps F c (bY lent args).t (bY lent args).h (bY lent args).e fun x t h e=>abC mode T lent fn.results.toList x t h e r
theorem sG {α:Type} (a:α) (K:α->Prop):pJ (some a) K=K a:=rfl
theorem Ej {α:Type} {x:Option α} {K:α->Prop} (h:pJ x K):∃a,x=some a∧K a:=by
 cases x with
 | none=>exact h.elim
 | some a=>exact⟨a,rfl,h⟩
theorem RI {t:Nat->D} {g:Nat} {d:D} (h:t g=d):b8 t g d=t:=by
 funext j
 unfold b8
 split
 ·rename_i e;subst e;exact h.symm
 ·rfl
theorem Je (A B:Prop):br true A B=A:=by simp[br]
theorem Cz (A B:Prop):br false A B=B:=by simp[br]
theorem Zt {b:Bool} {A B:Prop} (h:br b A B):if b then A else B:=by
 cases b with
 | true=>exact h.1 rfl
 | false=>exact h.2 rfl
theorem Y2 {t:Nat->D} {g:Nat} {b:Bool} {A B:(Nat->D)->Prop} : RM (.bool b) t g A B=br b (A (b8 t g (.bool b))) (B (b8 t g (.bool b))):=rfl
theorem zi {t:Nat->D} {g:Nat} {A B:(Nat->D)->Prop} (h:t g=.bool true):RM (.bool true) t g A B=A t:=by simp[RM,RI h,Je]
theorem wv {t:Nat->D} {g:Nat} {A B:(Nat->D)->Prop} (h:t g=.bool false):RM (.bool false) t g A B=B t:=by simp[RM,RI h,Cz]
theorem zl {t:Nat->D} {g:Nat} {A B S:(Nat->D)->Prop} (h:t g=.bool true):wpS (.bool true) t g A B S=A t:=zi h
theorem wx {t:Nat->D} {g:Nat} {A B S:(Nat->D)->Prop} (h:t g=.bool false):wpS (.bool false) t g A B S=B t:=wv h
theorem RN {t:Nat->D} {g:Nat} {A B:(Nat->D)->Prop} (h:RM (t g) t g A B):∃b,t g=.bool b∧(if b then A t else B t):=by
 unfold RM at h
 split at h
 ·rename_i b hb
  rw[RI hb]at h
  exact⟨b,hb,Zt h⟩
 ·exact h.elim
section
variable {T:Nat->Option Ty} {Γ:Env} {N F e:Nat}
theorem Y5 {ops:Array Oper} {t:Nat->D} {o:Oper} {A B:(Nat->D)->Prop} (h:Y4 ops.toList t o.guard A B):∃b,uz ops t o=some b∧(if b then A t else B t):=by
 unfold Y4 at h
 unfold uz
 split at h
 ·rename_i hg
  try rw[hg]
  exact⟨true,rfl,by simpa using h⟩
 ·rename_i j want hg
  try rw[hg]
  obtain⟨g,h1,h2⟩:=Ej h
  rw[afE]at h1
  unfold wpS at h2
  split at h2
  ·rename_i hs
   simp only[h1,hs]
   exact⟨false,rfl,h2⟩
  ·obtain⟨b,h3,h4⟩:=RN h2
   simp only[h1,h3]
   refine⟨_,rfl,?_⟩
   cases b<;>cases want<;>simpa using h4
theorem Y3 {o:Oper} {t:Nat->D} {h:Nat->Option Row} {K:(Nat->D)->bM->Prop} (hw:RO T Γ e o t h K):∃E,pV T Γ e o (ev t) h=some E∧K t E:=by
 unfold RO at hw
 split at hw
 ·rename_i c a b ho
  obtain⟨v,h1,h2⟩:=RN hw
  have hq:mH Γ e h o.dst none=none:=by cases o.dst<;>rfl
  cases v with
  | true=>exact⟨⟨ev t a,[]⟩,by unfold pV ju mG;rw[ho];simp only[ev,h1,Zh,kr,gT,hq],by simpa only[if_true] using h2⟩
  | false=>exact⟨⟨ev t b,[]⟩,by unfold pV ju mG;rw[ho];simp only[ev,h1,Zh,kr,gT,hq],by simpa only[afo,if_false] using h2⟩
 ·obtain⟨E,h1,h2⟩:=Ej hw
  exact⟨E,h1,h2⟩
theorem Ko {ops:Array Oper} {K:(Nat->D)->(Nat->Option Row)->Prop} : ∀(l:List Oper) (t:Nat->D) (h:Nat->Option Row),EV T Γ N e ops.toList l t h K->∃t' h' fs,BR T Γ N e ops l t h=some (t',h',fs)∧K t' h'
 | [],t,h,hk=>⟨t,h,[],rfl,hk⟩
 | o::l,t,h,hk=>by
  unfold EV at hk
  obtain⟨hf,hg⟩:=hk
  obtain⟨b,h1,h2⟩:=Y5 hg
  unfold BR uY
  rw[if_pos hf,h1]
  cases b with
  | true =>
   obtain⟨E,h3,h4⟩:=Y3 (by simpa using h2)
   obtain⟨t',h',fs,h5,h6⟩:=Ko l _ _ h4
   simp only[h3,h5]
   exact⟨_,_,_,rfl,h6⟩
  | false =>
   obtain⟨t',h',fs,h5,h6⟩:=Ko l _ _ (by simpa using h2)
   simp only[h5]
   exact⟨_,_,_,rfl,h6⟩
theorem Kn {ops:Array Oper} {K:(Nat->D)->(Nat->Option Row)->List kx->Prop} : ∀(l:List Oper) (t:Nat->D) (h:Nat->Option Row) (f0:List kx),runK T Γ N e ops.toList l t h f0 K->∃t' h' fs,BR T Γ N e ops l t h=some (t',h',fs)∧K t' h' (f0++fs)
 | [],t,h,f0,hk=>⟨t,h,[],rfl,by unfold runK at hk;simpa using hk⟩
 | o::l,t,h,f0,hk=>by
  unfold runK at hk
  obtain⟨hf,hg⟩:=hk
  obtain⟨b,h1,h2⟩:=Y5 hg
  unfold BR uY
  rw[if_pos hf,h1]
  cases b with
  | true =>
   obtain⟨E,h3,h4⟩:=Y3 (by simpa using h2)
   obtain⟨t',h',fs,h5,h6⟩:=Kn l _ _ _ h4
   simp only[h3,h5]
   exact⟨_,_,_,rfl,by simpa using h6⟩
  | false =>
   obtain⟨t',h',fs,h5,h6⟩:=Kn l _ _ _ (by simpa using h2)
   simp only[h5]
   exact⟨_,_,_,rfl,by simpa using h6⟩
theorem acb {ops:Array Oper} {draw:Bool} {t:Nat->D} {h:Nat->Option Row} {K:(Nat->D)->(Nat->Option Row)->Prop} (hk:wpR T Γ N ops draw t h e K):∃t' h',wo T Γ N ops draw ⟨t,h,e⟩=some (.normal,⟨t',h',e+1⟩)∧K t' h':=by
 unfold wo
 cases draw with
 | false =>
  obtain⟨t',h',fs,h1,h2⟩:=Ko _ _ _ hk
  simp only[h1]
  exact⟨t',h',by simp,h2⟩
 | true =>
  obtain⟨t',h',fs,h1,h2,h3⟩:=Kn _ _ _ _ hk
  simp only[h1]
  exact⟨t',h',by rw[agu]at h2;simp[h2],h3⟩
theorem KF:∀(c:Code) (t:Nat->D) (h:Nat->Option Row) (e:Nat) (K:Kt),KN T Γ N F c t h e K->∃x s,gz T Γ N F c ⟨t,h,e⟩=some (x,s)∧K x s.t s.h s.e:=by
 intro c
 induction c with
 | skip=>intro t h e K hk;exact⟨_,_,rfl,hk⟩
 | region i ops draw =>
  intro t h e K hk
  obtain⟨t',h',h1,h2⟩:=acb hk
  exact⟨_,_,h1,h2⟩
 | seq a b iha ihb =>
  intro t h e K hk
  obtain⟨x,s,h1,h2⟩:=iha _ _ _ _ hk
  simp only[gz,h1]
  cases x with
  | normal =>
   obtain⟨x2,s2,h3,h4⟩:=ihb _ _ _ _ h2
   exact⟨x2,s2,h3,h4⟩
  | exit n=>exact⟨_,_,rfl,h2⟩
  | ret=>exact⟨_,_,rfl,h2⟩
 | cond c x y ihx ihy =>
  intro t h e K hk
  unfold KN at hk
  split at hk
  ·rename_i g
   obtain⟨b,h1,h2⟩:=RN hk
   simp only[gz,ev,h1,Pv]
   cases b with
   | true=>exact ihx _ _ _ _ (by simpa using h2)
   | false=>exact ihy _ _ _ _ (by simpa using h2)
  ·simpa only[gz,ev,n9,Pv,if_true] using ihx _ _ _ _ hk
  ·simpa only[gz,ev,n9,Pv,afo,if_false] using ihy _ _ _ _ hk
  ·exact hk.elim
 | block id b ih =>
  intro t h e K hk
  obtain⟨x,s,h1,h2⟩:=ih _ _ _ _ hk
  simp only[gz,h1]
  cases x with
  | normal=>exact⟨_,_,rfl,h2⟩
  | ret=>exact⟨_,_,rfl,h2⟩
  | exit n =>
   simp only[RL]
   unfold Wn at h2
   simp only at h2
   split at h2
   ·rename_i hn;rw[if_pos hn];exact⟨_,_,rfl,h2⟩
   ·rename_i hn;rw[if_neg hn];exact⟨_,_,rfl,h2⟩
 | loop b ih=>intro t h e K hk;exact hk
 | exit id=>intro t h e K hk;exact⟨_,_,rfl,hk⟩
 | ret=>intro t h e K hk;exact⟨_,_,rfl,hk⟩
 | _=>intro t h e K hk;exact hk.elim
theorem Y7 {mode:Mode} {fn:Func} {lent:Option (D×Row)} {args:List D} {r:RK×Option Row} (h:wpf mode T Γ F fn lent args r) (hN:fn.ntmps<=PK):a6 mode T Γ F fn lent args=some r:=by
 obtain⟨c,h1,h2⟩:=Ej h
 obtain⟨x,s,h3,h4⟩:=KF _ _ _ _ _ h2
 unfold a6
 simp only[h1]
 rw[if_pos hN]
 have e0:bY lent args=⟨(bY lent args).t,(bY lent args).h,(bY lent args).e⟩:=rfl
 rw[e0,h3]
 unfold abC at h4
 split at h4
 ·exact h4.elim
 ·rename_i hx
  split
  ·rename_i n _ he;cases he;exact (hx n rfl).elim
  ·rename_i _ x' s' _ he
   cases he
   exact h4
  ·rename_i he;cases he
theorem Ug {α:Type} (f:Nat->α) (i:Nat) (v:α) (j:Nat):b8 f i v j=if j=i then v else f j:=ahv
def zI (args:List D) (i:Nat):D:=args.getD i .und
theorem KY (i:Nat):zI [] i=.und:=by simp[zI]
theorem Gd (d:D) (l:List D):zI (d::l) 0=d:=ahv
theorem Gc (d:D) (l:List D) (i:Nat):zI (d::l) (i+1)=zI l i:=ahv
def Ob (_:Nat):Option Row:=none
theorem HX (i:Nat):Ob i=none:=ahv
end
inductive W where
 | code (c:Code)
 | blk (id:Nat)
section
variable (T:Nat->Option Ty) (Γ:Env) (N F:Nat)
def cB:List W->Kt->Kt
 | [],Q=>Q
 | .code c::ws,Q=>fun x t h e=>ac1 x (KN T Γ N F c t h e (cB ws Q)) (cB ws Q x t h e)
 | .blk id::ws,Q=>fun x t h e=>Wn id x t h e (cB ws Q)
def ln (ops l:List Oper) (ws:List W) (Q:Kt) (t:Nat->D) (h:Nat->Option Row) (e:Nat):Prop :=
 EV T Γ N e ops l t h fun t h=>cB T Γ N F ws Q .normal t h (e+1)
def lp (ops l:List Oper) (ws:List W) (Q:Kt) (t:Nat->D) (h:Nat->Option Row) (e:Nat) (fs:List kx):Prop :=
 runK T Γ N e ops l t h fs fun t h fs=>Df ops.toArray fs=true∧cB T Γ N F ws Q .normal t h (e+1)
def po (o:Oper) (ops l:List Oper) (ws:List W) (Q:Kt) (t:Nat->D) (h:Nat->Option Row) (e:Nat):Prop :=
 RO T Γ e o t h fun t E=>ln T Γ N F ops l ws Q (dY t o.dst E.val) (aH h E.hw) e
def pq (o:Oper) (ops l:List Oper) (ws:List W) (Q:Kt) (t:Nat->D) (h:Nat->Option Row) (e:Nat) (fs:List kx):Prop :=
 RO T Γ e o t h fun t E=>lp T Γ N F ops l ws Q (dY t o.dst E.val) (aH h E.hw) e (fs++[⟨bj o (ev t),E.hw.isEmpty⟩])
def wE (d:D) (g:Nat) (want:Bool) (o:Oper) (ops l:List Oper) (ws:List W) (Q:Kt) (t:Nat->D) (h:Nat->Option Row) (e:Nat):Prop :=
 wpS d t g (fun t=>if want then po T Γ N F o ops l ws Q t h e else ln T Γ N F ops l ws Q (dY t o.dst .skp) h e) (fun t=>if want then ln T Γ N F ops l ws Q (dY t o.dst .skp) h e else po T Γ N F o ops l ws Q t h e) (fun t=>ln T Γ N F ops l ws Q (dY t o.dst .skp) h e)
def wF (d:D) (g:Nat) (want:Bool) (o:Oper) (ops l:List Oper) (ws:List W) (Q:Kt) (t:Nat->D) (h:Nat->Option Row) (e:Nat) (fs:List kx):Prop :=
 wpS d t g (fun t=>if want then pq T Γ N F o ops l ws Q t h e fs else lp T Γ N F ops l ws Q (dY t o.dst .skp) h e (fs++[⟨[],true⟩])) (fun t=>if want then lp T Γ N F ops l ws Q (dY t o.dst .skp) h e (fs++[⟨[],true⟩]) else pq T Γ N F o ops l ws Q t h e fs) (fun t=>lp T Γ N F ops l ws Q (dY t o.dst .skp) h e (fs++[⟨[],true⟩]))
def E5 (x y:Option bM) (dst:Option Nat) (ops l:List Oper) (ws:List W) (Q:Kt) (t:Nat->D) (h:Nat->Option Row) (e:Nat):Prop :=
 pJ (Zh h x y) fun E=>ln T Γ N F ops l ws Q (dY t dst E.val) (aH h E.hw) e
def E6 (x y:Option bM) (dst:Option Nat) (ft:List Nat) (ops l:List Oper) (ws:List W) (Q:Kt) (t:Nat->D) (h:Nat->Option Row) (e:Nat) (fs:List kx):Prop :=
 pJ (Zh h x y) fun E=>lp T Γ N F ops l ws Q (dY t dst E.val) (aH h E.hw) e (fs++[⟨ft,E.hw.isEmpty⟩])
def xM (x:Option bM) (dst:Option Nat) (ops l:List Oper) (ws:List W) (Q:Kt) (t:Nat->D) (h:Nat->Option Row) (e:Nat):Prop:=E5 T Γ N F x none dst ops l ws Q t h e
def xN (x:Option bM) (dst:Option Nat) (ft:List Nat) (ops l:List Oper) (ws:List W) (Q:Kt) (t:Nat->D) (h:Nat->Option Row) (e:Nat) (fs:List kx):Prop:=E6 T Γ N F x none dst ft ops l ws Q t h e fs
def F1 (y:Option bM) (dst:Option Nat) (ops l:List Oper) (ws:List W) (Q:Kt) (t:Nat->D) (h:Nat->Option Row) (e:Nat):Prop :=
 pJ y fun E=>ln T Γ N F ops l ws Q (dY t dst E.val) (aH h E.hw) e
def F2 (y:Option bM) (dst:Option Nat) (ft:List Nat) (ops l:List Oper) (ws:List W) (Q:Kt) (t:Nat->D) (h:Nat->Option Row) (e:Nat) (fs:List kx):Prop :=
 pJ y fun E=>lp T Γ N F ops l ws Q (dY t dst E.val) (aH h E.hw) e (fs++[⟨ft,E.hw.isEmpty⟩])
def KB (d:D) (g:Nat) (x y:Code) (ws:List W) (Q:Kt) (t:Nat->D) (h:Nat->Option Row) (e:Nat):Prop :=
 RM d t g (fun t=>cB T Γ N F (.code x::ws) Q .normal t h e) (fun t=>cB T Γ N F (.code y::ws) Q .normal t h e)
def X0 (d:D) (g:Nat) (a b:Operand) (dst:Option Nat) (ops l:List Oper) (ws:List W) (Q:Kt) (t:Nat->D) (h:Nat->Option Row) (e:Nat):Prop :=
 RM d t g (fun t=>ln T Γ N F ops l ws Q (dY t dst (ev t a)) h e) (fun t=>ln T Γ N F ops l ws Q (dY t dst (ev t b)) h e)
def X1 (d:D) (g:Nat) (a b:Operand) (dst:Option Nat) (ops l:List Oper) (ws:List W) (Q:Kt) (t:Nat->D) (h:Nat->Option Row) (e:Nat) (fs:List kx):Prop :=
 RM d t g (fun t=>lp T Γ N F ops l ws Q (dY t dst (ev t a)) h e (fs++[⟨[],true⟩])) (fun t=>lp T Γ N F ops l ws Q (dY t dst (ev t b)) h e (fs++[⟨[],true⟩]))
def TL (b:Code) (ws:List W) (Q:Kt) (t:Nat->D) (h:Nat->Option Row) (e:Nat):Prop:=KN T Γ N F (.loop b) t h e (cB T Γ N F ws Q)
end
theorem HC {n:Nat} (h:n<=1000000):n<=maxLen:=aeQ h (by decide)
theorem Iq {z:List D} : m8 0 z=[]:=ahv
theorem Ip {n:Nat} {z:List D} : m8 (n+1) z=z++m8 n z:=by simp[m8,List.replicate_succ]
theorem Hj {N:Nat} : fits N none=true:=ahv
theorem Hk {N i:Nat} : fits N (some i)=decide (i<N):=ahv
def uj:List Oper->Nat->Nat
 | [],_=>0
 | o::_,0=>o.dst.getD 0
 | _::l,j+1=>uj l j
def yx:List Oper->Nat->Bool
 | [],_=>false
 | o::_,0=>o.dst.isSome
 | _::l,j+1=>yx l j
theorem Db:∀(l:List Oper) (j:Nat),yx l j=true->(l[j]?).bind (·.dst)=some (uj l j)
 | [],j,h=>by simp[yx]at h
 | o::l,0,h=>by
  simp only[yx]at h
  simp only[List.getElem?_cons_zero,Option.bind_some,uj]
  cases hd:o.dst with
  | none=>rw[hd]at h;cases h
  | some d=>rfl
 | o::l,j+1,h=>by simpa [uj] using Db l j h
theorem Dd {d:Nat} {op:Op} {ty:Nat} {pos:String} {af:Array Edge} {gd:Option (Nat×Bool)} {l:List Oper} : uj (⟨some d,op,ty,pos,af,gd⟩::l) 0=d:=ahv
theorem Dc {o:Oper} {l:List Oper} {j:Nat} : uj (o::l) (j+1)=uj l j:=ahv
theorem DQ {d:Nat} {op:Op} {ty:Nat} {pos:String} {af:Array Edge} {gd:Option (Nat×Bool)} {l:List Oper} : yx (⟨some d,op,ty,pos,af,gd⟩::l) 0=true:=ahv
theorem DP {o:Oper} {l:List Oper} {j:Nat} : yx (o::l) (j+1)=yx l j:=ahv
section
variable {dst:Option Nat} {ty:Nat} {pos:String} {af:Array Edge} {gd:Option (Nat×Bool)} {vs:Operand->D}
def yG (vs:Operand->D):List Operand->List Nat
 | []=>[]
 | x::l=>nm (vs x)++yG vs l
theorem fm (vs:Operand->D):∀l:List Operand,(l.flatMap fun x=>nm (vs x))=yG vs l
 | []=>Eq.trans rfl rfl
 | x::l=>by rw[List.flatMap_cons,fm vs l];exact Eq.trans rfl rfl
theorem Tw:yG vs []=[]:=ahv
theorem N9 {x:Operand} {l:List Operand} : yG vs (x::l)=nm (vs x)++yG vs l:=ahv
theorem Bp {o:BinOp} {tt z:Nat} {x y:Operand} : bj ⟨dst,.binOp o tt x y z,ty,pos,af,gd⟩ vs=(yG vs [x,y]++dst.toList).map rt:=by rw[<- fm];rfl
theorem Fe {o:UnOp} {tt:Nat} {x:Operand} : bj ⟨dst,.unOp o tt x,ty,pos,af,gd⟩ vs=(yG vs [x]++dst.toList).map rt:=by rw[<- fm];rfl
theorem zd {x:Operand} : bj ⟨dst,.assign x,ty,pos,af,gd⟩ vs=(yG vs [x]++dst.toList).map rt:=by rw[<- fm];rfl
theorem Fc {tt:Nat} {x:Operand} : bj ⟨dst,.load tt x,ty,pos,af,gd⟩ vs=(yG vs [x]++dst.toList).map rt:=by rw[<- fm];rfl
theorem Bu {tt:Nat} {x y:Operand} : bj ⟨dst,.store tt x y,ty,pos,af,gd⟩ vs=(yG vs [x,y]++dst.toList).map rt:=by rw[<- fm];rfl
theorem uZ {x:Operand} : bj ⟨dst,.nilCheck x,ty,pos,af,gd⟩ vs=(yG vs [x]++dst.toList).map rt:=by rw[<- fm];rfl
theorem tr {tt i:Nat} {x:Operand} : bj ⟨dst,.fieldAddr tt x i,ty,pos,af,gd⟩ vs=(yG vs [x]++dst.toList).map rt:=by rw[<- fm];rfl
theorem Br {tt i:Nat} {x:Operand} : bj ⟨dst,.field tt x i,ty,pos,af,gd⟩ vs=(yG vs [x]++dst.toList).map rt:=by rw[<- fm];rfl
theorem tu {tt:Nat} {x i:Operand} : bj ⟨dst,.indexAddr tt x i,ty,pos,af,gd⟩ vs=(yG vs [x,i]++dst.toList).map rt:=by rw[<- fm];rfl
theorem Bs {tt:Nat} {x i:Operand} : bj ⟨dst,.index tt x i,ty,pos,af,gd⟩ vs=(yG vs [x,i]++dst.toList).map rt:=by rw[<- fm];rfl
theorem tv {tt:Nat} {x y:Operand} : bj ⟨dst,.makeSlice tt x y,ty,pos,af,gd⟩ vs=(yG vs [x,y]++dst.toList).map rt:=by rw[<- fm];rfl
theorem Bo {tt:Nat} : bj ⟨dst,.alloc tt,ty,pos,af,gd⟩ vs=(yG vs []++dst.toList).map rt:=by rw[<- fm];rfl
theorem I2 {tt:Nat} {x:Operand} : bj ⟨dst,.box tt x,ty,pos,af,gd⟩ vs=(yG vs [x]++dst.toList).map rt:=by rw[<- fm];rfl
theorem w6 {tt:Nat} : bj ⟨dst,.makeMap tt none,ty,pos,af,gd⟩ vs=(yG vs []++dst.toList).map rt:=by rw[<- fm];rfl
theorem zf {tt:Nat} {m i:Operand} {ok:Bool} : bj ⟨dst,.lookup tt m i ok,ty,pos,af,gd⟩ vs=(yG vs [m,i]++dst.toList).map rt:=by rw[<- fm];rfl
theorem tw {tt:Nat} {m i x:Operand} : bj ⟨dst,.mapUpdate tt m i x,ty,pos,af,gd⟩ vs=(yG vs [m,i,x]++dst.toList).map rt:=by rw[<- fm];rfl
theorem ze {tt:Nat} {m i x:Operand} : bj ⟨dst,.insert tt m i x,ty,pos,af,gd⟩ vs=(yG vs [m,i,x]++dst.toList).map rt:=by rw[<- fm];rfl
theorem w4 {a b:Nat} {x:Operand} : bj ⟨dst,.convert a b x,ty,pos,af,gd⟩ vs=(yG vs [x]++dst.toList).map rt:=by rw[<- fm];rfl
theorem w5 {x:Operand} {i:Nat} : bj ⟨dst,.extract x i,ty,pos,af,gd⟩ vs=(yG vs [x]++dst.toList).map rt:=by rw[<- fm];rfl
theorem Bq {tt:Nat} {ps:List (Nat×Operand)} : bj ⟨dst,.build tt ps.toArray,ty,pos,af,gd⟩ vs=(yG vs (ps.map (·.2))++dst.toList).map rt:=by rw[<- fm];rfl
theorem rv {tt len:Nat} {ps:List (Nat×Operand)} : bj ⟨dst,.buildSlice tt len ps.toArray,ty,pos,af,gd⟩ vs=(yG vs (ps.map (·.2))++dst.toList).map rt:=by rw[<- fm];rfl
theorem Bt {tt:Nat} {x:Operand} {lo hi mx:Option Operand} : bj ⟨dst,.slice tt x lo hi mx,ty,pos,af,gd⟩ vs=(yG vs (x::(lo.toList++(hi.toList++mx.toList)))++dst.toList).map rt:=by
 rw[<- fm];cases lo<;>cases hi<;>cases mx<;>rfl
theorem Fb {x:Operand} {l:List Operand} {tys:Array Nat} : bj ⟨dst,.call ⟨.value x,l.toArray,tys⟩,ty,pos,af,gd⟩ vs=(yG vs (x::l)++dst.toList).map rt:=by
 rw[<- fm];simp[bj,gZ,Op.operands,Call.operands]
theorem w1 {x:Builtin} {l:List Operand} {tys:Array Nat} : bj ⟨dst,.call ⟨.builtin x,l.toArray,tys⟩,ty,pos,af,gd⟩ vs=(yG vs l++dst.toList).map rt:=by
 rw[<- fm];simp[bj,gZ,Op.operands,Call.operands]
end
section
variable {T:Nat->Option Ty} {ty e:Nat} {dst:Option Nat} {h:Nat->Option Row}
theorem Se {k:IntKind} {n:Int} : bI T ty e dst h (.int k n)=some ⟨.int k n,[]⟩:=ahv
theorem KZ {b:Bool} : bI T ty e dst h (.bool b)=some ⟨.bool b,[]⟩:=ahv
theorem Si {b:ByteArray} : bI T ty e dst h (.str b)=some ⟨.str b,[]⟩:=ahv
theorem Wk {tg:Bool} {n:Nat} {xs:List D} : bI T ty e dst h (.sl false tg n xs)=some ⟨.sl false tg n xs,[]⟩:=ahv
theorem Sh {x v o:Nat} : bI T ty e dst h (.ptr x v o)=some ⟨.ptr x v o,[]⟩:=ahv
theorem Wh {xs:List D} : bI T ty e dst h (.ip xs)=some ⟨.ip xs,[]⟩:=ahv
theorem Sc {xs:List D} : bI T ty e dst h (.agg xs)=some ⟨.agg xs,[]⟩:=ahv
theorem Sj {xs:List D} : bI T ty e dst h (.tup xs)=some ⟨.tup xs,[]⟩:=ahv
theorem Wg {f:Nat} : bI T ty e dst h (.fn f)=some ⟨.fn f,[]⟩:=ahv
theorem Wi {x v:Nat} : bI T ty e dst h (.mp x v)=some ⟨.mp x v,[]⟩:=ahv
theorem Sf {ks:List Int} {vs:List D} : bI T ty e dst h (.mpc ks vs)=some ⟨.mpc ks vs,[]⟩:=ahv
theorem Wj {x v y:Nat} : bI T ty e dst h (.pm x v y)=some ⟨.pm x v y,[]⟩:=ahv
theorem BW {f kk:Nat} {xs:List D} : bI T ty e dst h (.clo f kk xs)=some ⟨.clo f kk xs,[]⟩:=ahv
def abt (b:Bool) (T:Nat->Option Ty) (ty e d:Nat) (h:Nat->Option Row) (x:D):Option bM:=if b then bI T ty e (some d) h x else ik h x
theorem Gi {d:Nat} {x:D} : abt true T ty e d h x=bI T ty e (some d) h x:=ahv
theorem Cv {d:Nat} {x:D} : abt false T ty e d h x=ik h x:=ahv
theorem aaz {q:Nat->Bool} {d:Nat} {x:D} : qK T q ty e (some d) h x=abt (q d) T ty e d h x:=ahv
theorem R8 {k:IntKind} {n:Int} : ik h (.int k n)=some ⟨.int k n,[]⟩:=ahv
theorem KT {b:Bool} : ik h (.bool b)=some ⟨.bool b,[]⟩:=ahv
theorem R9 {b:ByteArray} : ik h (.str b)=some ⟨.str b,[]⟩:=ahv
theorem R6 {xs:List D} : ik h (.agg xs)=some ⟨.agg (xs.map canon),[]⟩:=ahv
theorem V8 {a b:Bool} {n:Nat} {xs:List D} : ik h (.sl a b n xs)=some ⟨.sl false false n xs,[]⟩:=ahv
theorem Sk:bI T ty e dst h .und=some ⟨.und,[]⟩:=ahv
def Zr (e d y s o n:Nat) (r:Row):Bool->Option bM
 | true=>some ⟨.buf y r.v s o n,[]⟩
 | false=>some ⟨.buf d e s o n,[(y,none),(d,some { r with v:=e })]⟩
theorem Cu {d y s o n:Nat} {r:Row} : Zr e d y s o n r false=some ⟨.buf d e s o n,[(y,none),(d,some { r with v:=e })]⟩:=ahv
def abr (y v s o n:Nat):Option Row->Option bM
 | some _=>some ⟨.buf y v s o n,[]⟩
 | none=>some ⟨.und,[]⟩
theorem Ge {y v s o n:Nat} {r:Row} : abr y v s o n (some r)=some ⟨.buf y v s o n,[]⟩:=ahv
def Wf (e:Nat) (dst:Option Nat) (y s o n:Nat) (w:Option bM):Option Row->Option bM
 | some r=>match dst with|some d=>Zr e d y s o n r r.fz|none=>w
 | none=>w
theorem Gg {d y s o n:Nat} {r:Row} {w:Option bM} : Wf e (some d) y s o n w (some r)=Zr e d y s o n r r.fz:=ahv
theorem Gf {d y s o n:Nat} {w:Option bM} : Wf e (some d) y s o n w none=w:=ahv
theorem Sd {d y v s o n:Nat} : bI T ty e (some d) h (.buf y v s o n)=Wf e (some d) y s o n (abr y v s o n (nL h y v)) (live h y v):=by
 simp only[bI]
 cases hl:live h y v with
 | none=>simp only[Wf];cases nL h y v<;>simp[abr]
 | some r =>
  obtain⟨_,hv⟩:=bS hl
  simp only[Wf]
  cases hz:r.fz<;>simp[Zr,hv,hz]
def Zs (e:Nat) (dst:Option Nat) (T:Nat->Option Ty):Option Ty->Option bM
 | some τ =>
  match dst with
  | some d=>match τ.ds with
   | .slice el=>match T el with|some φ=>some ⟨.buf d e φ.size 0 0,[(d,some ⟨e,el,[],false,true,false⟩)]⟩|none=>none
   | _=>none
  | none=>none
 | none=>none
theorem Gh {d el b c:Nat} {z:List Value} {q:Bool} {φ:Ty} (hφ:T el=some φ):Zs e (some d) T (some ⟨.slice el,b,c,z,q⟩)=some ⟨.buf d e φ.size 0 0,[(d,some ⟨e,el,[],false,true,false⟩)]⟩:=by simp only[Zs,hφ]
theorem Sg:bI T ty e dst h (.sl true true 0 [])=Zs e dst T (T ty):=by
 unfold bI Zs
 cases dst<;>cases T ty<;>rfl
end
def okD (x:Option D):Option bM:=match x with|some d=>some ⟨d,[]⟩|none=>none
theorem Oq (d:D):okD (some d)=some ⟨d,[]⟩:=ahv
def xz (x:Option Ty) (f:Ty->Option bM):Option bM:=match x with|some τ=>f τ|none=>none
theorem OB (τ:Ty) (f:Ty->Option bM):xz (some τ) f=f τ:=ahv
def abu (x:Option (List D×List Nat)) (h:Nat->Option Row) (ty d e:Nat):Option bM :=
 match x with
 | some (cs,fr)=>if fr.contains d=false then some ⟨.ptr d e 0,iX h fr++[(d,some ⟨e,ty,cs,false,false,false⟩)]⟩ else none
 | none=>none
theorem Gm (cs:List D) (fr:List Nat) (h:Nat->Option Row) (ty d e:Nat):abu (some (cs,fr)) h ty d e=if fr.contains d=false then some ⟨.ptr d e 0,iX h fr++[(d,some ⟨e,ty,cs,false,false,false⟩)]⟩ else none:=ahv
def Z1 (d e:Nat):Option Nat->D
 | some y =>.pm d e y
 | none =>.ptr d e 0
theorem Ia {d e y:Nat} : Z1 d e (some y)=.pm d e y:=ahv
theorem H9 {d e:Nat} : Z1 d e none=.ptr d e 0:=ahv
def Cs (x:Option Ty) (ty d e:Nat) (y:Option Nat):Option bM :=
 match x with
 | some τ=>if (τ.zero.map n9).all aU then some ⟨Z1 d e y,[(d,some ⟨e,ty,τ.zero.map n9,false,false,false⟩)]⟩ else none
 | none=>none
theorem Aw (τ:Ty) (ty d e:Nat) (y:Option Nat):Cs (some τ) ty d e y=if (τ.zero.map n9).all aU then some ⟨Z1 d e y,[(d,some ⟨e,ty,τ.zero.map n9,false,false,false⟩)]⟩ else none:=ahv
def acP (T:Nat->Option Ty) (x:Option Ty) (ty e d:Nat):Option bM:=match x with|some τ=>pz T ty τ e d|none=>none
def WG (x y:Option Ty) (d:D):Option bM :=
 match x,y,d with
 | some τ,some _,.int _ n=>(match τ.ds with | .int k=>some ⟨.int k (k.wrap n),[]⟩|_=>none)
 | _,_,_=>none
theorem GJ (k:IntKind) (b c:Nat) (z:List Value) (q:Bool) (σ:Ty) (k':IntKind) (n:Int):WG (some ⟨.int k,b,c,z,q⟩) (some σ) (.int k' n)=some ⟨.int k (k.wrap n),[]⟩:=ahv
def ZG (d:D) (i:Nat):Option bM:=match d with | .tup xs=>(match xs[i]? with|some d=>some ⟨d,[]⟩|none=>none)|_=>none
theorem Mr (xs:List D) (i:Nat):ZG (.tup xs) i=okD xs[i]?:=by simp only[ZG,okD]
section
variable {T:Nat->Option Ty} {Γ:Env} {N F e:Nat} {ws:List W} {Q:Kt} {t:Nat->D} {h:Nat->Option Row}
theorem dn {x:Ex} : cB T Γ N F [] Q x t h e=Q x t h e:=ahv
theorem IA:cB T Γ N F (.code .skip::ws) Q .normal t h e=cB T Γ N F ws Q .normal t h e:=ahv
theorem OT {a b:Code} : cB T Γ N F (.code (.seq a b)::ws) Q .normal t h e=cB T Γ N F (.code a :: .code b::ws) Q .normal t h e:=ahv
theorem OS:cB T Γ N F (.code .ret::ws) Q .normal t h e=cB T Γ N F ws Q .ret t h e:=ahv
theorem Iy {id:Nat} : cB T Γ N F (.code (.exit id)::ws) Q .normal t h e=cB T Γ N F ws Q (.exit id) t h e:=ahv
theorem EW {id:Nat} {b:Code} : cB T Γ N F (.code (.block id b)::ws) Q .normal t h e=cB T Γ N F (.code b :: .blk id::ws) Q .normal t h e:=ahv
theorem Iz {b:Code} : cB T Γ N F (.code (.loop b)::ws) Q .normal t h e=TL T Γ N F b ws Q t h e:=ahv
theorem bn {c:Code} : cB T Γ N F (.code c::ws) Q .ret t h e=cB T Γ N F ws Q .ret t h e:=ahv
theorem bg {c:Code} {n:Nat} : cB T Γ N F (.code c::ws) Q (.exit n) t h e=cB T Γ N F ws Q (.exit n) t h e:=ahv
theorem tp {id:Nat} : cB T Γ N F (.blk id::ws) Q .normal t h e=cB T Γ N F ws Q .normal t h e:=ahv
theorem bB {id:Nat} : cB T Γ N F (.blk id::ws) Q .ret t h e=cB T Γ N F ws Q .ret t h e:=ahv
theorem wZ {id n:Nat} : cB T Γ N F (.blk id::ws) Q (.exit n) t h e=if n=id then cB T Γ N F ws Q .normal t h e else cB T Γ N F ws Q (.exit n) t h e:=ahv
theorem Bn {i:Nat} {ops:List Oper} : cB T Γ N F (.code (.region i ops.toArray false)::ws) Q .normal t h e=ln T Γ N F ops ops ws Q t h e:=ahv
theorem EZ {i:Nat} {ops:List Oper} : cB T Γ N F (.code (.region i ops.toArray true)::ws) Q .normal t h e=lp T Γ N F ops ops ws Q t h e []:=ahv
theorem Ix {g:Nat} {x y:Code} : cB T Γ N F (.code (.cond (.tmp g) x y)::ws) Q .normal t h e=KB T Γ N F (t g) g x y ws Q t h e:=ahv
theorem EY {x y:Code} : cB T Γ N F (.code (.cond (.const (.bool true)) x y)::ws) Q .normal t h e=cB T Γ N F (.code x::ws) Q .normal t h e:=ahv
theorem EX {x y:Code} : cB T Γ N F (.code (.cond (.const (.bool false)) x y)::ws) Q .normal t h e=cB T Γ N F (.code y::ws) Q .normal t h e:=ahv
theorem I3 {g:Nat} {x y:Code} (hg:t g=.bool true):KB T Γ N F (.bool true) g x y ws Q t h e=cB T Γ N F (.code x::ws) Q .normal t h e:=zi hg
theorem Fg {g:Nat} {x y:Code} (hg:t g=.bool false):KB T Γ N F (.bool false) g x y ws Q t h e=cB T Γ N F (.code y::ws) Q .normal t h e:=wv hg
theorem VC {b:Bool} {g:Nat} {x y:Code} : KB T Γ N F (.bool b) g x y ws Q t h e=br b (cB T Γ N F (.code x::ws) Q .normal (b8 t g (.bool true)) h e) (cB T Γ N F (.code y::ws) Q .normal (b8 t g (.bool false)) h e):=by
 unfold KB;rw[Y2];cases b<;>simp[br]
variable {ops l:List Oper} {dst:Option Nat} {op:Op} {ty:Nat} {pos:String} {af:Array Edge} {gd:Option (Nat×Bool)} {fs:List kx}
theorem OQ:ln T Γ N F ops [] ws Q t h e=cB T Γ N F ws Q .normal t h (e+1):=ahv
theorem Iv (hf:fits N dst=true):ln T Γ N F ops (⟨dst,op,ty,pos,af,none⟩::l) ws Q t h e=po T Γ N F ⟨dst,op,ty,pos,af,none⟩ ops l ws Q t h e:=by
 simp only[ln,EV,Y4,hf,true_and,po]
theorem ET {j:Nat} {want:Bool} (hf:fits N dst=true) (hj:yx ops j=true):ln T Γ N F ops (⟨dst,op,ty,pos,af,some (j,want)⟩::l) ws Q t h e=wE T Γ N F (t (uj ops j)) (uj ops j) want ⟨dst,op,ty,pos,af,none⟩ ops l ws Q t h e:=by
 simp only[ln,EV,Y4,hf,true_and,Db ops j hj,sG,wE]
 cases want<;>rfl
theorem Pr {g:Nat} {want:Bool} {o:Oper} : wE T Γ N F .skp g want o ops l ws Q t h e=ln T Γ N F ops l ws Q (dY t o.dst .skp) h e:=ahv
theorem I4 {g:Nat} {o:Oper} (hg:t g=.bool true):wE T Γ N F (.bool true) g true o ops l ws Q t h e=po T Γ N F o ops l ws Q t h e:=(zl hg).trans (if_pos rfl)
theorem Fh {g:Nat} {o:Oper} (hg:t g=.bool false):wE T Γ N F (.bool false) g true o ops l ws Q t h e=ln T Γ N F ops l ws Q (dY t o.dst .skp) h e:=(wx hg).trans (if_pos rfl)
theorem Fi {g:Nat} {o:Oper} (hg:t g=.bool true):wE T Γ N F (.bool true) g false o ops l ws Q t h e=ln T Γ N F ops l ws Q (dY t o.dst .skp) h e:=(zl hg).trans (if_neg (by decide))
theorem Bv {g:Nat} {o:Oper} (hg:t g=.bool false):wE T Γ N F (.bool false) g false o ops l ws Q t h e=po T Γ N F o ops l ws Q t h e:=(wx hg).trans (if_neg (by decide))
theorem VD {b:Bool} {g:Nat} {o:Oper} : wE T Γ N F (.bool b) g true o ops l ws Q t h e=br b (po T Γ N F o ops l ws Q (b8 t g (.bool true)) h e) (ln T Γ N F ops l ws Q (dY (b8 t g (.bool false)) o.dst .skp) h e):=by
 unfold wE;rw[zk];cases b<;>simp[br]
theorem RF {b:Bool} {g:Nat} {o:Oper} : wE T Γ N F (.bool b) g false o ops l ws Q t h e=br b (ln T Γ N F ops l ws Q (dY (b8 t g (.bool true)) o.dst .skp) h e) (po T Γ N F o ops l ws Q (b8 t g (.bool false)) h e):=by
 unfold wE;rw[zk];cases b<;>simp[br]
theorem OR:lp T Γ N F ops [] ws Q t h e fs=(Df ops.toArray fs=true∧cB T Γ N F ws Q .normal t h (e+1)):=ahv
theorem Iw (hf:fits N dst=true):lp T Γ N F ops (⟨dst,op,ty,pos,af,none⟩::l) ws Q t h e fs=pq T Γ N F ⟨dst,op,ty,pos,af,none⟩ ops l ws Q t h e fs:=by
 simp only[lp,runK,Y4,hf,true_and,pq]
theorem EU {j:Nat} {want:Bool} (hf:fits N dst=true) (hj:yx ops j=true):lp T Γ N F ops (⟨dst,op,ty,pos,af,some (j,want)⟩::l) ws Q t h e fs=wF T Γ N F (t (uj ops j)) (uj ops j) want ⟨dst,op,ty,pos,af,none⟩ ops l ws Q t h e fs:=by
 simp only[lp,runK,Y4,hf,true_and,Db ops j hj,sG,wF]
 cases want<;>rfl
theorem Ps {g:Nat} {want:Bool} {o:Oper} : wF T Γ N F .skp g want o ops l ws Q t h e fs=lp T Γ N F ops l ws Q (dY t o.dst .skp) h e (fs++[⟨[],true⟩]):=ahv
theorem I5 {g:Nat} {o:Oper} (hg:t g=.bool true):wF T Γ N F (.bool true) g true o ops l ws Q t h e fs=pq T Γ N F o ops l ws Q t h e fs:=(zl hg).trans (if_pos rfl)
theorem Fj {g:Nat} {o:Oper} (hg:t g=.bool false):wF T Γ N F (.bool false) g true o ops l ws Q t h e fs=lp T Γ N F ops l ws Q (dY t o.dst .skp) h e (fs++[⟨[],true⟩]):=(wx hg).trans (if_pos rfl)
theorem Fk {g:Nat} {o:Oper} (hg:t g=.bool true):wF T Γ N F (.bool true) g false o ops l ws Q t h e fs=lp T Γ N F ops l ws Q (dY t o.dst .skp) h e (fs++[⟨[],true⟩]):=(zl hg).trans (if_neg (by decide))
theorem Bw {g:Nat} {o:Oper} (hg:t g=.bool false):wF T Γ N F (.bool false) g false o ops l ws Q t h e fs=pq T Γ N F o ops l ws Q t h e fs:=(wx hg).trans (if_neg (by decide))
theorem VF {b:Bool} {g:Nat} {o:Oper} : wF T Γ N F (.bool b) g true o ops l ws Q t h e fs=br b (pq T Γ N F o ops l ws Q (b8 t g (.bool true)) h e fs) (lp T Γ N F ops l ws Q (dY (b8 t g (.bool false)) o.dst .skp) h e (fs++[⟨[],true⟩])):=by
 unfold wF;rw[zk];cases b<;>simp[br]
theorem RG {b:Bool} {g:Nat} {o:Oper} : wF T Γ N F (.bool b) g false o ops l ws Q t h e fs=br b (lp T Γ N F ops l ws Q (dY (b8 t g (.bool true)) o.dst .skp) h e (fs++[⟨[],true⟩])) (pq T Γ N F o ops l ws Q (b8 t g (.bool false)) h e fs):=by
 unfold wF;rw[zk];cases b<;>simp[br]
theorem Pb {d:D} {hw:List (Nat×Option Row)} : xM T Γ N F (some ⟨d,hw⟩) dst ops l ws Q t h e=ln T Γ N F ops l ws Q (dY t dst d) (aH h (kr h hw)) e:=ahv
theorem Pk {d:D} {hw:List (Nat×Option Row)} {ft:List Nat} : xN T Γ N F (some ⟨d,hw⟩) dst ft ops l ws Q t h e fs=lp T Γ N F ops l ws Q (dY t dst d) (aH h (kr h hw)) e (fs++[⟨ft,(kr h hw).isEmpty⟩]):=ahv
theorem TT {c:Prop} [Decidable c] {E:bM} : xM T Γ N F (if c then some E else none) dst ops l ws Q t h e=(c∧xM T Γ N F (some E) dst ops l ws Q t h e):=by
 by_cases hc:c<;>simp[hc,xM,E5,Zh,pJ]
theorem TY {c:Prop} [Decidable c] {E:bM} {ft:List Nat} : xN T Γ N F (if c then some E else none) dst ft ops l ws Q t h e fs=(c∧xN T Γ N F (some E) dst ft ops l ws Q t h e fs):=by
 by_cases hc:c<;>simp[hc,xN,E6,Zh,pJ]
theorem IJ {E:bM} {y:Option bM} : E5 T Γ N F (some E) y dst ops l ws Q t h e=xM T Γ N F (some E) dst ops l ws Q t h e:=ahv
theorem IV {E:bM} {y:Option bM} {ft:List Nat} : E6 T Γ N F (some E) y dst ft ops l ws Q t h e fs=xN T Γ N F (some E) dst ft ops l ws Q t h e fs:=ahv
theorem II {y:Option bM} : E5 T Γ N F none y dst ops l ws Q t h e=F1 T Γ N F y dst ops l ws Q t h e:=ahv
theorem IU {y:Option bM} {ft:List Nat} : E6 T Γ N F none y dst ft ops l ws Q t h e fs=F2 T Γ N F y dst ft ops l ws Q t h e fs:=ahv
theorem TS {x:Option bM} : E5 T Γ N F x none dst ops l ws Q t h e=xM T Γ N F x dst ops l ws Q t h e:=ahv
theorem TX {x:Option bM} {ft:List Nat} : E6 T Γ N F x none dst ft ops l ws Q t h e fs=xN T Γ N F x dst ft ops l ws Q t h e fs:=ahv
theorem IK {d:D} {hw:List (Nat×Option Row)} : F1 T Γ N F (some ⟨d,hw⟩) dst ops l ws Q t h e=ln T Γ N F ops l ws Q (dY t dst d) (aH h hw) e:=ahv
theorem IW {d:D} {hw:List (Nat×Option Row)} {ft:List Nat} : F2 T Γ N F (some ⟨d,hw⟩) dst ft ops l ws Q t h e fs=lp T Γ N F ops l ws Q (dY t dst d) (aH h hw) e (fs++[⟨ft,hw.isEmpty⟩]):=ahv
theorem O9 {c:Prop} [Decidable c] {E:bM} : F1 T Γ N F (if c then some E else none) dst ops l ws Q t h e=(c∧F1 T Γ N F (some E) dst ops l ws Q t h e):=by
 by_cases hc:c<;>simp[hc,F1,pJ]
theorem Pj {c:Prop} [Decidable c] {E:bM} {ft:List Nat} : F2 T Γ N F (if c then some E else none) dst ft ops l ws Q t h e fs=(c∧F2 T Γ N F (some E) dst ft ops l ws Q t h e fs):=by
 by_cases hc:c<;>simp[hc,F2,pJ]
theorem EA {g:Nat} {a b:Operand} (hg:t g=.bool true):X0 T Γ N F (.bool true) g a b dst ops l ws Q t h e=ln T Γ N F ops l ws Q (dY t dst (ev t a)) h e:=zi hg
theorem Bb {g:Nat} {a b:Operand} (hg:t g=.bool false):X0 T Γ N F (.bool false) g a b dst ops l ws Q t h e=ln T Γ N F ops l ws Q (dY t dst (ev t b)) h e:=wv hg
theorem EB {g:Nat} {a b:Operand} (hg:t g=.bool true):X1 T Γ N F (.bool true) g a b dst ops l ws Q t h e fs=lp T Γ N F ops l ws Q (dY t dst (ev t a)) h e (fs++[⟨[],true⟩]):=zi hg
theorem Bc {g:Nat} {a b:Operand} (hg:t g=.bool false):X1 T Γ N F (.bool false) g a b dst ops l ws Q t h e fs=lp T Γ N F ops l ws Q (dY t dst (ev t b)) h e (fs++[⟨[],true⟩]):=wv hg
theorem LY {c:Nat} {a b:Operand} : po T Γ N F ⟨dst,.pick (.tmp c) a b,ty,pos,af,gd⟩ ops l ws Q t h e=X0 T Γ N F (t c) c a b dst ops l ws Q t h e:=ahv
theorem L4 {c:Nat} {a b:Operand} : pq T Γ N F ⟨dst,.pick (.tmp c) a b,ty,pos,af,gd⟩ ops l ws Q t h e fs=X1 T Γ N F (t c) c a b dst ops l ws Q t h e fs:=ahv
theorem xZ {x y:Option bM} (hp:∀c a b,op ≠ .pick c a b) (hm:ju T Γ e ⟨dst,op,ty,pos,af,gd⟩ (ev t)=none) (hcf:mH Γ e h dst (gT (ev t) op)=none) (hx:mG T Γ e ⟨dst,op,ty,pos,af,gd⟩ (ev t) (EH h)=x) (hy:ur T Γ e ⟨dst,op,ty,pos,af,gd⟩ (ev t) h=y):po T Γ N F ⟨dst,op,ty,pos,af,gd⟩ ops l ws Q t h e=E5 T Γ N F x y dst ops l ws Q t h e:=by
 subst hx
 subst hy
 unfold po E5 RO pV
 rw[hm]
 simp only
 rw[hcf]
 cases op<;>first|rfl|exact absurd rfl (hp _ _ _)
theorem yd {x y:Option bM} (hp:∀c a b,op ≠ .pick c a b) (hm:ju T Γ e ⟨dst,op,ty,pos,af,gd⟩ (ev t)=none) (hcf:mH Γ e h dst (gT (ev t) op)=none) (hx:mG T Γ e ⟨dst,op,ty,pos,af,gd⟩ (ev t) (EH h)=x) (hy:ur T Γ e ⟨dst,op,ty,pos,af,gd⟩ (ev t) h=y):pq T Γ N F ⟨dst,op,ty,pos,af,gd⟩ ops l ws Q t h e fs=E6 T Γ N F x y dst (bj ⟨dst,op,ty,pos,af,gd⟩ (ev t)) ops l ws Q t h e fs:=by
 subst hx
 subst hy
 unfold pq E6 RO pV
 rw[hm]
 simp only
 rw[hcf]
 cases op<;>first|rfl|exact absurd rfl (hp _ _ _)
theorem eg {x:Option bM} (hp:∀c a b,op ≠ .pick c a b) (hx:mG T Γ e ⟨dst,op,ty,pos,af,gd⟩ (ev t) (EH h)=x) (hm:ju T Γ e ⟨dst,op,ty,pos,af,gd⟩ (ev t)=none:=by rfl) (hy:ur T Γ e ⟨dst,op,ty,pos,af,gd⟩ (ev t) h=none:=by rfl) (hcf:mH Γ e h dst (gT (ev t) op)=none:=by first|rfl|(cases dst<;>rfl)):po T Γ N F ⟨dst,op,ty,pos,af,gd⟩ ops l ws Q t h e=xM T Γ N F x dst ops l ws Q t h e:=xZ hp hm hcf hx hy
theorem eh {x:Option bM} (hp:∀c a b,op ≠ .pick c a b) (hx:mG T Γ e ⟨dst,op,ty,pos,af,gd⟩ (ev t) (EH h)=x) (hm:ju T Γ e ⟨dst,op,ty,pos,af,gd⟩ (ev t)=none:=by rfl) (hy:ur T Γ e ⟨dst,op,ty,pos,af,gd⟩ (ev t) h=none:=by rfl) (hcf:mH Γ e h dst (gT (ev t) op)=none:=by first|rfl|(cases dst<;>rfl)):pq T Γ N F ⟨dst,op,ty,pos,af,gd⟩ ops l ws Q t h e fs=xN T Γ N F x dst (bj ⟨dst,op,ty,pos,af,gd⟩ (ev t)) ops l ws Q t h e fs:=yd hp hm hcf hx hy
theorem LX {x:Operand} : po T Γ N F ⟨dst,.move x,ty,pos,af,gd⟩ ops l ws Q t h e=ln T Γ N F ops l ws Q (dY t dst (ev t x)) h e:=(eg (fun _ _ _ hh=>by cases hh) rfl).trans rfl
theorem L3 {x:Operand} : pq T Γ N F ⟨dst,.move x,ty,pos,af,gd⟩ ops l ws Q t h e fs=lp T Γ N F ops l ws Q (dY t dst (ev t x)) h e (fs++[⟨[],true⟩]):=(eh (fun _ _ _ hh=>by cases hh) rfl).trans rfl
theorem GN {o:BinOp} {tt z:Nat} {x y:Operand} : po T Γ N F ⟨dst,.binOp o tt x y z,ty,pos,af,gd⟩ ops l ws Q t h e=xM T Γ N F (okD (zJ T tt o (ev t x) (ev t y))) dst ops l ws Q t h e:=eg (fun _ _ _ hh=>by cases hh) (by simp only[mG];first|rfl|(cases zJ T tt o (ev t x) (ev t y)<;>rfl))
theorem GW {o:BinOp} {tt z:Nat} {x y:Operand} : pq T Γ N F ⟨dst,.binOp o tt x y z,ty,pos,af,gd⟩ ops l ws Q t h e fs=xN T Γ N F (okD (zJ T tt o (ev t x) (ev t y))) dst (bj ⟨dst,.binOp o tt x y z,ty,pos,af,gd⟩ (ev t)) ops l ws Q t h e fs:=eh (fun _ _ _ hh=>by cases hh) (by simp only[mG];first|rfl|(cases zJ T tt o (ev t x) (ev t y)<;>rfl))
theorem LZ {o:UnOp} {tt:Nat} {x:Operand} : po T Γ N F ⟨dst,.unOp o tt x,ty,pos,af,gd⟩ ops l ws Q t h e=xM T Γ N F (okD (F3 o (ev t x))) dst ops l ws Q t h e:=eg (fun _ _ _ hh=>by cases hh) (by simp only[mG];first|rfl|(cases F3 o (ev t x)<;>rfl))
theorem L5 {o:UnOp} {tt:Nat} {x:Operand} : pq T Γ N F ⟨dst,.unOp o tt x,ty,pos,af,gd⟩ ops l ws Q t h e fs=xN T Γ N F (okD (F3 o (ev t x))) dst (bj ⟨dst,.unOp o tt x,ty,pos,af,gd⟩ (ev t)) ops l ws Q t h e fs:=eh (fun _ _ _ hh=>by cases hh) (by simp only[mG];first|rfl|(cases F3 o (ev t x)<;>rfl))
theorem C1 {x:Operand} : po T Γ N F ⟨dst,.assign x,ty,pos,af,gd⟩ ops l ws Q t h e=xM T Γ N F (qK T Γ.own ty e dst (EH h) (ev t x)) dst ops l ws Q t h e:=eg (fun _ _ _ hh=>by cases hh) rfl
theorem C4 {x:Operand} : pq T Γ N F ⟨dst,.assign x,ty,pos,af,gd⟩ ops l ws Q t h e fs=xN T Γ N F (qK T Γ.own ty e dst (EH h) (ev t x)) dst (bj ⟨dst,.assign x,ty,pos,af,gd⟩ (ev t)) ops l ws Q t h e fs:=eh (fun _ _ _ hh=>by cases hh) rfl
theorem yb {f:Nat} {first caps:List Operand} : po T Γ N F ⟨dst,.makeFunc (.func f) first.toArray caps.toArray,ty,pos,af,gd⟩ ops l ws Q t h e=xM T Γ N F (if (first.map (ev t)++caps.map (ev t)).all jC then some ⟨.clo f first.length (first.map (ev t)++caps.map (ev t)),[]⟩ else none) dst ops l ws Q t h e:=eg (fun _ _ _ hh=>by cases hh) rfl
theorem ye {f:Nat} {first caps:List Operand} : pq T Γ N F ⟨dst,.makeFunc (.func f) first.toArray caps.toArray,ty,pos,af,gd⟩ ops l ws Q t h e fs=xN T Γ N F (if (first.map (ev t)++caps.map (ev t)).all jC then some ⟨.clo f first.length (first.map (ev t)++caps.map (ev t)),[]⟩ else none) dst (bj ⟨dst,.makeFunc (.func f) first.toArray caps.toArray,ty,pos,af,gd⟩ (ev t)) ops l ws Q t h e fs:=eh (fun _ _ _ hh=>by cases hh) rfl
theorem LV {tt:Nat} {x:Operand} : po T Γ N F ⟨dst,.load tt x,ty,pos,af,gd⟩ ops l ws Q t h e=E5 T Γ N F (xz (T tt) fun τ=>nI τ (EH h) (ev t x)) (xz (T tt) fun τ=>n7 τ h (ev t x)) dst ops l ws Q t h e:=xZ (fun _ _ _ hh=>by cases hh) rfl (by cases dst<;>rfl) (by simp only[mG];first|rfl|(cases T tt<;>rfl)) (by simp only[ur];first|rfl|(cases T tt<;>rfl))
theorem L1 {tt:Nat} {x:Operand} : pq T Γ N F ⟨dst,.load tt x,ty,pos,af,gd⟩ ops l ws Q t h e fs=E6 T Γ N F (xz (T tt) fun τ=>nI τ (EH h) (ev t x)) (xz (T tt) fun τ=>n7 τ h (ev t x)) dst (bj ⟨dst,.load tt x,ty,pos,af,gd⟩ (ev t)) ops l ws Q t h e fs:=yd (fun _ _ _ hh=>by cases hh) rfl (by cases dst<;>rfl) (by simp only[mG];first|rfl|(cases T tt<;>rfl)) (by simp only[ur];first|rfl|(cases T tt<;>rfl))
theorem GU {tt:Nat} {x y:Operand} : po T Γ N F ⟨dst,.store tt x y,ty,pos,af,gd⟩ ops l ws Q t h e=E5 T Γ N F (xz (T tt) fun τ=>cL τ (EH h) (ev t x) (ev t y)) (xz (T tt) fun τ=>l4 τ e h (ev t x) (ev t y)) dst ops l ws Q t h e:=xZ (fun _ _ _ hh=>by cases hh) rfl (by cases dst<;>rfl) (by simp only[mG];first|rfl|(cases T tt<;>rfl)) (by simp only[ur];first|rfl|(cases T tt<;>rfl))
theorem G2 {tt:Nat} {x y:Operand} : pq T Γ N F ⟨dst,.store tt x y,ty,pos,af,gd⟩ ops l ws Q t h e fs=E6 T Γ N F (xz (T tt) fun τ=>cL τ (EH h) (ev t x) (ev t y)) (xz (T tt) fun τ=>l4 τ e h (ev t x) (ev t y)) dst (bj ⟨dst,.store tt x y,ty,pos,af,gd⟩ (ev t)) ops l ws Q t h e fs:=yd (fun _ _ _ hh=>by cases hh) rfl (by cases dst<;>rfl) (by simp only[mG];first|rfl|(cases T tt<;>rfl)) (by simp only[ur];first|rfl|(cases T tt<;>rfl))
theorem yc {x:Operand} : po T Γ N F ⟨dst,.nilCheck x,ty,pos,af,gd⟩ ops l ws Q t h e=xM T Γ N F (jK (EH h) (ev t x)) dst ops l ws Q t h e:=eg (fun _ _ _ hh=>by cases hh) rfl
theorem yf {x:Operand} : pq T Γ N F ⟨dst,.nilCheck x,ty,pos,af,gd⟩ ops l ws Q t h e fs=xN T Γ N F (jK (EH h) (ev t x)) dst (bj ⟨dst,.nilCheck x,ty,pos,af,gd⟩ (ev t)) ops l ws Q t h e fs:=eh (fun _ _ _ hh=>by cases hh) rfl
theorem wH {tt i:Nat} {x:Operand} : po T Γ N F ⟨dst,.fieldAddr tt x i,ty,pos,af,gd⟩ ops l ws Q t h e=xM T Γ N F (xz (T tt) fun τ=>dz T τ (EH h) i (ev t x)) dst ops l ws Q t h e:=eg (fun _ _ _ hh=>by cases hh) (by simp only[mG];first|rfl|(cases T tt<;>rfl))
theorem wL {tt i:Nat} {x:Operand} : pq T Γ N F ⟨dst,.fieldAddr tt x i,ty,pos,af,gd⟩ ops l ws Q t h e fs=xN T Γ N F (xz (T tt) fun τ=>dz T τ (EH h) i (ev t x)) dst (bj ⟨dst,.fieldAddr tt x i,ty,pos,af,gd⟩ (ev t)) ops l ws Q t h e fs:=eh (fun _ _ _ hh=>by cases hh) (by simp only[mG];first|rfl|(cases T tt<;>rfl))
theorem GP {tt i:Nat} {x:Operand} : po T Γ N F ⟨dst,.field tt x i,ty,pos,af,gd⟩ ops l ws Q t h e=xM T Γ N F (xz (T tt) fun τ=>l3 T τ i (ev t x)) dst ops l ws Q t h e:=eg (fun _ _ _ hh=>by cases hh) (by simp only[mG];first|rfl|(cases T tt<;>rfl))
theorem GY {tt i:Nat} {x:Operand} : pq T Γ N F ⟨dst,.field tt x i,ty,pos,af,gd⟩ ops l ws Q t h e fs=xN T Γ N F (xz (T tt) fun τ=>l3 T τ i (ev t x)) dst (bj ⟨dst,.field tt x i,ty,pos,af,gd⟩ (ev t)) ops l ws Q t h e fs:=eh (fun _ _ _ hh=>by cases hh) (by simp only[mG];first|rfl|(cases T tt<;>rfl))
theorem wI {tt:Nat} {x i:Operand} : po T Γ N F ⟨dst,.indexAddr tt x i,ty,pos,af,gd⟩ ops l ws Q t h e=xM T Γ N F (xz (T tt) fun τ=>bz T τ (EH h) (ev t x) (ev t i)) dst ops l ws Q t h e:=eg (fun _ _ _ hh=>by cases hh) (by simp only[mG];first|rfl|(cases T tt<;>rfl))
theorem wM {tt:Nat} {x i:Operand} : pq T Γ N F ⟨dst,.indexAddr tt x i,ty,pos,af,gd⟩ ops l ws Q t h e fs=xN T Γ N F (xz (T tt) fun τ=>bz T τ (EH h) (ev t x) (ev t i)) dst (bj ⟨dst,.indexAddr tt x i,ty,pos,af,gd⟩ (ev t)) ops l ws Q t h e fs:=eh (fun _ _ _ hh=>by cases hh) (by simp only[mG];first|rfl|(cases T tt<;>rfl))
theorem GQ {tt:Nat} {x i:Operand} : po T Γ N F ⟨dst,.index tt x i,ty,pos,af,gd⟩ ops l ws Q t h e=xM T Γ N F (xz (T tt) fun τ=>fV T τ (ev t x) (ev t i)) dst ops l ws Q t h e:=eg (fun _ _ _ hh=>by cases hh) (by simp only[mG];first|rfl|(cases T tt<;>rfl))
theorem GZ {tt:Nat} {x i:Operand} : pq T Γ N F ⟨dst,.index tt x i,ty,pos,af,gd⟩ ops l ws Q t h e fs=xN T Γ N F (xz (T tt) fun τ=>fV T τ (ev t x) (ev t i)) dst (bj ⟨dst,.index tt x i,ty,pos,af,gd⟩ (ev t)) ops l ws Q t h e fs:=eh (fun _ _ _ hh=>by cases hh) (by simp only[mG];first|rfl|(cases T tt<;>rfl))
theorem GR {tt:Nat} {x:Operand} {lo hi mx:Option Operand} : po T Γ N F ⟨dst,.slice tt x lo hi mx,ty,pos,af,gd⟩ ops l ws Q t h e=xM T Γ N F (xz (T tt) fun τ=>cr T τ (EH h) (ev t x) (lo.map (ev t)) (hi.map (ev t)) (mx.map (ev t))) dst ops l ws Q t h e:=eg (fun _ _ _ hh=>by cases hh) (by simp only[mG];first|rfl|(cases T tt<;>rfl))
theorem G0 {tt:Nat} {x:Operand} {lo hi mx:Option Operand} : pq T Γ N F ⟨dst,.slice tt x lo hi mx,ty,pos,af,gd⟩ ops l ws Q t h e fs=xN T Γ N F (xz (T tt) fun τ=>cr T τ (EH h) (ev t x) (lo.map (ev t)) (hi.map (ev t)) (mx.map (ev t))) dst (bj ⟨dst,.slice tt x lo hi mx,ty,pos,af,gd⟩ (ev t)) ops l ws Q t h e fs:=eh (fun _ _ _ hh=>by cases hh) (by simp only[mG];first|rfl|(cases T tt<;>rfl))
theorem GO {tt:Nat} {ps:List (Nat×Operand)} : po T Γ N F ⟨dst,.build tt ps.toArray,ty,pos,af,gd⟩ ops l ws Q t h e=xM T Γ N F (xz (T tt) fun τ=>pr Γ.own T τ (EH h) dst (ps.map fun p=>(p.1,ev t p.2))) dst ops l ws Q t h e:=eg (fun _ _ _ hh=>by cases hh) (by simp only[mG];first|rfl|(cases T tt<;>rfl))
theorem GX {tt:Nat} {ps:List (Nat×Operand)} : pq T Γ N F ⟨dst,.build tt ps.toArray,ty,pos,af,gd⟩ ops l ws Q t h e fs=xN T Γ N F (xz (T tt) fun τ=>pr Γ.own T τ (EH h) dst (ps.map fun p=>(p.1,ev t p.2))) dst (bj ⟨dst,.build tt ps.toArray,ty,pos,af,gd⟩ (ev t)) ops l ws Q t h e fs:=eh (fun _ _ _ hh=>by cases hh) (by simp only[mG];first|rfl|(cases T tt<;>rfl))
theorem uf {tt len d:Nat} {ps:List (Nat×Operand)} : po T Γ N F ⟨some d,.buildSlice tt len ps.toArray,ty,pos,af,gd⟩ ops l ws Q t h e=xM T Γ N F (xz (T tt) fun τ=>dy T τ (EH h) e d len (ps.map fun p=>(p.1,ev t p.2))) (some d) ops l ws Q t h e:=eg (fun _ _ _ hh=>by cases hh) (by simp only[mG];first|rfl|(cases T tt<;>rfl))
theorem ug {tt len d:Nat} {ps:List (Nat×Operand)} : pq T Γ N F ⟨some d,.buildSlice tt len ps.toArray,ty,pos,af,gd⟩ ops l ws Q t h e fs=xN T Γ N F (xz (T tt) fun τ=>dy T τ (EH h) e d len (ps.map fun p=>(p.1,ev t p.2))) (some d) (bj ⟨some d,.buildSlice tt len ps.toArray,ty,pos,af,gd⟩ (ev t)) ops l ws Q t h e fs:=eh (fun _ _ _ hh=>by cases hh) (by simp only[mG];first|rfl|(cases T tt<;>rfl))
def Ec (T:Nat->Option Ty) (e d tt:Nat) (x y:D):Option (Nat×Nat×Nat)->Option bM
 | some p=>(match T tt with|some τ=>lN T τ e d p.1 p.2.1 p.2.2 x y|none=>none)
 | none=>none
theorem HK {d tt:Nat} {x y:D} : Ec T e d tt x y none=none:=ahv
theorem HL {d tt:Nat} {x y:D} {p:Nat×Nat×Nat} {τ:Ty} (hτ:T tt=some τ):Ec T e d tt x y (some p)=lN T τ e d p.1 p.2.1 p.2.2 x y:=by simp only[Ec,hτ]
def stM (y x:Option bM) (dst:Option Nat) (ops l:List Oper) (ws:List W) (Q:Kt) (t:Nat->D) (h:Nat->Option Row) (e:Nat):Prop :=
 match y with
 | some E=>F1 T Γ N F (some E) dst ops l ws Q t h e
 | none=>xM T Γ N F x dst ops l ws Q t h e
def aag (y x:Option bM) (dst:Option Nat) (ft:List Nat) (ops l:List Oper) (ws:List W) (Q:Kt) (t:Nat->D) (h:Nat->Option Row) (e:Nat) (fs:List kx):Prop :=
 match y with
 | some E=>F2 T Γ N F (some E) dst ft ops l ws Q t h e fs
 | none=>xN T Γ N F x dst ft ops l ws Q t h e fs
theorem wJ {tt d:Nat} {x y:Operand} : po T Γ N F ⟨some d,.makeSlice tt x y,ty,pos,af,gd⟩ ops l ws Q t h e=stM (T:=T) (Γ:=Γ) (N:=N) (F:=F) (Ec T e d tt (ev t x) (ev t y) (Γ.nst d)) (xz (T tt) fun τ=>p9 T τ e d (ev t x) (ev t y)) (some d) ops l ws Q t h e:=by
 have hm:ju T Γ e ⟨some d,.makeSlice tt x y,ty,pos,af,gd⟩ (ev t)=Ec T e d tt (ev t x) (ev t y) (Γ.nst d):=by
  unfold ju Ec
  simp only
  cases Γ.nst d<;>rfl
 cases hc:Ec T e d tt (ev t x) (ev t y) (Γ.nst d) with
 | none=>exact eg (fun _ _ _ hh=>by cases hh) (by simp only[mG];first|rfl|(cases T tt<;>rfl)) (hm.trans hc)
 | some E=>unfold po RO pV;rw[hm,hc];rfl
theorem wN {tt d:Nat} {x y:Operand} : pq T Γ N F ⟨some d,.makeSlice tt x y,ty,pos,af,gd⟩ ops l ws Q t h e fs=aag (T:=T) (Γ:=Γ) (N:=N) (F:=F) (Ec T e d tt (ev t x) (ev t y) (Γ.nst d)) (xz (T tt) fun τ=>p9 T τ e d (ev t x) (ev t y)) (some d) (bj ⟨some d,.makeSlice tt x y,ty,pos,af,gd⟩ (ev t)) ops l ws Q t h e fs:=by
 have hm:ju T Γ e ⟨some d,.makeSlice tt x y,ty,pos,af,gd⟩ (ev t)=Ec T e d tt (ev t x) (ev t y) (Γ.nst d):=by
  unfold ju Ec
  simp only
  cases Γ.nst d<;>rfl
 cases hc:Ec T e d tt (ev t x) (ev t y) (Γ.nst d) with
 | none=>exact eh (fun _ _ _ hh=>by cases hh) (by simp only[mG];first|rfl|(cases T tt<;>rfl)) (hm.trans hc)
 | some E=>unfold pq RO pV;rw[hm,hc];rfl
theorem Pd {x:Option bM} : stM (T:=T) (Γ:=Γ) (N:=N) (F:=F) none x dst ops l ws Q t h e=xM T Γ N F x dst ops l ws Q t h e:=ahv
theorem IL {x:Option bM} {ft:List Nat} : aag (T:=T) (Γ:=Γ) (N:=N) (F:=F) none x dst ft ops l ws Q t h e fs=xN T Γ N F x dst ft ops l ws Q t h e fs:=ahv
theorem Pe {x:Option bM} {E:bM} : stM (T:=T) (Γ:=Γ) (N:=N) (F:=F) (some E) x dst ops l ws Q t h e=F1 T Γ N F (some E) dst ops l ws Q t h e:=ahv
theorem IM {x:Option bM} {ft:List Nat} {E:bM} : aag (T:=T) (Γ:=Γ) (N:=N) (F:=F) (some E) x dst ft ops l ws Q t h e fs=F2 T Γ N F (some E) dst ft ops l ws Q t h e fs:=ahv
theorem TU {x:Option bM} {c:Prop} [Decidable c] {E:bM} (hc:c):stM (T:=T) (Γ:=Γ) (N:=N) (F:=F) (if c then some E else none) x dst ops l ws Q t h e=F1 T Γ N F (some E) dst ops l ws Q t h e:=by rw[if_pos hc];rfl
theorem Pc {x:Option bM} {ft:List Nat} {c:Prop} [Decidable c] {E:bM} (hc:c):aag (T:=T) (Γ:=Γ) (N:=N) (F:=F) (if c then some E else none) x dst ft ops l ws Q t h e fs=F2 T Γ N F (some E) dst ft ops l ws Q t h e fs:=by rw[if_pos hc];rfl
theorem GM {tt d:Nat} : po T Γ N F ⟨some d,.alloc tt,ty,pos,af,gd⟩ ops l ws Q t h e=xM T Γ N F (Cs (T tt) tt d e (Γ.hint d)) (some d) ops l ws Q t h e:=eg (fun _ _ _ hh=>by cases hh) (by simp only[mG];cases T tt with|none=>rfl|some τ=>(dsimp only[Cs];cases Γ.hint d<;>rfl))
theorem GV {tt d:Nat} : pq T Γ N F ⟨some d,.alloc tt,ty,pos,af,gd⟩ ops l ws Q t h e fs=xN T Γ N F (Cs (T tt) tt d e (Γ.hint d)) (some d) (bj ⟨some d,.alloc tt,ty,pos,af,gd⟩ (ev t)) ops l ws Q t h e fs:=eh (fun _ _ _ hh=>by cases hh) (by simp only[mG];cases T tt with|none=>rfl|some τ=>(dsimp only[Cs];cases Γ.hint d<;>rfl))
theorem AN {tt d:Nat} : po T Γ N F ⟨some d,.makeMap tt none,ty,pos,af,gd⟩ ops l ws Q t h e=xM T Γ N F (acP T (T tt) tt e d) (some d) ops l ws Q t h e:=eg (fun _ _ _ hh=>by cases hh) (by simp only[mG];first|rfl|(cases T tt<;>rfl))
theorem AR {tt d:Nat} : pq T Γ N F ⟨some d,.makeMap tt none,ty,pos,af,gd⟩ ops l ws Q t h e fs=xN T Γ N F (acP T (T tt) tt e d) (some d) (bj ⟨some d,.makeMap tt none,ty,pos,af,gd⟩ (ev t)) ops l ws Q t h e fs:=eh (fun _ _ _ hh=>by cases hh) (by simp only[mG];first|rfl|(cases T tt<;>rfl))
theorem C3 {tt:Nat} {m i:Operand} {ok:Bool} : po T Γ N F ⟨dst,.lookup tt m i ok,ty,pos,af,gd⟩ ops l ws Q t h e=xM T Γ N F (xz (T tt) fun τ=>jj T τ (EH h) (ev t m) (ev t i) ok) dst ops l ws Q t h e:=eg (fun _ _ _ hh=>by cases hh) (by simp only[mG];first|rfl|(cases T tt<;>rfl))
theorem C6 {tt:Nat} {m i:Operand} {ok:Bool} : pq T Γ N F ⟨dst,.lookup tt m i ok,ty,pos,af,gd⟩ ops l ws Q t h e fs=xN T Γ N F (xz (T tt) fun τ=>jj T τ (EH h) (ev t m) (ev t i) ok) dst (bj ⟨dst,.lookup tt m i ok,ty,pos,af,gd⟩ (ev t)) ops l ws Q t h e fs:=eh (fun _ _ _ hh=>by cases hh) (by simp only[mG];first|rfl|(cases T tt<;>rfl))
theorem wK {tt:Nat} {m i x:Operand} : po T Γ N F ⟨dst,.mapUpdate tt m i x,ty,pos,af,gd⟩ ops l ws Q t h e=xM T Γ N F (xz (T tt) fun τ=>dh T τ (EH h) (ev t m) (ev t i) (ev t x)) dst ops l ws Q t h e:=eg (fun _ _ _ hh=>by cases hh) (by simp only[mG];first|rfl|(cases T tt<;>rfl))
theorem wO {tt:Nat} {m i x:Operand} : pq T Γ N F ⟨dst,.mapUpdate tt m i x,ty,pos,af,gd⟩ ops l ws Q t h e fs=xN T Γ N F (xz (T tt) fun τ=>dh T τ (EH h) (ev t m) (ev t i) (ev t x)) dst (bj ⟨dst,.mapUpdate tt m i x,ty,pos,af,gd⟩ (ev t)) ops l ws Q t h e fs:=eh (fun _ _ _ hh=>by cases hh) (by simp only[mG];first|rfl|(cases T tt<;>rfl))
theorem C2 {tt:Nat} {m i x:Operand} : po T Γ N F ⟨dst,.insert tt m i x,ty,pos,af,gd⟩ ops l ws Q t h e=xM T Γ N F (xz (T tt) fun τ=>dh T τ (EH h) (ev t m) (ev t i) (ev t x)) dst ops l ws Q t h e:=eg (fun _ _ _ hh=>by cases hh) (by simp only[mG];first|rfl|(cases T tt<;>rfl))
theorem C5 {tt:Nat} {m i x:Operand} : pq T Γ N F ⟨dst,.insert tt m i x,ty,pos,af,gd⟩ ops l ws Q t h e fs=xN T Γ N F (xz (T tt) fun τ=>dh T τ (EH h) (ev t m) (ev t i) (ev t x)) dst (bj ⟨dst,.insert tt m i x,ty,pos,af,gd⟩ (ev t)) ops l ws Q t h e fs:=eh (fun _ _ _ hh=>by cases hh) (by simp only[mG];first|rfl|(cases T tt<;>rfl))
theorem SG {tt d:Nat} {x:Operand} : po T Γ N F ⟨some d,.box tt x,ty,pos,af,gd⟩ ops l ws Q t h e=xM T Γ N F (abu (ee (EH h) (ev t x)) (EH h) tt d e) (some d) ops l ws Q t h e:=eg (fun _ _ _ hh=>by cases hh) (by simp only[mG];first|rfl|(cases ee (EH h) (ev t x)<;>rfl))
theorem SH {tt d:Nat} {x:Operand} : pq T Γ N F ⟨some d,.box tt x,ty,pos,af,gd⟩ ops l ws Q t h e fs=xN T Γ N F (abu (ee (EH h) (ev t x)) (EH h) tt d e) (some d) (bj ⟨some d,.box tt x,ty,pos,af,gd⟩ (ev t)) ops l ws Q t h e fs:=eh (fun _ _ _ hh=>by cases hh) (by simp only[mG];first|rfl|(cases ee (EH h) (ev t x)<;>rfl))
theorem AL {a b:Nat} {x:Operand} : po T Γ N F ⟨dst,.convert a b x,ty,pos,af,gd⟩ ops l ws Q t h e=xM T Γ N F (WG (T b) (T a) (ev t x)) dst ops l ws Q t h e:=eg (fun _ _ _ hh=>by cases hh) rfl
theorem AP {a b:Nat} {x:Operand} : pq T Γ N F ⟨dst,.convert a b x,ty,pos,af,gd⟩ ops l ws Q t h e fs=xN T Γ N F (WG (T b) (T a) (ev t x)) dst (bj ⟨dst,.convert a b x,ty,pos,af,gd⟩ (ev t)) ops l ws Q t h e fs:=eh (fun _ _ _ hh=>by cases hh) rfl
theorem AM {x:Nat} {i:Nat} : po T Γ N F ⟨dst,.extract (.tmp x) i,ty,pos,af,gd⟩ ops l ws Q t h e=xM T Γ N F (ZG (t x) i) dst ops l ws Q t h e:=eg (fun _ _ _ hh=>by cases hh) rfl
theorem AQ {x:Nat} {i:Nat} : pq T Γ N F ⟨dst,.extract (.tmp x) i,ty,pos,af,gd⟩ ops l ws Q t h e fs=xN T Γ N F (ZG (t x) i) dst (bj ⟨dst,.extract (.tmp x) i,ty,pos,af,gd⟩ (ev t)) ops l ws Q t h e fs:=eh (fun _ _ _ hh=>by cases hh) rfl
def cnL (Γ:Env) (e:Nat) (h:Nat->Option Row) (g:Nat) (args:List D):Option (Nat×(Nat->Nat->Nat->Nat->List D->List D->Option (D×List D)))->Option bM
 | some _=>qT Γ e h g args
 | none=>none
theorem LN {g:Nat} {args:List D} : cnL Γ e h g args none=none:=ahv
theorem LO {g:Nat} {args:List D} {p:Nat×(Nat->Nat->Nat->Nat->List D->List D->Option (D×List D))} : cnL Γ e h g args (some p)=qT Γ e h g args:=ahv
theorem W5 {g:Nat} {args:List D} : AW Γ e h (some (.fn g,args))=cnL Γ e h g args (Γ.nx.lnd g):=by
 cases hl:Γ.nx.lnd g with
 | some p=>rfl
 | none =>
  show qT Γ e h g args=none
  cases hc:qT Γ e h g args with
  | none=>rfl
  | some E =>
   obtain⟨_,_,_,_,_,_,_,_,_,_,_,_,_,_,_,_,h1,_⟩:=rZ hc
   rw[hl]at h1
   cases h1
theorem SM {f k:Nat} {xs args:List D} : AW Γ e h (some (.clo f k xs,args))=none:=ahv
theorem W4 {d g:Nat} {args:List D} : mH Γ e h (some d) (some (.fn g,args))=Dq e d h args (Γ.nx.res g):=ahv
theorem SL {dst:Option Nat} {f k:Nat} {xs args:List D} : mH Γ e h dst (some (.clo f k xs,args))=none:=by cases dst<;>rfl
theorem L9 {q:Option (D×List D)} : mH Γ e h none q=none:=ahv
theorem Ma {d:Nat} {args:List D} : Dq e d h args none=none:=ahv
theorem Mb {d:Nat} {args:List D} {p:List D->Option (Nat×Nat×Nat×Nat×Nat×List D)} : Dq e d h args (some p)=Gv p e d (bk (EH h) args):=ahv
theorem Ld {d:Nat} {aeJ:List D} {p:List D->Option (Nat×Nat×Nat×Nat×Nat×List D)} : Gv p e d (some (aeJ,[]))=Jg e d (p aeJ):=ahv
theorem Gw {d ty tt s S n:Nat} {cs:List D} (hd:d<1000000):Jg e d (some (ty,tt,s,S,n,cs))=some ⟨.buf d e S 0 n,[(d,some ⟨e,ty,[.nr tt s (4*e+2) cs],false,true,true⟩)]⟩:=if_pos (by rw[cO];exact hd)
def stC (y0 x y:Option bM) (dst:Option Nat) (ops l:List Oper) (ws:List W) (Q:Kt) (t:Nat->D) (h:Nat->Option Row) (e:Nat):Prop :=
 match y0 with
 | some E=>F1 T Γ N F (some E) dst ops l ws Q t h e
 | none=>E5 T Γ N F x y dst ops l ws Q t h e
def ab4 (y0 x y:Option bM) (dst:Option Nat) (ft:List Nat) (ops l:List Oper) (ws:List W) (Q:Kt) (t:Nat->D) (h:Nat->Option Row) (e:Nat) (fs:List kx):Prop :=
 match y0 with
 | some E=>F2 T Γ N F (some E) dst ft ops l ws Q t h e fs
 | none=>E6 T Γ N F x y dst ft ops l ws Q t h e fs
theorem O7 {x y:Option bM} : stC (T:=T) (Γ:=Γ) (N:=N) (F:=F) none x y dst ops l ws Q t h e=E5 T Γ N F x y dst ops l ws Q t h e:=ahv
theorem IG {x y:Option bM} {ft:List Nat} : ab4 (T:=T) (Γ:=Γ) (N:=N) (F:=F) none x y dst ft ops l ws Q t h e fs=E6 T Γ N F x y dst ft ops l ws Q t h e fs:=ahv
theorem O8 {x y:Option bM} {E:bM} : stC (T:=T) (Γ:=Γ) (N:=N) (F:=F) (some E) x y dst ops l ws Q t h e=F1 T Γ N F (some E) dst ops l ws Q t h e:=ahv
theorem IH {x y:Option bM} {ft:List Nat} {E:bM} : ab4 (T:=T) (Γ:=Γ) (N:=N) (F:=F) (some E) x y dst ft ops l ws Q t h e fs=F2 T Γ N F (some E) dst ft ops l ws Q t h e fs:=ahv
theorem LU {x:Operand} {aeJ:List Operand} {tys:Array Nat} : po T Γ N F ⟨dst,.call ⟨.value x,aeJ.toArray,tys⟩,ty,pos,af,gd⟩ ops l ws Q t h e=stC (T:=T) (Γ:=Γ) (N:=N) (F:=F) (mH Γ e h dst (some (ev t x,aeJ.map (ev t)))) (hX Γ (EH h) e dst (ev t x) (aeJ.map (ev t))) (AW Γ e h (some (ev t x,aeJ.map (ev t)))) dst ops l ws Q t h e:=by
 have hco:gT (ev t) (.call ⟨.value x,aeJ.toArray,tys⟩)=some (ev t x,aeJ.map (ev t)):=rfl
 cases hc:mH Γ e h dst (some (ev t x,aeJ.map (ev t))) with
 | none=>exact xZ (fun _ _ _ hh=>by cases hh) rfl (by rw[hco];exact hc) rfl rfl
 | some E=>unfold po RO pV;simp only[ju,hco,hc];rfl
theorem L0 {x:Operand} {aeJ:List Operand} {tys:Array Nat} : pq T Γ N F ⟨dst,.call ⟨.value x,aeJ.toArray,tys⟩,ty,pos,af,gd⟩ ops l ws Q t h e fs=ab4 (T:=T) (Γ:=Γ) (N:=N) (F:=F) (mH Γ e h dst (some (ev t x,aeJ.map (ev t)))) (hX Γ (EH h) e dst (ev t x) (aeJ.map (ev t))) (AW Γ e h (some (ev t x,aeJ.map (ev t)))) dst (bj ⟨dst,.call ⟨.value x,aeJ.toArray,tys⟩,ty,pos,af,gd⟩ (ev t)) ops l ws Q t h e fs:=by
 have hco:gT (ev t) (.call ⟨.value x,aeJ.toArray,tys⟩)=some (ev t x,aeJ.map (ev t)):=rfl
 cases hc:mH Γ e h dst (some (ev t x,aeJ.map (ev t))) with
 | none=>exact yd (fun _ _ _ hh=>by cases hh) rfl (by rw[hco];exact hc) rfl rfl
 | some E=>unfold pq RO pV;simp only[ju,hco,hc];rfl
theorem AK {x:Builtin} {aeJ:List Operand} {tys:List Nat} : po T Γ N F ⟨dst,.call ⟨.builtin x,aeJ.toArray,tys.toArray⟩,ty,pos,af,gd⟩ ops l ws Q t h e=xM T Γ N F (ca T (EH h) e dst x tys (aeJ.map (ev t))) dst ops l ws Q t h e:=eg (fun _ _ _ hh=>by cases hh) rfl
theorem AO {x:Builtin} {aeJ:List Operand} {tys:List Nat} : pq T Γ N F ⟨dst,.call ⟨.builtin x,aeJ.toArray,tys.toArray⟩,ty,pos,af,gd⟩ ops l ws Q t h e fs=xN T Γ N F (ca T (EH h) e dst x tys (aeJ.map (ev t))) dst (bj ⟨dst,.call ⟨.builtin x,aeJ.toArray,tys.toArray⟩,ty,pos,af,gd⟩ (ev t)) ops l ws Q t h e fs:=eh (fun _ _ _ hh=>by cases hh) rfl
theorem bF {o:Array Oper} {A:Prop} (h1:Df o fs=true) (h2:A):Df o fs=true∧A:=⟨h1,h2⟩
theorem au {b:Bool} {g:Nat} {x y:Code} (h1:b=true->cB T Γ N F (.code x::ws) Q .normal (b8 t g (.bool true)) h e) (h2:b=false->cB T Γ N F (.code y::ws) Q .normal (b8 t g (.bool false)) h e):KB T Γ N F (.bool b) g x y ws Q t h e:=by rw[VC];exact⟨h1,h2⟩
theorem dj {b:Bool} {g:Nat} {o:Oper} (h1:b=true->po T Γ N F o ops l ws Q (b8 t g (.bool true)) h e) (h2:b=false->ln T Γ N F ops l ws Q (dY (b8 t g (.bool false)) o.dst .skp) h e):wE T Γ N F (.bool b) g true o ops l ws Q t h e:=by rw[VD];exact⟨h1,h2⟩
theorem bc {b:Bool} {g:Nat} {o:Oper} (h1:b=true->ln T Γ N F ops l ws Q (dY (b8 t g (.bool true)) o.dst .skp) h e) (h2:b=false->po T Γ N F o ops l ws Q (b8 t g (.bool false)) h e):wE T Γ N F (.bool b) g false o ops l ws Q t h e:=by rw[RF];exact⟨h1,h2⟩
theorem Uf {b:Bool} {g:Nat} {o:Oper} (h1:b=true->pq T Γ N F o ops l ws Q (b8 t g (.bool true)) h e fs) (h2:b=false->lp T Γ N F ops l ws Q (dY (b8 t g (.bool false)) o.dst .skp) h e (fs++[⟨[],true⟩])):wF T Γ N F (.bool b) g true o ops l ws Q t h e fs:=by rw[VF];exact⟨h1,h2⟩
theorem YV {b:Bool} {g:Nat} {o:Oper} (h1:b=true->lp T Γ N F ops l ws Q (dY (b8 t g (.bool true)) o.dst .skp) h e (fs++[⟨[],true⟩])) (h2:b=false->pq T Γ N F o ops l ws Q (b8 t g (.bool false)) h e fs):wF T Γ N F (.bool b) g false o ops l ws Q t h e fs:=by rw[RG];exact⟨h1,h2⟩
def ZF (mode:Mode) (T:Nat->Option Ty) (lent:Option (D×Row)) (rs:List ResultVar) (r:RK×Option Row):Kt:=fun x t h e=>abC mode T lent rs x t h e r
theorem AY {mode:Mode} {lent:Option (D×Row)} {rs:List ResultVar} {r:RK×Option Row} : ZF mode T lent rs r .normal t h e=(iP mode T lent rs ⟨t,EH h,e⟩=some r):=ahv
theorem dm {mode:Mode} {lent:Option (D×Row)} {rs:List ResultVar} {r:RK×Option Row} : ZF mode T lent rs r .ret t h e=(iP mode T lent rs ⟨t,EH h,e⟩=some r):=ahv
def SS (T:Nat->Option Ty) (ty tt s:Nat) (rs:List ResultVar) (r:D×List D):Kt:=fun x t h e =>
 match x with
 | .exit _=>False
 | _=>UJ T ty tt s rs ⟨t,h,e⟩=some r
theorem yn {ty tt s:Nat} {rs:List ResultVar} {r:D×List D} : SS T ty tt s rs r .normal t h e=(UJ T ty tt s rs ⟨t,h,e⟩=some r):=ahv
theorem cu {ty tt s:Nat} {rs:List ResultVar} {r:D×List D} : SS T ty tt s rs r .ret t h e=(UJ T ty tt s rs ⟨t,h,e⟩=some r):=ahv
def SR (rs:List ResultVar) (r:Nat×Nat×Nat×Nat×Nat×List D):Kt:=fun x t h e =>
 match x with
 | .exit _=>False
 | _=>UI rs ⟨t,h,e⟩=some r
theorem ym {rs:List ResultVar} {r:Nat×Nat×Nat×Nat×Nat×List D} : SR rs r .normal t h e=(UI rs ⟨t,h,e⟩=some r):=ahv
theorem ct {rs:List ResultVar} {r:Nat×Nat×Nat×Nat×Nat×List D} : SR rs r .ret t h e=(UI rs ⟨t,h,e⟩=some r):=ahv
theorem SU {ty tt s:Nat} {rs:List ResultVar} : UJ T ty tt s rs ⟨t,h,e⟩=Mm ty tt s (uT T ⟨t,EH h,e⟩ rs) (h 0):=ahv
theorem Mn {ty tt s nv:Nat} {lst:Bool} {ds cs:List D} : Mm ty tt s (some (ds,[])) (some ⟨0,ty,[.nr tt s nv cs],false,lst,true⟩)=some (m9 ds,cs):=by
 simp[Mm,Xa]
theorem SQ {i:Nat} : UI [.tmp i] ⟨t,h,e⟩=SP h (t i):=ahv
theorem G9 {x v S n:Nat} : SP h (.buf x v S 0 n)=Mk x v S n (h x):=ahv
theorem Ml {x v S n ty tt s nv:Nat} {lst:Bool} {cs:List D} (hx:x<1000000):Mk x v S n (some ⟨v,ty,[.nr tt s nv cs],false,lst,true⟩)=some (ty,tt,s,S,n,cs):=by
 have:x<PK:=by rw[cO];exact hx
 simp[Mk,W9,this]
theorem wm {fn:Func} {c:Code} {n ty tt s o:Nat} {cs args:List D} {rs:List ResultVar} {r:D×List D} (hb:fn.body=some c) (hn:fn.ntmps=n) (hr:fn.results=rs.toArray) (hw:cB T Γ n F [.code c] (SS T ty tt s rs r) .normal (zI (.ptr 0 0 o::args)) (mA (gO ty tt s 0 cs)) 1) (hpk:n<=1000000:=by exact agv rfl):sV T Γ F fn ty tt s o cs args=some r:=by
 obtain⟨x,st,h1,h2⟩:=KF _ _ _ _ _ (show KN T Γ n F c (zI (.ptr 0 0 o::args)) (mA (gO ty tt s 0 cs)) 1 (SS T ty tt s rs r) from hw)
 unfold sV
 simp only[hb,hn]
 rw[if_pos (by rw[cO];exact hpk)]
 have e0:pQ ty tt s o cs args=⟨zI (.ptr 0 0 o::args),mA (gO ty tt s 0 cs),1⟩:=rfl
 rw[e0,h1,hr]
 cases x with
 | normal=>exact h2
 | ret=>exact h2
 | exit m=>exact h2.elim
theorem VI {fn:Func} {c:Code} {n:Nat} {args:List D} {rs:List ResultVar} {r:Nat×Nat×Nat×Nat×Nat×List D} (hb:fn.body=some c) (hn:fn.ntmps=n) (hr:fn.results=rs.toArray) (hw:cB T Γ n F [.code c] (SR rs r) .normal (zI args) Ob 0) (hpk:n<=1000000:=by exact agv rfl):xH T Γ F fn args=some r:=by
 obtain⟨x,st,h1,h2⟩:=KF _ _ _ _ _ (show KN T Γ n F c (zI args) Ob 0 (SR rs r) from hw)
 unfold xH
 simp only[hb,hn]
 rw[if_pos (by rw[cO];exact hpk)]
 have e0:bY none args=⟨zI args,Ob,0⟩:=rfl
 rw[e0,h1,hr]
 cases x with
 | normal=>exact h2
 | ret=>exact h2
 | exit m=>exact h2.elim
theorem aD {mode:Mode} {fn:Func} {c:Code} {n:Nat} {rs:List ResultVar} {args:List D} {r:RK×Option Row} (hb:fn.body=some c) (hn:fn.ntmps=n) (hr:fn.results=rs.toArray) (hw:cB T Γ n F [.code c] (ZF mode T none rs r) .normal (zI args) Ob 0) (hpk:n<=1000000:=by exact agv rfl):a6 mode T Γ F fn none args=some r:=by
 refine Y7 ?_ (by rw[hn];exact hpk)
 unfold wpf
 rw[hb,hn,hr]
 exact hw
theorem OP (r:Row) (i:Nat):mA r i=if i=0 then some r else none:=ahv
theorem Fl {mode:Mode} {fn:Func} {c:Code} {n:Nat} {rs:List ResultVar} {d0:D} {ty:Nat} {cells:List D} {fz lst:Bool} {args:List D} {r:RK×Option Row} (hb:fn.body=some c) (hn:fn.ntmps=n) (hr:fn.results=rs.toArray)
  (hw:cB T Γ n F [.code c] (ZF mode T (some (d0,⟨0,ty,cells,fz,lst,false⟩)) rs r) .normal (zI (d0::args)) (mA ⟨0,ty,cells,fz,lst,false⟩) 1) (hpk:n<=1000000:=by exact agv rfl):a6 mode T Γ F fn (some (d0,⟨0,ty,cells,fz,lst,false⟩)) args=some r:=by
 refine Y7 ?_ (by rw[hn];exact hpk)
 unfold wpf
 rw[hb,hn,hr]
 exact hw
end
section
variable {h:Nat->Option Row} {k x o v ty fz' nv s n e:Nat} {cs xs:List D} {fz lst:Bool}
theorem VQ (hk:k<2000000):EH h k=(h k).map (B7 k):=tN (by rw[cO];exact hk)
theorem aaq (hx:x<1000000):EH h (NK x o)=(h x).bind fun r=>rl r o:=wG (by rw[cO];exact hx)
theorem ID:B7 k ⟨v,ty,cs,fz,lst,false⟩=⟨v,ty,cs,fz,lst,false⟩:=ahv
theorem TQ {ks:List Int} : B7 k ⟨v,ty,[.mpc ks xs],fz,lst,true⟩=⟨v,ty,[.mpc ks xs],fz,lst,true⟩:=ahv
theorem Ye {y:Nat} : B7 k ⟨v,ty,[.ph y s n],fz,lst,true⟩=⟨v,ty,[.ph y s n],fz,lst,true⟩:=ahv
theorem Yd {t:Nat} : B7 k ⟨v,ty,[.nr t s nv cs],fz,lst,true⟩=⟨v,ty,cs.mapIdx (qS k s),fz,lst,true⟩:=ahv
theorem N8 {t:Nat} : rl ⟨v,ty,[.nr t s nv cs],fz,lst,true⟩ o=Ed t nv fz (cs.drop o).head?:=ahv
theorem N7:Ed ty nv fz (some (.nx n xs))=some ⟨nv,ty,xs,fz,true,false⟩:=ahv
theorem aa8 (hx:x<1000000):rt (NK x o)=x:=uV (by rw[cO];exact hx)
theorem Hs:kr h []=[]:=ahv
theorem Hr {r:Option Row} {l:List (Nat×Option Row)} (hk:k<2000000):kr h ((k,r)::l)=(k,Ee r)::kr (b8 h k (Ee r)) l:=by
 have h1:rt k=k:=kv (by rw[cO];exact hk)
 have h2:yP h k r=Ee r:=if_pos (by rw[cO];exact hk)
 simp only[kr,h1,h2]
theorem Mw {r:Option Row} {l:List (Nat×Option Row)} (hx:x<1000000):kr h ((NK x o,r)::l)=(x,(h x).map (ED o r))::kr (b8 h x ((h x).map (ED o r))) l:=by
 have hx':x<PK:=by rw[cO];exact hx
 have h1:rt (NK x o)=x:=uV hx'
 have h2:yP h (NK x o) r=(h x).map (ED o r):=by
  unfold yP
  rw[if_neg (by have:=gq x o;omega),rN o hx',Cj o hx']
 simp only[kr,h1,h2]
theorem HW:Ee none=none:=ahv
theorem Ef:Ee (some ⟨v,ty,cs,fz,lst,false⟩)=some ⟨v,ty,cs,fz,lst,false⟩:=ahv
theorem Oa {ks:List Int} : Ee (some ⟨v,ty,[.mpc ks xs],fz,lst,true⟩)=some ⟨v,ty,[.mpc ks xs],fz,lst,true⟩:=ahv
theorem Tx {y:Nat} : Ee (some ⟨v,ty,[.ph y s n],fz,lst,true⟩)=some ⟨v,ty,[.ph y s n],fz,lst,true⟩:=ahv
theorem TH {t:Nat} {r:Option Row} : ED o r ⟨v,ty,[.nr t s nv cs],fz,lst,true⟩=⟨v,ty,Aj t s nv fz cs o r (cs.drop o).head?,fz,lst,true⟩:=ahv
theorem TO {t v':Nat} {xs':List D} : Aj t s nv fz cs o (some ⟨v',t,xs',fz,true,false⟩) (some (.nx n xs))=if v'=nv then [.nr t s nv (putCells cs o [.nx n xs'])] else [.nr t s nv (putCells cs o [.und])]:=by
 by_cases hv:v'=nv<;>simp[Aj,H6,hv]
def lvN (x v:Nat):Option Row->Option (Row×Nat×Nat×Nat×List D)
 | some r=>if r.v=v∧r.fz=false∧r.mp=true∧x<1000000 then nrO r r.cells else none
 | none=>none
theorem Nw:jB h x v=lvN x v (h x):=by
 unfold jB lvN
 rw[cO]
 cases h x<;>rfl
theorem XE {t:Nat} (hx:x<1000000):lvN x v (some ⟨v,ty,[.nr t s nv cs],false,lst,true⟩)=some (⟨v,ty,[.nr t s nv cs],false,lst,true⟩,t,s,nv,cs):=by
 simp only[lvN,true_and,hx,and_self,if_true,nrO]
def abL (τ:Ty) (x o:Nat):Option (Row×Nat×Nat×Nat×List D)->Option bM
 | some (r,ty,s,nv,cs)=>DX τ x s nv o cs (cs.drop o).head?
 | none=>none
theorem Ti {τ:Ty} : n7 τ h (.ptr x v o)=abL τ x o (jB h x v):=by
 simp only[n7,abL]
 cases jB h x v<;>rfl
theorem HA {τ:Ty} {r:Row} {t:Nat} : abL τ x o (some (r,t,s,nv,cs))=DX τ x s nv o cs (cs.drop o).head?:=ahv
theorem Tg {ds:Ds} {b:Nat} {z:List Value} {q:Bool} : DX ⟨ds,1,b,z,q⟩ x s nv o cs (some (.nx n xs))=if ds.oQ=false then some ⟨.buf (NK x o) nv s 0 n,[]⟩ else none:=by
 simp only[DX,true_and]
def UW (τ:Ty) (o:Nat) (cs:List D):Option bM :=
 if o+τ.size<=cs.length∧((cs.drop o).take τ.size).all gr=true then okD (mg τ ((cs.drop o).take τ.size)) else none
theorem Nm {τ:Ty} {kk:IntKind} {i:Int} : DX τ x s nv o cs (some (.int kk i))=UW τ o cs:=ahv
theorem HB {τ:Ty} {b:Bool} : DX τ x s nv o cs (some (.bool b))=UW τ o cs:=ahv
theorem Nn {τ:Ty} {b:ByteArray} : DX τ x s nv o cs (some (.str b))=UW τ o cs:=ahv
theorem Th {τ:Ty} {a b:Bool} : DX τ x s nv o cs (some (.sl a b n xs))=UW τ o cs:=ahv
def aah (τ:Ty) (e:Nat) (h:Nat->Option Row) (x o:Nat) (d:D):Option (Row×Nat×Nat×Nat×List D)->Option bM
 | some (r,ty,s,nv,cs)=>if o+τ.size<=cs.length∧0<τ.size then wD τ e h x r ty s nv cs o d else none
 | none=>none
theorem TW {τ:Ty} {d:D} : l4 τ e h (.ptr x v o) d=aah τ e h x o d (jB h x v):=by
 simp only[l4,aah]
 cases jB h x v<;>rfl
theorem IP {ds:Ds} {m b:Nat} {z:List Value} {q:Bool} {d:D} {r:Row} {t:Nat} (hm:0<m) (hc:o+m<=cs.length):aah ⟨ds,m,b,z,q⟩ e h x o d (some (r,t,s,nv,cs))=wD ⟨ds,m,b,z,q⟩ e h x r t s nv cs o d:=by
 simp only[aah,hm,hc,and_self,if_true]
theorem IQ {ds:Ds} {b:Nat} {z:List Value} {q:Bool} {r:Row} {t:Nat} : wD ⟨ds,1,b,z,q⟩ e h x r t s nv cs o (.buf (NK x o) nv s 0 n)=An x r t s nv cs o n (cs.drop o).head?:=by
 simp only[wD,and_self,if_true]
theorem IF {ds:Ds} {r:Row} {t n0:Nat} : An x r t s nv cs o n (some (.nx n0 xs))=if n*s<=xs.length then some ⟨.und,[(x,some ⟨r.v,r.ty,[.nr t s nv (putCells cs o [.nx n (xs.take (n*s))])],false,r.lst,true⟩)]⟩ else none:=ahv
def ab5 (x:Nat) (r:Row) (ty s:Nat) (cs:List D) (o y n:Nat) (b:Option Nat):Option Row->Option bM
 | some q=>if q.fz=false∧q.lst=true∧q.ty=ty∧q.cells.length=n*s then Ao x r ty s cs o y n q b else none
 | none=>none
theorem IT {ds:Ds} {b y vy:Nat} {z:List Value} {q:Bool} {r:Row} {t:Nat} (hy:y<1000000):wD ⟨ds,1,b,z,q⟩ e h x r t s nv cs o (.buf y vy s 0 n)=ab5 x r t s cs o y n (pU nv e) (live h y vy):=by
 have h1:¬y=NK x o:=by have:=gq x o;rw[cO]at this;omega
 have h2:y<PK:=by rw[cO];exact hy
 simp only[wD,and_self,if_true,h1,if_false,h2]
 cases live h y vy<;>rfl
theorem IN {r q:Row} {t nv' y:Nat} (hc:q.fz=false∧q.lst=true∧q.ty=t∧q.cells.length=n*s):ab5 x r t s cs o y n (some nv') (some q)=some ⟨.und,[(y,none),(x,some ⟨r.v,r.ty,[.nr t s nv' (putCells cs o [.nx n q.cells])],false,r.lst,true⟩)]⟩:=by
 simp only[ab5,hc,and_self,if_true,Ao]
theorem Pg {τ:Ty} {r:Row} {t:Nat} {kk:IntKind} {i:Int} : wD τ e h x r t s nv cs o (.int kk i)=Ap τ x r t s nv cs o (some [.int kk i]):=ahv
theorem IS {τ:Ty} {r:Row} {t:Nat} {b:Bool} : wD τ e h x r t s nv cs o (.bool b)=Ap τ x r t s nv cs o (some [.bool b]):=ahv
theorem Ph {τ:Ty} {r:Row} {t:Nat} {b:ByteArray} : wD τ e h x r t s nv cs o (.str b)=Ap τ x r t s nv cs o (some [.str b]):=ahv
theorem TV {τ:Ty} {r:Row} {t:Nat} {a b:Bool} : wD τ e h x r t s nv cs o (.sl a b n xs)=Ap τ x r t s nv cs o (some [.sl a b n xs]):=ahv
theorem Pf {τ:Ty} {r:Row} {t:Nat} : wD τ e h x r t s nv cs o (.agg xs)=Ap τ x r t s nv cs o (some xs):=ahv
theorem IX {τ:Ty} {r:Row} {t:Nat} {c':List D} : Ap τ x r t s nv cs o (some c')=if c'.length=τ.size∧c'.all gr=true then some ⟨.und,[(x,some ⟨r.v,r.ty,[.nr t s nv (putCells cs o (c'.map canon))],false,r.lst,true⟩)]⟩ else none:=ahv
theorem j3 (hn:nv<=4*e):pU nv e=some (4*e+1):=if_pos hn
end
section
variable {Γ:Env} {g d:Nat} {p:Nat×Nat×Nat}
theorem SZ {f:Nat} {l:Bool} {G:Option (D×Row)->List D->Option (RK×Option Row)} : (Am.ext Γ f l G).nst g=Γ.nst g:=ahv
theorem Nh:(Am.keep d Γ).nst g=Γ.nst g:=ahv
theorem MZ {y:Nat} : (Am.wS d y Γ).nst g=Γ.nst g:=ahv
theorem Na {f:Nat} : (Am.zU f p Γ).nst g=Γ.nst g:=ahv
theorem MT {f:Nat} {q:Grow} : (Am.DN f q Γ).nst g=Γ.nst g:=ahv
theorem HS:aY.nst g=none:=ahv
theorem Om:(Am.yJ d p Γ).nst g=if g=d then some p else Γ.nst g:=ahv
theorem Ei:(Am.yJ d p Γ).lends g=Γ.lends g:=ahv
theorem Oo {l:Option (D×Row)} {aeJ:List D} : (Am.yJ d p Γ).sem g l aeJ=Γ.sem g l aeJ:=ahv
theorem On:(Am.yJ d p Γ).own g=Γ.own g:=ahv
theorem H2:(Am.yJ d p Γ).hint g=Γ.hint g:=ahv
theorem Ol:(Am.yJ d p Γ).ins g=Γ.ins g:=ahv
theorem Ok:(Am.yJ d p Γ).grw g=Γ.grw g:=ahv
theorem Xc {f:Nat} {l:Bool} {G:Option (D×Row)->List D->Option (RK×Option Row)} : (Am.ext Γ f l G).nx=Γ.nx:=ahv
theorem Te:(Am.keep d Γ).nx=Γ.nx:=ahv
theorem S8 {y:Nat} : (Am.wS d y Γ).nx=Γ.nx:=ahv
theorem Tc {f:Nat} : (Am.zU f p Γ).nx=Γ.nx:=ahv
theorem S5 {f:Nat} {q:Grow} : (Am.DN f q Γ).nx=Γ.nx:=ahv
theorem Tz:(Am.yJ d p Γ).nx=Γ.nx:=ahv
theorem HR:aY.nx.lnd g=none:=ahv
theorem HU:aY.nx.res g=none:=ahv
end
section
variable {Γ:Env} {g d f:Nat} {p:Nat×(Nat->Nat->Nat->Nat->List D->List D->Option (D×List D))}
theorem NA:(Am.oL f p Γ).nx.lnd g=if g=f then some p else Γ.nx.lnd g:=ahv
theorem ND:(Am.oL f p Γ).nx.res g=Γ.nx.res g:=ahv
theorem D1:(Am.oL f p Γ).lends g=Γ.lends g:=ahv
theorem NF {l:Option (D×Row)} {aeJ:List D} : (Am.oL f p Γ).sem g l aeJ=Γ.sem g l aeJ:=ahv
theorem NC:(Am.oL f p Γ).own g=Γ.own g:=ahv
theorem HG:(Am.oL f p Γ).hint g=Γ.hint g:=ahv
theorem Nz:(Am.oL f p Γ).ins g=Γ.ins g:=ahv
theorem Ny:(Am.oL f p Γ).grw g=Γ.grw g:=ahv
theorem NB:(Am.oL f p Γ).nst g=Γ.nst g:=ahv
end
section
variable {Γ:Env} {g d f:Nat} {p:List D->Option (Nat×Nat×Nat×Nat×Nat×List D)}
theorem Oi:(Am.yI f p Γ).nx.res g=if g=f then some p else Γ.nx.res g:=ahv
theorem Of:(Am.yI f p Γ).nx.lnd g=Γ.nx.lnd g:=ahv
theorem Eh:(Am.yI f p Γ).lends g=Γ.lends g:=ahv
theorem Oj {l:Option (D×Row)} {aeJ:List D} : (Am.yI f p Γ).sem g l aeJ=Γ.sem g l aeJ:=ahv
theorem Oh:(Am.yI f p Γ).own g=Γ.own g:=ahv
theorem H0:(Am.yI f p Γ).hint g=Γ.hint g:=ahv
theorem Oe:(Am.yI f p Γ).ins g=Γ.ins g:=ahv
theorem Od:(Am.yI f p Γ).grw g=Γ.grw g:=ahv
theorem Og:(Am.yI f p Γ).nst g=Γ.nst g:=ahv
end
section
variable {Γ:Env} {h:Nat->Option Row} {e x v o g:Nat} {rest:List D}
def PV (Γ:Env) (e:Nat) (h:Nat->Option Row) (g x o:Nat) (rest:List D):Option (Row×Nat×Nat×Nat×List D)->Option bM
 | some (r,ty,s,nv,cs)=>CL e x r ty s nv cs o (Γ.nx.lnd g) (bk (EH h) rest)
 | none=>none
theorem Gx:qT Γ e h g (.ptr x v o::rest)=PV Γ e h g x o rest (jB h x v):=by
 simp only[qT,PV]
 cases jB h x v<;>rfl
theorem AG {r:Row} {ty s nv:Nat} {cs:List D} : PV Γ e h g x o rest (some (r,ty,s,nv,cs))=CL e x r ty s nv cs o (Γ.nx.lnd g) (bk (EH h) rest):=ahv
theorem AE {r:Row} {ty s nv:Nat} {cs aeJ:List D} {p:Nat×(Nat->Nat->Nat->Nat->List D->List D->Option (D×List D))} : CL e x r ty s nv cs o (some p) (some (aeJ,[]))=Jh x r ty s o p.1 (pU nv e) (p.2 r.ty ty s o cs aeJ):=ahv
theorem AF {r:Row} {ty s nv' k:Nat} {d:D} {cs':List D} : Jh x r ty s o k (some nv') (some (d,cs'))=if ((cs'.drop o).take k).all (FR s)=true then some ⟨d,[(x,some ⟨r.v,r.ty,[.nr ty s nv' (sW k o cs')],false,r.lst,true⟩)]⟩ else none:=ahv
end
end Go.Proofs.Ytchndpjlijbplaa.Am
namespace Go.Proofs.Ytchndpjlijbplaa.P
open Go.RowKit
def FU:Nat:=1000000000000000000000000
def oe {σ ρ:Type} (body:σ->Option (σ⊕ρ)):Nat->σ->Option ρ
 | 0,_=>none
 | n+1,s =>
  match body s with
  | some (.inl s')=>oe body n s'
  | some (.inr r)=>some r
  | none=>none
def aO {σ ρ:Type} (body:σ->Option (σ⊕ρ)) (s:σ):Option ρ:=oe body FU s
theorem Xv {σ ρ:Type} {body:σ->Option (σ⊕ρ)} (I:σ->Prop) (μ:σ->Nat) (Q:ρ->Prop)
  (hstep:∀s,I s->(∃s',body s=some (.inl s')∧I s'∧μ s'<μ s)∨(∃r,body s=some (.inr r)∧Q r)):∀(n:Nat) (s:σ),I s->μ s<n->∃r,oe body n s=some r∧Q r:=by
 intro n
 induction n with
 | zero=>intro s _ h;omega
 | succ n ih =>
  intro s hI hμ
  rcases hstep s hI with⟨s',h1,h2,h3⟩|⟨r,h1,h2⟩
  ·obtain⟨r,h4,h5⟩:=ih s' h2 (by omega)
   exact⟨r,by simp only[oe,h1];exact h4,h5⟩
  ·exact⟨r,by simp only[oe,h1],h2⟩
theorem yC {σ ρ:Type} {body:σ->Option (σ⊕ρ)} (I:σ->Prop) (μ:σ->Nat) (Q:ρ->Prop) {s:σ} (hI:I s) (hμ:μ s<FU)
  (hstep:∀s,I s->(∃s',body s=some (.inl s')∧I s'∧μ s'<μ s)∨(∃r,body s=some (.inr r)∧Q r)):∃r,aO body s=some r∧Q r:=Xv I μ Q hstep FU s hI hμ
def idx {α:Type} (l:List α) (i:Int):Option α:=if 0<=i∧i<l.length then l[i.toNat]? else none
def aaa (s:ByteArray) (i:Int):Option Int:=if 0<=i then (s[i.toNat]?).map fun b=>(b.toNat:Int) else none
def BT {α:Type} (l:List α) (a b:Int):Option (List α):=if 0<=a∧a<=b∧b<=l.length then some ((l.drop a.toNat).take (b.toNat-a.toNat)) else none
def B1 {α:Type} (bytes:Nat) (n c:Int) (z:α):Option (List α):=if 0<=n∧n<=c∧c<=maxLen∧c.toNat*bytes<=140737488355328 then some (List.replicate n.toNat z) else none
def iB {α:Type} (bytes:Nat) (l m:List α):Option (List α):=if l.length+m.length<=maxLen∧(l.length+m.length)*bytes<=140737488355328 then some (l++m) else none
def Xt {α:Type} (bytes:Nat) (l:List α) (i:Int) (xs:List α):Option (List α):=if 0<=i∧i<=l.length∧0<xs.length∧(l.length+xs.length)*bytes<=140737488355328 then some (l.take i.toNat++(xs++l.drop i.toNat)) else none
def WL {α:Type} (l:List α) (i j:Int):Option (List α):=if 0<=i∧i<=j∧j<=l.length∧l.length<=maxLen then some (l.take i.toNat++l.drop j.toNat) else none
def OC {α:Type} (x:Bool×α):Option α:=if x.1=true then none else some x.2
def O4 {α:Type} (x:Bool×α):Option α:=if x.1=true then some x.2 else none
def Hl {α:Type} (l:List α):List (Bool×α):=l.map fun x=>(false,x)
def CZ (k:IntKind) (x y:Int):Option Int:=if y=0 then none else some (k.wrap (x.tdiv y))
def uI (_:IntKind) (x y:Int):Option Int:=if y=0 then none else some (x.tmod y)
def tK (k:IntKind) (x y:Int):Option Int:=if y<0 then none else some (k.wrap (x*2 ^ (min y.toNat k.bits)))
def nc (k:IntKind) (x y:Int):Option Int:=if y<0 then none else some (x.fdiv (2 ^ (min y.toNat k.bits)))
def cV (op:BinOp) (k:IntKind) (x y:Int):Int :=
 let a:=BitVec.ofInt k.bits x
 let b:=BitVec.ofInt k.bits y
 match op with
 | .and=>k.wrap (a &&& b).toNat
 | .or=>k.wrap (a ||| b).toNat
 | .xor=>k.wrap (a ^^^ b).toNat
 | _=>k.wrap (a &&& ~~~b).toNat
def ZH {α:Type} : List (Int×α)->Int->Bool
 | [],_=>false
 | (k,_)::m,n=>k==n||ZH m n
theorem ag {α β:Type} {o:Option α} {f:α->Option β} {r:β} (h:o.bind f=some r):∃a,o=some a∧f a=some r:=by
 cases o with
 | none=>cases h
 | some a=>exact⟨a,rfl,h⟩
theorem acI {α:Type} {b:Bool} {x y r:α} (hb:b=true) (h:(if b=true then x else y)=r):x=r:=by rw[if_pos hb]at h;exact h
theorem acH {α:Type} {b:Bool} {x y r:α} (hb:b=false) (h:(if b=true then x else y)=r):y=r:=by rw[hb]at h;simpa using h
theorem ai {a b:Prop} (x:a) (y:b):a∧b:=⟨x,y⟩
theorem sp {α:Type} {b:Bool} {P1 P2 Q:Prop} {x y r:α} (k:(b=true->P1)->(b=false->P2)->Q) (h:(if b=true then x else y)=r) (h1:b=true->x=r->P1) (h2:b=false->y=r->P2):Q:=k (fun hb=>h1 hb (acI hb h)) fun hb=>h2 hb (acH hb h)
end Go.Proofs.Ytchndpjlijbplaa.P
namespace Go.Proofs.Ytchndpjlijbplaa.Am
open Go.RowKit Go.Proofs.Ytchndpjlijbplaa.P
structure jf (α:Type) where
 cells:α->List D
 size:Nat
 len:∀x,(cells x).length=size
 pos:0<size
 inj:∀x y,cells x=cells y->x=y
def ae {α:Type} (e:jf α):List α->List D
 | []=>[]
 | x::l=>e.cells x++ae e l
section
variable {α β:Type} (e:jf α)
theorem yl:ae e []=[]:=rfl
theorem a7 (x:α) (l:List α):ae e (x::l)=e.cells x++ae e l:=rfl
theorem fJ:∀l m:List α,ae e (l++m)=ae e l++ae e m
 | [],m=>rfl
 | x::l,m=>by rw[agE,a7,a7,fJ l m,af1]
theorem bQ:∀l:List α,(ae e l).length=l.length*e.size
 | []=>by simp[ae]
 | x::l=>by rw[a7,afP,bQ l,e.len,afe,afJ];omega
theorem oP:∀(l:List α) (i:Nat),(ae e l).drop (i*e.size)=ae e (l.drop i)
 | l,0=>by simp
 | [],i+1=>by simp[ae]
 | x::l,i+1=>by
  rw[a7,agF,<- oP l i,agw,e.len,agx (by rw[e.len,afJ];omega),agu]
  congr 1
  rw[afJ];omega
theorem ew:∀(l:List α) (i:Nat),(ae e l).take (i*e.size)=ae e (l.take i)
 | l,0=>by simp[ae]
 | [],i+1=>by simp[ae]
 | x::l,i+1=>by
  rw[a7,agG,a7,af4,e.len,af6 (by rw[e.len,afJ];omega),<- ew l i]
  congr 2
  rw[afJ];omega
theorem uu:∀l m:List α,ae e l=ae e m->l=m
 | [],[],_=>rfl
 | [],y::m,h=>by
  have:=congrArg List.length h
  have hp:=e.pos
  rw[a7,afP,e.len]at this
  simp[ae]at this
  omega
 | x::l,[],h=>by
  have:=congrArg List.length h
  have hp:=e.pos
  rw[a7,afP,e.len]at this
  simp[ae]at this
  omega
 | x::l,y::m,h=>by
  rw[a7,a7]at h
  obtain⟨h1,h2⟩:=agH h (by rw[e.len,e.len])
  rw[e.inj _ _ h1,uu l m h2]
theorem Mj:∀(n:Nat) (x:α),m8 n (e.cells x)=ae e (List.replicate n x)
 | 0,x=>by simp[m8,ae]
 | n+1,x=>by rw[afH,a7,<- Mj n x];simp[m8,List.replicate_succ]
end
def eI (k:IntKind):jf Int:=⟨fun n=>[.int k n],1,fun _=>rfl,by decide,fun x y h=>by simpa using h⟩
def lY:jf Bool:=⟨fun n=>[.bool n],1,fun _=>rfl,by decide,fun x y h=>by simpa using h⟩
def acA:jf ByteArray:=⟨fun n=>[.str n],1,fun _=>rfl,by decide,fun x y h=>by simpa using h⟩
def Md {α:Type} (e:jf α):jf (List α):=⟨fun l=>[.sl false false l.length (ae e l)],1,fun _=>rfl,by decide,fun x y h=>by
 simp only[afc,D.sl.injEq,true_and,and_true]at h
 exact uu e _ _ h.2⟩
def yh {α β:Type} (e:jf α) (f:jf β):jf (α×β):=⟨fun x=>e.cells x.1++f.cells x.2,e.size+f.size,fun x=>by rw[afP,e.len,f.len],aeR e.pos (Nat.le_add_right _ _),fun x y h=>by
 obtain⟨h1,h2⟩:=agH h (by rw[e.len,e.len])
 exact Prod.ext (e.inj _ _ h1) (f.inj _ _ h2)⟩
def Me {α β:Type} (e:jf β) (f:α->β) (hf:∀x y,f x=f y->x=y):jf α:=⟨fun x=>e.cells (f x),e.size,fun x=>e.len _,e.pos,fun x y h=>hf _ _ (e.inj _ _ h)⟩
structure Arg (α:Type) where
 d:α->D
 inj:∀x y,d x=d y->x=y
def aI (k:IntKind):Arg Int:=⟨fun n =>.int k n,fun x y h=>by simpa using h⟩
def acm:Arg Bool:=⟨fun n =>.bool n,fun x y h=>by simpa using h⟩
def lM {α:Type} (e:jf α):Arg (List α):=⟨fun l =>.sl false false l.length (ae e l),fun x y h=>by
 simp only[D.sl.injEq,true_and]at h
 exact uu e _ _ h.2⟩
def dk {α:Type} (e:jf α):Arg α:=⟨fun x =>.agg (e.cells x),fun x y h=>e.inj _ _ (by simpa using h)⟩
theorem Dh (k:IntKind) (n:Int):(eI k).cells n=[.int k n]:=ahv
theorem AT (n:Bool):lY.cells n=[.bool n]:=ahv
theorem Dk (n:ByteArray):acA.cells n=[.str n]:=ahv
theorem zM {α:Type} (e:jf α) (l:List α):(Md e).cells l=[.sl false false l.length (ae e l)]:=ahv
structure lO (α:Type) where
 ds:α->List D
 inj:∀x y,ds x=ds y->x=y
def as0:lO Unit:=⟨fun _=>[],fun _ _ _=>rfl⟩
def fH {α:Type} (a:Arg α):lO α:=⟨fun x=>[a.d x],fun x y h=>a.inj _ _ (by simpa using h)⟩
def jE {α β:Type} (a:Arg α) (b:lO β):lO (α×β):=⟨fun x=>a.d x.1::b.ds x.2,fun x y h=>by
 simp only[afc]at h
 exact Prod.ext (a.inj _ _ h.1) (b.inj _ _ h.2)⟩
def fR {α β:Type} (A:lO α) (F:α->Option β) (R:β->RK):Option (D×Row)->List D->Option (RK×Option Row):=fun lent ds =>
 match lent with
 | none=>open Classical in if h:∃a,A.ds a=ds then (F (Classical.choose h)).map fun r=>(R r,none) else none
 | some _=>none
theorem aN {α β:Type} (A:lO α) (F:α->Option β) (R:β->RK) (a:α):fR A F R none (A.ds a)=(F a).map fun r=>(R r,none):=by
 have h:∃b,A.ds b=A.ds a:=⟨a,rfl⟩
 simp only[fR]
 rw[dif_pos h,A.inj _ _ (Classical.choose_spec h)]
theorem Ea {α β:Type} {A:lO α} {F:α->Option β} {R:β->RK} {lent:Option (D×Row)} {ds:List D} {rk:RK} {out:Option Row} (h:fR A F R lent ds=some (rk,out)):lent=none∧out=none∧∃a r,ds=A.ds a∧F a=some r∧rk=R r:=by
 unfold fR at h
 split at h
 ·split at h
  ·rename_i he
   rw[aeM]at h
   obtain⟨r,h1,h2⟩:=h
   simp only[Prod.mk.injEq]at h2
   obtain⟨rfl,rfl⟩:=h2
   exact⟨rfl,rfl,_,r,(Classical.choose_spec he).symm,h1,rfl⟩
  ·cases h
 ·cases h
structure bT (P:Program) (f:FuncId) (G:Option (D×Row)->List D->Option (RK×Option Row)):Prop where
 calls:∀lent aeJ rk out,G lent aeJ=some (rk,out)->qF P f lent aeJ rk out
 callable:dx P f
theorem bT.of {P:Program} {T:Nat->Option Ty} {Γ:Env} (hT:kq P T) (hΓ:bq P Γ) (hm:P.follows .mixedOrders=true) {α β:Type} {A:lO α} {F:α->Option β} {R:β->RK} {mode:Mode} {f:FuncId} {fn:Func} (hf:P.funcs[f]? = some fn) (hok:(match fn.body with|some c=>codeOk c|none=>true)=true)
  (hc:(fn.name == "runtime.NumGoroutine")=false∧fn.body.isNone=false) (hn:∀a,(A.ds a).length<=fn.ntmps) (h:∀a r,F a=some r->a6 mode T Γ FU fn none (A.ds a)=some (R r,none)):bT P f (fR A F R) where
 calls lent aeJ rk out hg:=by
  obtain⟨rfl,rfl,a,r,rfl,hr,rfl⟩:=Ea hg
  exact lH hT hΓ hm hf hok (hn a) rfl (h a r hr)
 callable:=⟨fn,hf,hc⟩
theorem bq.add {P:Program} {Γ:Env} (hΓ:bq P Γ) {f:Nat} {G:Option (D×Row)->List D->Option (RK×Option Row)} (h:bT P f G) (l:Bool):bq P (Am.ext Γ f l G):=hΓ.ext h.calls h.callable
section
variable {T:Nat->Option Ty} {Γ:Env} {N e:Nat} {ws:List W} {Q:Kt} {t:Nat->D} {h:Nat->Option Row}
def LK {σ ρ:Type} (Rel:σ->(Nat->D)->(Nat->Option Row)->Nat->Prop) (RelX:ρ->Ex->(Nat->D)->(Nat->Option Row)->Nat->Prop) (c:σ⊕ρ):Kt:=fun x t h e =>
 match x with
 | .normal=>∃s',c=.inl s'∧Rel s' t h e
 | x=>∃o,c=.inr o∧RelX o x t h e
theorem iC {σ ρ:Type} {Rel:σ->(Nat->D)->(Nat->Option Row)->Nat->Prop} {RelX:ρ->Ex->(Nat->D)->(Nat->Option Row)->Nat->Prop} {s':σ} (k:Rel s' t h e):LK Rel RelX (.inl s') .normal t h e:=⟨s',rfl,k⟩
theorem jP {σ ρ:Type} {Rel:σ->(Nat->D)->(Nat->Option Row)->Nat->Prop} {RelX:ρ->Ex->(Nat->D)->(Nat->Option Row)->Nat->Prop} {o:ρ} {n:Nat} (k:RelX o (.exit n) t h e):LK Rel RelX (.inr o) (.exit n) t h e:=⟨o,rfl,k⟩
theorem BI {σ ρ:Type} {Rel:σ->(Nat->D)->(Nat->Option Row)->Nat->Prop} {RelX:ρ->Ex->(Nat->D)->(Nat->Option Row)->Nat->Prop} {o:ρ} (k:RelX o .ret t h e):LK Rel RelX (.inr o) .ret t h e:=⟨o,rfl,k⟩
theorem aB {σ ρ:Type} {body:σ->Option (σ⊕ρ)} {b:Code} (Rel:σ->(Nat->D)->(Nat->Option Row)->Nat->Prop) (RelX:ρ->Ex->(Nat->D)->(Nat->Option Row)->Nat->Prop) {s0:σ} {out:ρ} (hL:aO body s0=some out) (h0:Rel s0 t h e)
  (hstep:∀s t h e,Rel s t h e->∀c,body s=some c->cB T Γ N FU [.code b] (LK Rel RelX c) .normal t h e)
  (hexit:∀x t h e,RelX out x t h e->cB T Γ N FU ws Q x t h e):TL T Γ N FU b ws Q t h e:=by
 have key:∀(n:Nat) (s:σ) (t:Nat->D) (h:Nat->Option Row) (e:Nat),Rel s t h e->oe body n s=some out->∃x s',iter (gz T Γ N FU b) n ⟨t,h,e⟩=some (x,s')∧cB T Γ N FU ws Q x s'.t s'.h s'.e:=by
  intro n
  induction n with
  | zero=>intro s t h e _ hi;cases hi
  | succ n ih =>
   intro s t h e hR hi
   simp only[oe]at hi
   cases hb:body s with
   | none=>rw[hb]at hi;cases hi
   | some c =>
    rw[hb]at hi
    obtain⟨x,s1,h1,h2⟩:=KF _ _ _ _ _ (show KN T Γ N FU b t h e (LK Rel RelX c) from hstep s t h e hR c hb)
    simp only[iter,h1]
    cases x with
    | normal =>
     obtain⟨s',rfl,h4⟩:=h2
     exact ih s' s1.t s1.h s1.e h4 hi
    | exit m =>
     obtain⟨o,rfl,h4⟩:=h2
     simp only[aeX]at hi
     subst hi
     exact⟨_,_,rfl,hexit _ _ _ _ h4⟩
    | ret =>
     obtain⟨o,rfl,h4⟩:=h2
     simp only[aeX]at hi
     subst hi
     exact⟨_,_,rfl,hexit _ _ _ _ h4⟩
 exact key FU s0 t h e h0 hL
theorem zh {d:D} {g:Nat} {A B A' B':(Nat->D)->Prop} (hk:RM d t g A B) (h1:∀t,A t->A' t) (h2:∀t,B t->B' t):RM d t g A' B':=by
 cases d with
 | bool b=>exact⟨fun hb=>h1 _ (hk.1 hb),fun hb=>h2 _ (hk.2 hb)⟩
 | _=>exact hk
theorem Fo {d:D} {g:Nat} {A B S A' B' S':(Nat->D)->Prop} (hk:wpS d t g A B S) (h1:∀t,A t->A' t) (h2:∀t,B t->B' t) (h3:∀t,S t->S' t):wpS d t g A' B' S':=by
 unfold wpS at hk ⊢
 split at hk
 ·exact h3 _ hk
 ·exact zh hk h1 h2
theorem Ek {α:Type} {x:Option α} {K K':α->Prop} (hk:pJ x K) (h1:∀a,K a->K' a):pJ x K':=by
 cases x with
 | none=>exact hk
 | some a=>exact h1 a hk
theorem Px {ops:List Oper} {gd:Option (Nat×Bool)} {A B A' B':(Nat->D)->Prop} (hk:Y4 ops t gd A B) (h1:∀t,A t->A' t) (h2:∀t,B t->B' t):Y4 ops t gd A' B':=by
 unfold Y4 at hk ⊢
 split
 ·exact h1 _ hk
 ·rename_i j want
  refine Ek hk fun g hg=>Fo hg ?_ ?_ h2
  ·intro t ht;cases want<;>simp_all
  ·intro t ht;cases want<;>simp_all
theorem zj {o:Oper} {K K':(Nat->D)->bM->Prop} (hk:RO T Γ e o t h K) (h1:∀t E,K t E->K' t E):RO T Γ e o t h K':=by
 unfold RO at hk ⊢
 split
 ·rename_i ho
  rw[ho]at hk
  exact zh hk (fun _ h=>h1 _ _ h) (fun _ h=>h1 _ _ h)
 ·rename_i hne
  split at hk
  ·rename_i c a b ho;exact absurd ho (hne _ _ _)
  ·exact Ek hk (fun _ h=>h1 _ _ h)
theorem we {ops:List Oper} {K K':(Nat->D)->(Nat->Option Row)->Prop} (h1:∀t h,K t h->K' t h):∀(l:List Oper) (t:Nat->D) (h:Nat->Option Row),EV T Γ N e ops l t h K->EV T Γ N e ops l t h K'
 | [],t,h,hk=>h1 _ _ hk
 | o::l,t,h,hk=>by
  unfold EV at hk ⊢
  exact⟨hk.1,Px hk.2 (fun t ht=>zj ht fun t E hE=>we h1 l _ _ hE) (fun t ht=>we h1 l _ _ ht)⟩
theorem wa {ops:List Oper} {K K':(Nat->D)->(Nat->Option Row)->List kx->Prop} (h1:∀t h fs,K t h fs->K' t h fs):∀(l:List Oper) (t:Nat->D) (h:Nat->Option Row) (fs:List kx),runK T Γ N e ops l t h fs K->runK T Γ N e ops l t h fs K'
 | [],t,h,fs,hk=>h1 _ _ _ hk
 | o::l,t,h,fs,hk=>by
  unfold runK at hk ⊢
  exact⟨hk.1,Px hk.2 (fun t ht=>zj ht fun t E hE=>wa h1 l _ _ _ hE) (fun t ht=>wa h1 l _ _ _ ht)⟩
theorem Y6 {ops:Array Oper} {draw:Bool} {K K':(Nat->D)->(Nat->Option Row)->Prop} (hk:wpR T Γ N ops draw t h e K) (h1:∀t h,K t h->K' t h):wpR T Γ N ops draw t h e K':=by
 unfold wpR at hk ⊢
 cases draw with
 | true=>exact wa (fun t h fs hh=>⟨hh.1,h1 _ _ hh.2⟩) _ _ _ _ hk
 | false=>exact we h1 _ _ _ hk
theorem VK {F:Nat} : ∀(c:Code) (t:Nat->D) (h:Nat->Option Row) (e:Nat) (K K':Kt),KN T Γ N F c t h e K->(∀x t h e,K x t h e->K' x t h e)->KN T Γ N F c t h e K':=by
 intro c
 induction c with
 | skip=>intro t h e K K' hk hm;exact hm _ _ _ _ hk
 | region i ops draw=>intro t h e K K' hk hm;exact Y6 hk fun t h hh=>hm _ _ _ _ hh
 | seq a b iha ihb =>
  intro t h e K K' hk hm
  refine iha _ _ _ _ _ hk fun x t h e hx =>?_
  cases x with
  | normal=>exact ihb _ _ _ _ _ hx hm
  | exit n=>exact hm _ _ _ _ hx
  | ret=>exact hm _ _ _ _ hx
 | cond c x y ihx ihy =>
  intro t h e K K' hk hm
  unfold KN at hk ⊢
  cases c with
  | tmp g=>exact zh hk (fun t ht=>ihx _ _ _ _ _ ht hm) (fun t ht=>ihy _ _ _ _ _ ht hm)
  | const v =>
   cases v with
   | bool b =>
    cases b with
    | true=>exact ihx _ _ _ _ _ hk hm
    | false=>exact ihy _ _ _ _ _ hk hm
   | _=>exact hk
  | _=>exact hk
 | block id b ih =>
  intro t h e K K' hk hm
  refine ih _ _ _ _ _ hk fun x t h e hx =>?_
  cases x with
  | normal=>exact hm _ _ _ _ hx
  | ret=>exact hm _ _ _ _ hx
  | exit n =>
   unfold Wn at hx ⊢
   simp only at hx ⊢
   split at hx
   ·rename_i hn;rw[if_pos hn];exact hm _ _ _ _ hx
   ·rename_i hn;rw[if_neg hn];exact hm _ _ _ _ hx
 | loop b ih =>
  intro t h e K K' hk hm
  obtain⟨x,s,h1,h2⟩:=hk
  exact⟨x,s,h1,hm _ _ _ _ h2⟩
 | exit id=>intro t h e K K' hk hm;exact hm _ _ _ _ hk
 | ret=>intro t h e K K' hk hm;exact hm _ _ _ _ hk
 | _=>intro t h e K K' hk;exact hk.elim
def CK {σ:Type} (J:σ->(Nat->D)->(Nat->Option Row)->Nat->Prop) (P:σ->Prop) (R:Kt):Kt:=fun x t h e =>
 match x with
 | .normal=>∃s,P s∧J s t h e
 | x=>R x t h e
theorem av {σ:Type} {J:σ->(Nat->D)->(Nat->Option Row)->Nat->Prop} {P:σ->Prop} {R:Kt} : CK J P R .normal t h e = ∃s,P s∧J s t h e:=ahv
end
section
variable {h:Nat->Option Row}
theorem GA {k:IntKind} {n:Int} : canon (.int k n)=.int k n:=ahv
theorem CQ {b:Bool} : canon (.bool b)=.bool b:=ahv
theorem GC {b:ByteArray} : canon (.str b)=.str b:=ahv
theorem Lk {a b:Bool} {n:Nat} {xs:List D} : canon (.sl a b n xs)=.sl false false n xs:=ahv
theorem CN {k:IntKind} {n:Int} : fD (.int k n)=.int k n:=ahv
theorem AH {b:Bool} : fD (.bool b)=.bool b:=ahv
theorem CP {b:ByteArray} : fD (.str b)=.str b:=ahv
theorem Gz {a b:Bool} {n:Nat} {xs:List D} : fD (.sl a b n xs)=.sl false false n xs:=ahv
theorem CM {xs:List D} : fD (.agg xs)=.agg (xs.map canon):=ahv
def Zw (x s o n:Nat):Option Row->Option (D×List Nat)
 | some r=>if o+n*s<=r.cells.length then some (.sl false false n ((r.cells.drop o).take (n*s)),[x]) else none
 | none=>none
theorem Lw {x s o n:Nat} {r:Row} : Zw x s o n (some r)=if o+n*s<=r.cells.length then some (.sl false false n ((r.cells.drop o).take (n*s)),[x]) else none:=ahv
def clP (x o:Nat):Option Row->Option (D×List Nat)
 | some r=>if o<=r.cells.length then some (.ip (r.cells.drop o),[x]) else none
 | none=>none
theorem LG {x o:Nat} {r:Row} : clP x o (some r)=if o<=r.cells.length then some (.ip (r.cells.drop o),[x]) else none:=ahv
theorem Ls {k:IntKind} {n:Int} : bE h (.int k n)=some (.int k n,[]):=ahv
theorem GF {b:Bool} : bE h (.bool b)=some (.bool b,[]):=ahv
theorem Lv {b:ByteArray} : bE h (.str b)=some (.str b,[]):=ahv
theorem SA {a b:Bool} {n:Nat} {xs:List D} : bE h (.sl a b n xs)=some (.sl false false n xs,[]):=ahv
theorem Lo {xs:List D} : bE h (.agg xs)=some (.agg (xs.map canon),[]):=ahv
theorem Sy {xs:List D} : bE h (.ip xs)=some (.ip xs,[]):=ahv
theorem Sx {f:Nat} : bE h (.fn f)=some (.fn f,[]):=ahv
theorem Lq {x v s o n:Nat} : bE h (.buf x v s o n)=Zw x s o n (live h x v):=by
 simp only[bE,aR,cX]
 cases live h x v with
 | none=>rfl
 | some r=>by_cases hc:o+n*s<=r.cells.length<;>simp[Zw,hc,canon]
theorem Lu {x v o:Nat} : bE h (.ptr x v o)=clP x o (live h x v):=by
 simp only[bE,aR]
 cases live h x v with
 | none=>rfl
 | some r=>simp only[clP]
theorem WJ {k:IntKind} {n:Int} : ee h (.int k n)=some ([.int k n],[]):=ahv
theorem SE {b:Bool} : ee h (.bool b)=some ([.bool b],[]):=ahv
theorem WK {b:ByteArray} : ee h (.str b)=some ([.str b],[]):=ahv
theorem aaC {a b:Bool} {n:Nat} {xs:List D} : ee h (.sl a b n xs)=some ([.sl a b n xs],[]):=ahv
theorem WH {xs:List D} : ee h (.agg xs)=some (xs,[]):=ahv
def cvB:Option (D×List Nat)->Option (List D×List Nat)
 | some (d,fr)=>some ([d],fr)
 | none=>none
theorem LQ {d:D} {fr:List Nat} : cvB (some (d,fr))=some ([d],fr):=ahv
theorem WI {x v s o n:Nat} : ee h (.buf x v s o n)=cvB (Zw x s o n (live h x v)):=by
 simp only[ee,cX]
 cases live h x v with
 | none=>rfl
 | some r=>by_cases hc:o+n*s<=r.cells.length<;>simp[Zw,cvB,hc]
def clF (h:Nat->Option Row):Option (D×List Nat)->Option bM
 | some (d,fr)=>some ⟨d,iX h fr⟩
 | none=>none
theorem Ly {d:D} {fr:List Nat} : clF h (some (d,fr))=some ⟨d,iX h fr⟩:=ahv
theorem R7 {x v s o n:Nat} : ik h (.buf x v s o n)=clF h (Zw x s o n (live h x v)):=by
 simp only[ik,pn,cX]
 cases live h x v with
 | none=>rfl
 | some r=>by_cases hc:o+n*s<=r.cells.length<;>simp[Zw,clF,hc,canon,fD]
variable {Γ:Env} {f g e:Nat} {l:Bool} {G:Option (D×Row)->List D->Option (RK×Option Row)} {lent:Option (D×Row)} {aeJ:List D} {dst:Option Nat} {fr:List Nat}
theorem Hh:(Am.ext Γ f l G).lends g=if g=f then l else Γ.lends g:=ahv
theorem S1:(Am.ext Γ f l G).sem g lent aeJ=if g=f then G lent aeJ else Γ.sem g lent aeJ:=ahv
theorem S0 {d:Nat} : (Am.ext Γ f l G).own d=Γ.own d:=ahv
theorem HT {d:Nat} : aY.own d=true:=ahv
theorem Ni {d i:Nat} : (Am.keep d Γ).own i=(i != d&&Γ.own i):=ahv
theorem DV {d i:Nat} : (Am.keep d Γ).lends i=Γ.lends i:=ahv
theorem Nj {d i:Nat} : (Am.keep d Γ).sem i lent aeJ=Γ.sem i lent aeJ:=ahv
def CC (lends:Bool) (Γ:Env) (h:Nat->Option Row) (e:Nat) (dst:Option Nat) (g:Nat) (args:List D):Option bM :=
 if lends then
  match args with
  | .buf x v s o n::rest=>s8 Γ h e dst g x v (.buf 0 0 s o n) rest
  | .ptr x v o::rest=>s8 Γ h e dst g x v (.ptr 0 0 o) rest
  | _=>none
 else tY Γ h e dst g args
def Zv (p:Option (Nat×Nat×Nat)) (Γ:Env) (h:Nat->Option Row) (e:Nat) (dst:Option Nat) (g:Nat) (args:List D):Option bM :=
 match p with
 | some p=>s7 h e dst p args
 | none =>
  match Γ.grw g with
  | some p=>s6 h p args
  | none=>CC (Γ.lends g) Γ h e dst g args
def abw (p:Option Grow) (Γ:Env) (h:Nat->Option Row) (e:Nat) (dst:Option Nat) (g:Nat) (args:List D):Option bM :=
 match p with
 | some p=>s6 h p args
 | none=>CC (Γ.lends g) Γ h e dst g args
theorem Gt {args:List D} : Zv none Γ h e dst g args=abw (Γ.grw g) Γ h e dst g args:=ahv
theorem Gr {args:List D} : abw none Γ h e dst g args=CC (Γ.lends g) Γ h e dst g args:=ahv
theorem Gs {p:Grow} {args:List D} : abw (some p) Γ h e dst g args=s6 h p args:=ahv
theorem SX {f:Nat} {l:Bool} {G:Option (D×Row)->List D->Option (RK×Option Row)} : (Am.ext Γ f l G).grw g=Γ.grw g:=ahv
theorem Nf {d:Nat} : (Am.keep d Γ).grw g=Γ.grw g:=ahv
theorem MX {d y:Nat} : (Am.wS d y Γ).grw g=Γ.grw g:=ahv
theorem M8 {f:Nat} {p:Nat×Nat×Nat} : (Am.zU f p Γ).grw g=Γ.grw g:=ahv
theorem HP:aY.grw g=none:=ahv
theorem MR {f:Nat} {p:Grow} : (Am.DN f p Γ).grw g=if g=f then some p else Γ.grw g:=ahv
theorem MS {f:Nat} {p:Grow} : (Am.DN f p Γ).ins g=Γ.ins g:=ahv
theorem DO {f:Nat} {p:Grow} : (Am.DN f p Γ).lends g=Γ.lends g:=ahv
theorem MV {f:Nat} {p:Grow} {l:Option (D×Row)} {aeJ:List D} : (Am.DN f p Γ).sem g l aeJ=Γ.sem g l aeJ:=ahv
theorem MU {f:Nat} {p:Grow} {d:Nat} : (Am.DN f p Γ).own d=Γ.own d:=ahv
theorem Hu {f:Nat} {p:Grow} {d:Nat} : (Am.DN f p Γ).hint d=Γ.hint d:=ahv
def lvP (v:Nat):Option Row->Option (Row×Nat×Nat×Nat)
 | some r=>if r.v=v∧r.mp=true then (match r.cells with | [.ph y s n]=>some (r,y,s,n)|_=>none) else none
 | none=>none
theorem Nx {x v:Nat} : lz h x v=lvP v (h x):=by
 unfold lz lvP
 cases h x<;>rfl
theorem NI {v ty y s n:Nat} {fz lst:Bool} : lvP v (some ⟨v,ty,[.ph y s n],fz,lst,true⟩)=some (⟨v,ty,[.ph y s n],fz,lst,true⟩,y,s,n):=by simp[lvP]
def Wq (p:Grow) (y k:Nat) (rest:List D):Option (Row×Nat×Nat×Nat)->Option Row->Option bM
 | some (ry,k',s,n),some r =>
   if k'=k∧k=PK+y∧y<PK∧ry.fz=false∧r.mp=false∧r.fz=false∧r.lst=true∧s=p.k∧r.ty=p.ty∧r.cells.length=n*p.k∧(n+1)*p.bytes<=140737488355328 then
    match p.sem r.cells rest with
    | some cs=>some ⟨.int .i64 (n:Int),[(k,some ⟨r.v,p.ty,r.cells++cs,false,true,false⟩),(y,some ⟨ry.v,ry.ty,[.ph k p.k (n+1)],false,false,true⟩)]⟩
    | none=>none
   else none
 | _,_=>none
theorem So {p:Grow} {y v k:Nat} {rest:List D} : s6 h p (.pm y v k::rest)=Wq p y k rest (lz h y v) (h k):=ahv
def aaB (k y v ty e' ty' k' n:Nat) (cells:List D):Option (List D)->Option bM
 | some cs=>some ⟨.int .i64 (n:Int),[(k,some ⟨e',ty',cells++cs,false,true,false⟩),(y,some ⟨v,ty,[.ph k k' (n+1)],false,false,true⟩)]⟩
 | none=>none
theorem CA {ty' k' by_:Nat} {sem:List D->List D->Option (List D)} {y k:Nat} {rest:List D} {v ty s n e' tyr:Nat} {cells:List D} : Wq ⟨ty',k',by_,sem⟩ y k rest (some (⟨v,ty,[.ph k s n],false,false,true⟩,k,s,n)) (some ⟨e',tyr,cells,false,true,false⟩) =
  if k=1000000+y∧y<1000000∧s=k'∧tyr=ty'∧cells.length=n*k'∧(n+1)*by_<=140737488355328 then aaB k y v ty e' ty' k' n cells (sem cells rest) else none:=by
 simp only[Wq,PK,true_and]
 cases sem cells rest<;>rfl
theorem CB {k y v ty e' ty' k' n:Nat} {cells cs:List D} : aaB k y v ty e' ty' k' n cells (some cs)=some ⟨.int .i64 (n:Int),[(k,some ⟨e',ty',cells++cs,false,true,false⟩),(y,some ⟨v,ty,[.ph k k' (n+1)],false,false,true⟩)]⟩:=ahv
theorem Gu {p:Nat×Nat×Nat} {args:List D} : Zv (some p) Γ h e dst g args=s7 h e dst p args:=ahv
theorem SY {f:Nat} {l:Bool} {G:Option (D×Row)->List D->Option (RK×Option Row)} : (Am.ext Γ f l G).ins g=Γ.ins g:=ahv
theorem Ng {d:Nat} : (Am.keep d Γ).ins g=Γ.ins g:=ahv
theorem MY {d y:Nat} : (Am.wS d y Γ).ins g=Γ.ins g:=ahv
theorem HQ:aY.ins g=none:=ahv
theorem M9 {f:Nat} {p:Nat×Nat×Nat} : (Am.zU f p Γ).ins g=if g=f then some p else Γ.ins g:=ahv
theorem DT {f:Nat} {p:Nat×Nat×Nat} : (Am.zU f p Γ).lends g=Γ.lends g:=ahv
theorem Nc {f:Nat} {p:Nat×Nat×Nat} {l:Option (D×Row)} {aeJ:List D} : (Am.zU f p Γ).sem g l aeJ=Γ.sem g l aeJ:=ahv
theorem Nb {f:Nat} {p:Nat×Nat×Nat} {d:Nat} : (Am.zU f p Γ).own d=Γ.own d:=ahv
theorem Hz {f:Nat} {p:Nat×Nat×Nat} {d:Nat} : (Am.zU f p Γ).hint d=Γ.hint d:=ahv
def Wr (ty k by_ x y s s' o o' n m:Nat) (i:Int) (e:Nat) (d:Nat):Option Row->Option Row->Option bM
 | some r,some r' =>
   if r.fz=false∧r'.fz=false∧r.lst=true∧r'.lst=true∧x≠y∧s=k∧s'=k∧r.ty=ty∧r'.ty=ty∧o=0∧o'=0∧r.cells.length=n*k∧r'.cells.length=m*k∧0<=i∧i<=n∧0<m∧(n+m)*by_<=140737488355328 then
    some ⟨.buf d e k 0 (n+m),[(y,none),(x,none),(d,some ⟨e,ty,r.cells.take (i.toNat*k)++(r'.cells++r.cells.drop (i.toNat*k)),false,true,false⟩)]⟩
   else none
 | _,_=>none
theorem Sp {ty k by_ x v s o n y v' s' o' m d:Nat} {i:Int} : s7 h e (some d) (ty,k,by_) [.buf x v s o n,.int .i64 i,.buf y v' s' o' m]=Wr ty k by_ x y s s' o o' n m i e d (live h x v) (live h y v'):=by
 simp only[s7,Wr]
 cases live h x v with
 | none=>rfl
 | some r=>cases live h y v'<;>rfl
theorem CE {ty k by_ x y s s' o o' n m : Nat} {i : Int} {d : Nat} {r r' : Row} : Wr ty k by_ x y s s' o o' n m i e d (some r) (some r') = if r.fz = false ∧ r'.fz = false ∧ r.lst = true ∧ r'.lst = true ∧ x ≠ y ∧ s = k ∧ s' = k ∧ r.ty = ty ∧ r'.ty = ty ∧ o = 0 ∧ o' = 0 ∧ r.cells.length = n * k ∧ r'.cells.length = m * k ∧ 0 <= i ∧ i <= n ∧ 0 < m ∧ (n + m) * by_ <= 140737488355328 then
        some ⟨.buf d e k 0 (n + m), [(y, none), (x, none), (d, some ⟨e, ty, r.cells.take (i.toNat * k) ++ (r'.cells ++ r.cells.drop (i.toNat * k)), false, true, false⟩)]⟩
      else none := Eq.trans rfl rfl
theorem Sq {args:List D} : hX Γ h e dst (.fn g) args=Zv (Γ.ins g) Γ h e dst g args:=by
 simp only[hX,Zv,CC]
 cases Γ.ins g with
 | none=>cases Γ.grw g<;>rfl
 | some p=>rfl
def Uw (h:Nat->Option Row) (e:Nat) (dst:Option Nat) (fr:List Nat):Option (RK×Option Row)->Option bM
 | some (.clean r,_)=>some ⟨r,if gu r then [] else iX h fr⟩
 | some (.fresh ty s n cells,_) =>
  match dst with
  | some d=>if fr.contains d=false then some ⟨.buf d e s 0 n,(if pC cells then [] else iX h fr)++[(d,some ⟨e,ty,cells,false,true,false⟩)]⟩ else none
  | none=>none
 | _=>none
def Wp (Γ:Env) (h:Nat->Option Row) (e:Nat) (dst:Option Nat) (g:Nat):Option (List D×List Nat)->Option bM
 | some (aeJ,fr)=>Uw h e dst fr (Γ.sem g none aeJ)
 | none=>none
theorem zK {args:List D} : CC false Γ h e dst g args=Wp Γ h e dst g (bk h args):=by
 simp only[CC,afo,if_false,tY,Wp]
 cases bk h args with
 | none=>rfl
 | some p =>
  obtain⟨aeJ,fr⟩:=p
  simp only
  cases hs:Γ.sem g none aeJ with
  | none=>rfl
  | some q =>
   obtain⟨rk,o⟩:=q
   cases rk<;>rfl
theorem Gq:Wp Γ h e dst g (some (aeJ,fr))=Uw h e dst fr (Γ.sem g none aeJ):=ahv
def Xf (h:Nat->Option Row) (fr:List Nat):Bool->List (Nat×Option Row)
 | true=>[]
 | false=>iX h fr
theorem Ht:Xf h fr true=[]:=ahv
theorem DE:Xf h fr false=iX h fr:=ahv
theorem MA {b:Bool} : Xf h [] b=[]:=by cases b<;>rfl
theorem CI {r:D} {o:Option Row} : Uw h e dst fr (some (.clean r,o))=some ⟨r,Xf h fr (gu r)⟩:=by
 simp only[Uw]
 cases gu r<;>rfl
theorem S3:iX h []=[]:=ahv
theorem MB {x:Nat} : iX h (x::fr)=(x,(h x).map qZ)::iX h fr:=ahv
theorem Xi {v ty:Nat} {cells:List D} {lst mp:Bool} : qZ ⟨v,ty,cells,true,lst,mp⟩=⟨v,ty,cells,true,lst,mp⟩:=ahv
theorem Xg {v ty:Nat} {cells:List D} {lst mp:Bool} : qZ ⟨v,ty,cells,false,lst,mp⟩=⟨v,ty,cells,true,true,mp⟩:=ahv
theorem GG:bk h []=some ([],[]):=ahv
def caC (p:Option (D×List Nat)) (q:Option (List D×List Nat)):Option (List D×List Nat) :=
 match p,q with
 | some (d',fr),some (ds',fr')=>some (d'::ds',fr++fr')
 | _,_=>none
theorem K6 {d:D} {fr fr':List Nat} {ds:List D} : caC (some (d,fr)) (some (ds,fr'))=some (d::ds,fr++fr'):=ahv
theorem CR {d:D} {ds:List D} : bk h (d::ds)=caC (bE h d) (bk h ds):=by
 simp only[bk]
 cases bE h d with
 | none=>rfl
 | some p=>cases bk h ds<;>rfl
variable {T:Nat->Option Ty} {s:St} {rs:List ResultVar} {r:ResultVar}
theorem OO:uT T s []=some ([],[]):=ahv
theorem It:uT T s (r::rs)=caC (OM T s r) (uT T s rs):=by
 simp only[uT]
 cases OM T s r with
 | none=>rfl
 | some p=>cases uT T s rs<;>rfl
theorem ON {t:Nat->D} {i:Nat} : OM T ⟨t,h,e⟩ (.tmp i)=bE h (t i):=ahv
def abX (T:Nat->Option Ty) (h:Nat->Option Row) (d:D) (τ:Option Ty):Option (D×List Nat) :=
 match τ,d with
 | some τ,.ptr x v o=>match dg τ h (.ptr x v o) with|some E=>some (fD E.val,[])|none=>none
 | _,_=>none
theorem Ir {t:Nat->D} {i ty:Nat} : OM T ⟨t,h,e⟩ (.cell i ty)=abX T h (t i) (T ty):=ahv
def abY:Option bM->Option (D×List Nat)
 | some E=>some (fD E.val,[])
 | none=>none
theorem Is {d:D} {w:List (Nat×Option Row)} : abY (some ⟨d,w⟩)=some (fD d,[]):=ahv
theorem OL {τ:Ty} {x v o:Nat} : abX T h (.ptr x v o) (some τ)=abY (dg τ h (.ptr x v o)):=by
 simp only[abX,abY]
def abB (p:Option (List D×List Nat)):Option (RK×Option Row) :=
 match p with
 | some (ds,_)=>some (.clean (m9 ds),none)
 | none=>none
theorem G8 {ds:List D} {fr:List Nat} : abB (some (ds,fr))=some (.clean (m9 ds),none):=ahv
theorem Dx:iP .clean T none rs s=abB (uT T s rs):=by
 simp only[iP,uv,mf,ZY,abB]
 cases uT T s rs<;>rfl
theorem CJ {ty sz n d:Nat} {cells:List D} {o:Option Row} : Uw h e (some d) fr (some (.fresh ty sz n cells,o))=if fr.contains d=false then some ⟨.buf d e sz 0 n,Xf h fr (pC cells)++[(d,some ⟨e,ty,cells,false,true,false⟩)]⟩ else none:=by
 simp only[Uw]
 cases pC cells<;>rfl
theorem zP {k:IntKind} : ∀l:List Int,pC (ae (eI k) l)=true
 | []=>rfl
 | x::l=>by
  have:=zP (k:=k) l
  simp only[a7,Dh,List.cons_append,List.nil_append,pC,gu,this,Bool.and_self]
theorem Dy {ty sz i:Nat} {t:Nat->D} : iP (.fresh ty sz) T none [.tmp i] ⟨t,h,e⟩=mT ty sz h (t i):=ahv
theorem Dz {i:Nat} {t:Nat->D} : iP .tight T none [.tmp i] ⟨t,h,e⟩=vx (t i):=ahv
theorem Xb {nl tg:Bool} {n:Nat} {xs:List D} : vx (.sl nl tg n xs)=some (.clean (.sl nl tg n xs),none):=ahv
theorem SO {ty sz x v o n:Nat} : mT ty sz h (.buf x v sz o n)=vw ty sz o n (live h x v):=by simp[mT]
theorem W6 {ty sz:Nat} {nl tg:Bool} {xs:List D} : mT ty sz h (.sl nl tg 0 xs)=if tg=true then some (.fresh ty sz 0 [],none) else none:=ahv
theorem Mf {ty sz o n:Nat} {r:Row} : vw ty sz o n (some r)=if r.fz=false∧r.ty=ty∧o+n*sz<=r.cells.length then some (.fresh ty sz n ((r.cells.drop o).take (n*sz)),none) else none:=ahv
theorem EO {d:D} : m9 [d]=d:=ahv
theorem EP {d d':D} {ds:List D} : m9 (d::d'::ds)=.tup (d::d'::ds):=ahv
end
theorem Jq (k:IntKind):(eI k).size=1:=ahv
theorem xh:lY.size=1:=ahv
theorem zN:acA.size=1:=ahv
theorem Dj {α:Type} (e:jf α):(Md e).size=1:=ahv
section
variable {α:Type} (E:jf α) {l m:List α} {x x' z:α} {i a b n c:Int} {B:Nat}
theorem pG (h:P.idx l i=some x):0<=i∧i<l.length:=by
 unfold P.idx at h
 split at h
 ·assumption
 ·cases h
theorem JL (h:P.idx l i=some x):l[i.toNat]? = some x:=by
 unfold P.idx at h
 split at h
 ·exact h
 ·cases h
theorem yy (h:P.idx l i=some x):(ae E l).drop (i.toNat*E.size)=E.cells x++ae E (l.drop (i.toNat+1)):=by
 have h':=JL h
 obtain⟨hi,rfl⟩:=afh.1 h'
 rw[oP,agI hi]
 rfl
theorem jN (fo:Nat) (h:P.idx l i=some x):(ae E l).drop (i.toNat*E.size+fo)=(E.cells x++ae E (l.drop (i.toNat+1))).drop fo:=by
 rw[<- agz,yy E h]
theorem j9 (h:P.idx l i=some x):i.toNat*E.size+E.size<=l.length*E.size:=by
 have h':=pG h
 have:i.toNat+1<=l.length:=by omega
 have:=afA E.size this
 rwa [afJ]at this
theorem bm (h:P.idx l i=some x):(0<=i∧i<l.length)∧(ae E l).drop (i.toNat*E.size)=E.cells x++ae E (l.drop (i.toNat+1))∧i.toNat*E.size+E.size<=l.length*E.size:=⟨pG h,yy E h,j9 E h⟩
theorem iY (fo s:Nat) (hs:fo+s<=E.size) (h:P.idx l i=some x):i.toNat*E.size+fo+s<=l.length*E.size:=by
 have:=j9 E h
 omega
theorem Ri:∀(l:List α) (i:Nat) (x:α),l[i]? = some x->∀x',ae E (l.set i x')=(ae E l).take (i*E.size)++E.cells x'++(ae E l).drop (i*E.size+E.size)
 | [],i,x,h,x'=>by simp at h
 | y::l,0,x,h,x'=>by
  rw[List.set_cons_zero,a7,a7,agB,agJ,agu,afB,agw,E.len,afR,af7,agx (by rw[E.len];exact aeO _),agu]
 | y::l,i+1,x,h,x'=>by
  have ih:=Ri l i x (by simpa using h) x'
  rw[List.set_cons_succ,a7,a7,ih,afJ]
  have hy:=E.len y
  have e1:(E.cells y++ae E l).take (i*E.size+E.size)=E.cells y++(ae E l).take (i*E.size):=by rw[af4,hy,af6 (by omega),agy]
  have e2:(E.cells y++ae E l).drop (i*E.size+E.size+E.size)=(ae E l).drop (i*E.size+E.size):=by
   rw[agw,hy,agx (by omega),agu,agy]
  rw[e1,e2]
  simp only[af1]
theorem dF (fo:Nat) (cs:List D) (h:P.idx l i=some x) (hc:E.cells x'=putCells (E.cells x) fo cs) (hfo:fo+cs.length<=E.size):putCells (ae E l) (i.toNat*E.size+fo) cs=ae E (l.set i.toNat x'):=by
 have h':=JL h
 rw[Ri E l i.toNat x h' x',hc]
 have he:=yy E h
 have hf:=j9 E h
 have hl:=bQ E l
 have hx:=E.len x
 have hsplit:ae E l=(ae E l).take (i.toNat*E.size)++(E.cells x++(ae E l).drop (i.toNat*E.size+E.size)):=by
  have h1:=agA (i.toNat*E.size) (ae E l)
  have h2:(ae E l).drop (i.toNat*E.size+E.size)=ae E (l.drop (i.toNat+1)):=by
   rw[<- agz,he,agw,hx,afR,af7,agx (by omega),agu]
  rw[h2,<- he,h1]
 generalize (ae E l).drop (i.toNat*E.size+E.size)=r at *
 generalize ht:(ae E l).take (i.toNat*E.size)=p at *
 have hp:p.length=i.toNat*E.size:=by rw[<- ht];simp;omega
 unfold putCells
 rw[hsplit]
 have e1:(p++(E.cells x++r)).take (i.toNat*E.size+fo)=p++(E.cells x).take fo:=by
  rw[af4,hp,af6 (by omega),af3,af5 (by omega)]
 have e2:(p++(E.cells x++r)).drop (i.toNat*E.size+fo+cs.length)=(E.cells x).drop (fo+cs.length)++r:=by
  rw[ae9,agw,hp,agx (by omega),af3,agu,af2 (by omega)]
 rw[e1,e2]
 simp only[af1]
theorem X5 (h:P.idx l i=some x):putCells (ae E l) (i.toNat*E.size) (E.cells x')=ae E (l.set i.toNat x'):=by
 have:=dF E (x':=x') 0 (E.cells x') h (by unfold putCells;simp[E.len]) (by rw[E.len];omega)
 simpa using this
theorem XM (h:B1 B n c z=some m):m=List.replicate n.toNat z∧0<=n∧n<=c∧c<=maxLen∧c.toNat*B<=140737488355328:=by
 unfold B1 at h
 split at h
 ·cases h;exact⟨rfl,by assumption⟩
 ·cases h
theorem mk_one (h:B1 B n n z=some m):0<=n∧n.toNat=m.length∧m.length<=maxLen∧m8 m.length (E.cells z)=ae E m∧m.length*B<=140737488355328:=by
 obtain⟨rfl,h1,_,h3,h4⟩:=XM h
 refine⟨h1,by simp,by simp;omega,by rw[Mj];simp,by simpa using h4⟩
theorem Ak (h:BT l a b=some m):0<=a∧0<=b∧a.toNat<=b.toNat∧b.toNat<=l.length∧b.toNat-a.toNat=m.length∧(List.take (m.length*E.size) (List.drop (a.toNat*E.size) (ae E l))=ae E m):=by
 unfold BT at h
 split at h
 ·rename_i hc
  cases h
  have hl:((l.drop a.toNat).take (b.toNat-a.toNat)).length=b.toNat-a.toNat:=by simp;omega
  refine⟨hc.1,by omega,by omega,by omega,hl.symm,?_⟩
  rw[hl,oP,ew]
 ·cases h
theorem ab3 (h:BT l a b=some m):0<=a∧0<=b∧(a.toNat<=b.toNat∧b.toNat<=l.length)∧b.toNat-a.toNat=m.length∧(List.take (m.length*E.size) (List.drop (a.toNat*E.size) (ae E l))=ae E m):=by
 obtain⟨h1,h2,h3,h4,h5,h6⟩:=Ak E h
 exact⟨h1,h2,⟨h3,h4⟩,h5,h6⟩
theorem Yf (h:BT l a (l.length:Int)=some m):0<=a∧0<=a∧a.toNat<=l.length∧l.length-a.toNat=m.length∧(List.take (m.length*E.size) (List.drop (a.toNat*E.size) (ae E l))=ae E m):=by
 obtain⟨h1,h2,h3,h4,h5,h6⟩:=Ak E h
 simp only[Int.toNat_natCast]at h3 h5
 exact⟨h1,h1,h3,h5,h6⟩
theorem Ks (h:BT l 0 b=some m):0<=b∧0<=b∧m.length<=l.length∧b.toNat=m.length∧(List.take (m.length*E.size) (ae E l)=ae E m):=by
 obtain⟨h1,h2,h3,h4,h5,h6⟩:=Ak E h
 have h5':b.toNat=m.length:=by simpa using h5
 refine⟨h2,h2,by omega,h5',by simpa using h6⟩
theorem zG {n:List α} (h:iB B l m=some n):n=l++m∧n.length<=maxLen∧n.length*B<=140737488355328:=by
 unfold iB at h
 split at h
 ·rename_i hc
  cases h
  exact⟨rfl,by rw[afP];exact hc.1,by rw[afP];exact hc.2⟩
 ·cases h
theorem gI {n:List α} (h:iB B l [x]=some n):l.length+1=n.length∧ae E l++E.cells x=ae E n∧n.length<=maxLen∧n.length*B<=140737488355328:=by
 obtain⟨rfl,h1,h2⟩:=zG h
 exact⟨by simp,by rw[fJ];simp[ae],h1,h2⟩
theorem xT {n:List α} (h:iB B [] l=some n):n=l∧l.length<=maxLen∧l.length*B<=140737488355328:=by
 obtain⟨rfl,h1,h2⟩:=zG h
 exact⟨rfl,h1,h2⟩
theorem Zp {n:List α} (h:iB B l m=some n):l.length+m.length=n.length∧ae E l++ae E m=ae E n∧n.length<=maxLen∧n.length*B<=140737488355328:=by
 obtain⟨rfl,h1,h2⟩:=zG h
 exact⟨by simp,by rw[fJ],h1,h2⟩
end
theorem sb {k:IntKind} {x y z:Int} (h:CZ k x y=some z):¬y=0∧k.wrap (x.tdiv y)=z:=by
 unfold CZ at h
 split at h
 ·cases h
 ·cases h;exact⟨by assumption,rfl⟩
theorem nw {k:IntKind} {x y z:Int} (h:uI k x y=some z):¬y=0∧x.tmod y=z:=by
 unfold uI at h
 split at h
 ·cases h
 ·cases h;exact⟨by assumption,rfl⟩
theorem km {k:IntKind} {x y z:Int} (h:tK k x y=some z):¬y<0∧k.wrap (x*2 ^ (min y.toNat k.bits))=z:=by
 unfold tK at h
 split at h
 ·cases h
 ·cases h;exact⟨by assumption,rfl⟩
theorem gQ {k:IntKind} {x y z:Int} (h:nc k x y=some z):¬y<0∧x.fdiv (2 ^ (min y.toNat k.bits))=z:=by
 unfold nc at h
 split at h
 ·cases h
 ·cases h;exact⟨by assumption,rfl⟩
theorem Sm (op:BinOp) (k:IntKind) (x y:Int):Cx op k x y=cV op k x y:=ahv
theorem TP {s:ByteArray} {i x:Int} (h:P.aaa s i=some x):0<=i∧0<=i∧s[i.toNat]? = some (UInt8.ofNat x.toNat)∧((UInt8.ofNat x.toNat).toNat:Int)=x:=by
 unfold P.aaa at h
 split at h
 ·rename_i hi
  rw[aeM]at h
  obtain⟨b,h1,h2⟩:=h
  subst h2
  have:UInt8.ofNat (b.toNat:Int).toNat=b:=by simp
  exact⟨hi,hi,by rw[h1,this],by rw[this]⟩
 ·cases h
theorem qF.emp {P:Program} {f:FuncId} {rk:RK} {out:Option Row} (h1:qF P f none [.sl true true 0 []] rk out) (h2:qF P f none [.sl true false 0 []] rk out):qF P f none [.sl false false 0 []] rk out:=by
 intro w M vs hM ha
 have hd:=ha.2 0 _ rfl
 generalize hu:vs.getD 0 undef=u at hd
 cases hd with
 | sl A c nl tight n xs us k1 k2 k3 k4 k5 k6 k7 k8 =>
  cases A with
  | none =>
   refine h1 w M vs hM ⟨ha.1,fun j d hj =>?_,ha.tab⟩
   cases j with
   | zero=>cases hj;rw[hu];exact .sl none c true true 0 [] us k1 k2 (fun _=>⟨fun _=>⟨rfl,(k4 rfl).2⟩,fun h=>by cases h⟩) k4 (fun _=>(k4 rfl).2) k6 k7 k8
   | succ j=>simp at hj
  | some A =>
   refine h2 w M vs hM ⟨ha.1,fun j d hj =>?_,ha.tab⟩
   cases j with
   | zero=>cases hj;rw[hu];exact .sl (some A) c true false 0 [] us k1 k2 (fun _=>⟨(fun h=>by cases h),fun _ h=>by cases h⟩) k4 (fun h=>by cases h) k6 k7 k8
   | succ j=>simp at hj
theorem bT.acO {P:Program} {T:Nat->Option Ty} {Γ:Env} (hT:kq P T) (hΓ:bq P Γ) (hm:P.follows .mixedOrders=true) {α β:Type} {E:jf α} {F:List α->Option β} {R:β->RK} {mode:Mode} {f:FuncId} {fn:Func} (hf:P.funcs[f]? = some fn) (hok:(match fn.body with|some c=>codeOk c|none=>true)=true)
  (hc:(fn.name == "runtime.NumGoroutine")=false∧fn.body.isNone=false) (hn:1<=fn.ntmps)
  (h0:∀r,F []=some r->a6 mode T Γ FU fn none [.sl true true 0 []]=some (R r,none))
  (h1:∀r,F []=some r->a6 mode T Γ FU fn none [.sl true false 0 []]=some (R r,none))
  (h2:∀l r,0<l.length->F l=some r->a6 mode T Γ FU fn none [.sl false false l.length (ae E l)]=some (R r,none)):bT P f (fR (fH (lM E)) F R) where
 calls lent aeJ rk out hg:=by
  obtain⟨rfl,rfl,l,r,rfl,hr,rfl⟩:=Ea hg
  cases l with
  | nil=>exact qF.emp (lH hT hΓ hm hf hok hn rfl (h0 r hr)) (lH hT hΓ hm hf hok hn rfl (h1 r hr))
  | cons x l=>exact lH hT hΓ hm hf hok hn rfl (h2 (x::l) r (by simp) hr)
 callable:=⟨fn,hf,hc⟩
theorem ZK {α:Type} (E:jf α) {B:Nat} {l n:List α} {i:Int} {x:α} (h:Xt B l i [x]=some n):0<=i∧i<=(l.length:Int)∧l.length+1=n.length∧n.length*B<=140737488355328 ∧
  (ae E l).take (i.toNat*E.size)++(E.cells x++(ae E l).drop (i.toNat*E.size))=ae E n:=by
 unfold Xt at h
 split at h
 ·rename_i hc
  cases h
  obtain⟨h1,h2,-,h4⟩:=hc
  have hl:l.length+1=(l.take i.toNat++([x]++l.drop i.toNat)).length:=by simp;omega
  refine⟨h1,h2,hl,by rw[<- hl];exact h4,?_⟩
  rw[fJ,fJ,ew,oP]
  simp[ae]
 ·cases h
theorem V2 {w:World} {M:Nat->Prop} {k:IntKind} {n:Int} {u:Value} (h:RP w M (.int k n) u):u=.int k n:=by cases h;rfl
theorem fO (b:Nat) {ty:Nat} {fr:Nat×Nat} : ∀(vs:List Value) (o:Nat) (w:World) (arr:Array Value),w.heap[b]? = some (.cells arr ty fr)->o+vs.length<=arr.size ->
  (w.setCells b o vs).os=w.os∧(w.setCells b o vs).tape=w.tape∧(w.setCells b o vs).output=w.output∧(w.setCells b o vs).heap.size=w.heap.size∧(∀k,k≠b->(w.setCells b o vs).heap[k]? = w.heap[k]?) ∧
  ∃arr',(w.setCells b o vs).heap[b]? = some (.cells arr' ty fr)∧arr'.size=arr.size∧∀j,arr'[j]? = if o<=j∧j<o+vs.length then vs[j-o]? else arr[j]?
 | [],o,w,arr,h,_=>⟨rfl,rfl,rfl,rfl,fun k _=>rfl,arr,h,rfl,fun j=>by rw[if_neg (by simp)]⟩
 | v::r,o,w,arr,h,hl=>by
  simp only[List.length_cons]at hl
  have h1:(w.setCell ⟨b,o,none⟩ v).heap[b]? = some (.cells (arr.setIfInBounds o v) ty fr):=by
   simp[World.setCell,aeY,h]
  obtain⟨e1,e2,e3,e4,e5,arr',e6,e7,e8⟩:=fO b r (o+1) (w.setCell ⟨b,o,none⟩ v) _ h1 (by simp;omega)
  refine⟨e1,e2,e3,e4.trans (by simp[World.setCell]),fun k hk=>(e5 k hk).trans (by simp[World.setCell,aeY,Ne.symm hk]),arr',e6,by simpa using e7,fun j =>?_⟩
  rw[e8 j,Array.getElem?_setIfInBounds]
  simp only[List.length_cons]
  by_cases h1:o+1<=j∧j<o+1+r.length
  ·rw[if_pos h1,if_pos (by omega)]
   have:j-o=(j-(o+1))+1:=by omega
   rw[this,afO]
  ·rw[if_neg h1]
   by_cases h2:o=j
   ·subst h2
    rw[if_pos rfl,if_pos (by omega),if_pos (by omega),afR]
    rfl
   ·rw[if_neg h2,if_neg (by omega)]
theorem vm1:type_of% (ai @Je<|ai @Cz<|ai @IA<|ai @OT<|ai @OS<|ai @Iy<|ai @EW<|ai @Iz<|ai @bn<|ai @bg<|ai @tp<|ai @bB<|ai @wZ<|ai @Bn<|ai @EZ<|ai @Ix<|ai @I3<|ai @Fg<|ai @OQ<|ai @Iv<|ai @ET<|ai @I4<|ai @Fh<|ai @Fi<|ai @Bv<|ai @OR<|ai @Iw<|ai @EU<|ai @I5<|ai @Fj<|ai @Fk<|ai @Bw<|ai @Pb<|ai @Pk<|ai @TT<|ai @TY<|ai @EA<|ai @Bb<|ai @EB<|ai @Bc<|ai @LY<|ai @L4<|ai @LX<|ai @L3<|ai @C1<|ai @C4<|ai @GN<|ai @GW<|ai @LZ<|ai @L5<|ai @LV<|@L1):=⟨@Je,@Cz,@IA,@OT,@OS,@Iy,@EW,@Iz,@bn,@bg,@tp,@bB,@wZ,@Bn,@EZ,@Ix,@I3,@Fg,@OQ,@Iv,@ET,@I4,@Fh,@Fi,@Bv,@OR,@Iw,@EU,@I5,@Fj,@Fk,@Bw,@Pb,@Pk,@TT,@TY,@EA,@Bb,@EB,@Bc,@LY,@L4,@LX,@L3,@C1,@C4,@GN,@GW,@LZ,@L5,@LV,@L1⟩
theorem vm2:type_of% (ai @GU<|ai @G2<|ai @yc<|ai @yf<|ai @wH<|ai @wL<|ai @GP<|ai @GY<|ai @wI<|ai @wM<|ai @GQ<|ai @GZ<|ai @GR<|ai @G0<|ai @GO<|ai @GX<|ai @uf<|ai @ug<|ai @wJ<|ai @wN<|ai @GM<|ai @GV<|ai @SG<|ai @SH<|ai @AL<|ai @AP<|ai @AM<|ai @AQ<|ai @LU<|ai @L0<|ai @AK<|ai @AO<|ai @Oq<|ai @OB<|ai @Gm<|ai @Aw<|ai @GJ<|ai @Mr<|ai @Dd<|ai @Dc<|ai @DQ<|ai @DP<|ai @dn<|ai @AY<|ai @dm<|ai @sG<|ai @Ug<|ai @KY<|ai @Gd<|ai @Gc<|ai @HX<|@Hj):=⟨@GU,@G2,@yc,@yf,@wH,@wL,@GP,@GY,@wI,@wM,@GQ,@GZ,@GR,@G0,@GO,@GX,@uf,@ug,@wJ,@wN,@GM,@GV,@SG,@SH,@AL,@AP,@AM,@AQ,@LU,@L0,@AK,@AO,@Oq,@OB,@Gm,@Aw,@GJ,@Mr,@Dd,@Dc,@DQ,@DP,@dn,@AY,@dm,@sG,@Ug,@KY,@Gd,@Gc,@HX,@Hj⟩
theorem vm3:type_of% (ai @Hk<|ai @Bp<|ai @Fe<|ai @Fc<|ai @Bu<|ai @uZ<|ai @tr<|ai @Br<|ai @tu<|ai @Bs<|ai @tv<|ai @Bo<|ai @I2<|ai @w4<|ai @w5<|ai @Bq<|ai @rv<|ai @Bt<|ai @Fb<|ai @w1<|ai @zd<|ai @Tw<|ai @N9<|ai @Iq<|ai @Ip<|ai @HC<|ai @Se<|ai @KZ<|ai @Si<|ai @Wk<|ai @Sh<|ai @Wh<|ai @Sc<|ai @Sj<|ai @Wg<|ai @BW<|ai @Sk<|ai @Sd<|ai @Gg<|ai @Cu<|ai @Sg<|ai @Gh<|ai @GA<|ai @CQ<|ai @GC<|ai @Lk<|ai @CN<|ai @AH<|ai @CP<|ai @Gz<|ai @CM<|@Lw):=⟨@Hk,@Bp,@Fe,@Fc,@Bu,@uZ,@tr,@Br,@tu,@Bs,@tv,@Bo,@I2,@w4,@w5,@Bq,@rv,@Bt,@Fb,@w1,@zd,@Tw,@N9,@Iq,@Ip,@HC,@Se,@KZ,@Si,@Wk,@Sh,@Wh,@Sc,@Sj,@Wg,@BW,@Sk,@Sd,@Gg,@Cu,@Sg,@Gh,@GA,@CQ,@GC,@Lk,@CN,@AH,@CP,@Gz,@CM,@Lw⟩
theorem vm4:type_of% (ai @LG<|ai @Ls<|ai @GF<|ai @Lv<|ai @SA<|ai @Lo<|ai @Sy<|ai @Sx<|ai @Lq<|ai @Lu<|ai @WJ<|ai @SE<|ai @WK<|ai @aaC<|ai @WH<|ai @WI<|ai @LQ<|ai @Hh<|ai @S1<|ai @Sq<|ai @zK<|ai @Gq<|ai @CI<|ai @Ht<|ai @DE<|ai @MA<|ai @S3<|ai @MB<|ai @GG<|ai @CR<|ai @K6<|ai @OO<|ai @It<|ai @ON<|ai @Ir<|ai @OL<|ai @Is<|ai @Dx<|ai @G8<|ai @CJ<|ai @zP<|ai @Dy<|ai @Dz<|ai @Xb<|ai @SO<|ai @W6<|ai @Mf<|ai @EO<|ai @EP<|ai @Sm<|ai @yl<|@a7):=⟨@LG,@Ls,@GF,@Lv,@SA,@Lo,@Sy,@Sx,@Lq,@Lu,@WJ,@SE,@WK,@aaC,@WH,@WI,@LQ,@Hh,@S1,@Sq,@zK,@Gq,@CI,@Ht,@DE,@MA,@S3,@MB,@GG,@CR,@K6,@OO,@It,@ON,@Ir,@OL,@Is,@Dx,@G8,@CJ,@zP,@Dy,@Dz,@Xb,@SO,@W6,@Mf,@EO,@EP,@Sm,@yl,@a7⟩
theorem vmk:type_of% (And.intro (@Pr)<|@Ps):=⟨@Pr,@Ps⟩
theorem vmc:type_of% (ai @true_and<|ai @and_true<|ai @afo<|ai @aeU<|ai @afC<|ai @agF<|ai @af7<|ai @agG<|ai @agJ<|ai @afe<|ai @aff<|ai @List.contains_nil.{0}<|ai @agu<|ai @agE<|ai @agD<|ai @afd<|ai @afO<|ai @decide_true<|ai @decide_false<|ai @beq_self_eq_true.{0}<|ai @List.isEmpty_nil.{0}<|ai @List.isEmpty_cons.{0}<|ai @Option.map_none.{0,0}<|ai @aeW<|ai @List.all_cons.{0}<|ai @List.all_nil.{0}<|ai @agK<|ai @Bool.and_true<|ai @af9<|ai @agL<|ai @Bool.and_self<|ai @af8<|ai @agM<|ai @and_self<|ai @afB<|ai @afn<|ai @agB<|ai @Nat.sub_zero<|ai @aeP<|ai @aeO<|ai @aeX<|ai @Nat.le_zero_eq<|ai @Nat.one_ne_zero<|ai @Bool.or_self<|ai @Bool.or_true<|ai @Bool.true_or<|ai @Bool.or_false<|ai @Bool.false_or<|@agN):=⟨@true_and,@and_true,@afo,@aeU,@afC,@agF,@af7,@agG,@agJ,@afe,@aff,@List.contains_nil.{0},@agu,@agE,@agD,@afd,@afO,@decide_true,@decide_false,@beq_self_eq_true.{0},@List.isEmpty_nil.{0},@List.isEmpty_cons.{0},@Option.map_none.{0,0},@aeW,@List.all_cons.{0},@List.all_nil.{0},@agK,@Bool.and_true,@af9,@agL,@Bool.and_self,@af8,@agM,@and_self,@afB,@afn,@agB,@Nat.sub_zero,@aeP,@aeO,@aeX,@Nat.le_zero_eq,@Nat.one_ne_zero,@Bool.or_self,@Bool.or_true,@Bool.true_or,@Bool.or_false,@Bool.false_or,@agN⟩
theorem vm5:type_of% (ai @EY<|ai @EX<|ai @aaz<|ai @Gi<|ai @Cv<|ai @R8<|ai @KT<|ai @R9<|ai @V8<|ai @R6<|ai @R7<|ai @Ly<|ai @S0<|ai @HT<|ai @Ni<|ai @DV<|@Nj):=⟨@EY,@EX,@aaz,@Gi,@Cv,@R8,@KT,@R9,@V8,@R6,@R7,@Ly,@S0,@HT,@Ni,@DV,@Nj⟩
theorem vmu:type_of% (ai @xw.eq_1<|ai @xw.eq_2<|ai @ev.eq_1<|ai @ev.eq_2<|ai @ev.eq_3<|ai @ev.eq_4<|ai @n9.eq_1<|ai @n9.eq_2<|ai @n9.eq_3<|ai @n9.eq_4<|ai @n9.eq_5<|ai @n9.eq_6<|ai @dY.eq_1<|ai @dY.eq_2<|ai @zJ.eq_1<|ai @zJ.eq_2<|ai @zJ.eq_3<|ai @kU.eq_1<|ai @kU.eq_2<|ai @kU.eq_3<|ai @fF.eq_1<|ai @fF.eq_2<|ai @fF.eq_3<|ai @fF.eq_4<|ai @fF.eq_5<|ai @fF.eq_6<|ai @fF.eq_7<|ai @fF.eq_8<|ai @fF.eq_9<|ai @fF.eq_10<|ai @fF.eq_11<|ai @fF.eq_12<|ai @fF.eq_13<|ai @fF.eq_14<|ai @fF.eq_15<|ai @fF.eq_16<|ai @F3.eq_1<|ai @F3.eq_2<|ai @F3.eq_3<|ai @F3.eq_4<|ai @F3.eq_5<|ai @F3.eq_6<|ai @ZU.eq_1<|ai @aH.eq_1<|ai @aH.eq_2<|ai @dz.eq_1<|ai @dz.eq_2<|ai @dz.eq_3<|ai @dg.eq_1<|ai @dg.eq_2<|ai @dg.eq_3<|ai @live.eq_1<|ai @mg.eq_1<|ai @mg.eq_2<|ai @Ds.oQ.eq_1<|ai @Ds.oQ.eq_2<|ai @Ds.oQ.eq_3<|ai @ca.eq_1<|ai @ca.eq_2<|ai @ca.eq_3<|ai @ca.eq_4<|ai @ca.eq_5<|ai @ca.eq_6<|ai @gu.eq_1<|ai @gu.eq_2<|ai @gu.eq_3<|ai @gu.eq_4<|ai @gu.eq_5<|ai @gu.eq_6<|ai @pC.eq_1<|ai @pC.eq_2<|ai @yB.eq_1<|ai @yB.eq_2<|ai @yB.eq_3<|ai @yB.eq_4<|ai @alive.eq_1<|ai @alive.eq_2<|ai @alive.eq_3<|ai @nm.eq_1<|ai @nm.eq_2<|ai @hZ.eq_1<|ai @hZ.eq_2<|ai @hZ.eq_3<|ai @hZ.eq_4<|ai @hZ.eq_5<|ai @hZ.eq_6<|ai @cA.eq_1<|ai @cA.eq_2<|ai @qq.eq_1<|ai @jK.eq_1<|ai @jK.eq_2<|ai @jK.eq_3<|ai @l3.eq_1<|ai @l3.eq_2<|ai @H7.eq_1<|ai @bz.eq_1<|ai @bz.eq_2<|ai @bz.eq_3<|ai @bz.eq_4<|ai @fV.eq_1<|ai @fV.eq_2<|ai @fV.eq_3<|ai @cr.eq_1<|ai @cr.eq_2<|ai @cr.eq_3<|ai @cr.eq_4<|ai @cr.eq_5<|ai @cr.eq_6<|ai @eG.eq_1<|ai @iF.eq_1<|ai @iF.eq_2<|ai @fieldAt.eq_1<|ai @dy.eq_1<|ai @p9.eq_1<|ai @ji.eq_1<|ai @content.eq_1<|ai @content.eq_2<|ai @content.eq_3<|ai @putCells.eq_1<|ai @VN.eq_1<|ai @VN.eq_2<|ai @VN.eq_3<|ai @VN.eq_4<|ai @Qd.eq_1<|ai @Qd.eq_2<|ai @Qd.eq_3<|ai @Qd.eq_4<|ai @UL.eq_1<|ai @UL.eq_2<|ai @UL.eq_3<|ai @fk.eq_1<|ai @fk.eq_2<|ai @fk.eq_3<|ai @kindOk.eq_1<|ai @kindOk.eq_2<|ai @kindOk.eq_3<|ai @kindOk.eq_4<|ai @kM.eq_1<|ai @kM.eq_2<|ai @kM.eq_3<|ai @kM.eq_4<|ai @nV.eq_1<|ai @nV.eq_2<|ai @nV.eq_3<|ai @nV.eq_4<|ai @nV.eq_5<|ai @nV.eq_6<|ai @nV.eq_7<|ai @nV.eq_8<|ai @sU.eq_1<|ai @sU.eq_2<|ai @sU.eq_3<|ai @aU.eq_1<|ai @aU.eq_2<|ai @aU.eq_3<|ai @aU.eq_4<|ai @aU.eq_5<|ai @aU.eq_6<|ai @aU.eq_7<|ai @nO.eq_1<|ai @nO.eq_2<|ai @tX.eq_1<|ai @tX.eq_2<|ai @tX.eq_3<|@tX.eq_4):=⟨@xw.eq_1,@xw.eq_2,@ev.eq_1,@ev.eq_2,@ev.eq_3,@ev.eq_4,@n9.eq_1,@n9.eq_2,@n9.eq_3,@n9.eq_4,@n9.eq_5,@n9.eq_6,@dY.eq_1,@dY.eq_2,@zJ.eq_1,@zJ.eq_2,@zJ.eq_3,@kU.eq_1,@kU.eq_2,@kU.eq_3,@fF.eq_1,@fF.eq_2,@fF.eq_3,@fF.eq_4,@fF.eq_5,@fF.eq_6,@fF.eq_7,@fF.eq_8,@fF.eq_9,@fF.eq_10,@fF.eq_11,@fF.eq_12,@fF.eq_13,@fF.eq_14,@fF.eq_15,@fF.eq_16,@F3.eq_1,@F3.eq_2,@F3.eq_3,@F3.eq_4,@F3.eq_5,@F3.eq_6,@ZU.eq_1,@aH.eq_1,@aH.eq_2,@dz.eq_1,@dz.eq_2,@dz.eq_3,@dg.eq_1,@dg.eq_2,@dg.eq_3,@live.eq_1,@mg.eq_1,@mg.eq_2,@Ds.oQ.eq_1,@Ds.oQ.eq_2,@Ds.oQ.eq_3,@ca.eq_1,@ca.eq_2,@ca.eq_3,@ca.eq_4,@ca.eq_5,@ca.eq_6,@gu.eq_1,@gu.eq_2,@gu.eq_3,@gu.eq_4,@gu.eq_5,@gu.eq_6,@pC.eq_1,@pC.eq_2,@yB.eq_1,@yB.eq_2,@yB.eq_3,@yB.eq_4,@alive.eq_1,@alive.eq_2,@alive.eq_3,@nm.eq_1,@nm.eq_2,@hZ.eq_1,@hZ.eq_2,@hZ.eq_3,@hZ.eq_4,@hZ.eq_5,@hZ.eq_6,@cA.eq_1,@cA.eq_2,@qq.eq_1,@jK.eq_1,@jK.eq_2,@jK.eq_3,@l3.eq_1,@l3.eq_2,@H7.eq_1,@bz.eq_1,@bz.eq_2,@bz.eq_3,@bz.eq_4,@fV.eq_1,@fV.eq_2,@fV.eq_3,@cr.eq_1,@cr.eq_2,@cr.eq_3,@cr.eq_4,@cr.eq_5,@cr.eq_6,@eG.eq_1,@iF.eq_1,@iF.eq_2,@fieldAt.eq_1,@dy.eq_1,@p9.eq_1,@ji.eq_1,@content.eq_1,@content.eq_2,@content.eq_3,@putCells.eq_1,@VN.eq_1,@VN.eq_2,@VN.eq_3,@VN.eq_4,@Qd.eq_1,@Qd.eq_2,@Qd.eq_3,@Qd.eq_4,@UL.eq_1,@UL.eq_2,@UL.eq_3,@fk.eq_1,@fk.eq_2,@fk.eq_3,@kindOk.eq_1,@kindOk.eq_2,@kindOk.eq_3,@kindOk.eq_4,@kM.eq_1,@kM.eq_2,@kM.eq_3,@kM.eq_4,@nV.eq_1,@nV.eq_2,@nV.eq_3,@nV.eq_4,@nV.eq_5,@nV.eq_6,@nV.eq_7,@nV.eq_8,@sU.eq_1,@sU.eq_2,@sU.eq_3,@aU.eq_1,@aU.eq_2,@aU.eq_3,@aU.eq_4,@aU.eq_5,@aU.eq_6,@aU.eq_7,@nO.eq_1,@nO.eq_2,@tX.eq_1,@tX.eq_2,@tX.eq_3,@tX.eq_4⟩
theorem adv:type_of% (ai @Gt<|ai @Gr<|ai @Gs<|ai @SX<|ai @Nf<|ai @MX<|ai @M8<|ai @HP<|ai @MR<|ai @MS<|ai @DO<|ai @MV<|ai @MU<|ai @Hu<|ai @Nx<|ai @NI<|ai @So<|ai @CA<|ai @CB<|ai @Gu<|ai @SY<|ai @Ng<|ai @MY<|ai @HQ<|ai @M9<|ai @DT<|ai @Nc<|ai @Nb<|ai @Hz<|ai @Sp<|@CE):=⟨@Gt,@Gr,@Gs,@SX,@Nf,@MX,@M8,@HP,@MR,@MS,@DO,@MV,@MU,@Hu,@Nx,@NI,@So,@CA,@CB,@Gu,@SY,@Ng,@MY,@HQ,@M9,@DT,@Nc,@Nb,@Hz,@Sp,@CE⟩
end Go.Proofs.Ytchndpjlijbplaa.Am
