/- Part of a proof, made small by a program (wip/mini.py). -/
import Derived.Test.YtchndpjlijbplaaLf
namespace Go.Proofs.Ytchndpjlijbplaa.P
open Go.RowKit
set_option linter.unusedSimpArgs false
set_option linter.unusedVariables false
theorem abj {N K1 K2:Nat} {e b:QE} (he:QQ N K1 e) (hb:QQ N K2 b) (hN:N<=2000) (hK:4*K1+3*K2+20<=fw) (p:Nat):dG (mkEq e) (p:Int) (mkEq b)=some (mkEq (y5 e p b),()):=by
 have hl:=he.t.len
 unfold dG
 rw[find_eq he.t.sorted (by omega),aeL]
 simp only
 unfold y5
 rcases vt (k:=p) he.t.sorted with⟨g1,g2⟩|⟨c,g1,g2⟩
 ·rw[g1];rfl
 ·rw[g1]
  simp only[Option.isSome_some,aeC,adR,if_false]
  have hgT:e.T[(jZ e.T p).length]? = some (p,c):=by
   have:(jZ e.T p++(p,c)::yr e.T p)[(jZ e.T p).length]? = some (p,c):=by simp
   rwa [<- g2]at this
  have hg:(e.T.map ja)[(jZ e.T p).length]? = some (ja (p,c)):=by rw[ade,hgT];rfl
  have hck:LF c<=K1:=he.t.sz (p,c) (mL g1)
  have hDe:=he.d
  have hDb:=hb.d
  have hbl:=hb.t.len
  have e0:(mkEq e).bl=e.T.map ja:=rfl
  have e1:(mkEq b).bl=b.T.map ja:=rfl
  have e2:(mkEq b).aQ=di b.D:=rfl
  have e3:(mkEq e).aQ=di e.D:=rfl
  have hd:fv (e.T.map ja) ((jZ e.T p).length:Int) (IntKind.i64.wrap (((jZ e.T p).length:Int)+1))=some ((iQ e.T p).map ja):=by unfold fv;exact Vp (by omega) g2
  rw[e0,bT hg,aeL,hd,aeL,e3,e2]
  have e4:(ja (p,c)).dE=di c:=rfl
  rw[e4,Dm (by omega),aeL]
  have key:=fun hs hend=>yP (body:=eA (mkEq b) (ja (p,c))) b.T (by omega) (fun i (s:Int×List Int×Int×List Int×List dC)=>s=((di (e.D+c*b.D)).aL.ag,(di (e.D+c*b.D)).aL.aa,(di (e.D+c*b.D)).aM.ag,(di (e.D+c*b.D)).aM.aa,(iT c (b.T.take i) (iQ e.T p)).map ja))
   (fun s=>s=((di (e.D+c*b.D)).aL.ag,(di (e.D+c*b.D)).aL.aa,(di (e.D+c*b.D)).aM.ag,(di (e.D+c*b.D)).aM.aa,(iT c b.T (iQ e.T p)).map ja)) (s0:=((di (e.D+c*b.D)).aL.ag,(di (e.D+c*b.D)).aL.aa,(di (e.D+c*b.D)).aM.ag,(di (e.D+c*b.D)).aM.aa,(iQ e.T p).map ja)) rfl hs hend
  obtain⟨r,h1,rfl⟩:=key (by
   rintro i t _ ht rfl
   have hi:=cy ht
   have htm:=adJ ht
   have htz:=hb.t.sz t htm
   have hsz:=La hck hb.t (he.t.rem p) i
   have hm:=A7 c t.2
   have hg2:(b.T.map ja)[i]? = some (ja t):=by rw[ade,ht];rfl
   have hn:=UD
   refine⟨_,?_,rfl⟩
   simp only[eA]
   rw[if_pos (by rw[e1];simp;omega),e1,bT hg2,aeL,aa2,aeL]
   have e5:(ja t).dE=di t.2:=rfl
   have e6:(ja t).kp=(t.1:Int):=rfl
   rw[e4,e5,Dm (by omega),aeL,Rat.zero_add,e6]
   have e7:aw.mk (ak.mk (al.mk (di (e.D+c*b.D)).aL.ag (di (e.D+c*b.D)).aL.aa) (al.mk (di (e.D+c*b.D)).aM.ag (di (e.D+c*b.D)).aM.aa)) ((iT c (b.T.take i) (iQ e.T p)).map ja)=mkEq ⟨e.D+c*b.D,iT c (b.T.take i) (iQ e.T p)⟩:=rfl
   rw[e7,aaT (e:=⟨e.D+c*b.D,iT c (b.T.take i) (iQ e.T p)⟩) hsz hN (by omega),aeL,cG (by omega),TA c ht]
   rfl) (by
   rintro _ rfl
   refine⟨_,?_,rfl⟩
   simp only[eA]
   rw[if_neg (by rw[e1];simp),afg])
  rw[h1,aeL]
  rfl
theorem Rq {T:List Tm} {k:Nat} (h:dW T k=none):∀t∈T,t.1≠k:=by
 induction T with
 | nil=>intro t ht;cases ht
 | cons u T ih =>
  rw[dW]at h
  split at h
  ·cases h
  ·rename_i hne
   intro t ht
   rcases ado.1 ht with rfl|ht
   ·exact hne
   ·exact ih h t ht
theorem TL {e:QE} (hs:gZ e.T) {p:Nat} (h0:∀c,dW e.T p=some c->1-c≠0) (s:Rat) (x:Nat->Rat):(1-(dW e.T p).getD 0)*(s*(gT e p).D+cJ (gT e p).T x)=s*e.D+cJ e.T x-(dW e.T p).getD 0*x p:=by
 unfold gT
 have h1:=uZ hs p x
 cases hcf:dW e.T p with
 | none=>simp only[Option.getD_none];grind
 | some c =>
  have hc:=h0 c hcf
  rw[hcf]at h1
  simp only[Option.getD_some]at h1 ⊢
  rw[Yj]
  have h2:(1-c)*(e.D / (1-c))=e.D:=by rw[Rat.mul_comm];exact Rat.div_mul_cancel hc
  have h3:(1-c)*(cJ (iQ e.T p) x / (1-c))=cJ (iQ e.T p) x:=by rw[Rat.mul_comm];exact Rat.div_mul_cancel hc
  have h4:(1-c)*(s*(e.D / (1-c))+cJ (iQ e.T p) x / (1-c))=s*((1-c)*(e.D / (1-c)))+(1-c)*(cJ (iQ e.T p) x / (1-c)):=by grind
  rw[h4,h2,h3]
  grind
theorem Yz {e b:QE} (hs:gZ e.T) (p:Nat) (s:Rat) (x:Nat->Rat):s*(y5 e p b).D+cJ (y5 e p b).T x=s*e.D+cJ e.T x+(dW e.T p).getD 0*(s*b.D+cJ b.T x-x p):=by
 unfold y5
 have h1:=uZ hs p x
 cases hcf:dW e.T p with
 | none=>simp only[Option.getD_none];grind
 | some c =>
  rw[hcf]at h1
  simp only[Option.getD_some]at h1 ⊢
  rw[Mc c x _ (DM hs p)]
  grind
def fk (E0:Nat->QE):Nat->Nat->QE
 | 0,k=>E0 k
 | p+1,k=>if k<p then fk E0 p k else if k=p then gT (fk E0 p p) p else y5 (fk E0 p k) p (gT (fk E0 p p) p)
def Jk (K0:Nat):Nat->Nat
 | 0=>K0
 | p+1=>4*Jk K0 p+3
theorem Qf (K0:Nat):∀p,Jk K0 p+1=4 ^ p*(K0+1)
 | 0=>by simp[Jk]
 | p+1=>by
  have ih:=Qf K0 p
  simp only[Jk,Nat.pow_succ]
  rw[aee (4 ^ p) 4,Nat.mul_assoc,<- ih]
  omega
def aaF (x:Nat->Rat) (p:Nat) (v:Rat):Nat->Rat:=fun j=>if j=p then v else x j
theorem Bn (E:Nat->QE) (s:Rat):∀(p:Nat),(∀k,k<p->∀t∈(E k).T,k<t.1)->∀z:Nat->Rat,∃x:Nat->Rat,(∀j,p<=j->x j=z j)∧(∀k,k<p->x k=s*(E k).D+cJ (E k).T x)∧(s=0->(∀j,0<=z j)->(∀k,k<p->∀t∈(E k).T,0<=t.2)->∀j,0<=x j)
 | 0,_,z=>⟨z,fun _ _=>rfl,fun k hk=>by omega,fun _ h _=>h⟩
 | p+1,hp,z=>by
  obtain⟨x,h1,h2,h3⟩:=Bn E s p (fun k hk=>hp k (by omega)) (aaF z p (s*(E p).D+cJ (E p).T z))
  refine⟨x,fun j hj =>?_,fun k hk =>?_,fun hs hz hpos =>?_⟩
  ·rw[h1 j (by omega)];exact if_neg (by omega)
  ·by_cases hkp:k=p
   ·subst hkp
    rw[h1 k (adh _),show aaF z k (s*(E k).D+cJ (E k).T z) k=s*(E k).D+cJ (E k).T z from if_pos rfl]
    congr 1
    refine Gr fun t ht =>?_
    have:=hp k (by omega) t ht
    rw[h1 t.1 (by omega)]
    exact (if_neg (by omega)).symm
   ·exact h2 k (by omega)
  ·refine h3 hs (fun j =>?_) fun k hk=>hpos k (by omega)
   unfold aaF
   split
   ·have:=rP (x:=z) (hpos p (by omega)) fun t _=>hz t.1
    subst hs
    grind
   ·exact hz j
theorem Z1 {a b:Rat} (ha:0<=a) (hb:0<b):0<=a / b:=by
 have h1:a / b*b=a:=Rat.div_mul_cancel (by grind)
 by_cases h:0<=a / b
 ·exact h
 ·exfalso
  have h2:0 <= -(a / b)*b:=afZ (by grind) (by grind)
  have h3:a / b*b=0:=by grind
  rcases Rat.mul_eq_zero.1 h3 with h4|h4<;>grind
variable {N:Nat} {tk:List Tk} {r:Nat->Int}
structure qD (N:Nat) (tk:List Tk) (d:Nat->Rat) (K0:Nat) (E:Nat->QE) (p:Nat):Prop where
 sz:∀k,k<N->p<=k->QQ N (Jk K0 p) (E k)
 szd:∀k,k<p->QQ N (2*Jk K0 k+2) (E k)
 up:∀k,k<p->∀t∈(E k).T,k<t.1
 ge:∀k,k<N->p<=k->∀t∈(E k).T,p<=t.1
 pos:∀k,k<N->∀t∈(E k).T,0<=t.2
 sem:∀(s:Rat) (x:Nat->Rat),(∀q,q<p->x q=s*(E q).D+cJ (E q).T x)->(∀k,k<p->x k=s*d k+rN tk x k)∧∀k,k<N->p<=k->s*(E k).D+cJ (E k).T x=s*d k+rN tk x k
theorem GY (hR:jb N tk) (hr:od N tk r) (h0:∀p,p<N->0<=r p) {d:Nat->Rat} {K0:Nat} {E:Nat->QE} {p:Nat} (hE:qD N tk d K0 E p) (hp:p<N):∀c,dW (E p).T p=some c->c<1:=by
 intro c hc
 by_cases hlt:c<1
 ·exact hlt
 exfalso
 obtain⟨x,h1,h2,h3⟩:=Bn E 0 p hE.up (fun j=>if j=p then 1 else 0)
 have hx:=h3 rfl (fun j=>by split<;>grind) fun k hk=>hE.pos k (by omega)
 obtain⟨g1,g2⟩:=hE.sem 0 x h2
 have hxp:x p=1:=by rw[h1 p (adh _),if_pos rfl]
 have hxq:∀j,p<j->x j=0:=fun j hj=>by rw[h1 j (by omega),if_neg (by omega)]
 have:=D5 hR hr h0 (y:=x) (fun q _=>hx q) (fun q hq=>by
  rcases af0 q p with h|h|h
  ·have:=g1 q h;grind
  ·subst h
   have e1:=g2 q hq (adh _)
   have e2:=uZ (hE.sz q hq (adh _)).t.sorted q x
   rw[hc,hxp]at e2
   have e3:0<=cJ (iQ (E q).T q) x:=rP (fun t ht=>hE.pos q hq t (ik.1 ht).1) fun t _=>hx t.1
   simp only[Option.getD_some]at e2
   grind
  ·have e1:=g2 q hq (by omega)
   have e3:0<=cJ (E q).T x:=rP (hE.pos q hq) fun t _=>hx t.1
   have:=hxq q h
   grind) p hp
 grind
theorem Tr (hR:jb N tk) (hr:od N tk r) (h0:∀p,p<N->0<=r p) {d:Nat->Rat} {K0:Nat} {E0:Nat->QE} {p:Nat} (hE:qD N tk d K0 (fk E0 p) p) (hp:p<N):qD N tk d K0 (fk E0 (p+1)) (p+1):=by
 have hpiv:=GY hR hr h0 hE hp
 generalize hEp:fk E0 p=E at *
 have hv:∀k,fk E0 (p+1) k=if k<p then E k else if k=p then gT (E p) p else y5 (E k) p (gT (E p) p):=fun k=>by rw[fk,hEp]
 have hv1:∀k,k<p->fk E0 (p+1) k=E k:=fun k hk=>by rw[hv,if_pos hk]
 have hv2:fk E0 (p+1) p=gT (E p) p:=by rw[hv,if_neg (by omega),if_pos rfl]
 have hv3:∀k,p<k->fk E0 (p+1) k=y5 (E k) p (gT (E p) p):=fun k hk=>by rw[hv,if_neg (by omega),if_neg (by omega)]
 have hne:∀c,dW (E p).T p=some c->1-c≠0:=fun c hc=>by have:=hpiv c hc;grind
 have hszp:=hE.sz p hp (adh _)
 have hL:=Gu hszp p hne
 have hup:∀t∈(gT (E p) p).T,p<t.1:=by
  intro t ht
  unfold gT at ht
  cases hcf:dW (E p).T p with
  | none =>
   rw[hcf]at ht
   have h1:=hE.ge p hp (adh _) t ht
   have h2:=Rq hcf t ht
   omega
  | some c =>
   rw[hcf]at ht
   simp only[adg]at ht
   obtain⟨u,hu,rfl⟩:=ht
   have h1:=hE.ge p hp (adh _) u (ik.1 hu).1
   have h2:=(ik.1 hu).2
   simp only
   omega
 have hlpos:∀t∈(gT (E p) p).T,0<=t.2:=by
  intro t ht
  unfold gT at ht
  cases hcf:dW (E p).T p with
  | none=>rw[hcf]at ht;exact hE.pos p hp t ht
  | some c =>
   rw[hcf]at ht
   simp only[adg]at ht
   obtain⟨u,hu,rfl⟩:=ht
   have h1:=hE.pos p hp u (ik.1 hu).1
   have h2:=hpiv c hcf
   simp only
   have h3:0<1-c:=by grind
   exact Z1 h1 h3
 constructor
 ·intro k hk hpk
  rw[hv3 k (by omega)]
  have:=Yy (hE.sz k hk (by omega)) hL p
  exact this.mono (by simp only[Jk];omega)
 ·intro k hk
  by_cases hkp:k=p
  ·subst hkp;rw[hv2];exact hL
  ·rw[hv1 k (by omega)];exact hE.szd k (by omega)
 ·intro k hk
  by_cases hkp:k=p
  ·subst hkp;rw[hv2];exact hup
  ·rw[hv1 k (by omega)];exact hE.up k (by omega)
 ·intro k hk hpk
  rw[hv3 k (by omega)]
  unfold y5
  cases hcf:dW (E k).T p with
  | none =>
   intro t ht
   have h1:=hE.ge k hk (by omega) t ht
   have h2:=Rq hcf t ht
   omega
  | some c =>
   refine wE c (R:=fun q=>p+1<=q) _ (fun t ht =>?_) hup
   have h1:=hE.ge k hk (by omega) t (ik.1 ht).1
   have h2:=(ik.1 ht).2
   omega
 ·intro k hk
  rcases af0 k p with h|h|h
  ·rw[hv1 k h];exact hE.pos k hk
  ·subst h;rw[hv2];exact hlpos
  ·rw[hv3 k h]
   unfold y5
   cases hcf:dW (E k).T p with
   | none=>exact hE.pos k hk
   | some c=>exact Lb (hE.pos k hk _ (mL hcf)) _ (fun t ht=>hE.pos k hk t (ik.1 ht).1) hlpos
 ·intro s x hx
  have hxp:=hx p (by omega)
  rw[hv2]at hxp
  obtain⟨g1,g2⟩:=hE.sem s x fun q hq=>by have:=hx q (by omega);rwa [hv1 q hq]at this
  have hpe:x p=s*(E p).D+cJ (E p).T x:=by
   have h1:=TL hszp.t.sorted hne s x
   rw[<- hxp]at h1
   grind
  refine⟨fun k hk =>?_,fun k hk hpk =>?_⟩
  ·by_cases hkp:k=p
   ·subst hkp;rw[hpe,g2 k hp (adh _)]
   ·exact g1 k (by omega)
  ·rw[hv3 k (by omega),Yz (hE.sz k hk (by omega)).t.sorted,<- hxp,g2 k hk (by omega)]
   grind
theorem KS (hR:jb N tk) (hr:od N tk r) (h0:∀p,p<N->0<=r p) {d:Nat->Rat} {K0:Nat} {E0:Nat->QE} (hE:qD N tk d K0 E0 0):∀p,p<=N->qD N tk d K0 (fk E0 p) p
 | 0,_=>hE
 | p+1,h=>Tr hR hr h0 (KS hR hr h0 hE p (by omega)) (by omega)
end Go.Proofs.Ytchndpjlijbplaa.P
namespace Go.Proofs.Ytchndpjlijbplaa.P
open Go.RowKit
set_option linter.unusedSimpArgs false
set_option linter.unusedVariables false
def Jz:List Tm->(Nat->Rat)->Nat
 | [],_=>0
 | t::l,x=>LF t.2+LF (x t.1)+1+Jz l x
theorem wW (a b:List Tm) (x:Nat->Rat):Jz (a++b) x=Jz a x+Jz b x:=by
 induction a with
 | nil=>simp[Jz]
 | cons t a ih=>simp only[List.cons_append,Jz,ih];omega
theorem W5 (T:List Tm) (i:Nat) (x:Nat->Rat):Jz (T.take i) x<=Jz T x:=by
 have:=wW (T.take i) (T.drop i) x
 rw[ae2]at this
 omega
theorem Md {T:List Tm} {i:Nat} {t:Tm} (h:T[i]? = some t) (x:Nat->Rat):cJ (T.take (i+1)) x=cJ (T.take i) x+t.2*x t.1:=by
 obtain⟨hi,he⟩:=adK.1 h
 rw[afR hi,mR,he]
 simp only[cJ];grind
theorem On (a:Rat) (x:Nat->Rat) {T:List Tm} : ∀i,i<=T.length->LF (a+cJ (T.take i) x)<=LF a+Jz (T.take i) x
 | 0,_=>by
  rw[afb]
  simp only[cJ,Jz]
  rw[Rat.add_zero];exact adh _
 | i+1,h=>by
  have ih:=On a x (T:=T) i (by omega)
  have hg:T[i]? = some T[i]:=adu (by omega)
  rw[Md hg,<- Rat.add_assoc,afR (by omega),wW]
  have h1:=HY (a+cJ (T.take i) x) (T[i].2*x T[i].1)
  have h2:=A7 T[i].2 (x T[i].1)
  simp only[Jz]
  omega
theorem Wc:∀ {T:List Tm} {a N:Nat},gZ T->(∀t∈T,a<=t.1∧t.1<N)->T.length<=N-a
 | [],_,_,_,_=>by simp
 | t::T,a,N,hs,h=>by
  obtain⟨h1,h2⟩:=aeP.1 hs
  have ht:=h t (aeH ..)
  have:=Wc (a:=t.1+1) (N:=N) h2 fun u hu=>⟨h1 u hu,(h u (aeI _ hu)).2⟩
  rw[adH];omega
theorem W4 {K Q:Nat} {x:Nat->Rat} : ∀ {T:List Tm} {a N:Nat},gZ T->(∀t∈T,a<=t.1∧t.1<N)->(∀t∈T,LF t.2<=K)->(∀j,a<=j->j<N->LF (x j)<=2 ^ (N-1-j)*Q)->Jz T x+Q<=T.length*(K+1)+2 ^ (N-a)*Q
 | [],a,N,_,_,_,_=>by
  simp only[Jz,List.length_nil,ae3,ad4]
  exact Nat.le_mul_of_pos_left _ (Nat.pow_pos (by decide))
 | t::T,a,N,hs,h,hk,hx=>by
  obtain⟨h1,h2⟩:=aeP.1 hs
  have ht:=h t (aeH ..)
  have ih:=W4 (K:=K) (Q:=Q) (x:=x) (T:=T) (a:=t.1+1) (N:=N) h2 (fun u hu=>⟨h1 u hu,(h u (aeI _ hu)).2⟩) (fun u hu=>hk u (aeI _ hu)) fun j hj hjN=>hx j (by omega) hjN
  have hkt:=hk t (aeH ..)
  have hxt:=hx t.1 ht.1 ht.2
  simp only[Jz,List.length_cons]
  rw[aed]
  have e1:N-(t.1+1)=N-1-t.1:=by omega
  rw[e1]at ih
  have e2:2 ^ (N-t.1)=2 ^ (N-1-t.1)*2:=by rw[<- Nat.pow_succ];congr 1;omega
  have e3:2 ^ (N-t.1)*Q<=2 ^ (N-a)*Q:=ad3 _ (af2 (by decide) (by omega))
  have e4:2 ^ (N-t.1)*Q=2 ^ (N-1-t.1)*Q+2 ^ (N-1-t.1)*Q:=by rw[e2,Nat.mul_assoc,aee 2 Q,<- Nat.mul_assoc,Nat.mul_two]
  omega
theorem HM:∀m:Nat,3*m<=4 ^ m
 | 0=>by decide
 | m+1=>by
  have:=HM m
  rw[Nat.pow_succ]
  have:0<4 ^ m:=Nat.pow_pos (by decide)
  cases m with
  | zero=>decide
  | succ m=>omega
variable {N:Nat} {tk:List Tk} {r:Nat->Int}
theorem WU {d:Nat->Rat} {K0:Nat} {E:Nat->QE} (hE:qD N tk d K0 E N) {x:Nat->Rat} (hx:∀k,k<N->x k=1*(E k).D+cJ (E k).T x) :
  ∀k,k<N->LF (E k).D+Jz (E k).T x+1<=2 ^ (N-1-k)*(4 ^ N*(K0+1))∧LF (x k)<=2 ^ (N-1-k)*(4 ^ N*(K0+1)):=by
 have key:∀m k,k+m=N-1->k<N->LF (E k).D+Jz (E k).T x+1<=2 ^ (N-1-k)*(4 ^ N*(K0+1))∧LF (x k)<=2 ^ (N-1-k)*(4 ^ N*(K0+1)):=by
  intro m
  induction m using Nat.strongRecOn with
  | ind m ih =>
   intro k hkm hk
   have hz:=hE.szd k hk
   have hup:=hE.up k hk
   have hrng:∀t∈(E k).T,k+1<=t.1∧t.1<N:=fun t ht=>⟨hup t ht,hz.t.lt t ht⟩
   have h1:=W4 (K:=2*Jk K0 k+2) (Q:=4 ^ N*(K0+1)) (x:=x) hz.t.sorted hrng hz.t.sz fun j hj hjN=>(ih (N-1-j) (by omega) j (by omega) hjN).2
   have h2:=Wc hz.t.sorted hrng
   have h3:=hz.d
   have h4:=Qf K0 k
   have h5:(N-k)*(2*Jk K0 k+3)<=4 ^ N*(K0+1):=by
    have g1:(N-k)*(2*Jk K0 k+3)<=(N-k)*(3*(4 ^ k*(K0+1))):=Nat.mul_le_mul_left _ (by
     have:0<4 ^ k*(K0+1):=Nat.mul_pos (Nat.pow_pos (by decide)) (by omega)
     omega)
    have g2:(N-k)*(3*(4 ^ k*(K0+1)))=3*(N-k)*(4 ^ k*(K0+1)):=by rw[aee 3 (N-k),Nat.mul_assoc]
    have g3:3*(N-k)*(4 ^ k*(K0+1))<=4 ^ (N-k)*(4 ^ k*(K0+1)):=ad3 _ (HM _)
    have g4:4 ^ (N-k)*(4 ^ k*(K0+1))=4 ^ N*(K0+1):=by rw[<- Nat.mul_assoc,<- Nat.pow_add];congr 2;omega
    omega
   have h6:(E k).T.length*(2*Jk K0 k+3)<=(N-1-k)*(2*Jk K0 k+3):=ad3 _ (by omega)
   have h7:(N-k)*(2*Jk K0 k+3)=(N-1-k)*(2*Jk K0 k+3)+(2*Jk K0 k+3):=by
    rw[<- aed];congr 1;omega
   have e1:N-(k+1)=N-1-k:=by omega
   rw[e1]at h1
   have h8:=On (E k).D x (T:=(E k).T) (E k).T.length (adh _)
   rw[afg]at h8
   have e2:x k=(E k).D+cJ (E k).T x:=by rw[hx k hk];grind
   rw[e2]
   have e3:2*Jk K0 k+2+1=2*Jk K0 k+3:=rfl
   rw[e3]at h1
   omega
 intro k hk
 exact key (N-1-k) k (by omega) hk
def iZ (tk:List Tk) (p:Nat):List Tm:=(tk.filter fun t=>decide (t.2.1=p)).map fun t=>(t.1,t.2.2)
theorem yY {p:Nat} {u:Tm} : u∈iZ tk p↔∃t∈tk,t.2.1=p∧u=(t.1,t.2.2):=by
 unfold iZ
 simp only[adg,aeO,decide_eq_true_eq]
 constructor
 ·rintro⟨t,⟨h1,h2⟩,rfl⟩;exact⟨t,h1,h2,rfl⟩
 ·rintro⟨t,h1,h2,rfl⟩;exact⟨t,⟨h1,h2⟩,rfl⟩
theorem Qt {i:Nat} {t:Tk} (h:tk[i]? = some t) (p:Nat):iZ (tk.take (i+1)) p=if t.2.1=p then iZ (tk.take i) p++[(t.1,t.2.2)] else iZ (tk.take i) p:=by
 obtain⟨hi,he⟩:=adK.1 h
 unfold iZ
 rw[afR hi,afU,aeE,he]
 by_cases hc:t.2.1=p
 ·rw[if_pos hc,afV (by simpa using hc)];rfl
 ·rw[if_neg hc,afW (by simpa using hc)];simp
theorem Gs (x:Nat->Rat) (p:Nat):∀l:List Tk,cJ (iZ l p) x=rN l x p
 | []=>rfl
 | t::l=>by
  have ih:=Gs x p l
  unfold iZ at ih ⊢
  simp only[rN]
  by_cases hc:t.2.1=p
  ·rw[if_pos hc,afV (by simpa using hc),adn,cJ,ih]
  ·rw[if_neg hc,afW (by simpa using hc),ih];grind
theorem Qe (hs:tk.Pairwise XP) (p:Nat):gZ (iZ tk p):=by
 unfold iZ
 rw[gZ,List.pairwise_map]
 refine (hs.filter _).imp_of_mem fun {a b} ha hb h =>?_
 have h1:a.2.1=p:=by simpa using (aeO.1 ha).2
 have h2:b.2.1=p:=by simpa using (aeO.1 hb).2
 unfold XP at h
 simp only
 omega
theorem Ui (p:Nat):(iZ tk p).length<=tk.length:=by
 unfold iZ
 rw[adL]
 exact afT ..
def RH (d:Nat->Rat) (tk:List Tk) (p:Nat):QE:=⟨d p,iZ tk p⟩
def ji (N:Nat) (x:Nat->Rat):List ak:=(List.range N).map fun p=>di (x p)
theorem iH (x:Nat->Rat):(ji N x).length=N:=y7 _
theorem nX (x:Nat->Rat) {p:Nat} (h:p<N):(ji N x)[p]? = some (di (x p)):=bS _ h
abbrev zF:ak:=ak.mk (al.mk 0 []) (al.mk 0 [])
theorem Ip (hR:jb N tk) (d:Nat->Rat):cF (mC N tk) (ji N d)=some ((List.range N).map fun p=>mkEq (RH d tk p)):=by
 have hN:=hR.ports
 have hlen:=hR.takes
 unfold cF mC
 simp only
 rw[Gx _ (by omega) hN,aeL]
 have k1:=fun hs he=>yP (body:=fI (ji N d) (List.replicate N (aw.mk zF []))) (List.range N) (by simp;omega) (fun i (l:List aw)=>l=(List.range N).map fun p=>aw.mk (if p<i then di (d p) else zF) []) (fun l=>l=(List.range N).map fun p=>mkEq (RH d (tk.take 0) p)) (s0:=List.replicate N (aw.mk zF []))
  (gD (by simp) fun j hj=>by rw[afY,if_pos hj,if_neg (by omega)]) hs he
 obtain⟨r1,h1,rfl⟩:=k1 (by
  rintro i x _ hx rfl
  have hi:i<N:=by have:=cy hx;simpa using this
  refine⟨_,?_,rfl⟩
  simp only[fI]
  rw[if_pos (by simp;omega),bT (nX d hi),aeL,bT (bS _ hi),aeL,cG (by omega),aeg,fB]
  congr 3
  refine congrArg (fun f=>(List.range N).map f) (funext fun p =>?_)
  by_cases h:p=i
  ·subst h;rw[if_pos rfl,if_pos (show p<p+1 by omega)]
  ·rw[if_neg h]
   by_cases h3:p<i
   ·rw[if_pos h3,if_pos (show p<i+1 by omega)]
   ·rw[if_neg h3,if_neg (show ¬p<i+1 by omega)]) (by
  rintro _ rfl
  refine⟨(List.range N).map fun p=>aw.mk (if p<(List.range N).length then di (d p) else zF) [],?_,?_⟩
  ·simp only[fI];rw[if_neg (by simp)]
  ·refine gD (by simp) fun j hj =>?_
   rw[bS _ hj,adM,if_pos hj,afb];rfl)
 rw[h1,aeL]
 have k2:=fun hs he=>yP (body:=fJ (bW.mk (N:Int) (tk.map tO))) tk (by omega) (fun i (l:List aw)=>l=(List.range N).map fun p=>mkEq (RH d (tk.take i) p)) (fun l=>l=(List.range N).map fun p=>mkEq (RH d tk p)) (s0:=(List.range N).map fun p=>mkEq (RH d (tk.take 0) p)) rfl hs he
 obtain⟨r2,h2,rfl⟩:=k2 (by
  rintro i t _ ht rfl
  have hi:=cy ht
  have hto:=(hR.rng t (adJ ht)).2
  have hg:(tk.map tO)[i]? = some (tO t):=by rw[ade,ht];rfl
  have hbl:=Ui (tk:=tk.take i) t.2.1
  rw[adA]at hbl
  refine⟨_,?_,rfl⟩
  simp only[fJ]
  have happ:k9 72 (mkEq (RH d (tk.take i) t.2.1)).bl [dC.mk (tO t).cY (tO t).bg]=some ((iZ (tk.take i) t.2.1++[(t.1,t.2.2)]).map ja):=by
   unfold k9 mkEq RH
   have:(17592186044416:Nat)<=maxLen:=by decide
   rw[if_pos ⟨by simp;omega,by simp;omega⟩,aeE];rfl
  have e1:(tO t).ko=(t.2.1:Int):=rfl
  rw[if_pos (by simp;omega),bT hg,aeL,e1,bT (bS _ hto),aeL,happ,aeL,cG (by omega),aeg,fB]
  congr 3
  refine congrArg (fun f=>(List.range N).map f) (funext fun p =>?_)
  unfold RH
  rw[Qt ht]
  by_cases h:p=t.2.1
  ·subst h;rw[if_pos rfl,if_pos rfl];rfl
  ·rw[if_neg h,if_neg (fun e=>h e.symm)]) (by
  rintro _ rfl
  refine⟨_,?_,rfl⟩
  simp only[fJ]
  rw[if_neg (by simp),afg])
 rw[h2,aeL]
theorem elim0 (hR:jb N tk) {K0:Nat} {d:Nat->Rat} (hd:∀p,p<N->LF (d p)<=K0) (hs:∀t∈tk,LF t.2.2<=K0):qD N tk d K0 (RH d tk) 0 where
 sz k hk _:=⟨⟨Qe hR.sorted k,fun t ht=>by obtain⟨u,h1,h2,rfl⟩:=yY.1 ht;exact (hR.rng u h1).1,fun t ht=>by obtain⟨u,h1,h2,rfl⟩:=yY.1 ht;exact hs u h1⟩,hd k hk⟩
 szd k hk:=by omega
 up k hk:=by omega
 ge k hk _ t _:=adi _
 pos k hk t ht:=by obtain⟨u,h1,h2,rfl⟩:=yY.1 ht;exact hR.pos u h1
 sem s x _:=⟨fun k hk=>by omega,fun k _ _=>by unfold RH;rw[Gs]⟩
def Jy (E0:Nat->QE) (N p:Nat):List (Bool×aw):=(List.range N).map fun k=>(decide (k<p),mkEq (fk E0 p k))
def vD (E:Nat->QE) (N p:Nat) (L:QE) (k:Nat):List (Bool×aw):=(List.range N).map fun j=>if j<p then (true,mkEq (E j)) else if j=p then (true,mkEq L) else if j<k then (false,mkEq (y5 (E j) p L)) else (false,mkEq (E j))
theorem OY {E:Nat->QE} {L:QE} {p K:Nat} (hN:N<=2000) (hp:p<N) (hE:∀k,k<N->p<=k->QQ N K (E k)) (hL:QQ N (2*K+2) L) (hK:10*K+50<=fw) :
  aX (kW (p:Int)) (((p+1:Nat):Int),vD E N p L (p+1))=some (vD E N p L N):=by
 have key:=fun hs=>cw (body:=kW (p:Int)) (fun i (s:Int×List (Bool×aw))=>s=(((p+1+i:Nat):Int),vD E N p L (p+1+i))) (N-(p+1)) (fun l=>l=vD E N p L N) (s:=(((p+1:Nat):Int),vD E N p L (p+1))) rfl (iW (by omega)) hs
 refine (key ?_).elim fun x ⟨h1,hx⟩=>hx ▸ h1
 rintro i _ hi rfl
 have hlen:(vD E N p L (p+1+i)).length=N:=y7 _
 by_cases hc:p+1+i<N
 ·refine .inl ⟨by omega,_,?_,rfl⟩
  simp only[kW]
  have g1:(vD E N p L (p+1+i))[p+1+i]? = some (false,mkEq (E (p+1+i))):=by
   unfold vD
   rw[bS _ hc,if_neg (by omega),if_neg (by omega),if_neg (by omega)]
  have g2:(vD E N p L (p+1+i))[p]? = some (true,mkEq L):=by
   unfold vD
   rw[bS _ hp,if_neg (by omega),if_pos rfl]
  have e1:NQ (true,mkEq L)=some (mkEq L):=rfl
  have e2:Nm (false,mkEq (E (p+1+i)))=some (mkEq (E (p+1+i))):=rfl
  rw[if_pos (by rw[hlen];simp;omega),bT g1,aeL,bT g2,aeL,e1,aeL,e2,aeL,abj (hE _ hc (by omega)) hL hN (by omega),aeL,cG (by omega),aeg]
  refine congrArg some (congrArg Sum.inl (Prod.ext (by simp only;omega) ?_))
  simp only
  unfold vD
  rw[fB]
  refine congrArg (fun f=>(List.range N).map f) (funext fun j =>?_)
  by_cases h:j=p+1+i
  ·subst h
   rw[if_pos rfl,if_neg (by omega),if_neg (by omega),if_pos (by omega)]
  ·rw[if_neg h]
   by_cases h1:j<p
   ·rw[if_pos h1,if_pos h1]
   ·rw[if_neg h1,if_neg h1]
    by_cases h2:j=p
    ·rw[if_pos h2,if_pos h2]
    ·rw[if_neg h2,if_neg h2]
     by_cases h3:j<p+1+i
     ·rw[if_pos h3,if_pos (by omega)]
     ·rw[if_neg h3,if_neg (by omega)]
 ·refine .inr ⟨vD E N p L (p+1+i),?_,?_⟩
  ·simp only[kW]
   rw[if_neg (by rw[hlen];simp;omega)]
  ·congr 1;omega
theorem Tq {E0:Nat->QE} {K0:Nat} {d:Nat->Rat} (hN:N<=2000) (hE:∀p,p<=N->qD N tk d K0 (fk E0 p) p) (hpiv:∀p,p<N->∀c,dW (fk E0 p p).T p=some c->c<1) (hK:∀p,p<N->10*Jk K0 p+50<=fw) {r6:List aw} (h6:r6.length=N) :
  aX (jo r6) ((0:Int),Jy E0 N 0)=some (Jy E0 N N):=by
 have key:=fun hs=>cw (body:=jo r6) (fun i (s:Int×List (Bool×aw))=>s=((i:Int),Jy E0 N i)) N (fun l=>l=Jy E0 N N) (s:=((0:Int),Jy E0 N 0)) rfl (iW (by omega)) hs
 refine (key ?_).elim fun x ⟨h1,hx⟩=>hx ▸ h1
 rintro p _ hp rfl
 by_cases hc:p<N
 ·refine .inl ⟨hc,_,?_,rfl⟩
  have hEp:=hE p (by omega)
  have hne:∀c,dW (fk E0 p p).T p=some c->1-c≠0:=fun c h=>by have:=hpiv p hc c h;grind
  have hz:=hEp.sz p hc (adh _)
  have hKp:=hK p hc
  have hL:=Gu hz p hne
  simp only[jo]
  have g1:(Jy E0 N p)[p]? = some (false,mkEq (fk E0 p p)):=by
   unfold Jy
   rw[bS _ hc,decide_eq_false (by omega)]
  have e2:Nm (false,mkEq (fk E0 p p))=some (mkEq (fk E0 p p)):=rfl
  have e3:(Jy E0 N p).set p (true,mkEq (gT (fk E0 p p) p))=vD (fk E0 p) N p (gT (fk E0 p p) p) (p+1):=by
   unfold Jy vD
   rw[fB]
   refine congrArg (fun f=>(List.range N).map f) (funext fun j =>?_)
   rcases af0 j p with h|h|h
   ·rw[if_neg (by omega),if_pos h,decide_eq_true h]
   ·rw[if_pos h,if_neg (by omega),if_pos h]
   ·rw[if_neg (by omega),if_neg (by omega),if_neg (by omega),if_neg (by omega),decide_eq_false (by omega)]
  have e4:vD (fk E0 p) N p (gT (fk E0 p p) p) N=Jy E0 N (p+1):=by
   unfold Jy vD
   refine aeG fun j hj =>?_
   have hjN:=aeS.1 hj
   rw[fk]
   rcases af0 j p with h|h|h
   ·rw[if_pos h,if_pos h,decide_eq_true (by omega)]
   ·rw[if_neg (by omega),if_pos h,if_neg (by omega),if_pos h,decide_eq_true (by omega)]
   ·rw[if_neg (by omega),if_neg (by omega),if_pos hjN,if_neg (by omega),if_neg (by omega),decide_eq_false (by omega)]
  rw[if_pos (by simp;omega),bT g1,aeL,e2,aeL,Yl hz.t hz.d hN (by omega) hne,aeL,cG (by omega),aeg,e3,OY hN hc (fun k hk hpk=>hEp.sz k hk hpk) hL hKp,aeL,e4]
 ·have:p=N:=by omega
  subst this
  refine .inr ⟨_,?_,rfl⟩
  simp only[jo]
  rw[if_neg (by simp;omega)]
def y4 (x:Nat->Rat) (N i:Nat):List ak:=(List.range N).map fun j=>if N<=j+i then di (x j) else zF
theorem OI {E0:Nat->QE} {K0:Nat} {d x:Nat->Rat} (hN:N<=2000) (hE:qD N tk d K0 (fk E0 N) N) (hx:∀k,k<N->x k=1*(fk E0 N k).D+cJ (fk E0 N k).T x) (hsz:2*(2 ^ N*(4 ^ N*(K0+1)))+100<=fw) :
  aX (jq (Jy E0 N N)) ((N:Int)-1,y4 x N 0)=some (ji N x):=by
 have hs:=WU hE hx
 have key:=fun hs=>cw (body:=jq (Jy E0 N N)) (fun i (s:Int×List ak)=>s=((N:Int)-1-i,y4 x N i)) N (fun l=>l=ji N x) (s:=((N:Int)-1,y4 x N 0)) (by simp) (iW (by omega)) hs
 refine (key ?_).elim fun x ⟨h1,hx⟩=>hx ▸ h1
 rintro i _ hi rfl
 by_cases hc:i<N
 ·refine .inl ⟨hc,_,?_,rfl⟩
  obtain⟨p,hp⟩:∃p,p+i+1=N:=⟨N-1-i,by omega⟩
  have hpN:p<N:=by omega
  have e0:(N:Int)-1-(i:Int)=(p:Int):=by omega
  obtain⟨hs1,hs2⟩:=hs p hpN
  have hz:=hE.szd p hpN
  have hup:=hE.up p hpN
  have hle:2 ^ (N-1-p)*(4 ^ N*(K0+1))<=2 ^ N*(4 ^ N*(K0+1)):=ad3 _ (af2 (by decide) (by omega))
  have hxp:=hx p hpN
  generalize hEp:fk E0 N p=e at *
  simp only[jq]
  have g1:(Jy E0 N N)[p]? = some (true,mkEq e):=by
   unfold Jy
   rw[bS _ hpN,decide_eq_true hpN,hEp]
  have e1:NQ (true,mkEq e)=some (mkEq e):=rfl
  have e2:(mkEq e).aQ=di e.D:=rfl
  have e3:(mkEq e).bl=e.T.map ja:=rfl
  have hn:=UD
  rw[e0,if_pos (by simp),bT g1,aeL,e1,aeL,aa2,aeL,e2,Dm (by omega),aeL]
  have e4:e.D+0*0=e.D:=by grind
  rw[e4]
  have htl:=hz.t.len
  have k7:=fun hst hend=>yP (body:=m7 (y4 x N i) (mkEq e)) e.T (by omega) (fun j (s:Int×List Int×Int×List Int)=>s=((di (e.D+cJ (e.T.take j) x)).aL.ag,(di (e.D+cJ (e.T.take j) x)).aL.aa,(di (e.D+cJ (e.T.take j) x)).aM.ag,(di (e.D+cJ (e.T.take j) x)).aM.aa))
   (fun s=>s=((di (x p)).aL.ag,(di (x p)).aL.aa,(di (x p)).aM.ag,(di (x p)).aM.aa)) (s0:=((di e.D).aL.ag,(di e.D).aL.aa,(di e.D).aM.ag,(di e.D).aM.aa)) (by rw[afb,cJ,Rat.add_zero]) hst hend
  obtain⟨r7,h7,rfl⟩:=k7 (by
   rintro j t _ ht rfl
   have hj:=cy ht
   have htm:=adJ ht
   have hlt:=hz.t.lt t htm
   have hpt:=hup t htm
   have hg:(e.T.map ja)[j]? = some (ja t):=by rw[ade,ht];rfl
   have hgo:(y4 x N i)[t.1]? = some (di (x t.1)):=by
    unfold y4
    rw[bS _ hlt,if_pos (by omega)]
   have hLl:=On e.D x (T:=e.T) j (by omega)
   have hszt:=W5 e.T j x
   have hst2:LF t.2+LF (x t.1)+1<=Jz e.T x:=by
    have:=wW (e.T.take j) (e.T.drop j) x
    rw[ae2,afa hj]at this
    simp only[Jz]at this
    have he:e.T[j]=t:=(adK.1 ht).2
    rw[he]at this
    omega
   refine⟨_,?_,rfl⟩
   simp only[m7]
   have e5:(ja t).dE=di t.2:=rfl
   have e6:(ja t).kp=(t.1:Int):=rfl
   have e7:ak.mk (al.mk (di (e.D+cJ (e.T.take j) x)).aL.ag (di (e.D+cJ (e.T.take j) x)).aL.aa) (al.mk (di (e.D+cJ (e.T.take j) x)).aM.ag (di (e.D+cJ (e.T.take j) x)).aM.aa)=di (e.D+cJ (e.T.take j) x):=rfl
   rw[if_pos (by rw[e3];simp;omega),e3,bT hg,aeL,e6,bT hgo,aeL,e5,e7,Dm (by omega),aeL,cG (by omega),Md ht,<- Rat.add_assoc]) (by
   rintro _ rfl
   refine⟨((di (e.D+cJ (e.T.take e.T.length) x)).aL.ag,(di (e.D+cJ (e.T.take e.T.length) x)).aL.aa,(di (e.D+cJ (e.T.take e.T.length) x)).aM.ag,(di (e.D+cJ (e.T.take e.T.length) x)).aM.aa),?_,?_⟩
   ·simp only[m7];rw[if_neg (by rw[e3];simp)]
   ·have:e.D+cJ (e.T.take e.T.length) x=x p:=by rw[afg,hxp];grind
    rw[this])
  rw[h7,aeL]
  have hgp:(y4 x N i)[p]? = some zF:=by
   unfold y4
   rw[bS _ hpN,if_neg (by omega)]
  simp only
  rw[bT hgp,aeL,aeg]
  have hw:IntKind.i64.wrap ((p:Int)-1)=(N:Int)-1-((i+1:Nat):Int):=by rw[wrap64 (by omega) (by omega)];omega
  rw[hw]
  refine congrArg some (congrArg Sum.inl (congrArg (Prod.mk _) ?_))
  show (y4 x N i).set p (di (x p))=y4 x N (i+1)
  unfold y4
  rw[fB]
  refine congrArg (fun f=>(List.range N).map f) (funext fun j =>?_)
  by_cases h:j=p
  ·subst h;rw[if_pos rfl,if_pos (by omega)]
  ·rw[if_neg h]
   by_cases h1:N<=j+i
   ·rw[if_pos h1,if_pos (by omega)]
   ·rw[if_neg h1,if_neg (by omega)]
 ·have:i=N:=by omega
  subst this
  refine .inr ⟨_,?_,rfl⟩
  simp only[jq]
  rw[if_neg (by simp;omega)]
  congr 2
  unfold y4 ji
  exact aeG fun j _=>if_pos (by omega)
end Go.Proofs.Ytchndpjlijbplaa.P
namespace Go.Proofs.Ytchndpjlijbplaa.P
open Go.RowKit
set_option linter.unusedSimpArgs false
set_option linter.unusedVariables false
theorem OE {l:List ak} (n:Int) (hl:l.length<=17592186044416) (hf:∀f∈l,S5 f):eJ l n=some (decide ((l.length:Int)=n)&&l.all okF):=by
 unfold eJ
 by_cases hn:(l.length:Int)=n
 rotate_left
 ·rw[if_neg (by simpa using hn),decide_eq_false hn];rfl
 rw[if_pos (by simpa using hn),decide_eq_true hn,aeD]
 unfold bx bN
 rw[Hn l (fun i x=>if okF x=true then none else some (i:Int)) (by omega) (fun i x hx =>?_) (by simp only[ct];rw[if_neg (by simp)])]
 ·rw[aeL]
  cases hfs:je (fun i x=>if okF x=true then none else some (i:Int)) 0 l with
  | none =>
   simp only
   rw[aeL,decide_eq_false (by decide),aeL]
   have:l.all okF=true:=ads.2 fun x hx=>by
    obtain⟨j,hj⟩:=adD hx
    have:=jf.1 hfs j x hj
    by_cases h:okF x=true
    ·exact h
    ·rw[if_neg h]at this;cases this
   rw[this];rfl
  | some r =>
   obtain⟨j,x,h1,h2,_⟩:=kI hfs
   by_cases h:okF x=true
   ·rw[if_pos h]at h2;cases h2
   ·rw[if_neg h]at h2
    cases h2
    simp only
    rw[aeL,decide_eq_true (by omega),aeL]
    have:l.all okF=false:=by
     cases hall:l.all okF with
     | false=>rfl
     | true=>exact absurd (ads.1 hall x (adJ h1)) h
    rw[this];rfl
 ·have hi:=cy hx
  simp only[ct,gg]
  rw[if_pos (by simp;omega),bT hx,aeL,xc (hf x (adJ hx)),aeL,aeL]
  cases okF x with
  | true=>rw[cG (by omega)];rfl
  | false=>rfl
theorem Me {l:List ak} {N:Nat} (hl:l.length=N) (h:l.all okF=true):∃d:Nat->Rat,l=ji N d:=by
 obtain⟨qs,hq,_⟩:=wI (mk:=di) (R:=fun _=>True) (l:=l) fun x hx=>by
  obtain⟨q,hq⟩:=xP.1 (ads.1 h x hx)
  exact⟨q,hq,trivial⟩
 refine⟨fun p=>qs.getD p 0,?_⟩
 subst hq
 rw[adL]at hl
 refine gD (by simpa using hl) fun j hj =>?_
 have e:(fun p=>qs.getD p 0) j=qs[j]'(by omega):=by
  show qs.getD j 0=_
  rw[adU,adu (by omega)];rfl
 rw[ade,adu (by omega),e]
 rfl
theorem yU (N:Nat) (d:Nat->Rat):(ji N d).all okF=true:=ads.2 fun x hx=>by
 unfold ji at hx
 obtain⟨p,_,rfl⟩:=adg.1 hx
 exact PQ _
theorem TJ {N M:Nat} {d e:Nat->Rat} (h:ji N d=ji M e):N=M∧∀p,p<N->d p=e p:=by
 have hl:=congrArg List.length h
 rw[iH,iH]at hl
 subst hl
 refine⟨rfl,fun p hp =>?_⟩
 have h1:=nX (N:=N) d hp
 rw[h,nX e hp]at h1
 exact (IU (Option.some.inj h1)).symm
theorem Wd {N K:Nat} {d:Nat->Rat} (h:∀f∈ji N d,f.aL.aa.length<=K∧f.aM.aa.length<=K):∀p,p<N->LF (d p)<=K:=fun p hp=>by
 have:=h _ (adJ (nX d hp))
 exact w9 this.1 this.2
def H0 (n:bW) (l:List ak):Prop:=∃N tk d,n=mC N tk∧jb N tk∧l=ji N d
abbrev YZ (n:bW) (K:Nat):Prop:=∀t∈n.av,t.bg.aL.aa.length<=K∧t.bg.aM.aa.length<=K
abbrev ZT (l:List ak) (K:Nat):Prop:=∀f∈l,f.aL.aa.length<=K∧f.aM.aa.length<=K
theorem aal {N K:Nat} {tk:List Tk} (h:YZ (mC N tk) K):∀t∈tk,LF t.2.2<=K:=fun t ht=>by
 have:=h (tO t) (by simp only[mC];exact List.mem_map_of_mem ht)
 exact w9 this.1 this.2
theorem Oa {N:Nat} {tk:List Tk} {r:Nat->Int} (hr:od N tk r) (h:lT N r=[]):∀p,p<N->0<=r p:=by
 intro p hp
 have h1:=hr.ge p hp
 have h2:r p ≠ -1:=fun e=>by
  have:p∈lT N r:=aeO.2 ⟨aeS.2 hp,by simpa using e⟩
  rw[h]at this;cases this
 omega
theorem JD {n : bW} {l : List ak} {K M : Nat} (hK : K <= 1000000) (hn : YZ n K) (hl : ZT l K) (hlen : l.length <= 17592186044416) (hM : n.aG <= (M : Int) ∨ 2000 < n.aG) (hS : 2 * (2 ^ M * (4 ^ M * (K + 1))) + 100 <= fw) :
    (¬ H0 n l ∧ ez n l = some ([], 1)) ∨
    ∃ N tk d r, n = mC N tk ∧ jb N tk ∧ l = ji N d ∧ N <= M ∧ (∀ t ∈ tk, LF t.2.2 <= K) ∧ (∀ p, p < N -> LF (d p) <= K) ∧ jC n = some ((List.range N).map r) ∧ od N tk r ∧
      ((lT N r ≠ [] ∧ ez n l = some ([], 24)) ∨
       (lT N r = [] ∧ ∃ x, ZS N tk d x ∧ ez n l = some (ji N x, 0) ∧ ∀ p, p < N -> LF (x p) <= 2 ^ (N - 1 - p) * (4 ^ N * (K + 1)))) := by
  have hKb : K <= iN := adj hK (by unfold iN; omega)
  obtain ⟨b, hb1, hb2⟩ := Hg hK hn
  have ham := OE n.aG hlen fun f hf => ⟨adj (hl f hf).1 hKb, adj (hl f hf).2 hKb⟩
  have hbad : ¬ H0 n l -> ez n l = some ([], 1) := by
    intro hv
    unfold ez
    rw [hb1, aeL, ham, aeL]
    cases b with
    | false => simp
    | true =>
      obtain ⟨N, tk, rfl, hR⟩ := hb2.1 rfl
      have : (decide ((l.length : Int) = (mC N tk).aG) && l.all okF) = false := by
        by_cases h1 : (l.length : Int) = (mC N tk).aG
        · cases h2 : l.all okF with
          | false => rw [Bool.and_false]
          | true =>
            have h3 : l.length = N := by simp only [mC] at h1; omega
            obtain ⟨d, hd⟩ := Me h3 h2
            exact absurd ⟨N, tk, d, rfl, hR, hd⟩ hv
        · rw [decide_eq_false h1, afd]
      rw [this]; simp
  by_cases hv : H0 n l
  rotate_left
  · exact .inl ⟨hv, hbad hv⟩
  obtain ⟨N, tk, d, rfl, hR, rfl⟩ := hv
  obtain rfl : b = true := hb2.2 ⟨N, tk, rfl, hR⟩
  have hN := hR.ports
  have hNM : N <= M := by simp only [mC] at hM; omega
  have hs := aal hn
  have hd := Wd hl
  obtain ⟨r, hr1, hr2⟩ := WG hR hK hs
  have htr := Qv hN hr1
  refine .inr ⟨N, tk, d, r, rfl, hR, rfl, hNM, hs, hd, hr1, hr2, ?_⟩
  have hpre : ∀ (q : List Int), ia (mC N tk) = some q -> ez (mC N tk) (ji N d) = if decide ((q.length : Int) > 0) = true then some ([], 24) else
      (cF (mC N tk) (ji N d)).bind fun r6 =>
      (aX (jo r6) (0, (F6 r6))).bind fun l32bx =>
      (D6 64 (mC N tk).aG (mC N tk).aG (ak.mk (al.mk 0 ([])) (al.mk 0 ([])))).bind fun x58 =>
      (aX (jq l32bx) (IntKind.i64.wrap (((l32bx).length : Int) - 1), x58)).bind fun l9ex =>
      some (l9ex, 0) := by
    intro q hq
    unfold ez
    rw [hb1, aeL, ham, aeL, hq]
    rw [decide_eq_true (show ((ji N d).length : Int) = (mC N tk).aG by rw [iH]; rfl), yU]
    simp only [aeC, adR, if_false, Bool.and_self, Option.bind_some]
  rw [hpre _ htr]
  by_cases ht : lT N r = []
  rotate_left
  · refine .inl ⟨ht, ?_⟩
    have : 0 < (lT N r).length := ae4.2 ht
    rw [if_pos (by rw [mU]; simp; omega)]
  refine .inr ⟨ht, ?_⟩
  have h0 := Oa hr2 ht
  rw [if_neg (by rw [mU, ht]; simp)]
  have hE := KS hR hr2 h0 (elim0 hR hd hs)
  have hpow : 2 ^ N * (4 ^ N * (K + 1)) <= 2 ^ M * (4 ^ M * (K + 1)) := afS (af2 (by decide) hNM) (ad3 _ (af2 (by decide) hNM))
  obtain ⟨x, _, hx, _⟩ := Bn (fk (RH d tk) N) 1 N (hE N (adh _)).up (fun _ => 0)
  have hsem := ((hE N (adh _)).sem 1 x hx).1
  have hsz := WU (hE N (adh _)) hx
  refine ⟨x, fun p hp => by have := hsem p hp; grind, ?_, fun p hp => (hsz p hp).2⟩
  rw [Ip hR, aeL]
  have e1 : F6 ((List.range N).map fun p => mkEq (RH d tk p)) = Jy (RH d tk) N 0 := by
    unfold F6 Jy
    rw [List.map_map]
    exact aeG fun p _ => by simp [fk]
  have hKs : ∀ p, p < N -> 10 * Jk K p + 50 <= fw := fun p hp => by
    have h1 := Qf K p
    have h2 : 4 ^ p * (K + 1) * 4 <= 4 ^ N * (K + 1) := by
      rw [Nat.mul_right_comm, <- Nat.pow_succ]
      exact ad3 _ (af2 (by decide) (by omega))
    have h3 : 2 * (4 ^ N * (K + 1)) <= 2 ^ N * (4 ^ N * (K + 1)) := ad3 _ (by
      have : 2 ^ 1 <= 2 ^ N := af2 (by decide) (by omega)
      omega)
    omega
  rw [e1, Tq hN hE (fun p hp => GY hR hr2 h0 (hE p (by omega)) hp) hKs (by simp), aeL]
  have e2 : (mC N tk).aG = (N : Int) := rfl
  have e3 : (Jy (RH d tk) N N).length = N := y7 _
  have e4 : List.replicate N zF = y4 x N 0 := by
    refine gD (by simp) fun j hj => ?_
    rw [afY, if_pos hj, if_neg (by omega)]
  rw [e2, Gx _ (by omega) hN, aeL, e3, wrap64 (by omega) (by omega), e4, OI hN (hE N (adh _)) hx (by omega), aeL]
set_option maxRecDepth 100000
theorem YF:nW=some true:=by kernel_rfl
theorem aa0 {l:List ak} (k:Int) (hl:l.length<=17592186044416):∃b,sb l k=some b∧(b=true->l.length<=14∧∀f∈l,(f.aL.aa.length:Int)<=k∧(f.aM.aa.length:Int)<=k):=by
 unfold sb
 have htl:(l.take 15).length=min 15 l.length:=adA
 rw[Hn (l.take 15) (fun i x=>if decide ((x.aL.aa.length:Int)<=k∧(x.aM.aa.length:Int)<=k)=true then none else some false) (by omega) (fun i x hx =>?_) (by
  simp only[sd]
  by_cases h:15<l.length
  ·rw[if_pos (by rw[htl];simp;omega),aeL,if_neg (by rw[htl];simp;omega)]
  ·rw[if_neg (by rw[htl];simp;omega),aeL];rfl)]
 ·rw[aeL]
  cases hfs:je (fun (i:Nat) (x:ak)=>if decide ((x.aL.aa.length:Int)<=k∧(x.aM.aa.length:Int)<=k)=true then none else some false) 0 (l.take 15) with
  | none =>
   refine⟨_,rfl,fun h =>?_⟩
   have h14:l.length<=14:=by have:=of_decide_eq_true h;omega
   refine⟨h14,fun f hf =>?_⟩
   obtain⟨j,hj⟩:=adD hf
   have:=jf.1 hfs j f (by rw[aeA (by omega)];exact hj)
   split at this
   ·rename_i h;exact of_decide_eq_true h
   ·cases this
  | some r =>
   obtain⟨j,x,_,h2,_⟩:=kI hfs
   split at h2
   ·cases h2
   ·cases h2;exact⟨false,rfl,fun h=>by cases h⟩
 ·have hi:=cy hx
  rw[htl]at hi
  rw[adx,if_pos (by omega)]at hx
  simp only[sd]
  rw[if_pos (by simp;omega),aeL,if_pos (by simp;omega),bT hx,aeL,Z6,aeL]
  by_cases hc:(x.aL.aa.length:Int)<=k∧(x.aM.aa.length:Int)<=k
  ·rw[decide_eq_true hc,cG (by omega)];rfl
  ·rw[decide_eq_false hc];rfl
theorem Z7 {n:bW} (hl:n.av.length<=17592186044416):∃b,ky n=some b∧(b=true->n.av.length<=40∧YZ n 6∧(n.aG<=12∨2000<n.aG)):=by
 unfold ky
 have htl:(n.av.take 40).length=min 40 n.av.length:=adA
 rw[Hn (n.av.take 40) (fun i x=>if decide ((x.bg.aL.aa.length:Int)<=6∧(x.bg.aM.aa.length:Int)<=6)=true then none else some false) (by omega) (fun i x hx =>?_) (by
  simp only[mF]
  by_cases h:40<n.av.length
  ·rw[if_pos (by rw[htl];simp;omega),aeL,if_neg (by rw[htl];simp;omega)]
  ·rw[if_neg (by rw[htl];simp;omega),aeL];rfl)]
 ·rw[aeL]
  cases hfs:je (fun (i:Nat) (x:dr)=>if decide ((x.bg.aL.aa.length:Int)<=6∧(x.bg.aM.aa.length:Int)<=6)=true then none else some false) 0 (n.av.take 40) with
  | none =>
   have hmain:(n.av.length:Int)<=40->YZ n 6:=fun h t ht=>by
    obtain⟨j,hj⟩:=adD ht
    have:=jf.1 hfs j t (by rw[aeA (by omega)];exact hj)
    split at this
    ·rename_i h;have:=of_decide_eq_true h;omega
    ·cases this
   simp only
   by_cases h1:n.aG<=12
   ·rw[if_pos (by simpa using h1)]
    exact⟨_,rfl,fun h=>by have h':=of_decide_eq_true h;exact⟨by omega,hmain h',.inl h1⟩⟩
   ·rw[if_neg (by simpa using h1)]
    by_cases h2:n.aG>2000
    ·rw[if_pos (by simpa using h2)]
     exact⟨_,rfl,fun h=>by have h':=of_decide_eq_true h;exact⟨by omega,hmain h',.inr h2⟩⟩
    ·rw[if_neg (by simpa using h2)]
     exact⟨_,rfl,fun h=>by cases h⟩
  | some r =>
   obtain⟨j,x,_,h2,_⟩:=kI hfs
   split at h2
   ·cases h2
   ·cases h2;exact⟨false,rfl,fun h=>by cases h⟩
 ·have hi:=cy hx
  rw[htl]at hi
  rw[adx,if_pos (by omega)]at hx
  simp only[mF]
  rw[if_pos (by simp;omega),aeL,if_pos (by simp;omega),bT hx,aeL,Z6,aeL]
  by_cases hc:(x.bg.aL.aa.length:Int)<=6∧(x.bg.aM.aa.length:Int)<=6
  ·rw[decide_eq_true hc,cG (by omega)];rfl
  ·rw[decide_eq_false hc];rfl
structure acg (n:bW) (l:List ak):Prop where
 takes:n.av.length<=40
 net:YZ n 6
 ports:n.aG<=(12:Nat)∨2000<n.aG
 len:l.length<=14
 amounts:ZT l 4
theorem VR {n:bW} {l:List ak} (hn:n.av.length<=17592186044416) (hl:l.length<=17592186044416):∃b,rO n l=some b∧(b=true->acg n l):=by
 obtain⟨b1,e1,f1⟩:=Z7 hn
 obtain⟨b2,e2,f2⟩:=aa0 4 hl
 unfold rO
 rw[e1,aeL]
 cases b1 with
 | false=>exact⟨false,rfl,fun h=>by cases h⟩
 | true =>
  rw[if_pos rfl,e2]
  refine⟨b2,rfl,fun h =>?_⟩
  obtain⟨h1,h2,h3⟩:=f1 rfl
  obtain⟨h4,h5⟩:=f2 h
  exact⟨h1,h2,h3,h4,fun f hf=>by have:=h5 f hf;omega⟩
theorem ZT.mono {l:List ak} {K K':Nat} (h:ZT l K) (hk:K<=K'):ZT l K':=fun f hf=>⟨adj (h f hf).1 hk,adj (h f hf).2 hk⟩
theorem YZ.mono {n:bW} {K K':Nat} (h:YZ n K) (hk:K<=K'):YZ n K':=fun f hf=>⟨adj (h f hf).1 hk,adj (h f hf).2 hk⟩
def Xs (K:Nat):Nat:=2 ^ 11*(4 ^ 12*(K+1))
theorem aaP {K N p x:Nat} (hN:N<=12) (hp:p<N) (h:x<=2 ^ (N-1-p)*(4 ^ N*(K+1))):x<=Xs K:=by
 unfold Xs
 exact adj h (afS (af2 (by decide) (by omega)) (ad3 _ (af2 (by decide) hN)))
theorem ZH:2*(2 ^ 12*(4 ^ 12*(6+1)))+100<=fw:=by decide
theorem YC {a b:Rat} (h:LF a<=fw):lM (di a) (di b)=some (decide (a=b)):=by
 have:=AS h
 rw[abo (by unfold Fit fw at *;omega) (by unfold Fit fw at *;omega)]
 congr 1
 by_cases hab:a=b
 ·rw[hab,decide_eq_true rfl,decide_eq_true rfl]
 ·rw[decide_eq_false (fun h=>hab (IU h)),decide_eq_false hab]
theorem Uo {n:bW} {l:List ak} : H0 n l↔(∃N tk,n=mC N tk∧jb N tk)∧l.all okF=true∧(l.length:Int)=n.aG:=by
 constructor
 ·rintro⟨N,tk,d,rfl,hR,rfl⟩
  exact⟨⟨N,tk,rfl,hR⟩,yU N d,by rw[iH];rfl⟩
 ·rintro⟨⟨N,tk,rfl,hR⟩,h1,h2⟩
  obtain⟨d,hd⟩:=Me (N:=N) (by simp only[mC]at h2;omega) h1
  exact⟨N,tk,d,rfl,hR,hd⟩
variable {N:Nat} {tk:List Tk} {r:Nat->Int}
theorem N9 {r r':Nat->Int} (h:(List.range N).map r=(List.range N).map r'):lT N r=lT N r':=by
 unfold lT
 refine List.filter_congr fun p hp =>?_
 have hp':=aeS.1 hp
 have h1:=bS r hp'
 rw[h,bS r' hp']at h1
 rw[Option.some.inj h1]
theorem aam {x:Int} {n:Nat} (hx:(Lit.int .u8 x).wf=true) (hn:0<n):∃a:Nat,a<n∧yZ .i64 (IntKind.i64.wrap x) (n:Int)=some (a:Int):=by
 have hx2:0<=x∧x<=255:=by
  simp only[Lit.wf,adS,decide_eq_true_eq]at hx
  have h1:IntKind.u8.min=0:=by decide
  have h2:IntKind.u8.max=255:=by decide
  omega
 refine⟨x.toNat % n,aea _ hn,?_⟩
 rw[gK (by omega),Yq (by omega) (by omega)]
 obtain⟨k,rfl⟩:∃k:Nat,x=k:=⟨x.toNat,by omega⟩
 simp
def oT (s:Nat->Bool) (t:Tk):Nat->Bool:=if s t.1=true then fun p=>if p=t.2.1 then true else s p else s
def lP (tk:List Tk) (s:Nat->Bool):Nat->Bool:=tk.foldl oT s
def fF (tk:List Tk) (s:Nat->Bool):Nat->Nat->Bool
 | 0=>s
 | i+1=>lP tk (fF tk s i)
theorem DP (s:Nat->Bool) (t:Tk) {p:Nat} (h:s p=true):oT s t p=true:=by
 unfold oT
 split
 ·show (if p=t.2.1 then true else s p)=true
  split
  ·rfl
  ·exact h
 ·exact h
theorem pP {p:Nat} : ∀(tk:List Tk) {s:Nat->Bool},s p=true->lP tk s p=true
 | [],_,h=>h
 | t::tk,s,h=>pP tk (s:=oT s t) (DP s t h)
theorem Po {s:Nat->Bool} {p:Nat} {i:Nat} (h:s p=true):fF tk s i p=true:=by
 induction i with
 | zero=>exact h
 | succ i ih=>exact pP tk ih
theorem N5 {s s':Nat->Bool} {t:Tk} (ht:t.1<N∧t.2.1<N) (h:∀p,p<N->s p=s' p):∀p,p<N->oT s t p=oT s' t p:=by
 intro p hp
 unfold oT
 rw[h t.1 ht.1]
 split
 ·show (if p=t.2.1 then true else s p)=(if p=t.2.1 then true else s' p)
  split
  ·rfl
  ·exact h p hp
 ·exact h p hp
theorem x4:∀ {tk:List Tk} {s s':Nat->Bool},(∀t∈tk,t.1<N∧t.2.1<N)->(∀p,p<N->s p=s' p)->∀p,p<N->lP tk s p=lP tk s' p
 | [],_,_,_,h=>h
 | t::tk,s,s',ht,h=>x4 (tk:=tk) (s:=oT s t) (s':=oT s' t) (fun u hu=>ht u (aeI _ hu)) (N5 (ht t (aeH ..)) h)
theorem yb:∀ {tk:List Tk} {s0 s:Nat->Bool},(∀t∈tk,t.1<N∧t.2.1<N)->(∀p,s0 p=true->s p=true)->(∀p,p<N->lP tk s p=true->s0 p=true)->∀t∈tk,s0 t.1=true->s0 t.2.1=true
 | [],_,_,_,_,_,t,ht,_=>by cases ht
 | u::tk,s0,s,hr,h1,h2,t,ht,hs=>by
  have hsu:∀p,s0 p=true->oT s u p=true:=fun p hp=>DP s u (h1 p hp)
  rcases ado.1 ht with rfl|ht
  ·have h3:oT s t t.2.1=true:=by unfold oT;rw[if_pos (h1 _ hs)];exact if_pos rfl
   exact h2 _ (hr t (aeH ..)).2 (pP tk h3)
  ·exact yb (tk:=tk) (s0:=s0) (s:=oT s u) (fun v hv=>hr v (aeI _ hv)) hsu h2 t ht hs
def H7 (s:Nat->Bool):Nat->Nat
 | 0=>0
 | n+1=>H7 s n+(if s n=true then 1 else 0)
theorem Rp (s:Nat->Bool):∀n,H7 s n<=n
 | 0=>adh _
 | n+1=>by have:=Rp s n;simp only[H7];split<;>omega
theorem H8 {s s':Nat->Bool} : ∀ {n},(∀p,p<n->s p=true->s' p=true)->H7 s n<=H7 s' n∧((∃p,p<n∧s p≠s' p)->H7 s n<H7 s' n)
 | 0,_=>⟨adh _,fun⟨p,hp,_⟩=>by omega⟩
 | n+1,h=>by
  obtain⟨h1,h2⟩:=H8 (n:=n) fun p hp=>h p (by omega)
  have h3:=h n (by omega)
  simp only[H7]
  refine⟨?_,fun⟨p,hp,hne⟩ =>?_⟩
  ·cases e1:s n<;>cases e2:s' n<;>simp_all<;>omega
  ·by_cases hpn:p=n
   ·subst hpn
    cases e1:s p<;>cases e2:s' p<;>simp_all<;>omega
   ·have:=h2 ⟨p,by omega,hne⟩
    cases e1:s n<;>cases e2:s' n<;>simp_all<;>omega
theorem LW {s:Nat->Bool} (htk:∀t∈tk,t.1<N∧t.2.1<N) {k:Nat} (hk:k<N) (hsk:s k=true):∀t∈tk,fF tk s N t.1=true->fF tk s N t.2.1=true:=by
 have hex:∃i,i<N∧∀p,p<N->fF tk s i p=fF tk s (i+1) p:=by
  by_cases hc:∃i,i<N∧∀p,p<N->fF tk s i p=fF tk s (i+1) p
  ·exact hc
  exfalso
  have hgrow:∀i,i<=N->i+1<=H7 (fF tk s i) N:=by
   intro i
   induction i with
   | zero =>
    intro _
    have:=(H8 (s:=fun _=>false) (s':=s) (n:=N) fun p _ h=>by cases h).2 ⟨k,hk,by rw[hsk];decide⟩
    simp only[fF];omega
   | succ i ih =>
    intro hi
    have h1:=ih (by omega)
    have h2:=(H8 (s:=fF tk s i) (s':=fF tk s (i+1)) (n:=N) fun p _ h=>pP tk h).2
    have h3:∃p,p<N∧fF tk s i p≠fF tk s (i+1) p:=by
     by_cases h:∃p,p<N∧fF tk s i p≠fF tk s (i+1) p
     ·exact h
     ·exact absurd ⟨i,by omega,fun p hp=>by
       by_cases he:fF tk s i p=fF tk s (i+1) p
       ·exact he
       ·exact absurd ⟨p,hp,he⟩ h⟩ hc
    have:=h2 h3
    omega
  have h1:=hgrow N (adh _)
  have h2:=Rp (fF tk s N) N
  omega
 obtain⟨i,hi,hfix⟩:=hex
 have hstay:∀m,∀p,p<N->fF tk s (i+m) p=fF tk s i p:=by
  intro m
  induction m with
  | zero=>intro p _;rfl
  | succ m ih =>
   intro p hp
   have:fF tk s (i+(m+1)) p=lP tk (fF tk s (i+m)) p:=rfl
   rw[this,x4 htk ih p hp]
   exact (hfix p hp).symm
 have hN:∀p,p<N->lP tk (fF tk s N) p=fF tk s N p:=fun p hp=>by
  have e1:=hstay (N-i) p hp
  have e2:=hstay (N+1-i) p hp
  rw[show i+(N-i)=N by omega]at e1
  rw[show i+(N+1-i)=N+1 by omega]at e2
  rw[e1];exact e2
 exact yb htk (s:=fF tk s N) (fun _ h=>h) fun p hp h=>by rw[<- hN p hp];exact h
theorem O1 {i:Nat} {t:Tk} (h:tk[i]? = some t) (s:Nat->Bool):lP (tk.take (i+1)) s=oT (lP (tk.take i) s) t:=by
 obtain⟨hi,he⟩:=adK.1 h
 unfold lP
 rw[afR hi,List.foldl_append,he];rfl
theorem Tw (hlen:tk.length<=8000) (htk:∀t∈tk,t.1<N∧t.2.1<N) (s:Nat->Bool):aX (fZ (mC N tk)) ((0:Int),(List.range N).map s)=some ((List.range N).map (lP tk s)):=by
 have key:=fun hst hend=>yP (body:=fZ (mC N tk)) tk (by omega) (fun i (l:List Bool)=>l=(List.range N).map (lP (tk.take i) s)) (fun l=>l=(List.range N).map (lP tk s)) (s0:=(List.range N).map s) rfl hst hend
 have e3:(mC N tk).av=tk.map tO:=rfl
 refine (key ?_ ?_).elim fun x ⟨h1,hx⟩=>hx ▸ h1
 ·rintro i t _ ht rfl
  have hi:=cy ht
  obtain⟨q1,q2⟩:=htk t (adJ ht)
  have hg:(tk.map tO)[i]? = some (tO t):=by rw[ade,ht];rfl
  have w2:(tO t).ko=(t.2.1:Int):=rfl
  have w3:(tO t).cY=(t.1:Int):=rfl
  refine⟨_,?_,rfl⟩
  simp only[fZ]
  rw[if_pos (by rw[e3];simp;omega),e3,bT hg,aeL,w3,bT (bS _ q1),aeL,O1 ht,cG (by omega)]
  unfold oT
  by_cases h:lP (tk.take i) s t.1=true
  ·rw[if_pos h,if_pos h,w2,bT (bS _ q2),aeL,aeg,fB]
  ·rw[if_neg h,if_neg h]
 ·rintro _ rfl
  refine⟨_,?_,rfl⟩
  simp only[fZ]
  rw[if_neg (by rw[e3];simp),afg]
theorem Tx (hN:N<=2000) (hlen:tk.length<=8000) (htk:∀t∈tk,t.1<N∧t.2.1<N) (s:Nat->Bool) {l:List ak} (hl:l.length=N):aX (fY (mC N tk) l) ((0:Int),(List.range N).map s)=some ((List.range N).map (fF tk s N)):=by
 have key:=fun hst hend=>yP (body:=fY (mC N tk) l) l (by omega) (fun i (q:List Bool)=>q=(List.range N).map (fF tk s i)) (fun q=>q=(List.range N).map (fF tk s N)) (s0:=(List.range N).map s) rfl hst hend
 refine (key ?_ ?_).elim fun x ⟨h1,hx⟩=>hx ▸ h1
 ·rintro i t _ ht rfl
  have hi:=cy ht
  refine⟨_,?_,rfl⟩
  simp only[fY]
  rw[if_pos (by simp;omega),Tw hlen htk,aeL,cG (by omega)]
  rfl
 ·rintro _ rfl
  refine⟨_,?_,rfl⟩
  simp only[fY]
  rw[if_neg (by simp),hl]
theorem JE (a0:bW) (a1:List ak) (a2:Int) (a3:ak) (h0:a0.av.length<=17592186044416) (h1:a1.length<=17592186044416) (h2:(Lit.int .u8 a2).wf=true):ij a0 a1 a2 a3=some true:=by
 obtain⟨b,e1,e2⟩:=VR h0 h1
 unfold ij
 rw[YF,aeL,e1,aeL]
 cases b with
 | false=>rfl
 | true =>
 have hF:=e2 rfl
 simp only[aeC,adR,if_false]
 rw[Z6,aeL]
 by_cases h3:(a3.aL.aa.length:Int)<=4∧(a3.aM.aa.length:Int)<=4
 rotate_left
 ·rw[decide_eq_false h3];rfl
 rw[decide_eq_true h3]
 simp only[aeC,adR,if_false]
 rw[xc ⟨by unfold iN;omega,by unfold iN;omega⟩,aeL]
 cases hok:okF a3 with
 | false=>rfl
 | true =>
 obtain⟨q,rfl⟩:=xP.1 hok
 have hq:LF q<=4:=w9 (by omega) (by omega)
 simp only[aeC,adR,if_false,Option.bind_some]
 by_cases hl0:a1.length=0
 ·rw[hl0];rfl
 rw[if_neg (by simpa using hl0)]
 obtain⟨k,hk,hmod⟩:=aam h2 (show 0<a1.length by omega)
 have happ:k9 64 [] a1=some a1:=by
  unfold k9
  have:(17592186044416:Nat)<=maxLen:=by decide
  have:=hF.len
  rw[if_pos ⟨by simp;omega,by simp;omega⟩,aeW]
 have hgk:a1[k]? = some a1[k]:=adu hk
 rw[hmod,aeL,happ,aeL,bT hgk,aeL,aeg]
 have hset:ZT (a1.set k (di q)) 6:=fun f hf=>by
  rcases List.mem_or_eq_of_mem_set hf with hf|rfl
  ·exact⟨adj (hF.amounts f hf).1 (by decide),adj (hF.amounts f hf).2 (by decide)⟩
  ·exact⟨adj (AS hq).1 (by decide),adj (AS hq).2 (by decide)⟩
 have hsl:(a1.set k (di q)).length<=17592186044416:=by simpa using h1
 have c1:=JD (K:=6) (M:=12) (by decide) hF.net (ZT.mono hF.amounts (by decide)) h1 hF.ports ZH
 have c2:=JD (K:=6) (M:=12) (by decide) hF.net hset hsl hF.ports ZH
 have hallset:(a1.set k (di q)).all okF=true->okF a1[k]=true->a1.all okF=true:=fun h1 h2=>ads.2 fun f hf=>by
  obtain⟨j,hj⟩:=adD hf
  by_cases hjk:j=k
  ·subst hjk;rw[hgk]at hj;cases hj;exact h2
  ·exact ads.1 h1 f (adJ (i:=j) (by rw[afQ (by omega)];exact hj))
 rcases c1 with⟨hnv,hO⟩|⟨N,tk,d,r,rfl,hR,rfl,hN,hs,hd,hr1,hr2,hcase⟩
 ·rw[hO,aeL]
  have fin:∀(l:List ak) (c:Int),ez a0 (a1.set k (di q))=some (l,c)->(c=1∨okF a1[k]=false) ->
    ((ez a0 (a1.set k (di q))).bind fun r13=>if ((([]:List ak),(1:Int)).2 != 0)=true then ((if True then if (r13.2==(([]:List ak),(1:Int)).2)=true then some true else (kT a1[k]).bind fun r18=>some (!r18) else some false).bind fun s8j2=>some s8j2) else none)=some true:=by
   intro l c hc hor
   rw[hc,aeL,if_pos (by rfl),if_pos trivial]
   have hrk:=ZR (f:=a1[k]) (by have:=hF.amounts _ (adt hk);exact⟨by unfold iN;omega,by unfold iN;omega⟩)
   rw[hrk]
   rcases hor with rfl|h
   ·rfl
   ·rw[h]
    by_cases hc1:(c==1)=true
    ·rw[if_pos hc1];rfl
    ·rw[if_neg hc1];rfl
  have hokk:∀N tk e,a0=mC N tk->jb N tk->a1.set k (di q)=ji N e->okF a1[k]=false:=fun N tk e h1 h2 h3=>by
   cases hh:okF a1[k] with
   | false=>rfl
   | true =>
    exfalso
    refine hnv (Uo.2 ⟨⟨N,tk,h1,h2⟩,hallset (by rw[h3];exact yU N e) hh,?_⟩)
    have:=congrArg List.length h3
    rw[aff,iH]at this
    rw[this,h1];rfl
  rcases c2 with⟨_,hO2⟩|⟨N,tk,e,_,g1,g2,g3,_,_,_,_,_,⟨_,hO2⟩|⟨_,z,_,hO2,_⟩⟩
  ·have:=fin _ _ hO2 (.inl rfl)
   rw[hO2]at this ⊢
   exact this
  ·have:=fin _ _ hO2 (.inr (hokk N tk e g1 g2 g3))
   rw[hO2]at this ⊢
   exact this
  ·have:=fin _ _ hO2 (.inr (hokk N tk e g1 g2 g3))
   rw[hO2]at this ⊢
   exact this
 rw[iH]at hk
 have hset':(ji N d).set k (di q)=ji N (fun p=>if p=k then q else d p):=by
  unfold ji
  rw[fB]
  exact aeG fun p _=>by
   show (if p=k then di q else di (d p))=di (if p=k then q else d p)
   by_cases h:p=k
   ·rw[if_pos h,if_pos h]
   ·rw[if_neg h,if_neg h]
 have hLm:fw=4398046511104:=rfl
 have hN2:=hR.ports
 rcases c2 with⟨hnv,_⟩|⟨N',tk',e,r',g1,_,g3,_,_,_,g7,_,hcase2⟩
 ·exact absurd ⟨N,tk,_,rfl,hR,hset'⟩ hnv
 obtain⟨rfl,rfl⟩:=Se g1
 rw[hset']at g3
 have he:=(TJ g3).2
 rw[hr1]at g7
 have htt:=N9 (Option.some.inj g7)
 rcases hcase with⟨ht,hO⟩|⟨ht,x,hx,hO,hxs⟩
 ·rcases hcase2 with⟨_,hO2⟩|⟨ht2,_⟩
  ·rw[hO,aeL,hO2];rfl
  ·exact absurd (htt.trans ht2) ht
 rcases hcase2 with⟨ht2,_⟩|⟨_,y,hy,hO2,hys⟩
 ·exact absurd (htt ▸ ht) ht2
 rw[hO,aeL,hO2,aeL]
 simp only[iH]
 rw[if_neg (by simp),if_neg (by simp),if_neg (by simp),aeL,if_neg (by simp),Gx _ (by omega) hN2,aeL,bT (x:=false) (by rw[afY,if_pos hk]),aeL]
 have hini:(List.replicate N false).set k true=(List.range N).map fun p=>decide (p=k):=by
  have:List.replicate N false=(List.range N).map fun _=>false:=gD (by simp) fun j hj=>by rw[afY,if_pos hj]
  rw[this,fB]
  exact aeG fun p _=>by
   by_cases h:p=k
   ·rw[if_pos h,decide_eq_true h]
   ·rw[if_neg h,decide_eq_false h]
 rw[hini,Tx hN2 hR.takes hR.rng _ (iH d),aeL]
 have hclosed:=LW (s:=fun p=>decide (p=k)) hR.rng hk (by simp)
 have hsame:=YG hR hr2 (Oa hr2 ht) hx hy (fun p=>fF tk (fun p=>decide (p=k)) N p=true) hclosed (fun p hp hn=>by
  have hpk:p≠k:=fun h=>hn (Po (by simpa using h))
  have:=he p hp
  rw[if_neg hpk]at this
  exact this)
 rw[Hn (List.range N) (fun _ _=>(none:Option Bool)) (by simp;omega) (fun i f hf =>?_) (by simp only[kd];rw[if_neg (by rw[iH];simp)])]
 ·have hno:∀(l:List Nat) i,je (fun _ _=>(none:Option Bool)) i l=none:=by
   intro l
   induction l with
   | nil=>intro i;rfl
   | cons a l ih=>intro i;simp only[je];exact ih _
  rw[hno];rfl
 ·have hi:i<N:=by have:=cy hf;simpa using this
  have q1:=aaP hN hi (hxs i hi)
  have hXs:Xs 6=240518168576:=by decide
  simp only[kd]
  rw[if_pos (by rw[iH];simp;omega),bT (bS _ hi),aeL,cG (by omega)]
  by_cases hr:fF tk (fun p=>decide (p=k)) N i=true
  ·rw[hr];rfl
  ·rw[Bool.eq_false_iff.2 hr]
   simp only[afe,if_true]
   rw[bT (nX x hi),aeL,bT (nX y hi),aeL,YC (by omega),aeL,decide_eq_true (hsame i hi hr)]
   rfl
end Go.Proofs.Ytchndpjlijbplaa.P
