/- Part of a proof, made small by a program (wip/mini.py). -/
import Derived.Test.YtchndpjlijbplaaMf
namespace Go.Proofs.Ytchndpjlijbplaa.P
open Go.RowKit
set_option linter.unusedSimpArgs false
set_option linter.unusedVariables false
def I1:List Tm->(Nat->Rat)->Nat
 | [],_=>0
 | t::l,x=>LF t.2+LF (x t.1)+1+I1 l x
theorem wM (a b:List Tm) (x:Nat->Rat):I1 (a++b) x=I1 a x+I1 b x:=by
 induction a with
 | nil=>simp[I1]
 | cons t a ih=>simp only[List.cons_append,I1,ih];omega
theorem Wi (T:List Tm) (i:Nat) (x:Nat->Rat):I1 (T.take i) x<=I1 T x:=by
 have:=wM (T.take i) (T.drop i) x
 rw[aeo]at this
 omega
theorem Lw {T:List Tm} {i:Nat} {t:Tm} (h:T[i]? = some t) (x:Nat->Rat):cI (T.take (i+1)) x=cI (T.take i) x+t.2*x t.1:=by
 obtain⟨hi,he⟩:=ac4.1 h
 rw[afc hi,mI,he]
 simp only[cI];grind
theorem NL (a:Rat) (x:Nat->Rat) {T:List Tm} : ∀i,i<=T.length->LF (a+cI (T.take i) x)<=LF a+I1 (T.take i) x
 | 0,_=>by
  rw[aex]
  simp only[cI,I1]
  rw[Rat.add_zero];exact acB _
 | i+1,h=>by
  have ih:=NL a x (T:=T) i (by omega)
  have hg:T[i]? = some T[i]:=acO (by omega)
  rw[Lw hg,<- Rat.add_assoc,afc (by omega),wM]
  have h1:=AM (a+cI (T.take i) x) (T[i].2*x T[i].1)
  have h2:=yg T[i].2 (x T[i].1)
  simp only[I1]
  omega
theorem Vt:∀ {T:List Tm} {a N:Nat},gR T->(∀t∈T,a<=t.1∧t.1<N)->T.length<=N-a
 | [],_,_,_,_=>by simp
 | t::T,a,N,hs,h=>by
  obtain⟨h1,h2⟩:=aeb.1 hs
  have ht:=h t (ad3 ..)
  have:=Vt (a:=t.1+1) (N:=N) h2 fun u hu=>⟨h1 u hu,(h u (ad4 _ hu)).2⟩
  rw[ac1];omega
theorem Wh {K Q:Nat} {x:Nat->Rat} : ∀ {T:List Tm} {a N:Nat},gR T->(∀t∈T,a<=t.1∧t.1<N)->(∀t∈T,LF t.2<=K)->(∀j,a<=j->j<N->LF (x j)<=2 ^ (N-1-j)*Q)->I1 T x+Q<=T.length*(K+1)+2 ^ (N-a)*Q
 | [],a,N,_,_,_,_=>by
  simp only[I1,List.length_nil,aep,adq]
  exact Nat.le_mul_of_pos_left _ (Nat.pow_pos (by decide))
 | t::T,a,N,hs,h,hk,hx=>by
  obtain⟨h1,h2⟩:=aeb.1 hs
  have ht:=h t (ad3 ..)
  have ih:=Wh (K:=K) (Q:=Q) (x:=x) (T:=T) (a:=t.1+1) (N:=N) h2 (fun u hu=>⟨h1 u hu,(h u (ad4 _ hu)).2⟩) (fun u hu=>hk u (ad4 _ hu)) fun j hj hjN=>hx j (by omega) hjN
  have hkt:=hk t (ad3 ..)
  have hxt:=hx t.1 ht.1 ht.2
  simp only[I1,List.length_cons]
  rw[adz]
  have e1:N-(t.1+1)=N-1-t.1:=by omega
  rw[e1]at ih
  have e2:2 ^ (N-t.1)=2 ^ (N-1-t.1)*2:=by rw[<- Nat.pow_succ];congr 1;omega
  have e3:2 ^ (N-t.1)*Q<=2 ^ (N-a)*Q:=adp _ (afn (by decide) (by omega))
  have e4:2 ^ (N-t.1)*Q=2 ^ (N-1-t.1)*Q+2 ^ (N-1-t.1)*Q:=by rw[e2,Nat.mul_assoc,adA 2 Q,<- Nat.mul_assoc,Nat.mul_two]
  omega
theorem Hi:∀m:Nat,3*m<=4 ^ m
 | 0=>by decide
 | m+1=>by
  have:=Hi m
  rw[Nat.pow_succ]
  have:0<4 ^ m:=Nat.pow_pos (by decide)
  cases m with
  | zero=>decide
  | succ m=>omega
variable {N:Nat} {tk:List Tk} {r:Nat->Int}
theorem V8 {d:Nat->Rat} {K0:Nat} {E:Nat->QE} (hE:qw N tk d K0 E N) {x:Nat->Rat} (hx:∀k,k<N->x k=1*(E k).D+cI (E k).T x) :
  ∀k,k<N->LF (E k).D+I1 (E k).T x+1<=2 ^ (N-1-k)*(4 ^ N*(K0+1))∧LF (x k)<=2 ^ (N-1-k)*(4 ^ N*(K0+1)):=by
 have key:∀m k,k+m=N-1->k<N->LF (E k).D+I1 (E k).T x+1<=2 ^ (N-1-k)*(4 ^ N*(K0+1))∧LF (x k)<=2 ^ (N-1-k)*(4 ^ N*(K0+1)):=by
  intro m
  induction m using Nat.strongRecOn with
  | ind m ih =>
   intro k hkm hk
   have hz:=hE.szd k hk
   have hup:=hE.up k hk
   have hrng:∀t∈(E k).T,k+1<=t.1∧t.1<N:=fun t ht=>⟨hup t ht,hz.t.lt t ht⟩
   have h1:=Wh (K:=2*II K0 k+2) (Q:=4 ^ N*(K0+1)) (x:=x) hz.t.sorted hrng hz.t.sz fun j hj hjN=>(ih (N-1-j) (by omega) j (by omega) hjN).2
   have h2:=Vt hz.t.sorted hrng
   have h3:=hz.d
   have h4:=Py K0 k
   have h5:(N-k)*(2*II K0 k+3)<=4 ^ N*(K0+1):=by
    have g1:(N-k)*(2*II K0 k+3)<=(N-k)*(3*(4 ^ k*(K0+1))):=Nat.mul_le_mul_left _ (by
     have:0<4 ^ k*(K0+1):=Nat.mul_pos (Nat.pow_pos (by decide)) (by omega)
     omega)
    have g2:(N-k)*(3*(4 ^ k*(K0+1)))=3*(N-k)*(4 ^ k*(K0+1)):=by rw[adA 3 (N-k),Nat.mul_assoc]
    have g3:3*(N-k)*(4 ^ k*(K0+1))<=4 ^ (N-k)*(4 ^ k*(K0+1)):=adp _ (Hi _)
    have g4:4 ^ (N-k)*(4 ^ k*(K0+1))=4 ^ N*(K0+1):=by rw[<- Nat.mul_assoc,<- Nat.pow_add];congr 2;omega
    omega
   have h6:(E k).T.length*(2*II K0 k+3)<=(N-1-k)*(2*II K0 k+3):=adp _ (by omega)
   have h7:(N-k)*(2*II K0 k+3)=(N-1-k)*(2*II K0 k+3)+(2*II K0 k+3):=by
    rw[<- adz];congr 1;omega
   have e1:N-(k+1)=N-1-k:=by omega
   rw[e1]at h1
   have h8:=NL (E k).D x (T:=(E k).T) (E k).T.length (acB _)
   rw[aeC]at h8
   have e2:x k=(E k).D+cI (E k).T x:=by rw[hx k hk];grind
   rw[e2]
   have e3:2*II K0 k+2+1=2*II K0 k+3:=rfl
   rw[e3]at h1
   omega
 intro k hk
 exact key (N-1-k) k (by omega) hk
def iR (tk:List Tk) (p:Nat):List Tm:=(tk.filter fun t=>decide (t.2.1=p)).map fun t=>(t.1,t.2.2)
theorem yC {p:Nat} {u:Tm} : u∈iR tk p↔∃t∈tk,t.2.1=p∧u=(t.1,t.2.2):=by
 unfold iR
 simp only[acA,aea,decide_eq_true_eq]
 constructor
 ·rintro⟨t,⟨h1,h2⟩,rfl⟩;exact⟨t,h1,h2,rfl⟩
 ·rintro⟨t,h1,h2,rfl⟩;exact⟨t,⟨h1,h2⟩,rfl⟩
theorem PN {i:Nat} {t:Tk} (h:tk[i]? = some t) (p:Nat):iR (tk.take (i+1)) p=if t.2.1=p then iR (tk.take i) p++[(t.1,t.2.2)] else iR (tk.take i) p:=by
 obtain⟨hi,he⟩:=ac4.1 h
 unfold iR
 rw[afc hi,aff,ad0,he]
 by_cases hc:t.2.1=p
 ·rw[if_pos hc,afg (by simpa using hc)];rfl
 ·rw[if_neg hc,afh (by simpa using hc)];simp
theorem F2 (x:Nat->Rat) (p:Nat):∀l:List Tk,cI (iR l p) x=Ah l x p
 | []=>rfl
 | t::l=>by
  have ih:=F2 x p l
  unfold iR at ih ⊢
  simp only[Ah]
  by_cases hc:t.2.1=p
  ·rw[if_pos hc,afg (by simpa using hc),acH,cI,ih]
  ·rw[if_neg hc,afh (by simpa using hc),ih];grind
theorem Px (hs:tk.Pairwise W4) (p:Nat):gR (iR tk p):=by
 unfold iR
 rw[gR,List.pairwise_map]
 refine (hs.filter _).imp_of_mem fun {a b} ha hb h =>?_
 have h1:a.2.1=p:=by simpa using (aea.1 ha).2
 have h2:b.2.1=p:=by simpa using (aea.1 hb).2
 unfold W4 at h
 simp only
 omega
theorem TC (p:Nat):(iR tk p).length<=tk.length:=by
 unfold iR
 rw[ac5]
 exact afe ..
def Q4 (d:Nat->Rat) (tk:List Tk) (p:Nat):QE:=⟨d p,iR tk p⟩
def lk (N:Nat) (x:Nat->Rat):List ak:=(List.range N).map fun p=>b6 (x p)
theorem qd (x:Nat->Rat):(lk N x).length=N:=yH _
theorem uU (x:Nat->Rat) {p:Nat} (h:p<N):(lk N x)[p]? = some (b6 (x p)):=ct _ h
abbrev zF:ak:=ak.mk (al.mk 0 []) (al.mk 0 [])
theorem HQ (hR:jG N tk) (d:Nat->Rat):cF (mL N tk) (lk N d)=some ((List.range N).map fun p=>mkEq (Q4 d tk p)):=by
 have hN:=hR.ports
 have hlen:=hR.takes
 unfold cF mL
 simp only
 rw[Ma _ (by omega) hN,ad7]
 have k1:=fun hs he=>Af (body:=fF (lk N d) (List.replicate N (aq.mk zF []))) (List.range N) (by simp;omega) (fun i (l:List aq)=>l=(List.range N).map fun p=>aq.mk (if p<i then b6 (d p) else zF) []) (fun l=>l=(List.range N).map fun p=>mkEq (Q4 d (tk.take 0) p)) (s0:=List.replicate N (aq.mk zF []))
  (hZ (by simp) fun j hj=>by rw[afj,if_pos hj,if_neg (by omega)]) hs he
 obtain⟨r1,h1,rfl⟩:=k1 (by
  rintro i x _ hx rfl
  have hi:i<N:=by have:=cT hx;simpa using this
  refine⟨_,?_,rfl⟩
  simp only[fF]
  rw[if_pos (by simp;omega),ch (uU d hi),ad7,ch (ct _ hi),ad7,cY (by omega),adC,iD]
  congr 3
  refine congrArg (fun f=>(List.range N).map f) (funext fun p =>?_)
  by_cases h:p=i
  ·subst h;rw[if_pos rfl,if_pos (show p<p+1 by omega)]
  ·rw[if_neg h]
   by_cases h3:p<i
   ·rw[if_pos h3,if_pos (show p<i+1 by omega)]
   ·rw[if_neg h3,if_neg (show ¬p<i+1 by omega)]) (by
  rintro _ rfl
  refine⟨(List.range N).map fun p=>aq.mk (if p<(List.range N).length then b6 (d p) else zF) [],?_,?_⟩
  ·simp only[fF];rw[if_neg (by simp)]
  ·refine hZ (by simp) fun j hj =>?_
   rw[ct _ hj,ac6,if_pos hj,aex];rfl)
 rw[h1,ad7]
 have k2:=fun hs he=>Af (body:=fG (bR.mk (N:Int) (tk.map wR))) tk (by omega) (fun i (l:List aq)=>l=(List.range N).map fun p=>mkEq (Q4 d (tk.take i) p)) (fun l=>l=(List.range N).map fun p=>mkEq (Q4 d tk p)) (s0:=(List.range N).map fun p=>mkEq (Q4 d (tk.take 0) p)) rfl hs he
 obtain⟨r2,h2,rfl⟩:=k2 (by
  rintro i t _ ht rfl
  have hi:=cT ht
  have hto:=(hR.ZJ t (ac3 ht)).2
  have hg:(tk.map wR)[i]? = some (wR t):=by rw[acy,ht];rfl
  have hbl:=TC (tk:=tk.take i) t.2.1
  rw[acU]at hbl
  refine⟨_,?_,rfl⟩
  simp only[fG]
  have happ:lS 72 (mkEq (Q4 d (tk.take i) t.2.1)).bk [dz.mk (wR t).dj (wR t).bd]=some ((iR (tk.take i) t.2.1++[(t.1,t.2.2)]).map iS):=by
   unfold lS mkEq Q4
   have:(17592186044416:Nat)<=maxLen:=by decide
   rw[if_pos ⟨by simp;omega,by simp;omega⟩,ad0];rfl
  have e1:(wR t).lG=(t.2.1:Int):=rfl
  rw[if_pos (by simp;omega),ch hg,ad7,e1,ch (ct _ hto),ad7,happ,ad7,cY (by omega),adC,iD]
  congr 3
  refine congrArg (fun f=>(List.range N).map f) (funext fun p =>?_)
  unfold Q4
  rw[PN ht]
  by_cases h:p=t.2.1
  ·subst h;rw[if_pos rfl,if_pos rfl];rfl
  ·rw[if_neg h,if_neg (fun e=>h e.symm)]) (by
  rintro _ rfl
  refine⟨_,?_,rfl⟩
  simp only[fG]
  rw[if_neg (by simp),aeC])
 rw[h2,ad7]
theorem elim0 (hR:jG N tk) {K0:Nat} {d:Nat->Rat} (hd:∀p,p<N->LF (d p)<=K0) (hs:∀t∈tk,LF t.2.2<=K0):qw N tk d K0 (Q4 d tk) 0 where
 sz k hk _:=⟨⟨Px hR.sorted k,fun t ht=>by obtain⟨u,h1,h2,rfl⟩:=yC.1 ht;exact (hR.ZJ u h1).1,fun t ht=>by obtain⟨u,h1,h2,rfl⟩:=yC.1 ht;exact hs u h1⟩,hd k hk⟩
 szd k hk:=by omega
 up k hk:=by omega
 ge k hk _ t _:=acC _
 pos k hk t ht:=by obtain⟨u,h1,h2,rfl⟩:=yC.1 ht;exact hR.pos u h1
 sem s x _:=⟨fun k hk=>by omega,fun k _ _=>by unfold Q4;rw[F2]⟩
def I0 (E0:Nat->QE) (N p:Nat):List (Bool×aq):=(List.range N).map fun k=>(decide (k<p),mkEq (ff E0 p k))
def vu (E:Nat->QE) (N p:Nat) (L:QE) (k:Nat):List (Bool×aq):=(List.range N).map fun j=>if j<p then (true,mkEq (E j)) else if j=p then (true,mkEq L) else if j<k then (false,mkEq (yG (E j) p L)) else (false,mkEq (E j))
theorem Oj {E:Nat->QE} {L:QE} {p K:Nat} (hN:N<=2000) (hp:p<N) (hE:∀k,k<N->p<=k->Qf N K (E k)) (hL:Qf N (2*K+2) L) (hK:10*K+50<=dB) :
  aY (kL (p:Int)) (((p+1:Nat):Int),vu E N p L (p+1))=some (vu E N p L N):=by
 have key:=fun hs=>cy (body:=kL (p:Int)) (fun i (s:Int×List (Bool×aq))=>s=(((p+1+i:Nat):Int),vu E N p L (p+1+i))) (N-(p+1)) (fun l=>l=vu E N p L N) (s:=(((p+1:Nat):Int),vu E N p L (p+1))) rfl (iO (by omega)) hs
 refine (key ?_).elim fun x ⟨h1,hx⟩=>hx ▸ h1
 rintro i _ hi rfl
 have hlen:(vu E N p L (p+1+i)).length=N:=yH _
 by_cases hc:p+1+i<N
 ·refine .inl ⟨by omega,_,?_,rfl⟩
  simp only[kL]
  have g1:(vu E N p L (p+1+i))[p+1+i]? = some (false,mkEq (E (p+1+i))):=by
   unfold vu
   rw[ct _ hc,if_neg (by omega),if_neg (by omega),if_neg (by omega)]
  have g2:(vu E N p L (p+1+i))[p]? = some (true,mkEq L):=by
   unfold vu
   rw[ct _ hp,if_neg (by omega),if_pos rfl]
  have e1:Nf (true,mkEq L)=some (mkEq L):=rfl
  have e2:MI (false,mkEq (E (p+1+i)))=some (mkEq (E (p+1+i))):=rfl
  rw[if_pos (by rw[hlen];simp;omega),ch g1,ad7,ch g2,ad7,e1,ad7,e2,ad7,aaB (hE _ hc (by omega)) hL hN (by omega),ad7,cY (by omega),adC]
  refine congrArg some (congrArg Sum.inl (Prod.ext (by simp only;omega) ?_))
  simp only
  unfold vu
  rw[iD]
  refine congrArg (fun f=>(List.range N).map f) (funext fun j =>?_)
  by_cases h:j=p+1+i
  ·subst h
   rw[if_pos rfl,if_neg (by omega),if_neg (by omega),if_pos (by omega)]
  ·rw[if_neg h]
   by_cases h1:j<p
   ·rw[if_pos h1,if_pos h1]
   ·rw[if_neg h1,if_neg h1]
    by_cases h2:j=p
    ·rw[if_pos h2,if_pos h2]
    ·rw[if_neg h2,if_neg h2]
     by_cases h3:j<p+1+i
     ·rw[if_pos h3,if_pos (by omega)]
     ·rw[if_neg h3,if_neg (by omega)]
 ·refine .inr ⟨vu E N p L (p+1+i),?_,?_⟩
  ·simp only[kL]
   rw[if_neg (by rw[hlen];simp;omega)]
  ·congr 1;omega
theorem SI {E0:Nat->QE} {K0:Nat} {d:Nat->Rat} (hN:N<=2000) (hE:∀p,p<=N->qw N tk d K0 (ff E0 p) p) (hpiv:∀p,p<N->∀c,dS (ff E0 p p).T p=some c->c<1) (hK:∀p,p<N->10*II K0 p+50<=dB) {r6:List aq} (h6:r6.length=N) :
  aY (jc r6) ((0:Int),I0 E0 N 0)=some (I0 E0 N N):=by
 have key:=fun hs=>cy (body:=jc r6) (fun i (s:Int×List (Bool×aq))=>s=((i:Int),I0 E0 N i)) N (fun l=>l=I0 E0 N N) (s:=((0:Int),I0 E0 N 0)) rfl (iO (by omega)) hs
 refine (key ?_).elim fun x ⟨h1,hx⟩=>hx ▸ h1
 rintro p _ hp rfl
 by_cases hc:p<N
 ·refine .inl ⟨hc,_,?_,rfl⟩
  have hEp:=hE p (by omega)
  have hne:∀c,dS (ff E0 p p).T p=some c->1-c≠0:=fun c h=>by have:=hpiv p hc c h;grind
  have hz:=hEp.sz p hc (acB _)
  have hKp:=hK p hc
  have hL:=F4 hz p hne
  simp only[jc]
  have g1:(I0 E0 N p)[p]? = some (false,mkEq (ff E0 p p)):=by
   unfold I0
   rw[ct _ hc,decide_eq_false (by omega)]
  have e2:MI (false,mkEq (ff E0 p p))=some (mkEq (ff E0 p p)):=rfl
  have e3:(I0 E0 N p).set p (true,mkEq (gM (ff E0 p p) p))=vu (ff E0 p) N p (gM (ff E0 p p) p) (p+1):=by
   unfold I0 vu
   rw[iD]
   refine congrArg (fun f=>(List.range N).map f) (funext fun j =>?_)
   rcases afl j p with h|h|h
   ·rw[if_neg (by omega),if_pos h,decide_eq_true h]
   ·rw[if_pos h,if_neg (by omega),if_pos h]
   ·rw[if_neg (by omega),if_neg (by omega),if_neg (by omega),if_neg (by omega),decide_eq_false (by omega)]
  have e4:vu (ff E0 p) N p (gM (ff E0 p p) p) N=I0 E0 N (p+1):=by
   unfold I0 vu
   refine ad2 fun j hj =>?_
   have hjN:=aee.1 hj
   rw[ff]
   rcases afl j p with h|h|h
   ·rw[if_pos h,if_pos h,decide_eq_true (by omega)]
   ·rw[if_neg (by omega),if_pos h,if_neg (by omega),if_pos h,decide_eq_true (by omega)]
   ·rw[if_neg (by omega),if_neg (by omega),if_pos hjN,if_neg (by omega),if_neg (by omega),decide_eq_false (by omega)]
  rw[if_pos (by simp;omega),ch g1,ad7,e2,ad7,XB hz.t hz.d hN (by omega) hne,ad7,cY (by omega),adC,e3,Oj hN hc (fun k hk hpk=>hEp.sz k hk hpk) hL hKp,ad7,e4]
 ·have:p=N:=by omega
  subst this
  refine .inr ⟨_,?_,rfl⟩
  simp only[jc]
  rw[if_neg (by simp;omega)]
def yF (x:Nat->Rat) (N i:Nat):List ak:=(List.range N).map fun j=>if N<=j+i then b6 (x j) else zF
theorem N3 {E0:Nat->QE} {K0:Nat} {d x:Nat->Rat} (hN:N<=2000) (hE:qw N tk d K0 (ff E0 N) N) (hx:∀k,k<N->x k=1*(ff E0 N k).D+cI (ff E0 N k).T x) (hsz:2*(2 ^ N*(4 ^ N*(K0+1)))+100<=dB) :
  aY (jd (I0 E0 N N)) ((N:Int)-1,yF x N 0)=some (lk N x):=by
 have hs:=V8 hE hx
 have key:=fun hs=>cy (body:=jd (I0 E0 N N)) (fun i (s:Int×List ak)=>s=((N:Int)-1-i,yF x N i)) N (fun l=>l=lk N x) (s:=((N:Int)-1,yF x N 0)) (by simp) (iO (by omega)) hs
 refine (key ?_).elim fun x ⟨h1,hx⟩=>hx ▸ h1
 rintro i _ hi rfl
 by_cases hc:i<N
 ·refine .inl ⟨hc,_,?_,rfl⟩
  obtain⟨p,hp⟩:∃p,p+i+1=N:=⟨N-1-i,by omega⟩
  have hpN:p<N:=by omega
  have e0:(N:Int)-1-(i:Int)=(p:Int):=by omega
  obtain⟨hs1,hs2⟩:=hs p hpN
  have hz:=hE.szd p hpN
  have hup:=hE.up p hpN
  have hle:2 ^ (N-1-p)*(4 ^ N*(K0+1))<=2 ^ N*(4 ^ N*(K0+1)):=adp _ (afn (by decide) (by omega))
  have hxp:=hx p hpN
  generalize hEp:ff E0 N p=e at *
  simp only[jd]
  have g1:(I0 E0 N N)[p]? = some (true,mkEq e):=by
   unfold I0
   rw[ct _ hpN,decide_eq_true hpN,hEp]
  have e1:Nf (true,mkEq e)=some (mkEq e):=rfl
  have e2:(mkEq e).aP=b6 e.D:=rfl
  have e3:(mkEq e).bk=e.T.map iS:=rfl
  have hn:=NM
  rw[e0,if_pos (by simp),ch g1,ad7,e1,ad7,aaj,ad7,e2,C1 (by omega),ad7]
  have e4:e.D+0*0=e.D:=by grind
  rw[e4]
  have htl:=hz.t.len
  have k7:=fun hst hend=>Af (body:=mU (yF x N i) (mkEq e)) e.T (by omega) (fun j (s:Int×List Int×Int×List Int)=>s=((b6 (e.D+cI (e.T.take j) x)).aH.ag,(b6 (e.D+cI (e.T.take j) x)).aH.aa,(b6 (e.D+cI (e.T.take j) x)).aJ.ag,(b6 (e.D+cI (e.T.take j) x)).aJ.aa))
   (fun s=>s=((b6 (x p)).aH.ag,(b6 (x p)).aH.aa,(b6 (x p)).aJ.ag,(b6 (x p)).aJ.aa)) (s0:=((b6 e.D).aH.ag,(b6 e.D).aH.aa,(b6 e.D).aJ.ag,(b6 e.D).aJ.aa)) (by rw[aex,cI,Rat.add_zero]) hst hend
  obtain⟨r7,h7,rfl⟩:=k7 (by
   rintro j t _ ht rfl
   have hj:=cT ht
   have htm:=ac3 ht
   have hlt:=hz.t.lt t htm
   have hpt:=hup t htm
   have hg:(e.T.map iS)[j]? = some (iS t):=by rw[acy,ht];rfl
   have hgo:(yF x N i)[t.1]? = some (b6 (x t.1)):=by
    unfold yF
    rw[ct _ hlt,if_pos (by omega)]
   have hLl:=NL e.D x (T:=e.T) j (by omega)
   have hszt:=Wi e.T j x
   have hst2:LF t.2+LF (x t.1)+1<=I1 e.T x:=by
    have:=wM (e.T.take j) (e.T.drop j) x
    rw[aeo,aew hj]at this
    simp only[I1]at this
    have he:e.T[j]=t:=(ac4.1 ht).2
    rw[he]at this
    omega
   refine⟨_,?_,rfl⟩
   simp only[mU]
   have e5:(iS t).dC=b6 t.2:=rfl
   have e6:(iS t).ke=(t.1:Int):=rfl
   have e7:ak.mk (al.mk (b6 (e.D+cI (e.T.take j) x)).aH.ag (b6 (e.D+cI (e.T.take j) x)).aH.aa) (al.mk (b6 (e.D+cI (e.T.take j) x)).aJ.ag (b6 (e.D+cI (e.T.take j) x)).aJ.aa)=b6 (e.D+cI (e.T.take j) x):=rfl
   rw[if_pos (by rw[e3];simp;omega),e3,ch hg,ad7,e6,ch hgo,ad7,e5,e7,C1 (by omega),ad7,cY (by omega),Lw ht,<- Rat.add_assoc]) (by
   rintro _ rfl
   refine⟨((b6 (e.D+cI (e.T.take e.T.length) x)).aH.ag,(b6 (e.D+cI (e.T.take e.T.length) x)).aH.aa,(b6 (e.D+cI (e.T.take e.T.length) x)).aJ.ag,(b6 (e.D+cI (e.T.take e.T.length) x)).aJ.aa),?_,?_⟩
   ·simp only[mU];rw[if_neg (by rw[e3];simp)]
   ·have:e.D+cI (e.T.take e.T.length) x=x p:=by rw[aeC,hxp];grind
    rw[this])
  rw[h7,ad7]
  have hgp:(yF x N i)[p]? = some zF:=by
   unfold yF
   rw[ct _ hpN,if_neg (by omega)]
  simp only
  rw[ch hgp,ad7,adC]
  have hw:IntKind.i64.wrap ((p:Int)-1)=(N:Int)-1-((i+1:Nat):Int):=by rw[wrap64 (by omega) (by omega)];omega
  rw[hw]
  refine congrArg some (congrArg Sum.inl (congrArg (Prod.mk _) ?_))
  show (yF x N i).set p (b6 (x p))=yF x N (i+1)
  unfold yF
  rw[iD]
  refine congrArg (fun f=>(List.range N).map f) (funext fun j =>?_)
  by_cases h:j=p
  ·subst h;rw[if_pos rfl,if_pos (by omega)]
  ·rw[if_neg h]
   by_cases h1:N<=j+i
   ·rw[if_pos h1,if_pos (by omega)]
   ·rw[if_neg h1,if_neg (by omega)]
 ·have:i=N:=by omega
  subst this
  refine .inr ⟨_,?_,rfl⟩
  simp only[jd]
  rw[if_neg (by simp;omega)]
  congr 2
  unfold yF lk
  exact ad2 fun j _=>if_pos (by omega)
end Go.Proofs.Ytchndpjlijbplaa.P
namespace Go.Proofs.Ytchndpjlijbplaa.P
open Go.RowKit
set_option linter.unusedSimpArgs false
set_option linter.unusedVariables false
theorem NZ {l:List ak} (n:Int) (hl:l.length<=17592186044416) (hf:∀f∈l,W6 f):eA l n=some (decide ((l.length:Int)=n)&&l.all okF):=by
 unfold eA
 by_cases hn:(l.length:Int)=n
 rotate_left
 ·rw[if_neg (by simpa using hn),decide_eq_false hn];rfl
 rw[if_pos (by simpa using hn),decide_eq_true hn,adZ]
 unfold bu bK
 rw[Na l (fun i x=>if okF x=true then none else some (i:Int)) (by omega) (fun i x hx =>?_) (by simp only[cu];rw[if_neg (by simp)])]
 ·rw[ad7]
  cases hfs:kf (fun i x=>if okF x=true then none else some (i:Int)) 0 l with
  | none =>
   simp only
   rw[ad7,decide_eq_false (by decide),ad7]
   have:l.all okF=true:=acM.2 fun x hx=>by
    obtain⟨j,hj⟩:=acX hx
    have:=iU.1 hfs j x hj
    by_cases h:okF x=true
    ·exact h
    ·rw[if_neg h]at this;cases this
   rw[this];rfl
  | some r =>
   obtain⟨j,x,h1,h2,_⟩:=ky hfs
   by_cases h:okF x=true
   ·rw[if_pos h]at h2;cases h2
   ·rw[if_neg h]at h2
    cases h2
    simp only
    rw[ad7,decide_eq_true (by omega),ad7]
    have:l.all okF=false:=by
     cases hall:l.all okF with
     | false=>rfl
     | true=>exact absurd (acM.1 hall x (ac3 h1)) h
    rw[this];rfl
 ·have hi:=cT hx
  simp only[cu,fW]
  rw[if_pos (by simp;omega),ch hx,ad7,AX (hf x (ac3 hx)),ad7,ad7]
  cases okF x with
  | true=>rw[cY (by omega)];rfl
  | false=>rfl
theorem Vv {l:List ak} {N:Nat} (hl:l.length=N) (h:l.all okF=true):∃d:Nat->Rat,l=lk N d:=by
 obtain⟨qs,hq,_⟩:=wA (mk:=b6) (R:=fun _=>True) (l:=l) fun x hx=>by
  obtain⟨q,hq⟩:=Az.1 (acM.1 h x hx)
  exact⟨q,hq,trivial⟩
 refine⟨fun p=>qs.getD p 0,?_⟩
 subst hq
 rw[ac5]at hl
 refine hZ (by simpa using hl) fun j hj =>?_
 have e:(fun p=>qs.getD p 0) j=qs[j]'(by omega):=by
  show qs.getD j 0=_
  rw[adg,acO (by omega)];rfl
 rw[acy,acO (by omega),e]
 rfl
theorem SZ (N:Nat) (d:Nat->Rat):(lk N d).all okF=true:=acM.2 fun x hx=>by
 unfold lk at hx
 obtain⟨p,_,rfl⟩:=acA.1 hx
 exact O7 _
theorem Vu {N K:Nat} {d:Nat->Rat} (h:∀f∈lk N d,f.aH.aa.length<=K∧f.aJ.aa.length<=K):∀p,p<N->LF (d p)<=K:=fun p hp=>by
 have:=h _ (ac3 (uU d hp))
 exact Ar this.1 this.2
def NV (n:bR) (l:List ak):Prop:=∃N tk d,n=mL N tk∧jG N tk∧l=lk N d
abbrev W8 (n:bR) (K:Nat):Prop:=∀t∈n.ax,t.bd.aH.aa.length<=K∧t.bd.aJ.aa.length<=K
abbrev ZX (l:List ak) (K:Nat):Prop:=∀f∈l,f.aH.aa.length<=K∧f.aJ.aa.length<=K
theorem Y1 {N K:Nat} {tk:List Tk} (h:∀t∈tk,LF t.2.2<=K):W8 (mL N tk) K:=fun t ht=>by
 simp only[mL,acA]at ht
 obtain⟨u,hu,rfl⟩:=ht
 exact HC (h u hu)
theorem Zz {N K:Nat} {tk:List Tk} (h:W8 (mL N tk) K):∀t∈tk,LF t.2.2<=K:=fun t ht=>by
 have:=h (wR t) (by simp only[mL];exact List.mem_map_of_mem ht)
 exact Ar this.1 this.2
theorem WM {N:Nat} {tk:List Tk} {r:Nat->Int} (hr:pR N tk r) (h:nf N r=[]):∀p,p<N->0<=r p:=by
 intro p hp
 have h1:=hr.ge p hp
 have h2:r p ≠ -1:=fun e=>by
  have:p∈nf N r:=aea.2 ⟨aee.2 hp,by simpa using e⟩
  rw[h]at this;cases this
 omega
theorem TX {n : bR} {l : List ak} {K M : Nat} (hK : K <= 1000000) (hn : W8 n K) (hl : ZX l K) (hlen : l.length <= 17592186044416) (hM : n.aG <= (M : Int) ∨ 2000 < n.aG) (hS : 2 * (2 ^ M * (4 ^ M * (K + 1))) + 100 <= dB) :
    (¬ NV n l ∧ fE n l = some ([], 1)) ∨
    ∃ N tk d r, n = mL N tk ∧ jG N tk ∧ l = lk N d ∧ N <= M ∧ (∀ t ∈ tk, LF t.2.2 <= K) ∧ (∀ p, p < N -> LF (d p) <= K) ∧ jr n = some ((List.range N).map r) ∧ pR N tk r ∧
      ((nf N r ≠ [] ∧ fE n l = some ([], 24)) ∨
       (nf N r = [] ∧ ∃ x, Z4 N tk d x ∧ fE n l = some (lk N x, 0) ∧ ∀ p, p < N -> LF (x p) <= 2 ^ (N - 1 - p) * (4 ^ N * (K + 1)))) := by
  have hKb : K <= lP := acD hK (by unfold lP; omega)
  obtain ⟨b, hb1, hb2⟩ := yK hK hn
  have ham := NZ n.aG hlen fun f hf => ⟨acD (hl f hf).1 hKb, acD (hl f hf).2 hKb⟩
  have hbad : ¬ NV n l -> fE n l = some ([], 1) := by
    intro hv
    unfold fE
    rw [hb1, ad7, ham, ad7]
    cases b with
    | false => simp
    | true =>
      obtain ⟨N, tk, rfl, hR⟩ := hb2.1 rfl
      have : (decide ((l.length : Int) = (mL N tk).aG) && l.all okF) = false := by
        by_cases h1 : (l.length : Int) = (mL N tk).aG
        · cases h2 : l.all okF with
          | false => rw [Bool.and_false]
          | true =>
            have h3 : l.length = N := by simp only [mL] at h1; omega
            obtain ⟨d, hd⟩ := Vv h3 h2
            exact absurd ⟨N, tk, d, rfl, hR, hd⟩ hv
        · rw [decide_eq_false h1, aez]
      rw [this]; simp
  by_cases hv : NV n l
  rotate_left
  · exact .inl ⟨hv, hbad hv⟩
  obtain ⟨N, tk, d, rfl, hR, rfl⟩ := hv
  obtain rfl : b = true := hb2.2 ⟨N, tk, rfl, hR⟩
  have hN := hR.ports
  have hNM : N <= M := by simp only [mL] at hM; omega
  have hs := Zz hn
  have hd := Vu hl
  obtain ⟨r, hr1, hr2⟩ := VX hR hK hs
  have htr := PQ hN hr1
  refine .inr ⟨N, tk, d, r, rfl, hR, rfl, hNM, hs, hd, hr1, hr2, ?_⟩
  have hpre : ∀ (q : List Int), gV (mL N tk) = some q -> fE (mL N tk) (lk N d) = if decide ((q.length : Int) > 0) = true then some ([], 24) else
      (cF (mL N tk) (lk N d)).bind fun r6 =>
      (aY (jc r6) (0, (FG r6))).bind fun l32bx =>
      (D7 64 (mL N tk).aG (mL N tk).aG (ak.mk (al.mk 0 ([])) (al.mk 0 ([])))).bind fun x58 =>
      (aY (jd l32bx) (IntKind.i64.wrap (((l32bx).length : Int) - 1), x58)).bind fun l9ex =>
      some (l9ex, 0) := by
    intro q hq
    unfold fE
    rw [hb1, ad7, ham, ad7, hq]
    rw [decide_eq_true (show ((lk N d).length : Int) = (mL N tk).aG by rw [qd]; rfl), SZ]
    simp only [adY, adb, if_false, Bool.and_self, Option.bind_some]
  rw [hpre _ htr]
  by_cases ht : nf N r = []
  rotate_left
  · refine .inl ⟨ht, ?_⟩
    have : 0 < (nf N r).length := aeq.2 ht
    rw [if_pos (by rw [mM]; simp; omega)]
  refine .inr ⟨ht, ?_⟩
  have h0 := WM hr2 ht
  rw [if_neg (by rw [mM, ht]; simp)]
  have hE := Kh hR hr2 h0 (elim0 hR hd hs)
  have hpow : 2 ^ N * (4 ^ N * (K + 1)) <= 2 ^ M * (4 ^ M * (K + 1)) := afd (afn (by decide) hNM) (adp _ (afn (by decide) hNM))
  obtain ⟨x, _, hx, _⟩ := A3 (ff (Q4 d tk) N) 1 N (hE N (acB _)).up (fun _ => 0)
  have hsem := ((hE N (acB _)).sem 1 x hx).1
  have hsz := V8 (hE N (acB _)) hx
  refine ⟨x, fun p hp => by have := hsem p hp; grind, ?_, fun p hp => (hsz p hp).2⟩
  rw [HQ hR, ad7]
  have e1 : FG ((List.range N).map fun p => mkEq (Q4 d tk p)) = I0 (Q4 d tk) N 0 := by
    unfold FG I0
    rw [List.map_map]
    exact ad2 fun p _ => by simp [ff]
  have hKs : ∀ p, p < N -> 10 * II K p + 50 <= dB := fun p hp => by
    have h1 := Py K p
    have h2 : 4 ^ p * (K + 1) * 4 <= 4 ^ N * (K + 1) := by
      rw [Nat.mul_right_comm, <- Nat.pow_succ]
      exact adp _ (afn (by decide) (by omega))
    have h3 : 2 * (4 ^ N * (K + 1)) <= 2 ^ N * (4 ^ N * (K + 1)) := adp _ (by
      have : 2 ^ 1 <= 2 ^ N := afn (by decide) (by omega)
      omega)
    omega
  rw [e1, SI hN hE (fun p hp => Gv hR hr2 h0 (hE p (by omega)) hp) hKs (by simp), ad7]
  have e2 : (mL N tk).aG = (N : Int) := rfl
  have e3 : (I0 (Q4 d tk) N N).length = N := yH _
  have e4 : List.replicate N zF = yF x N 0 := by
    refine hZ (by simp) fun j hj => ?_
    rw [afj, if_pos hj, if_neg (by omega)]
  rw [e2, Ma _ (by omega) hN, ad7, e3, wrap64 (by omega) (by omega), e4, N3 hN (hE N (acB _)) hx (by omega), ad7]
set_option maxRecDepth 100000
theorem XV:nR=some true:=by kernel_rfl
theorem aag {l:List ak} (k:Int) (hl:l.length<=17592186044416):∃b,rS l k=some b∧(b=true->l.length<=14∧∀f∈l,(f.aH.aa.length:Int)<=k∧(f.aJ.aa.length:Int)<=k):=by
 unfold rS
 have htl:(l.take 15).length=min 15 l.length:=acU
 rw[Na (l.take 15) (fun i x=>if decide ((x.aH.aa.length:Int)<=k∧(x.aJ.aa.length:Int)<=k)=true then none else some false) (by omega) (fun i x hx =>?_) (by
  simp only[rT]
  by_cases h:15<l.length
  ·rw[if_pos (by rw[htl];simp;omega),ad7,if_neg (by rw[htl];simp;omega)]
  ·rw[if_neg (by rw[htl];simp;omega),ad7];rfl)]
 ·rw[ad7]
  cases hfs:kf (fun (i:Nat) (x:ak)=>if decide ((x.aH.aa.length:Int)<=k∧(x.aJ.aa.length:Int)<=k)=true then none else some false) 0 (l.take 15) with
  | none =>
   refine⟨_,rfl,fun h =>?_⟩
   have h14:l.length<=14:=by have:=of_decide_eq_true h;omega
   refine⟨h14,fun f hf =>?_⟩
   obtain⟨j,hj⟩:=acX hf
   have:=iU.1 hfs j f (by rw[adW (by omega)];exact hj)
   split at this
   ·rename_i h;exact of_decide_eq_true h
   ·cases this
  | some r =>
   obtain⟨j,x,_,h2,_⟩:=ky hfs
   split at h2
   ·cases h2
   ·cases h2;exact⟨false,rfl,fun h=>by cases h⟩
 ·have hi:=cT hx
  rw[htl]at hi
  rw[acR,if_pos (by omega)]at hx
  simp only[rT]
  rw[if_pos (by simp;omega),ad7,if_pos (by simp;omega),ch hx,ad7,aah,ad7]
  by_cases hc:(x.aH.aa.length:Int)<=k∧(x.aJ.aa.length:Int)<=k
  ·rw[decide_eq_true hc,cY (by omega)];rfl
  ·rw[decide_eq_false hc];rfl
theorem Zk {n:bR} (hl:n.ax.length<=17592186044416):∃b,km n=some b∧(b=true->n.ax.length<=40∧W8 n 6∧(n.aG<=12∨2000<n.aG)):=by
 unfold km
 have htl:(n.ax.take 40).length=min 40 n.ax.length:=acU
 rw[Na (n.ax.take 40) (fun i x=>if decide ((x.bd.aH.aa.length:Int)<=6∧(x.bd.aJ.aa.length:Int)<=6)=true then none else some false) (by omega) (fun i x hx =>?_) (by
  simp only[mu]
  by_cases h:40<n.ax.length
  ·rw[if_pos (by rw[htl];simp;omega),ad7,if_neg (by rw[htl];simp;omega)]
  ·rw[if_neg (by rw[htl];simp;omega),ad7];rfl)]
 ·rw[ad7]
  cases hfs:kf (fun (i:Nat) (x:dk)=>if decide ((x.bd.aH.aa.length:Int)<=6∧(x.bd.aJ.aa.length:Int)<=6)=true then none else some false) 0 (n.ax.take 40) with
  | none =>
   have hmain:(n.ax.length:Int)<=40->W8 n 6:=fun h t ht=>by
    obtain⟨j,hj⟩:=acX ht
    have:=iU.1 hfs j t (by rw[adW (by omega)];exact hj)
    split at this
    ·rename_i h;have:=of_decide_eq_true h;omega
    ·cases this
   simp only
   by_cases h1:n.aG<=12
   ·rw[if_pos (by simpa using h1)]
    exact⟨_,rfl,fun h=>by have h':=of_decide_eq_true h;exact⟨by omega,hmain h',.inl h1⟩⟩
   ·rw[if_neg (by simpa using h1)]
    by_cases h2:n.aG>2000
    ·rw[if_pos (by simpa using h2)]
     exact⟨_,rfl,fun h=>by have h':=of_decide_eq_true h;exact⟨by omega,hmain h',.inr h2⟩⟩
    ·rw[if_neg (by simpa using h2)]
     exact⟨_,rfl,fun h=>by cases h⟩
  | some r =>
   obtain⟨j,x,_,h2,_⟩:=ky hfs
   split at h2
   ·cases h2
   ·cases h2;exact⟨false,rfl,fun h=>by cases h⟩
 ·have hi:=cT hx
  rw[htl]at hi
  rw[acR,if_pos (by omega)]at hx
  simp only[mu]
  rw[if_pos (by simp;omega),ad7,if_pos (by simp;omega),ch hx,ad7,aah,ad7]
  by_cases hc:(x.bd.aH.aa.length:Int)<=6∧(x.bd.aJ.aa.length:Int)<=6
  ·rw[decide_eq_true hc,cY (by omega)];rfl
  ·rw[decide_eq_false hc];rfl
structure aby (n:bR) (l:List ak):Prop where
 takes:n.ax.length<=40
 net:W8 n 6
 ports:n.aG<=(12:Nat)∨2000<n.aG
 len:l.length<=14
 amounts:ZX l 4
theorem U8 {n:bR} {l:List ak} (hn:n.ax.length<=17592186044416) (hl:l.length<=17592186044416):∃b,rG n l=some b∧(b=true->aby n l):=by
 obtain⟨b1,e1,f1⟩:=Zk hn
 obtain⟨b2,e2,f2⟩:=aag 4 hl
 unfold rG
 rw[e1,ad7]
 cases b1 with
 | false=>exact⟨false,rfl,fun h=>by cases h⟩
 | true =>
  rw[if_pos rfl,e2]
  refine⟨b2,rfl,fun h =>?_⟩
  obtain⟨h1,h2,h3⟩:=f1 rfl
  obtain⟨h4,h5⟩:=f2 h
  exact⟨h1,h2,h3,h4,fun f hf=>by have:=h5 f hf;omega⟩
theorem ZX.mono {l:List ak} {K K':Nat} (h:ZX l K) (hk:K<=K'):ZX l K':=fun f hf=>⟨acD (h f hf).1 hk,acD (h f hf).2 hk⟩
theorem W8.mono {n:bR} {K K':Nat} (h:W8 n K) (hk:K<=K'):W8 n K':=fun f hf=>⟨acD (h f hf).1 hk,acD (h f hf).2 hk⟩
def Xs (K:Nat):Nat:=2 ^ 11*(4 ^ 12*(K+1))
theorem Z5 {K N p x:Nat} (hN:N<=12) (hp:p<N) (h:x<=2 ^ (N-1-p)*(4 ^ N*(K+1))):x<=Xs K:=by
 unfold Xs
 exact acD h (afd (afn (by decide) (by omega)) (adp _ (afn (by decide) hN)))
theorem aaI:2*(2 ^ 12*(4 ^ 12*(6+1)))+100<=dB:=by decide
theorem X7 {n B:Nat} {f:Nat->Rat} (h:∀i,i<n->LF (f i)<=B):LF (sm n f)<=1+n*(B+1):=by
 induction n with
 | zero=>simp only[sm];exact acD NM (by omega)
 | succ n ih =>
  have h1:=ih fun i hi=>h i (by omega)
  have h2:=h n (by omega)
  have h3:=AM (sm n f) (f n)
  simp only[sm]
  rw[adz]
  omega
theorem Zt {N K:Nat} {tk:List Tk} (hR:jG N tk) (hK:K<=1000000) (hs:∀t∈tk,LF t.2.2<=K) {p:Nat} (hp:p<N):oE (mL N tk) (p:Int)=some (b6 (bM tk p)):=by
 have hN:=hR.ports
 obtain⟨b,hb1,hb2⟩:=yK (n:=mL N tk) hK (Y1 hs)
 obtain rfl:b=true:=hb2.2 ⟨N,tk,rfl,hR⟩
 unfold oE
 have e0:(mL N tk).aG=(N:Int):=rfl
 rw[hb1,ad7,vk,ad7,e0,wrap64 (by omega) (by omega),decide_eq_true (show (0:Int)<=(p:Int)∧(p:Int)<=(N:Int)-1 by omega),Cp hN hR.takes (fun t ht=>(hR.ZJ t ht).1) hK hs,ad7,ch (ct _ hp)]
 rfl
theorem aak:nP 0=some (b6 0):=abA (n:=0) (by decide)
theorem XS {a b:Rat} (h:LF a<=dB):lA (b6 a) (b6 b)=some (decide (a=b)):=by
 have:=HC h
 rw[aaF (by unfold Fit dB at *;omega) (by unfold Fit dB at *;omega)]
 congr 1
 by_cases hab:a=b
 ·rw[hab,decide_eq_true rfl,decide_eq_true rfl]
 ·rw[decide_eq_false (fun h=>hab (Rv h)),decide_eq_false hab]
theorem Hv (a0:bR) (a1:List ak) (h0:a0.ax.length<=17592186044416) (h1:a1.length<=17592186044416):gu a0 a1=some true:=by
 obtain⟨b,e1,e2⟩:=U8 h0 h1
 unfold gu
 rw[XV,ad7,e1,ad7]
 cases b with
 | false=>rfl
 | true =>
 have hF:=e2 rfl
 simp only[adY,adb,if_false]
 rcases TX (K:=6) (M:=12) (by decide) hF.net (ZX.mono hF.amounts (by decide)) h1 hF.ports aaI with⟨_,hO⟩|⟨N,tk,d,r,rfl,hR,rfl,hN,hs,hd,hr1,hr2,⟨_,hO⟩|⟨ht,x,hx,hO,hxs⟩⟩
 ·rw[hO];rfl
 ·rw[hO];rfl
 rw[hO,ad7,if_neg (by simp),if_neg (by rw[qd,qd];simp),aak,ad7]
 have hX:∀p,p<N->LF (x p)<=Xs 6:=fun p hp=>Z5 hN hp (hxs p hp)
 have hXs:Xs 6=240518168576:=by decide
 have hl40:tk.length<=40:=by have:=hF.takes;simpa [mL] using this
 have hlk:∀p,LF (bM tk p)<=300:=fun p=>by
  have:=AN hs p
  have h2:tk.length*(6+1)<=40*7:=afd hl40 (by decide)
  omega
 have hlx:∀p,p<N->LF (bM tk p*x p)<=240518168900:=fun p hp=>by
  have:=yg (bM tk p) (x p)
  have:=hX p hp
  have:=hlk p
  omega
 have key:=fun hst hend=>Af (body:=gL (mL N tk) (lk N d) (lk N x,0)) (List.range N) (by simp;omega)
  (fun i (s:Int×List Int×Int×List Int×Int×List Int×Int×List Int)=>s=((b6 (sm i d)).aH.ag,(b6 (sm i d)).aH.aa,(b6 (sm i d)).aJ.ag,(b6 (sm i d)).aJ.aa,(b6 (sm i fun p=>bM tk p*x p)).aH.ag,(b6 (sm i fun p=>bM tk p*x p)).aH.aa,(b6 (sm i fun p=>bM tk p*x p)).aJ.ag,(b6 (sm i fun p=>bM tk p*x p)).aJ.aa))
  (fun s=>s=.inl ((b6 (sm N d)).aH.ag,(b6 (sm N d)).aH.aa,(b6 (sm N d)).aJ.ag,(b6 (sm N d)).aJ.aa,(b6 (sm N fun p=>bM tk p*x p)).aH.ag,(b6 (sm N fun p=>bM tk p*x p)).aH.aa,(b6 (sm N fun p=>bM tk p*x p)).aJ.ag,(b6 (sm N fun p=>bM tk p*x p)).aJ.aa))
  (s0:=((b6 0).aH.ag,(b6 0).aH.aa,(b6 0).aJ.ag,(b6 0).aJ.aa,(b6 0).aH.ag,(b6 0).aH.aa,(b6 0).aJ.ag,(b6 0).aJ.aa)) rfl hst hend
 have hsd:∀i,i<=N->LF (sm i d)<=1+i*7:=fun i hi=>X7 fun j hj=>hd j (by omega)
 have hsx:∀i,i<=N->LF (sm i fun p=>bM tk p*x p)<=1+i*240518168901:=fun i hi=>X7 fun j hj=>hlx j (by omega)
 obtain⟨s,g1,rfl⟩:=key (by
  rintro i y _ hy rfl
  have hi:i<N:=by have:=cT hy;simpa using this
  have q1:=hsd i (by omega)
  have q2:=hsx i (by omega)
  have q3:=hd i hi
  have q4:=hlx i hi
  have q5:=hX i hi
  have q6:=hlk i
  have hLm:dB=4398046511104:=rfl
  refine⟨_,?_,rfl⟩
  simp only[gL]
  have w1:ak.mk (al.mk (b6 (sm i d)).aH.ag (b6 (sm i d)).aH.aa) (al.mk (b6 (sm i d)).aJ.ag (b6 (sm i d)).aJ.aa)=b6 (sm i d):=rfl
  have w2:ak.mk (al.mk (b6 (sm i fun p=>bM tk p*x p)).aH.ag (b6 (sm i fun p=>bM tk p*x p)).aH.aa) (al.mk (b6 (sm i fun p=>bM tk p*x p)).aJ.ag (b6 (sm i fun p=>bM tk p*x p)).aJ.aa)=b6 (sm i fun p=>bM tk p*x p):=rfl
  rw[if_pos (by rw[qd];simp;omega),Zt hR (by decide) hs hi,ad7,ch (uU x hi),ad7,X8 (by omega),ad7,if_neg (by simp),ch (uU d hi),ad7,w1,P6 (by omega),ad7,w2]
  simp only
  rw[P6 (by omega),ad7,cY (by omega)]
  rfl) (by
  rintro _ rfl
  refine⟨_,?_,rfl⟩
  simp only[gL]
  rw[if_neg (by rw[qd];simp),ac6])
 rw[g1,ad7]
 have w1:ak.mk (al.mk (b6 (sm N d)).aH.ag (b6 (sm N d)).aH.aa) (al.mk (b6 (sm N d)).aJ.ag (b6 (sm N d)).aJ.aa)=b6 (sm N d):=rfl
 have w2:ak.mk (al.mk (b6 (sm N fun p=>bM tk p*x p)).aH.ag (b6 (sm N fun p=>bM tk p*x p)).aH.aa) (al.mk (b6 (sm N fun p=>bM tk p*x p)).aJ.ag (b6 (sm N fun p=>bM tk p*x p)).aJ.aa)=b6 (sm N fun p=>bM tk p*x p):=rfl
 have q1:=hsd N (acB _)
 simp only[if_true]
 rw[w1,w2,XS (by have hLm:dB=4398046511104:=rfl;omega),ad7,decide_eq_true (XW hR hx)]
end Go.Proofs.Ytchndpjlijbplaa.P
