import Derived.Test.YtobnihfgnbnncaaGreatJf
set_option linter.unusedSimpArgs false
set_option linter.unusedVariables false
set_option linter.defProp false
noncomputable section
open Go.Proofs.Tryz
namespace Go.Proofs.YtobnihfgnbnncaaGreat.P
open Go.RowKit
def PF {c:Rat} (f:0<=c):∀(B:List Tm) {T:List Tm},(∀t∈T,0<=t.2)->(∀b∈B,0<=b.2)->∀t∈ll c B T,0<=t.2
 | [],_,h,_=>h
 | b::B,T,h,hB=>PF f B (T:=Fs T b.1 (c*b.2)) (fun t d=>by
   rcases MU.1 d with rfl|d
   ·have i:=al6 f (hB b (akU ..));simp only;cases e:fX T b.1 with
    | none=>grind
    | some a=>have:=h _ (qO e);grind
   ·exact h t (kq.1 d).1) fun u g=>hB u (akV _ g)
def VH {K1 K2:Nat} {c:Rat} (n:LF c<=K1):∀(A B:List Tm) {T:List Tm},ki (A++B)->(∀b∈A++B,LF b.2<=K2)->(∀t∈T,LF t.2<=K1)->∀t∈ll c A T,LF t.2<=2*K1+K2+1∧((∀a∈A,a.1≠t.1)->LF t.2<=K1)
 | [],_,_,_,_,h,t,d=>⟨by have:=h t d;omega,fun _=>h t d⟩
 | a::A,B,T,hs,g,h,t,d=>by
  obtain⟨e,z,f⟩:∃e z,a::A=e++[z]:=⟨(a::A).dropLast,(a::A).getLast (by simp),(List.dropLast_concat_getLast (by simp)).symm⟩;have j:e.length<(a::A).length:=by rw[f];simp
  rw[f,wh]at d;simp only[ll]at d;rw[f,akJ]at hs g;have k:=VH n e ([z]++B) (T:=T) hs g h;have o:=g z (ajN _ (ajM _ (akU ..)));rw[f];rcases MU.1 d with rfl|d
  ·refine⟨?_,fun hn=>absurd rfl (hn z (ajN _ (akU ..)))⟩;simp only;have p:=vT c z.2;cases i:fX (ll c e T) z.1 with
   | none=>grind
   | some y =>
    have l:=(k _ (qO i)).2 fun u m=>by
     grind
    have:=vS y (c*z.2);grind
  ·obtain⟨l,h2⟩:=k t (kq.1 d).1;exact⟨l,fun hn=>h2 fun u m=>hn u (ajM _ m)⟩
 termination_by A=>A.length
structure UU (N K:Nat) (e:QE):Prop where
 t:UW N K e.T
 d:LF e.D<=K
def UU.mono {N K a:Nat} {e:QE} (h:UU N K e) (b:K<=a):UU N a e:=⟨h.t.mono b,ajB h.d b⟩
def XR (c:Rat) {B:List Tm} {i:Nat} {b:Tm} (h:B[i]? = some b) (T:List Tm):ll c (B.take (i+1)) T=Fs (ll c (B.take i) T) b.1 (c*b.2):=by
 obtain⟨a,d⟩:=ajZ.1 h;rw[alX a,wh,d];rfl
def PD {N a d:Nat} {c:Rat} (f:LF c<=a) {B T:List Tm} (hB:UW N d B) (e:UW N a T) (i:Nat):UW N (2*a+d+1) (ll c (B.take i) T) where
 sorted:=Gr c _ e.sorted
 lt:=Ar c (R:=fun p=>p<N) _ e.lt fun b g=>hB.lt b (akb g)
 sz t h:=(VH (K1:=a) (K2:=d) f (B.take i) (B.drop i) (by rw[ald];exact hB.sorted) (by rw[ald];exact hB.sz) e.sz t h).1
def adP {N d g:Nat} {e b:QE} (a:UU N d e) (h:UU N g b) (p:Nat):UU N (2*d+g+1) (De e p b):=by
 unfold De;cases f:fX e.T p with
 | none=>exact a.mono (by omega)
 | some c =>
  have j:LF c<=d:=a.t.sz _ (qO f);have i:=PD j h.t (a.t.rem p) b.T.length;rw[alx]at i;refine⟨i,?_⟩;have k:=vS e.D (c*b.D);have l:=vT c b.D;have:=a.d;have:=h.d;simp only;omega
def KM {N K:Nat} {e:QE} (b:UU N K e) (p:Nat) (i:∀c,fX e.T p=some c->1-c≠0):UU N (2*K+2) (ka e p):=by
 unfold ka;cases d:fX e.T p with
 | none=>exact b.mono (by omega)
 | some c =>
  have j:LF c<=K:=b.t.sz _ (qO d);have k:=SF 1 c;have l:=L9;have h:=i c d;refine⟨⟨?_,?_,?_⟩,?_⟩
  ·simp only;rw[ki,alA];exact (H4 b.t.sorted p)
  ·intro t f;simp only[ajy]at f;obtain⟨u,g,rfl⟩:=f;exact b.t.lt u (kq.1 g).1
  ·intro t f;simp only[ajy]at f;obtain⟨u,g,rfl⟩:=f;have:=b.t.sz u (kq.1 g).1;have:=Zo (a:=u.2) h;grind
  ·have:=b.d;have:=Zo (a:=e.D) h;grind
def aho {N h q:Nat} {e b:QE} (a:UU N h e) (f:UU N q b) (w:N<=2000) (O:4*h+3*q+20<=eV) (p:Nat):fw (mkEq e) (p:Int) (mkEq b)=some (mkEq (De e p b),()):=by
 have P:=a.t.len;unfold fw;rw[find_eq a.t.sorted (by omega),akZ];simp only;unfold De;rcases zw (k:=p) a.t.sorted with⟨g,u⟩|⟨c,g,u⟩
 ·rw[g];rfl
 ·rw[g];simp only[Option.isSome_some,akP,aj4,if_false];have x:e.T[(pK e.T p).length]? = some (p,c):=by
   grind
  have y:(e.T.map kr)[(pK e.T p).length]? = some (kr (p,c)):=by grind
  have j:LF c<=h:=a.t.sz (p,c) (qO g);have z:=a.d;have A:=f.d;have B:=f.t.len;have C:(mkEq e).cF=e.T.map kr:=rfl;have D:(mkEq b).cF=b.T.map kr:=rfl;have E:(mkEq b).bK=b7 b.D:=rfl;have F:(mkEq e).bK=b7 e.D:=rfl;have G:iD (e.T.map kr) ((pK e.T p).length:Int) (IntKind.i64.wrap (((pK e.T p).length:Int)+1))=some ((nW e.T p).map kr):=by unfold iD;exact aac (by omega) u
  rw[C,aT y,akZ,G,akZ,F,E];have v:(kr (p,c)).je=b7 c:=rfl;rw[v,HI (by omega),akZ];have key:=fun H d=>p9 (body:=gx (mkEq b) (kr (p,c))) b.T (by omega) (fun i (s:Int×List Int×Int×List Int×List fR)=>s=((b7 (e.D+c*b.D)).bL.ax,(b7 (e.D+c*b.D)).bL.aa,(b7 (e.D+c*b.D)).bQ.ax,(b7 (e.D+c*b.D)).bQ.aa,(ll c (b.T.take i) (nW e.T p)).map kr))
   (fun s=>s=((b7 (e.D+c*b.D)).bL.ax,(b7 (e.D+c*b.D)).bL.aa,(b7 (e.D+c*b.D)).bQ.ax,(b7 (e.D+c*b.D)).bQ.aa,(ll c b.T (nW e.T p)).map kr)) (s0:=((b7 (e.D+c*b.D)).bL.ax,(b7 (e.D+c*b.D)).bL.aa,(b7 (e.D+c*b.D)).bQ.ax,(b7 (e.D+c*b.D)).bQ.aa,(nW e.T p).map kr)) rfl H d
  obtain⟨r,I,rfl⟩:=key (by
   rintro i t _ l rfl;have Q:=aP l;have m:=ajX l;have J:=f.t.sz t m;have n:=PD j f.t (a.t.rem p) i;have R:=vT c t.2;have o:(b.T.map kr)[i]? = some (kr t):=by grind
   have S:=Zq;refine⟨_,?_,rfl⟩;simp only[gx];rw[if_pos (by grind),D,aT o,akZ,aa8,akZ];have K:(kr t).je=b7 t.2:=rfl;have L:(kr t).p8=(t.1:Int):=rfl;rw[v,K,HI (by omega),akZ,Rat.zero_add,L];have M:aH.mk (an.mk (aK.mk (b7 (e.D+c*b.D)).bL.ax (b7 (e.D+c*b.D)).bL.aa) (aK.mk (b7 (e.D+c*b.D)).bQ.ax (b7 (e.D+c*b.D)).bQ.aa)) ((ll c (b.T.take i) (nW e.T p)).map kr)=mkEq ⟨e.D+c*b.D,ll c (b.T.take i) (nW e.T p)⟩:=rfl;rw[M,agN (e:=⟨e.D+c*b.D,ll c (b.T.take i) (nW e.T p)⟩) n w (by omega),akZ,ba (by omega),XR c l];rfl) (by
   rintro _ rfl;refine⟨_,?_,rfl⟩;simp only[gx];grind)
  rw[I,akZ];rfl
def Vi {T:List Tm} {k:Nat} (h:fX T k=none):∀t∈T,t.1≠k:=by
 induction T with
 | nil=>simp_all
 | cons u T a =>
  rw[fX]at h;grind
def Ye {e:QE} (d:ki e.T) {p:Nat} (f:∀c,fX e.T p=some c->1-c≠0) (s:Rat) (x:Nat->Rat):(1-(fX e.T p).getD 0)*(s*(ka e p).D+eH (ka e p).T x)=s*e.D+eH e.T x-(fX e.T p).getD 0*x p:=by
 unfold ka;have b:=zj d p x;cases a:fX e.T p with
 | none=>grind
 | some c =>
  have g:=f c a;rw[a]at b;simp only[Option.getD_some]at b ⊢;rw[adz];grind
def adR {e b:QE} (d:ki e.T) (p:Nat) (s:Rat) (x:Nat->Rat):s*(De e p b).D+eH (De e p b).T x=s*e.D+eH e.T x+(fX e.T p).getD 0*(s*b.D+eH b.T x-x p):=by
 unfold De;have f:=zj d p x;cases a:fX e.T p with
 | none=>grind
 | some c =>
  rw[a]at f;simp only[Option.getD_some]at f ⊢;rw[Qj c x _ (H4 d p)];grind
def iB (E0:Nat->QE):Nat->Nat->QE
 | 0,k=>E0 k
 | p+1,k=>if k<p then iB E0 p k else if k=p then ka (iB E0 p p) p else De (iB E0 p k) p (ka (iB E0 p p) p)
def Sd (K0:Nat):Nat->Nat
 | 0=>K0
 | p+1=>4*Sd K0 p+3
def Ud (a:Nat):∀p,Sd a p+1=4 ^ p*(a+1)
 | 0=>by simp[Sd]
 | p+1=>by
  have b:=Ud a p;simp only[Sd,Nat.pow_succ];grind
def agv (x:Nat->Rat) (p:Nat) (v:Rat):Nat->Rat:=fun j=>if j=p then v else x j
def Fz (E:Nat->QE) (s:Rat):∀(p:Nat),(∀k,k<p->∀t∈(E k).T,k<t.1)->∀z:Nat->Rat,∃x:Nat->Rat,(∀j,p<=j->x j=z j)∧(∀k,k<p->x k=s*(E k).D+eH (E k).T x)∧(s=0->(∀j,0<=z j)->(∀k,k<p->∀t∈(E k).T,0<=t.2)->∀j,0<=x j)
 | 0,_,z=>⟨z,fun _ _=>rfl,fun k a=>by omega,fun _ h _=>h⟩
 | p+1,hp,z=>by
  obtain⟨x,b,g,d⟩:=Fz E s p (fun k a=>hp k (by omega)) (agv z p (s*(E p).D+eH (E p).T z));refine⟨x,fun j i =>?_,fun k a =>?_,fun e hz hpos =>?_⟩
  ·rw[b j (by omega)];exact if_neg (by omega)
  ·by_cases c:k=p
   ·subst c;rw[b k (ajz _),show agv z k (s*(E k).D+eH (E k).T z) k=s*(E k).D+eH (E k).T z from if_pos rfl];congr 1;refine KI fun t f =>?_;have:=hp k (by omega) t f;rw[b t.1 (by omega)];exact (if_neg (by omega)).symm
   grind
  ·refine d e (fun j =>?_) fun k a=>hpos k (by omega);unfold agv;split
   ·have:=wD (x:=z) (hpos p (by omega)) fun t _=>hz t.1;grind
   ·exact hz j
def afw {a b:Rat} (d:0<=a) (e:0<b):0<=a / b:=by
 have f:a / b*b=a:=Rat.div_mul_cancel (by grind)
 by_cases h:0<=a / b
 ·exact h
 ·exfalso;have g:0 <= -(a / b)*b:=al6 (by grind) (by grind);have c:a / b*b=0:=by grind
  rcases Rat.mul_eq_zero.1 c with h4|h4<;>grind
variable {N:Nat} {tk:List Tk} {r:Nat->Int}
structure vH (N:Nat) (tk:List Tk) (d:Nat->Rat) (K0:Nat) (E:Nat->QE) (p:Nat):Prop where
 sz:∀k,k<N->p<=k->UU N (Sd K0 p) (E k)
 szd:∀k,k<p->UU N (2*Sd K0 k+2) (E k)
 up:∀k,k<p->∀t∈(E k).T,k<t.1
 ge:∀k,k<N->p<=k->∀t∈(E k).T,p<=t.1
 pos:∀k,k<N->∀t∈(E k).T,0<=t.2
 sem:∀(s:Rat) (x:Nat->Rat),(∀q,q<p->x q=s*(E q).D+eH (E q).T x)->(∀k,k<p->x k=s*d k+BR tk x k)∧∀k,k<N->p<=k->s*(E k).D+eH (E k).T x=s*d k+BR tk x k
def Ld (g:lz N tk) (i:rv N tk r) (l:∀p,p<N->0<=r p) {d:Nat->Rat} {m:Nat} {E:Nat->QE} {p:Nat} (hE:vH N tk d m E p) (n:p<N):∀c,fX (E p).T p=some c->c<1:=by
 intro c o
 by_cases b:c<1
 ·exact b
 exfalso;obtain⟨x,C,s,u⟩:=Fz E 0 p hE.up (fun j=>if j=p then 1 else 0);have hx:=u rfl (fun j=>by split<;>grind) fun k D=>hE.pos k (by omega);obtain⟨F,f⟩:=hE.sem 0 x s;have e:x p=1:=by simp_all
 have v:∀j,p<j->x j=0:=fun j G=>by grind
 have:=Is g i l (y:=x) (fun q _=>hx q) (fun q a=>by
  rcases al7 q p with h|h|h
  ·grind
  ·subst h;have w:=f q a (ajz _);have z:=zj (hE.sz q a (ajz _)).t.sorted q x;rw[o,e]at z;have A:0<=eH (nW (E q).T q) x:=wD (fun t B=>hE.pos q a t (kq.1 B).1) fun t _=>hx t.1;grind
  ·have w:=f q a (by omega);have A:0<=eH (E q).T x:=wD (hE.pos q a) fun t _=>hx t.1;grind) p n
 grind
def XL (H:lz N tk) (I:rv N tk r) (J:∀p,p<N->0<=r p) {d:Nat->Rat} {G:Nat} {i:Nat->QE} {p:Nat} (hE:vH N tk d G (iB i p) p) (m:p<N):vH N tk d G (iB i (p+1)) (p+1):=by
 have o:=Ld H I J hE m;generalize B:iB i p=E at *;have K:∀k,iB i (p+1) k=if k<p then E k else if k=p then ka (E p) p else De (E k) p (ka (E p) p):=fun k=>by rw[iB,B]
 have j:∀k,k<p->iB i (p+1) k=E k:=fun k e=>by rw[K,if_pos e]
 have C:iB i (p+1) p=ka (E p) p:=by simp_all
 have f:∀k,p<k->iB i (p+1) k=De (E k) p (ka (E p) p):=fun k e=>by grind
 have v:∀c,fX (E p).T p=some c->1-c≠0:=fun c S=>by grind
 have g:=hE.sz p m (ajz _);have L:=KM g p v;have D:∀t∈(ka (E p) p).T,p<t.1:=by
  intro t b;unfold ka at b;cases a:fX (E p).T p with
  | none =>
   rw[a]at b;have n:=hE.ge p m (ajz _) t b;have z:=Vi a t b;omega
  | some c =>
   rw[a]at b;simp only[ajy]at b;obtain⟨u,A,rfl⟩:=b;have n:=hE.ge p m (ajz _) u (kq.1 A).1;have z:=(kq.1 A).2;omega
 have l:∀t∈(ka (E p) p).T,0<=t.2:=by
  intro t b;unfold ka at b;cases a:fX (E p).T p with
  | none=>rw[a]at b;exact hE.pos p m t b
  | some c =>
   rw[a]at b;simp only[ajy]at b;obtain⟨u,A,rfl⟩:=b;have n:=hE.pos p m u (kq.1 A).1;have z:=o c a;simp only;have M:0<1-c:=by grind
   exact afw n M
 constructor
 ·intro k e w;rw[f k (by omega)];have:=adP (hE.sz k e (by omega)) L p;exact this.mono (by simp only[Sd];omega)
 ·intro k e
  by_cases F:k=p
  ·simp_all
  ·rw[j k (by omega)];exact hE.szd k (by omega)
 ·intro k e
  by_cases F:k=p
  ·grind
  ·rw[j k (by omega)];exact hE.up k (by omega)
 ·intro k e w;rw[f k (by omega)];unfold De;cases a:fX (E k).T p with
  | none =>
   intro t b;have n:=hE.ge k e (by omega) t b;have z:=Vi a t b;omega
  | some c =>
   refine Ar c (R:=fun q=>p+1<=q) _ (fun t b =>?_) D;have n:=hE.ge k e (by omega) t (kq.1 b).1;have z:=(kq.1 b).2;omega
 ·intro k e;rcases al7 k p with h|h|h
  ·rw[j k h];exact hE.pos k e
  ·grind
  ·rw[f k h];unfold De;cases a:fX (E k).T p with
   | none=>exact hE.pos k e
   | some c=>exact PF (hE.pos k e _ (qO a)) _ (fun t b=>hE.pos k e t (kq.1 b).1) l
 ·intro s x O;have y:=O p (by omega);rw[C]at y;obtain⟨T,P⟩:=hE.sem s x fun q U=>by grind
  have Q:x p=s*(E p).D+eH (E p).T x:=by
   have n:=Ye g.t.sorted v s x;grind
  refine⟨fun k e =>?_,fun k e w =>?_⟩
  ·grind
  ·rw[f k (by omega),adR (hE.sz k e (by omega)).t.sorted,<- y,P k e (by omega)];grind
def Pm (a:lz N tk) (b:rv N tk r) (c:∀p,p<N->0<=r p) {d:Nat->Rat} {e:Nat} {f:Nat->QE} (hE:vH N tk d e f 0):∀p,p<=N->vH N tk d e (iB f p) p
 | 0,_=>hE
 | p+1,h=>XL a b c (Pm a b c hE p (by omega)) (by omega)
end Go.Proofs.YtobnihfgnbnncaaGreat.P
namespace Go.Proofs.YtobnihfgnbnncaaGreat.P
open Go.RowKit
def N0:List Tm->(Nat->Rat)->Nat
 | [],_=>0
 | t::l,x=>LF t.2+LF (x t.1)+1+N0 l x
def AZ (a b:List Tm) (x:Nat->Rat):N0 (a++b) x=N0 a x+N0 b x:=by
 induction a with
 | nil=>simp[N0]
 | cons t a c=>simp only[List.cons_append,N0,c];omega
def acn (T:List Tm) (i:Nat) (x:Nat->Rat):N0 (T.take i) x<=N0 T x:=by
 have:=AZ (T.take i) (T.drop i) x;simp_all
def Qk {T:List Tm} {i:Nat} {t:Tm} (h:T[i]? = some t) (x:Nat->Rat):eH (T.take (i+1)) x=eH (T.take i) x+t.2*x t.1:=by
 obtain⟨a,b⟩:=ajZ.1 h;rw[alX a,qU,b];simp only[eH];grind
def SE (a:Rat) (x:Nat->Rat) {T:List Tm} : ∀i,i<=T.length->LF (a+eH (T.take i) x)<=LF a+N0 (T.take i) x
 | 0,_=>by
  rw[alp];simp only[eH,N0];grind
 | i+1,h=>by
  have c:=SE a x (T:=T) i (by omega);have b:T[i]? = some T[i]:=ajL (by omega);rw[Qk b,<- Rat.add_assoc,alX (by omega),AZ];have d:=vS (a+eH (T.take i) x) (T[i].2*x T[i].1);have e:=vT T[i].2 (x T[i].1);simp only[N0];omega
def abm:∀ {T:List Tm} {a N:Nat},ki T->(∀t∈T,a<=t.1∧t.1<N)->T.length<=N-a
 | [],_,_,_,_=>by simp
 | t::T,a,N,hs,h=>by
  obtain⟨c,d⟩:=ak1.1 hs;have e:=h t (akU ..);have:=abm (a:=t.1+1) (N:=N) d fun u b=>⟨c u b,(h u (akV _ b)).2⟩;grind
def acm {K Q:Nat} {x:Nat->Rat} : ∀ {T:List Tm} {a N:Nat},ki T->(∀t∈T,a<=t.1∧t.1<N)->(∀t∈T,LF t.2<=K)->(∀j,a<=j->j<N->LF (x j)<=2 ^ (N-1-j)*Q)->N0 T x+Q<=T.length*(K+1)+2 ^ (N-a)*Q
 | [],a,N,_,_,_,_=>by
  simp only[N0,List.length_nil,ale,akw];exact Nat.le_mul_of_pos_left _ (Nat.pow_pos (by decide))
 | t::T,a,N,hs,h,hk,hx=>by
  obtain⟨e,f⟩:=ak1.1 hs;have d:=h t (akU ..);have g:=acm (K:=K) (Q:=Q) (x:=x) (T:=T) (a:=t.1+1) (N:=N) f (fun u b=>⟨e u b,(h u (akV _ b)).2⟩) (fun u b=>hk u (akV _ b)) fun j m c=>hx j (by omega) c;have i:=hk t (akU ..);have k:=hx t.1 d.1 d.2;simp only[N0,List.length_cons];rw[ala];have l:N-(t.1+1)=N-1-t.1:=by omega
  rw[l]at g;have n:2 ^ (N-t.1)=2 ^ (N-1-t.1)*2:=by rw[<- Nat.pow_succ];congr 1;omega
  have o:2 ^ (N-t.1)*Q<=2 ^ (N-a)*Q:=akd _ (al8 (by decide) (by omega));have p:2 ^ (N-t.1)*Q=2 ^ (N-1-t.1)*Q+2 ^ (N-1-t.1)*Q:=by grind
  omega
def LW:∀m:Nat,3*m<=4 ^ m
 | 0=>by decide
 | m+1=>by
  have:=LW m;grind
variable {N:Nat} {tk:List Tk} {r:Nat->Int}
def ab9 {d:Nat->Rat} {a:Nat} {E:Nat->QE} (h:vH N tk d a E N) {x:Nat->Rat} (q:∀k,k<N->x k=1*(E k).D+eH (E k).T x) :
  ∀k,k<N->LF (E k).D+N0 (E k).T x+1<=2 ^ (N-1-k)*(4 ^ N*(a+1))∧LF (x k)<=2 ^ (N-1-k)*(4 ^ N*(a+1)):=by
 have key:∀m k,k+m=N-1->k<N->LF (E k).D+N0 (E k).T x+1<=2 ^ (N-1-k)*(4 ^ N*(a+1))∧LF (x k)<=2 ^ (N-1-k)*(4 ^ N*(a+1)):=by
  intro m
  induction m using Nat.strongRecOn with
  | ind m l =>
   intro k n e;have c:=h.szd k e;have f:=h.up k e;have b:∀t∈(E k).T,k+1<=t.1∧t.1<N:=fun t i=>⟨f t i,c.t.lt t i⟩;have o:=acm (K:=2*Sd a k+2) (Q:=4 ^ N*(a+1)) (x:=x) c.t.sorted b c.t.sz fun j r g=>(l (N-1-j) (by omega) j (by omega) g).2;have s:=abm c.t.sorted b;have u:=c.d;have v:=Ud a k;have w:(N-k)*(2*Sd a k+3)<=4 ^ N*(a+1):=by
    have y:(N-k)*(2*Sd a k+3)<=(N-k)*(3*(4 ^ k*(a+1))):=Nat.mul_le_mul_left _ (by
     omega)
    have z:(N-k)*(3*(4 ^ k*(a+1)))=3*(N-k)*(4 ^ k*(a+1)):=by grind
    have A:3*(N-k)*(4 ^ k*(a+1))<=4 ^ (N-k)*(4 ^ k*(a+1)):=akd _ (LW _);have B:4 ^ (N-k)*(4 ^ k*(a+1))=4 ^ N*(a+1):=by rw[<- Nat.mul_assoc,<- Nat.pow_add];congr 2;omega
    omega
   have C:(E k).T.length*(2*Sd a k+3)<=(N-1-k)*(2*Sd a k+3):=akd _ (by omega);have D:(N-k)*(2*Sd a k+3)=(N-1-k)*(2*Sd a k+3)+(2*Sd a k+3):=by
    rw[<- ala];congr 1;omega
   have p:N-(k+1)=N-1-k:=by omega
   rw[p]at o;have F:=SE (E k).D x (T:=(E k).T) (E k).T.length (ajz _);grind
 intro k e;exact key (N-1-k) k (by omega) e
def lr (tk:List Tk) (p:Nat):List Tm:=(tk.filter fun t=>decide (t.2.1=p)).map fun t=>(t.1,t.2.2)
def C1 {p:Nat} {u:Tm} : u∈lr tk p↔∃t∈tk,t.2.1=p∧u=(t.1,t.2.2):=by
 unfold lr;simp only[ajy,ak0,decide_eq_true_eq];grind
def Um {i:Nat} {t:Tk} (h:tk[i]? = some t) (p:Nat):lr (tk.take (i+1)) p=if t.2.1=p then lr (tk.take i) p++[(t.1,t.2.2)] else lr (tk.take i) p:=by
 obtain⟨a,b⟩:=ajZ.1 h;unfold lr;rw[alX a,al0,akR,b];grind
def KJ (x:Nat->Rat) (p:Nat):∀l:List Tk,eH (lr l p) x=BR l x p
 | []=>rfl
 | t::l=>by
  have a:=KJ x p l;unfold lr at a ⊢;simp only[BR]
  by_cases b:t.2.1=p
  ·rw[if_pos b,al1 (by simpa using b),ajE,eH,a]
  grind
def Ub (c:tk.Pairwise V4) (p:Nat):ki (lr tk p):=by
 unfold lr;rw[ki,alA];refine (c.filter _).imp_of_mem fun {a b} d e h =>?_;have f:a.2.1=p:=by simp_all
 have g:b.2.1=p:=by simp_all
 unfold V4 at h;simp only;omega
def YM (p:Nat):(lr tk p).length<=tk.length:=by
 unfold lr;grind
def Vz (d:Nat->Rat) (tk:List Tk) (p:Nat):QE:=⟨d p,lr tk p⟩
def cH (N:Nat) (x:Nat->Rat):List an:=(List.range N).map fun p=>b7 (x p)
def cZ (x:Nat->Rat):(cH N x).length=N:=qq _
def iE (x:Nat->Rat) {p:Nat} (h:p<N):(cH N x)[p]? = some (b7 (x p)):=dm _ h
abbrev zF:an:=an.mk (aK.mk 0 []) (aK.mk 0 [])
def Mx (b:lz N tk) (d:Nat->Rat):gn (rE N tk) (cH N d)=some ((List.range N).map fun p=>mkEq (Vz d tk p)):=by
 have r:=b.ports;have q:=b.takes;unfold gn rE;simp only;rw[Ee _ (by omega) r,akZ];have s:=fun c e=>p9 (body:=iS (cH N d) (List.replicate N (aH.mk zF []))) (List.range N) (by simp;omega) (fun i (l:List aH)=>l=(List.range N).map fun p=>aH.mk (if p<i then b7 (d p) else zF) []) (fun l=>l=(List.range N).map fun p=>mkEq (Vz d (tk.take 0) p)) (s0:=List.replicate N (aH.mk zF []))
  (gh (by simp) fun j g=>by simp_all) c e
 obtain⟨A,v,rfl⟩:=s (by
  rintro i x _ B rfl;have k:i<N:=by grind
  refine⟨_,?_,rfl⟩;simp only[iS];rw[if_pos (by simp;omega),aT (iE d k),akZ,aT (dm _ k),akZ,ba (by omega),akp,gE];grind) (by
  rintro _ rfl;refine⟨(List.range N).map fun p=>aH.mk (if p<(List.range N).length then b7 (d p) else zF) [],?_,?_⟩
  ·simp only[iS];simp_all
  ·refine gh (by simp) fun j g =>?_;rw[dm _ g,aj1,if_pos g,alp];rfl)
 rw[v,akZ];have w:=fun c e=>p9 (body:=iT (gY.mk (N:Int) (tk.map yy))) tk (by omega) (fun i (l:List aH)=>l=(List.range N).map fun p=>mkEq (Vz d (tk.take i) p)) (fun l=>l=(List.range N).map fun p=>mkEq (Vz d tk p)) (s0:=(List.range N).map fun p=>mkEq (Vz d (tk.take 0) p)) rfl c e;obtain⟨C,D,rfl⟩:=w (by
  rintro i t _ m rfl;have k:=aP m;have n:=(b.rng t (ajX m)).2;have y:(tk.map yy)[i]? = some (yy t):=by simp_all
  have o:=YM (tk:=tk.take i) t.2.1;rw[ajP]at o;refine⟨_,?_,rfl⟩;simp only[iT];have a:pE 72 (mkEq (Vz d (tk.take i) t.2.1)).cF [fR.mk (yy t).dh (yy t).gp]=some ((lr (tk.take i) t.2.1++[(t.1,t.2.2)]).map kr):=by
   unfold pE mkEq Vz;have:(17592186044416:Nat)<=maxLen:=by decide
   rw[if_pos ⟨by simp;omega,by simp;omega⟩,akR];rfl
  have z:(yy t).kF=(t.2.1:Int):=rfl;rw[if_pos (by simp;omega),aT y,akZ,z,aT (dm _ n),akZ,a,akZ,ba (by omega),akp,gE];congr 3;refine congrArg (fun f=>(List.range N).map f) (funext fun p =>?_);unfold Vz;rw[Um m]
  by_cases h:p=t.2.1
  ·subst h;rw[if_pos rfl,if_pos rfl];rfl
  grind) (by
  rintro _ rfl;refine⟨_,?_,rfl⟩;simp only[iT];simp_all)
 simp_all
def elim0 (e:lz N tk) {f:Nat} {d:Nat->Rat} (h:∀p,p<N->LF (d p)<=f) (i:∀t∈tk,LF t.2.2<=f):vH N tk d f (Vz d tk) 0 where
 sz k a _:=⟨⟨Ub e.sorted k,fun t b=>by obtain⟨u,c,g,rfl⟩:=C1.1 b;exact (e.rng u c).1,fun t b=>by obtain⟨u,c,g,rfl⟩:=C1.1 b;exact i u c⟩,h k a⟩
 szd k a:=by omega
 up k a:=by omega
 ge k a _ t _:=ajA _
 pos k a t b:=by obtain⟨u,c,g,rfl⟩:=C1.1 b;exact e.pos u c
 sem s x _:=⟨fun k a=>by omega,fun k _ _=>by unfold Vz;rw[KJ]⟩
def NZ (a:Nat->QE) (N p:Nat):List (Bool×aH):=(List.range N).map fun k=>(decide (k<p),mkEq (iB a p k))
def zK (E:Nat->QE) (N p:Nat) (L:QE) (k:Nat):List (Bool×aH):=(List.range N).map fun j=>if j<p then (true,mkEq (E j)) else if j=p then (true,mkEq L) else if j<k then (false,mkEq (De (E j) p L)) else (false,mkEq (E j))
def Th {E:Nat->QE} {L:QE} {p K:Nat} (b:N<=2000) (o:p<N) (c:∀k,k<N->p<=k->UU N K (E k)) (d:UU N (2*K+2) L) (q:10*K+50<=eV) :
  aS (oB (p:Int)) (((p+1:Nat):Int),zK E N p L (p+1))=some (zK E N p L N):=by
 have key:=fun e=>eE (body:=oB (p:Int)) (fun i (s:Int×List (Bool×aH))=>s=(((p+1+i:Nat):Int),zK E N p L (p+1+i))) (N-(p+1)) (fun l=>l=zK E N p L N) (s:=(((p+1:Nat):Int),zK E N p L (p+1))) rfl (ng (by omega)) e;refine (key ?_).elim fun x ⟨f,hx⟩=>hx ▸ f;rintro i _ r rfl;have a:(zK E N p L (p+1+i)).length=N:=qq _
 by_cases g:p+1+i<N
 ·refine .inl ⟨by omega,_,?_,rfl⟩;simp only[oB];have h:(zK E N p L (p+1+i))[p+1+i]? = some (false,mkEq (E (p+1+i))):=by
   unfold zK;grind
  have j:(zK E N p L (p+1+i))[p]? = some (true,mkEq L):=by
   unfold zK;simp_all
  have m:RY (true,mkEq L)=some (mkEq L):=rfl;have n:Rj (false,mkEq (E (p+1+i)))=some (mkEq (E (p+1+i))):=rfl;rw[if_pos (by grind),aT h,akZ,aT j,akZ,m,akZ,n,akZ,aho (c _ g (by omega)) d b (by omega),akZ,ba (by omega),akp];refine congrArg some (congrArg Sum.inl (Prod.ext (by simp only;omega) ?_));simp only;unfold zK;rw[gE];grind
 ·refine .inr ⟨zK E N p L (p+1+i),?_,?_⟩
  ·simp only[oB];grind
  ·congr 1;omega
def XK {a:Nat->QE} {o:Nat} {d:Nat->Rat} (q:N<=2000) (t:∀p,p<=N->vH N tk d o (iB a p) p) (r:∀p,p<N->∀c,fX (iB a p p).T p=some c->c<1) (u:∀p,p<N->10*Sd o p+50<=eV) {f:List aH} (G:f.length=N) :
  aS (lR f) ((0:Int),NZ a N 0)=some (NZ a N N):=by
 have key:=fun v=>eE (body:=lR f) (fun i (s:Int×List (Bool×aH))=>s=((i:Int),NZ a N i)) N (fun l=>l=NZ a N N) (s:=((0:Int),NZ a N 0)) rfl (ng (by omega)) v;refine (key ?_).elim fun x ⟨w,hx⟩=>hx ▸ w;rintro p _ H rfl
 by_cases e:p<N
 ·refine .inl ⟨e,_,?_,rfl⟩;have hEp:=t p (by omega);have b:∀c,fX (iB a p p).T p=some c->1-c≠0:=fun c h=>by grind
  have g:=hEp.sz p e (ajz _);have m:=u p e;have y:=KM g p b;simp only[lR];have z:(NZ a N p)[p]? = some (false,mkEq (iB a p p)):=by
   unfold NZ;simp_all
  have A:Rj (false,mkEq (iB a p p))=some (mkEq (iB a p p)):=rfl;have B:(NZ a N p).set p (true,mkEq (ka (iB a p p) p))=zK (iB a p) N p (ka (iB a p p) p) (p+1):=by
   unfold NZ zK;rw[gE];grind
  have C:zK (iB a p) N p (ka (iB a p p) p) N=NZ a N (p+1):=by
   unfold NZ zK;refine akX fun j D =>?_;have E:=ak2.1 D;rw[iB];rcases al7 j p with h|h|h
   ·grind
   ·simp_all
   grind
  rw[if_pos (by simp;omega),aT z,akZ,A,akZ,adC g.t g.d q (by omega) b,akZ,ba (by omega),akp,B,Th q e (fun k F n=>hEp.sz k F n) y m,akZ,C]
 ·have:p=N:=by omega
  subst this;refine .inr ⟨_,?_,rfl⟩;simp only[lR];simp_all
def Db (x:Nat->Rat) (N i:Nat):List an:=(List.range N).map fun j=>if N<=j+i then b7 (x j) else zF
def SR {b:Nat->QE} {h:Nat} {d x:Nat->Rat} (hN:N<=2000) (m:vH N tk d h (iB b N) N) (hx:∀k,k<N->x k=1*(iB b N k).D+eH (iB b N k).T x) (B:2*(2 ^ N*(4 ^ N*(h+1)))+100<=eV) :
  aS (lS (NZ b N N)) ((N:Int)-1,Db x N 0)=some (cH N x):=by
 have n:=ab9 m hx;have key:=fun n=>eE (body:=lS (NZ b N N)) (fun i (s:Int×List an)=>s=((N:Int)-1-i,Db x N i)) N (fun l=>l=cH N x) (s:=((N:Int)-1,Db x N 0)) (by simp) (ng (by omega)) n;refine (key ?_).elim fun x ⟨C,hx⟩=>hx ▸ C;rintro i _ hi rfl
 by_cases D:i<N
 ·refine .inl ⟨D,_,?_,rfl⟩;obtain⟨p,hp⟩:∃p,p+i+1=N:=⟨N-1-i,by omega⟩;have a:p<N:=by omega
  have E:(N:Int)-1-(i:Int)=(p:Int):=by omega
  obtain⟨F,G⟩:=n p a;have y:=m.szd p a;have o:=m.up p a;have H:2 ^ (N-1-p)*(4 ^ N*(h+1))<=2 ^ N*(4 ^ N*(h+1)):=akd _ (al8 (by decide) (by omega));have I:=hx p a;generalize J:iB b N p=e at *;simp only[lS];have K:(NZ b N N)[p]? = some (true,mkEq e):=by
   unfold NZ;simp_all
  have L:RY (true,mkEq e)=some (mkEq e):=rfl;have M:(mkEq e).bK=b7 e.D:=rfl;have O:(mkEq e).cF=e.T.map kr:=rfl;have hn:=Zq;rw[E,if_pos (by simp),aT K,akZ,L,akZ,aa8,akZ,M,HI (by omega),akZ];have P:e.D+0*0=e.D:=by grind
  rw[P];have Q:=y.t.len;have R:=fun q c=>p9 (body:=rl (Db x N i) (mkEq e)) e.T (by omega) (fun j (s:Int×List Int×Int×List Int)=>s=((b7 (e.D+eH (e.T.take j) x)).bL.ax,(b7 (e.D+eH (e.T.take j) x)).bL.aa,(b7 (e.D+eH (e.T.take j) x)).bQ.ax,(b7 (e.D+eH (e.T.take j) x)).bQ.aa))
   (fun s=>s=((b7 (x p)).bL.ax,(b7 (x p)).bL.aa,(b7 (x p)).bQ.ax,(b7 (x p)).bQ.aa)) (s0:=((b7 e.D).bL.ax,(b7 e.D).bL.aa,(b7 e.D).bQ.ax,(b7 e.D).bQ.aa)) (by rw[alp,eH,Rat.add_zero]) q c
  obtain⟨r7,S,rfl⟩:=R (by
   rintro j t _ r rfl;have U:=aP r;have g:=ajX r;have u:=y.t.lt t g;have V:=o t g;have W:(e.T.map kr)[j]? = some (kr t):=by simp_all
   have v:(Db x N i)[t.1]? = some (b7 (x t.1)):=by
    unfold Db;rw[dm _ u,if_pos (by omega)]
   have X:=SE e.D x (T:=e.T) j (by omega);have z:=acn e.T j x;have A:LF t.2+LF (x t.1)+1<=N0 e.T x:=by
    have:=AZ (e.T.take j) (e.T.drop j) x;rw[ald,alo U]at this;simp only[N0]at this;grind
   refine⟨_,?_,rfl⟩;simp only[rl];have Y:(kr t).je=b7 t.2:=rfl;have Z:(kr t).p8=(t.1:Int):=rfl;have e7:an.mk (aK.mk (b7 (e.D+eH (e.T.take j) x)).bL.ax (b7 (e.D+eH (e.T.take j) x)).bL.aa) (aK.mk (b7 (e.D+eH (e.T.take j) x)).bQ.ax (b7 (e.D+eH (e.T.take j) x)).bQ.aa)=b7 (e.D+eH (e.T.take j) x):=rfl;rw[if_pos (by simp_all),O,aT W,akZ,Z,aT v,akZ,Y,e7,HI (by omega),akZ,ba (by omega),Qk r,<- Rat.add_assoc]) (by
   rintro _ rfl;refine⟨((b7 (e.D+eH (e.T.take e.T.length) x)).bL.ax,(b7 (e.D+eH (e.T.take e.T.length) x)).bL.aa,(b7 (e.D+eH (e.T.take e.T.length) x)).bQ.ax,(b7 (e.D+eH (e.T.take e.T.length) x)).bQ.aa),?_,?_⟩
   ·simp only[rl];simp_all
   simp_all)
  rw[S,akZ];have w:(Db x N i)[p]? = some zF:=by
   unfold Db;grind
  simp only;rw[aT w,akZ,akp];have hw:IntKind.i64.wrap ((p:Int)-1)=(N:Int)-1-((i+1:Nat):Int):=by rw[wrap64 (by omega) (by omega)];omega
  rw[hw];refine congrArg some (congrArg Sum.inl (congrArg (Prod.mk _) ?_));show (Db x N i).set p (b7 (x p))=Db x N (i+1);unfold Db;rw[gE];refine congrArg (fun f=>(List.range N).map f) (funext fun j =>?_);grind
 ·have:i=N:=by omega
  subst this;refine .inr ⟨_,?_,rfl⟩;simp only[lS];rw[if_neg (by simp;omega)];congr 2;unfold Db cH;simp_all
end Go.Proofs.YtobnihfgnbnncaaGreat.P
namespace Go.Proofs.YtobnihfgnbnncaaGreat.P
open Go.RowKit
def SN {l:List an} (n:Int) (o:l.length<=17592186044416) (g:∀f∈l,acV f):kV l n=some (decide ((l.length:Int)=n)&&l.all okF):=by
 unfold kV
 by_cases d:(l.length:Int)=n
 rotate_left
 ·rw[if_neg (by simpa using d),decide_eq_false d];rfl
 rw[if_pos (by simpa using d),decide_eq_true d,akQ];unfold cN de;rw[oA l (fun i x=>if okF x=true then none else some (i:Int)) (by omega) (fun i x a =>?_) (by simp only[dE];rw[if_neg (by simp)])]
 ·rw[akZ];cases b:eC (fun i x=>if okF x=true then none else some (i:Int)) 0 l with
  | none =>
   simp only;rw[akZ,decide_eq_false (by decide),akZ];have:l.all okF=true:=ajJ.2 fun x a=>by
    obtain⟨j,k⟩:=ajS a;have:=cM.1 b j x k
    by_cases h:okF x=true
    ·exact h
    ·rw[if_neg h]at this;cases this
   rw[this];rfl
  | some r =>
   obtain⟨j,x,m,e,_⟩:=da b
   by_cases h:okF x=true
   ·rw[if_pos h]at e;cases e
   ·rw[if_neg h]at e;cases e;simp only;rw[akZ,decide_eq_true (by omega),akZ];have:l.all okF=false:=by
     cases c:l.all okF with
     | false=>rfl
     | true=>exact absurd (ajJ.1 c x (ajX m)) h
    rw[this];rfl
 ·have p:=aP a;simp only[dE,kL];rw[if_pos (by simp;omega),aT a,akZ,xE (g x (ajX a)),akZ,akZ];cases okF x with
  | true=>rw[ba (by omega)];rfl
  | false=>rfl
def abp {l:List an} {N:Nat} (b:l.length=N) (h:l.all okF=true):∃d:Nat->Rat,l=cH N d:=by
 obtain⟨qs,a,_⟩:=AK (mk:=b7) (R:=fun _=>True) (l:=l) fun x c=>by
  obtain⟨q,a⟩:=qI.1 (ajJ.1 h x c);exact⟨q,a,trivial⟩
 refine⟨fun p=>qs.getD p 0,?_⟩;subst a;rw[aj0]at b;refine gh (by simpa using b) fun j f =>?_;have e:(fun p=>qs.getD p 0) j=qs[j]'(by omega):=by
  show qs.getD j 0=_;rw[aj7,ajL (by omega)];rfl
 rw[ajw,ajL (by omega),e];rfl
def Ya (N:Nat) (d:Nat->Rat):(cH N d).all okF=true:=ajJ.2 fun x a=>by
 unfold cH at a;obtain⟨p,_,rfl⟩:=ajy.1 a;exact Hj _
def Yc {N M:Nat} {d e:Nat->Rat} (h:cH N d=cH M e):N=M∧∀p,p<N->d p=e p:=by
 have a:=congrArg List.length h;rw[cZ,cZ]at a;subst a;refine⟨rfl,fun p b =>?_⟩;have c:=iE (N:=N) d b;rw[h,iE e b]at c;exact (wF (alz c)).symm
def abo {N K:Nat} {d:Nat->Rat} (h:∀f∈cH N d,f.bL.aa.length<=K∧f.bQ.aa.length<=K):∀p,p<N->LF (d p)<=K:=fun p a=>by
 have:=h _ (ajX (iE d a));exact rS this.1 this.2
def Yb {N K:Nat} {d:Nat->Rat} (h:∀p,p<N->LF (d p)<=K):∀f∈cH N d,f.bL.aa.length<=K∧f.bQ.aa.length<=K:=fun f a=>by
 unfold cH at a;obtain⟨p,b,rfl⟩:=ajy.1 a;exact E1 (h p (ak2.1 b))
def SL (n:gY) (l:List an):Prop:=∃N tk d,n=rE N tk∧lz N tk∧l=cH N d
abbrev SzN (n:gY) (K:Nat):Prop:=∀t∈n.bk,t.gp.bL.aa.length<=K∧t.gp.bQ.aa.length<=K
abbrev SzL (l:List an) (K:Nat):Prop:=∀f∈l,f.bL.aa.length<=K∧f.bQ.aa.length<=K
def afm {N K:Nat} {tk:List Tk} (h:∀t∈tk,LF t.2.2<=K):SzN (rE N tk) K:=fun t a=>by
 simp only[rE,ajy]at a;obtain⟨u,b,rfl⟩:=a;exact E1 (h u b)
def afQ {N K:Nat} {tk:List Tk} (h:SzN (rE N tk) K):∀t∈tk,LF t.2.2<=K:=fun t a=>by
 have:=h (yy t) (by simp only[rE];exact List.mem_map_of_mem a);exact rS this.1 this.2
def Si {N:Nat} {tk:List Tk} {r:Nat->Int} (b:rv N tk r) (h:pA N r=[]):∀p,p<N->0<=r p:=by
 intro p a;have c:=b.ge p a;have d:r p ≠ -1:=fun e=>by
  have:p∈pA N r:=ak0.2 ⟨ak2.2 a,by simpa using e⟩;rw[h]at this;cases this
 omega
def Zu {n : gY} {l : List an} {K M : Nat} (F : K <= 1000000) (R : SzN n K) (G : SzL l K) (k : l.length <= 17592186044416) (Y : n.aA <= (M : Int) ∨ 2000 < n.aA) (hS : 2 * (2 ^ M * (4 ^ M * (K + 1))) + 100 <= eV) :
    (¬ SL n l ∧ kK n l = some ([], 1)) ∨
    ∃ N tk d r, n = rE N tk ∧ lz N tk ∧ l = cH N d ∧ N <= M ∧ (∀ t ∈ tk, LF t.2.2 <= K) ∧ (∀ p, p < N -> LF (d p) <= K) ∧ kb n = some ((List.range N).map r) ∧ rv N tk r ∧
      ((pA N r ≠ [] ∧ kK n l = some ([], 24)) ∨
       (pA N r = [] ∧ ∃ x, acY N tk d x ∧ kK n l = some (cH N x, 0) ∧ ∀ p, p < N -> LF (x p) <= 2 ^ (N - 1 - p) * (4 ^ N * (K + 1)))) := by
  have m : K <= sM := ajB F (by unfold sM; omega);obtain ⟨b, o, s⟩ := Lm F R;have u := SN n.aA k fun f S => ⟨ajB (G f S).1 m, ajB (G f S).2 m⟩;have v : ¬ SL n l -> kK n l = some ([], 1) := by
    intro w;unfold kK;rw [o, akZ, u, akZ];cases b with
    | false => simp
    | true =>
      obtain ⟨N, tk, rfl, c⟩ := s.1 rfl;have : (decide ((l.length : Int) = (rE N tk).aA) && l.all okF) = false := by
        by_cases H : (l.length : Int) = (rE N tk).aA
        · cases T : l.all okF with
          | false => rw [Bool.and_false]
          | true =>
            have U : l.length = N := by simp only [rE] at H; omega
            obtain ⟨d, D⟩ := abp U T;exact absurd ⟨N, tk, d, rfl, c, D⟩ w
        · rw [decide_eq_false H, als]
      rw [this]; simp
  by_cases w : SL n l
  rotate_left
  · exact .inl ⟨w, v w⟩
  obtain ⟨N, tk, d, rfl, c, rfl⟩ := w;obtain rfl : b = true := s.2 ⟨N, tk, rfl, c⟩;have E := c.ports;have g : N <= M := by simp only [rE] at Y; omega
  have I := afQ R;have D := abo G;obtain ⟨r, y, e⟩ := abV c F I;have J := Uq E y;refine .inr ⟨N, tk, d, r, rfl, c, rfl, g, I, D, y, e, ?_⟩;have z : ∀ (q : List Int), lK (rE N tk) = some q -> kK (rE N tk) (cH N d) = if decide ((q.length : Int) > 0) = true then some ([], 24) else
      (gn (rE N tk) (cH N d)).bind fun V =>
      (aS (lR V) (0, (Ku V))).bind fun a =>
      (Iv 64 (rE N tk).aA (rE N tk).aA (an.mk (aK.mk 0 ([])) (aK.mk 0 ([])))).bind fun L =>
      (aS (lS a) (IntKind.i64.wrap (((a).length : Int) - 1), L)).bind fun A =>
      some (A, 0) := by
    intro q Z;unfold kK;rw [o, akZ, u, akZ, Z];rw [decide_eq_true (show ((cH N d).length : Int) = (rE N tk).aA by rw [cZ]; rfl), Ya];simp only [akP, aj4, if_false, Bool.and_self, Option.bind_some]
  rw [z _ J]
  by_cases B : pA N r = []
  rotate_left
  · refine .inl ⟨B, ?_⟩
    have : 0 < (pA N r).length := alf.2 B;rw [if_pos (by rw [qY]; simp; omega)]
  refine .inr ⟨B, ?_⟩;have W := Si e B;rw [if_neg (by rw [qY, B]; simp)];have h := Pm c e W (elim0 c D I);have X : 2 ^ N * (4 ^ N * (K + 1)) <= 2 ^ M * (4 ^ M * (K + 1)) := alY (al8 (by decide) g) (akd _ (al8 (by decide) g));obtain ⟨x, _, O, _⟩ := Fz (iB (Vz d tk) N) 1 N (h N (ajz _)).up (fun _ => 0);have C := ((h N (ajz _)).sem 1 x O).1;have P := ab9 (h N (ajz _)) O;refine ⟨x, fun p i => by have := C p i; grind, ?_, fun p i => (P p i).2⟩;rw [Mx c, akZ];have e1 : Ku ((List.range N).map fun p => mkEq (Vz d tk p)) = NZ (Vz d tk) N 0 := by
    unfold Ku NZ;rw [List.map_map];exact akX fun p _ => by simp [iB]
  have Q : ∀ p, p < N -> 10 * Sd K p + 50 <= eV := fun p i => by
    have H := Ud K p;have T : 4 ^ p * (K + 1) * 4 <= 4 ^ N * (K + 1) := by
      rw [Nat.mul_right_comm, <- Nat.pow_succ];exact akd _ (al8 (by decide) (by omega))
    have U : 2 * (4 ^ N * (K + 1)) <= 2 ^ N * (4 ^ N * (K + 1)) := akd _ (by
      have : 2 ^ 1 <= 2 ^ N := al8 (by decide) (by omega);omega)
    omega
  rw [e1, XK E h (fun p i => Ld c e W (h p (by omega)) i) Q (by simp), akZ];have e2 : (rE N tk).aA = (N : Int) := rfl;have e3 : (NZ (Vz d tk) N N).length = N := qq _;have e4 : List.replicate N zF = Db x N 0 := by
    refine gh (by simp) fun j hj => ?_;rw [al4, if_pos hj, if_neg (by omega)]
  rw [e2, Ee _ (by omega) E, akZ, e3, wrap64 (by omega) (by omega), e4, SR E (h N (ajz _)) O (by omega), akZ]
set_option maxRecDepth 100000
def SzL.mono {l:List an} {K a:Nat} (h:SzL l K) (b:K<=a):SzL l a:=fun f c=>⟨ajB (h f c).1 b,ajB (h f c).2 b⟩
def SzN.mono {n:gY} {K a:Nat} (h:SzN n K) (b:K<=a):SzN n a:=fun f c=>⟨ajB (h f c).1 b,ajB (h f c).2 b⟩
section
variable {N:Nat} {tk:List Tk} {r:Nat->Int}
end
def oJ:List Rat->Rat
 | []=>0
 | q::l=>q+oJ l
def Sc (a b:List Rat):oJ (a++b)=oJ a+oJ b:=by
 induction a with
 | nil=>rw[ak6,oJ,Rat.zero_add]
 | cons q a c=>rw[alh,oJ,oJ,c];grind
def UL {K:Nat} {l:List Rat} (h:∀q∈l,LF q<=K):LF (oJ l)<=1+l.length*(K+1):=by
 induction l with
 | nil=>simp only[oJ];exact ajB (Ah (n:=0) (by decide)) (by omega)
 | cons q l a =>
  have c:=h q (akU ..);have d:=a fun x b=>h x (akV _ b);have e:=vS q (oJ l);simp only[oJ,List.length_cons];grind
def Xu {a b:Rat} : OP a b=0↔a=b:=by
 unfold OP;grind
def Co (l:List an):Prop:=∃a:List Rat,l=a.map b7∧(∀q∈a,0<=q)∧oJ a=1
def aez {a b:Rat} (h:LF a+LF b+1<=eV):sk (b7 a) (b7 b)=some (b7 (a+b)):=by
 unfold sk;rw[Ff h];rfl
def acI {l:List an} (B:l.length<=100) (C:∀f∈l,f.bL.aa.length<=6∧f.bQ.aa.length<=6):∃b,sC l=some b∧(b=true↔Co l):=by
 have D:eV=4398046511104:=rfl;have g:fY 0=some (b7 0):=Zn (n:=0) (by decide);unfold sC;rw[g,akZ];obtain⟨q,o,r⟩:=eE (body:=sn l)
  (fun i E=>∃c:List Rat,l.take i=c.map b7∧(∀q∈c,0<=q∧LF q<=6)∧E=((i:Int),(b7 (oJ c)).bL.ax,(b7 (oJ c)).bL.aa,(b7 (oJ c)).bQ.ax,(b7 (oJ c)).bQ.aa)) l.length
  (fun q=>(q=.inr false∧¬Co l)∨∃c:List Rat,l=c.map b7∧(∀q∈c,0<=q∧LF q<=6)∧q=.inl ((b7 (oJ c)).bL.ax,(b7 (oJ c)).bL.aa,(b7 (oJ c)).bQ.ax,(b7 (oJ c)).bQ.aa))
  (s:=(0,(b7 0).bL.ax,(b7 0).bL.aa,(b7 0).bQ.ax,(b7 0).bQ.aa)) ⟨[],rfl,fun q m=>by simp at m,rfl⟩ (ng (by omega)) (by
   rintro i _ O ⟨c,F,m,rfl⟩;simp only[sn];have G:c.length=i:=by
    have:=congrArg List.length F;grind
   by_cases e:i<l.length
   ·have A:l[i]? = some l[i]:=ajL e;have t:=C _ (ajK e);have u:l.take (i+1)=l.take i++[l[i]]:=alX e;have d:l[i]∈l:=ajK e;generalize l[i]=f at A t u d;rw[if_pos (by simpa using e),aT A,akZ,xE ⟨by unfold sM;omega,by unfold sM;omega⟩,akZ];cases j:okF f with
    | false =>
     right;refine⟨_,rfl,.inl ⟨rfl,?_⟩⟩;rintro⟨p,o,_,_⟩;rw[o]at d;obtain⟨q,_,rfl⟩:=ajy.1 d;rw[Hj]at j;cases j
    | true =>
     obtain⟨q,rfl⟩:=qI.1 j;have H:LF q<=6:=rS t.1 t.2;simp only[akP,aj4,if_false];rw[uE (by omega),akZ]
     by_cases hneg:q<0
     ·right;refine⟨_,by rw[if_pos (decide_eq_true (pt.2 hneg))],.inl ⟨rfl,?_⟩⟩;rintro⟨p,o,r,_⟩;rw[o]at d;obtain⟨I,v,w⟩:=ajy.1 d;have:=r I v;rw[wF w]at this;grind
     ·left;refine⟨e,?_⟩;have y:=UL (K:=6) (l:=c) fun x z=>(m x z).2;have J:sk (b7 (oJ c)) (b7 q)=some (b7 (oJ c+q)):=aez (by omega);rw[if_neg (by rw[decide_eq_true_eq];exact fun h=>hneg (pt.1 h)),ba (by omega)];refine⟨_,by erw [J];rfl,c++[q],?_,?_,?_⟩
      ·simp_all
      ·grind
      ·have:oJ (c++[q])=oJ c+q:=by rw[Sc];simp only[oJ];grind
       rw[this]
   grind)
 erw [o];rw[akZ];rcases r with⟨rfl,L⟩|⟨c,rfl,m,rfl⟩
 ·simp_all
 ·have k:fY 1=some (b7 1):=adv;simp only[aj0]at B;have y:=UL (K:=6) (l:=c) fun x z=>(m x z).2;have M:LF (1:Rat)<=1:=Ah (n:=1) (by decide);have N:jv (b7 (oJ c)) (b7 1)=some (OP (oJ c) 1):=Jf (by omega);simp only;rw[k,akZ];refine⟨_,by erw [N];rfl,?_⟩;rw[beq_iff_eq,Xu];constructor
  ·intro h;exact⟨c,rfl,fun q h=>(m q h).1,h⟩
  ·rintro⟨p,w,_,h⟩;rw[(List.map_inj_right fun a b=>wF).1 w];exact h
def Cr (f:fa) (i:Nat):List an:=f.aN.map fun l=>(l[i]?).getD (an.mk (aK.mk 0 ([])) (aK.mk 0 ([])))
structure Fi (f:fa):Prop where
 srcs:f.aw.length<=100
 outs:f.aF.length<=100
 rows:f.aN.length=f.aF.length
 out:∀x∈f.aF,0<=x.aY∧x.aY<=3∧0<=x.aR
 row:∀l∈f.aN,l.length=f.aw.length
 src:∀x∈f.aw,0<=x.aY∧x.aY<=2∧0<=x.aR
 col:∀i,i<f.aw.length->Co (Cr f i)
structure rJ (f:fa):Prop where
 srcs:f.aw.length<=5
 outs:f.aF.length<=5
 rows:f.aN.length<=8
 row:∀l∈f.aN,l.length<=8∧∀x∈l,x.bL.aa.length<=4∧x.bQ.aa.length<=4
def Z6 {f:fa} {i:Nat} (r:i<f.aw.length) (s:f.aN.length=f.aF.length) (a:∀l∈f.aN,l.length=f.aw.length) (t:f.aF.length<=100) :
  ∃c:List an,aS (iG f (i:Int)) ((0:Int),List.replicate f.aF.length (an.mk (aK.mk 0 ([])) (aK.mk 0 ([]))))=some c∧f.aN.map (fun l=>l[i]?)=c.map some:=by
 have key:=fun e b=>p9 (body:=iG f (i:Int)) f.aF (by omega)
  (fun k (c:List an)=>c.length=f.aF.length∧∀j,j<k->(f.aN.map (fun l=>l[i]?))[j]? = some c[j]?) (fun c=>f.aN.map (fun l=>l[i]?)=c.map some) (s0:=List.replicate f.aF.length (an.mk (aK.mk 0 ([])) (aK.mk 0 ([]))))
  ⟨by simp,fun j u=>by omega⟩ e b
 refine (key ?_ ?_)
 ·rintro k x c n ⟨d,o⟩;have p:=aP n;have g:f.aN[k]? = some (f.aN[k]'(by omega)):=ajL _;have q:=a _ (ajX g);generalize f.aN[k]'(by omega)=l at g q;have h:l[i]? = some (l[i]'(by omega)):=ajL _;have m:c[k]? = some (c[k]'(by omega)):=ajL _;refine⟨c.set k (l[i]'(by omega)),?_,?_,?_⟩;rotate_left
  ·simpa using d
  ·grind
  ·simp only[iG];rw[if_pos (by simpa using p),aT g,akZ,aT h,akZ,aT m,akZ,akp,ba (by omega)]
 ·rintro c ⟨d,o⟩;refine⟨_,by simp only[iG];rw[if_neg (by simp)],?_⟩;apply aly;grind
def afu {f:fa} {i:Nat} {c:List an} (h:f.aN.map (fun l=>l[i]?)=c.map some):c=Cr f i:=by
 have:=congrArg (List.map fun x:Option an=>x.getD (an.mk (aK.mk 0 ([])) (aK.mk 0 ([])))) h;rw[List.map_map,List.map_map]at this;have a:c.map ((fun x:Option an=>x.getD (an.mk (aK.mk 0 ([])) (aK.mk 0 ([])))) ∘ some)=c:=by
  rw[show ((fun x:Option an=>x.getD (an.mk (aK.mk 0 ([])) (aK.mk 0 ([])))) ∘ some)=id from rfl,List.map_id]
 rw[a]at this;exact this.symm
def Nk {f:fa} (v:rJ f):∃b,kS f=some b∧(b=true↔Fi f):=by
 open Classical in
 have D:=v.srcs;have E:=v.outs;unfold kS;rw[if_neg (by simp;omega),if_neg (by simp;omega),akZ]
 by_cases hr:f.aN.length=f.aF.length
 rotate_left
 ·rw[if_pos (by grind)];exact⟨false,rfl,by simp only[aj4,false_iff];exact fun h=>hr h.rows⟩
 rw[if_neg (by simp[hr])];rw[oA f.aF (fun i x=>if (0<=x.aY∧x.aY<=3)∧0<=x.aR∧(f.aN.getD i []).length=f.aw.length then none else some false) (by omega) (fun i x e =>?_) (by simp only[mv];simp_all)];rotate_left
 ·have u:=aP e;have w:f.aN[i]? = some (f.aN.getD i []):=by simp_all
  simp only[mv];rw[if_pos (by simpa using u),aT e,akZ,mH,akZ,ba (by omega)]
  by_cases g:0<=x.aY∧x.aY<=3
  ·rw[decide_eq_true g,if_neg (by simp)]
   by_cases a:x.aR<0
   ·grind
   ·rw[if_neg (by simpa using a),aT w,akZ];grind
  grind
 rw[akZ];cases o:eC (fun (i:Nat) (x:rU)=>if (0<=x.aY∧x.aY<=3)∧0<=x.aR∧(f.aN.getD i []).length=f.aw.length then none else some false) 0 f.aF with
 | some q =>
  obtain⟨j,x,g,a,_⟩:=da o;rw[akw]at a;have m:=aP g;split at a
  ·cases a
  ·rename_i d;cases a;refine⟨false,rfl,?_⟩;simp only[aj4,false_iff];intro p;have n:=p.out x (ajX g);have w:f.aN[j]? = some (f.aN.getD j []):=by simp_all
   exact d ⟨⟨n.1,n.2.1⟩,n.2.2,p.row _ (ajX w)⟩
 | none =>
  have r:∀(j:Nat) x,f.aF[j]? = some x->(0<=x.aY∧x.aY<=3)∧0<=x.aR∧(f.aN.getD j []).length=f.aw.length:=fun j x h=>by
   have:=cM.1 o j x h;simp_all
  have k:∀l∈f.aN,l.length=f.aw.length:=fun l z=>by
   obtain⟨j,m,rfl⟩:=alE z;have h:=(r j _ (ajL (by omega))).2.2;grind
  simp only;rw[oA f.aw (fun i x=>if (0<=x.aY∧x.aY<=2)∧0<=x.aR∧Co (Cr f i) then none else some false) (by omega) (fun i x e =>?_) (by simp only[mw];simp_all)];rotate_left
  ·have u:=aP e;obtain⟨c,B,C⟩:=Z6 u hr k (by omega);obtain rfl:=afu C;obtain⟨b,F,G⟩:=acI (l:=Cr f i) (by unfold Cr;grind) (fun y A=>by
    unfold Cr at A;obtain⟨l,z,rfl⟩:=ajy.1 A;have g:=(v.row l z).2;grind)
   simp only[mw];rw[if_pos (by simpa using u),aT e,akZ,Ee _ (by omega) (by omega),akZ,B,akZ,mH,akZ,ba (by omega)];grind
  rw[akZ];cases s:eC (fun (i:Nat) (x:ib)=>if (0<=x.aY∧x.aY<=2)∧0<=x.aR∧Co (Cr f i) then none else some false) 0 f.aw with
  | some q =>
   obtain⟨j,x,g,a,_⟩:=da s;rw[akw]at a;have m:=aP g;split at a
   ·cases a
   ·rename_i d;cases a;refine⟨false,rfl,?_⟩;simp only[aj4,false_iff];intro p;have n:=p.src x (ajX g);exact d ⟨⟨n.1,n.2.1⟩,n.2.2,p.col j m⟩
  | none =>
   have t:∀(j:Nat) x,f.aw[j]? = some x->(0<=x.aY∧x.aY<=2)∧0<=x.aR∧Co (Cr f j):=fun j x h=>by
    have:=cM.1 s j x h;simp_all
   refine⟨true,rfl,?_⟩;simp only[true_iff];exact⟨by omega,by omega,hr,fun x e=>by
    obtain⟨j,m⟩:=ajS e;grind,k,fun x e=>by
    obtain⟨j,m⟩:=ajS e;grind,fun j m=>(t j _ (ajL m)).2.2⟩
def vE (n:Nat):List Int:=(List.range n).map fun (i:Nat)=>(i:Int)
def Sl {n i:Nat} (h:i<n):(vE n)[i]? = some (i:Int):=dm (fun (i:Nat)=>(i:Int)) h
def Il (n:Nat):(vE n).length=n:=qq _
def Sm (n:Nat):(vE n).Pairwise (fun x y=>x<=y):=by
 unfold vE;rw[alA];exact (ak3 (n:=n)).imp fun h=>by omega
def H3 (l:List Int):(rN l).Perm l:=List.mergeSort_perm l _
def Nr (l:List Int):(rN l).Pairwise (fun x y=>x<=y):=by
 have:=List.pairwise_mergeSort (le:=fun x y:Int=>decide (x<=y)) (fun a b c d e=>by grind) (fun a b=>by grind) l;exact this.imp fun h=>by simpa using h
def YF:∀ {l m:List Int},l.Perm m->l.Pairwise (fun x y=>x<=y)->m.Pairwise (fun x y=>x<=y)->l=m:=fun e c d=>List.Perm.eq_of_pairwise (le:=fun x y:Int=>x<=y) (fun a b _ _ c d=>by omega) c d e
def He {l:List Int} (t:l.length<=100) (n:Nat):∃b,lL l (n:Int)=some b∧(b=true↔l.Perm (vE n)):=by
 unfold lL qK dn NN Fb;rw[akZ,if_pos (by omega),akZ];have p:=sD l;have a:l.Perm (vE n)↔rN l=vE n:=⟨fun h=>YF ((H3 l).trans h) (Nr l) (Sm n),fun h=>h ▸ (H3 l).symm⟩;rw[a];rw[oA (rN l) (fun i x=>if (i:Int)=x then none else some false) (by omega) (fun i x g =>?_) (by simp only[pf];simp_all)];rotate_left
 ·have r:=aP g;simp only[pf];rw[if_pos (by simpa using r),aT g,akZ,ba (by omega)];grind
 rw[akZ];cases k:eC (fun (i:Nat) (x:Int)=>if (i:Int)=x then none else some false) 0 (rN l) with
 | some q =>
  obtain⟨j,x,f,d,_⟩:=da k;rw[akw]at d;split at d
  ·cases d
  ·rename_i m;cases d;refine⟨false,rfl,?_⟩;simp only[aj4,false_iff];intro s;rw[s]at f;have e:=aP f;rw[Il]at e;rw[Sl e]at f;simp_all
 | none =>
  have c:∀(j:Nat) x,(rN l)[j]? = some x->(j:Int)=x:=fun j x h=>by
   have:=cM.1 k j x h;simp_all
  refine⟨_,rfl,?_⟩;rw[beq_iff_eq];constructor
  ·intro h;apply aly;intro j
   by_cases e:j<n
   ·have o:(rN l)[j]? = some ((rN l)[j]'(by omega)):=ajL _;rw[Sl e,o,<- c j _ o]
   ·rw[alW (by omega),alW (by rw[Il];omega)]
  ·intro h;rw[h,Il]
structure xj (m:bj) (ports:Nat):Prop where
 flow:Fi m.au
 takes:((m.au.aw.filter fun x=>x.aY==1).map (·.aR)).Perm (vE m.bc.length)
 gives:((m.au.aF.filter fun x=>x.aY==0).map (·.aR)).Perm (vE m.aA.length)
 uses:∀u∈m.bc,(0<=u.bJ∧u.bJ<ports)∧1<=u.aQ∧u.aQ<=1099511627776
 ports:∀p∈m.aA,0<=p∧p<(ports:Int)
def Sf {m:bj} (h:m.au.aw.length<=100):aS (ot m) ((0:Int),[])=some ((m.au.aw.filter fun x=>x.aY==1).map (·.aR)):=by
 have key:=fun b a=>p9 (body:=ot m) m.au.aw (by omega) (fun i (l:List Int)=>l=((m.au.aw.take i).filter fun x=>x.aY==1).map (·.aR)) (fun l=>l=(m.au.aw.filter fun x=>x.aY==1).map (·.aR)) (s0:=[]) rfl b a;refine (key ?_ ?_).elim fun x ⟨g,hx⟩=>hx ▸ g
 ·rintro i x _ hx rfl;have j:=aP hx;have c:m.au.aw.take (i+1)=m.au.aw.take i++[x]:=by
   obtain⟨d,k⟩:=ajZ.1 hx;rw[alX d,k]
  have e:=alZ (fun x:ib=>x.aY==1) (m.au.aw.take i);rw[ajP]at e;refine⟨_,?_,rfl⟩;simp only[ot];rw[if_pos (by simpa using j),aT hx,akZ,ba (by omega),c,al0]
  by_cases f:x.aY=1
  ·rw[if_pos (by simpa using f),Fv (by grind),akZ,al1 (by simpa using f),akR];rfl
  simp_all
 ·rintro _ rfl;refine⟨_,?_,rfl⟩;simp only[ot];simp_all
def PY {m:bj} (h:m.au.aF.length<=100):aS (ou m) ((0:Int),[])=some ((m.au.aF.filter fun x=>x.aY==0).map (·.aR)):=by
 have key:=fun b a=>p9 (body:=ou m) m.au.aF (by omega) (fun i (l:List Int)=>l=((m.au.aF.take i).filter fun x=>x.aY==0).map (·.aR)) (fun l=>l=(m.au.aF.filter fun x=>x.aY==0).map (·.aR)) (s0:=[]) rfl b a;refine (key ?_ ?_).elim fun x ⟨g,hx⟩=>hx ▸ g
 ·rintro i x _ hx rfl;have j:=aP hx;have c:m.au.aF.take (i+1)=m.au.aF.take i++[x]:=by
   obtain⟨d,k⟩:=ajZ.1 hx;rw[alX d,k]
  have e:=alZ (fun x:rU=>x.aY==0) (m.au.aF.take i);rw[ajP]at e;refine⟨_,?_,rfl⟩;simp only[ou];rw[if_pos (by simpa using j),aT hx,akZ,ba (by omega),c,al0]
  by_cases f:x.aY=0
  ·rw[if_pos (by simpa using f),Fv (by grind),akZ,al1 (by simpa using f),akR];rfl
  simp_all
 ·rintro _ rfl;refine⟨_,?_,rfl⟩;simp only[ou];simp_all
def afS (u:gC) {a:Nat} (d:a<=2000):∃b,ql u (a:Int)=some b∧(b=false↔(0<=u.bJ∧u.bJ<a)∧1<=u.aQ∧u.aQ<=1099511627776):=by
 unfold ql;rw[mH,akZ,mG (by omega)]
 by_cases c:0<=u.bJ∧u.bJ<=(a:Int)-1
 ·rw[decide_eq_true c,if_neg (by simp),mH,akZ];grind
 ·rw[decide_eq_false c,if_pos (by simp)];grind
def afD (p:Int) {a:Nat} (c:a<=2000):∃b,qm p (a:Int)=some b∧(b=false↔0<=p∧p<a):=by
 unfold qm;rw[mH,akZ,mG (by omega)];grind
def adM {l:List gC} (r:l.length<=100) {a:Nat} (g:a<=2000):∃b,ct l (a:Int)=some b∧(b=false↔∀u∈l,(0<=u.bJ∧u.bJ<a)∧1<=u.aQ∧u.aQ<=1099511627776):=by
 unfold ct dp;rw[oA l (fun i u=>if (0<=u.bJ∧u.bJ<a)∧1<=u.aQ∧u.aQ<=1099511627776 then none else some (i:Int)) (by omega) (fun i x e =>?_) (by simp only[dK];rw[if_neg (by simp)])];rotate_left
 ·have k:=aP e;obtain⟨b,m,c⟩:=afS x g;simp only[dK];rw[if_pos (by simpa using k),aT e,akZ,m,akZ,ba (by omega)];cases b with
  | false=>rw[if_pos (c.1 rfl)];rfl
  | true =>
   simp only[al9,false_iff]at c;simp only[if_true];rw[if_neg c]
 cases f:eC (fun (i:Nat) (u:gC)=>if (0<=u.bJ∧u.bJ<a)∧1<=u.aQ∧u.aQ<=1099511627776 then none else some (i:Int)) 0 l with
 | none =>
  refine⟨false,rfl,?_⟩;simp only[true_iff];intro u n;obtain⟨j,o⟩:=ajS n;have:=cM.1 f j u o;split at this
  ·assumption
  ·cases this
 | some q =>
  obtain⟨j,x,p,d,_⟩:=da f;split at d
  ·cases d
  ·rename_i hbad;cases d;refine⟨true,by simp,?_⟩;simp only[al9,false_iff];exact fun h=>hbad (h x (ajX p))
def ado {l:List Int} (s:l.length<=100) {a:Nat} (g:a<=2000):∃b,cu l (a:Int)=some b∧(b=false↔∀p∈l,0<=p∧p<(a:Int)):=by
 unfold cu dq;rw[oA l (fun i p=>if 0<=p∧p<(a:Int) then none else some (i:Int)) (by omega) (fun i x e =>?_) (by simp only[dL];rw[if_neg (by simp)])];rotate_left
 ·have k:=aP e;obtain⟨b,m,c⟩:=afD x g;simp only[dL];rw[if_pos (by simpa using k),aT e,akZ,m,akZ,ba (by omega)];cases b with
  | false=>rw[if_pos (c.1 rfl)];rfl
  | true =>
   simp only[al9,false_iff]at c;simp only[if_true];rw[if_neg c]
 cases f:eC (fun (i:Nat) (p:Int)=>if 0<=p∧p<(a:Int) then none else some (i:Int)) 0 l with
 | none =>
  refine⟨false,rfl,?_⟩;simp only[true_iff];intro u n;obtain⟨j,o⟩:=ajS n;have:=cM.1 f j u o;split at this
  ·assumption
  ·cases this
 | some q =>
  obtain⟨j,x,r,d,_⟩:=da f;split at d
  ·cases d
  ·rename_i hbad;cases d;refine⟨true,by simp,?_⟩;simp only[al9,false_iff];exact fun h=>hbad (h x (ajX r))
def adp {m:bj} {ports:Nat} (c:ports<=2000) (a:rJ m.au) (A:m.bc.length<=6) (j:m.aA.length<=6):∃b,vt m (ports:Int)=some b∧(b=true↔xj m ports):=by
 have B:=a.srcs;have C:=a.outs;obtain⟨k,n,d⟩:=Nk a;unfold vt;rw[n,akZ];cases k with
 | false=>exact⟨false,rfl,by simp only[aj4,false_iff];exact fun h=>by have:=d.2 h.flow;cases this⟩
 | true =>
 have o:=d.1 rfl;have p:=alZ (fun x:ib=>x.aY==1) m.au.aw;have q:=alZ (fun x:rU=>x.aY==0) m.au.aF;obtain⟨r,s,e⟩:=He (l:=(m.au.aw.filter fun x=>x.aY==1).map (·.aR)) (by grind) m.bc.length;obtain⟨t,u,f⟩:=He (l:=(m.au.aF.filter fun x=>x.aY==0).map (·.aR)) (by grind) m.aA.length;obtain⟨v,w,g⟩:=adM (l:=m.bc) (by omega) c;obtain⟨y,z,i⟩:=ado (l:=m.aA) (by omega) c;simp only[akP,aj4,if_false];rw[Sf (by omega),akZ,PY (by omega),akZ,s,akZ];cases r with
 | false=>exact⟨false,rfl,by simp only[aj4,false_iff];exact fun h=>by have:=e.2 h.takes;cases this⟩
 | true =>
 simp only[if_true];rw[u,akZ];cases t with
 | false=>exact⟨false,rfl,by simp only[aj4,false_iff];exact fun h=>by have:=f.2 h.gives;cases this⟩
 | true =>
 simp only[if_true];rw[w,akZ];cases v with
 | true=>exact⟨false,rfl,by simp only[aj4,false_iff];exact fun h=>by have:=g.2 h.uses;cases this⟩
 | false =>
 simp only[Bool.not_false,if_true];rw[z,akZ];refine⟨_,rfl,?_⟩;cases y with
 | true=>simp only[akP,aj4,false_iff];exact fun h=>by have:=i.2 h.ports;cases this
 | false=>simp only[Bool.not_false,true_iff];exact⟨o,e.1 rfl,f.1 rfl,g.1 rfl,i.1 rfl⟩
def afF {l:List an} (f:l.length<=8):(aS (fh l) 0=some (.inl ())∧∀x∈l,x.bL.aa.length<=4∧x.bQ.aa.length<=4)∨aS (fh l) 0=some (.inr false):=by
 have b:=oA l (body:=fh l) (fun (i:Nat) (x:an)=>if (x.bL.aa.length:Int)<=4∧(x.bQ.aa.length:Int)<=4 then none else some false) (by omega) (fun i x a=>by
  have d:=aP a;simp only[fh];rw[if_pos (by simpa using d),aT a,akZ,afE,akZ,ba (by omega)];grind) (by simp only[fh];simp_all)
 rw[b];cases c:eC (fun (i:Nat) (x:an)=>if (x.bL.aa.length:Int)<=4∧(x.bQ.aa.length:Int)<=4 then none else some false) 0 l with
 | none =>
  refine .inl ⟨rfl,fun x a =>?_⟩;obtain⟨j,e⟩:=ajS a;have:=cM.1 c j x e;grind
 | some q =>
  obtain⟨j,x,_,g,_⟩:=da c;simp_all
def XO (f:fa):∃b,lO f=some b∧(b=true->rJ f):=by
 unfold lO
 by_cases n:f.aw.length<=5
 rotate_left
 ·exact⟨false,by grind,fun h=>by cases h⟩
 by_cases k:f.aF.length<=5
 rotate_left
 ·exact⟨false,by grind,fun h=>by cases h⟩
 by_cases o:f.aN.length<=8
 rotate_left
 ·exact⟨false,by grind,fun h=>by cases h⟩
 rw[if_neg (by simp;omega),if_neg (by simp;omega),decide_eq_false (by omega),akZ,if_neg (by simp)]
 open Classical in
 rw[oA f.aN (fun i l=>if l.length<=8∧∀x∈l,x.bL.aa.length<=4∧x.bQ.aa.length<=4 then none else some false) (by omega) (fun i l c =>?_) (by simp only[pq];simp_all)];rotate_left
 ·have d:=aP c;simp only[pq];rw[if_pos (by simpa using d),aT c,akZ,ba (by omega)]
  by_cases h:l.length<=8
  ·rw[if_neg (by simp;omega)];rcases afF h with⟨e,v⟩|e
   ·simp_all
   ·rw[e]
    by_cases p:∀x∈l,x.bL.aa.length<=4∧x.bQ.aa.length<=4
    ·exfalso;have g:=oA l (body:=fh l) (fun (i:Nat) (x:an)=>(none:Option Bool)) (by omega) (fun i x c=>by
      have d:=aP c;have:=p x (ajX c);simp only[fh];rw[if_pos (by simpa using d),aT c,akZ,afE,akZ,ba (by omega),decide_eq_true (by omega),if_neg (by simp)]) (by simp only[fh];simp_all)
     rw[e]at g;have r:∀(l:List an) i,eC (fun _ _=>(none:Option Bool)) i l=none:=by
      intro l
      induction l with
      | nil=>intro i;rfl
      | cons a l s=>intro i;simp only[eC];exact s _
     simp_all
    grind
  grind
 rw[akZ];cases m:eC (fun (i:Nat) (l:List an)=>if l.length<=8∧∀x∈l,x.bL.aa.length<=4∧x.bQ.aa.length<=4 then none else some false) 0 f.aN with
 | none =>
  refine⟨true,rfl,fun _=>⟨n,k,o,fun l t =>?_⟩⟩;obtain⟨j,u⟩:=ajS t;have:=cM.1 m j l u;simp_all
 | some q =>
  obtain⟨j,x,_,k,_⟩:=da m;simp_all
structure lX (w:aX):Prop where
 given:w.al.length<=6
 mills:w.ah.length<=5
 mill:∀m∈w.ah,rJ m.au∧m.bc.length<=6∧m.aA.length<=6
def aaL (w:aX):∃b,zm w=some b∧(b=true->lX w):=by
 unfold zm
 by_cases f:w.al.length<=6
 rotate_left
 ·exact⟨false,by grind,fun h=>by cases h⟩
 by_cases c:w.ah.length<=5
 rotate_left
 ·exact⟨false,by grind,fun h=>by cases h⟩
 rw[if_neg (by simp;omega),decide_eq_false (by omega),akZ,if_neg (by simp)];have a:∀m:bj,∃b,lO m.au=some b∧(b=true->rJ m.au):=fun m=>XO m.au;obtain⟨B,a⟩:=Classical.axiomOfChoice a;rw[oA w.ah (fun i m=>if B m=true∧m.bc.length<=6∧m.aA.length<=6 then none else some false) (by omega) (fun i m d =>?_) (by simp only[wJ];simp_all)];rotate_left
 ·have g:=aP d;simp only[wJ];rw[if_pos (by simpa using g),aT d,akZ,(a m).1,akZ,ba (by omega)];grind
 rw[akZ];cases e:eC (fun (i:Nat) (m:bj)=>if B m=true∧m.bc.length<=6∧m.aA.length<=6 then none else some false) 0 w.ah with
 | none =>
  refine⟨true,rfl,fun _=>⟨f,c,fun m k =>?_⟩⟩;obtain⟨j,l⟩:=ajS k;have:=cM.1 e j m l;simp_all
 | some q =>
  obtain⟨j,x,_,c,_⟩:=da e;simp_all
def adl (w:aX):Option (Int×Int):=eC (fun (i:Nat) (n:Int)=>if 1<=n∧n<=1099511627776 then none else some ((3:Int),(i:Int))) 0 w.al
def TE {w:aX} (h:w.al.length<=2000):aS (mh w) 0=some (match adl w with|none =>.inl ()|some r =>.inr r):=by
 refine Eq.trans (oA w.al (body:=mh w) (fun (i:Nat) (n:Int)=>if 1<=n∧n<=1099511627776 then none else some ((3:Int),(i:Int))) (by omega) (fun i x a =>?_) ?_) ?_
 ·have b:=aP a;simp only[mh];rw[if_pos (by simpa using b),aT a,akZ,mH,akZ,ba (by omega)];grind
 ·simp only[mh];simp_all
 ·unfold adl;grind
def Un {m:bj} {N:Nat} (v:N<=2000) (w:m.aA.length<=6) (g:∀p∈m.aA,0<=p∧p<(N:Int)) (t:Nat->Int) (h:∀q,q<N->0<=t q∧t q<=1000000) :
  aS (mi m) ((0:Int),(List.range N).map t)=some ((List.range N).map fun q=>t q+(m.aA.count (q:Int):Int)):=by
 have key:=fun b a=>p9 (body:=mi m) m.aA (by omega) (fun i (l:List Int)=>l=(List.range N).map fun q=>t q+((m.aA.take i).count (q:Int):Int)) (fun l=>l=(List.range N).map fun q=>t q+(m.aA.count (q:Int):Int)) (s0:=(List.range N).map t)
  (akX fun q _=>by simp) b a
 refine (key ?_ ?_).elim fun x ⟨e,hx⟩=>hx ▸ e
 ·rintro i p _ hx rfl;have n:=aP hx;obtain⟨e,y⟩:=g p (ajX hx);obtain⟨k,rfl⟩:∃k:Nat,p=k:=⟨p.toNat,by omega⟩;have f:k<N:=by omega
  have o:∀q:Nat,(m.aA.take i).count (q:Int)<=6:=fun q=>ajB (List.count_le_length ..) (by grind);have r:=o k;have c:m.aA.take (i+1)=m.aA.take i++[(k:Int)]:=by
   obtain⟨d,s⟩:=ajZ.1 hx;rw[alX d,s]
  have z:=h k f;refine⟨_,?_,rfl⟩;simp only[mi];rw[if_pos (by simpa using n),aT hx,akZ,aT (dm _ f),akZ,akp,gE,ba (by omega),mG (by omega),c];have:(fun j=>if j=k then t k+((m.aA.take i).count (k:Int):Int)+1 else t j+((m.aA.take i).count (j:Int):Int))=fun q=>t q+((m.aA.take i++[(k:Int)]).count (q:Int):Int):=funext fun q=>by
   rw[List.count_append]
   by_cases u:q=k
   ·grind
   ·rw[if_neg u,List.count_cons_of_ne (by omega)];simp
  rw[this]
 ·rintro _ rfl;refine⟨_,?_,rfl⟩;simp only[mi];simp_all
def Jc (q:Nat) (x:Int) (u:gC):Int:=if u.bJ=(q:Int) then (if 1099511627777<x+u.aQ then 1099511627777 else x+u.aQ) else x
def pB (q:Nat) (l:List gC) (x:Int):Int:=l.foldl (Jc q) x
def Im {q:Nat} {x:Int} {u:gC} (a:0<=x∧x<=1099511627777) (b:1<=u.aQ∧u.aQ<=1099511627776):0<=Jc q x u∧Jc q x u<=1099511627777:=by
 unfold Jc;omega
def uB {q:Nat} : ∀ {l:List gC} {x:Int},(0<=x∧x<=1099511627777)->(∀u∈l,1<=u.aQ∧u.aQ<=1099511627776)->0<=pB q l x∧pB q l x<=1099511627777
 | [],_,hx,_=>hx
 | u::l,x,hx,h=>uB (l:=l) (x:=Jc q x u) (Im hx (h u (akU ..))) fun v a=>h v (akV _ a)
def YX {m:bj} {N:Nat} (w:N<=2000) (y:m.bc.length<=6) (f:∀u∈m.bc,(0<=u.bJ∧u.bJ<(N:Int))∧1<=u.aQ∧u.aQ<=1099511627776) (t:Nat->Int) (o:∀q,q<N->0<=t q∧t q<=1099511627777) :
  aS (mj m) ((0:Int),(List.range N).map t)=some ((List.range N).map fun q=>pB q m.bc (t q)):=by
 have key:=fun c a=>p9 (body:=mj m) m.bc (by omega) (fun i (l:List Int)=>l=(List.range N).map fun q=>pB q (m.bc.take i) (t q)) (fun l=>l=(List.range N).map fun q=>pB q m.bc (t q)) (s0:=(List.range N).map t)
  (akX fun q _=>by simp[pB]) c a
 refine (key ?_ ?_).elim fun x ⟨g,hx⟩=>hx ▸ g
 ·rintro i u _ hx rfl;have p:=aP hx;obtain⟨⟨g,z⟩,A⟩:=f u (ajX hx);obtain⟨k,b⟩:∃k:Nat,u.bJ=k:=⟨u.bJ.toNat,by omega⟩;have h:k<N:=by omega
  have d:m.bc.take (i+1)=m.bc.take i++[u]:=by
   obtain⟨e,r⟩:=ajZ.1 hx;rw[alX e,r]
  have B:=uB (q:=k) (l:=m.bc.take i) (o k h) fun v s=>(f v (akb s)).2;refine⟨_,?_,rfl⟩;simp only[mj];rw[if_pos (by simpa using p),aT hx,akZ,b,aT (dm _ h),akZ,akp,gE,ba (by omega),mG (by omega),d];have:(fun j=>if j=k then (if 1099511627777<pB k (m.bc.take i) (t k)+u.aQ then 1099511627777 else pB k (m.bc.take i) (t k)+u.aQ) else pB j (m.bc.take i) (t j))=fun q=>pB q (m.bc.take i++[u]) (t q):=funext fun q=>by
   unfold pB;rw[List.foldl_append];simp only[List.foldl_cons,List.foldl_nil]
   by_cases n:q=k
   ·subst n;rw[if_pos rfl]
    conv=>rhs;rw[Jc]
    rw[if_pos b]
   ·rw[if_neg n]
    conv=>rhs;rw[Jc]
    omega
  rw[this]
 ·rintro _ rfl;refine⟨_,?_,rfl⟩;simp only[mj];simp_all
def Kq {α ρ:Type} {st:Nat->α->Option ρ} {r:ρ} : ∀ {l:List α} {k i:Nat} {x:α},l[i]? = some x->st (k+i) x=some r->(∀j y,j<i->l[j]? = some y->st (k+j) y=none)->eC st k l=some r
 | [],_,_,_,h,_,_=>by simp at h
 | a::l,k,0,x,h,hs,_=>by
  simp only[List.getElem?_cons_zero,ajH]at h;subst h;rw[aj5]at hs;simp only[eC,hs]
 | a::l,k,i+1,x,h,hs,c=>by
  have b:=c 0 a (by omega) rfl;rw[aj5]at b;simp only[eC,b];refine Kq (k:=k+1) (i:=i) (x:=x) (by simpa using h) (by grind) fun j y d e =>?_;grind
open Classical in
def Ti (N:Nat) (a:List bj):Option (Int×Int):=eC (fun (i:Nat) (m:bj)=>if xj m N then none else some ((1:Int),(i:Int))) 0 a
def EU (a:List bj) (q:Nat):Int:=a.foldl (fun x m=>x+(m.aA.count (q:Int):Int)) 0
def YV (a:List bj) (q:Nat):Int:=a.foldl (fun x m=>pB q m.bc x) 0
def TM {w:aX} (g:lX w) :
  (∃r,Ti w.al.length w.ah=some r∧aS (ku w) ((0:Int),List.replicate w.al.length 0,List.replicate w.al.length 0)=some (.inr r)) ∨
  (Ti w.al.length w.ah=none∧(∀m∈w.ah,xj m w.al.length)∧aS (ku w) ((0:Int),List.replicate w.al.length 0,List.replicate w.al.length 0)=some (.inl ((List.range w.al.length).map (EU w.ah),(List.range w.al.length).map (YV w.ah)))):=by
 have E:=g.given;have n:=g.mills;have f:List.replicate w.al.length (0:Int)=(List.range w.al.length).map fun _=>0:=gh (by simp) fun j t=>by simp_all
 obtain⟨q,F,G⟩:=eE (body:=ku w)
  (fun i st=>st=((i:Int),(List.range w.al.length).map (EU (w.ah.take i)),(List.range w.al.length).map (YV (w.ah.take i)))∧(∀m∈w.ah.take i,xj m w.al.length)∧∀q,(0<=EU (w.ah.take i) q∧EU (w.ah.take i) q<=6*i)∧0<=YV (w.ah.take i) q∧YV (w.ah.take i) q<=1099511627777) w.ah.length
  (fun q=>(∃r,Ti w.al.length w.ah=some r∧q=.inr r)∨(Ti w.al.length w.ah=none∧(∀m∈w.ah,xj m w.al.length)∧q=.inl ((List.range w.al.length).map (EU w.ah),(List.range w.al.length).map (YV w.ah))))
  (s:=((0:Int),List.replicate w.al.length 0,List.replicate w.al.length 0)) ⟨by rw[f];rfl,fun m n=>by simp at n,fun q=>by simp[EU,YV]⟩ (ng (by omega)) (by
   rintro i _ H ⟨rfl,a,h⟩
   by_cases c:i<w.ah.length
   ·have d:w.ah[i]? = some w.ah[i]:=ajL c;have e:w.ah.take (i+1)=w.ah.take i++[w.ah[i]]:=alX c;generalize w.ah[i]=m at d e;obtain⟨v,o,k⟩:=g.mill m (ajX d);obtain⟨b,z,A⟩:=adp (m:=m) (ports:=w.al.length) (by omega) v o k;simp only[ku];rw[if_pos (by simpa using c),aT d,akZ,z,akZ];cases b with
    | false =>
     right;refine⟨_,rfl,.inl ⟨_,?_,rfl⟩⟩;unfold Ti;refine Kq (i:=i) (x:=m) d ?_ fun j y t p =>?_
     ·simp_all
     ·rw[if_pos (a y (ajX (i:=j) (by grind)))]
    | true =>
     have l:=A.1 rfl;left;refine⟨c,?_⟩;have B:∀q,EU (w.ah.take (i+1)) q=EU (w.ah.take i) q+(m.aA.count (q:Int):Int):=fun q=>by rw[e];unfold EU;simp_all
     have C:∀q,YV (w.ah.take (i+1)) q=pB q m.bc (YV (w.ah.take i) q):=fun q=>by rw[e];unfold YV;simp_all
     simp only[akP,aj4,if_false];rw[Un (by omega) k l.ports _ (fun q _=>by grind),akZ,YX (by omega) o l.uses _ (fun q _=>(h q).2),akZ,ba (by omega)];refine⟨_,rfl,?_,fun y p =>?_,fun q =>?_⟩
     ·simp_all
     ·grind
     ·have I:m.aA.count (q:Int)<=6:=ajB (List.count_le_length ..) k;have J:=(h q).1;rw[B,C];exact⟨by omega,uB (h q).2 fun u D=>(l.uses u D).2⟩
   ·right;have:i=w.ah.length:=by omega
    subst this;rw[alx]at a ⊢;refine⟨_,by simp only[ku];simp_all,.inr ⟨?_,a,rfl⟩⟩;unfold Ti;refine cM.2 fun j y p =>?_;grind)
 simp_all
def adm (l:List Int):Option (Int×Int):=eC (fun (i:Nat) (x:Int)=>if x=0 then some ((21:Int),(i:Int)) else if 1<x then some (5,(i:Int)) else none) 0 l
def afC (w:aX) (l:List Int):Option (Int×Int):=eC (fun (i:Nat) (x:Int)=>if w.al.getD i 0<x then some ((25:Int),(i:Int)) else none) 0 l
def Uo {l:List Int} (h:l.length<=2000):aS (ml l) 0=some (match adm l with|none =>.inl ()|some r =>.inr r):=by
 refine Eq.trans (oA l (body:=ml l) (fun (i:Nat) (x:Int)=>if x=0 then some ((21:Int),(i:Int)) else if 1<x then some (5,(i:Int)) else none) (by omega) (fun i x a =>?_) ?_) ?_
 ·have b:=aP a;simp only[ml];rw[if_pos (by simpa using b),aT a,akZ,ba (by omega)];grind
 ·simp only[ml];simp_all
 ·unfold adm;grind
def YY {w:aX} {l:List Int} (h:l.length<=2000) (d:l.length=w.al.length):aS (mm w l) 0=some (match afC w l with|none =>.inl ()|some r =>.inr r):=by
 refine Eq.trans (oA l (body:=mm w l) (fun (i:Nat) (x:Int)=>if w.al.getD i 0<x then some ((25:Int),(i:Int)) else none) (by omega) (fun i x a =>?_) ?_) ?_
 ·have b:=aP a;have c:w.al[i]? = some (w.al.getD i 0):=by simp_all
  simp only[mm];rw[if_pos (by simpa using b),aT a,akZ,aT c,akZ,ba (by omega)];grind
 ·simp only[mm];simp_all
 ·unfold afC;grind
def zG (w:aX):Option (Int×Int):=(((adl w).or (Ti w.al.length w.ah)).or (adm ((List.range w.al.length).map (EU w.ah)))).or (afC w ((List.range w.al.length).map (YV w.ah)))
def sV {w:aX} (a:lX w):oo w=some ((zG w).getD (0,0)):=by
 have d:=a.given;have e:=a.mills;unfold oo zG;rw[if_neg (by simp;omega),decide_eq_false (by omega),akZ,if_neg (by simp),TE (by omega),akZ];cases adl w with
 | some r=>rfl
 | none =>
 simp only[Option.none_or];rw[Ee _ (by omega) (by omega),akZ];rcases TM a with⟨r,b,c⟩|⟨b,_,c⟩
 ·rw[c,b];rfl
 rw[c,b,akZ];simp only[Option.none_or];rw[Uo (by simp;omega),akZ];cases adm ((List.range w.al.length).map (EU w.ah)) with
 | some r=>rfl
 | none =>
 simp only[Option.none_or];rw[YY (by simp;omega) (by simp),akZ];grind
section
variable {κ α:Type} [DecidableEq κ]
def tn {n:κ} : ∀ {m:List (κ×α)},pG m n=true↔n∈m.map (·.1)
 | []=>by simp[pG]
 | (k,v)::m=>by
  simp only[pG,ajE,ajF]
  by_cases h:k=n
  ·subst h;simp
  ·have:=tn (n:=n) (m:=m);grind
def Dd {n:κ} {x:α} : ∀ {m:List (κ×α)},(tD m n x).map (·.1)=if pG m n=true then m.map (·.1) else m.map (·.1)++[n]
 | []=>by simp[tD,pG]
 | (k,v)::m=>by
  have a:=Dd (n:=n) (x:=x) (m:=m);simp only[tD,pG];grind
def TY {n:κ} {x:α} {m:List (κ×α)} (h:(m.map (·.1)).Nodup):((tD m n x).map (·.1)).Nodup:=by
 rw[Dd];split
 ·exact h
 ·rename_i hn;have hn:n∉m.map (·.1):=fun a=>hn (tn.2 a);grind
def Lf {z x:α} {n k:κ} : ∀ {m:List (κ×α)},gI z (tD m n x) k=if k=n then x else gI z m k
 | []=>by
  simp only[tD,gI];grind
 | (a,v)::m=>by
  have b:=Lf (z:=z) (x:=x) (n:=n) (k:=k) (m:=m);simp only[tD]
  by_cases h:a=n
  ·rw[if_pos h];simp only[gI];grind
  ·rw[if_neg h];simp only[gI];grind
def Qw {z:α} {k:κ} {v:α} : ∀ {m:List (κ×α)},(m.map (·.1)).Nodup->((k,v)∈m↔pG m k=true∧gI z m k=v)
 | [],_=>by simp[pG]
 | (a,x)::m,h=>by
  rw[ajE,List.nodup_cons]at h;have b:=Qw (z:=z) (k:=k) (v:=v) (m:=m) h.2;simp only[pG,gI,ajF,Prod.mk.injEq];grind
end
abbrev MQ:=List ((Int×Int)×Rat)
def lu (m:MQ):List ((Int×Int)×an):=m.map fun p=>(p.1,b7 p.2)
def G0 (m:MQ):(lu m).length=m.length:=aj0 ..
def Yh (m:MQ):(lu m).map (·.1)=m.map (·.1):=by unfold lu;simp_all
def QA (m:MQ) (k:Int×Int):pG (lu m) k=pG m k:=by
 induction m with
 | nil=>rfl
 | cons p m b =>
  obtain⟨a,v⟩:=p;rw[show lu ((a,v)::m)=(a,b7 v)::lu m from rfl];simp only[pG,b]
def Yi {z:an} {m:MQ} {k:Int×Int} (h:pG m k=true):gI z (lu m) k=b7 (gI 0 m k):=by
 induction m with
 | nil=>cases h
 | cons p m c =>
  obtain⟨a,v⟩:=p;show (if a=k then b7 v else gI z (lu m) k)=b7 (if a=k then v else gI 0 m k)
  by_cases b:a=k
  ·simp_all
  ·rw[if_neg b,if_neg b];exact c (by simpa [pG,b] using h)
def QB (m:MQ) (k:Int×Int) (q:Rat):tD (lu m) k (b7 q)=lu (tD m k q):=by
 induction m with
 | nil=>rfl
 | cons p m c =>
  obtain⟨a,v⟩:=p;show (if a=k then (a,b7 q)::lu m else (a,b7 v)::tD (lu m) k (b7 q))=lu (if a=k then (a,q)::m else (a,v)::tD m k q)
  by_cases b:a=k
  ·rw[if_pos b,if_pos b];rfl
  ·rw[if_neg b,if_neg b,c];rfl
def adB {m:MQ} {k:Int×Int} (h:pG m k=false):gI 0 m k=0:=by
 induction m with
 | nil=>rfl
 | cons p m b =>
  obtain⟨a,v⟩:=p;simp only[pG,Bool.or_eq_false_iff,beq_eq_false_iff_ne]at h;simp only[gI];simp_all
def lY (m:MQ) (c:(Int×Int)×Rat):MQ:=tD m c.1 (gI 0 m c.1+c.2)
def Xl (m:MQ) (c:(Int×Int)×Rat) (k:Int×Int):gI 0 (lY m c) k=gI 0 m k+(if k=c.1 then c.2 else 0):=by
 unfold lY;rw[Lf];grind
def wQ (k:Int×Int):List ((Int×Int)×Rat)->Rat
 | []=>0
 | c::l=>(if k=c.1 then c.2 else 0)+wQ k l
def Cx:∀(l:List ((Int×Int)×Rat)) (m:MQ) (k:Int×Int),gI 0 (l.foldl lY m) k=gI 0 m k+wQ k l
 | [],m,k=>by simp only[List.foldl_nil,wQ];grind
 | c::l,m,k=>by
  rw[ake,Cx l,Xl];simp only[wQ];grind
def Aq:∀(l:List ((Int×Int)×Rat)) (m:MQ),(m.map (·.1)).Nodup->((l.foldl lY m).map (·.1)).Nodup
 | [],_,h=>h
 | c::l,m,h=>Aq l (lY m c) (TY h)
def agI {p q:Int} (a : -9223372036854775808<=p∧p<9223372036854775808) (b : -9223372036854775808<=q∧q<9223372036854775808) (c:q≠0):ue p q=some (b7 (Rat.divInt p q),0):=by
 unfold ue;rw[UP a,akZ,UP b,akZ,Mc (Zt a) (Zt b) c,akZ]
open Classical in
def T1 (f:an):Rat:=if h:∃q,f=b7 q then Classical.choose h else 0
def zo (q:Rat):T1 (b7 q)=q:=by
 have h:∃p,b7 q=b7 p:=⟨q,rfl⟩;unfold T1;rw[dif_pos h];exact (wF (Classical.choose_spec h)).symm
def Cb (f:fa) (k i:Nat):Rat:=T1 ((f.aN.getD k []).getD i (an.mk (aK.mk 0 ([])) (aK.mk 0 ([]))))
def tJ {f:fa} (o:rJ f) (g:Fi f) {k i:Nat} (p:k<f.aF.length) (r:i<f.aw.length) :
  ∃a,f.aN[k]? = some a∧a[i]? = some (b7 (Cb f k i))∧0<=Cb f k i∧LF (Cb f k i)<=4:=by
 have d:k<f.aN.length:=by rw[g.rows];exact p
 have m:f.aN[k]? = some (f.aN[k]):=ajL d;have h:=ajK d;have s:f.aN.getD k []=f.aN[k]:=by simp_all
 have t:=g.row _ h;have n:=(o.row _ h).2;unfold Cb;rw[s];have b:(Cr f i)[k]? = some ((f.aN[k][i]?).getD (an.mk (aK.mk 0 ([])) (aK.mk 0 ([])))):=by
  unfold Cr;simp_all
 generalize f.aN[k]=a at m h t n b ⊢;have c:a[i]? = some (a[i]'(by omega)):=ajL _;have j:=n _ (ajX c);have l:a.getD i (an.mk (aK.mk 0 ([])) (aK.mk 0 ([])))=a[i]'(by omega):=by simp_all
 rw[c]at b;rw[l];obtain⟨w,u,x,_⟩:=g.col i r;rw[u]at b;rw[ajw]at b;obtain⟨q,v,e⟩:=ajx.1 b;simp only[Option.getD_some]at e;rw[<- e]at c j ⊢;refine⟨a,m,?_,?_,?_⟩
 ·rw[zo];exact c
 ·rw[zo];grind
 ·rw[zo];exact rS j.1 j.2
def Lw {f:fa} (m:rJ f) (b:Fi f) {i:Nat} (e:i<f.aw.length):oJ ((List.range f.aF.length).map fun k=>Cb f k i)=1:=by
 obtain⟨g,h,_,p⟩:=b.col i e;have:g=(List.range f.aF.length).map fun k=>Cb f k i:=by
  have a:g.length=f.aF.length:=by
   have:=congrArg List.length h;unfold Cr at this;simp only[aj0]at this;rw[<- b.rows];exact this.symm
  refine gh a fun j n =>?_;obtain⟨o,r,s,_,_⟩:=tJ m b n e;have l:(Cr f i)[j]? = some (b7 (Cb f j i)):=by
   unfold Cr;simp_all
  rw[h,ajw]at l;obtain⟨q,c,d⟩:=ajx.1 l;rw[c,wF d]
 simp_all
abbrev Cn:=(Int×Int)×Rat
def xH (m:bj) (i:Nat) (u:gC) (r:Rat) (k:Nat):List Cn :=
 match m.au.aF[k]? with
 | some y=>if y.aY=0∧Cb m.au k i≠0 then [((u.bJ,m.aA.getD y.aR.toNat 0),r*Cb m.au k i)] else []
 | none=>[]
def Ew (g:List Int) (u:gC):Rat:=Rat.divInt u.aQ (g.getD u.bJ.toNat 0)
def pJ (m:bj) (n:Int):gC:=m.bc.getD n.toNat (gC.mk 0 0)
def Bi (g:List Int) (m:bj) (i:Nat):List Cn :=
 match m.au.aw[i]? with
 | some x=>if x.aY=1 then (List.range m.au.aF.length).flatMap (xH m i (pJ m x.aR) (Ew g (pJ m x.aR))) else []
 | none=>[]
def od (g:List Int) (m:bj):List Cn:=(List.range m.au.aw.length).flatMap (Bi g m)
def sd (w:aX):List Cn:=w.ah.flatMap (od w.al)
def yZ:LF 0<=1:=Ah (n:=0) (by decide)
def Ma {K:Nat} {k:Int×Int} : ∀ {l:List Cn},(∀c∈l,LF c.2<=K)->LF (wQ k l)<=1+l.length*(K+1)
 | [],_=>by simp only[wQ];have:=yZ;simp;omega
 | c::l,h=>by
  have b:=Ma (k:=k) (l:=l) fun x a=>h x (akV _ a);have d:=h c (akU ..);simp only[wQ,List.length_cons];have e:=vS (if k=c.1 then c.2 else 0) (wQ k l);grind
def adQ {z:an} {M:MQ} {k:Int×Int} {v:Rat} {K:Nat} (h:LF (gI 0 M k)<=K) (c:LF v<=K) (d:K<=1000000000) :
  (pG (lu M) k=true->sk (gI z (lu M) k) (b7 v)=some (b7 (gI 0 M k+v))∧tD (lu M) k (b7 (gI 0 M k+v))=lu (lY M (k,v)))∧(pG (lu M) k=false->tD (lu M) k (b7 v)=lu (lY M (k,v))):=by
 have b:eV=4398046511104:=rfl;constructor
 ·intro a;rw[QA]at a;rw[Yi a,aez (by omega),QB];exact⟨rfl,rfl⟩
 ·intro a;rw[QA]at a;rw[QB];unfold lY;rw[adB a,show (0:Rat)+v=v by grind]
def GJ {m:bj} {N:Nat} (a:xj m N) {y:rU} (b:y∈m.au.aF) (c:y.aY=0):∃j:Nat,y.aR=j∧j<m.aA.length:=by
 have:y.aR∈vE m.aA.length:=a.gives.mem_iff.1 (ajy.2 ⟨y,ak0.2 ⟨b,by simpa using c⟩,rfl⟩);unfold vE at this;grind
def acx {m:bj} {N:Nat} (a:xj m N) {x:ib} (b:x∈m.au.aw) (c:x.aY=1):∃j:Nat,x.aR=j∧j<m.bc.length:=by
 have:x.aR∈vE m.bc.length:=a.takes.mem_iff.1 (ajy.2 ⟨x,ak0.2 ⟨b,by simpa using c⟩,rfl⟩);unfold vE at this;grind
structure Iy (n:Nat) (h:List Cn):Prop where
 len:h.length<=n
 sz:∀c∈h,LF c.2<=20
def Iy.look {n:Nat} {h:List Cn} (H:Iy n h) (k:Int×Int):LF (gI 0 (h.foldl lY []) k)<=1+n*21:=by
 rw[Cx,show gI 0 ([]:MQ) k=0 from rfl,show (0:Rat)+wQ k h=wQ k h by grind];have a:=Ma (k:=k) H.sz;have b:=H.len;omega
def Iy.app {n a:Nat} {h l:List Cn} (H:Iy n h) (e:l.length<=a) (b:∀c∈l,LF c.2<=20):Iy (n+a) (h++l) :=
 ⟨by rw[aky];have:=H.len;omega,fun c d=>(akT.1 d).elim (H.sz c) (b c)⟩
def Od (m:bj) (i:Nat) (u:gC) (r:Rat) (k:Nat):(xH m i u r k).length<=1:=by
 unfold xH;grind
def qS {α:Type} {f:Nat->List α} {b:Nat} (h:∀i,(f i).length<=b):∀n,((List.range n).flatMap f).length<=n*b
 | 0=>by simp
 | n+1=>by
  have:=qS h n;have a:=h n;rw[al5,List.flatMap_append,aky,ala];grind
def Ky {α:Type} {f:Nat->List α} (n:Nat):(List.range (n+1)).flatMap f=(List.range n).flatMap f++f n:=by
 rw[al5,List.flatMap_append];simp
def ac8 {m:bj} {i:Nat} {u:gC} {r:Rat} {k:Nat} (b:rJ m.au) (d:Fi m.au) (e:i<m.au.aw.length) (g:LF r<=10):∀c∈xH m i u r k,LF c.2<=20:=by
 intro c a;unfold xH at a;split at a
 ·rename_i y f;split at a
  ·rw[ajT.1 a];obtain⟨_,_,_,_,h⟩:=tJ b d (aP f) e;have:=vT r (Cb m.au k i);simp only;omega
  ·cases a
 ·cases a
def Wo {m:bj} {i:Nat} {u:gC} {r:Rat} {n:Nat} (a:rJ m.au) (b:Fi m.au) (d:i<m.au.aw.length) (e:LF r<=10):∀c∈(List.range n).flatMap (xH m i u r),LF c.2<=20:=by
 intro c f;obtain⟨k,_,g⟩:=akS.1 f;exact ac8 a b d e c g
def Yu {m:bj} {N i n:Nat} {u:gC} {r:Rat} {h:List Cn} (d:rJ m.au) (e:xj m N) (o:i<m.au.aw.length) (w:LF r<=10) (H:Iy n h) (L:n<=1000) :
  aS (iF m (i:Int) u (b7 r,0)) ((0:Int),lu (h.foldl lY []))=some (lu ((h++(List.range m.au.aF.length).flatMap (xH m i u r)).foldl lY [])):=by
 have y:eV=4398046511104:=rfl;have O:=d.outs;have key:=fun f b=>p9 (body:=iF m (i:Int) u (b7 r,0)) m.au.aF (by omega)
  (fun k (c:List ((Int×Int)×an))=>c=lu ((h++(List.range k).flatMap (xH m i u r)).foldl lY [])) (fun c=>c=lu ((h++(List.range m.au.aF.length).flatMap (xH m i u r)).foldl lY [])) (s0:=lu (h.foldl lY [])) (by simp) f b
 refine (key ?_ ?_).elim fun x ⟨A,hx⟩=>hx ▸ A
 ·rintro k x _ hx rfl;have p:=aP hx;have Q:=qS (fun k=>Od m i u r k) k;have q:=H.app (a:=k) (by omega) (Wo (u:=u) (n:=k) d e.flow o w);obtain⟨B,C,s,R,S⟩:=tJ d e.flow p o;rw[Ky,<- akJ];generalize h++(List.range k).flatMap (xH m i u r)=D at q;have g:=q.look;have E:xH m i u r k=if x.aY=0∧Cb m.au k i≠0 then [((u.bJ,m.aA.getD x.aR.toNat 0),r*Cb m.au k i)] else []:=by unfold xH;rw[hx]
  refine⟨_,?_,rfl⟩;simp only[iF];rw[if_pos (by simpa using p),aT hx,akZ,ba (by omega),E]
  by_cases l:x.aY=0
  ·rw[if_neg (by simp[l]),aT C,akZ,aT s,akZ,uE (by omega),akZ,akZ]
   by_cases F:Cb m.au k i=0
   ·simp_all
   ·obtain⟨j,G,T⟩:=GJ e (ajX hx) l;have t:m.aA[j]? = some (m.aA.getD x.aR.toNat 0):=by simp_all
    have I:=vT r (Cb m.au k i);rw[if_neg (by simp_all),if_pos ⟨l,F⟩];rw[show P.idx m.aA x.aR=some (m.aA.getD x.aR.toNat 0) by rw[G]at t ⊢;exact aT t];rw[akZ,akZ,aT s,akZ,UO (by omega),akZ];have J:=adQ (z:=an.mk (aK.mk 0 ([])) (aK.mk 0 ([]))) (M:=D.foldl lY []) (k:=(u.bJ,m.aA.getD x.aR.toNat 0)) (v:=r*Cb m.au k i) (K:=20+(n+k)*21) (ajB (g _) (by omega)) (by omega) (by omega);simp_all
  simp_all
 ·rintro _ rfl;refine⟨_,?_,rfl⟩;simp only[iF];simp_all
def Zs {x:Int} (a:1<=x) (b:x<=1099511627776):Ln x<=3:=N3 (by rw[mA,mA,mA,uu];omega)
def Ag (g:List Int):Prop:=∀x∈g,1<=x∧x<=1099511627776
def tl {g:List Int} (b:Ag g) {p:Int} (h:0<=p∧p<(g.length:Int)):∃j:Nat,p=j∧j<g.length∧g[j]? = some (g.getD p.toNat 0)∧1<=g.getD p.toNat 0∧g.getD p.toNat 0<=1099511627776:=by
 obtain⟨j,rfl⟩:∃j:Nat,p=j:=⟨p.toNat,by omega⟩;have c:j<g.length:=by omega
 have a:g[j]? = some (g.getD (j:Int).toNat 0):=by simp_all
 exact⟨j,rfl,c,a,b _ (ajX a)⟩
def A2 {m:bj} {N:Nat} (b:xj m N) {x:ib} (c:x∈m.au.aw) (d:x.aY=1):P.idx m.bc x.aR=some (pJ m x.aR)∧pJ m x.aR∈m.bc:=by
 obtain⟨j,e,f⟩:=acx b c d;have a:m.bc[j]? = some (pJ m x.aR):=by unfold pJ;simp_all
 exact⟨by rw[e]at a ⊢;exact aT a,ajX a⟩
def Mf {g:List Int} {m:bj} (b:Ag g) (c:xj m g.length) {u:gC} (d:u∈m.bc):LF (Ew g u)<=10∧0<Ew g u:=by
 obtain⟨e,a⟩:=c.uses u d;obtain⟨j,i,k,l,f,h⟩:=tl b e;have n:=Zs a.1 a.2;have o:=Zs f h;unfold Ew;have r:=u6 (p:=u.aQ) (q:=g.getD u.bJ.toNat 0) (by omega);refine⟨by omega,?_⟩;rw[ama,alR];exact Rat.mul_pos (by exact_mod_cast (show (0:Int)<u.aQ by omega)) (Rat.inv_pos.2 (by exact_mod_cast (show (0:Int)<g.getD u.bJ.toNat 0 by omega)))
def U9 {g:List Int} {m:bj} (e:Ag g) (b:rJ m.au) (a:xj m g.length) (i:Nat):(Bi g m i).length<=5∧∀c∈Bi g m i,LF c.2<=20:=by
 unfold Bi;split
 ·rename_i x d;split
  ·rename_i f;have h:=b.outs;have j:=qS (fun k=>Od m i (pJ m x.aR) (Ew g (pJ m x.aR)) k) m.au.aF.length;refine⟨by omega,Wo b a.flow (aP d) (Mf e a (A2 a (ajX d) f).2).1⟩
  simp_all
 simp_all
def WC {g:List Int} {m:bj} (a:Ag g) (b:rJ m.au) (d:xj m g.length) (n:Nat):((List.range n).flatMap (Bi g m)).length<=n*5∧∀c∈(List.range n).flatMap (Bi g m),LF c.2<=20:=by
 refine⟨qS (fun i=>(U9 a b d i).1) n,fun c e =>?_⟩;obtain⟨k,_,f⟩:=akS.1 e;exact (U9 a b d k).2 c f
def SX {g:List Int} {m:bj} {n:Nat} {h:List Cn} (o:Ag g) (p:rJ m.au) (b:xj m g.length) (H:Iy n h) (I:n<=900) :
  jL (lu (h.foldl lY [])) g m=some (lu ((h++od g m).foldl lY []),()):=by
 have A:eV=4398046511104:=rfl;have J:=p.srcs;have key:=fun q d=>p9 (body:=kd g m) m.au.aw (by omega)
  (fun k (c:List ((Int×Int)×an))=>c=lu ((h++(List.range k).flatMap (Bi g m)).foldl lY [])) (fun c=>c=lu ((h++od g m).foldl lY [])) (s0:=lu (h.foldl lY [])) (by simp) q d
 unfold jL;refine (key ?_ ?_).elim fun c t =>?_
 ·rintro i x _ l rfl;have v:=aP l;obtain⟨B,C⟩:=WC o p b i;have w:=H.app (a:=i*5) B C;rw[Ky,<- akJ];generalize h++(List.range i).flatMap (Bi g m)=K at w;have t:Bi g m i=if x.aY=1 then (List.range m.au.aF.length).flatMap (xH m i (pJ m x.aR) (Ew g (pJ m x.aR))) else []:=by unfold Bi;rw[l]
  refine⟨_,?_,rfl⟩;simp only[kd];rw[if_pos (by simpa using v),aT l,akZ,ba (by omega),t]
  by_cases s:x.aY=1
  ·obtain⟨D,y⟩:=A2 b (ajX l) s;have E:=Mf o b y;obtain⟨F,L⟩:=b.uses _ y;obtain⟨j,G,M,z,N,O⟩:=tl o F;have e:P.idx g (pJ m x.aR).bJ=some (g.getD (pJ m x.aR).bJ.toNat 0):=by
    rw[G]at z ⊢;exact aT z
   rw[if_neg (by simp[s]),D,akZ,e,akZ,agI (by omega) (by omega) (by omega),akZ,if_pos s];have f:=Yu (u:=pJ m x.aR) (r:=Ew g (pJ m x.aR)) p b v E.1 w (by omega);unfold Ew at f ⊢;erw [f];rfl
  simp_all
 ·rintro _ rfl;refine⟨_,?_,rfl⟩;simp only[kd];rw[if_neg (by simp)];rfl
 simp_all
def ZV {g:List Int} {m:bj} (b:Ag g) (a:rJ m.au) (d:xj m g.length):(od g m).length<=25∧∀c∈od g m,LF c.2<=20:=by
 have:=WC b a d m.au.aw.length;have e:=a.srcs;exact⟨by have:=this.1;unfold od;omega,this.2⟩
def ZC {m:MQ} {c:Cn} {k:Int×Int} : pG (lY m c) k=true↔pG m k=true∨c.1=k:=by
 unfold lY;rw[tn,Dd];split
 ·rename_i h;constructor
  ·exact fun b =>.inl (tn.2 b)
  ·rintro (b|rfl)
   ·exact tn.1 b
   ·exact tn.1 h
 ·rw[akT,ajT,eq_comm (a:=k),tn]
def PE:∀(l:List Cn) (m:MQ) (k:Int×Int),pG (l.foldl lY m) k=true↔pG m k=true∨∃c∈l,c.1=k
 | [],m,k=>by simp
 | c::l,m,k=>by
  rw[ake,PE l,ZC];grind
def yI {k:Int×Int} : ∀ {l:List Cn},(∀c∈l,0<c.2)->0<=wQ k l∧(0<wQ k l↔∃c∈l,c.1=k)
 | [],_=>⟨by simp only[wQ];grind,by simp only[wQ];simp⟩
 | c::l,h=>by
  obtain⟨b,d⟩:=yI (k:=k) (l:=l) fun x a=>h x (akV _ a);have e:=h c (akU ..);simp only[wQ,ajF,exists_eq_or_imp];grind
def kf (N:Nat) (S:Nat->Nat->Rat):List Tk:=(List.range N).flatMap fun a=>((List.range N).filter fun b=>decide (0<S a b)).map fun b=>(a,b,S a b)
def BY {N:Nat} {S:Nat->Nat->Rat} {t:Tk} : t∈kf N S↔t.1<N∧t.2.1<N∧0<S t.1 t.2.1∧t.2.2=S t.1 t.2.1:=by
 unfold kf;simp only[akS,ajy,ak0,ak2,decide_eq_true_eq];grind
def NJ (N:Nat) (S:Nat->Nat->Rat):(kf N S).Pairwise V4:=by
 unfold kf;rw[List.pairwise_flatMap];constructor
 ·intro a _;rw[alA];exact (List.Pairwise.filter _ (ak3 (n:=N))).imp fun h =>.inr ⟨rfl,h⟩
 ·refine (ak3 (n:=N)).imp fun {a b} h x c y d =>?_;obtain⟨_,_,rfl⟩:=ajy.1 c;obtain⟨_,_,rfl⟩:=ajy.1 d;exact .inl h
def Sg (N:Nat) (S:Nat->Nat->Rat):(kf N S).length<=N*N:=by
 unfold kf;refine qS (fun a =>?_) N;grind
def kJ (L:List Cn) (a b:Nat):Rat:=wQ ((a:Int),(b:Int)) L
structure Xh (N:Nat) (L:List Cn):Prop where
 pos:∀c∈L,0<c.2
 from_:∀c∈L,0<=c.1.1∧c.1.1<(N:Int)
 to_:∀c∈L,0<=c.1.2∧c.1.2<(N:Int)
def LU {N:Nat} {L:List Cn} (H:Xh N L) :
  rK (lq cA.dh cA.kF) ((lu (L.foldl lY [])).map fun q=>cA.mk q.1.1 q.1.2 q.2)=(kf N (kJ L)).map yy:=by
 have m:((L.foldl lY []).map (·.1)).Nodup:=Aq L [] (by simp);have w:((lu (L.foldl lY [])).map fun q=>cA.mk q.1.1 q.1.2 q.2)=(L.foldl lY []).map fun p=>cA.mk p.1.1 p.1.2 (b7 p.2):=by unfold lu;simp_all
 rw[w];have d:∀p:Cn,p∈L.foldl lY []↔(∃c∈L,c.1=p.1)∧wQ p.1 L=p.2:=by
  rintro⟨k,v⟩;rw[Qw (z:=0) m,PE,Cx];simp only[pG,gI,aj4,false_or];grind
 have f:((L.foldl lY []).map fun p:Cn=>cA.mk p.1.1 p.1.2 (b7 p.2)).Nodup:=by
  grind
 have g:((kf N (kJ L)).map yy).Nodup:=by
  unfold List.Nodup;rw[alA];refine (NJ N (kJ L)).imp fun {a b} h e =>?_;have:=Wb e;subst this;unfold V4 at h;omega
 have i:∀x,x∈((L.foldl lY []).map fun p:Cn=>cA.mk p.1.1 p.1.2 (b7 p.2))↔x∈(kf N (kJ L)).map yy:=by
  intro x;rw[ajy,ajy];constructor
  ·rintro⟨p,A,rfl⟩;obtain⟨j,l⟩:=(d p).1 A;obtain⟨c,n,s⟩:=j;have f1:=H.from_ c n;have f2:=H.to_ c n;rw[s]at f1 f2;have E:((p.1.1.toNat:Nat):Int)=p.1.1:=by omega
   have F:((p.1.2.toNat:Nat):Int)=p.1.2:=by omega
   have u:kJ L p.1.1.toNat p.1.2.toNat=p.2:=by unfold kJ;simp_all
   refine⟨(p.1.1.toNat,p.1.2.toNat,p.2),BY.2 ⟨by simp only;omega,by simp only;omega,?_,u.symm⟩,?_⟩
   ·simp only;rw[u,<- l];exact (yI H.pos).2.2 ⟨c,n,s⟩
   ·unfold yy;simp_all
  ·rintro⟨t,B,rfl⟩;obtain⟨j,l,C,D⟩:=BY.1 B;refine⟨(((t.1:Int),(t.2.1:Int)),t.2.2),(d _).2 ⟨(yI H.pos).2.1 C,D.symm⟩,rfl⟩
 refine qL (c:=lq cA.dh cA.kF) ((jJ _ _).trans ((List.perm_ext_iff_of_nodup f g).2 i)) ?_ (oZ (vC _ _) _) ?_
 ·intro x o y r j l;have o:=(jJ _ _).mem_iff.1 o;have r:=(jJ _ _).mem_iff.1 r;obtain⟨p,G,rfl⟩:=ajy.1 o;obtain⟨q,I,rfl⟩:=ajy.1 r;rw[yJ]at j l;grind
 ·rw[alA];refine (NJ N (kJ L)).imp fun {a b} h =>?_;rw[yJ];simp only[yy];unfold V4 at h;omega
def My {w:aX} {r:Int×Int} (h:zG w=some r):r.1≠0:=by
 unfold zG at h;simp only[Option.or_eq_some_iff]at h;rcases h with ((h|⟨_,h⟩)|⟨_,h⟩)|⟨_,h⟩
 ·obtain⟨j,x,_,a,_⟩:=da h;grind
 ·obtain⟨j,x,_,a,_⟩:=da h;grind
 ·obtain⟨j,x,_,a,_⟩:=da h;grind
 ·obtain⟨j,x,_,a,_⟩:=da h;grind
structure ia (w:aX):Prop where
 given:Ag w.al
 fit:∀m∈w.ah,xj m w.al.length
 once:∀q,q<w.al.length->EU w.ah q=1∨EU w.ah q<0
 used:∀q,q<w.al.length->YV w.ah q<=w.al.getD q 0
def BO {w:aX} (h:zG w=none):ia w:=by
 unfold zG at h;simp only[Option.or_eq_none_iff]at h;obtain⟨⟨⟨c,d⟩,e⟩,f⟩:=h;refine⟨fun x g =>?_,fun m i =>?_,fun q a =>?_,fun q a =>?_⟩
 ·obtain⟨j,b⟩:=ajS g;have:=cM.1 c j x b;simp_all
 ·obtain⟨j,b⟩:=ajS i;have:=cM.1 d j m b;simp_all
 ·have:=cM.1 e q _ (dm _ a);grind
 ·have:=cM.1 f q _ (dm _ a);simp_all
def afv {w:aX} (n:lX w) (d:ia w):Xh w.al.length (sd w):=by
 have key:∀c∈sd w,0<c.2∧(0<=c.1.1∧c.1.1<(w.al.length:Int))∧0<=c.1.2∧c.1.2<(w.al.length:Int):=by
  intro c a;unfold sd at a;obtain⟨m,e,a⟩:=akS.1 a;have o:=(n.mill m e).1;have b:=d.fit m e;unfold od at a;obtain⟨i,f,a⟩:=akS.1 a;rw[ak2]at f;unfold Bi at a;split at a
  ·rename_i x p;split at a
   ·rename_i q;obtain⟨k,g,a⟩:=akS.1 a;rw[ak2]at g;unfold xH at a;split at a
    ·rename_i y r;split at a
     ·rename_i s;rw[ajT.1 a];obtain⟨_,l⟩:=A2 b (ajX p) q;obtain⟨j,u,v⟩:=GJ b (ajX r) s.1;obtain⟨_,_,_,z,_⟩:=tJ o b.flow g f;have t:m.aA.getD y.aR.toNat 0∈m.aA:=by
       simp_all
      refine⟨Rat.mul_pos (Mf d.given b l).2 ?_,(b.uses _ l).1,b.ports _ t⟩;grind
     ·cases a
    ·cases a
   ·cases a
  ·cases a
 exact⟨fun c h=>(key c h).1,fun c h=>(key c h).2.1,fun c h=>(key c h).2.2⟩
def Hi {w:aX} (f:lX w) (e:ia w):aS (sB w) ((0:Int),[])=some (lu ((sd w).foldl lY []))∧Iy 125 (sd w):=by
 have g:=f.mills;have i:∀k,((w.ah.take k).flatMap (od w.al)).length<=k*25∧∀c∈(w.ah.take k).flatMap (od w.al),LF c.2<=20:=by
  intro k;have p:∀m∈w.ah.take k,(od w.al m).length<=25∧∀c∈od w.al m,LF c.2<=20:=fun m h=>by
   have g:=akb h;exact ZV e.given (f.mill m g).1 (e.fit m g)
  have t:(w.ah.take k).length<=k:=by grind
  refine⟨?_,fun c u =>?_⟩
  ·have q:∀l:List bj,(∀m∈l,(od w.al m).length<=25)->(l.flatMap (od w.al)).length<=l.length*25:=by
    intro l
    induction l with
    | nil=>intro _;simp
    | cons a l v =>
     grind
   grind
  grind
 have key:=fun j d=>p9 (body:=sB w) w.ah (by omega)
  (fun k (c:List ((Int×Int)×an))=>c=lu (((w.ah.take k).flatMap (od w.al)).foldl lY [])) (fun c=>c=lu ((sd w).foldl lY [])) (s0:=[]) rfl j d
 constructor
 ·refine (key ?_ ?_).elim fun x ⟨p,hx⟩=>hx ▸ p
  ·rintro k m _ hx rfl;have r:=aP hx;have n:w.ah.take (k+1)=w.ah.take k++[m]:=by
    obtain⟨o,s⟩:=ajZ.1 hx;rw[alX o,s]
   have b:=ajX hx;have H:Iy (k*25) ((w.ah.take k).flatMap (od w.al)):=⟨(i k).1,(i k).2⟩;refine⟨_,?_,rfl⟩;simp only[sB];rw[if_pos (by simpa using r),aT hx,akZ,SX e.given (f.mill m b).1 (e.fit m b) H (by omega),akZ,ba (by omega),n,List.flatMap_append];simp
  ·rintro _ rfl;refine⟨_,?_,rfl⟩;simp only[sB];rw[if_neg (by simp),alx];rfl
 ·have:=i w.ah.length;rw[alx]at this;exact⟨by have:=this.1;unfold sd;omega,this.2⟩
def aaO {N:Nat} {L:List Cn} (H:Xh N L):(L.foldl lY []).length<=N*N:=by
 have h:=LU H;have:=congrArg List.length h;rw[qf,aj0,aj0,G0]at this;have:=Sg N (kJ L);omega
def Yn (w:aX) (L:List Cn):gY:=rE w.al.length (kf w.al.length (kJ L))
def of_eq {w:aX} (a:lX w):C3 w=some (match zG w with|some r=>(gY.mk 0 [],r.1)|none=>(Yn w (sd w),0)):=by
 have b:=a.given;unfold C3;rw[sV a,akZ];cases c:zG w with
 | some r =>
  have:=My c;simp_all
 | none =>
  have d:=BO c;obtain⟨g,_⟩:=Hi a d;have e:=afv a d;have f:=aaO e;have h:w.al.length*w.al.length<=6*6:=alY b b;rw[if_neg (by simp),g,akZ,if_neg (by rw[decide_eq_true_eq,G0];omega)];unfold E4;rw[if_pos ⟨by rw[G0];omega,by rw[Yh];exact Aq _ _ (by simp)⟩,LU e];rfl
def Ha {α ρ:Type} : ∀(l:List α) (i:Nat),eC (fun _ _=>(none:Option ρ)) i l=none
 | [],_=>rfl
 | _::l,i=>by simp only[eC];exact Ha l _
def We {N:Nat} {L:List Cn} (a:N<=6) (H:Iy 125 L):(kf N (kJ L)).length<=36∧∀t∈kf N (kJ L),LF t.2.2<=2700:=by
 have d:=Sg N (kJ L);have e:N*N<=6*6:=alY a a;refine⟨by omega,fun t b =>?_⟩;obtain⟨_,_,_,c⟩:=BY.1 b;rw[c];unfold kJ;have f:=Ma (k:=((t.1:Int),(t.2.1:Int))) H.sz;have g:=akd 21 H.len;omega
def pI (q:Nat) (l:List gC):Int:=l.foldl (fun x u=>x+if u.bJ=(q:Int) then u.aQ else 0) 0
def oh {α:Type} (f:α->Int):∀(l:List α) (x:Int),l.foldl (fun x u=>x+f u) x=x+l.foldl (fun x u=>x+f u) 0
 | [],x=>by simp
 | a::l,x=>by rw[ake,ake,oh f l (x+f a),oh f l (0+f a)];omega
def Sp {q:Nat} : ∀ {l:List gC} {x:Int},(0<=x∧x<=1099511627777)->(∀u∈l,1<=u.aQ∧u.aQ<=1099511627776)->pB q l x=min 1099511627777 (x+pI q l)∧0<=pI q l
 | [],x,a,_=>by simp only[pB,pI,List.foldl_nil];omega
 | u::l,x,a,h=>by
  have c:=h u (akU ..);have b:=Im (q:=q) a c;obtain⟨d,i⟩:=Sp (q:=q) (l:=l) (x:=Jc q x u) b fun v f=>h v (akV _ f);have e:pI q (u::l)=(if u.bJ=(q:Int) then u.aQ else 0)+pI q l:=by
   unfold pI;rw[ake,oh (fun u:gC=>if u.bJ=(q:Int) then u.aQ else 0)];omega
  have g:pB q (u::l) x=pB q l (Jc q x u):=rfl;rw[g,d,e];unfold Jc at b ⊢;omega
def jO (q:Nat) (a:List bj):Int:=a.foldl (fun x m=>x+pI q m.bc) 0
def aeh {q:Nat} {ms:List bj} (h:∀m∈ms,∀u∈m.bc,1<=u.aQ∧u.aQ<=1099511627776):YV ms q=min 1099511627777 (jO q ms)∧0<=jO q ms:=by
 have key:∀(ms:List bj) (x:Int),(0<=x∧x<=1099511627777)->(∀m∈ms,∀u∈m.bc,1<=u.aQ∧u.aQ<=1099511627776)->ms.foldl (fun x m=>pB q m.bc x) x=min 1099511627777 (x+jO q ms)∧0<=jO q ms:=by
  intro ms
  induction ms with
  | nil=>intro x a _;simp only[List.foldl_nil,jO];omega
  | cons m ms b =>
   intro x a h;obtain⟨d,f⟩:=Sp (q:=q) a (h m (akU ..));obtain⟨g,i⟩:=b (pB q m.bc x) (uB a (h m (akU ..))) fun m c=>h m (akV _ c);have e:jO q (m::ms)=pI q m.bc+jO q ms:=by
    unfold jO;rw[ake,oh (fun m:bj=>pI q m.bc)];omega
   grind
 have:=key ms 0 (by omega) h;unfold YV;omega
section
variable {α β:Type}
def aW:List α->(α->Rat)->Rat
 | [],_=>0
 | a::l,f=>f a+aW l f
def oC (f:α->Rat) (b:List α):∀a:List α,aW (a++b) f=aW a f+aW b f
 | []=>by simp only[List.nil_append,aW];grind
 | x::a=>by simp only[List.cons_append,aW,oC f b a];grind
def LS {f:α->Rat} {a b:List α} (h:a.Perm b):aW a f=aW b f:=by
 induction h with
 | nil=>rfl
 | cons x _ c=>simp only[aW];rw[c]
 | swap x y l=>simp only[aW];grind
 | trans _ _ h1 h2=>exact h1.trans h2
def aU {f g:α->Rat} : ∀ {l:List α},(∀a∈l,f a=g a)->aW l f=aW l g
 | [],_=>rfl
 | a::l,h=>by
  simp only[aW];rw[h a (akU ..),aU fun x b=>h x (akV _ b)]
def vA (f g:α->Rat):∀l:List α,aW l (fun a=>f a+g a)=aW l f+aW l g
 | []=>by simp only[aW];grind
 | a::l=>by simp only[aW,vA f g l];grind
def vB (f g:α->Rat):∀l:List α,aW l (fun a=>f a-g a)=aW l f-aW l g
 | []=>by simp only[aW];grind
 | a::l=>by simp only[aW,vB f g l];grind
def jn:∀l:List α,aW l (fun _=>0)=0
 | []=>rfl
 | a::l=>by simp only[aW,jn l];grind
def py (c:Rat) (f:α->Rat):∀l:List α,aW l (fun a=>c*f a)=c*aW l f
 | []=>by simp only[aW];grind
 | a::l=>by simp only[aW,py c f l];grind
def WN {f g:α->Rat} : ∀ {l:List α},(∀a∈l,f a<=g a)->aW l f<=aW l g
 | [],_=>by simp only[aW];grind
 | a::l,h=>by
  have c:=h a (akU ..);have d:=WN (l:=l) fun x b=>h x (akV _ b);simp only[aW];grind
def tM (h:β->α) (f:α->Rat):∀l:List β,aW (l.map h) f=aW l fun a=>f (h a)
 | []=>rfl
 | a::l=>by simp only[ajE,aW,tM h f l]
def mD (h:β->List α) (f:α->Rat):∀l:List β,aW (l.flatMap h) f=aW l fun a=>aW (h a) f
 | []=>rfl
 | a::l=>by rw[List.flatMap_cons,oC];simp only[aW,mD h f l]
def rm (p:α->Bool) (f:α->Rat):∀l:List α,aW (l.filter p) f=aW l fun a=>if p a=true then f a else 0
 | []=>rfl
 | a::l=>by
  rw[List.filter_cons];have b:=rm p f l;split
  ·rename_i h;simp only[aW,b,h,if_true]
  ·rename_i h;simp only[aW,b,h,if_false];grind
def mE (f:α->β->Rat) (m:List β):∀l:List α,aW l (fun a=>aW m (f a))=aW m fun b=>aW l fun a=>f a b
 | []=>by simp only[aW];exact (jn m).symm
 | a::l=>by simp only[aW,mE f m l];rw[<- vA]
def acj {N p:Nat} (b:N<=p) (F:Nat->Rat):aW (List.range N) (fun a=>if a=p then F a else 0)=0:=by
 rw[aU (g:=fun _=>0) fun a c=>if_neg (by grind),jn]
def lT {N p:Nat} (b:p<N) (F:Nat->Rat):aW (List.range N) (fun a=>if a=p then F a else 0)=F p:=by
 induction N with
 | zero=>omega
 | succ N c =>
  rw[al5,oC];simp only[aW]
  by_cases h:p=N
  ·subst h;rw[acj (ajz _),if_pos rfl];grind
  grind
def nZ (l:List α) (f:α->Rat):aW (List.range l.length) (fun i=>(l[i]?).elim 0 f)=aW l f:=by
 have key:∀l:List α,aW (List.range l.reverse.length) (fun i=>(l.reverse[i]?).elim 0 f)=aW l.reverse f:=by
  intro l
  induction l with
  | nil=>rfl
  | cons a l b =>
   rw[List.reverse_cons,aky,List.length_singleton,al5,oC,oC];congr 1
   ·rw[<- b];exact aU fun i c=>by grind
   ·simp only[aW];simp_all
 have:=key l.reverse;simp_all
def Cd {f:α->Rat} {l:List α} (h:∀a∈l,0<=f a):0<=aW l f:=by
 rw[<- jn l];exact WN h
def UK {K:Nat} {f:α->Rat} : ∀ {l:List α},(∀a∈l,LF (f a)<=K)->LF (aW l f)<=1+l.length*(K+1)
 | [],_=>by simp only[aW];have:=yZ;omega
 | a::l,h=>by
  have c:=h a (akU ..);have d:=UK (l:=l) fun x b=>h x (akV _ b);have e:=vS (f a) (aW l f);simp only[aW,List.length_cons];grind
end
def Nw (k:Int×Int):∀L:List Cn,wQ k L=aW L fun c=>if k=c.1 then c.2 else 0
 | []=>rfl
 | c::L=>by simp only[wQ,aW,Nw k L]
def Wl (p:Nat):∀tk:List Tk,u3 tk p=aW tk fun t=>if t.1=p then t.2.2 else 0
 | []=>rfl
 | t::tk=>by simp only[u3,aW,Wl p tk]
def Nx {α:Type} (f:α->Rat):∀l:List α,oJ (l.map f)=aW l f
 | []=>rfl
 | a::l=>by simp only[ajE,oJ,aW,Nx f l]
def Ys {N p:Nat} {S:Nat->Nat->Rat} (c:p<N) (d:∀b,0<=S p b):u3 (kf N S) p=aW (List.range N) (S p):=by
 rw[Wl];unfold kf;rw[mD,aU (g:=fun a=>if a=p then aW (List.range N) (S a) else 0) fun a _ =>?_,lT c fun a=>aW (List.range N) (S a)];rw[tM,rm]
 by_cases h:a=p
 ·subst h;rw[if_pos rfl];refine aU fun b _ =>?_;grind
 ·rw[if_neg h];refine Eq.trans (aU (g:=fun _=>0) fun b _ =>?_) (jn _);simp[h]
def z6 (p:Nat) (L:List Cn):Rat:=aW L fun c=>if c.1.1=(p:Int) then c.2 else 0
def ack {N p:Nat} {L:List Cn} (H:Xh N L):aW (List.range N) (kJ L p)=z6 p L:=by
 refine Eq.trans (aU (l:=List.range N) (g:=fun b:Nat=>aW L fun c=>if ((p:Int),(b:Int))=c.1 then c.2 else 0) fun b _=>by unfold kJ;exact Nw _ _) ?_;rw[mE];unfold z6;refine aU fun c a =>?_;obtain⟨d,f⟩:=H.to_ c a;obtain⟨j,h⟩:∃j:Nat,c.1.2=j:=⟨c.1.2.toNat,by omega⟩
 by_cases hp:c.1.1=(p:Int)
 ·rw[if_pos hp,aU (g:=fun b=>if b=j then c.2 else 0) fun b _ =>?_,lT (by omega) fun _=>c.2];grind
 ·rw[if_neg hp];exact Eq.trans (aU (g:=fun _=>0) fun b _=>if_neg (fun e=>hp (by rw[<- e]))) (jn _)
def X9 {N p:Nat} {L:List Cn} (H:Xh N L) (a:p<N):fl (kf N (kJ L)) p=1-z6 p L:=by
 unfold fl;rw[Ys a fun b=>(yI H.pos).1,ack H]
def gk (m:bj) (k:Nat):Bool:=match m.au.aF[k]? with|some y=>y.aY==0|none=>false
def gv (m:bj) (i:Nat):Rat:=aW (List.range m.au.aF.length) fun k=>if gk m k=true then Cb m.au k i else 0
def ls (m:bj) (i:Nat):Rat:=aW (List.range m.au.aF.length) fun k=>if gk m k=true then 0 else Cb m.au k i
def aeJ {m:bj} {i:Nat} (b:rJ m.au) (c:Fi m.au) (d:i<m.au.aw.length):gv m i+ls m i=1∧0<=gv m i∧0<=ls m i:=by
 have f:∀k∈List.range m.au.aF.length,0<=Cb m.au k i:=fun k a=>by
  obtain⟨_,_,_,h,_⟩:=tJ b c (ak2.1 a) d;exact h
 refine⟨?_,Cd fun k a =>?_,Cd fun k a =>?_⟩
 ·have e:=Lw b c d;rw[Nx]at e;rw[<- e];unfold gv ls;rw[<- vA];grind
 ·grind
 grind
def Ce (m:bj) (i:Nat) (F:gC->Rat):Rat:=(m.au.aw[i]?).elim 0 fun x=>if x.aY=1 then F (pJ m x.aR) else 0
def ur (p:Nat) (u:gC) (q:Rat):Rat:=if u.bJ=(p:Int) then q else 0
def XS (g:List Int) (m:bj) (p:Nat):z6 p (od g m)=aW (List.range m.au.aw.length) fun i=>Ce m i fun u=>ur p u (Ew g u*gv m i):=by
 unfold z6 od;rw[mD];refine aU fun i _ =>?_;unfold Bi Ce;cases d:m.au.aw[i]? with
 | none=>rfl
 | some x =>
  simp only[Option.elim_some]
  by_cases a:x.aY=1
  ·rw[if_pos a,if_pos a,mD];generalize pJ m x.aR=u;have hk:∀k,aW (xH m i u (Ew g u) k) (fun c=>if c.1.1=(p:Int) then c.2 else 0)=ur p u (Ew g u*if gk m k=true then Cb m.au k i else 0):=by
    intro k;unfold xH gk ur;cases m.au.aF[k]? with
    | none=>show aW [] _=_;simp[aW]
    | some y =>
     simp only
     by_cases h0:y.aY=0
     ·by_cases b:Cb m.au k i=0
      ·rw[if_neg (fun h=>h.2 b),b];show (0:Rat)=_;split<;>simp
      ·rw[if_pos ⟨h0,b⟩];simp only[aW,h0];grind
     ·rw[if_neg (fun h=>h0 h.1)];show (0:Rat)=_;split<;>simp[h0]
   rw[aU fun k _=>hk k];unfold ur gv;split
   ·rw[py]
   ·exact jn _
  ·rw[if_neg a,if_neg a];rfl
def Sq {m:bj} {N:Nat} (a:xj m N) (F:gC->Rat):aW (List.range m.au.aw.length) (fun i=>Ce m i F)=aW m.bc F:=by
 unfold Ce;refine Eq.trans (nZ m.au.aw fun x=>if x.aY=1 then F (pJ m x.aR) else 0) ?_;rw[aU (g:=fun x=>if (x.aY==1)=true then F (pJ m x.aR) else 0) fun x _=>by simp_all,<- rm (fun x:ib=>x.aY==1) fun x=>F (pJ m x.aR)];rw[<- tM (fun x:ib=>x.aR) fun n=>F (pJ m n),LS a.takes];unfold vE;rw[tM];refine Eq.trans (aU fun j b =>?_) (nZ m.bc F);unfold pJ;simp_all
def aaQ (w:aX) (p:Nat):z6 p (sd w)=aW w.ah fun m=>z6 p (od w.al m):=by
 unfold sd z6;exact mD ..
def YW (p:Nat) (m:bj):Rat:=aW m.bc fun u=>ur p u (u.aQ:Rat)
def WQ (p:Nat):∀l:List gC,aW l (fun u=>ur p u (u.aQ:Rat))=((pI p l:Int):Rat)
 | []=>by simp[aW,pI]
 | u::l=>by
  have e:pI p (u::l)=(if u.bJ=(p:Int) then u.aQ else 0)+pI p l:=by
   unfold pI;rw[ake,oh (fun u:gC=>if u.bJ=(p:Int) then u.aQ else 0)];omega
  simp only[aW];rw[WQ p l,e,Rat.intCast_add];congr 1;unfold ur;split<;>simp
def H7 (p:Nat):∀a:List bj,aW a (YW p)=((jO p a:Int):Rat)
 | []=>by simp[aW,jO]
 | m::a=>by
  have e:jO p (m::a)=pI p m.bc+jO p a:=by
   unfold jO;rw[ake,oh (fun m:bj=>pI p m.bc)];omega
  simp only[aW];rw[H7 p a,e,Rat.intCast_add];congr 1;exact WQ p _
def agT {g:List Int} {p:Nat} {u:gC} (h:u.bJ=(p:Int)) (a:1<=g.getD p 0):Ew g u*((g.getD p 0:Int):Rat)=(u.aQ:Rat):=by
 unfold Ew;rw[h,akp,ama];have:((g.getD p 0:Int):Rat)≠0:=by exact_mod_cast (show g.getD p 0≠0 by omega)
 grind
def Tl {w:aX} (d:lX w) (a:ia w) {p:Nat} (j:p<w.al.length) :
  z6 p (sd w)*((w.al.getD p 0:Int):Rat)=((jO p w.ah:Int):Rat)-aW w.ah fun m=>aW (List.range m.au.aw.length) fun i=>Ce m i fun u=>ur p u ((u.aQ:Rat)*ls m i):=by
 have e:=a.given (w.al.getD p 0) (by simp_all);rw[aaQ,amb,<- py,<- H7,<- vB];refine aU fun m b =>?_;have f:=(d.mill m b).1;have c:=a.fit m b;rw[XS,<- py];unfold YW;rw[<- Sq c,<- vB];refine aU fun i g =>?_;obtain⟨k,_,_⟩:=aeJ f c.flow (ak2.1 g);unfold Ce;cases m.au.aw[i]? with
 | none=>grind
 | some x =>
  simp only[Option.elim_some];split
  ·unfold ur;split
   ·rename_i h;have:=agT h e.1;grind
   ·grind
  ·grind
def A3 {w:aX} (a:ia w) {p:Nat} (b:p<w.al.length):0<=jO p w.ah∧jO p w.ah<=w.al.getD p 0:=by
 have e:=a.given (w.al.getD p 0) (by simp_all);have f:=a.used p b;have g:=aeh (q:=p) (ms:=w.ah) fun m c u d=>((a.fit m c).uses u d).2;omega
def adD {w:aX} (c:lX w) (d:ia w) (p:Nat):0<=aW w.ah fun m=>aW (List.range m.au.aw.length) fun i=>Ce m i fun u=>ur p u ((u.aQ:Rat)*ls m i):=by
 refine Cd fun m b=>Cd fun i e =>?_;have a:=d.fit m b;obtain⟨_,_,f⟩:=aeJ (c.mill m b).1 a.flow (ak2.1 e);unfold Ce;cases g:m.au.aw[i]? with
 | none=>simp
 | some x =>
  simp only[Option.elim_some];split
  ·rename_i h;have j:=(a.uses _ (A2 a (ajX g) h).2).2;unfold ur;split
   ·exact al6 (by exact_mod_cast (show (0:Int)<=(pJ m x.aR).aQ by omega)) f
   ·simp
  ·simp
def adq {w:aX} (b:lX w) (a:ia w) {p:Nat} (c:p<w.al.length):z6 p (sd w)<=1:=by
 have f:=a.given (w.al.getD p 0) (by simp_all);have d:=Tl b a c;have g:=adD b a p;have h:((jO p w.ah:Int):Rat)<=((w.al.getD p 0:Int):Rat):=by exact_mod_cast (A3 a c).2
 have e:(0:Rat)<((w.al.getD p 0:Int):Rat):=by exact_mod_cast (show (0:Int)<w.al.getD p 0 by omega)
 refine Rat.le_of_mul_le_mul_right ?_ e;rw[d];grind
def G8 {w:aX} (a:lX w) (b:ia w):lz w.al.length (kf w.al.length (kJ (sd w))) where
 ports:=by have:=a.given;omega
 takes:=by have:=(We a.given (Hi a b).2).1;omega
 ok t d:=by
  obtain⟨e,f,g,h⟩:=BY.1 d;simp_all
 sorted:=NJ _ _
 leak p c:=by
  rw[X9 (afv a b) c];have:=adq a b c;grind
section
variable {w:aX} {p:Nat} {d:Int}
end
def Ix (q:Rat):Int×List Int×Int×List Int:=((b7 q).bL.ax,(b7 q).bL.aa,(b7 q).bQ.ax,(b7 q).bQ.aa)
def Dq (f:Nat->Rat) (n:Nat):aW (List.range (n+1)) f=aW (List.range n) f+f n:=by
 rw[al5,oC];simp only[aW];grind
def oP {K n:Nat} {f:Nat->Rat} (h:∀i,i<n->LF (f i)<=K):LF (aW (List.range n) f)<=1+n*(K+1):=by
 have:=UK (f:=f) (l:=List.range n) fun a b=>h a (ak2.1 b)
 rwa [aj1]at this
section
variable {m:bj} {N:Nat}
end
section
variable {w:aX}
end
def ahI:2*(2 ^ 6*(4 ^ 6*(2700+1)))+100<=eV:=by decide
def XsW {N p x:Nat} (a:N<=6) (h:x<=2 ^ (N-1-p)*(4 ^ N*(2700+1))):x<=1000000000:=by
 have b:2 ^ (N-1-p)<=2 ^ 6:=al8 (by decide) (by omega);have c:4 ^ N<=4 ^ 6:=al8 (by decide) a;have d:=alY b (akd (2700+1) c);have e:2 ^ 6*(4 ^ 6*(2700+1))<=1000000000:=by decide
 omega
open Classical in
def No {α ρ:Type} (l:List α) (Q:Nat->α->Prop) (v:ρ) {body:Int->Option (Int⊕(Unit⊕ρ))} (k:l.length<=2000) (f:∀(i:Nat) x,l[i]? = some x->body (i:Int)=if Q i x then some (.inl ((i+1:Nat):Int)) else some (.inr (.inr v))) (g:body (l.length:Int)=some (.inr (.inl ()))) :
  (aS body 0=some (.inl ())∧∀(i:Nat) x,l[i]? = some x->Q i x)∨(aS body 0=some (.inr v)∧∃(i:Nat) (x:α),l[i]? = some x∧¬Q i x):=by
 have b:=oA l (fun i x=>if Q i x then none else some v) (by omega) (fun i x e=>by rw[f i x e];split<;>rfl) g;cases c:eC (fun (i:Nat) (x:α)=>if Q i x then none else some v) 0 l with
 | none =>
  left;rw[c]at b;refine⟨b,fun i x e =>?_⟩;have:=cM.1 c i x e;rw[akw]at this;split at this
  ·assumption
  ·cases this
 | some q =>
  right;rw[c]at b;obtain⟨j,x,h,d,_⟩:=da c;rw[akw]at d;split at d
  ·cases d
  ·rename_i a;cases d;exact⟨b,j,x,h,a⟩
open Classical in
def RS {α:Type} (l:List α) (Q:Nat->α->Prop) {body:Int->Option (Int⊕(Unit⊕Bool))} (a:l.length<=2000) (b:∀(i:Nat) x,l[i]? = some x->body (i:Int)=if Q i x then some (.inl ((i+1:Nat):Int)) else some (.inr (.inr false))) (c:body (l.length:Int)=some (.inr (.inl ()))) :
  (aS body 0=some (.inl ())∧∀(i:Nat) x,l[i]? = some x->Q i x)∨(aS body 0=some (.inr false)∧∃(i:Nat) (x:α),l[i]? = some x∧¬Q i x):=No l Q false a b c
def afk {α:Type} (l:List α) (p:α->Bool) (i:Nat):Prop:=(∃x,l[i]? = some x∧p x=true)∧∀(j:Nat) y,l[j]? = some y->p y=true->j=i
def Uv (n:Nat):(vE n).Nodup:=by
 unfold vE List.Nodup;rw[alA];exact (ak3 (n:=n)).imp fun h=>by omega
def abu {n:Nat} {x:Int} : x∈vE n↔∃j:Nat,j<n∧x=j:=by
 unfold vE;rw[ajy];exact⟨fun⟨j,a,b⟩=>⟨j,ak2.1 a,b.symm⟩,fun⟨j,a,b⟩=>⟨j,ak2.2 a,b.symm⟩⟩
section
variable {α:Type} {l:List α} {p:α->Bool} {g:α->Int} {n:Nat}
def Na (h:((l.filter p).map g).Perm (vE n)) {j:Nat} (B:j<n):∃i,afk l (fun x=>p x&&g x==(j:Int)) i:=by
 have C:(j:Int)∈(l.filter p).map g:=h.mem_iff.2 (abu.2 ⟨j,B,rfl⟩);obtain⟨x,D,c⟩:=ajy.1 C;obtain⟨q,d⟩:=ak0.1 D;obtain⟨i,r⟩:=ajS q;refine⟨i,⟨x,r,by simp[d,c]⟩,fun k y z f =>?_⟩;simp only[aj6,beq_iff_eq]at f;have e:((l.filter p).map g).Nodup:=h.nodup_iff.2 (Uv n);unfold List.Nodup at e;rw[alA,List.pairwise_filter]at e;have key:∀(a b:Nat) (u v:α),a<b->l[a]? = some u->l[b]? = some v->p u=true->p v=true->g u≠g v:=fun a b u v s m o E F=>by
  have A:=alB.1 e a b (aP m) (aP o) s;rw[ajL (aP m)]at m;rw[ajL (aP o)]at o;rw[alz m,alz o]at A;exact A E F
 rcases al7 k i with t|heq|w
 ·exact absurd (f.2.trans c.symm) (key k i y x t z r f.1 d)
 ·exact heq
 ·exact absurd (c.trans f.2.symm) (key i k x y w r z d f.1)
end
def afn {ρ:Type} (g:(Int×List Int×Int×List Int)->ρ) (n:Nat) (F:Nat->Rat) {K:Nat} {body:Int×(Int×List Int×Int×List Int)->Option ((Int×(Int×List Int×Int×List Int))⊕ρ)} {A:Rat} (k:n<=2000) (hF:∀i,i<n->LF (F i)<=K)
  (b:∀(i:Nat) (s:Rat),i<n->LF s<=LF A+i*(K+1)+2->body ((i:Int),Ix s)=some (.inl (((i+1:Nat):Int),Ix (s+F i))))
  (c:∀s,body ((n:Int),Ix s)=some (.inr (g (Ix s)))):aS body (0,Ix A)=some (g (Ix (A+aW (List.range n) F))):=by
 have d:A=A+aW (List.range 0) F:=by simp only[List.range_zero,aW];grind
 obtain⟨q,e,h⟩:=eE (body:=body) (fun i st=>st=((i:Int),Ix (A+aW (List.range i) F))) n (fun q=>q=g (Ix (A+aW (List.range n) F))) (s:=(0,Ix A)) (by rw[<- d];rfl) (ng (by omega)) (by
  rintro i _ l rfl
  by_cases a:i<n
  ·left;have m:=oP (n:=i) (f:=F) fun j o=>hF j (by omega);have p:=vS A (aW (List.range i) F);refine⟨a,_,b i _ a (by omega),?_⟩;rw[Dq];have:A+aW (List.range i) F+F i=A+(aW (List.range i) F+F i):=by grind
   rw[this]
  ·right;have:i=n:=by omega
   subst this;exact⟨_,c _,rfl⟩)
 rw[e,h]
def YD {row:List an} {n:Nat} {c a:Nat->Rat} {K:Nat} (m:n<=100) (d:∀i,i<n->row[i]? = some (b7 (c i))∧LF (c i)<=4) (h:∀i,i<n->LF (a i)<=K) (o:K<=10000000000) :
  jr row (cH n a)=some (b7 (aW (List.range n) fun i=>c i*a i))∧LF (aW (List.range n) fun i=>c i*a i)<=1+n*(K+5):=by
 have j:eV=4398046511104:=rfl;have g:∀i,i<n->LF (c i*a i)<=K+4:=fun i b=>by
  have p:=vT (c i) (a i);have k:=(d i b).2;have l:=h i b;omega
 refine⟨?_,oP (K:=K+4) (f:=fun i=>c i*a i) g⟩;have q:=yZ;have key:aS (kD row (cH n a)) (0,Ix 0)=some (Ix (0+aW (List.range n) fun i=>c i*a i)):=by
  refine afn id n (fun i=>c i*a i) (by omega) g (fun i s b r =>?_) (fun s=>by
   simp only[kD,Ix];rw[cZ,if_neg (by simp)];rfl)
  have k:i*(K+4+1)<=100*10000000005:=alY (by omega) (by omega);have l:=g i b;have t:=(d i b).2;have u:=h i b;have e:ik (an.mk (aK.mk (b7 s).bL.ax (b7 s).bL.aa) (aK.mk (b7 s).bQ.ax (b7 s).bQ.aa)) (b7 (c i*a i))=some (b7 (s+c i*a i),0):=Ff (by omega);simp only[kD,Ix];rw[cZ,if_pos (by simpa using b),aT (iE a b),akZ,aT (d i b).1,akZ,UO (by omega),akZ,e,akZ,ba (by omega)]
 unfold jr;rw[aa8,akZ];erw [key];rw[show (0:Rat)+(aW (List.range n) fun i=>c i*a i)=aW (List.range n) fun i=>c i*a i by grind];rfl
structure aiJ (l:List (List an)):Prop where
 len:l.length<=8
 row:∀r∈l,r.length<=8∧∀f∈r,f.bL.aa.length<=3∧f.bQ.aa.length<=3
def agY (l:List (List an)):∃b,zn l=some b∧(b=true->aiJ l):=by
 have a:(l.take 9).length=min 9 l.length:=ajP;have k:∀r:List an,r.length<=8->(aS (qp r) 0=some (.inl ())∧∀(i:Nat) x,r[i]? = some x->(x.bL.aa.length:Int)<=3∧(x.bQ.aa.length:Int)<=3)∨(aS (qp r) 0=some (.inr false)∧∃(i:Nat) (x:an),r[i]? = some x∧¬((x.bL.aa.length:Int)<=3∧(x.bQ.aa.length:Int)<=3)):=fun r o =>
  RS r (fun _ x=>(x.bL.aa.length:Int)<=3∧(x.bQ.aa.length:Int)<=3) (by omega) (fun i x c=>by
   have d:=aP c;simp only[qp];rw[if_pos (by simpa using d),aT c,akZ,afE,akZ,ba (by omega)]
   by_cases g:(x.bL.aa.length:Int)<=3∧(x.bQ.aa.length:Int)<=3
   ·rw[decide_eq_true g,if_pos g];rfl
   ·rw[decide_eq_false g,if_neg g];rfl) (by simp only[qp];rw[if_neg (by simp)])
 have m:=RS (l.take 9) (fun _ r=>r.length<=8∧∀(i:Nat) x,r[i]? = some x->(x.bL.aa.length:Int)<=3∧(x.bQ.aa.length:Int)<=3) (body:=tG l) (by omega) (fun i r c=>by
  have d:=aP c;rw[a]at d;rw[ajY,if_pos (by omega)]at c;simp only[tG];rw[if_pos (by simp;omega),akZ,if_pos (by simp;omega),aT c,akZ]
  by_cases h8:r.length<=8
  ·rw[if_neg (by simp;omega)];rcases k r h8 with⟨e,h⟩|⟨e,j,x,n,h2⟩
   ·rw[e,if_pos ⟨h8,h⟩,ba (by omega)];rfl
   ·rw[e,if_neg (fun h=>h2 (h.2 j x n))];rfl
  ·rw[if_pos (by simp;omega),if_neg (fun h=>h8 h.1)]) (by
  simp only[tG]
  by_cases h:9<l.length
  ·rw[if_pos (by rw[a];simp;omega),akZ,if_neg (by rw[a];simp;omega)]
  ·rw[if_neg (by rw[a];simp;omega),akZ];rfl)
 unfold zn;rcases m with⟨e,h⟩|⟨e,_⟩
 ·rw[e,akZ];refine⟨_,rfl,fun p =>?_⟩;have h8:=of_decide_eq_true p;refine⟨by omega,fun r o =>?_⟩;obtain⟨i,d⟩:=ajS o;obtain⟨n,h2⟩:=h i r (by rw[akN (by omega)];exact d);refine⟨n,fun f q =>?_⟩;obtain⟨j,s⟩:=ajS q;have:=h2 j f s;omega
 ·rw[e];exact⟨false,rfl,fun h=>by cases h⟩
def ze {l:List Int} {q:Int} {j:Nat} (h:l[j]? = some q):0<l.count q:=List.count_pos_iff.2 (ajX h)
def JQ {q:Int} : ∀ {l:List Int} {i j:Nat},l.count q=1->l[i]? = some q->l[j]? = some q->i=j
 | [],_,_,h,_,_=>by simp at h
 | x::l,0,0,_,_,_=>rfl
 | x::l,0,j+1,h,h1,h2=>by
  simp only[List.getElem?_cons_zero,ajH]at h1;have:=ze (l:=l) (j:=j) (by simpa using h2);subst h1;rw[List.count_cons_self]at h;omega
 | x::l,i+1,0,h,h1,h2=>by
  simp only[List.getElem?_cons_zero,ajH]at h2;have:=ze (l:=l) (j:=i) (by simpa using h1);subst h2;rw[List.count_cons_self]at h;omega
 | x::l,i+1,j+1,h,h1,h2=>by
  have a:l[i]? = some q:=by simpa using h1
  have b:l[j]? = some q:=by simpa using h2
  have:=ze a;have c:l.count q=1:=by
   rw[List.count_cons]at h;split at h<;>omega
  rw[JQ c a b]
def yK (m:bj) (a:List bj) (q:Nat):EU (m::a) q=(m.aA.count (q:Int):Int)+EU a q:=by
 unfold EU;rw[ake,oh (fun m:bj=>(m.aA.count (q:Int):Int)) a (0+_)];omega
def H8 (q:Nat):∀a:List bj,0<=EU a q
 | []=>by simp[EU]
 | m::a=>by have:=H8 q a;rw[yK];omega
def W6 {q:Nat} : ∀ {ms:List bj} {i:Nat} {m:bj},ms[i]? = some m->(m.aA.count (q:Int):Int)<=EU ms q
 | [],_,_,h=>by simp at h
 | a::ms,0,m,h=>by
  simp only[List.getElem?_cons_zero,ajH]at h;subst h;have:=H8 q ms;rw[yK];omega
 | a::ms,i+1,m,h=>by
  have:=W6 (q:=q) (ms:=ms) (i:=i) (m:=m) (by simpa using h);rw[yK];omega
def W7 {q:Nat} : ∀ {ms:List bj},EU ms q=1->∃(i:Nat) (m:bj),ms[i]? = some m∧m.aA.count (q:Int)=1∧∀(k:Nat) (n:bj),ms[k]? = some n->0<n.aA.count (q:Int)->k=i
 | [],h=>by simp[EU]at h
 | a::ms,h=>by
  have g:=H8 q ms;rw[yK]at h
  by_cases j:a.aA.count (q:Int)=0
  ·obtain⟨i,m,d,e,f⟩:=W7 (q:=q) (ms:=ms) (by omega);refine⟨i+1,m,by simpa using d,e,fun k n b c =>?_⟩;cases k with
   | zero =>
    simp only[List.getElem?_cons_zero,ajH]at b;subst b;omega
   | succ k=>rw[f k n (by simpa using b) c]
  ·refine⟨0,a,rfl,by omega,fun k n b c =>?_⟩;cases k with
   | zero=>rfl
   | succ k =>
    have:=W6 (q:=q) (ms:=ms) (i:=k) (m:=n) (by simpa using b);omega
def oN (w:aX) (p i k:Nat):Prop:=∃m y,w.ah[i]? = some m∧m.au.aF[k]? = some y∧y.aY=0∧m.aA.getD y.aR.toNat 0=(p:Int)
def PX {m:bj} {N:Nat} (b:xj m N) {k:Nat} {y:rU} (c:m.au.aF[k]? = some y) (d:y.aY=0):∃j:Nat,y.aR=j∧m.aA[j]? = some (m.aA.getD y.aR.toNat 0):=by
 obtain⟨j,a,e⟩:=GJ b (ajX c) d;refine⟨j,a,?_⟩;rw[a,akp,aj7,ajL e];rfl
def CV {w:aX} (f:ia w) {p:Nat} (r:p<w.al.length):∃i k,oN w p i k∧∀i' e,oN w p i' e->i'=i∧e=k:=by
 have s:EU w.ah p=1:=by
  have:=f.once p r;have:=H8 p w.ah;omega
 obtain⟨i,m,g,t,u⟩:=W7 s;have v:=f.fit m (ajX g);obtain⟨j,h⟩:=ajS (List.count_pos_iff.1 (show 0<m.aA.count (p:Int) by omega));obtain⟨k,⟨y,x,b⟩,z⟩:=Na v.gives (aP h);simp only[aj6,beq_iff_eq]at b;refine⟨i,k,⟨m,y,g,x,b.1,?_⟩,?_⟩
 ·rw[b.2,akp,aj7,h];rfl
 ·rintro i' e ⟨q,A,a,c,d,l⟩;have n:=f.fit q (ajX a);obtain⟨C,B,o⟩:=PX n c d;rw[l]at o;obtain rfl:=u i' q a (ze o);rw[g]at a;obtain rfl:=alz a;obtain rfl:=JQ t h o;exact⟨rfl,z e A c (by simp[d,B])⟩
def VK (w:aX) (p:Nat) (F:Nat->Nat->Rat):Rat:=aW (List.range w.ah.length) fun i=>(w.ah[i]?).elim 0 fun m=>aW (List.range m.au.aF.length) fun k=>(m.au.aF[k]?).elim 0 fun y=>if y.aY=0∧m.aA.getD y.aR.toNat 0=(p:Int) then F i k else 0
def BM {w:aX} (t:ia w) {p:Nat} (u:p<w.al.length) {i k:Nat} (h:oN w p i k) (F:Nat->Nat->Rat):VK w p F=F i k:=by
 obtain⟨A,B,C,r⟩:=CV t u;obtain⟨rfl,rfl⟩:=r i k h;obtain⟨m,y,l,s,v,x⟩:=h;unfold VK;rw[aU (g:=fun a=>if a=i then F i k else 0) fun a o =>?_,lT (aP l)];have o:=ak2.1 o;have c:w.ah[a]? = some w.ah[a]:=ajL o;generalize w.ah[a]=n at c;rw[c,Option.elim_some];rw[aU (g:=fun b=>if b=k then (if a=i then F i k else 0) else 0) fun b q =>?_]
 ·by_cases d:a=i
  ·subst d;rw[l]at c;obtain rfl:=alz c;rw[lT (aP s)]
  ·rw[if_neg d];exact Eq.trans (aU (g:=fun _=>0) fun b _=>by split<;>rfl) (jn _)
 ·have q:=ak2.1 q;have e:n.au.aF[b]? = some n.au.aF[b]:=ajL q;generalize n.au.aF[b]=z at e;rw[e,Option.elim_some]
  by_cases j:z.aY=0∧n.aA.getD z.aR.toNat 0=(p:Int)
  ·obtain⟨rfl,rfl⟩:=r a b ⟨n,z,c,e,j⟩;rw[if_pos j,if_pos rfl,if_pos rfl]
  ·rw[if_neg j]
   by_cases f:b=k
   ·subst f;rw[if_pos rfl]
    by_cases d:a=i
    ·subst d;rw[l]at c;obtain rfl:=alz c;rw[s]at e;obtain rfl:=alz e;exact absurd ⟨v,x⟩ j
    ·rw[if_neg d]
   ·rw[if_neg f]
structure Y7 (w:aX) (S:List (List an)) (s:Nat->Nat->Rat):Prop where
 len:S.length=w.ah.length
 row:∀(i:Nat) m,w.ah[i]? = some m->S[i]? = some (cH m.au.aw.length (s i))
 nn:∀(i:Nat) m,w.ah[i]? = some m->∀k,k<m.au.aw.length->0<=s i k∧LF (s i k)<=100
 tk:∀(i:Nat) m,w.ah[i]? = some m->∀(k:Nat) x,m.au.aw[k]? = some x->x.aY=1->s i k=0
def aeI (f:fa) (k:Nat) (x:an):Prop:=okF x=true∧∀y,f.aw[k]? = some y->y.aY=1->x.bL.ax=0
def Zk (f:fa) (l:List an):Prop:=l.length=f.aw.length∧∀(k:Nat) x,l[k]? = some x->aeI f k x
def SzA (K:Nat) (S:List (List an)):Prop:=∀r∈S,∀f∈r,f.bL.aa.length<=K∧f.bQ.aa.length<=K
def IC {f:fa} {l:List an} (u:f.aw.length<=100) (p:∀x∈l,x.bL.aa.length<=100∧x.bQ.aa.length<=100):∃b,pW f l=some b∧(b=true↔Zk f l):=by
 have r:eV=4398046511104:=rfl;unfold pW Zk
 by_cases a:l.length=f.aw.length
 rotate_left
 ·exact⟨false,by rw[if_pos (by rw[bne_iff_ne];omega)],by simp[a]⟩
 rw[if_neg (by simp[a])];rcases No l (aeI f) false (body:=nc f l) (by omega) (fun i x g=>by
  have s:=aP g;have n:=p x (ajX g);have j:f.aw[i]? = some (f.aw[i]'(by omega)):=ajL _;generalize f.aw[i]'(by omega)=y at j;simp only[nc];rw[if_pos (by simpa using s),aT g,akZ,xE ⟨by unfold sM;omega,by unfold sM;omega⟩,akZ,ba (by omega)];cases c:okF x with
  | false=>rw[if_pos (by simp),if_neg (fun h=>by have:=h.1;rw[c]at this;cases this)]
  | true =>
   rw[if_neg (by simp),aT j,akZ]
   by_cases k:y.aY=1
   ·obtain⟨q,rfl⟩:=qI.1 c;rw[if_pos (by simpa using k),uE (by have:=rS n.1 n.2;omega),akZ]
    by_cases h2:q.num.sign=0
    ·rw[if_neg (by simp[h2]),if_pos ⟨c,fun t d _=>h2⟩]
    ·rw[if_pos (by simpa using h2),if_neg (fun h=>h2 (h.2 y j k))]
   ·rw[if_neg (by simpa using k),if_pos ⟨c,fun t d o=>by rw[j]at d;rw[<- alz d]at o;exact absurd o k⟩]) (by simp only[nc];rw[if_neg (by simp)]) with⟨e,h⟩|⟨e,i,x,g,hbad⟩
 ·rw[e];exact⟨true,rfl,by simp only[true_iff];exact⟨a,h⟩⟩
 ·rw[e];exact⟨false,rfl,by simp only[aj4,false_iff];exact fun h=>hbad (h.2 i x g)⟩
def QM {l:List an} (f:l.length<=2000) (m:∀x∈l,okF x=true∧x.bL.aa.length<=100∧x.bQ.aa.length<=100):∃b,cz l=some b∧(b=false↔∀x∈l,0<=x.bL.ax):=by
 have n:eV=4398046511104:=rfl;unfold cz dA;rw[oA l (fun i x=>if 0<=x.bL.ax then none else some (i:Int)) (by omega) (fun i x a =>?_) (by simp only[dW];rw[if_neg (by simp)])]
 ·cases g:eC (fun (i:Nat) (x:an)=>if 0<=x.bL.ax then none else some (i:Int)) 0 l with
  | none =>
   refine⟨false,rfl,?_⟩;simp only[true_iff];intro x a;obtain⟨j,o⟩:=ajS a;have:=cM.1 g j x o;split at this
   ·assumption
   ·cases this
  | some q =>
   obtain⟨j,x,p,c,_⟩:=da g;split at c
   ·cases c
   ·rename_i hbad;cases c;refine⟨true,by simp,?_⟩;simp only[al9,false_iff];exact fun h=>hbad (h x (ajX p))
 ·have r:=aP a;obtain⟨d,k⟩:=m x (ajX a);obtain⟨q,rfl⟩:=qI.1 d;have e:(b7 q).bL.ax=q.num.sign:=rfl;simp only[dW,mZ];rw[if_pos (by simpa using r),aT a,akZ,uE (by have:=rS k.1 k.2;omega),akZ,akZ,ba (by omega),e]
  by_cases h:0<=q.num.sign
  ·rw[if_neg (by rw[decide_eq_true_eq];omega),if_pos h]
  ·rw[if_pos (decide_eq_true (by omega)),if_neg h]
def DL {w:aX} (hm:w.ah.length<=5) (Q:∀m∈w.ah,rJ m.au) {S:List (List an)} (J:SzA 100 S) :
  ∃e,lA w S=some e∧(e=0↔∃s,Y7 w S s)∧(e=0∨e=1∨e=3∧∃r∈S,∃x∈r,x.bL.ax<0):=by
 have E:∀ {s:Nat->Nat->Rat},Y7 w S s->∀(i:Nat) m,w.ah[i]? = some m->∃r,S[i]? = some r∧Zk m.au r:=fun {s} h i m g=>by
  refine⟨_,h.row i m g,cZ _,fun k x a =>?_⟩;have v:k<m.au.aw.length:=by have:=aP a;rwa [cZ]at this
  rw[iE _ v]at a;obtain rfl:=alz a;refine⟨Hj _,fun y R c =>?_⟩;rw[h.tk i m g k y R c];rfl
 unfold lA
 by_cases u:S.length=w.ah.length
 rotate_left
 ·exact⟨1,by rw[if_pos (by rw[bne_iff_ne];omega)],⟨fun h=>by simp at h,fun⟨s,h⟩=>absurd h.len u⟩,.inr (.inl rfl)⟩
 rw[if_neg (by simp[u])];rcases No w.ah (fun i m=>∃r,S[i]? = some r∧Zk m.au r) (1:Int) (body:=lB w S) (by omega) (fun i m a=>by
  have g:=aP a;have z:S[i]? = some (S[i]'(by omega)):=ajL _;have n:=ajK (show i<S.length by omega);generalize S[i]'(by omega)=r at z n;have T:=Q m (ajX a);obtain⟨b,K,G⟩:=IC (f:=m.au) (l:=r) (by have:=T.srcs;omega) (J r n);simp only[lB];rw[if_pos (by simpa using g),aT a,akZ,aT z,akZ,K,akZ,ba (by omega)];cases b with
  | true=>rw[if_neg (by simp),if_pos ⟨r,z,G.1 rfl⟩]
  | false=>rw[if_pos (by simp),if_neg (fun⟨U,c,t⟩=>by rw[z]at c;rw[<- alz c]at t;have:=G.2 t;cases this)]) (by simp only[lB];rw[if_neg (by simp)]) with⟨e,o⟩|⟨e,i,m,a,p⟩
 rotate_left
 ·rw[e];exact⟨1,rfl,⟨fun h=>by simp at h,fun⟨s,h⟩=>absurd (E h i m a) p⟩,.inr (.inl rfl)⟩
 rw[e,akZ];simp only;have B:∀r∈S,∃m∈w.ah,Zk m.au r:=fun r z=>by
  obtain⟨j,V,rfl⟩:=alE z;have d:w.ah[j]? = some (w.ah[j]'(by omega)):=ajL _;obtain⟨U,c,t⟩:=o j _ d;rw[ajL V]at c;exact⟨_,ajX d,by rw[alz c];exact t⟩
 have L:∀r∈S,r.length<=100∧∀x∈r,okF x=true∧x.bL.aa.length<=100∧x.bQ.aa.length<=100:=fun r z=>by
  obtain⟨m,M,c,t⟩:=B r z;have:=(Q m M).srcs;refine⟨by omega,fun x a =>?_⟩;obtain⟨k,v⟩:=ajS a;exact⟨(t k x v).1,J r z x a⟩
 rcases No S (fun _ r=>∀x∈r,0<=x.bL.ax) (3:Int) (body:=lC S) (by omega) (fun i r a=>by
  have g:=aP a;obtain⟨k1,W⟩:=L r (ajX a);obtain⟨b,K,G⟩:=QM (l:=r) (by omega) W;simp only[lC];rw[if_pos (by simpa using g),aT a,akZ,K,akZ,ba (by omega)];cases b with
  | false=>rw[if_neg (by simp),if_pos (G.1 rfl)]
  | true=>rw[if_pos rfl,if_neg (fun h=>by have:=G.2 h;cases this)]) (by simp only[lC];rw[if_neg (by simp)]) with⟨e,N⟩|⟨e,i,r,a,p⟩
 ·rw[e];refine⟨0,rfl,⟨fun _ =>?_,fun _=>rfl⟩,.inl rfl⟩;refine⟨fun i k=>T1 ((S.getD i []).getD k zF),u,fun i m g =>?_,fun i m g k v =>?_,fun i m g k x v c =>?_⟩
  ·obtain⟨r,c,t,C⟩:=o i m g;have H:S.getD i []=r:=by rw[aj7,c];rfl
   rw[c,H];refine congrArg some (gh t fun k v =>?_);show r[k]? = some (b7 (T1 (r.getD k zF)));have d:r[k]? = some (r[k]'(by omega)):=ajL _;obtain⟨q,D⟩:=qI.1 (C k _ d).1;rw[d,aj7,d,akh,D,zo]
  ·obtain⟨r,c,t,C⟩:=o i m g;have H:S.getD i []=r:=by rw[aj7,c];rfl
   have d:r[k]? = some (r[k]'(by omega)):=ajL _;have n:=ajX c;have a:=ajX d;obtain⟨q,D⟩:=qI.1 (C k _ d).1;have I:=N i r c _ a;have O:=J r n _ a;rw[D]at I O;have P:T1 ((S.getD i []).getD k zF)=q:=by rw[H,aj7,d,akh,D,zo]
   rw[P];have h6:¬q<0:=fun h=>by have:=pt.2 h;have e:(b7 q).bL.ax=q.num.sign:=rfl;omega
   exact⟨by grind,rS O.1 O.2⟩
  ·obtain⟨r,X,t,C⟩:=o i m g;have H:S.getD i []=r:=by rw[aj7,X];rfl
   have Y:=aP v;have d:r[k]? = some (r[k]'(by omega)):=ajL _;obtain⟨q,D⟩:=qI.1 (C k _ d).1;have I:=(C k _ d).2 x v c;rw[D]at I;have P:T1 ((S.getD i []).getD k zF)=q:=by rw[H,aj7,d,akh,D,zo]
   exact P.trans (ab0.1 I)
 ·rw[e];refine⟨3,rfl,⟨fun h=>by simp at h,fun⟨s,h⟩ =>?_⟩,.inr (.inr ⟨rfl,r,ajX a,?_⟩)⟩
  ·refine absurd (fun x A =>?_) p;have g:i<w.ah.length:=by have:=aP a;omega
   have d:w.ah[i]? = some (w.ah[i]):=ajL g;have:=h.row i _ d;rw[a]at this;rw[alz this]at A;obtain⟨k,v,rfl⟩:=ajy.1 A;have c:=(h.nn i _ d k (ak2.1 v)).1;have t:¬s i k<0:=by grind
   have C:=mt pt.1 t;have e:(b7 (s i k)).bL.ax=(s i k).num.sign:=rfl;omega
  ·by_cases h:∃x∈r,x.bL.ax<0
   ·exact h
   ·exact absurd (fun x A=>Int.not_lt.1 fun Z=>h ⟨x,A,Z⟩) p
def ac2 {B:Nat} {α:Type} {l m:List α} (a:B<=1000) (h:l.length+m.length<=1000):pE B l m=some (l++m):=by
 unfold pE;have:(1000:Nat)<=maxLen:=by decide
 have b:(l.length+m.length)*B<=1000*1000:=alY h a;rw[if_pos ⟨by omega,by omega⟩]
def VR {α:Type} {P Q:Prop} {d:Decidable P} {e:Decidable Q} {a b:α} (h:P↔Q):(if P then a else b)=if Q then a else b:=by
 by_cases c:P
 ·rw[if_pos c,if_pos (h.1 c)]
 ·rw[if_neg c,if_neg (mt h.2 c)]
def B4 (w:aX) (a:Nat->Nat->Rat) (i k:Nat):Rat:=(w.ah[i]?).elim 0 fun m=>aW (List.range m.au.aw.length) fun j=>Cb m.au k j*a i j
def Al (w:aX) (s:Nat->Nat->Rat) (p:Nat):Rat:=VK w p (B4 w s)
section
variable {w:aX} {S:List (List an)} {s:Nat->Nat->Rat} {N:Nat}
def Dk (o:lX w) (p:ia w) {i:Nat} {m:bj} (g:w.ah[i]? = some m) {k:Nat} (c:k<m.au.aF.length) {a:Nat->Nat->Rat} {K:Nat} (q:K<=10000000000) (r:∀j,j<m.au.aw.length->LF (a i j)<=K) :
  ∃row,m.au.aN[k]? = some row∧jr row (cH m.au.aw.length (a i))=some (b7 (B4 w a i k))∧LF (B4 w a i k)<=1+5*(K+5):=by
 have b:=ajX g;have h:=(o.mill m b).1;have d:=(p.fit m b).flow;have s:=h.srcs;have f:m.au.aN[k]? = some (m.au.aN[k]'(by rw[d.rows];exact c)):=ajL _;generalize m.au.aN[k]'(by rw[d.rows];exact c)=row at f;have t:∀j,j<m.au.aw.length->row[j]? = some (b7 (Cb m.au k j))∧LF (Cb m.au k j)<=4:=fun j u=>by
  obtain⟨l,n,v,_,x⟩:=tJ h d c u;rw[f]at n;rw[alz n];exact⟨v,x⟩
 obtain⟨y,z⟩:=YD (by omega) t r q;have e:B4 w a i k=aW (List.range m.au.aw.length) fun j=>Cb m.au k j*a i j:=by unfold B4;rw[g];rfl
 have A:=akd (K+5) s;rw[e];exact⟨row,f,y,by omega⟩
def Ws (f:ia w) {i k:Nat} {m:bj} {y:rU} (b:w.ah[i]? = some m) (c:m.au.aF[k]? = some y) (d:y.aY=0):∃p:Nat,p<w.al.length∧P.idx m.aA y.aR=some (p:Int)∧oN w p i k:=by
 have e:=f.fit m (ajX b);obtain⟨j,g,a⟩:=PX e c d;have h:=e.ports _ (ajX a);refine⟨(m.aA.getD y.aR.toNat 0).toNat,by omega,?_,m,y,b,c,d,by omega⟩;rw[Int.toNat_of_nonneg h.1];rw[g]at a ⊢;exact aT a
open Classical in
def uF (w:aX) (s:Nat->Nat->Rat) (i k:Nat):List an:=(List.range w.al.length).map fun p=>if ∃a b,oN w p a b∧(a<i∨a=i∧b<k) then b7 (Al w s p) else zF
def FP {i k c f:Nat} (h:∀p,p<w.al.length->∀a b,oN w p a b->((a<i∨a=i∧b<k)↔(a<c∨a=c∧b<f))):uF w s i k=uF w s c f:=by
 unfold uF;refine akX fun p e =>?_;have e:=ak2.1 e;have:(∃a b,oN w p a b∧(a<i∨a=i∧b<k))↔∃a b,oN w p a b∧(a<c∨a=c∧b<f):=by
  constructor
  ·rintro⟨a,b,d,g⟩;exact⟨a,b,d,(h p e a b d).1 g⟩
  ·rintro⟨a,b,d,g⟩;exact⟨a,b,d,(h p e a b d).2 g⟩
 exact VR this
def aah (n:ia w) {i k p:Nat} (u:p<w.al.length) (g:oN w p i k):(uF w s i k).set p (b7 (B4 w s i k))=uF w s i (k+1):=by
 unfold uF;rw[gE];refine akX fun q h =>?_;have h:=ak2.1 h
 by_cases d:q=p
 ·subst d;rw[if_pos rfl,if_pos ⟨i,k,g,.inr ⟨rfl,by omega⟩⟩];unfold Al;rw[BM n h g]
 ·rw[if_neg d];have:(∃c e,oN w q c e∧(c<i∨c=i∧e<k))↔∃c e,oN w q c e∧(c<i∨c=i∧e<k+1):=by
   constructor
   ·rintro⟨a,b,f,o⟩;exact⟨a,b,f,by omega⟩
   ·rintro⟨a,b,f,o⟩;refine⟨a,b,f,?_⟩
    by_cases j:a=i∧b=k
    ·exfalso;obtain⟨rfl,rfl⟩:=j;obtain⟨v,x,r,t,_,y⟩:=f;obtain⟨z,A,l,m,_,B⟩:=g;rw[r]at l;obtain rfl:=alz l;rw[t]at m;obtain rfl:=alz m;omega
    ·omega
  exact VR this
def Xy {i k:Nat} {m:bj} {y:rU} (f:w.ah[i]? = some m) (g:m.au.aF[k]? = some y) (j:y.aY≠0):uF w s i k=uF w s i (k+1):=by
 refine FP fun p o a b c =>?_;constructor
 ·intro h;omega
 ·intro h
  by_cases l:a=i∧b=k
  ·exfalso;obtain⟨rfl,rfl⟩:=l;obtain⟨q,r,d,e,n,_⟩:=c;rw[f]at d;obtain rfl:=alz d;rw[g]at e;obtain rfl:=alz e;exact j n
  ·omega
def aaf {i:Nat} {m:bj} (e:w.ah[i]? = some m):uF w s i m.au.aF.length=uF w s (i+1) 0:=by
 refine FP fun p j a b c =>?_;constructor
 ·intro h;omega
 ·intro h;rcases h with h|h
  ·by_cases f:a=i
   ·subst f;obtain⟨k,l,d,g,_,_⟩:=c;rw[e]at d;obtain rfl:=alz d;exact .inr ⟨rfl,aP g⟩
   ·exact .inl (by omega)
  ·omega
def SY:List.replicate w.al.length zF=uF w s 0 0:=by
 unfold uF;refine gh (by simp) fun j c =>?_;rw[al4,if_pos c,if_neg];rintro⟨a,b,_,h⟩;omega
def Xx (a:ia w):uF w s w.ah.length 0=cH w.al.length (Al w s):=by
 refine akX fun p b =>?_;obtain⟨i,k,h,_⟩:=CV a (ak2.1 b);obtain⟨m,y,c,_⟩:=id h;rw[if_pos ⟨i,k,h,.inl (aP c)⟩]
def aag {i k p:Nat} (a:p<w.al.length):∃z,(uF w s i k)[p]? = some z:=⟨_,ajL (by unfold uF;rw[qq];exact a)⟩
def XA (n:lX w) (g:ia w) (o:Y7 w S s) {i:Nat} {m:bj} (b:w.ah[i]? = some m) :
  aS (ji S (i:Int) m) ((0:Int),uF w s i 0)=some (uF w s (i+1) 0):=by
 have c:=ajX b;have t:=(n.mill m c).1;have G:=t.outs;have key:=fun h d=>p9 (body:=ji S (i:Int) m) m.au.aF (by omega) (fun k (l:List an)=>l=uF w s i k) (fun l=>l=uF w s (i+1) 0) (s0:=uF w s i 0) rfl h d;refine (key ?_ ?_).elim fun x ⟨u,hx⟩=>hx ▸ u
 ·rintro k y _ e rfl;have q:=aP e;simp only[ji];rw[if_pos (by simpa using q),aT e,akZ,ba (by omega)]
  by_cases f:y.aY=0
  ·obtain⟨p,r,v,A⟩:=Ws g b e f;obtain⟨B,C,D,_⟩:=Dk n g b q (a:=s) (K:=100) (by omega) fun j E=>(o.nn i m b j E).2;obtain⟨z,F⟩:=aag (s:=s) (i:=i) (k:=k) r;rw[if_pos (by simpa using f),v,akZ,aT C,akZ,aT (o.row i m b),akZ,D,akZ,aT F,akZ,akp];exact⟨_,rfl,aah g r A⟩
  ·rw[if_neg (by simpa using f)];exact⟨_,rfl,Xy b e f⟩
 ·rintro _ rfl;refine⟨_,?_,rfl⟩;simp only[ji];rw[if_neg (by simp),aaf b]
def Xz (b:lX w) (e:ia w) (f:Y7 w S s):lZ w S=some (cH w.al.length (Al w s)):=by
 have h:=b.mills;have j:=b.given;have key:=fun c a=>p9 (body:=jh w S) w.ah (by omega) (fun i (l:List an)=>l=uF w s i 0) (fun l=>l=cH w.al.length (Al w s)) (s0:=List.replicate w.al.length zF) SY c a;have d:aS (jh w S) ((0:Int),List.replicate w.al.length zF)=some (cH w.al.length (Al w s)):=by
  refine (key ?_ ?_).elim fun x ⟨d,hx⟩=>hx ▸ d
  ·rintro i m _ hx rfl;have g:=aP hx;refine⟨_,?_,rfl⟩;simp only[jh];rw[if_pos (by simpa using g),aT hx,akZ,XA b e f hx,akZ,ba (by omega)]
  ·rintro _ rfl;refine⟨_,?_,rfl⟩;simp only[jh];rw[if_neg (by simp),Xx e]
 unfold lZ;rw[Ee _ (by omega) (by omega),akZ,d,akZ]
def aaj (a:ia w) {p:Nat} (b:p<w.al.length):∃i k,oN w p i k∧Al w s p=B4 w s i k:=by
 obtain⟨i,k,h,_⟩:=CV a b;exact⟨i,k,h,BM a b h _⟩
def Wn (b:lX w) (c:ia w) {i k:Nat} {m:bj} {y:rU} (d:w.ah[i]? = some m) (e:m.au.aF[k]? = some y) {a:Nat->Nat->Rat} {K:Nat} (f:K<=10000000000) (g:∀j,j<m.au.aw.length->LF (a i j)<=K):LF (B4 w a i k)<=1+5*(K+5):=by
 obtain⟨_,_,_,h⟩:=Dk b c d (aP e) f g;exact h
def Wm (e:lX w) (f:ia w) {i k:Nat} {m:bj} {y:rU} (d:w.ah[i]? = some m) (g:m.au.aF[k]? = some y) {a:Nat->Nat->Rat} (l:∀j,j<m.au.aw.length->0<=a i j):0<=B4 w a i k:=by
 have b:=ajX d;unfold B4;rw[d,Option.elim_some];refine Cd fun j c =>?_;have c:=ak2.1 c;obtain⟨_,_,_,h,_⟩:=tJ (e.mill m b).1 (f.fit m b).flow (aP g) c;exact al6 h (l j c)
def Vk (f:lX w) (c:ia w) (g:Y7 w S s) {p:Nat} (l:p<w.al.length):LF (Al w s p)<=2700∧0<=Al w s p:=by
 obtain⟨i,k,⟨m,y,b,h,_,_⟩,e⟩:=aaj (s:=s) c l;rw[e];have:=Wn f c b h (a:=s) (K:=100) (by omega) fun j d=>(g.nn i m b j d).2;exact⟨by omega,Wm f c b h fun j d=>(g.nn i m b j d).1⟩
def zC (w:aX) (s:Nat->Nat->Rat) (x:Nat->Rat) (i j:Nat):Rat:=(w.ah[i]?).elim 0 fun m=>(m.au.aw[j]?).elim 0 fun y=>if y.aY=1 then Ew w.al (pJ m y.aR)*x (pJ m y.aR).bJ.toNat else s i j
def ns (w:aX) (s:Nat->Nat->Rat) (x:Nat->Rat) (i k:Nat):Rat:=B4 w (zC w s x) i k
def pL (w:aX) (i:Nat):Nat:=(w.ah[i]?).elim 0 fun m=>m.au.aF.length
def vw (w:aX) (s:Nat->Nat->Rat) (x:Nat->Rat) (n:Nat):List (List an):=(List.range n).map fun i=>cH (pL w i) (ns w s x i)
def Wq (f:ia w) {x:Nat->Rat} {p:Nat} (g:p<w.al.length) (k:LF (x p)<=1000000000) {a:Int} (l : -1099511627776<=a∧a<=1099511627776) :
  kp w (cH w.al.length x) (p:Int) a=some (b7 (Rat.divInt a (w.al.getD p 0)*x p))∧LF (Rat.divInt a (w.al.getD p 0)*x p)<=1000000020:=by
 have i:eV=4398046511104:=rfl;obtain⟨j,m,n,b,c,d⟩:=tl f.given (p:=(p:Int)) (by omega);obtain rfl:p=j:=by omega
 rw[akp]at b c d;have e:w.al.getD p 0≠0:=by omega
 have o:=u6 (p:=a) e;have q:=Zs c d;have r:Ln a<=10:=by
  rcases Int.lt_trichotomy a 0 with h|h|h
  ·have:=Zs (x := -a) (by omega) (by omega);rw[Mb]at this;omega
  ·subst h;exact ajB LF_zero_ln (by decide)
  ·exact ajB (Zs (by omega) (by omega)) (by decide)
 have s:=vT (Rat.divInt a (w.al.getD p 0)) (x p);refine⟨?_,by omega⟩;unfold kp;rw[aT b,akZ,agI (by omega) (by omega) e,akZ,aT (iE x g),akZ,UO (by omega),akZ]
where
 LF_zero_ln:Ln 0<=1:=by have:=yZ;have h:=mM 0;exact ajB h this
end
section
variable {w:aX} {S:List (List an)} {s:Nat->Nat->Rat} {x:Nat->Rat}
def u7 {i j:Nat} {m:bj} {y:ib} (a:w.ah[i]? = some m) (b:m.au.aw[j]? = some y):zC w s x i j=if y.aY=1 then Ew w.al (pJ m y.aR)*x (pJ m y.aR).bJ.toNat else s i j:=by
 unfold zC;rw[a,Option.elim_some,b,Option.elim_some]
def Io (c:ia w) (d:∀p,p<w.al.length->LF (x p)<=1000000000) {m:bj} (e:m∈w.ah) {u:gC} (f:u∈m.bc) :
  kp w (cH w.al.length x) u.bJ u.aQ=some (b7 (Ew w.al u*x u.bJ.toNat))∧LF (Ew w.al u*x u.bJ.toNat)<=1000000020∧u.bJ.toNat<w.al.length:=by
 obtain⟨g,h⟩:=(c.fit m e).uses u f;have b:u.bJ.toNat<w.al.length:=by omega
 have:=Wq c b (d _ b) (a:=u.aQ) (by omega);rw[Int.toNat_of_nonneg g.1]at this;exact⟨this.1,this.2,b⟩
def ZJ (c:ia w) (f:Y7 w S s) (g:∀p,p<w.al.length->LF (x p)<=1000000000) {i:Nat} {m:bj} (b:w.ah[i]? = some m):∀j,j<m.au.aw.length->LF (zC w s x i j)<=1000000020:=fun j d=>by
 have e:m.au.aw[j]? = some m.au.aw[j]:=ajL d;have a:=ajX b;rw[u7 b e];split
 ·rename_i h;obtain⟨_,k⟩:=A2 (c.fit m a) (ajX e) h;exact (Io c g a k).2.1
 ·have:=(f.nn i m b j d).2;omega
def OH (r:lX w) (o:ia w) (v:Y7 w S s) (hx:∀p,p<w.al.length->LF (x p)<=1000000000) {i:Nat} {m:bj} (h:w.ah[i]? = some m) {e:Int} :
  aS (jV w (cH w.al.length x,e) m) ((0:Int),cH m.au.aw.length (s i))=some (cH m.au.aw.length (zC w s x i)):=by
 have a:=ajX h;have z:=(r.mill m a).1.srcs;have key:=fun n f=>p9 (body:=jV w (cH w.al.length x,e) m) m.au.aw (by omega) (fun k (l:List an)=>l=(List.range m.au.aw.length).map fun j=>if j<k then b7 (zC w s x i j) else b7 (s i j)) (fun l=>l=cH m.au.aw.length (zC w s x i)) (s0:=cH m.au.aw.length (s i)) (akX fun j _=>by rw[if_neg (by omega)]) n f;refine (key ?_ ?_).elim fun x ⟨c,hx⟩=>hx ▸ c
 ·rintro k y _ g rfl;have q:=aP g;simp only[jV];rw[if_pos (by simpa using q),aT g,akZ,ba (by omega)]
  by_cases c:y.aY=1
  ·obtain⟨t,u⟩:=A2 (o.fit m a) (ajX g) c;rw[if_pos (by simpa using c),t,akZ,(Io o hx a u).1,akZ,aT (dm _ q),akZ,akp,gE];refine⟨_,rfl,akX fun j _ =>?_⟩
   by_cases d:j=k
   ·subst d;rw[if_pos rfl,if_pos (by omega),u7 h g,if_pos c]
   ·rw[if_neg d]
    by_cases b:j<k
    ·rw[if_pos b,if_pos (by omega)]
    ·rw[if_neg b,if_neg (by omega)]
  ·rw[if_neg (by simpa using c)];refine⟨_,rfl,akX fun j _ =>?_⟩
   by_cases d:j=k
   ·subst d;rw[if_neg (by omega),if_pos (by omega),u7 h g,if_neg c]
   ·by_cases b:j<k
    ·rw[if_pos b,if_pos (by omega)]
    ·rw[if_neg b,if_neg (by omega)]
 ·rintro _ rfl;refine⟨_,?_,rfl⟩;simp only[jV];rw[if_neg (by simp)];refine congrArg some (congrArg Sum.inr (akX fun j d =>?_));rw[if_pos (ak2.1 d)]
def SV (h:lX w) (f:ia w) (o:Y7 w S s) (hx:∀p,p<w.al.length->LF (x p)<=1000000000) {i:Nat} {m:bj} (e:w.ah[i]? = some m) :
  aS (jW m (cH m.au.aw.length (zC w s x i))) ((0:Int),[])=some (cH (pL w i) (ns w s x i)):=by
 have c:=ajX e;have q:=(h.mill m c).1;have A:=q.outs;have r:=(f.fit m c).flow.rows;have t:pL w i=m.au.aF.length:=by unfold pL;rw[e];rfl
 rw[t];have key:=fun g d=>p9 (body:=jW m (cH m.au.aw.length (zC w s x i))) m.au.aN (by omega) (fun k (l:List an)=>l=cH k (ns w s x i)) (fun l=>l=cH m.au.aF.length (ns w s x i)) (s0:=[]) rfl g d;refine (key ?_ ?_).elim fun x ⟨u,hx⟩=>hx ▸ u
 ·rintro k v _ b rfl;have y:=aP b;obtain⟨j,n,z,_⟩:=Dk h f e (k:=k) (by omega) (a:=zC w s x) (K:=1000000020) (by omega) (ZJ f o hx e);rw[b]at n;obtain rfl:=alz n;refine⟨_,?_,rfl⟩;simp only[jW];rw[if_pos (by simpa using y),aT b,akZ,z,akZ,ac2 (by omega) (by rw[cZ];simp;omega),akZ,ba (by omega)];unfold cH ns;rw[al5,akR];rfl
 ·rintro _ rfl;refine⟨_,?_,rfl⟩;simp only[jW];rw[if_neg (by simp),r]
def OF (c:lX w) (g:ia w) (d:Y7 w S s) (hx:∀p,p<w.al.length->LF (x p)<=1000000000) {e:Int} :
  aS (iL w S (cH w.al.length x,e)) ((0:Int),[])=some (vw w s x w.ah.length):=by
 have k:=c.mills;have key:=fun f b=>p9 (body:=iL w S (cH w.al.length x,e)) w.ah (by omega) (fun i (l:List (List an))=>l=vw w s x i) (fun l=>l=vw w s x w.ah.length) (s0:=[]) rfl f b;refine (key ?_ ?_).elim fun x ⟨h,hx⟩=>hx ▸ h
 ·rintro i m _ a rfl;have j:=aP a;have n:=(c.mill m (ajX a)).1.srcs;refine⟨_,?_,rfl⟩;simp only[iL];rw[if_pos (by simpa using j),aT a,akZ,aT (d.row i m a),akZ];unfold gP;rw[ac2 (by omega) (by rw[cZ];simp;omega),ak6,akZ,OH c g d hx a,akZ,SV c g d hx a,akZ,ac2 (by omega) (by unfold vw;simp;omega),akZ,ba (by omega)];unfold vw;rw[al5,akR];rfl
 ·rintro _ rfl;refine⟨_,?_,rfl⟩;simp only[iL];rw[if_neg (by simp)]
structure uD (w:aX) (S:List (List an)) (s:Nat->Nat->Rat) (x:Nat->Rat) (r:Nat->Int):Prop where
 err:zG w=none
 amt:Y7 w S s
 sol:acY w.al.length (kf w.al.length (kJ (sd w))) (Al w s) x
 ae7:kb (Yn w (sd w))=some ((List.range w.al.length).map r)
 rank:rv w.al.length (kf w.al.length (kJ (sd w))) r
 trap:pA w.al.length r=[]
 sz:∀p,p<w.al.length->LF (x p)<=1000000000
 out:gm w S=some (vw w s x w.ah.length,cH w.al.length x,0)
def Z3 (a:lX w) (D:SzA 100 S) (j:zG w=none) (c:Y7 w S s) :
  (gm w S=some ([],[],24)∧∃r,kb (Yn w (sd w))=some ((List.range w.al.length).map r)∧pA w.al.length r≠[])∨∃x r,uD w S s x r:=by
 have E:=a.given;have f:=BO j;obtain⟨e,F,G,_⟩:=DL (w:=w) a.mills (fun m H=>(a.mill m H).1) D;obtain rfl:e=0:=G.2 ⟨s,c⟩;have I:=G8 a f;have o:=We E (Hi a f).2;have q:SzN (Yn w (sd w)) 2700:=afm o.2;have J:∀p,p<w.al.length->LF (Al w s p)<=2700:=fun p b=>(Vk a f c b).1;have t:SzL (cH w.al.length (Al w s)) 2700:=Yb J;have g:gm w S=(kK (Yn w (sd w)) (cH w.al.length (Al w s))).bind fun k=>if (k.2 != 0)=true then some ([],[],k.2) else (aS (iL w S k) (0,[])).bind fun l=>some (l,k.1,0):=by
  unfold gm;rw[sV a,akZ,j,if_neg (by simp),F,akZ,if_neg (by simp),of_eq a,j,akZ,if_neg (by simp),Xz a f c,akZ]
 rw[g];rcases Zu (K:=2700) (M:=6) (by decide) q t (by rw[cZ];omega) (.inl (by show ((w.al.length:Nat):Int)<=_;omega)) ahI with⟨L,n⟩|⟨N,tk,d,r,B,O,u,P,_,_,h,v,⟨y,n⟩|⟨y,x,Q,n,z⟩⟩
 ·exact absurd ⟨_,_,_,rfl,I,rfl⟩ L
 ·obtain⟨rfl,rfl⟩:=MW B;left;rw[n,akZ,if_pos (by simp)];exact⟨rfl,r,h,y⟩
 ·obtain⟨rfl,rfl⟩:=MW B;obtain⟨_,A⟩:=Yc u;have C:∀p,p<w.al.length->LF (x p)<=1000000000:=fun p b=>XsW P (z p b);right;have i:acY w.al.length (kf w.al.length (kJ (sd w))) (Al w s) x:=fun p b=>by rw[A p b];exact Q p b
  refine⟨x,r,j,c,i,h,v,y,C,?_⟩;rw[g,n,akZ,if_neg (by simp),OF a f c C,akZ]
def OE (a:lX w) (f:SzA 100 S) :
  (∃e,gm w S=some ([],[],e)∧e≠0∧((∃r,zG w=some r∧e=r.1)∨(zG w=none∧lA w S=some e)∨(zG w=none∧e=24∧∃r,kb (Yn w (sd w))=some ((List.range w.al.length).map r)∧pA w.al.length r≠[]))) ∨
  ∃s x r,uD w S s x r:=by
 cases c:zG w with
 | some r =>
  have b:=My c;left;refine⟨r.1,?_,b,.inl ⟨r,rfl,rfl⟩⟩;unfold gm;rw[sV a,akZ,c,if_pos (by simpa using b)];rfl
 | none =>
 obtain⟨e,g,i,_⟩:=DL (w:=w) a.mills (fun m j=>(a.mill m j).1) f
 by_cases d:e=0
 ·obtain⟨s,k⟩:=i.1 d;rcases Z3 a f c k with⟨l,n⟩|⟨x,r,h⟩
  ·exact .inl ⟨24,l,by decide,.inr (.inr ⟨rfl,rfl,n⟩)⟩
  ·exact .inr ⟨s,x,r,h⟩
 ·left;refine⟨e,?_,d,.inr (.inl ⟨rfl,g⟩)⟩;unfold gm;rw[sV a,akZ,c,if_neg (by simp),g,akZ,if_pos (by simpa using d)]
end
def aa3 (x:Nat->Rat) (p:Nat):∀tk:List Tk,BR tk x p=aW tk fun t=>if t.2.1=p then t.2.2*x t.1 else 0
 | []=>rfl
 | t::tk=>by simp only[BR,aW,aa3 x p tk]
def aa5 {N p:Nat} {S:Nat->Nat->Rat} (d:p<N) (f:∀a b,0<=S a b) (x:Nat->Rat):BR (kf N S) x p=aW (List.range N) fun a=>S a p*x a:=by
 rw[aa3];unfold kf;rw[mD];refine aU fun a _ =>?_;rw[tM,rm,aU (g:=fun b=>if b=p then S a b*x a else 0) fun b _ =>?_,lT d];simp only[decide_eq_true_eq]
 by_cases c:b=p
 ·rw[if_pos c]
  by_cases h:0<S a b
  ·rw[if_pos h]
  ·rw[if_neg h];have:=f a b;have e:S a b=0:=by grind
   rw[e];grind
 ·rw[if_neg c];split<;>rfl
def aga {N p:Nat} {L:List Cn} (H:Xh N L) (x:Nat->Rat):aW (List.range N) (fun a=>kJ L a p*x a)=aW L fun c=>if c.1.2=(p:Int) then c.2*x c.1.1.toNat else 0:=by
 have h1:∀a,kJ L a p*x a=aW L fun c=>if ((a:Int),(p:Int))=c.1 then c.2*x a else 0:=fun a=>by
  unfold kJ;rw[Nw,amb,<- py];exact aU fun c _=>by split<;>grind
 rw[aU fun a _=>h1 a,mE (fun (a:Nat) (c:Cn)=>if ((a:Int),(p:Int))=c.1 then c.2*x a else 0)];refine aU fun c b =>?_;have d:=H.from_ c b;rw[aU (g:=fun a=>if a=c.1.1.toNat then (if c.1.2=(p:Int) then c.2*x a else 0) else 0) fun a _ =>?_,lT (by omega)]
 by_cases h2:c.1.2=(p:Int)
 ·by_cases ha:a=c.1.1.toNat
  ·rw[if_pos ha,if_pos h2,if_pos (Prod.ext (by simp only;omega) h2.symm)]
  ·rw[if_neg ha,if_neg (fun e=>ha (by rw[<- e];simp))]
 ·rw[if_neg h2,if_neg (fun e=>h2 (by rw[<- e]))];split<;>rfl
section
variable {w:aX} {S:List (List an)} {s:Nat->Nat->Rat} {x:Nat->Rat} {r:Nat->Int}
def LV (g:List Int) (m:bj) (x:Nat->Rat) (j k:Nat):Rat:=(m.au.aw[j]?).elim 0 fun y=>if y.aY=1 then Ew g (pJ m y.aR)*Cb m.au k j*x (pJ m y.aR).bJ.toNat else 0
def Se (w:aX) (x:Nat->Rat) (i k:Nat):Rat:=(w.ah[i]?).elim 0 fun m=>aW (List.range m.au.aw.length) fun j=>LV w.al m x j k
def aee (g:List Int) (m:bj) (p:Nat) (x:Nat->Rat):aW (od g m) (fun c=>if c.1.2=(p:Int) then c.2*x c.1.1.toNat else 0)=aW (List.range m.au.aF.length) fun k=>(m.au.aF[k]?).elim 0 fun y=>if y.aY=0∧m.aA.getD y.aR.toNat 0=(p:Int) then aW (List.range m.au.aw.length) (fun j=>LV g m x j k) else 0:=by
 have h1:∀j,aW (Bi g m j) (fun c=>if c.1.2=(p:Int) then c.2*x c.1.1.toNat else 0)=aW (List.range m.au.aF.length) fun k=>(m.au.aF[k]?).elim 0 fun y=>if y.aY=0∧m.aA.getD y.aR.toNat 0=(p:Int) then LV g m x j k else 0:=by
  intro j;unfold Bi LV;cases d:m.au.aw[j]? with
  | none =>
   show (0:Rat)=_;rw[aU (g:=fun _=>0) fun k _ =>?_,jn];cases m.au.aF[k]? with
   | none=>rfl
   | some y=>simp
  | some z =>
   simp only[Option.elim_some]
   by_cases a:z.aY=1
   ·rw[if_pos a,mD];refine aU fun k _ =>?_;unfold xH;cases m.au.aF[k]? with
    | none=>rfl
    | some y =>
     simp only[Option.elim_some]
     by_cases h0:y.aY=0
     ·by_cases b:Cb m.au k j=0
      ·rw[if_neg (fun h=>h.2 b),b];show (0:Rat)=_;split<;>grind
      ·rw[if_pos ⟨h0,b⟩];simp only[aW,h0,true_and,a,if_true];split<;>grind
     ·rw[if_neg (fun h=>h0 h.1),if_neg (fun h=>h0 h.1)];rfl
   ·rw[if_neg a];show (0:Rat)=_;rw[aU (g:=fun _=>0) fun k _ =>?_,jn];cases m.au.aF[k]? with
    | none=>rfl
    | some y=>simp[a]
 unfold od;rw[mD,aU fun j _=>h1 j,mE (fun (j k:Nat)=>(m.au.aF[k]?).elim 0 fun y=>if y.aY=0∧m.aA.getD y.aR.toNat 0=(p:Int) then LV g m x j k else 0)];refine aU fun k _ =>?_;cases m.au.aF[k]? with
 | none=>exact jn _
 | some y =>
  simp only[Option.elim_some];split
  ·rfl
  ·exact jn _
def X1 (f:lX w) (c:ia w) {p i k:Nat} (d:p<w.al.length) (g:oN w p i k):BR (kf w.al.length (kJ (sd w))) x p=Se w x i k:=by
 have e:=afv f c;rw[aa5 d (S:=kJ (sd w)) (fun a b=>(yI e.pos).1),aga e,<- BM c d g (Se w x)];unfold sd VK;rw[mD,<- nZ w.ah];refine aU fun a _ =>?_;unfold Se;cases w.ah[a]? with
 | none=>rfl
 | some m=>exact aee _ m p x
def Yt (e:Y7 w S s) {i k:Nat} {m:bj} (c:w.ah[i]? = some m):ns w s x i k=B4 w s i k+Se w x i k:=by
 unfold ns B4 Se;rw[c,Option.elim_some,Option.elim_some,Option.elim_some,<- vA];refine aU fun j d =>?_;have d:=ak2.1 d;have b:m.au.aw[j]? = some m.au.aw[j]:=ajL d;generalize m.au.aw[j]=y at b;rw[u7 c b];unfold LV;rw[b,Option.elim_some]
 by_cases a:y.aY=1
 ·rw[if_pos a,if_pos a,e.tk i m c j y b a];grind
 ·rw[if_neg a,if_neg a];grind
def XW (e:lX w) (a:uD w S s x r) {p i k:Nat} (b:p<w.al.length) (c:oN w p i k):ns w s x i k=x p:=by
 have d:=BO a.err;obtain⟨m,y,f,_⟩:=id c;rw[Yt a.amt f,a.sol p b,X1 e d b c];unfold Al;rw[BM d b c]
def JR (q:Int) (c:Rat):∀l:List Int,aW l (fun z=>if z=q then c else 0)=(l.count q:Nat)*c
 | []=>by simp[aW]
 | z::l=>by
  simp only[aW,JR q c l,List.count_cons]
  by_cases h:z=q
  ·subst h;rw[if_pos rfl,if_pos (by simp),Rat.natCast_add];grind
  ·rw[if_neg h,if_neg (by simpa using h),aj5];grind
def Yv {N:Nat} (F:Nat->Rat) {l:List Int} (a:∀q∈l,0<=q∧q<(N:Int)):aW l (fun q=>F q.toNat)=aW (List.range N) fun p=>(l.count (p:Int):Nat)*F p:=by
 rw[aU (g:=fun q=>aW (List.range N) fun p=>if q=(p:Int) then F p else 0) fun q b =>?_,mE (fun (q:Int) (p:Nat)=>if q=(p:Int) then F p else 0)]
 ·exact aU fun p _=>JR _ _ l
 ·have:=a q b;rw[aU (g:=fun p=>if p=q.toNat then F p else 0) fun p _ =>?_,lT (by omega)]
  by_cases h:p=q.toNat
  ·rw[if_pos h,if_pos (by omega)]
  ·rw[if_neg h,if_neg (by omega)]
def acz (p:Nat):∀a:List bj,aW a (fun m=>((m.aA.count (p:Int):Nat):Rat))=((EU a p:Int):Rat)
 | []=>by simp[aW,EU]
 | m::a=>by
  rw[yK,Rat.intCast_add];simp only[aW,acz p a];congr 1
def Xm (a:ia w) (F:Nat->Rat):aW w.ah (fun m=>aW m.aA fun q=>F q.toNat)=aW (List.range w.al.length) F:=by
 rw[aU (g:=fun m=>aW (List.range w.al.length) fun p=>(m.aA.count (p:Int):Nat)*F p) fun m c=>Yv F (a.fit m c).ports,mE (fun (m:bj) (p:Nat)=>((m.aA.count (p:Int):Nat):Rat)*F p)];refine aU fun p d =>?_;have e:EU w.ah p=1:=by
  have:=a.once p (ak2.1 d);have:=H8 p w.ah;omega
 have b:=acz p w.ah;rw[e]at b;refine Eq.trans (aU (g:=fun m=>F p*((m.aA.count (p:Int):Nat):Rat)) fun m _=>amb _ _) ?_;rw[py,b];simp
def XX {m:bj} {N:Nat} (a:xj m N) (F:Int->Rat):aW (List.range m.au.aF.length) (fun k=>(m.au.aF[k]?).elim 0 fun y=>if y.aY=0 then F (m.aA.getD y.aR.toNat 0) else 0)=aW m.aA F:=by
 refine Eq.trans (nZ m.au.aF fun y=>if y.aY=0 then F (m.aA.getD y.aR.toNat 0) else 0) ?_;rw[aU (g:=fun y=>if (y.aY==0)=true then F (m.aA.getD y.aR.toNat 0) else 0) fun y _=>by simp only[beq_iff_eq],<- rm (fun y:rU=>y.aY==0) fun y=>F (m.aA.getD y.aR.toNat 0)];rw[<- tM (fun y:rU=>y.aR) fun n=>F (m.aA.getD n.toNat 0),LS a.gives];unfold vE;rw[tM];refine Eq.trans (aU fun j b =>?_) (nZ m.aA F);rw[akp,aj7,ajL (ak2.1 b)];rfl
def w9 (w:aX) (s:Nat->Nat->Rat) (x:Nat->Rat) (i k:Nat):Rat:=(w.ah[i]?).elim 0 fun m=>(m.au.aF[k]?).elim 0 fun y=>if y.aY=0 then 0 else ns w s x i k
def abv (t:lX w) (l:uD w S s x r) {i:Nat} {m:bj} (c:w.ah[i]? = some m) :
  aW (List.range m.au.aF.length) (w9 w s x i)=aW (List.range m.au.aw.length) (s i)+aW m.bc (fun u=>Ew w.al u*x u.bJ.toNat)-aW m.aA fun q=>x q.toNat:=by
 have v:=BO l.err;have b:=ajX c;have C:=(t.mill m b).1;have n:=v.fit m b;have d:aW (List.range m.au.aF.length) (ns w s x i)=aW (List.range m.au.aw.length) (zC w s x i):=by
  have e:∀k,ns w s x i k=aW (List.range m.au.aw.length) fun j=>Cb m.au k j*zC w s x i j:=fun k=>by unfold ns B4;rw[c];rfl
  rw[aU fun k _=>e k,mE (fun (k j:Nat)=>Cb m.au k j*zC w s x i j)];refine aU fun j f =>?_;have:=Lw C n.flow (ak2.1 f);rw[Nx]at this;rw[aU (g:=fun k=>zC w s x i j*Cb m.au k j) fun k _=>amb _ _,py,this];grind
 have D:aW (List.range m.au.aw.length) (zC w s x i)=aW (List.range m.au.aw.length) (s i)+aW m.bc fun u=>Ew w.al u*x u.bJ.toNat:=by
  rw[<- Sq n,<- vA];refine aU fun j f =>?_;have f:=ak2.1 f;have a:m.au.aw[j]? = some m.au.aw[j]:=ajL f;generalize m.au.aw[j]=y at a;rw[u7 c a];unfold Ce;rw[a,Option.elim_some]
  by_cases d:y.aY=1
  ·rw[if_pos d,if_pos d,l.amt.tk i m c j y a d];grind
  ·rw[if_neg d,if_neg d];grind
 have E:aW (List.range m.au.aF.length) (w9 w s x i)=aW (List.range m.au.aF.length) (ns w s x i)-aW (List.range m.au.aF.length) (fun k=>(m.au.aF[k]?).elim 0 fun y=>if y.aY=0 then x (m.aA.getD y.aR.toNat 0).toNat else 0):=by
  rw[<- vB];refine aU fun k o =>?_;have o:=ak2.1 o;have a:m.au.aF[k]? = some m.au.aF[k]:=ajL o;generalize m.au.aF[k]=y at a;unfold w9;rw[c,Option.elim_some,a,Option.elim_some,Option.elim_some]
  by_cases h:y.aY=0
  ·rw[if_pos h,if_pos h];obtain⟨p,F,_,z⟩:=Ws v c a h;rw[XW t l F z];obtain⟨H,I,A,B,_,G⟩:=z;rw[c]at A;obtain rfl:=alz A;rw[a]at B;obtain rfl:=alz B;rw[G,akp];grind
  ·rw[if_neg h,if_neg h];grind
 rw[E,d,D,XX n fun q=>x q.toNat]
def acG (a:ia w) (x:Nat->Rat):aW w.ah (fun m=>aW m.bc fun u=>Ew w.al u*x u.bJ.toNat)=aW (List.range w.al.length) fun p=>Rat.divInt (jO p w.ah) (w.al.getD p 0)*x p:=by
 have b:∀m∈w.ah,aW m.bc (fun u=>Ew w.al u*x u.bJ.toNat)=aW (List.range w.al.length) fun p=>YW p m*(((w.al.getD p 0:Int):Rat)⁻¹*x p):=fun m c=>by
  have d:=a.fit m c;rw[aU (g:=fun u=>aW (List.range w.al.length) fun p=>(((w.al.getD p 0:Int):Rat)⁻¹*x p)*ur p u (u.aQ:Rat)) fun u e =>?_,mE (fun (u:gC) (p:Nat)=>(((w.al.getD p 0:Int):Rat)⁻¹*x p)*ur p u (u.aQ:Rat))]
  ·refine aU fun p _ =>?_;rw[py];unfold YW;exact amb _ _
  ·have f:=(d.uses u e).1;unfold ur;rw[aU (g:=fun p=>if p=u.bJ.toNat then (((w.al.getD p 0:Int):Rat)⁻¹*x p)*(u.aQ:Rat) else 0) fun p _ =>?_,lT (by omega)]
   ·unfold Ew;rw[ama,alR];grind
   ·by_cases h:p=u.bJ.toNat
    ·rw[if_pos h,if_pos (by omega)]
    ·rw[if_neg h,if_neg (by omega)];grind
 rw[aU b,mE (fun (m:bj) (p:Nat)=>YW p m*(((w.al.getD p 0:Int):Rat)⁻¹*x p))];refine aU fun p _ =>?_;rw[aU (g:=fun m=>(((w.al.getD p 0:Int):Rat)⁻¹*x p)*YW p m) fun m _=>amb _ _,py,H7,ama,alR];grind
def xl (w:aX) (x:Nat->Rat) (p:Nat):Rat:=Rat.divInt (w.al.getD p 0-jO p w.ah) (w.al.getD p 0)*x p
def Kp (a:ia w) {p:Nat} (d:p<w.al.length):xl w x p=x p-Rat.divInt (jO p w.ah) (w.al.getD p 0)*x p:=by
 have e:1<=w.al.getD p 0:=by
  obtain⟨j,f,_,_,b,_⟩:=tl a.given (p:=(p:Int)) (by omega);simpa using b
 have c:((w.al.getD p 0:Int):Rat)≠0:=by exact_mod_cast (show w.al.getD p 0≠0 by omega)
 unfold xl;have g:=Rat.mul_inv_cancel _ c;rw[ama,ama,Rat.intCast_sub,alR,alR];grind
def ac0 (f:lX w) (d:uD w S s x r) :
  aW (List.range w.al.length) (xl w x)+aW (List.range w.ah.length) (fun i=>aW (List.range (pL w i)) (w9 w s x i))=aW (List.range w.ah.length) fun i=>(w.ah[i]?).elim 0 fun m=>aW (List.range m.au.aw.length) (s i):=by
 have b:=BO d.err;have g:aW (List.range w.ah.length) (fun i=>aW (List.range (pL w i)) (w9 w s x i))=aW (List.range w.ah.length) (fun i=>(w.ah[i]?).elim 0 fun m=>aW (List.range m.au.aw.length) (s i))+aW w.ah (fun m=>aW m.bc fun u=>Ew w.al u*x u.bJ.toNat)-aW w.ah (fun m=>aW m.aA fun q=>x q.toNat):=by
  rw[<- nZ w.ah (fun m=>aW m.bc fun u=>Ew w.al u*x u.bJ.toNat),<- nZ w.ah (fun m=>aW m.aA fun q=>x q.toNat),<- vA,<- vB];refine aU fun i c =>?_;have c:=ak2.1 c;have a:w.ah[i]? = some w.ah[i]:=ajL c;generalize w.ah[i]=m at a;have e:pL w i=m.au.aF.length:=by unfold pL;rw[a];rfl
  rw[e,a,Option.elim_some,Option.elim_some,Option.elim_some,abv f d a]
 have h:aW (List.range w.al.length) (xl w x)=aW (List.range w.al.length) x-aW (List.range w.al.length) fun p=>Rat.divInt (jO p w.ah) (w.al.getD p 0)*x p:=by
  rw[<- vB];exact aU fun p j=>Kp b (ak2.1 j)
 rw[g,h,acG b,Xm b];grind
end
def acA (q:Nat) (l:List gC) (u:gC):pI q (l++[u])=pI q l+if u.bJ=(q:Int) then u.aQ else 0:=by
 unfold pI;rw[List.foldl_append];rfl
def A0 {q:Nat} : ∀ {l:List gC},(∀u∈l,1<=u.aQ∧u.aQ<=1099511627776)->0<=pI q l∧pI q l<=l.length*1099511627776
 | [],_=>by simp[pI]
 | u::l,h=>by
  have b:=A0 (q:=q) (l:=l) fun v a=>h v (akV _ a);have c:=h u akU;have e:pI q (u::l)=(if u.bJ=(q:Int) then u.aQ else 0)+pI q l:=by
   unfold pI;rw[ake,oh (fun u:gC=>if u.bJ=(q:Int) then u.aQ else 0)];omega
  rw[e,akf];split<;>omega
def Sh (q:Nat) (a:List bj) (m:bj):jO q (a++[m])=jO q a+pI q m.bc:=by
 unfold jO;rw[List.foldl_append];rfl
section
variable {w:aX} {x:Nat->Rat}
def H9 (b:lX w) (c:ia w) (q:Nat):∀i,i<=w.ah.length->0<=jO q (w.ah.take i)∧jO q (w.ah.take i)<=i*6597069766656
 | 0,_=>by simp[jO]
 | i+1,h=>by
  have d:i<w.ah.length:=h;have f:=H9 b c q i (by omega);have a:=ajK d;have g:=(b.mill _ a).2.1;have j:=A0 (q:=q) fun u e=>((c.fit _ a).uses u e).2;rw[alX d,Sh];omega
def adx (f:lX w) (g:ia w) {i:Nat} {m:bj} (h:w.ah[i]? = some m) :
  aS (jY m) ((0:Int),(List.range w.al.length).map fun p=>w.al.getD p 0-jO p (w.ah.take i))=some ((List.range w.al.length).map fun p=>w.al.getD p 0-jO p (w.ah.take (i+1))):=by
 have a:=ajX h;have H:=(f.mill m a).2.1;have I:=aP h;have J:=f.mills;have z:=g.fit m a;have n:w.ah.take (i+1)=w.ah.take i++[m]:=by
  obtain⟨b,o⟩:=ajZ.1 h;rw[alX b,o]
 have key:=fun r c=>p9 (body:=jY m) m.bc (by omega) (fun k (l:List Int)=>l=(List.range w.al.length).map fun p=>w.al.getD p 0-(jO p (w.ah.take i)+pI p (m.bc.take k))) (fun l=>l=(List.range w.al.length).map fun p=>w.al.getD p 0-jO p (w.ah.take (i+1))) (s0:=(List.range w.al.length).map fun p=>w.al.getD p 0-jO p (w.ah.take i))
  (akX fun p _=>by rw[alp];simp[pI]) r c
 refine (key ?_ ?_).elim fun x ⟨B,hx⟩=>hx ▸ B
 ·rintro k u _ e rfl;have C:=aP e;have s:=ajX e;obtain⟨⟨K,L⟩,M,N⟩:=z.uses u s;obtain⟨p,t⟩:∃p:Nat,u.bJ=p:=⟨u.bJ.toNat,by omega⟩;have y:p<w.al.length:=by omega
  have d:m.bc.take (k+1)=m.bc.take k++[u]:=by
   obtain⟨b,o⟩:=ajZ.1 e;rw[alX b,o]
  have O:=H9 f g p i (by omega);have D:=A0 (q:=p) (l:=m.bc.take k) fun v E=>(z.uses v (akb E)).2;rw[ajP]at D;obtain⟨j,P,_,_,F,G⟩:=tl g.given (p:=(p:Int)) (by omega);rw[akp]at F G;simp only[jY];rw[if_pos (by simpa using C),aT e,akZ,t,aT (dm _ y),akZ,akp,gE,ba (by omega),mG (by omega)];refine⟨_,rfl,akX fun q _ =>?_⟩;rw[d,acA]
  by_cases A:q=p
  ·subst A;rw[if_pos rfl,if_pos t];omega
  ·rw[if_neg A,if_neg (by rw[t];omega)];omega
 ·rintro _ rfl;refine⟨_,?_,rfl⟩;simp only[jY];rw[if_neg (by simp),alx,n];exact congrArg some (congrArg Sum.inr (akX fun p _=>by rw[Sh]))
def Py {n:Nat} (d:n<=2000) (c:∀p,p<n->LF (x p)<=1000000000):cy (cH n x)=some false:=by
 unfold cy dz;rw[oA (cH n x) (fun _ _=>(none:Option Int)) (by rw[cZ];omega) (fun i f a =>?_) (by simp only[dV];rw[if_neg (by simp)])]
 ·rw[Ha];rfl
 ·have b:i<n:=by have:=aP a;rwa [cZ]at this
  rw[iE x b]at a;obtain rfl:=alz a;simp only[dV,mY];rw[if_pos (by rw[cZ];simp;omega),aT (iE x b),akZ,kC (by have:=c i b;unfold eV;omega),akZ,akZ,if_neg (by simp),ba (by omega)]
def aaM (a:ia w) (c:∀p,p<w.al.length->LF (x p)<=1000000000) {p:Nat} (b:p<w.al.length):kp w (cH w.al.length x) (p:Int) (w.al.getD p 0-jO p w.ah)=some (b7 (xl w x p))∧LF (xl w x p)<=1000000020:=by
 have f:=A3 a b;obtain⟨j,g,_,_,d,e⟩:=tl a.given (p:=(p:Int)) (by omega);rw[akp]at d e;exact Wq a b (c p b) (by omega)
def Px (f:lX w) (g:zG w=none) (hx:∀p,p<w.al.length->LF (x p)<=1000000000):iA w (cH w.al.length x)=some (cH w.al.length (xl w x)):=by
 have h:=BO g;have q:=f.given;have r:=f.mills;have d:aS (jX w) ((0:Int),w.al)=some ((List.range w.al.length).map fun p=>w.al.getD p 0-jO p w.ah):=by
  have key:=fun b a=>p9 (body:=jX w) w.ah (by omega) (fun i (l:List Int)=>l=(List.range w.al.length).map fun p=>w.al.getD p 0-jO p (w.ah.take i)) (fun l=>l=(List.range w.al.length).map fun p=>w.al.getD p 0-jO p w.ah) (s0:=w.al)
   (gh rfl fun j k=>by rw[alp,aj7,ajL k];simp[jO]) b a
  refine (key ?_ ?_).elim fun x ⟨d,hx⟩=>hx ▸ d
  ·rintro i m _ c rfl;have e:=aP c;refine⟨_,?_,rfl⟩;simp only[jX];rw[if_pos (by simpa using e),aT c,akZ,adx f h c,akZ,ba (by omega)]
  ·rintro _ rfl;refine⟨_,?_,rfl⟩;simp only[jX];rw[if_neg (by simp),alx]
 have n:aS (jZ w (cH w.al.length x) ((List.range w.al.length).map fun p=>w.al.getD p 0-jO p w.ah)) ((0:Int),[])=some (cH w.al.length (xl w x)):=by
  have key:=fun b a=>p9 (body:=jZ w (cH w.al.length x) ((List.range w.al.length).map fun p=>w.al.getD p 0-jO p w.ah)) (List.range w.al.length) (by simp;omega) (fun i (l:List an)=>l=cH i (xl w x)) (fun l=>l=cH w.al.length (xl w x)) (s0:=[]) rfl b a;refine (key ?_ ?_).elim fun x ⟨d,hx⟩=>hx ▸ d
  ·rintro i y _ o rfl;have e:i<w.al.length:=by have:=aP o;simpa using this
   refine⟨_,?_,rfl⟩;simp only[jZ];rw[qq,if_pos (by simpa using e),aT (dm _ e),akZ,(aaM h hx e).1,akZ,ac2 (by omega) (by rw[cZ];simp;omega),akZ,ba (by omega)];unfold cH;rw[al5,akR];rfl
  ·rintro _ rfl;refine⟨_,?_,rfl⟩;simp only[jZ];rw[qq,aj1,if_neg (by simp)]
 unfold iA;rw[sV f,akZ,g,if_neg (by simp),cZ,if_neg (by simp),Py (by omega) hx,akZ,akZ,if_neg (by simp)];unfold cc;rw[Fv (by simp;omega),ak6,akZ,d,akZ,n,akZ]
def Tj (b:lX w):∃l,iA w []=some l:=by
 cases a:zG w with
 | some r =>
  have c:=My a;unfold iA;rw[sV b,akZ,a,if_pos (by simpa using c)];exact⟨_,rfl⟩
 | none =>
  by_cases d:w.al.length=0
  ·have:=Px (x:=fun _=>0) b a (fun p e=>by omega);rw[d]at this;exact⟨_,this⟩
  ·unfold iA;rw[sV b,akZ,a,if_neg (by simp),if_pos (by simp;omega)];exact⟨_,rfl⟩
def XP (b:ia w) {p:Nat} (c:p<w.al.length) (d:0<=x p):0<=xl w x p∧xl w x p<=x p:=by
 have f:=A3 b c;obtain⟨j,m,_,_,g,h⟩:=tl b.given (p:=(p:Int)) (by omega);rw[akp]at g h;have a:0<((w.al.getD p 0:Int):Rat)⁻¹:=Rat.inv_pos.2 (by exact_mod_cast (show (0:Int)<w.al.getD p 0 by omega));have i:0<=((w.al.getD p 0-jO p w.ah:Int):Rat):=by exact_mod_cast (show (0:Int)<=w.al.getD p 0-jO p w.ah by omega)
 have k:0<=((jO p w.ah:Int):Rat):=by exact_mod_cast f.1
 have l:=al6 (al6 i (Rat.le_of_lt a)) d;have n:=al6 (al6 k (Rat.le_of_lt a)) d;have e:=Kp (x:=x) b c;constructor
 ·unfold xl;rw[ama,alR];exact l
 ·rw[e,ama,alR];grind
end
def af2:yt=some true:=by kernel_rfl
def aaJ {l m:List Int} (g:l.length<4611686018427387904):mC l m=some (decide (l=m)):=by
 unfold mC
 by_cases hlen:l.length=m.length
 rotate_left
 ·rw[if_pos (by rw[bne_iff_ne];omega),decide_eq_false (fun h=>hlen (by rw[h]))]
 rw[if_neg (by simp[hlen]),oA l (fun i x=>if m[i]? = some x then none else some false) g (fun i x c =>?_) (by simp only[nK];rw[if_neg (by simp)]),akZ]
 ·cases d:eC (fun (i:Nat) (x:Int)=>if m[i]? = some x then none else some false) 0 l with
  | none =>
   have:l=m:=aly fun j=>by
    by_cases f:j<l.length
    ·have h:=cM.1 d j _ (ajL f);rw[akw]at h;split at h
     ·rename_i k;rw[k,ajL f]
     ·cases h
    ·rw[alW (by omega),alW (by omega)]
   rw[decide_eq_true this]
  | some q =>
   obtain⟨j,x,n,a,_⟩:=da d;rw[akw]at a;split at a
   ·cases a
   ·rename_i hbad;cases a;rw[decide_eq_false (fun h=>hbad (by rw[<- h];exact n))]
 ·have o:=aP c;have b:m[i]? = some (m[i]'(by omega)):=ajL _;simp only[nK];rw[if_pos (by simpa using o),aT c,akZ,aT b,akZ,ba (by omega)]
  by_cases h:x=m[i]'(by omega)
  ·rw[if_neg (by simpa using h),if_pos (by rw[b,h])]
  ·rw[if_pos (by simpa using h),if_neg (fun e=>h (by rw[b]at e;exact (alz e).symm))]
def U6 {b c:aK} (h:b.aa.length<4611686018427387904):sQ b c=some (decide (b=c)):=by
 obtain⟨s,l⟩:=b;obtain⟨t,m⟩:=c;unfold sQ;simp only at h ⊢
 by_cases hs:s=t
 ·rw[if_pos (by simpa using hs),aaJ h,akZ]
  by_cases hl:l=m
  ·rw[decide_eq_true hl,decide_eq_true (by rw[hs,hl])]
  ·rw[decide_eq_false hl,decide_eq_false (fun e=>hl (aK.mk.inj e).2)]
 ·rw[if_neg (by simpa using hs),decide_eq_false (fun e=>hs (aK.mk.inj e).1)]
def af1 {a b:Rat} (h:LF a<=eV):qe (b7 a) (b7 b)=some (decide (a=b)):=by
 have c:=E1 h;unfold eV at c;unfold qe;rw[U6 (by omega),akZ]
 by_cases h1:(b7 a).bL=(b7 b).bL
 ·rw[if_pos (decide_eq_true h1),U6 (by omega),akZ]
  by_cases h2:(b7 a).bQ=(b7 b).bQ
  ·have:b7 a=b7 b:=by
    cases d:b7 a;cases f:b7 b;rw[d,f]at h1 h2;simp only at h1 h2;rw[h1,h2]
   rw[decide_eq_true h2,decide_eq_true (wF this)]
  ·rw[decide_eq_false h2,decide_eq_false (fun e=>h2 (by rw[e]))]
 ·rw[if_neg (by simpa using h1),decide_eq_false (fun e=>h1 (by rw[e]))]
def afb {n K:Nat} {f:Nat->Rat} (d:n<=100) (a:∀i,i<n->LF (f i)<=K) (g:K<=10000000000):wC (cH n f)=some (b7 (aW (List.range n) f))∧LF (aW (List.range n) f)<=1+n*(K+1):=by
 have c:eV=4398046511104:=rfl;refine⟨?_,oP a⟩;have h:=yZ;have key:aS (tr (cH n f)) (0,Ix 0)=some (Ix (0+aW (List.range n) f)):=by
  refine afn id n f (by omega) a (fun i s b j =>?_) (fun s=>by
   simp only[tr,Ix];rw[cZ,if_neg (by simp)];rfl)
  have k:i*(K+1)<=100*10000000001:=alY (by omega) (by omega);have l:=a i b;have e:ik (an.mk (aK.mk (b7 s).bL.ax (b7 s).bL.aa) (aK.mk (b7 s).bQ.ax (b7 s).bQ.aa)) (b7 (f i))=some (b7 (s+f i),0):=Ff (by omega);simp only[tr,Ix];rw[cZ,if_pos (by simpa using b),aT (iE f b),akZ,e,akZ,ba (by omega)]
 unfold wC;rw[aa8,akZ];erw [key];rw[show (0:Rat)+aW (List.range n) f=aW (List.range n) f by grind];rfl
section
variable {w:aX} {S:List (List an)} {s:Nat->Nat->Rat} {x:Nat->Rat} {r:Nat->Int}
def OG (b:lX w) (a:uD w S s x r):∀p,p<w.al.length->0<=x p:=by
 have c:=BO a.err;exact T9 (G8 b c) a.rank (Si a.rank a.trap) a.sol fun p d=>(Vk b c a.amt d).2
def abO (f:lX w) (d:uD w S s x r) {i k:Nat} {m:bj} {y:rU} (e:w.ah[i]? = some m) (g:m.au.aF[k]? = some y):0<=ns w s x i k∧LF (ns w s x i k)<=5000000126:=by
 have c:=BO d.err;have b:=ajX e;have h:=Wn f c e g (a:=zC w s x) (K:=1000000020) (by omega) (ZJ c d.amt d.sz e);refine⟨Wm f c e g fun j l =>?_,by unfold ns;omega⟩;have n:m.au.aw[j]? = some m.au.aw[j]:=ajL l;rw[u7 e n];split
 ·rename_i p;obtain⟨_,o⟩:=A2 (c.fit m b) (ajX n) p;exact al6 (Rat.le_of_lt (Mf c.given (c.fit m b) o).2) (OG f d _ (Io c d.sz b o).2.2)
 ·exact (d.amt.nn i m e j l).1
def V3 (c:lX w) (d:uD w S s x r) {i k:Nat} {m:bj} (a:w.ah[i]? = some m) (e:k<m.au.aF.length):LF (w9 w s x i k)<=5000000126:=by
 have b:m.au.aF[k]? = some m.au.aF[k]:=ajL e;unfold w9;rw[a,Option.elim_some,b,Option.elim_some];split
 ·exact ajB yZ (by decide)
 ·exact (abO c d a b).2
def Yf (g:lX w) (h:uD w S s x r) {i:Nat} {m:bj} (a:w.ah[i]? = some m) {B:Rat} (n:LF B<=1000000000000) :
  aS (gw (cH (pL w i) (ns w s x i)) m) (0,Ix B)=some (.inl (Ix (B+aW (List.range (pL w i)) (w9 w s x i)))):=by
 have j:eV=4398046511104:=rfl;have e:pL w i=m.au.aF.length:=by unfold pL;rw[a];rfl
 have o:=(g.mill m (ajX a)).1.outs;rw[e];refine afn Sum.inl _ _ (K:=5000000126) (by omega) (fun k c=>V3 g h a c) (fun k b c p =>?_) (fun b=>by
  simp only[gw,Ix];rw[cZ,if_neg (by simp)])
 have d:m.au.aF[k]? = some m.au.aF[k]:=ajL c;generalize m.au.aF[k]=y at d;obtain⟨q,t⟩:=abO g h a d;have el:w9 w s x i k=if y.aY=0 then 0 else ns w s x i k:=by
  unfold w9;rw[a,Option.elim_some,d,Option.elim_some]
 have l:ik (an.mk (aK.mk (b7 b).bL.ax (b7 b).bL.aa) (aK.mk (b7 b).bQ.ax (b7 b).bQ.aa)) (b7 (ns w s x i k))=some (b7 (b+ns w s x i k),0):=Ff (by omega);simp only[gw,Ix];rw[cZ,if_pos (by simpa using c),aT (iE _ c),akZ,uE (by omega),akZ,if_neg (by rw[decide_eq_true_eq,pt];grind),aT d,akZ,ba (by omega),el]
 by_cases f:y.aY=0
 ·rw[if_neg (by simp[f]),if_pos f,Rat.add_zero]
 ·rw[if_pos (by simpa using f),l,akZ,if_neg f]
def st8 (a b:Rat):Int×List Int×Int×List Int×Int×List Int×Int×List Int:=((b7 a).bL.ax,(b7 a).bL.aa,(b7 a).bQ.ax,(b7 a).bQ.aa,(b7 b).bL.ax,(b7 b).bL.aa,(b7 b).bQ.ax,(b7 b).bQ.aa)
def SB (w:aX) (s:Nat->Nat->Rat) (i:Nat):Rat:=(w.ah[i]?).elim 0 fun m=>aW (List.range m.au.aw.length) (s i)
def Nb (w:aX) (s:Nat->Nat->Rat) (x:Nat->Rat) (i:Nat):Rat:=aW (List.range (pL w i)) (w9 w s x i)
def ID (c:lX w) (d:uD w S s x r) {F:Rat} (h:LF F<=7000000000) {e:Int} :
  aS (eW w S (vw w s x w.ah.length,cH w.al.length x,e)) (0,st8 0 F)=some (.inl (st8 (aW (List.range w.ah.length) (SB w s)) (F+aW (List.range w.ah.length) (Nb w s x)))):=by
 have v:eV=4398046511104:=rfl;have y:=c.mills;have l:∀i,i<w.ah.length->LF (SB w s i)<=600∧LF (Nb w s x i)<=30000000000:=fun i p=>by
  have a:w.ah[i]? = some w.ah[i]:=ajL p;generalize w.ah[i]=m at a;have h:=(c.mill m (ajX a)).1;have z:=h.srcs;have I:=h.outs;have o:pL w i=m.au.aF.length:=by unfold pL;rw[a];rfl
  have J:=oP (K:=100) (n:=m.au.aw.length) (f:=s i) fun j g=>(d.amt.nn i m a j g).2;have L:=oP (K:=5000000126) (n:=m.au.aF.length) (f:=w9 w s x i) fun k A=>V3 c d a A;unfold SB Nb;rw[a,Option.elim_some,o];omega
 obtain⟨q,C,D⟩:=eE (body:=eW w S (vw w s x w.ah.length,cH w.al.length x,e))
  (fun i st=>st=((i:Int),st8 (aW (List.range i) (SB w s)) (F+aW (List.range i) (Nb w s x)))) w.ah.length
  (fun q=>q=.inl (st8 (aW (List.range w.ah.length) (SB w s)) (F+aW (List.range w.ah.length) (Nb w s x)))) (s:=(0,st8 0 F))
  (by simp only[List.range_zero,aW];rw[Rat.add_zero];rfl) (ng (by omega)) (by
   rintro i _ p rfl;have M:=oP (n:=i) (f:=SB w s) fun j g=>(l j (by omega)).1;have N:=oP (n:=i) (f:=Nb w s x) fun j g=>(l j (by omega)).2;have O:=vS F (aW (List.range i) (Nb w s x));have t:(vw w s x w.ah.length).length=w.ah.length:=by unfold vw;simp
   by_cases b:i<w.ah.length
   ·left;refine⟨b,?_⟩;have a:w.ah[i]? = some w.ah[i]:=ajL b;generalize w.ah[i]=m at a;have z:=(c.mill m (ajX a)).1.srcs;have o:pL w i=m.au.aF.length:=by unfold pL;rw[a];rfl
    have u:SB w s i=aW (List.range m.au.aw.length) (s i):=by unfold SB;rw[a];rfl
    have E:=l i b;rw[u]at E;have G:(vw w s x w.ah.length)[i]? = some (cH (pL w i) (ns w s x i)):=dm _ b;have H:ik (an.mk (aK.mk (b7 (aW (List.range i) (SB w s))).bL.ax (b7 (aW (List.range i) (SB w s))).bL.aa) (aK.mk (b7 (aW (List.range i) (SB w s))).bQ.ax (b7 (aW (List.range i) (SB w s))).bQ.aa)) (b7 (aW (List.range m.au.aw.length) (s i)))=some (b7 (aW (List.range i) (SB w s)+aW (List.range m.au.aw.length) (s i)),0):=Ff (by omega);have el:=Yf c d a (B:=F+aW (List.range i) (Nb w s x)) (by omega);simp only[Ix]at el;simp only[eW,st8];rw[t,if_pos (by simpa using b),aT (d.amt.row i m a),akZ,(afb (K:=100) (by omega) (fun j g=>(d.amt.nn i m a j g).2) (by omega)).1,akZ,H,akZ,aT G,akZ,aT a,akZ,cZ,if_neg (by rw[o];simp),el,akZ,ba (by omega)];refine⟨_,rfl,?_⟩;rw[Dq,Dq,u,<- Rat.add_assoc];rfl
   ·right;have:i=w.ah.length:=by omega
    subst this;refine⟨_,?_,rfl⟩;simp only[eW,st8];rw[t,if_neg (by simp)])
 rw[C,D]
end
def Ba (a:aX) (v:List (List an)):fp a v=some true:=by
 have A:eV=4398046511104:=rfl;obtain⟨b,B,C⟩:=aaL a;obtain⟨c,f1,f2⟩:=agY v;unfold fp;rw[af2,akZ,B,akZ];cases b with
 | false=>rfl
 | true =>
 rw[if_neg (by simp),f1,akZ,akZ];cases c with
 | false=>rfl
 | true =>
 have k:=C rfl;have D:=f2 rfl;have U:=k.given;have E:=k.mills;rw[if_neg (by simp)];rcases OE k (S:=v) (fun r G f H=>by have:=(D.row r G).2 f H;omega) with⟨e,I,J,_⟩|⟨s,x,r,d⟩
 ·obtain⟨l,L⟩:=Tj k;rw[I,akZ];simp only;rw[L,akZ,if_pos (by simpa using J)];rfl
 have z:=BO d.err;have t:=OG k d;have o:∀p,p<a.al.length->LF (xl a x p)<=1000000020:=fun p h=>(aaM z d.sz h).2;obtain⟨M,V⟩:=afb (n:=a.al.length) (f:=xl a x) (by omega) o (by omega);have N:(vw a s x a.ah.length).length=a.ah.length:=by unfold vw;simp
 have g:=ID k d (F:=aW (List.range a.al.length) (xl a x)) (by omega) (e:=0);simp only[st8]at g;rw[d.out,akZ];simp only;rw[Px k d.err d.sz,akZ,if_neg (by simp),N,if_neg (by simp),cZ,if_neg (by simp),cZ,if_neg (by simp),d.amt.len,akZ,if_neg (by simp),aa8,akZ,M,akZ];erw [g];rw[akZ];simp only;rw[oA (cH a.al.length x) (fun _ _=>(none:Option Bool)) (by rw[cZ];omega) (fun p y O =>?_) (by simp only[iZ];rw[if_neg (by simp)])]
 ·rw[Ha,akZ];simp only[if_true];have u:=ac0 k d;have W:=oP (n:=a.ah.length) (f:=SB a s) (K:=600) fun i P=>by
   have w:a.ah[i]? = some a.ah[i]:=ajL P;generalize a.ah[i]=m at w;have X:=(k.mill m (ajX w)).1.srcs;have v:=oP (K:=100) (n:=m.au.aw.length) (f:=s i) fun j Q=>(d.amt.nn i m w j Q).2;unfold SB;rw[w,Option.elim_some];omega
  have q:qe (b7 (aW (List.range a.ah.length) (SB a s))) (b7 (aW (List.range a.al.length) (xl a x)+aW (List.range a.ah.length) (Nb a s x)))=some true:=by
   rw[af1 (by omega)];refine congrArg some (decide_eq_true ?_);exact u.symm
  erw [q];rfl
 ·have h:p<a.al.length:=by have:=aP O;rwa [cZ]at this
  have Y:=d.sz p h;have Z:=o p h;obtain⟨r1,r2⟩:=XP z h (t p h);have R:¬OP (xl a x p) (x p)>0:=by
   unfold OP;split
   ·decide
   ·rw[if_neg (by grind)];decide
  have T:=t p h;simp only[iZ];rw[cZ,if_pos (by simpa using h),aT (iE x h),akZ,uE (by omega),akZ,if_neg (by rw[decide_eq_true_eq,pt];grind),aT (iE _ h),akZ,uE (by omega),akZ,if_neg (by rw[decide_eq_true_eq,pt];grind),Jf (by omega),akZ,if_neg (by rw[decide_eq_true_eq];exact R),ba (by omega)]
end Go.Proofs.YtobnihfgnbnncaaGreat.P
