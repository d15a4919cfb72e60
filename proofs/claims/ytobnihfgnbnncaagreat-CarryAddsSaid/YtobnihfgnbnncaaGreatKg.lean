import Derived.Test.YtobnihfgnbnncaaGreatKf
set_option linter.unusedSimpArgs false
set_option linter.unusedVariables false
set_option linter.defProp false
noncomputable section
open Go.Proofs.Tryz
namespace Go.Proofs.YtobnihfgnbnncaaGreat.P
open Go.RowKit
def KD {N K:Nat} {e:QE} (b:UM N K e) (p:Nat) (i:∀c,fW e.T p=some c->1-c≠0):UM N (2*K+2) (jU e p):=by
 unfold jU;cases d:fW e.T p with
 | none=>exact b.mono (by omega)
 | some c =>
  have j:LF c<=K:=b.t.sz _ (qC d);have k:=Sv 1 c;have l:=L0;have h:=i c d;refine⟨⟨?_,?_,?_⟩,?_⟩
  ·simp only;rw[j9,alo];exact (HU b.t.sorted p)
  ·intro t f;simp only[ajn]at f;obtain⟨u,g,rfl⟩:=f;exact b.t.lt u (kf.1 g).1
  ·intro t f;simp only[ajn]at f;obtain⟨u,g,rfl⟩:=f;have:=b.t.sz u (kf.1 g).1;have:=Zj (a:=u.2) h;grind
  ·have:=b.d;have:=Zj (a:=e.D) h;grind
def ahc {N h q:Nat} {e b:QE} (a:UM N h e) (f:UM N q b) (w:N<=2000) (O:4*h+3*q+20<=eX) (p:Nat):fw (mkEq e) (p:Int) (mkEq b)=some (mkEq (C0 e p b),()):=by
 have P:=a.t.len;unfold fw;rw[find_eq a.t.sorted (by omega),akO];simp only;unfold C0;rcases zf (k:=p) a.t.sorted with⟨g,u⟩|⟨c,g,u⟩
 ·rw[g];rfl
 ·rw[g];simp only[Option.isSome_some,akE,ajT,if_false];have x:e.T[(pt e.T p).length]? = some (p,c):=by
   grind
  have y:(e.T.map kg)[(pt e.T p).length]? = some (kg (p,c)):=by grind
  have j:LF c<=h:=a.t.sz (p,c) (qC g);have z:=a.d;have A:=f.d;have B:=f.t.len;have C:(mkEq e).cz=e.T.map kg:=rfl;have D:(mkEq b).cz=b.T.map kg:=rfl;have E:(mkEq b).bI=cy b.D:=rfl;have F:(mkEq e).bI=cy e.D:=rfl;have G:iy (e.T.map kg) ((pt e.T p).length:Int) (IntKind.i64.wrap (((pt e.T p).length:Int)+1))=some ((nQ e.T p).map kg):=by unfold iy;exact Z6 (by omega) u
  rw[C,aU y,akO,G,akO,F,E];have v:(kg (p,c)).iY=cy c:=rfl;rw[v,Hz (by omega),akO];have key:=fun H d=>qG (body:=gp (mkEq b) (kg (p,c))) b.T (by omega) (fun i (s:Int×List Int×Int×List Int×List fQ)=>s=((cy (e.D+c*b.D)).bQ.aq,(cy (e.D+c*b.D)).bQ.aa,(cy (e.D+c*b.D)).bX.aq,(cy (e.D+c*b.D)).bX.aa,(kW c (b.T.take i) (nQ e.T p)).map kg))
   (fun s=>s=((cy (e.D+c*b.D)).bQ.aq,(cy (e.D+c*b.D)).bQ.aa,(cy (e.D+c*b.D)).bX.aq,(cy (e.D+c*b.D)).bX.aa,(kW c b.T (nQ e.T p)).map kg)) (s0:=((cy (e.D+c*b.D)).bQ.aq,(cy (e.D+c*b.D)).bQ.aa,(cy (e.D+c*b.D)).bX.aq,(cy (e.D+c*b.D)).bX.aa,(nQ e.T p).map kg)) rfl H d
  obtain⟨r,I,rfl⟩:=key (by
   rintro i t _ l rfl;have Q:=aO l;have m:=ajM l;have J:=f.t.sz t m;have n:=Px j f.t (a.t.rem p) i;have R:=su c t.2;have o:(b.T.map kg)[i]? = some (kg t):=by grind
   have S:=Zl;refine⟨_,?_,rfl⟩;simp only[gp];rw[if_pos (by grind),D,aU o,akO,afv,akO];have K:(kg t).iY=cy t.2:=rfl;have L:(kg t).pR=(t.1:Int):=rfl;rw[v,K,Hz (by omega),akO,Rat.zero_add,L];have M:aG.mk (ak.mk (aL.mk (cy (e.D+c*b.D)).bQ.aq (cy (e.D+c*b.D)).bQ.aa) (aL.mk (cy (e.D+c*b.D)).bX.aq (cy (e.D+c*b.D)).bX.aa)) ((kW c (b.T.take i) (nQ e.T p)).map kg)=mkEq ⟨e.D+c*b.D,kW c (b.T.take i) (nQ e.T p)⟩:=rfl;rw[M,agA (e:=⟨e.D+c*b.D,kW c (b.T.take i) (nQ e.T p)⟩) n w (by omega),akO,a7 (by omega),XI c l];rfl) (by
   rintro _ rfl;refine⟨_,?_,rfl⟩;simp only[gp];grind)
  rw[I,akO];rfl
def Vb {T:List Tm} {k:Nat} (h:fW T k=none):∀t∈T,t.1≠k:=by
 induction T with
 | nil=>simp_all
 | cons u T a =>
  rw[fW]at h;grind
def X2 {e:QE} (d:j9 e.T) {p:Nat} (f:∀c,fW e.T p=some c->1-c≠0) (s:Rat) (x:Nat->Rat):(1-(fW e.T p).getD 0)*(s*(jU e p).D+eE (jU e p).T x)=s*e.D+eE e.T x-(fW e.T p).getD 0*x p:=by
 unfold jU;have b:=y4 d p x;cases a:fW e.T p with
 | none=>grind
 | some c =>
  have g:=f c a;rw[a]at b;simp only[Option.getD_some]at b ⊢;rw[adp];grind
def adK {e b:QE} (d:j9 e.T) (p:Nat) (s:Rat) (x:Nat->Rat):s*(C0 e p b).D+eE (C0 e p b).T x=s*e.D+eE e.T x+(fW e.T p).getD 0*(s*b.D+eE b.T x-x p):=by
 unfold C0;have f:=y4 d p x;cases a:fW e.T p with
 | none=>grind
 | some c =>
  rw[a]at f;simp only[Option.getD_some]at f ⊢;rw[Qd c x _ (HU d p)];grind
def ir (E0:Nat->QE):Nat->Nat->QE
 | 0,k=>E0 k
 | p+1,k=>if k<p then ir E0 p k else if k=p then jU (ir E0 p p) p else C0 (ir E0 p k) p (jU (ir E0 p p) p)
def R8 (K0:Nat):Nat->Nat
 | 0=>K0
 | p+1=>4*R8 K0 p+3
def T5 (a:Nat):∀p,R8 a p+1=4 ^ p*(a+1)
 | 0=>by simp[R8]
 | p+1=>by
  have b:=T5 a p;simp only[R8,Nat.pow_succ];grind
def agh (x:Nat->Rat) (p:Nat) (v:Rat):Nat->Rat:=fun j=>if j=p then v else x j
def Fm (E:Nat->QE) (s:Rat):∀(p:Nat),(∀k,k<p->∀t∈(E k).T,k<t.1)->∀z:Nat->Rat,∃x:Nat->Rat,(∀j,p<=j->x j=z j)∧(∀k,k<p->x k=s*(E k).D+eE (E k).T x)∧(s=0->(∀j,0<=z j)->(∀k,k<p->∀t∈(E k).T,0<=t.2)->∀j,0<=x j)
 | 0,_,z=>⟨z,fun _ _=>rfl,fun k a=>by omega,fun _ h _=>h⟩
 | p+1,hp,z=>by
  obtain⟨x,b,g,d⟩:=Fm E s p (fun k a=>hp k (by omega)) (agh z p (s*(E p).D+eE (E p).T z));refine⟨x,fun j i =>?_,fun k a =>?_,fun e hz hpos =>?_⟩
  ·rw[b j (by omega)];exact if_neg (by omega)
  ·by_cases c:k=p
   ·subst c;rw[b k (ajo _),show agh z k (s*(E k).D+eE (E k).T z) k=s*(E k).D+eE (E k).T z from if_pos rfl];congr 1;refine Kz fun t f =>?_;have:=hp k (by omega) t f;rw[b t.1 (by omega)];exact (if_neg (by omega)).symm
   grind
  ·refine d e (fun j =>?_) fun k a=>hpos k (by omega);unfold agh;split
   ·have:=v7 (x:=z) (hpos p (by omega)) fun t _=>hz t.1;grind
   ·exact hz j
def afi {a b:Rat} (d:0<=a) (e:0<b):0<=a / b:=by
 have f:a / b*b=a:=Rat.div_mul_cancel (by grind)
 by_cases h:0<=a / b
 ·exact h
 ·exfalso;have g:0 <= -(a / b)*b:=alU (by grind) (by grind);have c:a / b*b=0:=by grind
  rcases Rat.mul_eq_zero.1 c with h4|h4<;>grind
variable {N:Nat} {tk:List Tk} {r:Nat->Int}
structure vl (N:Nat) (tk:List Tk) (d:Nat->Rat) (K0:Nat) (E:Nat->QE) (p:Nat):Prop where
 sz:∀k,k<N->p<=k->UM N (R8 K0 p) (E k)
 szd:∀k,k<p->UM N (2*R8 K0 k+2) (E k)
 up:∀k,k<p->∀t∈(E k).T,k<t.1
 ge:∀k,k<N->p<=k->∀t∈(E k).T,p<=t.1
 pos:∀k,k<N->∀t∈(E k).T,0<=t.2
 sem:∀(s:Rat) (x:Nat->Rat),(∀q,q<p->x q=s*(E q).D+eE (E q).T x)->(∀k,k<p->x k=s*d k+uZ tk x k)∧∀k,k<N->p<=k->s*(E k).D+eE (E k).T x=s*d k+uZ tk x k
def K3 (g:kR N tk) (i:pH N tk r) (l:∀p,p<N->0<=r p) {d:Nat->Rat} {m:Nat} {E:Nat->QE} {p:Nat} (hE:vl N tk d m E p) (n:p<N):∀c,fW (E p).T p=some c->c<1:=by
 intro c o
 by_cases b:c<1
 ·exact b
 exfalso;obtain⟨x,C,s,u⟩:=Fm E 0 p hE.up (fun j=>if j=p then 1 else 0);have hx:=u rfl (fun j=>by split<;>grind) fun k D=>hE.pos k (by omega);obtain⟨F,f⟩:=hE.sem 0 x s;have e:x p=1:=by simp_all
 have v:∀j,p<j->x j=0:=fun j G=>by grind
 have:=AU g i l (y:=x) (fun q _=>hx q) (fun q a=>by
  rcases alV q p with h|h|h
  ·grind
  ·subst h;have w:=f q a (ajo _);have z:=y4 (hE.sz q a (ajo _)).t.sorted q x;rw[o,e]at z;have A:0<=eE (nQ (E q).T q) x:=v7 (fun t B=>hE.pos q a t (kf.1 B).1) fun t _=>hx t.1;grind
  ·have w:=f q a (by omega);have A:0<=eE (E q).T x:=v7 (hE.pos q a) fun t _=>hx t.1;grind) p n
 grind
def XD (H:kR N tk) (I:pH N tk r) (J:∀p,p<N->0<=r p) {d:Nat->Rat} {G:Nat} {i:Nat->QE} {p:Nat} (hE:vl N tk d G (ir i p) p) (m:p<N):vl N tk d G (ir i (p+1)) (p+1):=by
 have o:=K3 H I J hE m;generalize B:ir i p=E at *;have K:∀k,ir i (p+1) k=if k<p then E k else if k=p then jU (E p) p else C0 (E k) p (jU (E p) p):=fun k=>by rw[ir,B]
 have j:∀k,k<p->ir i (p+1) k=E k:=fun k e=>by rw[K,if_pos e]
 have C:ir i (p+1) p=jU (E p) p:=by simp_all
 have f:∀k,p<k->ir i (p+1) k=C0 (E k) p (jU (E p) p):=fun k e=>by grind
 have v:∀c,fW (E p).T p=some c->1-c≠0:=fun c S=>by grind
 have g:=hE.sz p m (ajo _);have L:=KD g p v;have D:∀t∈(jU (E p) p).T,p<t.1:=by
  intro t b;unfold jU at b;cases a:fW (E p).T p with
  | none =>
   rw[a]at b;have n:=hE.ge p m (ajo _) t b;have z:=Vb a t b;omega
  | some c =>
   rw[a]at b;simp only[ajn]at b;obtain⟨u,A,rfl⟩:=b;have n:=hE.ge p m (ajo _) u (kf.1 A).1;have z:=(kf.1 A).2;omega
 have l:∀t∈(jU (E p) p).T,0<=t.2:=by
  intro t b;unfold jU at b;cases a:fW (E p).T p with
  | none=>rw[a]at b;exact hE.pos p m t b
  | some c =>
   rw[a]at b;simp only[ajn]at b;obtain⟨u,A,rfl⟩:=b;have n:=hE.pos p m u (kf.1 A).1;have z:=o c a;simp only;have M:0<1-c:=by grind
   exact afi n M
 constructor
 ·intro k e w;rw[f k (by omega)];have:=adI (hE.sz k e (by omega)) L p;exact this.mono (by simp only[R8];omega)
 ·intro k e
  by_cases F:k=p
  ·simp_all
  ·rw[j k (by omega)];exact hE.szd k (by omega)
 ·intro k e
  by_cases F:k=p
  ·grind
  ·rw[j k (by omega)];exact hE.up k (by omega)
 ·intro k e w;rw[f k (by omega)];unfold C0;cases a:fW (E k).T p with
  | none =>
   intro t b;have n:=hE.ge k e (by omega) t b;have z:=Vb a t b;omega
  | some c =>
   refine Ae c (R:=fun q=>p+1<=q) _ (fun t b =>?_) D;have n:=hE.ge k e (by omega) t (kf.1 b).1;have z:=(kf.1 b).2;omega
 ·intro k e;rcases alV k p with h|h|h
  ·rw[j k h];exact hE.pos k e
  ·grind
  ·rw[f k h];unfold C0;cases a:fW (E k).T p with
   | none=>exact hE.pos k e
   | some c=>exact Pz (hE.pos k e _ (qC a)) _ (fun t b=>hE.pos k e t (kf.1 b).1) l
 ·intro s x O;have y:=O p (by omega);rw[C]at y;obtain⟨T,P⟩:=hE.sem s x fun q U=>by grind
  have Q:x p=s*(E p).D+eE (E p).T x:=by
   have n:=X2 g.t.sorted v s x;grind
  refine⟨fun k e =>?_,fun k e w =>?_⟩
  ·grind
  ·rw[f k (by omega),adK (hE.sz k e (by omega)).t.sorted,<- y,P k e (by omega)];grind
def Pg (a:kR N tk) (b:pH N tk r) (c:∀p,p<N->0<=r p) {d:Nat->Rat} {e:Nat} {f:Nat->QE} (hE:vl N tk d e f 0):∀p,p<=N->vl N tk d e (ir f p) p
 | 0,_=>hE
 | p+1,h=>XD a b c (Pg a b c hE p (by omega)) (by omega)
end Go.Proofs.YtobnihfgnbnncaaGreat.P
namespace Go.Proofs.YtobnihfgnbnncaaGreat.P
open Go.RowKit
def NQ:List Tm->(Nat->Rat)->Nat
 | [],_=>0
 | t::l,x=>LF t.2+LF (x t.1)+1+NQ l x
def AO (a b:List Tm) (x:Nat->Rat):NQ (a++b) x=NQ a x+NQ b x:=by
 induction a with
 | nil=>simp[NQ]
 | cons t a c=>simp only[List.cons_append,NQ,c];omega
def acd (T:List Tm) (i:Nat) (x:Nat->Rat):NQ (T.take i) x<=NQ T x:=by
 have:=AO (T.take i) (T.drop i) x;simp_all
def Qe {T:List Tm} {i:Nat} {t:Tm} (h:T[i]? = some t) (x:Nat->Rat):eE (T.take (i+1)) x=eE (T.take i) x+t.2*x t.1:=by
 obtain⟨a,b⟩:=ajO.1 h;rw[alK a,qI,b];simp only[eE];grind
def Su (a:Rat) (x:Nat->Rat) {T:List Tm} : ∀i,i<=T.length->LF (a+eE (T.take i) x)<=LF a+NQ (T.take i) x
 | 0,_=>by
  rw[alb];simp only[eE,NQ];grind
 | i+1,h=>by
  have c:=Su a x (T:=T) i (by omega);have b:T[i]? = some T[i]:=ajA (by omega);rw[Qe b,<- Rat.add_assoc,alK (by omega),AO];have d:=vA (a+eE (T.take i) x) (T[i].2*x T[i].1);have e:=su T[i].2 (x T[i].1);simp only[NQ];omega
def abc:∀ {T:List Tm} {a N:Nat},j9 T->(∀t∈T,a<=t.1∧t.1<N)->T.length<=N-a
 | [],_,_,_,_=>by simp
 | t::T,a,N,hs,h=>by
  obtain⟨c,d⟩:=akQ.1 hs;have e:=h t (akJ ..);have:=abc (a:=t.1+1) (N:=N) d fun u b=>⟨c u b,(h u (akK _ b)).2⟩;grind
def acb {K Q:Nat} {x:Nat->Rat} : ∀ {T:List Tm} {a N:Nat},j9 T->(∀t∈T,a<=t.1∧t.1<N)->(∀t∈T,LF t.2<=K)->(∀j,a<=j->j<N->LF (x j)<=2 ^ (N-1-j)*Q)->NQ T x+Q<=T.length*(K+1)+2 ^ (N-a)*Q
 | [],a,N,_,_,_,_=>by
  simp only[NQ,List.length_nil,ak3,akl];exact Nat.le_mul_of_pos_left _ (Nat.pow_pos (by decide))
 | t::T,a,N,hs,h,hk,hx=>by
  obtain⟨e,f⟩:=akQ.1 hs;have d:=h t (akJ ..);have g:=acb (K:=K) (Q:=Q) (x:=x) (T:=T) (a:=t.1+1) (N:=N) f (fun u b=>⟨e u b,(h u (akK _ b)).2⟩) (fun u b=>hk u (akK _ b)) fun j m c=>hx j (by omega) c;have i:=hk t (akJ ..);have k:=hx t.1 d.1 d.2;simp only[NQ,List.length_cons];rw[akZ];have l:N-(t.1+1)=N-1-t.1:=by omega
  rw[l]at g;have n:2 ^ (N-t.1)=2 ^ (N-1-t.1)*2:=by rw[<- Nat.pow_succ];congr 1;omega
  have o:2 ^ (N-t.1)*Q<=2 ^ (N-a)*Q:=aj2 _ (alW (by decide) (by omega));have p:2 ^ (N-t.1)*Q=2 ^ (N-1-t.1)*Q+2 ^ (N-1-t.1)*Q:=by grind
  omega
def LI:∀m:Nat,3*m<=4 ^ m
 | 0=>by decide
 | m+1=>by
  have:=LI m;grind
variable {N:Nat} {tk:List Tk} {r:Nat->Int}
def ab0 {d:Nat->Rat} {a:Nat} {E:Nat->QE} (h:vl N tk d a E N) {x:Nat->Rat} (q:∀k,k<N->x k=1*(E k).D+eE (E k).T x) :
  ∀k,k<N->LF (E k).D+NQ (E k).T x+1<=2 ^ (N-1-k)*(4 ^ N*(a+1))∧LF (x k)<=2 ^ (N-1-k)*(4 ^ N*(a+1)):=by
 have key:∀m k,k+m=N-1->k<N->LF (E k).D+NQ (E k).T x+1<=2 ^ (N-1-k)*(4 ^ N*(a+1))∧LF (x k)<=2 ^ (N-1-k)*(4 ^ N*(a+1)):=by
  intro m
  induction m using Nat.strongRecOn with
  | ind m l =>
   intro k n e;have c:=h.szd k e;have f:=h.up k e;have b:∀t∈(E k).T,k+1<=t.1∧t.1<N:=fun t i=>⟨f t i,c.t.lt t i⟩;have o:=acb (K:=2*R8 a k+2) (Q:=4 ^ N*(a+1)) (x:=x) c.t.sorted b c.t.sz fun j r g=>(l (N-1-j) (by omega) j (by omega) g).2;have s:=abc c.t.sorted b;have u:=c.d;have v:=T5 a k;have w:(N-k)*(2*R8 a k+3)<=4 ^ N*(a+1):=by
    have y:(N-k)*(2*R8 a k+3)<=(N-k)*(3*(4 ^ k*(a+1))):=Nat.mul_le_mul_left _ (by
     omega)
    have z:(N-k)*(3*(4 ^ k*(a+1)))=3*(N-k)*(4 ^ k*(a+1)):=by grind
    have A:3*(N-k)*(4 ^ k*(a+1))<=4 ^ (N-k)*(4 ^ k*(a+1)):=aj2 _ (LI _);have B:4 ^ (N-k)*(4 ^ k*(a+1))=4 ^ N*(a+1):=by rw[<- Nat.mul_assoc,<- Nat.pow_add];congr 2;omega
    omega
   have C:(E k).T.length*(2*R8 a k+3)<=(N-1-k)*(2*R8 a k+3):=aj2 _ (by omega);have D:(N-k)*(2*R8 a k+3)=(N-1-k)*(2*R8 a k+3)+(2*R8 a k+3):=by
    rw[<- akZ];congr 1;omega
   have p:N-(k+1)=N-1-k:=by omega
   rw[p]at o;have F:=Su (E k).D x (T:=(E k).T) (E k).T.length (ajo _);grind
 intro k e;exact key (N-1-k) k (by omega) e
def k9 (tk:List Tk) (p:Nat):List Tm:=(tk.filter fun t=>decide (t.2.1=p)).map fun t=>(t.1,t.2.2)
def CL {p:Nat} {u:Tm} : u∈k9 tk p↔∃t∈tk,t.2.1=p∧u=(t.1,t.2.2):=by
 unfold k9;simp only[ajn,akP,decide_eq_true_eq];grind
def Ue {i:Nat} {t:Tk} (h:tk[i]? = some t) (p:Nat):k9 (tk.take (i+1)) p=if t.2.1=p then k9 (tk.take i) p++[(t.1,t.2.2)] else k9 (tk.take i) p:=by
 obtain⟨a,b⟩:=ajO.1 h;unfold k9;rw[alK a,alO,akG,b];grind
def KA (x:Nat->Rat) (p:Nat):∀l:List Tk,eE (k9 l p) x=uZ l x p
 | []=>rfl
 | t::l=>by
  have a:=KA x p l;unfold k9 at a ⊢;simp only[uZ]
  by_cases b:t.2.1=p
  ·rw[if_pos b,alP (by simpa using b),ajt,eE,a]
  grind
def T3 (c:tk.Pairwise VV) (p:Nat):j9 (k9 tk p):=by
 unfold k9;rw[j9,alo];refine (c.filter _).imp_of_mem fun {a b} d e h =>?_;have f:a.2.1=p:=by simp_all
 have g:b.2.1=p:=by simp_all
 unfold VV at h;simp only;omega
def YF (p:Nat):(k9 tk p).length<=tk.length:=by
 unfold k9;grind
def Vs (d:Nat->Rat) (tk:List Tk) (p:Nat):QE:=⟨d p,k9 tk p⟩
def cv (N:Nat) (x:Nat->Rat):List ak:=(List.range N).map fun p=>cy (x p)
def dF (x:Nat->Rat):(cv N x).length=N:=sj _
def gx (x:Nat->Rat) {p:Nat} (h:p<N):(cv N x)[p]? = some (cy (x p)):=dx _ h
abbrev zF:ak:=ak.mk (aL.mk 0 []) (aL.mk 0 [])
def Mq (b:kR N tk) (d:Nat->Rat):gi (rn N tk) (cv N d)=some ((List.range N).map fun p=>mkEq (Vs d tk p)):=by
 have r:=b.ports;have q:=b.takes;unfold gi rn;simp only;rw[D1 _ (by omega) r,akO];have s:=fun c e=>qG (body:=iM (cv N d) (List.replicate N (aG.mk zF []))) (List.range N) (by simp;omega) (fun i (l:List aG)=>l=(List.range N).map fun p=>aG.mk (if p<i then cy (d p) else zF) []) (fun l=>l=(List.range N).map fun p=>mkEq (Vs d (tk.take 0) p)) (s0:=List.replicate N (aG.mk zF []))
  (fZ (by simp) fun j g=>by simp_all) c e
 obtain⟨A,v,rfl⟩:=s (by
  rintro i x _ B rfl;have k:i<N:=by grind
  refine⟨_,?_,rfl⟩;simp only[iM];rw[if_pos (by simp;omega),aU (gx d k),akO,aU (dx _ k),akO,a7 (by omega),ake,gX];grind) (by
  rintro _ rfl;refine⟨(List.range N).map fun p=>aG.mk (if p<(List.range N).length then cy (d p) else zF) [],?_,?_⟩
  ·simp only[iM];simp_all
  ·refine fZ (by simp) fun j g =>?_;rw[dx _ g,ajQ,if_pos g,alb];rfl)
 rw[v,akO];have w:=fun c e=>qG (body:=iN (gS.mk (N:Int) (tk.map yi))) tk (by omega) (fun i (l:List aG)=>l=(List.range N).map fun p=>mkEq (Vs d (tk.take i) p)) (fun l=>l=(List.range N).map fun p=>mkEq (Vs d tk p)) (s0:=(List.range N).map fun p=>mkEq (Vs d (tk.take 0) p)) rfl c e;obtain⟨C,D,rfl⟩:=w (by
  rintro i t _ m rfl;have k:=aO m;have n:=(b.rng t (ajM m)).2;have y:(tk.map yi)[i]? = some (yi t):=by simp_all
  have o:=YF (tk:=tk.take i) t.2.1;rw[ajE]at o;refine⟨_,?_,rfl⟩;simp only[iN];have a:ou 72 (mkEq (Vs d (tk.take i) t.2.1)).cz [fQ.mk (yi t).db (yi t).gj]=some ((k9 (tk.take i) t.2.1++[(t.1,t.2.2)]).map kg):=by
   unfold ou mkEq Vs;have:(17592186044416:Nat)<=maxLen:=by decide
   rw[if_pos ⟨by simp;omega,by simp;omega⟩,akG];rfl
  have z:(yi t).kq=(t.2.1:Int):=rfl;rw[if_pos (by simp;omega),aU y,akO,z,aU (dx _ n),akO,a,akO,a7 (by omega),ake,gX];congr 3;refine congrArg (fun f=>(List.range N).map f) (funext fun p =>?_);unfold Vs;rw[Ue m]
  by_cases h:p=t.2.1
  ·subst h;rw[if_pos rfl,if_pos rfl];rfl
  grind) (by
  rintro _ rfl;refine⟨_,?_,rfl⟩;simp only[iN];simp_all)
 simp_all
def elim0 (e:kR N tk) {f:Nat} {d:Nat->Rat} (h:∀p,p<N->LF (d p)<=f) (i:∀t∈tk,LF t.2.2<=f):vl N tk d f (Vs d tk) 0 where
 sz k a _:=⟨⟨T3 e.sorted k,fun t b=>by obtain⟨u,c,g,rfl⟩:=CL.1 b;exact (e.rng u c).1,fun t b=>by obtain⟨u,c,g,rfl⟩:=CL.1 b;exact i u c⟩,h k a⟩
 szd k a:=by omega
 up k a:=by omega
 ge k a _ t _:=ajp _
 pos k a t b:=by obtain⟨u,c,g,rfl⟩:=CL.1 b;exact e.pos u c
 sem s x _:=⟨fun k a=>by omega,fun k _ _=>by unfold Vs;rw[KA]⟩
def NP (a:Nat->QE) (N p:Nat):List (Bool×aG):=(List.range N).map fun k=>(decide (k<p),mkEq (ir a p k))
def zq (E:Nat->QE) (N p:Nat) (L:QE) (k:Nat):List (Bool×aG):=(List.range N).map fun j=>if j<p then (true,mkEq (E j)) else if j=p then (true,mkEq L) else if j<k then (false,mkEq (C0 (E j) p L)) else (false,mkEq (E j))
def Ta {E:Nat->QE} {L:QE} {p K:Nat} (b:N<=2000) (o:p<N) (c:∀k,k<N->p<=k->UM N K (E k)) (d:UM N (2*K+2) L) (q:10*K+50<=eX) :
  aQ (og (p:Int)) (((p+1:Nat):Int),zq E N p L (p+1))=some (zq E N p L N):=by
 have key:=fun e=>eB (body:=og (p:Int)) (fun i (s:Int×List (Bool×aG))=>s=(((p+1+i:Nat):Int),zq E N p L (p+1+i))) (N-(p+1)) (fun l=>l=zq E N p L N) (s:=(((p+1:Nat):Int),zq E N p L (p+1))) rfl (mX (by omega)) e;refine (key ?_).elim fun x ⟨f,hx⟩=>hx ▸ f;rintro i _ r rfl;have a:(zq E N p L (p+1+i)).length=N:=sj _
 by_cases g:p+1+i<N
 ·refine .inl ⟨by omega,_,?_,rfl⟩;simp only[og];have h:(zq E N p L (p+1+i))[p+1+i]? = some (false,mkEq (E (p+1+i))):=by
   unfold zq;grind
  have j:(zq E N p L (p+1+i))[p]? = some (true,mkEq L):=by
   unfold zq;simp_all
  have m:RR (true,mkEq L)=some (mkEq L):=rfl;have n:Rb (false,mkEq (E (p+1+i)))=some (mkEq (E (p+1+i))):=rfl;rw[if_pos (by grind),aU h,akO,aU j,akO,m,akO,n,akO,ahc (c _ g (by omega)) d b (by omega),akO,a7 (by omega),ake];refine congrArg some (congrArg Sum.inl (Prod.ext (by simp only;omega) ?_));simp only;unfold zq;rw[gX];grind
 ·refine .inr ⟨zq E N p L (p+1+i),?_,?_⟩
  ·simp only[og];grind
  ·congr 1;omega
def XC {a:Nat->QE} {o:Nat} {d:Nat->Rat} (q:N<=2000) (t:∀p,p<=N->vl N tk d o (ir a p) p) (r:∀p,p<N->∀c,fW (ir a p p).T p=some c->c<1) (u:∀p,p<N->10*R8 o p+50<=eX) {f:List aG} (G:f.length=N) :
  aQ (lL f) ((0:Int),NP a N 0)=some (NP a N N):=by
 have key:=fun v=>eB (body:=lL f) (fun i (s:Int×List (Bool×aG))=>s=((i:Int),NP a N i)) N (fun l=>l=NP a N N) (s:=((0:Int),NP a N 0)) rfl (mX (by omega)) v;refine (key ?_).elim fun x ⟨w,hx⟩=>hx ▸ w;rintro p _ H rfl
 by_cases e:p<N
 ·refine .inl ⟨e,_,?_,rfl⟩;have hEp:=t p (by omega);have b:∀c,fW (ir a p p).T p=some c->1-c≠0:=fun c h=>by grind
  have g:=hEp.sz p e (ajo _);have m:=u p e;have y:=KD g p b;simp only[lL];have z:(NP a N p)[p]? = some (false,mkEq (ir a p p)):=by
   unfold NP;simp_all
  have A:Rb (false,mkEq (ir a p p))=some (mkEq (ir a p p)):=rfl;have B:(NP a N p).set p (true,mkEq (jU (ir a p p) p))=zq (ir a p) N p (jU (ir a p p) p) (p+1):=by
   unfold NP zq;rw[gX];grind
  have C:zq (ir a p) N p (jU (ir a p p) p) N=NP a N (p+1):=by
   unfold NP zq;refine akM fun j D =>?_;have E:=akR.1 D;rw[ir];rcases alV j p with h|h|h
   ·grind
   ·simp_all
   grind
  rw[if_pos (by simp;omega),aU z,akO,A,akO,ads g.t g.d q (by omega) b,akO,a7 (by omega),ake,B,Ta q e (fun k F n=>hEp.sz k F n) y m,akO,C]
 ·have:p=N:=by omega
  subst this;refine .inr ⟨_,?_,rfl⟩;simp only[lL];simp_all
def CX (x:Nat->Rat) (N i:Nat):List ak:=(List.range N).map fun j=>if N<=j+i then cy (x j) else zF
def SJ {b:Nat->QE} {h:Nat} {d x:Nat->Rat} (hN:N<=2000) (m:vl N tk d h (ir b N) N) (hx:∀k,k<N->x k=1*(ir b N k).D+eE (ir b N k).T x) (B:2*(2 ^ N*(4 ^ N*(h+1)))+100<=eX) :
  aQ (lM (NP b N N)) ((N:Int)-1,CX x N 0)=some (cv N x):=by
 have n:=ab0 m hx;have key:=fun n=>eB (body:=lM (NP b N N)) (fun i (s:Int×List ak)=>s=((N:Int)-1-i,CX x N i)) N (fun l=>l=cv N x) (s:=((N:Int)-1,CX x N 0)) (by simp) (mX (by omega)) n;refine (key ?_).elim fun x ⟨C,hx⟩=>hx ▸ C;rintro i _ hi rfl
 by_cases D:i<N
 ·refine .inl ⟨D,_,?_,rfl⟩;obtain⟨p,hp⟩:∃p,p+i+1=N:=⟨N-1-i,by omega⟩;have a:p<N:=by omega
  have E:(N:Int)-1-(i:Int)=(p:Int):=by omega
  obtain⟨F,G⟩:=n p a;have y:=m.szd p a;have o:=m.up p a;have H:2 ^ (N-1-p)*(4 ^ N*(h+1))<=2 ^ N*(4 ^ N*(h+1)):=aj2 _ (alW (by decide) (by omega));have I:=hx p a;generalize J:ir b N p=e at *;simp only[lM];have K:(NP b N N)[p]? = some (true,mkEq e):=by
   unfold NP;simp_all
  have L:RR (true,mkEq e)=some (mkEq e):=rfl;have M:(mkEq e).bI=cy e.D:=rfl;have O:(mkEq e).cz=e.T.map kg:=rfl;have hn:=Zl;rw[E,if_pos (by simp),aU K,akO,L,akO,afv,akO,M,Hz (by omega),akO];have P:e.D+0*0=e.D:=by grind
  rw[P];have Q:=y.t.len;have R:=fun q c=>qG (body:=qT (CX x N i) (mkEq e)) e.T (by omega) (fun j (s:Int×List Int×Int×List Int)=>s=((cy (e.D+eE (e.T.take j) x)).bQ.aq,(cy (e.D+eE (e.T.take j) x)).bQ.aa,(cy (e.D+eE (e.T.take j) x)).bX.aq,(cy (e.D+eE (e.T.take j) x)).bX.aa))
   (fun s=>s=((cy (x p)).bQ.aq,(cy (x p)).bQ.aa,(cy (x p)).bX.aq,(cy (x p)).bX.aa)) (s0:=((cy e.D).bQ.aq,(cy e.D).bQ.aa,(cy e.D).bX.aq,(cy e.D).bX.aa)) (by rw[alb,eE,Rat.add_zero]) q c
  obtain⟨r7,S,rfl⟩:=R (by
   rintro j t _ r rfl;have U:=aO r;have g:=ajM r;have u:=y.t.lt t g;have V:=o t g;have W:(e.T.map kg)[j]? = some (kg t):=by simp_all
   have v:(CX x N i)[t.1]? = some (cy (x t.1)):=by
    unfold CX;rw[dx _ u,if_pos (by omega)]
   have X:=Su e.D x (T:=e.T) j (by omega);have z:=acd e.T j x;have A:LF t.2+LF (x t.1)+1<=NQ e.T x:=by
    have:=AO (e.T.take j) (e.T.drop j) x;rw[ak2,ala U]at this;simp only[NQ]at this;grind
   refine⟨_,?_,rfl⟩;simp only[qT];have Y:(kg t).iY=cy t.2:=rfl;have Z:(kg t).pR=(t.1:Int):=rfl;have e7:ak.mk (aL.mk (cy (e.D+eE (e.T.take j) x)).bQ.aq (cy (e.D+eE (e.T.take j) x)).bQ.aa) (aL.mk (cy (e.D+eE (e.T.take j) x)).bX.aq (cy (e.D+eE (e.T.take j) x)).bX.aa)=cy (e.D+eE (e.T.take j) x):=rfl;rw[if_pos (by simp_all),O,aU W,akO,Z,aU v,akO,Y,e7,Hz (by omega),akO,a7 (by omega),Qe r,<- Rat.add_assoc]) (by
   rintro _ rfl;refine⟨((cy (e.D+eE (e.T.take e.T.length) x)).bQ.aq,(cy (e.D+eE (e.T.take e.T.length) x)).bQ.aa,(cy (e.D+eE (e.T.take e.T.length) x)).bX.aq,(cy (e.D+eE (e.T.take e.T.length) x)).bX.aa),?_,?_⟩
   ·simp only[qT];simp_all
   simp_all)
  rw[S,akO];have w:(CX x N i)[p]? = some zF:=by
   unfold CX;grind
  simp only;rw[aU w,akO,ake];have hw:IntKind.i64.wrap ((p:Int)-1)=(N:Int)-1-((i+1:Nat):Int):=by rw[wrap64 (by omega) (by omega)];omega
  rw[hw];refine congrArg some (congrArg Sum.inl (congrArg (Prod.mk _) ?_));show (CX x N i).set p (cy (x p))=CX x N (i+1);unfold CX;rw[gX];refine congrArg (fun f=>(List.range N).map f) (funext fun j =>?_);grind
 ·have:i=N:=by omega
  subst this;refine .inr ⟨_,?_,rfl⟩;simp only[lM];rw[if_neg (by simp;omega)];congr 2;unfold CX cv;simp_all
end Go.Proofs.YtobnihfgnbnncaaGreat.P
namespace Go.Proofs.YtobnihfgnbnncaaGreat.P
open Go.RowKit
def SF {l:List ak} (n:Int) (o:l.length<=17592186044416) (g:∀f∈l,acK f):kM l n=some (decide ((l.length:Int)=n)&&l.all okF):=by
 unfold kM
 by_cases d:(l.length:Int)=n
 rotate_left
 ·rw[if_neg (by simpa using d),decide_eq_false d];rfl
 rw[if_pos (by simpa using d),decide_eq_true d,akF];unfold cJ cZ;rw[oe l (fun i x=>if okF x=true then none else some (i:Int)) (by omega) (fun i x a =>?_) (by simp only[dC];rw[if_neg (by simp)])]
 ·rw[akO];cases b:eN (fun i x=>if okF x=true then none else some (i:Int)) 0 l with
  | none =>
   simp only;rw[akO,decide_eq_false (by decide),akO];have:l.all okF=true:=ajy.2 fun x a=>by
    obtain⟨j,k⟩:=ajH a;have:=cV.1 b j x k
    by_cases h:okF x=true
    ·exact h
    ·rw[if_neg h]at this;cases this
   rw[this];rfl
  | some r =>
   obtain⟨j,x,m,e,_⟩:=dn b
   by_cases h:okF x=true
   ·rw[if_pos h]at e;cases e
   ·rw[if_neg h]at e;cases e;simp only;rw[akO,decide_eq_true (by omega),akO];have:l.all okF=false:=by
     cases c:l.all okF with
     | false=>rfl
     | true=>exact absurd (ajy.1 c x (ajM m)) h
    rw[this];rfl
 ·have p:=aO a;simp only[dC,kz];rw[if_pos (by simp;omega),aU a,akO,xj (g x (ajM a)),akO,akO];cases okF x with
  | true=>rw[a7 (by omega)];rfl
  | false=>rfl
def abf {l:List ak} {N:Nat} (b:l.length=N) (h:l.all okF=true):∃d:Nat->Rat,l=cv N d:=by
 obtain⟨qs,a,_⟩:=Aw (mk:=cy) (R:=fun _=>True) (l:=l) fun x c=>by
  obtain⟨q,a⟩:=qv.1 (ajy.1 h x c);exact⟨q,a,trivial⟩
 refine⟨fun p=>qs.getD p 0,?_⟩;subst a;rw[ajP]at b;refine fZ (by simpa using b) fun j f =>?_;have e:(fun p=>qs.getD p 0) j=qs[j]'(by omega):=by
  show qs.getD j 0=_;rw[ajW,ajA (by omega)];rfl
 rw[ajl,ajA (by omega),e];rfl
def XY (N:Nat) (d:Nat->Rat):(cv N d).all okF=true:=ajy.2 fun x a=>by
 unfold cv at a;obtain⟨p,_,rfl⟩:=ajn.1 a;exact G8 _
def X0 {N M:Nat} {d e:Nat->Rat} (h:cv N d=cv M e):N=M∧∀p,p<N->d p=e p:=by
 have a:=congrArg List.length h;rw[dF,dF]at a;subst a;refine⟨rfl,fun p b =>?_⟩;have c:=gx (N:=N) d b;rw[h,gx e b]at c;exact (wa (aln c)).symm
def DX {N:Nat} {d e:Nat->Rat} (h:∀p,p<N->d p=e p):cv N d=cv N e:=akM fun p a=>by rw[h p (akR.1 a)]
def abe {N K:Nat} {d:Nat->Rat} (h:∀f∈cv N d,f.bQ.aa.length<=K∧f.bX.aa.length<=K):∀p,p<N->LF (d p)<=K:=fun p a=>by
 have:=h _ (ajM (gx d a));exact qp this.1 this.2
def XZ {N K:Nat} {d:Nat->Rat} (h:∀p,p<N->LF (d p)<=K):∀f∈cv N d,f.bQ.aa.length<=K∧f.bX.aa.length<=K:=fun f a=>by
 unfold cv at a;obtain⟨p,b,rfl⟩:=ajn.1 a;exact Ba (h p (akR.1 b))
def SC (n:gS) (l:List ak):Prop:=∃N tk d,n=rn N tk∧kR N tk∧l=cv N d
abbrev SzN (n:gS) (K:Nat):Prop:=∀t∈n.bd,t.gj.bQ.aa.length<=K∧t.gj.bX.aa.length<=K
abbrev SzL (l:List ak) (K:Nat):Prop:=∀f∈l,f.bQ.aa.length<=K∧f.bX.aa.length<=K
def afa {N K:Nat} {tk:List Tk} (h:∀t∈tk,LF t.2.2<=K):SzN (rn N tk) K:=fun t a=>by
 simp only[rn,ajn]at a;obtain⟨u,b,rfl⟩:=a;exact Ba (h u b)
def afE {N K:Nat} {tk:List Tk} (h:SzN (rn N tk) K):∀t∈tk,LF t.2.2<=K:=fun t a=>by
 have:=h (yi t) (by simp only[rn];exact List.mem_map_of_mem a);exact qp this.1 this.2
def H5 {N:Nat} {tk:List Tk} {r:Nat->Int} (b:pH N tk r) (h:mD N r=[]):∀p,p<N->0<=r p:=by
 intro p a;have c:=b.ge p a;have d:r p ≠ -1:=fun e=>by
  have:p∈mD N r:=akP.2 ⟨akR.2 a,by simpa using e⟩;rw[h]at this;cases this
 omega
def Zo {n : gS} {l : List ak} {K M : Nat} (F : K <= 1000000) (R : SzN n K) (G : SzL l K) (k : l.length <= 17592186044416) (Y : n.aB <= (M : Int) ∨ 2000 < n.aB) (hS : 2 * (2 ^ M * (4 ^ M * (K + 1))) + 100 <= eX) :
    (¬ SC n l ∧ ky n l = some ([], 1)) ∨
    ∃ N tk d r, n = rn N tk ∧ kR N tk ∧ l = cv N d ∧ N <= M ∧ (∀ t ∈ tk, LF t.2.2 <= K) ∧ (∀ p, p < N -> LF (d p) <= K) ∧ jV n = some ((List.range N).map r) ∧ pH N tk r ∧
      ((mD N r ≠ [] ∧ ky n l = some ([], 24)) ∨
       (mD N r = [] ∧ ∃ x, L4 N tk d x ∧ ky n l = some (cv N x, 0) ∧ ∀ p, p < N -> LF (x p) <= 2 ^ (N - 1 - p) * (4 ^ N * (K + 1)))) := by
  have m : K <= sw := ajq F (by unfold sw; omega);obtain ⟨b, o, s⟩ := Lc F R;have u := SF n.aB k fun f S => ⟨ajq (G f S).1 m, ajq (G f S).2 m⟩;have v : ¬ SC n l -> ky n l = some ([], 1) := by
    intro w;unfold ky;rw [o, akO, u, akO];cases b with
    | false => simp
    | true =>
      obtain ⟨N, tk, rfl, c⟩ := s.1 rfl;have : (decide ((l.length : Int) = (rn N tk).aB) && l.all okF) = false := by
        by_cases H : (l.length : Int) = (rn N tk).aB
        · cases T : l.all okF with
          | false => rw [Bool.and_false]
          | true =>
            have U : l.length = N := by simp only [rn] at H; omega
            obtain ⟨d, D⟩ := abf U T;exact absurd ⟨N, tk, d, rfl, c, D⟩ w
        · rw [decide_eq_false H, ale]
      rw [this]; simp
  by_cases w : SC n l
  rotate_left
  · exact .inl ⟨w, v w⟩
  obtain ⟨N, tk, d, rfl, c, rfl⟩ := w;obtain rfl : b = true := s.2 ⟨N, tk, rfl, c⟩;have E := c.ports;have g : N <= M := by simp only [rn] at Y; omega
  have I := afE R;have D := abe G;obtain ⟨r, y, e⟩ := abM c F I;have J := Ui E y;refine .inr ⟨N, tk, d, r, rfl, c, rfl, g, I, D, y, e, ?_⟩;have z : ∀ (q : List Int), lC (rn N tk) = some q -> ky (rn N tk) (cv N d) = if decide ((q.length : Int) > 0) = true then some ([], 24) else
      (gi (rn N tk) (cv N d)).bind fun V =>
      (aQ (lL V) (0, (Kk V))).bind fun a =>
      (Io 64 (rn N tk).aB (rn N tk).aB (ak.mk (aL.mk 0 ([])) (aL.mk 0 ([])))).bind fun L =>
      (aQ (lM a) (IntKind.i64.wrap (((a).length : Int) - 1), L)).bind fun A =>
      some (A, 0) := by
    intro q Z;unfold ky;rw [o, akO, u, akO, Z];rw [decide_eq_true (show ((cv N d).length : Int) = (rn N tk).aB by rw [dF]; rfl), XY];simp only [akE, ajT, if_false, Bool.and_self, Option.bind_some]
  rw [z _ J]
  by_cases B : mD N r = []
  rotate_left
  · refine .inl ⟨B, ?_⟩
    have : 0 < (mD N r).length := ak4.2 B;rw [if_pos (by rw [qM]; simp; omega)]
  refine .inr ⟨B, ?_⟩;have W := H5 e B;rw [if_neg (by rw [qM, B]; simp)];have h := Pg c e W (elim0 c D I);have X : 2 ^ N * (4 ^ N * (K + 1)) <= 2 ^ M * (4 ^ M * (K + 1)) := alL (alW (by decide) g) (aj2 _ (alW (by decide) g));obtain ⟨x, _, O, _⟩ := Fm (ir (Vs d tk) N) 1 N (h N (ajo _)).up (fun _ => 0);have C := ((h N (ajo _)).sem 1 x O).1;have P := ab0 (h N (ajo _)) O;refine ⟨x, fun p i => by have := C p i; grind, ?_, fun p i => (P p i).2⟩;rw [Mq c, akO];have e1 : Kk ((List.range N).map fun p => mkEq (Vs d tk p)) = NP (Vs d tk) N 0 := by
    unfold Kk NP;rw [List.map_map];exact akM fun p _ => by simp [ir]
  have Q : ∀ p, p < N -> 10 * R8 K p + 50 <= eX := fun p i => by
    have H := T5 K p;have T : 4 ^ p * (K + 1) * 4 <= 4 ^ N * (K + 1) := by
      rw [Nat.mul_right_comm, <- Nat.pow_succ];exact aj2 _ (alW (by decide) (by omega))
    have U : 2 * (4 ^ N * (K + 1)) <= 2 ^ N * (4 ^ N * (K + 1)) := aj2 _ (by
      have : 2 ^ 1 <= 2 ^ N := alW (by decide) (by omega);omega)
    omega
  rw [e1, XC E h (fun p i => K3 c e W (h p (by omega)) i) Q (by simp), akO];have e2 : (rn N tk).aB = (N : Int) := rfl;have e3 : (NP (Vs d tk) N N).length = N := sj _;have e4 : List.replicate N zF = CX x N 0 := by
    refine fZ (by simp) fun j hj => ?_;rw [alS, if_pos hj, if_neg (by omega)]
  rw [e2, D1 _ (by omega) E, akO, e3, wrap64 (by omega) (by omega), e4, SJ E (h N (ajo _)) O (by omega), akO]
set_option maxRecDepth 100000
def SzL.mono {l:List ak} {K a:Nat} (h:SzL l K) (b:K<=a):SzL l a:=fun f c=>⟨ajq (h f c).1 b,ajq (h f c).2 b⟩
def SzN.mono {n:gS} {K a:Nat} (h:SzN n K) (b:K<=a):SzN n a:=fun f c=>⟨ajq (h f c).1 b,ajq (h f c).2 b⟩
section
variable {N:Nat} {tk:List Tk} {r:Nat->Int}
end
def oC:List Rat->Rat
 | []=>0
 | q::l=>q+oC l
def R6 (a b:List Rat):oC (a++b)=oC a+oC b:=by
 induction a with
 | nil=>rw[akV,oC,Rat.zero_add]
 | cons q a c=>rw[ak6,oC,oC,c];grind
def UE {K:Nat} {l:List Rat} (h:∀q∈l,LF q<=K):LF (oC l)<=1+l.length*(K+1):=by
 induction l with
 | nil=>simp only[oC];exact ajq (zY (n:=0) (by decide)) (by omega)
 | cons q l a =>
  have c:=h q (akJ ..);have d:=a fun x b=>h x (akK _ b);have e:=vA q (oC l);simp only[oC,List.length_cons];grind
def Xm {a b:Rat} : OL a b=0↔a=b:=by
 unfold OL;grind
def B9 (l:List ak):Prop:=∃a:List Rat,l=a.map cy∧(∀q∈a,0<=q)∧oC a=1
def aep {a b:Rat} (h:LF a+LF b+1<=eX):rX (cy a) (cy b)=some (cy (a+b)):=by
 unfold rX;rw[NR h];rfl
def acx {l:List ak} (B:l.length<=100) (C:∀f∈l,f.bQ.aa.length<=6∧f.bX.aa.length<=6):∃b,si l=some b∧(b=true↔B9 l):=by
 have D:eX=4398046511104:=rfl;have g:gO 0=some (cy 0):=Y9 (n:=0) (by decide);unfold si;rw[g,akO];obtain⟨q,o,r⟩:=eB (body:=rY l)
  (fun i E=>∃c:List Rat,l.take i=c.map cy∧(∀q∈c,0<=q∧LF q<=6)∧E=((i:Int),(cy (oC c)).bQ.aq,(cy (oC c)).bQ.aa,(cy (oC c)).bX.aq,(cy (oC c)).bX.aa)) l.length
  (fun q=>(q=.inr false∧¬B9 l)∨∃c:List Rat,l=c.map cy∧(∀q∈c,0<=q∧LF q<=6)∧q=.inl ((cy (oC c)).bQ.aq,(cy (oC c)).bQ.aa,(cy (oC c)).bX.aq,(cy (oC c)).bX.aa))
  (s:=(0,(cy 0).bQ.aq,(cy 0).bQ.aa,(cy 0).bX.aq,(cy 0).bX.aa)) ⟨[],rfl,fun q m=>by simp at m,rfl⟩ (mX (by omega)) (by
   rintro i _ O ⟨c,F,m,rfl⟩;simp only[rY];have G:c.length=i:=by
    have:=congrArg List.length F;grind
   by_cases e:i<l.length
   ·have A:l[i]? = some l[i]:=ajA e;have t:=C _ (ajz e);have u:l.take (i+1)=l.take i++[l[i]]:=alK e;have d:l[i]∈l:=ajz e;generalize l[i]=f at A t u d;rw[if_pos (by simpa using e),aU A,akO,xj ⟨by unfold sw;omega,by unfold sw;omega⟩,akO];cases j:okF f with
    | false =>
     right;refine⟨_,rfl,.inl ⟨rfl,?_⟩⟩;rintro⟨p,o,_,_⟩;rw[o]at d;obtain⟨q,_,rfl⟩:=ajn.1 d;rw[G8]at j;cases j
    | true =>
     obtain⟨q,rfl⟩:=qv.1 j;have H:LF q<=6:=qp t.1 t.2;simp only[akE,ajT,if_false];rw[zZ (by omega),akO]
     by_cases hneg:q<0
     ·right;refine⟨_,by rw[if_pos (decide_eq_true (ud.2 hneg))],.inl ⟨rfl,?_⟩⟩;rintro⟨p,o,r,_⟩;rw[o]at d;obtain⟨I,v,w⟩:=ajn.1 d;have:=r I v;rw[wa w]at this;grind
     ·left;refine⟨e,?_⟩;have y:=UE (K:=6) (l:=c) fun x z=>(m x z).2;have J:rX (cy (oC c)) (cy q)=some (cy (oC c+q)):=aep (by omega);rw[if_neg (by rw[decide_eq_true_eq];exact fun h=>hneg (ud.1 h)),a7 (by omega)];refine⟨_,by erw [J];rfl,c++[q],?_,?_,?_⟩
      ·simp_all
      ·grind
      ·have:oC (c++[q])=oC c+q:=by rw[R6];simp only[oC];grind
       rw[this]
   grind)
 erw [o];rw[akO];rcases r with⟨rfl,L⟩|⟨c,rfl,m,rfl⟩
 ·simp_all
 ·have k:gO 1=some (cy 1):=adm;simp only[ajP]at B;have y:=UE (K:=6) (l:=c) fun x z=>(m x z).2;have M:LF (1:Rat)<=1:=zY (n:=1) (by decide);have N:jo (cy (oC c)) (cy 1)=some (OL (oC c) 1):=I8 (by omega);simp only;rw[k,akO];refine⟨_,by erw [N];rfl,?_⟩;rw[beq_iff_eq,Xm];constructor
  ·intro h;exact⟨c,rfl,fun q h=>(m q h).1,h⟩
  ·rintro⟨p,w,_,h⟩;rw[(List.map_inj_right fun a b=>wa).1 w];exact h
def Cc (f:fb) (i:Nat):List ak:=f.aM.map fun l=>(l[i]?).getD (ak.mk (aL.mk 0 ([])) (aL.mk 0 ([])))
structure E6 (f:fb):Prop where
 srcs:f.au.length<=100
 outs:f.aP.length<=100
 rows:f.aM.length=f.aP.length
 out:∀x∈f.aP,0<=x.bh∧x.bh<=3∧0<=x.aV
 row:∀l∈f.aM,l.length=f.au.length
 src:∀x∈f.au,0<=x.bh∧x.bh<=2∧0<=x.aV
 col:∀i,i<f.au.length->B9 (Cc f i)
structure rz (f:fb):Prop where
 srcs:f.au.length<=5
 outs:f.aP.length<=5
 rows:f.aM.length<=8
 row:∀l∈f.aM,l.length<=8∧∀x∈l,x.bQ.aa.length<=4∧x.bX.aa.length<=4
def Z0 {f:fb} {i:Nat} (r:i<f.au.length) (s:f.aM.length=f.aP.length) (a:∀l∈f.aM,l.length=f.au.length) (t:f.aP.length<=100) :
  ∃c:List ak,aQ (iB f (i:Int)) ((0:Int),List.replicate f.aP.length (ak.mk (aL.mk 0 ([])) (aL.mk 0 ([]))))=some c∧f.aM.map (fun l=>l[i]?)=c.map some:=by
 have key:=fun e b=>qG (body:=iB f (i:Int)) f.aP (by omega)
  (fun k (c:List ak)=>c.length=f.aP.length∧∀j,j<k->(f.aM.map (fun l=>l[i]?))[j]? = some c[j]?) (fun c=>f.aM.map (fun l=>l[i]?)=c.map some) (s0:=List.replicate f.aP.length (ak.mk (aL.mk 0 ([])) (aL.mk 0 ([]))))
  ⟨by simp,fun j u=>by omega⟩ e b
 refine (key ?_ ?_)
 ·rintro k x c n ⟨d,o⟩;have p:=aO n;have g:f.aM[k]? = some (f.aM[k]'(by omega)):=ajA _;have q:=a _ (ajM g);generalize f.aM[k]'(by omega)=l at g q;have h:l[i]? = some (l[i]'(by omega)):=ajA _;have m:c[k]? = some (c[k]'(by omega)):=ajA _;refine⟨c.set k (l[i]'(by omega)),?_,?_,?_⟩;rotate_left
  ·simpa using d
  ·grind
  ·simp only[iB];rw[if_pos (by simpa using p),aU g,akO,aU h,akO,aU m,akO,ake,a7 (by omega)]
 ·rintro c ⟨d,o⟩;refine⟨_,by simp only[iB];rw[if_neg (by simp)],?_⟩;apply alk;grind
def afh {f:fb} {i:Nat} {c:List ak} (h:f.aM.map (fun l=>l[i]?)=c.map some):c=Cc f i:=by
 have:=congrArg (List.map fun x:Option ak=>x.getD (ak.mk (aL.mk 0 ([])) (aL.mk 0 ([])))) h;rw[List.map_map,List.map_map]at this;have a:c.map ((fun x:Option ak=>x.getD (ak.mk (aL.mk 0 ([])) (aL.mk 0 ([])))) ∘ some)=c:=by
  rw[show ((fun x:Option ak=>x.getD (ak.mk (aL.mk 0 ([])) (aL.mk 0 ([])))) ∘ some)=id from rfl,List.map_id]
 rw[a]at this;exact this.symm
def Nb {f:fb} (v:rz f):∃b,kJ f=some b∧(b=true↔E6 f):=by
 open Classical in
 have D:=v.srcs;have E:=v.outs;unfold kJ;rw[if_neg (by simp;omega),if_neg (by simp;omega),akO]
 by_cases hr:f.aM.length=f.aP.length
 rotate_left
 ·rw[if_pos (by grind)];exact⟨false,rfl,by simp only[ajT,false_iff];exact fun h=>hr h.rows⟩
 rw[if_neg (by simp[hr])];rw[oe f.aP (fun i x=>if (0<=x.bh∧x.bh<=3)∧0<=x.aV∧(f.aM.getD i []).length=f.au.length then none else some false) (by omega) (fun i x e =>?_) (by simp only[mn];simp_all)];rotate_left
 ·have u:=aO e;have w:f.aM[i]? = some (f.aM.getD i []):=by simp_all
  simp only[mn];rw[if_pos (by simpa using u),aU e,akO,mz,akO,a7 (by omega)]
  by_cases g:0<=x.bh∧x.bh<=3
  ·rw[decide_eq_true g,if_neg (by simp)]
   by_cases a:x.aV<0
   ·grind
   ·rw[if_neg (by simpa using a),aU w,akO];grind
  grind
 rw[akO];cases o:eN (fun (i:Nat) (x:tz)=>if (0<=x.bh∧x.bh<=3)∧0<=x.aV∧(f.aM.getD i []).length=f.au.length then none else some false) 0 f.aP with
 | some q =>
  obtain⟨j,x,g,a,_⟩:=dn o;rw[akl]at a;have m:=aO g;split at a
  ·cases a
  ·rename_i d;cases a;refine⟨false,rfl,?_⟩;simp only[ajT,false_iff];intro p;have n:=p.out x (ajM g);have w:f.aM[j]? = some (f.aM.getD j []):=by simp_all
   exact d ⟨⟨n.1,n.2.1⟩,n.2.2,p.row _ (ajM w)⟩
 | none =>
  have r:∀(j:Nat) x,f.aP[j]? = some x->(0<=x.bh∧x.bh<=3)∧0<=x.aV∧(f.aM.getD j []).length=f.au.length:=fun j x h=>by
   have:=cV.1 o j x h;simp_all
  have k:∀l∈f.aM,l.length=f.au.length:=fun l z=>by
   obtain⟨j,m,rfl⟩:=alr z;have h:=(r j _ (ajA (by omega))).2.2;grind
  simp only;rw[oe f.au (fun i x=>if (0<=x.bh∧x.bh<=2)∧0<=x.aV∧B9 (Cc f i) then none else some false) (by omega) (fun i x e =>?_) (by simp only[mo];simp_all)];rotate_left
  ·have u:=aO e;obtain⟨c,B,C⟩:=Z0 u hr k (by omega);obtain rfl:=afh C;obtain⟨b,F,G⟩:=acx (l:=Cc f i) (by unfold Cc;grind) (fun y A=>by
    unfold Cc at A;obtain⟨l,z,rfl⟩:=ajn.1 A;have g:=(v.row l z).2;grind)
   simp only[mo];rw[if_pos (by simpa using u),aU e,akO,D1 _ (by omega) (by omega),akO,B,akO,mz,akO,a7 (by omega)];grind
  rw[akO];cases s:eN (fun (i:Nat) (x:gV)=>if (0<=x.bh∧x.bh<=2)∧0<=x.aV∧B9 (Cc f i) then none else some false) 0 f.au with
  | some q =>
   obtain⟨j,x,g,a,_⟩:=dn s;rw[akl]at a;have m:=aO g;split at a
   ·cases a
   ·rename_i d;cases a;refine⟨false,rfl,?_⟩;simp only[ajT,false_iff];intro p;have n:=p.src x (ajM g);exact d ⟨⟨n.1,n.2.1⟩,n.2.2,p.col j m⟩
  | none =>
   have t:∀(j:Nat) x,f.au[j]? = some x->(0<=x.bh∧x.bh<=2)∧0<=x.aV∧B9 (Cc f j):=fun j x h=>by
    have:=cV.1 s j x h;simp_all
   refine⟨true,rfl,?_⟩;simp only[true_iff];exact⟨by omega,by omega,hr,fun x e=>by
    obtain⟨j,m⟩:=ajH e;grind,k,fun x e=>by
    obtain⟨j,m⟩:=ajH e;grind,fun j m=>(t j _ (ajA m)).2.2⟩
def wA (n:Nat):List Int:=(List.range n).map fun (i:Nat)=>(i:Int)
def Sd {n i:Nat} (h:i<n):(wA n)[i]? = some (i:Int):=dx (fun (i:Nat)=>(i:Int)) h
def Ie (n:Nat):(wA n).length=n:=sj _
def Se (n:Nat):(wA n).Pairwise (fun x y=>x<=y):=by
 unfold wA;rw[alo];exact (akS (n:=n)).imp fun h=>by omega
def HT (l:List Int):(rE l).Perm l:=List.mergeSort_perm l _
def Ni (l:List Int):(rE l).Pairwise (fun x y=>x<=y):=by
 have:=List.pairwise_mergeSort (le:=fun x y:Int=>decide (x<=y)) (fun a b c d e=>by grind) (fun a b=>by grind) l;exact this.imp fun h=>by simpa using h
def Yv:∀ {l m:List Int},l.Perm m->l.Pairwise (fun x y=>x<=y)->m.Pairwise (fun x y=>x<=y)->l=m:=fun e c d=>List.Perm.eq_of_pairwise (le:=fun x y:Int=>x<=y) (fun a b _ _ c d=>by omega) c d e
def G3 {l:List Int} (t:l.length<=100) (n:Nat):∃b,lD l (n:Int)=some b∧(b=true↔l.Perm (wA n)):=by
 unfold lD qy di NB E1;rw[akO,if_pos (by omega),akO];have p:=sk l;have a:l.Perm (wA n)↔rE l=wA n:=⟨fun h=>Yv ((HT l).trans h) (Ni l) (Se n),fun h=>h ▸ (HT l).symm⟩;rw[a];rw[oe (rE l) (fun i x=>if (i:Int)=x then none else some false) (by omega) (fun i x g =>?_) (by simp only[oU];simp_all)];rotate_left
 ·have r:=aO g;simp only[oU];rw[if_pos (by simpa using r),aU g,akO,a7 (by omega)];grind
 rw[akO];cases k:eN (fun (i:Nat) (x:Int)=>if (i:Int)=x then none else some false) 0 (rE l) with
 | some q =>
  obtain⟨j,x,f,d,_⟩:=dn k;rw[akl]at d;split at d
  ·cases d
  ·rename_i m;cases d;refine⟨false,rfl,?_⟩;simp only[ajT,false_iff];intro s;rw[s]at f;have e:=aO f;rw[Ie]at e;rw[Sd e]at f;simp_all
 | none =>
  have c:∀(j:Nat) x,(rE l)[j]? = some x->(j:Int)=x:=fun j x h=>by
   have:=cV.1 k j x h;simp_all
  refine⟨_,rfl,?_⟩;rw[beq_iff_eq];constructor
  ·intro h;apply alk;intro j
   by_cases e:j<n
   ·have o:(rE l)[j]? = some ((rE l)[j]'(by omega)):=ajA _;rw[Sd e,o,<- c j _ o]
   ·rw[alJ (by omega),alJ (by rw[Ie];omega)]
  ·intro h;rw[h,Ie]
structure xf (m:bs) (ports:Nat):Prop where
 flow:E6 m.aw
 takes:((m.aw.au.filter fun x=>x.bh==1).map (·.aV)).Perm (wA m.bq.length)
 gives:((m.aw.aP.filter fun x=>x.bh==0).map (·.aV)).Perm (wA m.aB.length)
 uses:∀u∈m.bq,(0<=u.ca∧u.ca<ports)∧1<=u.aR∧u.aR<=1099511627776
 ports:∀p∈m.aB,0<=p∧p<(ports:Int)
def R9 {m:bs} (h:m.aw.au.length<=100):aQ (n5 m) ((0:Int),[])=some ((m.aw.au.filter fun x=>x.bh==1).map (·.aV)):=by
 have key:=fun b a=>qG (body:=n5 m) m.aw.au (by omega) (fun i (l:List Int)=>l=((m.aw.au.take i).filter fun x=>x.bh==1).map (·.aV)) (fun l=>l=(m.aw.au.filter fun x=>x.bh==1).map (·.aV)) (s0:=[]) rfl b a;refine (key ?_ ?_).elim fun x ⟨g,hx⟩=>hx ▸ g
 ·rintro i x _ hx rfl;have j:=aO hx;have c:m.aw.au.take (i+1)=m.aw.au.take i++[x]:=by
   obtain⟨d,k⟩:=ajO.1 hx;rw[alK d,k]
  have e:=alM (fun x:gV=>x.bh==1) (m.aw.au.take i);rw[ajE]at e;refine⟨_,?_,rfl⟩;simp only[n5];rw[if_pos (by simpa using j),aU hx,akO,a7 (by omega),c,alO]
  by_cases f:x.bh=1
  ·rw[if_pos (by simpa using f),It (by grind),akO,alP (by simpa using f),akG];rfl
  simp_all
 ·rintro _ rfl;refine⟨_,?_,rfl⟩;simp only[n5];simp_all
def PR {m:bs} (h:m.aw.aP.length<=100):aQ (n9 m) ((0:Int),[])=some ((m.aw.aP.filter fun x=>x.bh==0).map (·.aV)):=by
 have key:=fun b a=>qG (body:=n9 m) m.aw.aP (by omega) (fun i (l:List Int)=>l=((m.aw.aP.take i).filter fun x=>x.bh==0).map (·.aV)) (fun l=>l=(m.aw.aP.filter fun x=>x.bh==0).map (·.aV)) (s0:=[]) rfl b a;refine (key ?_ ?_).elim fun x ⟨g,hx⟩=>hx ▸ g
 ·rintro i x _ hx rfl;have j:=aO hx;have c:m.aw.aP.take (i+1)=m.aw.aP.take i++[x]:=by
   obtain⟨d,k⟩:=ajO.1 hx;rw[alK d,k]
  have e:=alM (fun x:tz=>x.bh==0) (m.aw.aP.take i);rw[ajE]at e;refine⟨_,?_,rfl⟩;simp only[n9];rw[if_pos (by simpa using j),aU hx,akO,a7 (by omega),c,alO]
  by_cases f:x.bh=0
  ·rw[if_pos (by simpa using f),It (by grind),akO,alP (by simpa using f),akG];rfl
  simp_all
 ·rintro _ rfl;refine⟨_,?_,rfl⟩;simp only[n9];simp_all
def afG (u:ia) {a:Nat} (d:a<=2000):∃b,pX u (a:Int)=some b∧(b=false↔(0<=u.ca∧u.ca<a)∧1<=u.aR∧u.aR<=1099511627776):=by
 unfold pX;rw[mz,akO,lO (by omega)]
 by_cases c:0<=u.ca∧u.ca<=(a:Int)-1
 ·rw[decide_eq_true c,if_neg (by simp),mz,akO];grind
 ·rw[decide_eq_false c,if_pos (by simp)];grind
def afp (p:Int) {a:Nat} (c:a<=2000):∃b,pY p (a:Int)=some b∧(b=false↔0<=p∧p<a):=by
 unfold pY;rw[mz,akO,lO (by omega)];grind
def adD {l:List ia} (r:l.length<=100) {a:Nat} (g:a<=2000):∃b,cj l (a:Int)=some b∧(b=false↔∀u∈l,(0<=u.ca∧u.ca<a)∧1<=u.aR∧u.aR<=1099511627776):=by
 unfold cj dj;rw[oe l (fun i u=>if (0<=u.ca∧u.ca<a)∧1<=u.aR∧u.aR<=1099511627776 then none else some (i:Int)) (by omega) (fun i x e =>?_) (by simp only[dJ];rw[if_neg (by simp)])];rotate_left
 ·have k:=aO e;obtain⟨b,m,c⟩:=afG x g;simp only[dJ];rw[if_pos (by simpa using k),aU e,akO,m,akO,a7 (by omega)];cases b with
  | false=>rw[if_pos (c.1 rfl)];rfl
  | true =>
   simp only[alX,false_iff]at c;simp only[if_true];rw[if_neg c]
 cases f:eN (fun (i:Nat) (u:ia)=>if (0<=u.ca∧u.ca<a)∧1<=u.aR∧u.aR<=1099511627776 then none else some (i:Int)) 0 l with
 | none =>
  refine⟨false,rfl,?_⟩;simp only[true_iff];intro u n;obtain⟨j,o⟩:=ajH n;have:=cV.1 f j u o;split at this
  ·assumption
  ·cases this
 | some q =>
  obtain⟨j,x,p,d,_⟩:=dn f;split at d
  ·cases d
  ·rename_i hbad;cases d;refine⟨true,by simp,?_⟩;simp only[alX,false_iff];exact fun h=>hbad (h x (ajM p))
def ada {l:List Int} (s:l.length<=100) {a:Nat} (g:a<=2000):∃b,ck l (a:Int)=some b∧(b=false↔∀p∈l,0<=p∧p<(a:Int)):=by
 unfold ck dm;rw[oe l (fun i p=>if 0<=p∧p<(a:Int) then none else some (i:Int)) (by omega) (fun i x e =>?_) (by simp only[dK];rw[if_neg (by simp)])];rotate_left
 ·have k:=aO e;obtain⟨b,m,c⟩:=afp x g;simp only[dK];rw[if_pos (by simpa using k),aU e,akO,m,akO,a7 (by omega)];cases b with
  | false=>rw[if_pos (c.1 rfl)];rfl
  | true =>
   simp only[alX,false_iff]at c;simp only[if_true];rw[if_neg c]
 cases f:eN (fun (i:Nat) (p:Int)=>if 0<=p∧p<(a:Int) then none else some (i:Int)) 0 l with
 | none =>
  refine⟨false,rfl,?_⟩;simp only[true_iff];intro u n;obtain⟨j,o⟩:=ajH n;have:=cV.1 f j u o;split at this
  ·assumption
  ·cases this
 | some q =>
  obtain⟨j,x,r,d,_⟩:=dn f;split at d
  ·cases d
  ·rename_i hbad;cases d;refine⟨true,by simp,?_⟩;simp only[alX,false_iff];exact fun h=>hbad (h x (ajM r))
def adb {m:bs} {ports:Nat} (c:ports<=2000) (a:rz m.aw) (A:m.bq.length<=6) (j:m.aB.length<=6):∃b,u5 m (ports:Int)=some b∧(b=true↔xf m ports):=by
 have B:=a.srcs;have C:=a.outs;obtain⟨k,n,d⟩:=Nb a;unfold u5;rw[n,akO];cases k with
 | false=>exact⟨false,rfl,by simp only[ajT,false_iff];exact fun h=>by have:=d.2 h.flow;cases this⟩
 | true =>
 have o:=d.1 rfl;have p:=alM (fun x:gV=>x.bh==1) m.aw.au;have q:=alM (fun x:tz=>x.bh==0) m.aw.aP;obtain⟨r,s,e⟩:=G3 (l:=(m.aw.au.filter fun x=>x.bh==1).map (·.aV)) (by grind) m.bq.length;obtain⟨t,u,f⟩:=G3 (l:=(m.aw.aP.filter fun x=>x.bh==0).map (·.aV)) (by grind) m.aB.length;obtain⟨v,w,g⟩:=adD (l:=m.bq) (by omega) c;obtain⟨y,z,i⟩:=ada (l:=m.aB) (by omega) c;simp only[akE,ajT,if_false];rw[R9 (by omega),akO,PR (by omega),akO,s,akO];cases r with
 | false=>exact⟨false,rfl,by simp only[ajT,false_iff];exact fun h=>by have:=e.2 h.takes;cases this⟩
 | true =>
 simp only[if_true];rw[u,akO];cases t with
 | false=>exact⟨false,rfl,by simp only[ajT,false_iff];exact fun h=>by have:=f.2 h.gives;cases this⟩
 | true =>
 simp only[if_true];rw[w,akO];cases v with
 | true=>exact⟨false,rfl,by simp only[ajT,false_iff];exact fun h=>by have:=g.2 h.uses;cases this⟩
 | false =>
 simp only[Bool.not_false,if_true];rw[z,akO];refine⟨_,rfl,?_⟩;cases y with
 | true=>simp only[akE,ajT,false_iff];exact fun h=>by have:=i.2 h.ports;cases this
 | false=>simp only[Bool.not_false,true_iff];exact⟨o,e.1 rfl,f.1 rfl,g.1 rfl,i.1 rfl⟩
def afr {l:List ak} (f:l.length<=8):(aQ (fi l) 0=some (.inl ())∧∀x∈l,x.bQ.aa.length<=4∧x.bX.aa.length<=4)∨aQ (fi l) 0=some (.inr false):=by
 have b:=oe l (body:=fi l) (fun (i:Nat) (x:ak)=>if (x.bQ.aa.length:Int)<=4∧(x.bX.aa.length:Int)<=4 then none else some false) (by omega) (fun i x a=>by
  have d:=aO a;simp only[fi];rw[if_pos (by simpa using d),aU a,akO,afq,akO,a7 (by omega)];grind) (by simp only[fi];simp_all)
 rw[b];cases c:eN (fun (i:Nat) (x:ak)=>if (x.bQ.aa.length:Int)<=4∧(x.bX.aa.length:Int)<=4 then none else some false) 0 l with
 | none =>
  refine .inl ⟨rfl,fun x a =>?_⟩;obtain⟨j,e⟩:=ajH a;have:=cV.1 c j x e;grind
 | some q =>
  obtain⟨j,x,_,g,_⟩:=dn c;simp_all
def XG (f:fb):∃b,lI f=some b∧(b=true->rz f):=by
 unfold lI
 by_cases n:f.au.length<=5
 rotate_left
 ·exact⟨false,by grind,fun h=>by cases h⟩
 by_cases k:f.aP.length<=5
 rotate_left
 ·exact⟨false,by grind,fun h=>by cases h⟩
 by_cases o:f.aM.length<=8
 rotate_left
 ·exact⟨false,by grind,fun h=>by cases h⟩
 rw[if_neg (by simp;omega),if_neg (by simp;omega),decide_eq_false (by omega),akO,if_neg (by simp)]
 open Classical in
 rw[oe f.aM (fun i l=>if l.length<=8∧∀x∈l,x.bQ.aa.length<=4∧x.bX.aa.length<=4 then none else some false) (by omega) (fun i l c =>?_) (by simp only[pb];simp_all)];rotate_left
 ·have d:=aO c;simp only[pb];rw[if_pos (by simpa using d),aU c,akO,a7 (by omega)]
  by_cases h:l.length<=8
  ·rw[if_neg (by simp;omega)];rcases afr h with⟨e,v⟩|e
   ·simp_all
   ·rw[e]
    by_cases p:∀x∈l,x.bQ.aa.length<=4∧x.bX.aa.length<=4
    ·exfalso;have g:=oe l (body:=fi l) (fun (i:Nat) (x:ak)=>(none:Option Bool)) (by omega) (fun i x c=>by
      have d:=aO c;have:=p x (ajM c);simp only[fi];rw[if_pos (by simpa using d),aU c,akO,afq,akO,a7 (by omega),decide_eq_true (by omega),if_neg (by simp)]) (by simp only[fi];simp_all)
     rw[e]at g;have r:∀(l:List ak) i,eN (fun _ _=>(none:Option Bool)) i l=none:=by
      intro l
      induction l with
      | nil=>intro i;rfl
      | cons a l s=>intro i;simp only[eN];exact s _
     simp_all
    grind
  grind
 rw[akO];cases m:eN (fun (i:Nat) (l:List ak)=>if l.length<=8∧∀x∈l,x.bQ.aa.length<=4∧x.bX.aa.length<=4 then none else some false) 0 f.aM with
 | none =>
  refine⟨true,rfl,fun _=>⟨n,k,o,fun l t =>?_⟩⟩;obtain⟨j,u⟩:=ajH t;have:=cV.1 m j l u;simp_all
 | some q =>
  obtain⟨j,x,_,k,_⟩:=dn m;simp_all
structure rF (w:aT):Prop where
 given:w.av.length<=6
 mills:w.an.length<=5
 mill:∀m∈w.an,rz m.aw∧m.bq.length<=6∧m.aB.length<=6
def aaE (w:aT):∃b,y8 w=some b∧(b=true->rF w):=by
 unfold y8
 by_cases f:w.av.length<=6
 rotate_left
 ·exact⟨false,by grind,fun h=>by cases h⟩
 by_cases c:w.an.length<=5
 rotate_left
 ·exact⟨false,by grind,fun h=>by cases h⟩
 rw[if_neg (by simp;omega),decide_eq_false (by omega),akO,if_neg (by simp)];have a:∀m:bs,∃b,lI m.aw=some b∧(b=true->rz m.aw):=fun m=>XG m.aw;obtain⟨B,a⟩:=Classical.axiomOfChoice a;rw[oe w.an (fun i m=>if B m=true∧m.bq.length<=6∧m.aB.length<=6 then none else some false) (by omega) (fun i m d =>?_) (by simp only[wg];simp_all)];rotate_left
 ·have g:=aO d;simp only[wg];rw[if_pos (by simpa using g),aU d,akO,(a m).1,akO,a7 (by omega)];grind
 rw[akO];cases e:eN (fun (i:Nat) (m:bs)=>if B m=true∧m.bq.length<=6∧m.aB.length<=6 then none else some false) 0 w.an with
 | none =>
  refine⟨true,rfl,fun _=>⟨f,c,fun m k =>?_⟩⟩;obtain⟨j,l⟩:=ajH k;have:=cV.1 e j m l;simp_all
 | some q =>
  obtain⟨j,x,_,c,_⟩:=dn e;simp_all
def ac7 (w:aT):Option (Int×Int):=eN (fun (i:Nat) (n:Int)=>if 1<=n∧n<=1099511627776 then none else some ((3:Int),(i:Int))) 0 w.av
def Tu {w:aT} (h:w.av.length<=2000):aQ (mc w) 0=some (match ac7 w with|none =>.inl ()|some r =>.inr r):=by
 refine Eq.trans (oe w.av (body:=mc w) (fun (i:Nat) (n:Int)=>if 1<=n∧n<=1099511627776 then none else some ((3:Int),(i:Int))) (by omega) (fun i x a =>?_) ?_) ?_
 ·have b:=aO a;simp only[mc];rw[if_pos (by simpa using b),aU a,akO,mz,akO,a7 (by omega)];grind
 ·simp only[mc];simp_all
 ·unfold ac7;grind
def Uf {m:bs} {N:Nat} (v:N<=2000) (w:m.aB.length<=6) (g:∀p∈m.aB,0<=p∧p<(N:Int)) (t:Nat->Int) (h:∀q,q<N->0<=t q∧t q<=1000000) :
  aQ (me m) ((0:Int),(List.range N).map t)=some ((List.range N).map fun q=>t q+(m.aB.count (q:Int):Int)):=by
 have key:=fun b a=>qG (body:=me m) m.aB (by omega) (fun i (l:List Int)=>l=(List.range N).map fun q=>t q+((m.aB.take i).count (q:Int):Int)) (fun l=>l=(List.range N).map fun q=>t q+(m.aB.count (q:Int):Int)) (s0:=(List.range N).map t)
  (akM fun q _=>by simp) b a
 refine (key ?_ ?_).elim fun x ⟨e,hx⟩=>hx ▸ e
 ·rintro i p _ hx rfl;have n:=aO hx;obtain⟨e,y⟩:=g p (ajM hx);obtain⟨k,rfl⟩:∃k:Nat,p=k:=⟨p.toNat,by omega⟩;have f:k<N:=by omega
  have o:∀q:Nat,(m.aB.take i).count (q:Int)<=6:=fun q=>ajq (List.count_le_length ..) (by grind);have r:=o k;have c:m.aB.take (i+1)=m.aB.take i++[(k:Int)]:=by
   obtain⟨d,s⟩:=ajO.1 hx;rw[alK d,s]
  have z:=h k f;refine⟨_,?_,rfl⟩;simp only[me];rw[if_pos (by simpa using n),aU hx,akO,aU (dx _ f),akO,ake,gX,a7 (by omega),lO (by omega),c];have:(fun j=>if j=k then t k+((m.aB.take i).count (k:Int):Int)+1 else t j+((m.aB.take i).count (j:Int):Int))=fun q=>t q+((m.aB.take i++[(k:Int)]).count (q:Int):Int):=funext fun q=>by
   rw[List.count_append]
   by_cases u:q=k
   ·grind
   ·rw[if_neg u,List.count_cons_of_ne (by omega)];simp
  rw[this]
 ·rintro _ rfl;refine⟨_,?_,rfl⟩;simp only[me];simp_all
def I5 (q:Nat) (x:Int) (u:ia):Int:=if u.ca=(q:Int) then (if 1099511627777<x+u.aR then 1099511627777 else x+u.aR) else x
def pg (q:Nat) (l:List ia) (x:Int):Int:=l.foldl (I5 q) x
def Ig {q:Nat} {x:Int} {u:ia} (a:0<=x∧x<=1099511627777) (b:1<=u.aR∧u.aR<=1099511627776):0<=I5 q x u∧I5 q x u<=1099511627777:=by
 unfold I5;omega
def ug {q:Nat} : ∀ {l:List ia} {x:Int},(0<=x∧x<=1099511627777)->(∀u∈l,1<=u.aR∧u.aR<=1099511627776)->0<=pg q l x∧pg q l x<=1099511627777
 | [],_,hx,_=>hx
 | u::l,x,hx,h=>ug (l:=l) (x:=I5 q x u) (Ig hx (h u (akJ ..))) fun v a=>h v (akK _ a)
def YQ {m:bs} {N:Nat} (w:N<=2000) (y:m.bq.length<=6) (f:∀u∈m.bq,(0<=u.ca∧u.ca<(N:Int))∧1<=u.aR∧u.aR<=1099511627776) (t:Nat->Int) (o:∀q,q<N->0<=t q∧t q<=1099511627777) :
  aQ (mf m) ((0:Int),(List.range N).map t)=some ((List.range N).map fun q=>pg q m.bq (t q)):=by
 have key:=fun c a=>qG (body:=mf m) m.bq (by omega) (fun i (l:List Int)=>l=(List.range N).map fun q=>pg q (m.bq.take i) (t q)) (fun l=>l=(List.range N).map fun q=>pg q m.bq (t q)) (s0:=(List.range N).map t)
  (akM fun q _=>by simp[pg]) c a
 refine (key ?_ ?_).elim fun x ⟨g,hx⟩=>hx ▸ g
 ·rintro i u _ hx rfl;have p:=aO hx;obtain⟨⟨g,z⟩,A⟩:=f u (ajM hx);obtain⟨k,b⟩:∃k:Nat,u.ca=k:=⟨u.ca.toNat,by omega⟩;have h:k<N:=by omega
  have d:m.bq.take (i+1)=m.bq.take i++[u]:=by
   obtain⟨e,r⟩:=ajO.1 hx;rw[alK e,r]
  have B:=ug (q:=k) (l:=m.bq.take i) (o k h) fun v s=>(f v (aj0 s)).2;refine⟨_,?_,rfl⟩;simp only[mf];rw[if_pos (by simpa using p),aU hx,akO,b,aU (dx _ h),akO,ake,gX,a7 (by omega),lO (by omega),d];have:(fun j=>if j=k then (if 1099511627777<pg k (m.bq.take i) (t k)+u.aR then 1099511627777 else pg k (m.bq.take i) (t k)+u.aR) else pg j (m.bq.take i) (t j))=fun q=>pg q (m.bq.take i++[u]) (t q):=funext fun q=>by
   unfold pg;rw[List.foldl_append];simp only[List.foldl_cons,List.foldl_nil]
   by_cases n:q=k
   ·subst n;rw[if_pos rfl]
    conv=>rhs;rw[I5]
    rw[if_pos b]
   ·rw[if_neg n]
    conv=>rhs;rw[I5]
    omega
  rw[this]
 ·rintro _ rfl;refine⟨_,?_,rfl⟩;simp only[mf];simp_all
def Kh {α ρ:Type} {st:Nat->α->Option ρ} {r:ρ} : ∀ {l:List α} {k i:Nat} {x:α},l[i]? = some x->st (k+i) x=some r->(∀j y,j<i->l[j]? = some y->st (k+j) y=none)->eN st k l=some r
 | [],_,_,_,h,_,_=>by simp at h
 | a::l,k,0,x,h,hs,_=>by
  simp only[List.getElem?_cons_zero,ajw]at h;subst h;rw[ajU]at hs;simp only[eN,hs]
 | a::l,k,i+1,x,h,hs,c=>by
  have b:=c 0 a (by omega) rfl;rw[ajU]at b;simp only[eN,b];refine Kh (k:=k+1) (i:=i) (x:=x) (by simpa using h) (by grind) fun j y d e =>?_;grind
open Classical in
def Tb (N:Nat) (a:List bs):Option (Int×Int):=eN (fun (i:Nat) (m:bs)=>if xf m N then none else some ((1:Int),(i:Int))) 0 a
def Iq (a:List bs) (q:Nat):Int:=a.foldl (fun x m=>x+(m.aB.count (q:Int):Int)) 0
def YP (a:List bs) (q:Nat):Int:=a.foldl (fun x m=>pg q m.bq x) 0
def TD {w:aT} (g:rF w) :
  (∃r,Tb w.av.length w.an=some r∧aQ (kh w) ((0:Int),List.replicate w.av.length 0,List.replicate w.av.length 0)=some (.inr r)) ∨
  (Tb w.av.length w.an=none∧(∀m∈w.an,xf m w.av.length)∧aQ (kh w) ((0:Int),List.replicate w.av.length 0,List.replicate w.av.length 0)=some (.inl ((List.range w.av.length).map (Iq w.an),(List.range w.av.length).map (YP w.an)))):=by
 have E:=g.given;have n:=g.mills;have f:List.replicate w.av.length (0:Int)=(List.range w.av.length).map fun _=>0:=fZ (by simp) fun j t=>by simp_all
 obtain⟨q,F,G⟩:=eB (body:=kh w)
  (fun i st=>st=((i:Int),(List.range w.av.length).map (Iq (w.an.take i)),(List.range w.av.length).map (YP (w.an.take i)))∧(∀m∈w.an.take i,xf m w.av.length)∧∀q,(0<=Iq (w.an.take i) q∧Iq (w.an.take i) q<=6*i)∧0<=YP (w.an.take i) q∧YP (w.an.take i) q<=1099511627777) w.an.length
  (fun q=>(∃r,Tb w.av.length w.an=some r∧q=.inr r)∨(Tb w.av.length w.an=none∧(∀m∈w.an,xf m w.av.length)∧q=.inl ((List.range w.av.length).map (Iq w.an),(List.range w.av.length).map (YP w.an))))
  (s:=((0:Int),List.replicate w.av.length 0,List.replicate w.av.length 0)) ⟨by rw[f];rfl,fun m n=>by simp at n,fun q=>by simp[Iq,YP]⟩ (mX (by omega)) (by
   rintro i _ H ⟨rfl,a,h⟩
   by_cases c:i<w.an.length
   ·have d:w.an[i]? = some w.an[i]:=ajA c;have e:w.an.take (i+1)=w.an.take i++[w.an[i]]:=alK c;generalize w.an[i]=m at d e;obtain⟨v,o,k⟩:=g.mill m (ajM d);obtain⟨b,z,A⟩:=adb (m:=m) (ports:=w.av.length) (by omega) v o k;simp only[kh];rw[if_pos (by simpa using c),aU d,akO,z,akO];cases b with
    | false =>
     right;refine⟨_,rfl,.inl ⟨_,?_,rfl⟩⟩;unfold Tb;refine Kh (i:=i) (x:=m) d ?_ fun j y t p =>?_
     ·simp_all
     ·rw[if_pos (a y (ajM (i:=j) (by grind)))]
    | true =>
     have l:=A.1 rfl;left;refine⟨c,?_⟩;have B:∀q,Iq (w.an.take (i+1)) q=Iq (w.an.take i) q+(m.aB.count (q:Int):Int):=fun q=>by rw[e];unfold Iq;simp_all
     have C:∀q,YP (w.an.take (i+1)) q=pg q m.bq (YP (w.an.take i) q):=fun q=>by rw[e];unfold YP;simp_all
     simp only[akE,ajT,if_false];rw[Uf (by omega) k l.ports _ (fun q _=>by grind),akO,YQ (by omega) o l.uses _ (fun q _=>(h q).2),akO,a7 (by omega)];refine⟨_,rfl,?_,fun y p =>?_,fun q =>?_⟩
     ·simp_all
     ·grind
     ·have I:m.aB.count (q:Int)<=6:=ajq (List.count_le_length ..) k;have J:=(h q).1;rw[B,C];exact⟨by omega,ug (h q).2 fun u D=>(l.uses u D).2⟩
   ·right;have:i=w.an.length:=by omega
    subst this;rw[alj]at a ⊢;refine⟨_,by simp only[kh];simp_all,.inr ⟨?_,a,rfl⟩⟩;unfold Tb;refine cV.2 fun j y p =>?_;grind)
 simp_all
def ac8 (l:List Int):Option (Int×Int):=eN (fun (i:Nat) (x:Int)=>if x=0 then some ((21:Int),(i:Int)) else if 1<x then some (5,(i:Int)) else none) 0 l
def afo (w:aT) (l:List Int):Option (Int×Int):=eN (fun (i:Nat) (x:Int)=>if w.av.getD i 0<x then some ((25:Int),(i:Int)) else none) 0 l
def Ug {l:List Int} (h:l.length<=2000):aQ (mg l) 0=some (match ac8 l with|none =>.inl ()|some r =>.inr r):=by
 refine Eq.trans (oe l (body:=mg l) (fun (i:Nat) (x:Int)=>if x=0 then some ((21:Int),(i:Int)) else if 1<x then some (5,(i:Int)) else none) (by omega) (fun i x a =>?_) ?_) ?_
 ·have b:=aO a;simp only[mg];rw[if_pos (by simpa using b),aU a,akO,a7 (by omega)];grind
 ·simp only[mg];simp_all
 ·unfold ac8;grind
def YR {w:aT} {l:List Int} (h:l.length<=2000) (d:l.length=w.av.length):aQ (mh w l) 0=some (match afo w l with|none =>.inl ()|some r =>.inr r):=by
 refine Eq.trans (oe l (body:=mh w l) (fun (i:Nat) (x:Int)=>if w.av.getD i 0<x then some ((25:Int),(i:Int)) else none) (by omega) (fun i x a =>?_) ?_) ?_
 ·have b:=aO a;have c:w.av[i]? = some (w.av.getD i 0):=by simp_all
  simp only[mh];rw[if_pos (by simpa using b),aU a,akO,aU c,akO,a7 (by omega)];grind
 ·simp only[mh];simp_all
 ·unfold afo;grind
def Bw (w:aT):Option (Int×Int):=(((ac7 w).or (Tb w.av.length w.an)).or (ac8 ((List.range w.av.length).map (Iq w.an)))).or (afo w ((List.range w.av.length).map (YP w.an)))
def A4 {w:aT} (a:rF w):nZ w=some ((Bw w).getD (0,0)):=by
 have d:=a.given;have e:=a.mills;unfold nZ Bw;rw[if_neg (by simp;omega),decide_eq_false (by omega),akO,if_neg (by simp),Tu (by omega),akO];cases ac7 w with
 | some r=>rfl
 | none =>
 simp only[Option.none_or];rw[D1 _ (by omega) (by omega),akO];rcases TD a with⟨r,b,c⟩|⟨b,_,c⟩
 ·rw[c,b];rfl
 rw[c,b,akO];simp only[Option.none_or];rw[Ug (by simp;omega),akO];cases ac8 ((List.range w.av.length).map (Iq w.an)) with
 | some r=>rfl
 | none =>
 simp only[Option.none_or];rw[YR (by simp;omega) (by simp),akO];grind
section
variable {κ α:Type} [DecidableEq κ]
def s4 {n:κ} : ∀ {m:List (κ×α)},po m n=true↔n∈m.map (·.1)
 | []=>by simp[po]
 | (k,v)::m=>by
  simp only[po,ajt,aju]
  by_cases h:k=n
  ·subst h;simp
  ·have:=s4 (n:=n) (m:=m);grind
def CZ {n:κ} {x:α} : ∀ {m:List (κ×α)},(tf m n x).map (·.1)=if po m n=true then m.map (·.1) else m.map (·.1)++[n]
 | []=>by simp[tf,po]
 | (k,v)::m=>by
  have a:=CZ (n:=n) (x:=x) (m:=m);simp only[tf,po];grind
def TP {n:κ} {x:α} {m:List (κ×α)} (h:(m.map (·.1)).Nodup):((tf m n x).map (·.1)).Nodup:=by
 rw[CZ];split
 ·exact h
 ·rename_i hn;have hn:n∉m.map (·.1):=fun a=>hn (s4.2 a);grind
def K5 {z x:α} {n k:κ} : ∀ {m:List (κ×α)},gB z (tf m n x) k=if k=n then x else gB z m k
 | []=>by
  simp only[tf,gB];grind
 | (a,v)::m=>by
  have b:=K5 (z:=z) (x:=x) (n:=n) (k:=k) (m:=m);simp only[tf]
  by_cases h:a=n
  ·rw[if_pos h];simp only[gB];grind
  ·rw[if_neg h];simp only[gB];grind
def Qq {z:α} {k:κ} {v:α} : ∀ {m:List (κ×α)},(m.map (·.1)).Nodup->((k,v)∈m↔po m k=true∧gB z m k=v)
 | [],_=>by simp[po]
 | (a,x)::m,h=>by
  rw[ajt,List.nodup_cons]at h;have b:=Qq (z:=z) (k:=k) (v:=v) (m:=m) h.2;simp only[po,gB,aju,Prod.mk.injEq];grind
end
abbrev MQ:=List ((Int×Int)×Rat)
def lf (m:MQ):List ((Int×Int)×ak):=m.map fun p=>(p.1,cy p.2)
def GP (m:MQ):(lf m).length=m.length:=ajP ..
def X4 (m:MQ):(lf m).map (·.1)=m.map (·.1):=by unfold lf;simp_all
def Qu (m:MQ) (k:Int×Int):po (lf m) k=po m k:=by
 induction m with
 | nil=>rfl
 | cons p m b =>
  obtain⟨a,v⟩:=p;rw[show lf ((a,v)::m)=(a,cy v)::lf m from rfl];simp only[po,b]
def X5 {z:ak} {m:MQ} {k:Int×Int} (h:po m k=true):gB z (lf m) k=cy (gB 0 m k):=by
 induction m with
 | nil=>cases h
 | cons p m c =>
  obtain⟨a,v⟩:=p;show (if a=k then cy v else gB z (lf m) k)=cy (if a=k then v else gB 0 m k)
  by_cases b:a=k
  ·simp_all
  ·rw[if_neg b,if_neg b];exact c (by simpa [po,b] using h)
def Qv (m:MQ) (k:Int×Int) (q:Rat):tf (lf m) k (cy q)=lf (tf m k q):=by
 induction m with
 | nil=>rfl
 | cons p m c =>
  obtain⟨a,v⟩:=p;show (if a=k then (a,cy q)::lf m else (a,cy v)::tf (lf m) k (cy q))=lf (if a=k then (a,q)::m else (a,v)::tf m k q)
  by_cases b:a=k
  ·rw[if_pos b,if_pos b];rfl
  ·rw[if_neg b,if_neg b,c];rfl
def adr {m:MQ} {k:Int×Int} (h:po m k=false):gB 0 m k=0:=by
 induction m with
 | nil=>rfl
 | cons p m b =>
  obtain⟨a,v⟩:=p;simp only[po,Bool.or_eq_false_iff,beq_eq_false_iff_ne]at h;simp only[gB];simp_all
def lR (m:MQ) (c:(Int×Int)×Rat):MQ:=tf m c.1 (gB 0 m c.1+c.2)
def Xe (m:MQ) (c:(Int×Int)×Rat) (k:Int×Int):gB 0 (lR m c) k=gB 0 m k+(if k=c.1 then c.2 else 0):=by
 unfold lR;rw[K5];grind
def wz (k:Int×Int):List ((Int×Int)×Rat)->Rat
 | []=>0
 | c::l=>(if k=c.1 then c.2 else 0)+wz k l
def Ci:∀(l:List ((Int×Int)×Rat)) (m:MQ) (k:Int×Int),gB 0 (l.foldl lR m) k=gB 0 m k+wz k l
 | [],m,k=>by simp only[List.foldl_nil,wz];grind
 | c::l,m,k=>by
  rw[aj3,Ci l,Xe];simp only[wz];grind
def Ad:∀(l:List ((Int×Int)×Rat)) (m:MQ),(m.map (·.1)).Nodup->((l.foldl lR m).map (·.1)).Nodup
 | [],_,h=>h
 | c::l,m,h=>Ad l (lR m c) (TP h)
def ae6 {p q:Int} (a : -9223372036854775808<=p∧p<9223372036854775808) (b : -9223372036854775808<=q∧q<9223372036854775808) (c:q≠0):tQ p q=some (cy (Rat.divInt p q),0):=by
 unfold tQ;rw[UH a,akO,UH b,akO,L3 (Zn a) (Zn b) c,akO]
open Classical in
def TS (f:ak):Rat:=if h:∃q,f=cy q then Classical.choose h else 0
def y9 (q:Rat):TS (cy q)=q:=by
 have h:∃p,cy q=cy p:=⟨q,rfl⟩;unfold TS;rw[dif_pos h];exact (wa (Classical.choose_spec h)).symm
def EW (f:fb) (k i:Nat):Rat:=TS ((f.aM.getD k []).getD i (ak.mk (aL.mk 0 ([])) (aL.mk 0 ([]))))
def tq {f:fb} (o:rz f) (g:E6 f) {k i:Nat} (p:k<f.aP.length) (r:i<f.au.length) :
  ∃a,f.aM[k]? = some a∧a[i]? = some (cy (EW f k i))∧0<=EW f k i∧LF (EW f k i)<=4:=by
 have d:k<f.aM.length:=by rw[g.rows];exact p
 have m:f.aM[k]? = some (f.aM[k]):=ajA d;have h:=ajz d;have s:f.aM.getD k []=f.aM[k]:=by simp_all
 have t:=g.row _ h;have n:=(o.row _ h).2;unfold EW;rw[s];have b:(Cc f i)[k]? = some ((f.aM[k][i]?).getD (ak.mk (aL.mk 0 ([])) (aL.mk 0 ([])))):=by
  unfold Cc;simp_all
 generalize f.aM[k]=a at m h t n b ⊢;have c:a[i]? = some (a[i]'(by omega)):=ajA _;have j:=n _ (ajM c);have l:a.getD i (ak.mk (aL.mk 0 ([])) (aL.mk 0 ([])))=a[i]'(by omega):=by simp_all
 rw[c]at b;rw[l];obtain⟨w,u,x,_⟩:=g.col i r;rw[u]at b;rw[ajl]at b;obtain⟨q,v,e⟩:=ajm.1 b;simp only[Option.getD_some]at e;rw[<- e]at c j ⊢;refine⟨a,m,?_,?_,?_⟩
 ·rw[y9];exact c
 ·rw[y9];grind
 ·rw[y9];exact qp j.1 j.2
def Ys {f:fb} (m:rz f) (b:E6 f) {i:Nat} (e:i<f.au.length):oC ((List.range f.aP.length).map fun k=>EW f k i)=1:=by
 obtain⟨g,h,_,p⟩:=b.col i e;have:g=(List.range f.aP.length).map fun k=>EW f k i:=by
  have a:g.length=f.aP.length:=by
   have:=congrArg List.length h;unfold Cc at this;simp only[ajP]at this;rw[<- b.rows];exact this.symm
  refine fZ a fun j n =>?_;obtain⟨o,r,s,_,_⟩:=tq m b n e;have l:(Cc f i)[j]? = some (cy (EW f j i)):=by
   unfold Cc;simp_all
  rw[h,ajl]at l;obtain⟨q,c,d⟩:=ajm.1 l;rw[c,wa d]
 simp_all
abbrev Dj:=(Int×Int)×Rat
def zk (m:bs) (i:Nat) (u:ia) (r:Rat) (k:Nat):List Dj :=
 match m.aw.aP[k]? with
 | some y=>if y.bh=0∧EW m.aw k i≠0 then [((u.ca,m.aB.getD y.aV.toNat 0),r*EW m.aw k i)] else []
 | none=>[]
def N8 (g:List Int) (u:ia):Rat:=Rat.divInt u.aR (g.getD u.ca.toNat 0)
def qW (m:bs) (n:Int):ia:=m.bq.getD n.toNat (ia.mk 0 0)
def Em (g:List Int) (m:bs) (i:Nat):List Dj :=
 match m.aw.au[i]? with
 | some x=>if x.bh=1 then (List.range m.aw.aP.length).flatMap (zk m i (qW m x.aV) (N8 g (qW m x.aV))) else []
 | none=>[]
def pr (g:List Int) (m:bs):List Dj:=(List.range m.aw.au.length).flatMap (Em g m)
def uj (w:aT):List Dj:=w.an.flatMap (pr w.av)
def EK:LF 0<=1:=zY (n:=0) (by decide)
def L1 {K:Nat} {k:Int×Int} : ∀ {l:List Dj},(∀c∈l,LF c.2<=K)->LF (wz k l)<=1+l.length*(K+1)
 | [],_=>by simp only[wz];have:=EK;simp;omega
 | c::l,h=>by
  have b:=L1 (k:=k) (l:=l) fun x a=>h x (akK _ a);have d:=h c (akJ ..);simp only[wz,List.length_cons];have e:=vA (if k=c.1 then c.2 else 0) (wz k l);grind
def adJ {z:ak} {M:MQ} {k:Int×Int} {v:Rat} {K:Nat} (h:LF (gB 0 M k)<=K) (c:LF v<=K) (d:K<=1000000000) :
  (po (lf M) k=true->rX (gB z (lf M) k) (cy v)=some (cy (gB 0 M k+v))∧tf (lf M) k (cy (gB 0 M k+v))=lf (lR M (k,v)))∧(po (lf M) k=false->tf (lf M) k (cy v)=lf (lR M (k,v))):=by
 have b:eX=4398046511104:=rfl;constructor
 ·intro a;rw[Qu]at a;rw[X5 a,aep (by omega),Qv];exact⟨rfl,rfl⟩
 ·intro a;rw[Qu]at a;rw[Qv];unfold lR;rw[adr a,show (0:Rat)+v=v by grind]
def Gz {m:bs} {N:Nat} (a:xf m N) {y:tz} (b:y∈m.aw.aP) (c:y.bh=0):∃j:Nat,y.aV=j∧j<m.aB.length:=by
 have:y.aV∈wA m.aB.length:=a.gives.mem_iff.1 (ajn.2 ⟨y,akP.2 ⟨b,by simpa using c⟩,rfl⟩);unfold wA at this;grind
def acn {m:bs} {N:Nat} (a:xf m N) {x:gV} (b:x∈m.aw.au) (c:x.bh=1):∃j:Nat,x.aV=j∧j<m.bq.length:=by
 have:x.aV∈wA m.bq.length:=a.takes.mem_iff.1 (ajn.2 ⟨x,akP.2 ⟨b,by simpa using c⟩,rfl⟩);unfold wA at this;grind
structure Ir (n:Nat) (h:List Dj):Prop where
 len:h.length<=n
 sz:∀c∈h,LF c.2<=20
def Ir.look {n:Nat} {h:List Dj} (H:Ir n h) (k:Int×Int):LF (gB 0 (h.foldl lR []) k)<=1+n*21:=by
 rw[Ci,show gB 0 ([]:MQ) k=0 from rfl,show (0:Rat)+wz k h=wz k h by grind];have a:=L1 (k:=k) H.sz;have b:=H.len;omega
def Ir.app {n a:Nat} {h l:List Dj} (H:Ir n h) (e:l.length<=a) (b:∀c∈l,LF c.2<=20):Ir (n+a) (h++l) :=
 ⟨by rw[akn];have:=H.len;omega,fun c d=>(akI.1 d).elim (H.sz c) (b c)⟩
def N9 (m:bs) (i:Nat) (u:ia) (r:Rat) (k:Nat):(zk m i u r k).length<=1:=by
 unfold zk;grind
def qF {α:Type} {f:Nat->List α} {b:Nat} (h:∀i,(f i).length<=b):∀n,((List.range n).flatMap f).length<=n*b
 | 0=>by simp
 | n+1=>by
  have:=qF h n;have a:=h n;rw[alT,List.flatMap_append,akn,akZ];grind
def Ko {α:Type} {f:Nat->List α} (n:Nat):(List.range (n+1)).flatMap f=(List.range n).flatMap f++f n:=by
 rw[alT,List.flatMap_append];simp
def acV {m:bs} {i:Nat} {u:ia} {r:Rat} {k:Nat} (b:rz m.aw) (d:E6 m.aw) (e:i<m.aw.au.length) (g:LF r<=10):∀c∈zk m i u r k,LF c.2<=20:=by
 intro c a;unfold zk at a;split at a
 ·rename_i y f;split at a
  ·rw[ajI.1 a];obtain⟨_,_,_,_,h⟩:=tq b d (aO f) e;have:=su r (EW m.aw k i);simp only;omega
  ·cases a
 ·cases a
def Wf {m:bs} {i:Nat} {u:ia} {r:Rat} {n:Nat} (a:rz m.aw) (b:E6 m.aw) (d:i<m.aw.au.length) (e:LF r<=10):∀c∈(List.range n).flatMap (zk m i u r),LF c.2<=20:=by
 intro c f;obtain⟨k,_,g⟩:=akH.1 f;exact acV a b d e c g
def Yg {m:bs} {N i n:Nat} {u:ia} {r:Rat} {h:List Dj} (d:rz m.aw) (e:xf m N) (o:i<m.aw.au.length) (w:LF r<=10) (H:Ir n h) (L:n<=1000) :
  aQ (iA m (i:Int) u (cy r,0)) ((0:Int),lf (h.foldl lR []))=some (lf ((h++(List.range m.aw.aP.length).flatMap (zk m i u r)).foldl lR [])):=by
 have y:eX=4398046511104:=rfl;have O:=d.outs;have key:=fun f b=>qG (body:=iA m (i:Int) u (cy r,0)) m.aw.aP (by omega)
  (fun k (c:List ((Int×Int)×ak))=>c=lf ((h++(List.range k).flatMap (zk m i u r)).foldl lR [])) (fun c=>c=lf ((h++(List.range m.aw.aP.length).flatMap (zk m i u r)).foldl lR [])) (s0:=lf (h.foldl lR [])) (by simp) f b
 refine (key ?_ ?_).elim fun x ⟨A,hx⟩=>hx ▸ A
 ·rintro k x _ hx rfl;have p:=aO hx;have Q:=qF (fun k=>N9 m i u r k) k;have q:=H.app (a:=k) (by omega) (Wf (u:=u) (n:=k) d e.flow o w);obtain⟨B,C,s,R,S⟩:=tq d e.flow p o;rw[Ko,<- aky];generalize h++(List.range k).flatMap (zk m i u r)=D at q;have g:=q.look;have E:zk m i u r k=if x.bh=0∧EW m.aw k i≠0 then [((u.ca,m.aB.getD x.aV.toNat 0),r*EW m.aw k i)] else []:=by unfold zk;rw[hx]
  refine⟨_,?_,rfl⟩;simp only[iA];rw[if_pos (by simpa using p),aU hx,akO,a7 (by omega),E]
  by_cases l:x.bh=0
  ·rw[if_neg (by simp[l]),aU C,akO,aU s,akO,zZ (by omega),akO,akO]
   by_cases F:EW m.aw k i=0
   ·simp_all
   ·obtain⟨j,G,T⟩:=Gz e (ajM hx) l;have t:m.aB[j]? = some (m.aB.getD x.aV.toNat 0):=by simp_all
    have I:=su r (EW m.aw k i);rw[if_neg (by simp_all),if_pos ⟨l,F⟩];rw[show P.idx m.aB x.aV=some (m.aB.getD x.aV.toNat 0) by rw[G]at t ⊢;exact aU t];rw[akO,akO,aU s,akO,NX (by omega),akO];have J:=adJ (z:=ak.mk (aL.mk 0 ([])) (aL.mk 0 ([]))) (M:=D.foldl lR []) (k:=(u.ca,m.aB.getD x.aV.toNat 0)) (v:=r*EW m.aw k i) (K:=20+(n+k)*21) (ajq (g _) (by omega)) (by omega) (by omega);simp_all
  simp_all
 ·rintro _ rfl;refine⟨_,?_,rfl⟩;simp only[iA];simp_all
def Sw {x:Int} (a:1<=x) (b:x<=1099511627776):Ln x<=3:=NV (by rw[mv,mv,mv,tZ];omega)
def zX (g:List Int):Prop:=∀x∈g,1<=x∧x<=1099511627776
def Gy {g:List Int} (b:zX g) {p:Int} (h:0<=p∧p<(g.length:Int)):∃j:Nat,p=j∧j<g.length∧g[j]? = some (g.getD p.toNat 0)∧1<=g.getD p.toNat 0∧g.getD p.toNat 0<=1099511627776:=by
 obtain⟨j,rfl⟩:∃j:Nat,p=j:=⟨p.toNat,by omega⟩;have c:j<g.length:=by omega
 have a:g[j]? = some (g.getD (j:Int).toNat 0):=by simp_all
 exact⟨j,rfl,c,a,b _ (ajM a)⟩
def yz {m:bs} {N:Nat} (b:xf m N) {x:gV} (c:x∈m.aw.au) (d:x.bh=1):P.idx m.bq x.aV=some (qW m x.aV)∧qW m x.aV∈m.bq:=by
 obtain⟨j,e,f⟩:=acn b c d;have a:m.bq[j]? = some (qW m x.aV):=by unfold qW;simp_all
 exact⟨by rw[e]at a ⊢;exact aU a,ajM a⟩
def L8 {g:List Int} {m:bs} (b:zX g) (c:xf m g.length) {u:ia} (d:u∈m.bq):LF (N8 g u)<=10∧0<N8 g u:=by
 obtain⟨e,a⟩:=c.uses u d;obtain⟨j,i,k,l,f,h⟩:=Gy b e;have n:=Sw a.1 a.2;have o:=Sw f h;unfold N8;have r:=se (p:=u.aR) (q:=g.getD u.ca.toNat 0) (by omega);refine⟨by omega,?_⟩;rw[Rat.divInt_eq_div,Rat.div_def];exact Rat.mul_pos (by exact_mod_cast (show (0:Int)<u.aR by omega)) (Rat.inv_pos.2 (by exact_mod_cast (show (0:Int)<g.getD u.ca.toNat 0 by omega)))
def U2 {g:List Int} {m:bs} (e:zX g) (b:rz m.aw) (a:xf m g.length) (i:Nat):(Em g m i).length<=5∧∀c∈Em g m i,LF c.2<=20:=by
 unfold Em;split
 ·rename_i x d;split
  ·rename_i f;have h:=b.outs;have j:=qF (fun k=>N9 m i (qW m x.aV) (N8 g (qW m x.aV)) k) m.aw.aP.length;refine⟨by omega,Wf b a.flow (aO d) (L8 e a (yz a (ajM d) f).2).1⟩
  simp_all
 simp_all
def Ws {g:List Int} {m:bs} (a:zX g) (b:rz m.aw) (d:xf m g.length) (n:Nat):((List.range n).flatMap (Em g m)).length<=n*5∧∀c∈(List.range n).flatMap (Em g m),LF c.2<=20:=by
 refine⟨qF (fun i=>(U2 a b d i).1) n,fun c e =>?_⟩;obtain⟨k,_,f⟩:=akH.1 e;exact (U2 a b d k).2 c f
def SO {g:List Int} {m:bs} {n:Nat} {h:List Dj} (o:zX g) (p:rz m.aw) (b:xf m g.length) (H:Ir n h) (I:n<=900) :
  jF (lf (h.foldl lR [])) g m=some (lf ((h++pr g m).foldl lR []),()):=by
 have A:eX=4398046511104:=rfl;have J:=p.srcs;have key:=fun q d=>qG (body:=jX g m) m.aw.au (by omega)
  (fun k (c:List ((Int×Int)×ak))=>c=lf ((h++(List.range k).flatMap (Em g m)).foldl lR [])) (fun c=>c=lf ((h++pr g m).foldl lR [])) (s0:=lf (h.foldl lR [])) (by simp) q d
 unfold jF;refine (key ?_ ?_).elim fun c t =>?_
 ·rintro i x _ l rfl;have v:=aO l;obtain⟨B,C⟩:=Ws o p b i;have w:=H.app (a:=i*5) B C;rw[Ko,<- aky];generalize h++(List.range i).flatMap (Em g m)=K at w;have t:Em g m i=if x.bh=1 then (List.range m.aw.aP.length).flatMap (zk m i (qW m x.aV) (N8 g (qW m x.aV))) else []:=by unfold Em;rw[l]
  refine⟨_,?_,rfl⟩;simp only[jX];rw[if_pos (by simpa using v),aU l,akO,a7 (by omega),t]
  by_cases s:x.bh=1
  ·obtain⟨D,y⟩:=yz b (ajM l) s;have E:=L8 o b y;obtain⟨F,L⟩:=b.uses _ y;obtain⟨j,G,M,z,N,O⟩:=Gy o F;have e:P.idx g (qW m x.aV).ca=some (g.getD (qW m x.aV).ca.toNat 0):=by
    rw[G]at z ⊢;exact aU z
   rw[if_neg (by simp[s]),D,akO,e,akO,ae6 (by omega) (by omega) (by omega),akO,if_pos s];have f:=Yg (u:=qW m x.aV) (r:=N8 g (qW m x.aV)) p b v E.1 w (by omega);unfold N8 at f ⊢;erw [f];rfl
  simp_all
 ·rintro _ rfl;refine⟨_,?_,rfl⟩;simp only[jX];rw[if_neg (by simp)];rfl
 simp_all
def ZQ {g:List Int} {m:bs} (b:zX g) (a:rz m.aw) (d:xf m g.length):(pr g m).length<=25∧∀c∈pr g m,LF c.2<=20:=by
 have:=Ws b a d m.aw.au.length;have e:=a.srcs;exact⟨by have:=this.1;unfold pr;omega,this.2⟩
def Zw {m:MQ} {c:Dj} {k:Int×Int} : po (lR m c) k=true↔po m k=true∨c.1=k:=by
 unfold lR;rw[s4,CZ];split
 ·rename_i h;constructor
  ·exact fun b =>.inl (s4.2 b)
  ·rintro (b|rfl)
   ·exact s4.1 b
   ·exact s4.1 h
 ·rw[akI,ajI,eq_comm (a:=k),s4]
def Py:∀(l:List Dj) (m:MQ) (k:Int×Int),po (l.foldl lR m) k=true↔po m k=true∨∃c∈l,c.1=k
 | [],m,k=>by simp
 | c::l,m,k=>by
  rw[aj3,Py l,Zw];grind
def BZ {k:Int×Int} : ∀ {l:List Dj},(∀c∈l,0<c.2)->0<=wz k l∧(0<wz k l↔∃c∈l,c.1=k)
 | [],_=>⟨by simp only[wz];grind,by simp only[wz];simp⟩
 | c::l,h=>by
  obtain⟨b,d⟩:=BZ (k:=k) (l:=l) fun x a=>h x (akK _ a);have e:=h c (akJ ..);simp only[wz,aju,exists_eq_or_imp];grind
def kC (N:Nat) (S:Nat->Nat->Rat):List Tk:=(List.range N).flatMap fun a=>((List.range N).filter fun b=>decide (0<S a b)).map fun b=>(a,b,S a b)
def BJ {N:Nat} {S:Nat->Nat->Rat} {t:Tk} : t∈kC N S↔t.1<N∧t.2.1<N∧0<S t.1 t.2.1∧t.2.2=S t.1 t.2.1:=by
 unfold kC;simp only[akH,ajn,akP,akR,decide_eq_true_eq];grind
def Nx (N:Nat) (S:Nat->Nat->Rat):(kC N S).Pairwise VV:=by
 unfold kC;rw[List.pairwise_flatMap];constructor
 ·intro a _;rw[alo];exact (List.Pairwise.filter _ (akS (n:=N))).imp fun h =>.inr ⟨rfl,h⟩
 ·refine (akS (n:=N)).imp fun {a b} h x c y d =>?_;obtain⟨_,_,rfl⟩:=ajn.1 c;obtain⟨_,_,rfl⟩:=ajn.1 d;exact .inl h
def Sa (N:Nat) (S:Nat->Nat->Rat):(kC N S).length<=N*N:=by
 unfold kC;refine qF (fun a =>?_) N;grind
def oa (L:List Dj) (a b:Nat):Rat:=wz ((a:Int),(b:Int)) L
structure Y2 (N:Nat) (L:List Dj):Prop where
 pos:∀c∈L,0<c.2
 from_:∀c∈L,0<=c.1.1∧c.1.1<(N:Int)
 to_:∀c∈L,0<=c.1.2∧c.1.2<(N:Int)
def LH {N:Nat} {L:List Dj} (H:Y2 N L) :
  rA (kZ cu.db cu.kq) ((lf (L.foldl lR [])).map fun q=>cu.mk q.1.1 q.1.2 q.2)=(kC N (oa L)).map yi:=by
 have m:((L.foldl lR []).map (·.1)).Nodup:=Ad L [] (by simp);have w:((lf (L.foldl lR [])).map fun q=>cu.mk q.1.1 q.1.2 q.2)=(L.foldl lR []).map fun p=>cu.mk p.1.1 p.1.2 (cy p.2):=by unfold lf;simp_all
 rw[w];have d:∀p:Dj,p∈L.foldl lR []↔(∃c∈L,c.1=p.1)∧wz p.1 L=p.2:=by
  rintro⟨k,v⟩;rw[Qq (z:=0) m,Py,Ci];simp only[po,gB,ajT,false_or];grind
 have f:((L.foldl lR []).map fun p:Dj=>cu.mk p.1.1 p.1.2 (cy p.2)).Nodup:=by
  grind
 have g:((kC N (oa L)).map yi).Nodup:=by
  unfold List.Nodup;rw[alo];refine (Nx N (oa L)).imp fun {a b} h e =>?_;have:=V2 e;subst this;unfold VV at h;omega
 have i:∀x,x∈((L.foldl lR []).map fun p:Dj=>cu.mk p.1.1 p.1.2 (cy p.2))↔x∈(kC N (oa L)).map yi:=by
  intro x;rw[ajn,ajn];constructor
  ·rintro⟨p,A,rfl⟩;obtain⟨j,l⟩:=(d p).1 A;obtain⟨c,n,s⟩:=j;have f1:=H.from_ c n;have f2:=H.to_ c n;rw[s]at f1 f2;have E:((p.1.1.toNat:Nat):Int)=p.1.1:=by omega
   have F:((p.1.2.toNat:Nat):Int)=p.1.2:=by omega
   have u:oa L p.1.1.toNat p.1.2.toNat=p.2:=by unfold oa;simp_all
   refine⟨(p.1.1.toNat,p.1.2.toNat,p.2),BJ.2 ⟨by simp only;omega,by simp only;omega,?_,u.symm⟩,?_⟩
   ·simp only;rw[u,<- l];exact (BZ H.pos).2.2 ⟨c,n,s⟩
   ·unfold yi;simp_all
  ·rintro⟨t,B,rfl⟩;obtain⟨j,l,C,D⟩:=BJ.1 B;refine⟨(((t.1:Int),(t.2.1:Int)),t.2.2),(d _).2 ⟨(BZ H.pos).2.1 C,D.symm⟩,rfl⟩
 refine qz (c:=kZ cu.db cu.kq) ((jC _ _).trans ((List.perm_ext_iff_of_nodup f g).2 i)) ?_ (oO (vd _ _) _) ?_
 ·intro x o y r j l;have o:=(jC _ _).mem_iff.1 o;have r:=(jC _ _).mem_iff.1 r;obtain⟨p,G,rfl⟩:=ajn.1 o;obtain⟨q,I,rfl⟩:=ajn.1 r;rw[yw]at j l;grind
 ·rw[alo];refine (Nx N (oa L)).imp fun {a b} h =>?_;rw[yw];simp only[yi];unfold VV at h;omega
def Vt {w:aT} {r:Int×Int} (h:Bw w=some r):r.1≠0:=by
 unfold Bw at h;simp only[Option.or_eq_some_iff]at h;rcases h with ((h|⟨_,h⟩)|⟨_,h⟩)|⟨_,h⟩
 ·obtain⟨j,x,_,a,_⟩:=dn h;grind
 ·obtain⟨j,x,_,a,_⟩:=dn h;grind
 ·obtain⟨j,x,_,a,_⟩:=dn h;grind
 ·obtain⟨j,x,_,a,_⟩:=dn h;grind
structure ji (w:aT):Prop where
 given:zX w.av
 fit:∀m∈w.an,xf m w.av.length
 once:∀q,q<w.av.length->Iq w.an q=1∨Iq w.an q<0
 used:∀q,q<w.av.length->YP w.an q<=w.av.getD q 0
def PS {w:aT} (h:Bw w=none):ji w:=by
 unfold Bw at h;simp only[Option.or_eq_none_iff]at h;obtain⟨⟨⟨c,d⟩,e⟩,f⟩:=h;refine⟨fun x g =>?_,fun m i =>?_,fun q a =>?_,fun q a =>?_⟩
 ·obtain⟨j,b⟩:=ajH g;have:=cV.1 c j x b;simp_all
 ·obtain⟨j,b⟩:=ajH i;have:=cV.1 d j m b;simp_all
 ·have:=cV.1 e q _ (dx _ a);grind
 ·have:=cV.1 f q _ (dx _ a);simp_all
def agI {w:aT} (n:rF w) (d:ji w):Y2 w.av.length (uj w):=by
 have key:∀c∈uj w,0<c.2∧(0<=c.1.1∧c.1.1<(w.av.length:Int))∧0<=c.1.2∧c.1.2<(w.av.length:Int):=by
  intro c a;unfold uj at a;obtain⟨m,e,a⟩:=akH.1 a;have o:=(n.mill m e).1;have b:=d.fit m e;unfold pr at a;obtain⟨i,f,a⟩:=akH.1 a;rw[akR]at f;unfold Em at a;split at a
  ·rename_i x p;split at a
   ·rename_i q;obtain⟨k,g,a⟩:=akH.1 a;rw[akR]at g;unfold zk at a;split at a
    ·rename_i y r;split at a
     ·rename_i s;rw[ajI.1 a];obtain⟨_,l⟩:=yz b (ajM p) q;obtain⟨j,u,v⟩:=Gz b (ajM r) s.1;obtain⟨_,_,_,z,_⟩:=tq o b.flow g f;have t:m.aB.getD y.aV.toNat 0∈m.aB:=by
       simp_all
      refine⟨Rat.mul_pos (L8 d.given b l).2 ?_,(b.uses _ l).1,b.ports _ t⟩;grind
     ·cases a
    ·cases a
   ·cases a
  ·cases a
 exact⟨fun c h=>(key c h).1,fun c h=>(key c h).2.1,fun c h=>(key c h).2.2⟩
def G7 {w:aT} (f:rF w) (e:ji w):aQ (sh w) ((0:Int),[])=some (lf ((uj w).foldl lR []))∧Ir 125 (uj w):=by
 have g:=f.mills;have i:∀k,((w.an.take k).flatMap (pr w.av)).length<=k*25∧∀c∈(w.an.take k).flatMap (pr w.av),LF c.2<=20:=by
  intro k;have p:∀m∈w.an.take k,(pr w.av m).length<=25∧∀c∈pr w.av m,LF c.2<=20:=fun m h=>by
   have g:=aj0 h;exact ZQ e.given (f.mill m g).1 (e.fit m g)
  have t:(w.an.take k).length<=k:=by grind
  refine⟨?_,fun c u =>?_⟩
  ·have q:∀l:List bs,(∀m∈l,(pr w.av m).length<=25)->(l.flatMap (pr w.av)).length<=l.length*25:=by
    intro l
    induction l with
    | nil=>intro _;simp
    | cons a l v =>
     grind
   grind
  grind
 have key:=fun j d=>qG (body:=sh w) w.an (by omega)
  (fun k (c:List ((Int×Int)×ak))=>c=lf (((w.an.take k).flatMap (pr w.av)).foldl lR [])) (fun c=>c=lf ((uj w).foldl lR [])) (s0:=[]) rfl j d
 constructor
 ·refine (key ?_ ?_).elim fun x ⟨p,hx⟩=>hx ▸ p
  ·rintro k m _ hx rfl;have r:=aO hx;have n:w.an.take (k+1)=w.an.take k++[m]:=by
    obtain⟨o,s⟩:=ajO.1 hx;rw[alK o,s]
   have b:=ajM hx;have H:Ir (k*25) ((w.an.take k).flatMap (pr w.av)):=⟨(i k).1,(i k).2⟩;refine⟨_,?_,rfl⟩;simp only[sh];rw[if_pos (by simpa using r),aU hx,akO,SO e.given (f.mill m b).1 (e.fit m b) H (by omega),akO,a7 (by omega),n,List.flatMap_append];simp
  ·rintro _ rfl;refine⟨_,?_,rfl⟩;simp only[sh];rw[if_neg (by simp),alj];rfl
 ·have:=i w.an.length;rw[alj]at this;exact⟨by have:=this.1;unfold uj;omega,this.2⟩
def aaG {N:Nat} {L:List Dj} (H:Y2 N L):(L.foldl lR []).length<=N*N:=by
 have h:=LH H;have:=congrArg List.length h;rw[pT,ajP,ajP,GP]at this;have:=Sa N (oa L);omega
def Ya (w:aT) (L:List Dj):gS:=rn w.av.length (kC w.av.length (oa L))
def of_eq {w:aT} (a:rF w):CN w=some (match Bw w with|some r=>(gS.mk 0 [],r.1)|none=>(Ya w (uj w),0)):=by
 have b:=a.given;unfold CN;rw[A4 a,akO];cases c:Bw w with
 | some r =>
  have:=Vt c;simp_all
 | none =>
  have d:=PS c;obtain⟨g,_⟩:=G7 a d;have e:=agI a d;have f:=aaG e;have h:w.av.length*w.av.length<=6*6:=alL b b;rw[if_neg (by simp),g,akO,if_neg (by rw[decide_eq_true_eq,GP];omega)];unfold ET;rw[if_pos ⟨by rw[GP];omega,by rw[X4];exact Ad _ _ (by simp)⟩,LH e];rfl
def Yl {a b:Rat} (h:LF a<=eX):tl (cy a) (cy b)=some (decide (a=b)):=by
 have:=Ba h;rw[ahk (by unfold Fit eX at *;omega) (by unfold Fit eX at *;omega)];congr 1
 by_cases hab:a=b
 ·simp_all
 ·rw[decide_eq_false (fun h=>hab (wa h)),decide_eq_false hab]
def BK {α ρ:Type} : ∀(l:List α) (i:Nat),eN (fun _ _=>(none:Option ρ)) i l=none
 | [],_=>rfl
 | _::l,i=>by simp only[eN];exact BK l _
def V5 {N:Nat} {L:List Dj} (a:N<=6) (H:Ir 125 L):(kC N (oa L)).length<=36∧∀t∈kC N (oa L),LF t.2.2<=2700:=by
 have d:=Sa N (oa L);have e:N*N<=6*6:=alL a a;refine⟨by omega,fun t b =>?_⟩;obtain⟨_,_,_,c⟩:=BJ.1 b;rw[c];unfold oa;have f:=L1 (k:=((t.1:Int),(t.2.1:Int))) H.sz;have g:=aj2 21 H.len;omega
def zu (q:Nat) (l:List ia):Int:=l.foldl (fun x u=>x+if u.ca=(q:Int) then u.aR else 0) 0
def pS {α:Type} (f:α->Int):∀(l:List α) (x:Int),l.foldl (fun x u=>x+f u) x=x+l.foldl (fun x u=>x+f u) 0
 | [],x=>by simp
 | a::l,x=>by rw[aj3,aj3,pS f l (x+f a),pS f l (0+f a)];omega
def Sg {q:Nat} : ∀ {l:List ia} {x:Int},(0<=x∧x<=1099511627777)->(∀u∈l,1<=u.aR∧u.aR<=1099511627776)->pg q l x=min 1099511627777 (x+zu q l)∧0<=zu q l
 | [],x,a,_=>by simp only[pg,zu,List.foldl_nil];omega
 | u::l,x,a,h=>by
  have c:=h u (akJ ..);have b:=Ig (q:=q) a c;obtain⟨d,i⟩:=Sg (q:=q) (l:=l) (x:=I5 q x u) b fun v f=>h v (akK _ f);have e:zu q (u::l)=(if u.ca=(q:Int) then u.aR else 0)+zu q l:=by
   unfold zu;rw[aj3,pS (fun u:ia=>if u.ca=(q:Int) then u.aR else 0)];omega
  have g:pg q (u::l) x=pg q l (I5 q x u):=rfl;rw[g,d,e];unfold I5 at b ⊢;omega
def yx (q:Nat) (a:List bs):Int:=a.foldl (fun x m=>x+zu q m.bq) 0
def ad7 {q:Nat} {ms:List bs} (h:∀m∈ms,∀u∈m.bq,1<=u.aR∧u.aR<=1099511627776):YP ms q=min 1099511627777 (yx q ms)∧0<=yx q ms:=by
 have key:∀(ms:List bs) (x:Int),(0<=x∧x<=1099511627777)->(∀m∈ms,∀u∈m.bq,1<=u.aR∧u.aR<=1099511627776)->ms.foldl (fun x m=>pg q m.bq x) x=min 1099511627777 (x+yx q ms)∧0<=yx q ms:=by
  intro ms
  induction ms with
  | nil=>intro x a _;simp only[List.foldl_nil,yx];omega
  | cons m ms b =>
   intro x a h;obtain⟨d,f⟩:=Sg (q:=q) a (h m (akJ ..));obtain⟨g,i⟩:=b (pg q m.bq x) (ug a (h m (akJ ..))) fun m c=>h m (akK _ c);have e:yx q (m::ms)=zu q m.bq+yx q ms:=by
    unfold yx;rw[aj3,pS (fun m:bs=>zu q m.bq)];omega
   grind
 have:=key ms 0 (by omega) h;unfold YP;omega
section
variable {α β:Type}
def b7:List α->(α->Rat)->Rat
 | [],_=>0
 | a::l,f=>f a+b7 l f
def oh (f:α->Rat) (b:List α):∀a:List α,b7 (a++b) f=b7 a f+b7 b f
 | []=>by simp only[List.nil_append,b7];grind
 | x::a=>by simp only[List.cons_append,b7,oh f b a];grind
def YD {f:α->Rat} {a b:List α} (h:a.Perm b):b7 a f=b7 b f:=by
 induction h with
 | nil=>rfl
 | cons x _ c=>simp only[b7];rw[c]
 | swap x y l=>simp only[b7];grind
 | trans _ _ h1 h2=>exact h1.trans h2
def df {f g:α->Rat} : ∀ {l:List α},(∀a∈l,f a=g a)->b7 l f=b7 l g
 | [],_=>rfl
 | a::l,h=>by
  simp only[b7];rw[h a (akJ ..),df fun x b=>h x (akK _ b)]
def BW (f g:α->Rat):∀l:List α,b7 l (fun a=>f a+g a)=b7 l f+b7 l g
 | []=>by simp only[b7];grind
 | a::l=>by simp only[b7,BW f g l];grind
def HY (f g:α->Rat):∀l:List α,b7 l (fun a=>f a-g a)=b7 l f-b7 l g
 | []=>by simp only[b7];grind
 | a::l=>by simp only[b7,HY f g l];grind
def oo:∀l:List α,b7 l (fun _=>0)=0
 | []=>rfl
 | a::l=>by simp only[b7,oo l];grind
def yv (c:Rat) (f:α->Rat):∀l:List α,b7 l (fun a=>c*f a)=c*b7 l f
 | []=>by simp only[b7];grind
 | a::l=>by simp only[b7,yv c f l];grind
def WC {f g:α->Rat} : ∀ {l:List α},(∀a∈l,f a<=g a)->b7 l f<=b7 l g
 | [],_=>by simp only[b7];grind
 | a::l,h=>by
  have c:=h a (akJ ..);have d:=WC (l:=l) fun x b=>h x (akK _ b);simp only[b7];grind
def BX (h:β->α) (f:α->Rat):∀l:List β,b7 (l.map h) f=b7 l fun a=>f (h a)
 | []=>rfl
 | a::l=>by simp only[ajt,b7,BX h f l]
def va (h:β->List α) (f:α->Rat):∀l:List β,b7 (l.flatMap h) f=b7 l fun a=>b7 (h a) f
 | []=>rfl
 | a::l=>by rw[List.flatMap_cons,oh];simp only[b7,va h f l]
def yu (p:α->Bool) (f:α->Rat):∀l:List α,b7 (l.filter p) f=b7 l fun a=>if p a=true then f a else 0
 | []=>rfl
 | a::l=>by
  rw[List.filter_cons];have b:=yu p f l;split
  ·rename_i h;simp only[b7,b,h,if_true]
  ·rename_i h;simp only[b7,b,h,if_false];grind
def LG (f:α->β->Rat) (m:List β):∀l:List α,b7 l (fun a=>b7 m (f a))=b7 m fun b=>b7 l fun a=>f a b
 | []=>by simp only[b7];exact (oo m).symm
 | a::l=>by simp only[b7,LG f m l];rw[<- BW]
def ab9 {N p:Nat} (b:N<=p) (F:Nat->Rat):b7 (List.range N) (fun a=>if a=p then F a else 0)=0:=by
 rw[df (g:=fun _=>0) fun a c=>if_neg (by grind),oo]
def wy {N p:Nat} (b:p<N) (F:Nat->Rat):b7 (List.range N) (fun a=>if a=p then F a else 0)=F p:=by
 induction N with
 | zero=>omega
 | succ N c =>
  rw[alT,oh];simp only[b7]
  by_cases h:p=N
  ·subst h;rw[ab9 (ajo _),if_pos rfl];grind
  grind
def HX (l:List α) (f:α->Rat):b7 (List.range l.length) (fun i=>(l[i]?).elim 0 f)=b7 l f:=by
 have key:∀l:List α,b7 (List.range l.reverse.length) (fun i=>(l.reverse[i]?).elim 0 f)=b7 l.reverse f:=by
  intro l
  induction l with
  | nil=>rfl
  | cons a l b =>
   rw[List.reverse_cons,akn,List.length_singleton,alT,oh,oh];congr 1
   ·rw[<- b];exact df fun i c=>by grind
   ·simp only[b7];simp_all
 have:=key l.reverse;simp_all
def BY {f:α->Rat} {l:List α} (h:∀a∈l,0<=f a):0<=b7 l f:=by
 rw[<- oo l];exact WC h
def UD {K:Nat} {f:α->Rat} : ∀ {l:List α},(∀a∈l,LF (f a)<=K)->LF (b7 l f)<=1+l.length*(K+1)
 | [],_=>by simp only[b7];have:=EK;omega
 | a::l,h=>by
  have c:=h a (akJ ..);have d:=UD (l:=l) fun x b=>h x (akK _ b);have e:=vA (f a) (b7 l f);simp only[b7,List.length_cons];grind
end
def WD (k:Int×Int):∀L:List Dj,wz k L=b7 L fun c=>if k=c.1 then c.2 else 0
 | []=>rfl
 | c::L=>by simp only[wz,b7,WD k L]
def Wc (p:Nat):∀tk:List Tk,uM tk p=b7 tk fun t=>if t.1=p then t.2.2 else 0
 | []=>rfl
 | t::tk=>by simp only[uM,b7,Wc p tk]
def WE {α:Type} (f:α->Rat):∀l:List α,oC (l.map f)=b7 l f
 | []=>rfl
 | a::l=>by simp only[ajt,oC,b7,WE f l]
def Yf {N p:Nat} {S:Nat->Nat->Rat} (c:p<N) (d:∀b,0<=S p b):uM (kC N S) p=b7 (List.range N) (S p):=by
 rw[Wc];unfold kC;rw[va,df (g:=fun a=>if a=p then b7 (List.range N) (S a) else 0) fun a _ =>?_,wy c fun a=>b7 (List.range N) (S a)];rw[BX,yu]
 by_cases h:a=p
 ·subst h;rw[if_pos rfl];refine df fun b _ =>?_;grind
 ·rw[if_neg h];refine Eq.trans (df (g:=fun _=>0) fun b _ =>?_) (oo _);simp[h]
def zO (p:Nat) (L:List Dj):Rat:=b7 L fun c=>if c.1.1=(p:Int) then c.2 else 0
def aca {N p:Nat} {L:List Dj} (H:Y2 N L):b7 (List.range N) (oa L p)=zO p L:=by
 refine Eq.trans (df (l:=List.range N) (g:=fun b:Nat=>b7 L fun c=>if ((p:Int),(b:Int))=c.1 then c.2 else 0) fun b _=>by unfold oa;exact WD _ _) ?_;rw[LG];unfold zO;refine df fun c a =>?_;obtain⟨d,f⟩:=H.to_ c a;obtain⟨j,h⟩:∃j:Nat,c.1.2=j:=⟨c.1.2.toNat,by omega⟩
 by_cases hp:c.1.1=(p:Int)
 ·rw[if_pos hp,df (g:=fun b=>if b=j then c.2 else 0) fun b _ =>?_,wy (by omega) fun _=>c.2];grind
 ·rw[if_neg hp];exact Eq.trans (df (g:=fun _=>0) fun b _=>if_neg (fun e=>hp (by rw[<- e]))) (oo _)
def XX {N p:Nat} {L:List Dj} (H:Y2 N L) (a:p<N):fm (kC N (oa L)) p=1-zO p L:=by
 unfold fm;rw[Yf a fun b=>(BZ H.pos).1,aca H]
def gk (m:bs) (k:Nat):Bool:=match m.aw.aP[k]? with|some y=>y.bh==0|none=>false
def gv (m:bs) (i:Nat):Rat:=b7 (List.range m.aw.aP.length) fun k=>if gk m k=true then EW m.aw k i else 0
def ls (m:bs) (i:Nat):Rat:=b7 (List.range m.aw.aP.length) fun k=>if gk m k=true then 0 else EW m.aw k i
def aeA {m:bs} {i:Nat} (b:rz m.aw) (c:E6 m.aw) (d:i<m.aw.au.length):gv m i+ls m i=1∧0<=gv m i∧0<=ls m i:=by
 have f:∀k∈List.range m.aw.aP.length,0<=EW m.aw k i:=fun k a=>by
  obtain⟨_,_,_,h,_⟩:=tq b c (akR.1 a) d;exact h
 refine⟨?_,BY fun k a =>?_,BY fun k a =>?_⟩
 ·have e:=Ys b c d;rw[WE]at e;rw[<- e];unfold gv ls;rw[<- BW];grind
 ·grind
 grind
def Eb (m:bs) (i:Nat) (F:ia->Rat):Rat:=(m.aw.au[i]?).elim 0 fun x=>if x.bh=1 then F (qW m x.aV) else 0
def yl (p:Nat) (u:ia) (q:Rat):Rat:=if u.ca=(p:Int) then q else 0
def XJ (g:List Int) (m:bs) (p:Nat):zO p (pr g m)=b7 (List.range m.aw.au.length) fun i=>Eb m i fun u=>yl p u (N8 g u*gv m i):=by
 unfold zO pr;rw[va];refine df fun i _ =>?_;unfold Em Eb;cases d:m.aw.au[i]? with
 | none=>rfl
 | some x =>
  simp only[Option.elim_some]
  by_cases a:x.bh=1
  ·rw[if_pos a,if_pos a,va];generalize qW m x.aV=u;have hk:∀k,b7 (zk m i u (N8 g u) k) (fun c=>if c.1.1=(p:Int) then c.2 else 0)=yl p u (N8 g u*if gk m k=true then EW m.aw k i else 0):=by
    intro k;unfold zk gk yl;cases m.aw.aP[k]? with
    | none=>show b7 [] _=_;simp[b7]
    | some y =>
     simp only
     by_cases h0:y.bh=0
     ·by_cases b:EW m.aw k i=0
      ·rw[if_neg (fun h=>h.2 b),b];show (0:Rat)=_;split<;>simp
      ·rw[if_pos ⟨h0,b⟩];simp only[b7,h0];grind
     ·rw[if_neg (fun h=>h0 h.1)];show (0:Rat)=_;split<;>simp[h0]
   rw[df fun k _=>hk k];unfold yl gv;split
   ·rw[yv]
   ·exact oo _
  ·rw[if_neg a,if_neg a];rfl
def acv {m:bs} {N:Nat} (a:xf m N) (F:ia->Rat):b7 (List.range m.aw.au.length) (fun i=>Eb m i F)=b7 m.bq F:=by
 unfold Eb;refine Eq.trans (HX m.aw.au fun x=>if x.bh=1 then F (qW m x.aV) else 0) ?_;rw[df (g:=fun x=>if (x.bh==1)=true then F (qW m x.aV) else 0) fun x _=>by simp_all,<- yu (fun x:gV=>x.bh==1) fun x=>F (qW m x.aV)];rw[<- BX (fun x:gV=>x.aV) fun n=>F (qW m n),YD a.takes];unfold wA;rw[BX];refine Eq.trans (df fun j b =>?_) (HX m.bq F);unfold qW;simp_all
def aaI (w:aT) (p:Nat):zO p (uj w)=b7 w.an fun m=>zO p (pr w.av m):=by
 unfold uj zO;exact va ..
def ah9 (p:Nat) (m:bs):Rat:=b7 m.bq fun u=>yl p u (u.aR:Rat)
def WG (p:Nat):∀l:List ia,b7 l (fun u=>yl p u (u.aR:Rat))=((zu p l:Int):Rat)
 | []=>by simp[b7,zu]
 | u::l=>by
  have e:zu p (u::l)=(if u.ca=(p:Int) then u.aR else 0)+zu p l:=by
   unfold zu;rw[aj3,pS (fun u:ia=>if u.ca=(p:Int) then u.aR else 0)];omega
  simp only[b7];rw[WG p l,e,Rat.intCast_add];congr 1;unfold yl;split<;>simp
def R7 (p:Nat):∀a:List bs,b7 a (ah9 p)=((yx p a:Int):Rat)
 | []=>by simp[b7,yx]
 | m::a=>by
  have e:yx p (m::a)=zu p m.bq+yx p a:=by
   unfold yx;rw[aj3,pS (fun m:bs=>zu p m.bq)];omega
  simp only[b7];rw[R7 p a,e,Rat.intCast_add];congr 1;exact WG p _
def agG {g:List Int} {p:Nat} {u:ia} (h:u.ca=(p:Int)) (a:1<=g.getD p 0):N8 g u*((g.getD p 0:Int):Rat)=(u.aR:Rat):=by
 unfold N8;rw[h,ake,Rat.divInt_eq_div];have:((g.getD p 0:Int):Rat)≠0:=by exact_mod_cast (show g.getD p 0≠0 by omega)
 grind
def Tc {w:aT} (d:rF w) (a:ji w) {p:Nat} (j:p<w.av.length) :
  zO p (uj w)*((w.av.getD p 0:Int):Rat)=((yx p w.an:Int):Rat)-b7 w.an fun m=>b7 (List.range m.aw.au.length) fun i=>Eb m i fun u=>yl p u ((u.aR:Rat)*ls m i):=by
 have e:=a.given (w.av.getD p 0) (by simp_all);rw[aaI,Rat.mul_comm,<- yv,<- R7,<- HY];refine df fun m b =>?_;have f:=(d.mill m b).1;have c:=a.fit m b;rw[XJ,<- yv];unfold ah9;rw[<- acv c,<- HY];refine df fun i g =>?_;obtain⟨k,_,_⟩:=aeA f c.flow (akR.1 g);unfold Eb;cases m.aw.au[i]? with
 | none=>grind
 | some x =>
  simp only[Option.elim_some];split
  ·unfold yl;split
   ·rename_i h;have:=agG h e.1;grind
   ·grind
  ·grind
def Up {w:aT} (a:ji w) {p:Nat} (b:p<w.av.length):0<=yx p w.an∧yx p w.an<=w.av.getD p 0:=by
 have e:=a.given (w.av.getD p 0) (by simp_all);have f:=a.used p b;have g:=ad7 (q:=p) (ms:=w.an) fun m c u d=>((a.fit m c).uses u d).2;omega
def adt {w:aT} (c:rF w) (d:ji w) (p:Nat):0<=b7 w.an fun m=>b7 (List.range m.aw.au.length) fun i=>Eb m i fun u=>yl p u ((u.aR:Rat)*ls m i):=by
 refine BY fun m b=>BY fun i e =>?_;have a:=d.fit m b;obtain⟨_,_,f⟩:=aeA (c.mill m b).1 a.flow (akR.1 e);unfold Eb;cases g:m.aw.au[i]? with
 | none=>simp
 | some x =>
  simp only[Option.elim_some];split
  ·rename_i h;have j:=(a.uses _ (yz a (ajM g) h).2).2;unfold yl;split
   ·exact alU (by exact_mod_cast (show (0:Int)<=(qW m x.aV).aR by omega)) f
   ·simp
  ·simp
def ade {w:aT} (b:rF w) (a:ji w) {p:Nat} (c:p<w.av.length):zO p (uj w)<=1:=by
 have f:=a.given (w.av.getD p 0) (by simp_all);have d:=Tc b a c;have g:=adt b a p;have h:((yx p w.an:Int):Rat)<=((w.av.getD p 0:Int):Rat):=by exact_mod_cast (Up a c).2
 have e:(0:Rat)<((w.av.getD p 0:Int):Rat):=by exact_mod_cast (show (0:Int)<w.av.getD p 0 by omega)
 refine Rat.le_of_mul_le_mul_right ?_ e;rw[d];grind
def AB {w:aT} (a:rF w) (b:ji w):kR w.av.length (kC w.av.length (oa (uj w))) where
 ports:=by have:=a.given;omega
 takes:=by have:=(V5 a.given (G7 a b).2).1;omega
 ok t d:=by
  obtain⟨e,f,g,h⟩:=BJ.1 d;simp_all
 sorted:=Nx _ _
 leak p c:=by
  rw[XX (agI a b) c];have:=ade a b c;grind
section
variable {w:aT} {p:Nat} {d:Int}
end
def Yx (q:Rat):Int×List Int×Int×List Int:=((cy q).bQ.aq,(cy q).bQ.aa,(cy q).bX.aq,(cy q).bX.aa)
def YE (f:Nat->Rat) (n:Nat):b7 (List.range (n+1)) f=b7 (List.range n) f+f n:=by
 rw[alT,oh];simp only[b7];grind
def NU {K n:Nat} {f:Nat->Rat} (h:∀i,i<n->LF (f i)<=K):LF (b7 (List.range n) f)<=1+n*(K+1):=by
 have:=UD (f:=f) (l:=List.range n) fun a b=>h a (akR.1 b)
 rwa [ajQ]at this
section
variable {m:bs} {N:Nat}
end
section
variable {w:aT}
end
def ahz:2*(2 ^ 6*(4 ^ 6*(2700+1)))+100<=eX:=by decide
def XsW {N p x:Nat} (a:N<=6) (h:x<=2 ^ (N-1-p)*(4 ^ N*(2700+1))):x<=1000000000:=by
 have b:2 ^ (N-1-p)<=2 ^ 6:=alW (by decide) (by omega);have c:4 ^ N<=4 ^ 6:=alW (by decide) a;have d:=alL b (aj2 (2700+1) c);have e:2 ^ 6*(4 ^ 6*(2700+1))<=1000000000:=by decide
 omega
open Classical in
def Nf {α ρ:Type} (l:List α) (Q:Nat->α->Prop) (v:ρ) {body:Int->Option (Int⊕(Unit⊕ρ))} (k:l.length<=2000) (f:∀(i:Nat) x,l[i]? = some x->body (i:Int)=if Q i x then some (.inl ((i+1:Nat):Int)) else some (.inr (.inr v))) (g:body (l.length:Int)=some (.inr (.inl ()))) :
  (aQ body 0=some (.inl ())∧∀(i:Nat) x,l[i]? = some x->Q i x)∨(aQ body 0=some (.inr v)∧∃(i:Nat) (x:α),l[i]? = some x∧¬Q i x):=by
 have b:=oe l (fun i x=>if Q i x then none else some v) (by omega) (fun i x e=>by rw[f i x e];split<;>rfl) g;cases c:eN (fun (i:Nat) (x:α)=>if Q i x then none else some v) 0 l with
 | none =>
  left;rw[c]at b;refine⟨b,fun i x e =>?_⟩;have:=cV.1 c i x e;rw[akl]at this;split at this
  ·assumption
  ·cases this
 | some q =>
  right;rw[c]at b;obtain⟨j,x,h,d,_⟩:=dn c;rw[akl]at d;split at d
  ·cases d
  ·rename_i a;cases d;exact⟨b,j,x,h,a⟩
open Classical in
def RL {α:Type} (l:List α) (Q:Nat->α->Prop) {body:Int->Option (Int⊕(Unit⊕Bool))} (a:l.length<=2000) (b:∀(i:Nat) x,l[i]? = some x->body (i:Int)=if Q i x then some (.inl ((i+1:Nat):Int)) else some (.inr (.inr false))) (c:body (l.length:Int)=some (.inr (.inl ()))) :
  (aQ body 0=some (.inl ())∧∀(i:Nat) x,l[i]? = some x->Q i x)∨(aQ body 0=some (.inr false)∧∃(i:Nat) (x:α),l[i]? = some x∧¬Q i x):=Nf l Q false a b c
def ae7 {α:Type} (l:List α) (p:α->Bool) (i:Nat):Prop:=(∃x,l[i]? = some x∧p x=true)∧∀(j:Nat) y,l[j]? = some y->p y=true->j=i
def Un (n:Nat):(wA n).Nodup:=by
 unfold wA List.Nodup;rw[alo];exact (akS (n:=n)).imp fun h=>by omega
def abj {n:Nat} {x:Int} : x∈wA n↔∃j:Nat,j<n∧x=j:=by
 unfold wA;rw[ajn];exact⟨fun⟨j,a,b⟩=>⟨j,akR.1 a,b.symm⟩,fun⟨j,a,b⟩=>⟨j,akR.2 a,b.symm⟩⟩
section
variable {α:Type} {l:List α} {p:α->Bool} {g:α->Int} {n:Nat}
def M3 (h:((l.filter p).map g).Perm (wA n)) {j:Nat} (B:j<n):∃i,ae7 l (fun x=>p x&&g x==(j:Int)) i:=by
 have C:(j:Int)∈(l.filter p).map g:=h.mem_iff.2 (abj.2 ⟨j,B,rfl⟩);obtain⟨x,D,c⟩:=ajn.1 C;obtain⟨q,d⟩:=akP.1 D;obtain⟨i,r⟩:=ajH q;refine⟨i,⟨x,r,by simp[d,c]⟩,fun k y z f =>?_⟩;simp only[ajV,beq_iff_eq]at f;have e:((l.filter p).map g).Nodup:=h.nodup_iff.2 (Un n);unfold List.Nodup at e;rw[alo,List.pairwise_filter]at e;have key:∀(a b:Nat) (u v:α),a<b->l[a]? = some u->l[b]? = some v->p u=true->p v=true->g u≠g v:=fun a b u v s m o E F=>by
  have A:=alp.1 e a b (aO m) (aO o) s;rw[ajA (aO m)]at m;rw[ajA (aO o)]at o;rw[aln m,aln o]at A;exact A E F
 rcases alV k i with t|heq|w
 ·exact absurd (f.2.trans c.symm) (key k i y x t z r f.1 d)
 ·exact heq
 ·exact absurd (c.trans f.2.symm) (key i k x y w r z d f.1)
end
def aiB {ρ:Type} (g:(Int×List Int×Int×List Int)->ρ) (n:Nat) (F:Nat->Rat) {K:Nat} {body:Int×(Int×List Int×Int×List Int)->Option ((Int×(Int×List Int×Int×List Int))⊕ρ)} {A:Rat} (k:n<=2000) (hF:∀i,i<n->LF (F i)<=K)
  (b:∀(i:Nat) (s:Rat),i<n->LF s<=LF A+i*(K+1)+2->body ((i:Int),Yx s)=some (.inl (((i+1:Nat):Int),Yx (s+F i))))
  (c:∀s,body ((n:Int),Yx s)=some (.inr (g (Yx s)))):aQ body (0,Yx A)=some (g (Yx (A+b7 (List.range n) F))):=by
 have d:A=A+b7 (List.range 0) F:=by simp only[List.range_zero,b7];grind
 obtain⟨q,e,h⟩:=eB (body:=body) (fun i st=>st=((i:Int),Yx (A+b7 (List.range i) F))) n (fun q=>q=g (Yx (A+b7 (List.range n) F))) (s:=(0,Yx A)) (by rw[<- d];rfl) (mX (by omega)) (by
  rintro i _ l rfl
  by_cases a:i<n
  ·left;have m:=NU (n:=i) (f:=F) fun j o=>hF j (by omega);have p:=vA A (b7 (List.range i) F);refine⟨a,_,b i _ a (by omega),?_⟩;rw[YE];have:A+b7 (List.range i) F+F i=A+(b7 (List.range i) F+F i):=by grind
   rw[this]
  ·right;have:i=n:=by omega
   subst this;exact⟨_,c _,rfl⟩)
 rw[e,h]
def Yt {row:List ak} {n:Nat} {c a:Nat->Rat} {K:Nat} (m:n<=100) (d:∀i,i<n->row[i]? = some (cy (c i))∧LF (c i)<=4) (h:∀i,i<n->LF (a i)<=K) (o:K<=10000000000) :
  jk row (cv n a)=some (cy (b7 (List.range n) fun i=>c i*a i))∧LF (b7 (List.range n) fun i=>c i*a i)<=1+n*(K+5):=by
 have j:eX=4398046511104:=rfl;have g:∀i,i<n->LF (c i*a i)<=K+4:=fun i b=>by
  have p:=su (c i) (a i);have k:=(d i b).2;have l:=h i b;omega
 refine⟨?_,NU (K:=K+4) (f:=fun i=>c i*a i) g⟩;have q:=EK;have key:aQ (ko row (cv n a)) (0,Yx 0)=some (Yx (0+b7 (List.range n) fun i=>c i*a i)):=by
  refine aiB id n (fun i=>c i*a i) (by omega) g (fun i s b r =>?_) (fun s=>by
   simp only[ko,Yx];rw[dF,if_neg (by simp)];rfl)
  have k:i*(K+4+1)<=100*10000000005:=alL (by omega) (by omega);have l:=g i b;have t:=(d i b).2;have u:=h i b;have e:lv (ak.mk (aL.mk (cy s).bQ.aq (cy s).bQ.aa) (aL.mk (cy s).bX.aq (cy s).bX.aa)) (cy (c i*a i))=some (cy (s+c i*a i),0):=NR (by omega);simp only[ko,Yx];rw[dF,if_pos (by simpa using b),aU (gx a b),akO,aU (d i b).1,akO,NX (by omega),akO,e,akO,a7 (by omega)]
 unfold jk;rw[afv,akO];erw [key];rw[show (0:Rat)+(b7 (List.range n) fun i=>c i*a i)=b7 (List.range n) fun i=>c i*a i by grind];rfl
structure Y5 (l:List (List ak)):Prop where
 len:l.length<=8
 row:∀r∈l,r.length<=8∧∀f∈r,f.bQ.aa.length<=3∧f.bX.aa.length<=3
def aex (l:List (List ak)):∃b,wh l=some b∧(b=true->Y5 l):=by
 have a:(l.take 9).length=min 9 l.length:=ajE;have k:∀r:List ak,r.length<=8->(aQ (p6 r) 0=some (.inl ())∧∀(i:Nat) x,r[i]? = some x->(x.bQ.aa.length:Int)<=3∧(x.bX.aa.length:Int)<=3)∨(aQ (p6 r) 0=some (.inr false)∧∃(i:Nat) (x:ak),r[i]? = some x∧¬((x.bQ.aa.length:Int)<=3∧(x.bX.aa.length:Int)<=3)):=fun r o =>
  RL r (fun _ x=>(x.bQ.aa.length:Int)<=3∧(x.bX.aa.length:Int)<=3) (by omega) (fun i x c=>by
   have d:=aO c;simp only[p6];rw[if_pos (by simpa using d),aU c,akO,afq,akO,a7 (by omega)]
   by_cases g:(x.bQ.aa.length:Int)<=3∧(x.bX.aa.length:Int)<=3
   ·rw[decide_eq_true g,if_pos g];rfl
   ·rw[decide_eq_false g,if_neg g];rfl) (by simp only[p6];rw[if_neg (by simp)])
 have m:=RL (l.take 9) (fun _ r=>r.length<=8∧∀(i:Nat) x,r[i]? = some x->(x.bQ.aa.length:Int)<=3∧(x.bX.aa.length:Int)<=3) (body:=tn l) (by omega) (fun i r c=>by
  have d:=aO c;rw[a]at d;rw[ajN,if_pos (by omega)]at c;simp only[tn];rw[if_pos (by simp;omega),akO,if_pos (by simp;omega),aU c,akO]
  by_cases h8:r.length<=8
  ·rw[if_neg (by simp;omega)];rcases k r h8 with⟨e,h⟩|⟨e,j,x,n,h2⟩
   ·rw[e,if_pos ⟨h8,h⟩,a7 (by omega)];rfl
   ·rw[e,if_neg (fun h=>h2 (h.2 j x n))];rfl
  ·rw[if_pos (by simp;omega),if_neg (fun h=>h8 h.1)]) (by
  simp only[tn]
  by_cases h:9<l.length
  ·rw[if_pos (by rw[a];simp;omega),akO,if_neg (by rw[a];simp;omega)]
  ·rw[if_neg (by rw[a];simp;omega),akO];rfl)
 unfold wh;rcases m with⟨e,h⟩|⟨e,_⟩
 ·rw[e,akO];refine⟨_,rfl,fun p =>?_⟩;have h8:=of_decide_eq_true p;refine⟨by omega,fun r o =>?_⟩;obtain⟨i,d⟩:=ajH o;obtain⟨n,h2⟩:=h i r (by rw[akC (by omega)];exact d);refine⟨n,fun f q =>?_⟩;obtain⟨j,s⟩:=ajH q;have:=h2 j f s;omega
 ·rw[e];exact⟨false,rfl,fun h=>by cases h⟩
def yV {l:List Int} {q:Int} {j:Nat} (h:l[j]? = some q):0<l.count q:=List.count_pos_iff.2 (ajM h)
def JJ {q:Int} : ∀ {l:List Int} {i j:Nat},l.count q=1->l[i]? = some q->l[j]? = some q->i=j
 | [],_,_,h,_,_=>by simp at h
 | x::l,0,0,_,_,_=>rfl
 | x::l,0,j+1,h,h1,h2=>by
  simp only[List.getElem?_cons_zero,ajw]at h1;have:=yV (l:=l) (j:=j) (by simpa using h2);subst h1;rw[List.count_cons_self]at h;omega
 | x::l,i+1,0,h,h1,h2=>by
  simp only[List.getElem?_cons_zero,ajw]at h2;have:=yV (l:=l) (j:=i) (by simpa using h1);subst h2;rw[List.count_cons_self]at h;omega
 | x::l,i+1,j+1,h,h1,h2=>by
  have a:l[i]? = some q:=by simpa using h1
  have b:l[j]? = some q:=by simpa using h2
  have:=yV a;have c:l.count q=1:=by
   rw[List.count_cons]at h;split at h<;>omega
  rw[JJ c a b]
def B0 (m:bs) (a:List bs) (q:Nat):Iq (m::a) q=(m.aB.count (q:Int):Int)+Iq a q:=by
 unfold Iq;rw[aj3,pS (fun m:bs=>(m.aB.count (q:Int):Int)) a (0+_)];omega
def Ny (q:Nat):∀a:List bs,0<=Iq a q
 | []=>by simp[Iq]
 | m::a=>by have:=Ny q a;rw[B0];omega
def WX {q:Nat} : ∀ {ms:List bs} {i:Nat} {m:bs},ms[i]? = some m->(m.aB.count (q:Int):Int)<=Iq ms q
 | [],_,_,h=>by simp at h
 | a::ms,0,m,h=>by
  simp only[List.getElem?_cons_zero,ajw]at h;subst h;have:=Ny q ms;rw[B0];omega
 | a::ms,i+1,m,h=>by
  have:=WX (q:=q) (ms:=ms) (i:=i) (m:=m) (by simpa using h);rw[B0];omega
def WY {q:Nat} : ∀ {ms:List bs},Iq ms q=1->∃(i:Nat) (m:bs),ms[i]? = some m∧m.aB.count (q:Int)=1∧∀(k:Nat) (n:bs),ms[k]? = some n->0<n.aB.count (q:Int)->k=i
 | [],h=>by simp[Iq]at h
 | a::ms,h=>by
  have g:=Ny q ms;rw[B0]at h
  by_cases j:a.aB.count (q:Int)=0
  ·obtain⟨i,m,d,e,f⟩:=WY (q:=q) (ms:=ms) (by omega);refine⟨i+1,m,by simpa using d,e,fun k n b c =>?_⟩;cases k with
   | zero =>
    simp only[List.getElem?_cons_zero,ajw]at b;subst b;omega
   | succ k=>rw[f k n (by simpa using b) c]
  ·refine⟨0,a,rfl,by omega,fun k n b c =>?_⟩;cases k with
   | zero=>rfl
   | succ k =>
    have:=WX (q:=q) (ms:=ms) (i:=k) (m:=n) (by simpa using b);omega
def qZ (w:aT) (p i k:Nat):Prop:=∃m y,w.an[i]? = some m∧m.aw.aP[k]? = some y∧y.bh=0∧m.aB.getD y.aV.toNat 0=(p:Int)
def PQ {m:bs} {N:Nat} (b:xf m N) {k:Nat} {y:tz} (c:m.aw.aP[k]? = some y) (d:y.bh=0):∃j:Nat,y.aV=j∧m.aB[j]? = some (m.aB.getD y.aV.toNat 0):=by
 obtain⟨j,a,e⟩:=Gz b (ajM c) d;refine⟨j,a,?_⟩;rw[a,ake,ajW,ajA e];rfl
def yZ {w:aT} (f:ji w) {p:Nat} (r:p<w.av.length):∃i k,qZ w p i k∧∀i' e,qZ w p i' e->i'=i∧e=k:=by
 have s:Iq w.an p=1:=by
  have:=f.once p r;have:=Ny p w.an;omega
 obtain⟨i,m,g,t,u⟩:=WY s;have v:=f.fit m (ajM g);obtain⟨j,h⟩:=ajH (List.count_pos_iff.1 (show 0<m.aB.count (p:Int) by omega));obtain⟨k,⟨y,x,b⟩,z⟩:=M3 v.gives (aO h);simp only[ajV,beq_iff_eq]at b;refine⟨i,k,⟨m,y,g,x,b.1,?_⟩,?_⟩
 ·rw[b.2,ake,ajW,h];rfl
 ·rintro i' e ⟨q,A,a,c,d,l⟩;have n:=f.fit q (ajM a);obtain⟨C,B,o⟩:=PQ n c d;rw[l]at o;obtain rfl:=u i' q a (yV o);rw[g]at a;obtain rfl:=aln a;obtain rfl:=JJ t h o;exact⟨rfl,z e A c (by simp[d,B])⟩
def aaP (w:aT) (p:Nat) (F:Nat->Nat->Rat):Rat:=b7 (List.range w.an.length) fun i=>(w.an[i]?).elim 0 fun m=>b7 (List.range m.aw.aP.length) fun k=>(m.aw.aP[k]?).elim 0 fun y=>if y.bh=0∧m.aB.getD y.aV.toNat 0=(p:Int) then F i k else 0
def xY {w:aT} (t:ji w) {p:Nat} (u:p<w.av.length) {i k:Nat} (h:qZ w p i k) (F:Nat->Nat->Rat):aaP w p F=F i k:=by
 obtain⟨A,B,C,r⟩:=yZ t u;obtain⟨rfl,rfl⟩:=r i k h;obtain⟨m,y,l,s,v,x⟩:=h;unfold aaP;rw[df (g:=fun a=>if a=i then F i k else 0) fun a o =>?_,wy (aO l)];have o:=akR.1 o;have c:w.an[a]? = some w.an[a]:=ajA o;generalize w.an[a]=n at c;rw[c,Option.elim_some];rw[df (g:=fun b=>if b=k then (if a=i then F i k else 0) else 0) fun b q =>?_]
 ·by_cases d:a=i
  ·subst d;rw[l]at c;obtain rfl:=aln c;rw[wy (aO s)]
  ·rw[if_neg d];exact Eq.trans (df (g:=fun _=>0) fun b _=>by split<;>rfl) (oo _)
 ·have q:=akR.1 q;have e:n.aw.aP[b]? = some n.aw.aP[b]:=ajA q;generalize n.aw.aP[b]=z at e;rw[e,Option.elim_some]
  by_cases j:z.bh=0∧n.aB.getD z.aV.toNat 0=(p:Int)
  ·obtain⟨rfl,rfl⟩:=r a b ⟨n,z,c,e,j⟩;rw[if_pos j,if_pos rfl,if_pos rfl]
  ·rw[if_neg j]
   by_cases f:b=k
   ·subst f;rw[if_pos rfl]
    by_cases d:a=i
    ·subst d;rw[l]at c;obtain rfl:=aln c;rw[s]at e;obtain rfl:=aln e;exact absurd ⟨v,x⟩ j
    ·rw[if_neg d]
   ·rw[if_neg f]
structure NZ (w:aT) (S:List (List ak)) (s:Nat->Nat->Rat):Prop where
 len:S.length=w.an.length
 row:∀(i:Nat) m,w.an[i]? = some m->S[i]? = some (cv m.aw.au.length (s i))
 nn:∀(i:Nat) m,w.an[i]? = some m->∀k,k<m.aw.au.length->0<=s i k∧LF (s i k)<=100
 tk:∀(i:Nat) m,w.an[i]? = some m->∀(k:Nat) x,m.aw.au[k]? = some x->x.bh=1->s i k=0
def aez (f:fb) (k:Nat) (x:ak):Prop:=okF x=true∧∀y,f.au[k]? = some y->y.bh=1->x.bQ.aq=0
def Y6 (f:fb) (l:List ak):Prop:=l.length=f.au.length∧∀(k:Nat) x,l[k]? = some x->aez f k x
def SzA (K:Nat) (S:List (List ak)):Prop:=∀r∈S,∀f∈r,f.bQ.aa.length<=K∧f.bX.aa.length<=K
def Iw {f:fb} {l:List ak} (u:f.au.length<=100) (p:∀x∈l,x.bQ.aa.length<=100∧x.bX.aa.length<=100):∃b,pK f l=some b∧(b=true↔Y6 f l):=by
 have r:eX=4398046511104:=rfl;unfold pK Y6
 by_cases a:l.length=f.au.length
 rotate_left
 ·exact⟨false,by rw[if_pos (by rw[bne_iff_ne];omega)],by simp[a]⟩
 rw[if_neg (by simp[a])];rcases Nf l (aez f) false (body:=mT f l) (by omega) (fun i x g=>by
  have s:=aO g;have n:=p x (ajM g);have j:f.au[i]? = some (f.au[i]'(by omega)):=ajA _;generalize f.au[i]'(by omega)=y at j;simp only[mT];rw[if_pos (by simpa using s),aU g,akO,xj ⟨by unfold sw;omega,by unfold sw;omega⟩,akO,a7 (by omega)];cases c:okF x with
  | false=>rw[if_pos (by simp),if_neg (fun h=>by have:=h.1;rw[c]at this;cases this)]
  | true =>
   rw[if_neg (by simp),aU j,akO]
   by_cases k:y.bh=1
   ·obtain⟨q,rfl⟩:=qv.1 c;rw[if_pos (by simpa using k),zZ (by have:=qp n.1 n.2;omega),akO]
    by_cases h2:q.num.sign=0
    ·rw[if_neg (by simp[h2]),if_pos ⟨c,fun t d _=>h2⟩]
    ·rw[if_pos (by simpa using h2),if_neg (fun h=>h2 (h.2 y j k))]
   ·rw[if_neg (by simpa using k),if_pos ⟨c,fun t d o=>by rw[j]at d;rw[<- aln d]at o;exact absurd o k⟩]) (by simp only[mT];rw[if_neg (by simp)]) with⟨e,h⟩|⟨e,i,x,g,hbad⟩
 ·rw[e];exact⟨true,rfl,by simp only[true_iff];exact⟨a,h⟩⟩
 ·rw[e];exact⟨false,rfl,by simp only[ajT,false_iff];exact fun h=>hbad (h.2 i x g)⟩
def QH {l:List ak} (f:l.length<=2000) (m:∀x∈l,okF x=true∧x.bQ.aa.length<=100∧x.bX.aa.length<=100):∃b,ct l=some b∧(b=false↔∀x∈l,0<=x.bQ.aq):=by
 have n:eX=4398046511104:=rfl;unfold ct dy;rw[oe l (fun i x=>if 0<=x.bQ.aq then none else some (i:Int)) (by omega) (fun i x a =>?_) (by simp only[dW];rw[if_neg (by simp)])]
 ·cases g:eN (fun (i:Nat) (x:ak)=>if 0<=x.bQ.aq then none else some (i:Int)) 0 l with
  | none =>
   refine⟨false,rfl,?_⟩;simp only[true_iff];intro x a;obtain⟨j,o⟩:=ajH a;have:=cV.1 g j x o;split at this
   ·assumption
   ·cases this
  | some q =>
   obtain⟨j,x,p,c,_⟩:=dn g;split at c
   ·cases c
   ·rename_i hbad;cases c;refine⟨true,by simp,?_⟩;simp only[alX,false_iff];exact fun h=>hbad (h x (ajM p))
 ·have r:=aO a;obtain⟨d,k⟩:=m x (ajM a);obtain⟨q,rfl⟩:=qv.1 d;have e:(cy q).bQ.aq=q.num.sign:=rfl;simp only[dW,mS];rw[if_pos (by simpa using r),aU a,akO,zZ (by have:=qp k.1 k.2;omega),akO,akO,a7 (by omega),e]
  by_cases h:0<=q.num.sign
  ·rw[if_neg (by rw[decide_eq_true_eq];omega),if_pos h]
  ·rw[if_pos (decide_eq_true (by omega)),if_neg h]
def Dx {w:aT} (hm:w.an.length<=5) (Q:∀m∈w.an,rz m.aw) {S:List (List ak)} (J:SzA 100 S) :
  ∃e,ln w S=some e∧(e=0↔∃s,NZ w S s)∧(e=0∨e=1∨e=3∧∃r∈S,∃x∈r,x.bQ.aq<0):=by
 have E:∀ {s:Nat->Nat->Rat},NZ w S s->∀(i:Nat) m,w.an[i]? = some m->∃r,S[i]? = some r∧Y6 m.aw r:=fun {s} h i m g=>by
  refine⟨_,h.row i m g,dF _,fun k x a =>?_⟩;have v:k<m.aw.au.length:=by have:=aO a;rwa [dF]at this
  rw[gx _ v]at a;obtain rfl:=aln a;refine⟨G8 _,fun y R c =>?_⟩;rw[h.tk i m g k y R c];rfl
 unfold ln
 by_cases u:S.length=w.an.length
 rotate_left
 ·exact⟨1,by rw[if_pos (by rw[bne_iff_ne];omega)],⟨fun h=>by simp at h,fun⟨s,h⟩=>absurd h.len u⟩,.inr (.inl rfl)⟩
 rw[if_neg (by simp[u])];rcases Nf w.an (fun i m=>∃r,S[i]? = some r∧Y6 m.aw r) (1:Int) (body:=lp w S) (by omega) (fun i m a=>by
  have g:=aO a;have z:S[i]? = some (S[i]'(by omega)):=ajA _;have n:=ajz (show i<S.length by omega);generalize S[i]'(by omega)=r at z n;have T:=Q m (ajM a);obtain⟨b,K,G⟩:=Iw (f:=m.aw) (l:=r) (by have:=T.srcs;omega) (J r n);simp only[lp];rw[if_pos (by simpa using g),aU a,akO,aU z,akO,K,akO,a7 (by omega)];cases b with
  | true=>rw[if_neg (by simp),if_pos ⟨r,z,G.1 rfl⟩]
  | false=>rw[if_pos (by simp),if_neg (fun⟨U,c,t⟩=>by rw[z]at c;rw[<- aln c]at t;have:=G.2 t;cases this)]) (by simp only[lp];rw[if_neg (by simp)]) with⟨e,o⟩|⟨e,i,m,a,p⟩
 rotate_left
 ·rw[e];exact⟨1,rfl,⟨fun h=>by simp at h,fun⟨s,h⟩=>absurd (E h i m a) p⟩,.inr (.inl rfl)⟩
 rw[e,akO];simp only;have B:∀r∈S,∃m∈w.an,Y6 m.aw r:=fun r z=>by
  obtain⟨j,V,rfl⟩:=alr z;have d:w.an[j]? = some (w.an[j]'(by omega)):=ajA _;obtain⟨U,c,t⟩:=o j _ d;rw[ajA V]at c;exact⟨_,ajM d,by rw[aln c];exact t⟩
 have L:∀r∈S,r.length<=100∧∀x∈r,okF x=true∧x.bQ.aa.length<=100∧x.bX.aa.length<=100:=fun r z=>by
  obtain⟨m,M,c,t⟩:=B r z;have:=(Q m M).srcs;refine⟨by omega,fun x a =>?_⟩;obtain⟨k,v⟩:=ajH a;exact⟨(t k x v).1,J r z x a⟩
 rcases Nf S (fun _ r=>∀x∈r,0<=x.bQ.aq) (3:Int) (body:=lq S) (by omega) (fun i r a=>by
  have g:=aO a;obtain⟨k1,W⟩:=L r (ajM a);obtain⟨b,K,G⟩:=QH (l:=r) (by omega) W;simp only[lq];rw[if_pos (by simpa using g),aU a,akO,K,akO,a7 (by omega)];cases b with
  | false=>rw[if_neg (by simp),if_pos (G.1 rfl)]
  | true=>rw[if_pos rfl,if_neg (fun h=>by have:=G.2 h;cases this)]) (by simp only[lq];rw[if_neg (by simp)]) with⟨e,N⟩|⟨e,i,r,a,p⟩
 ·rw[e];refine⟨0,rfl,⟨fun _ =>?_,fun _=>rfl⟩,.inl rfl⟩;refine⟨fun i k=>TS ((S.getD i []).getD k zF),u,fun i m g =>?_,fun i m g k v =>?_,fun i m g k x v c =>?_⟩
  ·obtain⟨r,c,t,C⟩:=o i m g;have H:S.getD i []=r:=by rw[ajW,c];rfl
   rw[c,H];refine congrArg some (fZ t fun k v =>?_);show r[k]? = some (cy (TS (r.getD k zF)));have d:r[k]? = some (r[k]'(by omega)):=ajA _;obtain⟨q,D⟩:=qv.1 (C k _ d).1;rw[d,ajW,d,aj6,D,y9]
  ·obtain⟨r,c,t,C⟩:=o i m g;have H:S.getD i []=r:=by rw[ajW,c];rfl
   have d:r[k]? = some (r[k]'(by omega)):=ajA _;have n:=ajM c;have a:=ajM d;obtain⟨q,D⟩:=qv.1 (C k _ d).1;have I:=N i r c _ a;have O:=J r n _ a;rw[D]at I O;have P:TS ((S.getD i []).getD k zF)=q:=by rw[H,ajW,d,aj6,D,y9]
   rw[P];have h6:¬q<0:=fun h=>by have:=ud.2 h;have e:(cy q).bQ.aq=q.num.sign:=rfl;omega
   exact⟨by grind,qp O.1 O.2⟩
  ·obtain⟨r,X,t,C⟩:=o i m g;have H:S.getD i []=r:=by rw[ajW,X];rfl
   have Y:=aO v;have d:r[k]? = some (r[k]'(by omega)):=ajA _;obtain⟨q,D⟩:=qv.1 (C k _ d).1;have I:=(C k _ d).2 x v c;rw[D]at I;have P:TS ((S.getD i []).getD k zF)=q:=by rw[H,ajW,d,aj6,D,y9]
   exact P.trans (abR.1 I)
 ·rw[e];refine⟨3,rfl,⟨fun h=>by simp at h,fun⟨s,h⟩ =>?_⟩,.inr (.inr ⟨rfl,r,ajM a,?_⟩)⟩
  ·refine absurd (fun x A =>?_) p;have g:i<w.an.length:=by have:=aO a;omega
   have d:w.an[i]? = some (w.an[i]):=ajA g;have:=h.row i _ d;rw[a]at this;rw[aln this]at A;obtain⟨k,v,rfl⟩:=ajn.1 A;have c:=(h.nn i _ d k (akR.1 v)).1;have t:¬s i k<0:=by grind
   have C:=mt ud.1 t;have e:(cy (s i k)).bQ.aq=(s i k).num.sign:=rfl;omega
  ·by_cases h:∃x∈r,x.bQ.aq<0
   ·exact h
   ·exact absurd (fun x A=>Int.not_lt.1 fun Z=>h ⟨x,A,Z⟩) p
def ZE {B:Nat} {α:Type} {l m:List α} (a:B<=1000) (h:l.length+m.length<=1000):ou B l m=some (l++m):=by
 unfold ou;have:(1000:Nat)<=maxLen:=by decide
 have b:(l.length+m.length)*B<=1000*1000:=alL h a;rw[if_pos ⟨by omega,by omega⟩]
def VJ {α:Type} {P Q:Prop} {d:Decidable P} {e:Decidable Q} {a b:α} (h:P↔Q):(if P then a else b)=if Q then a else b:=by
 by_cases c:P
 ·rw[if_pos c,if_pos (h.1 c)]
 ·rw[if_neg c,if_neg (mt h.2 c)]
def zt (w:aT) (a:Nat->Nat->Rat) (i k:Nat):Rat:=(w.an[i]?).elim 0 fun m=>b7 (List.range m.aw.au.length) fun j=>EW m.aw k j*a i j
def um (w:aT) (s:Nat->Nat->Rat) (p:Nat):Rat:=aaP w p (zt w s)
section
variable {w:aT} {S:List (List ak)} {s:Nat->Nat->Rat} {N:Nat}
def C5 (o:rF w) (p:ji w) {i:Nat} {m:bs} (g:w.an[i]? = some m) {k:Nat} (c:k<m.aw.aP.length) {a:Nat->Nat->Rat} {K:Nat} (q:K<=10000000000) (r:∀j,j<m.aw.au.length->LF (a i j)<=K) :
  ∃row,m.aw.aM[k]? = some row∧jk row (cv m.aw.au.length (a i))=some (cy (zt w a i k))∧LF (zt w a i k)<=1+5*(K+5):=by
 have b:=ajM g;have h:=(o.mill m b).1;have d:=(p.fit m b).flow;have s:=h.srcs;have f:m.aw.aM[k]? = some (m.aw.aM[k]'(by rw[d.rows];exact c)):=ajA _;generalize m.aw.aM[k]'(by rw[d.rows];exact c)=row at f;have t:∀j,j<m.aw.au.length->row[j]? = some (cy (EW m.aw k j))∧LF (EW m.aw k j)<=4:=fun j u=>by
  obtain⟨l,n,v,_,x⟩:=tq h d c u;rw[f]at n;rw[aln n];exact⟨v,x⟩
 obtain⟨y,z⟩:=Yt (by omega) t r q;have e:zt w a i k=b7 (List.range m.aw.au.length) fun j=>EW m.aw k j*a i j:=by unfold zt;rw[g];rfl
 have A:=aj2 (K+5) s;rw[e];exact⟨row,f,y,by omega⟩
def adG (f:ji w) {i k:Nat} {m:bs} {y:tz} (b:w.an[i]? = some m) (c:m.aw.aP[k]? = some y) (d:y.bh=0):∃p:Nat,p<w.av.length∧P.idx m.aB y.aV=some (p:Int)∧qZ w p i k:=by
 have e:=f.fit m (ajM b);obtain⟨j,g,a⟩:=PQ e c d;have h:=e.ports _ (ajM a);refine⟨(m.aB.getD y.aV.toNat 0).toNat,by omega,?_,m,y,b,c,d,by omega⟩;rw[Int.toNat_of_nonneg h.1];rw[g]at a ⊢;exact aU a
open Classical in
def uk (w:aT) (s:Nat->Nat->Rat) (i k:Nat):List ak:=(List.range w.av.length).map fun p=>if ∃a b,qZ w p a b∧(a<i∨a=i∧b<k) then cy (um w s p) else zF
def FE {i k c f:Nat} (h:∀p,p<w.av.length->∀a b,qZ w p a b->((a<i∨a=i∧b<k)↔(a<c∨a=c∧b<f))):uk w s i k=uk w s c f:=by
 unfold uk;refine akM fun p e =>?_;have e:=akR.1 e;have:(∃a b,qZ w p a b∧(a<i∨a=i∧b<k))↔∃a b,qZ w p a b∧(a<c∨a=c∧b<f):=by
  constructor
  ·rintro⟨a,b,d,g⟩;exact⟨a,b,d,(h p e a b d).1 g⟩
  ·rintro⟨a,b,d,g⟩;exact⟨a,b,d,(h p e a b d).2 g⟩
 exact VJ this
def aab (n:ji w) {i k p:Nat} (u:p<w.av.length) (g:qZ w p i k):(uk w s i k).set p (cy (zt w s i k))=uk w s i (k+1):=by
 unfold uk;rw[gX];refine akM fun q h =>?_;have h:=akR.1 h
 by_cases d:q=p
 ·subst d;rw[if_pos rfl,if_pos ⟨i,k,g,.inr ⟨rfl,by omega⟩⟩];unfold um;rw[xY n h g]
 ·rw[if_neg d];have:(∃c e,qZ w q c e∧(c<i∨c=i∧e<k))↔∃c e,qZ w q c e∧(c<i∨c=i∧e<k+1):=by
   constructor
   ·rintro⟨a,b,f,o⟩;exact⟨a,b,f,by omega⟩
   ·rintro⟨a,b,f,o⟩;refine⟨a,b,f,?_⟩
    by_cases j:a=i∧b=k
    ·exfalso;obtain⟨rfl,rfl⟩:=j;obtain⟨v,x,r,t,_,y⟩:=f;obtain⟨z,A,l,m,_,B⟩:=g;rw[r]at l;obtain rfl:=aln l;rw[t]at m;obtain rfl:=aln m;omega
    ·omega
  exact VJ this
def Xq {i k:Nat} {m:bs} {y:tz} (f:w.an[i]? = some m) (g:m.aw.aP[k]? = some y) (j:y.bh≠0):uk w s i k=uk w s i (k+1):=by
 refine FE fun p o a b c =>?_;constructor
 ·intro h;omega
 ·intro h
  by_cases l:a=i∧b=k
  ·exfalso;obtain⟨rfl,rfl⟩:=l;obtain⟨q,r,d,e,n,_⟩:=c;rw[f]at d;obtain rfl:=aln d;rw[g]at e;obtain rfl:=aln e;exact j n
  ·omega
def Z9 {i:Nat} {m:bs} (e:w.an[i]? = some m):uk w s i m.aw.aP.length=uk w s (i+1) 0:=by
 refine FE fun p j a b c =>?_;constructor
 ·intro h;omega
 ·intro h;rcases h with h|h
  ·by_cases f:a=i
   ·subst f;obtain⟨k,l,d,g,_,_⟩:=c;rw[e]at d;obtain rfl:=aln d;exact .inr ⟨rfl,aO g⟩
   ·exact .inl (by omega)
  ·omega
def SP:List.replicate w.av.length zF=uk w s 0 0:=by
 unfold uk;refine fZ (by simp) fun j c =>?_;rw[alS,if_pos c,if_neg];rintro⟨a,b,_,h⟩;omega
def Xp (a:ji w):uk w s w.an.length 0=cv w.av.length (um w s):=by
 refine akM fun p b =>?_;obtain⟨i,k,h,_⟩:=yZ a (akR.1 b);obtain⟨m,y,c,_⟩:=id h;rw[if_pos ⟨i,k,h,.inl (aO c)⟩]
def aaa {i k p:Nat} (a:p<w.av.length):∃z,(uk w s i k)[p]? = some z:=⟨_,ajA (by unfold uk;rw[sj];exact a)⟩
def Xs (n:rF w) (g:ji w) (o:NZ w S s) {i:Nat} {m:bs} (b:w.an[i]? = some m) :
  aQ (jd S (i:Int) m) ((0:Int),uk w s i 0)=some (uk w s (i+1) 0):=by
 have c:=ajM b;have t:=(n.mill m c).1;have G:=t.outs;have key:=fun h d=>qG (body:=jd S (i:Int) m) m.aw.aP (by omega) (fun k (l:List ak)=>l=uk w s i k) (fun l=>l=uk w s (i+1) 0) (s0:=uk w s i 0) rfl h d;refine (key ?_ ?_).elim fun x ⟨u,hx⟩=>hx ▸ u
 ·rintro k y _ e rfl;have q:=aO e;simp only[jd];rw[if_pos (by simpa using q),aU e,akO,a7 (by omega)]
  by_cases f:y.bh=0
  ·obtain⟨p,r,v,A⟩:=adG g b e f;obtain⟨B,C,D,_⟩:=C5 n g b q (a:=s) (K:=100) (by omega) fun j E=>(o.nn i m b j E).2;obtain⟨z,F⟩:=aaa (s:=s) (i:=i) (k:=k) r;rw[if_pos (by simpa using f),v,akO,aU C,akO,aU (o.row i m b),akO,D,akO,aU F,akO,ake];exact⟨_,rfl,aab g r A⟩
  ·rw[if_neg (by simpa using f)];exact⟨_,rfl,Xq b e f⟩
 ·rintro _ rfl;refine⟨_,?_,rfl⟩;simp only[jd];rw[if_neg (by simp),Z9 b]
def Xr (b:rF w) (e:ji w) (f:NZ w S s):lS w S=some (cv w.av.length (um w s)):=by
 have h:=b.mills;have j:=b.given;have key:=fun c a=>qG (body:=jc w S) w.an (by omega) (fun i (l:List ak)=>l=uk w s i 0) (fun l=>l=cv w.av.length (um w s)) (s0:=List.replicate w.av.length zF) SP c a;have d:aQ (jc w S) ((0:Int),List.replicate w.av.length zF)=some (cv w.av.length (um w s)):=by
  refine (key ?_ ?_).elim fun x ⟨d,hx⟩=>hx ▸ d
  ·rintro i m _ hx rfl;have g:=aO hx;refine⟨_,?_,rfl⟩;simp only[jc];rw[if_pos (by simpa using g),aU hx,akO,Xs b e f hx,akO,a7 (by omega)]
  ·rintro _ rfl;refine⟨_,?_,rfl⟩;simp only[jc];rw[if_neg (by simp),Xp e]
 unfold lS;rw[D1 _ (by omega) (by omega),akO,d,akO]
def aad (a:ji w) {p:Nat} (b:p<w.av.length):∃i k,qZ w p i k∧um w s p=zt w s i k:=by
 obtain⟨i,k,h,_⟩:=yZ a b;exact⟨i,k,h,xY a b h _⟩
def We (b:rF w) (c:ji w) {i k:Nat} {m:bs} {y:tz} (d:w.an[i]? = some m) (e:m.aw.aP[k]? = some y) {a:Nat->Nat->Rat} {K:Nat} (f:K<=10000000000) (g:∀j,j<m.aw.au.length->LF (a i j)<=K):LF (zt w a i k)<=1+5*(K+5):=by
 obtain⟨_,_,_,h⟩:=C5 b c d (aO e) f g;exact h
def Wd (e:rF w) (f:ji w) {i k:Nat} {m:bs} {y:tz} (d:w.an[i]? = some m) (g:m.aw.aP[k]? = some y) {a:Nat->Nat->Rat} (l:∀j,j<m.aw.au.length->0<=a i j):0<=zt w a i k:=by
 have b:=ajM d;unfold zt;rw[d,Option.elim_some];refine BY fun j c =>?_;have c:=akR.1 c;obtain⟨_,_,_,h,_⟩:=tq (e.mill m b).1 (f.fit m b).flow (aO g) c;exact alU h (l j c)
def Vd (f:rF w) (c:ji w) (g:NZ w S s) {p:Nat} (l:p<w.av.length):LF (um w s p)<=2700∧0<=um w s p:=by
 obtain⟨i,k,⟨m,y,b,h,_,_⟩,e⟩:=aad (s:=s) c l;rw[e];have:=We f c b h (a:=s) (K:=100) (by omega) fun j d=>(g.nn i m b j d).2;exact⟨by omega,Wd f c b h fun j d=>(g.nn i m b j d).1⟩
def Fi (w:aT) (s:Nat->Nat->Rat) (x:Nat->Rat) (i j:Nat):Rat:=(w.an[i]?).elim 0 fun m=>(m.aw.au[j]?).elim 0 fun y=>if y.bh=1 then N8 w.av (qW m y.aV)*x (qW m y.aV).ca.toNat else s i j
def rD (w:aT) (s:Nat->Nat->Rat) (x:Nat->Rat) (i k:Nat):Rat:=zt w (Fi w s x) i k
def zP (w:aT) (i:Nat):Nat:=(w.an[i]?).elim 0 fun m=>m.aw.aP.length
def wO (w:aT) (s:Nat->Nat->Rat) (x:Nat->Rat) (n:Nat):List (List ak):=(List.range n).map fun i=>cv (zP w i) (rD w s x i)
def Wh (f:ji w) {x:Nat->Rat} {p:Nat} (g:p<w.av.length) (k:LF (x p)<=1000000000) {a:Int} (l : -1099511627776<=a∧a<=1099511627776) :
  lr w (cv w.av.length x) (p:Int) a=some (cy (Rat.divInt a (w.av.getD p 0)*x p))∧LF (Rat.divInt a (w.av.getD p 0)*x p)<=1000000020:=by
 have i:eX=4398046511104:=rfl;obtain⟨j,m,n,b,c,d⟩:=Gy f.given (p:=(p:Int)) (by omega);obtain rfl:p=j:=by omega
 rw[ake]at b c d;have e:w.av.getD p 0≠0:=by omega
 have o:=se (p:=a) e;have q:=Sw c d;have r:Ln a<=10:=by
  rcases Int.lt_trichotomy a 0 with h|h|h
  ·have:=Sw (x := -a) (by omega) (by omega);rw[L2]at this;omega
  ·subst h;exact ajq LF_zero_ln (by decide)
  ·exact ajq (Sw (by omega) (by omega)) (by decide)
 have s:=su (Rat.divInt a (w.av.getD p 0)) (x p);refine⟨?_,by omega⟩;unfold lr;rw[aU b,akO,ae6 (by omega) (by omega) e,akO,aU (gx x g),akO,NX (by omega),akO]
where
 LF_zero_ln:Ln 0<=1:=by have:=EK;have h:=mF 0;exact ajq h this
end
section
variable {w:aT} {S:List (List ak)} {s:Nat->Nat->Rat} {x:Nat->Rat}
def sB {i j:Nat} {m:bs} {y:gV} (a:w.an[i]? = some m) (b:m.aw.au[j]? = some y):Fi w s x i j=if y.bh=1 then N8 w.av (qW m y.aV)*x (qW m y.aV).ca.toNat else s i j:=by
 unfold Fi;rw[a,Option.elim_some,b,Option.elim_some]
def Ih (c:ji w) (d:∀p,p<w.av.length->LF (x p)<=1000000000) {m:bs} (e:m∈w.an) {u:ia} (f:u∈m.bq) :
  lr w (cv w.av.length x) u.ca u.aR=some (cy (N8 w.av u*x u.ca.toNat))∧LF (N8 w.av u*x u.ca.toNat)<=1000000020∧u.ca.toNat<w.av.length:=by
 obtain⟨g,h⟩:=(c.fit m e).uses u f;have b:u.ca.toNat<w.av.length:=by omega
 have:=Wh c b (d _ b) (a:=u.aR) (by omega);rw[Int.toNat_of_nonneg g.1]at this;exact⟨this.1,this.2,b⟩
def ZD (c:ji w) (f:NZ w S s) (g:∀p,p<w.av.length->LF (x p)<=1000000000) {i:Nat} {m:bs} (b:w.an[i]? = some m):∀j,j<m.aw.au.length->LF (Fi w s x i j)<=1000000020:=fun j d=>by
 have e:m.aw.au[j]? = some m.aw.au[j]:=ajA d;have a:=ajM b;rw[sB b e];split
 ·rename_i h;obtain⟨_,k⟩:=yz (c.fit m a) (ajM e) h;exact (Ih c g a k).2.1
 ·have:=(f.nn i m b j d).2;omega
def OD (r:rF w) (o:ji w) (v:NZ w S s) (hx:∀p,p<w.av.length->LF (x p)<=1000000000) {i:Nat} {m:bs} (h:w.an[i]? = some m) {e:Int} :
  aQ (jQ w (cv w.av.length x,e) m) ((0:Int),cv m.aw.au.length (s i))=some (cv m.aw.au.length (Fi w s x i)):=by
 have a:=ajM h;have z:=(r.mill m a).1.srcs;have key:=fun n f=>qG (body:=jQ w (cv w.av.length x,e) m) m.aw.au (by omega) (fun k (l:List ak)=>l=(List.range m.aw.au.length).map fun j=>if j<k then cy (Fi w s x i j) else cy (s i j)) (fun l=>l=cv m.aw.au.length (Fi w s x i)) (s0:=cv m.aw.au.length (s i)) (akM fun j _=>by rw[if_neg (by omega)]) n f;refine (key ?_ ?_).elim fun x ⟨c,hx⟩=>hx ▸ c
 ·rintro k y _ g rfl;have q:=aO g;simp only[jQ];rw[if_pos (by simpa using q),aU g,akO,a7 (by omega)]
  by_cases c:y.bh=1
  ·obtain⟨t,u⟩:=yz (o.fit m a) (ajM g) c;rw[if_pos (by simpa using c),t,akO,(Ih o hx a u).1,akO,aU (dx _ q),akO,ake,gX];refine⟨_,rfl,akM fun j _ =>?_⟩
   by_cases d:j=k
   ·subst d;rw[if_pos rfl,if_pos (by omega),sB h g,if_pos c]
   ·rw[if_neg d]
    by_cases b:j<k
    ·rw[if_pos b,if_pos (by omega)]
    ·rw[if_neg b,if_neg (by omega)]
  ·rw[if_neg (by simpa using c)];refine⟨_,rfl,akM fun j _ =>?_⟩
   by_cases d:j=k
   ·subst d;rw[if_neg (by omega),if_pos (by omega),sB h g,if_neg c]
   ·by_cases b:j<k
    ·rw[if_pos b,if_pos (by omega)]
    ·rw[if_neg b,if_neg (by omega)]
 ·rintro _ rfl;refine⟨_,?_,rfl⟩;simp only[jQ];rw[if_neg (by simp)];refine congrArg some (congrArg Sum.inr (akM fun j d =>?_));rw[if_pos (akR.1 d)]
def SM (h:rF w) (f:ji w) (o:NZ w S s) (hx:∀p,p<w.av.length->LF (x p)<=1000000000) {i:Nat} {m:bs} (e:w.an[i]? = some m) :
  aQ (jR m (cv m.aw.au.length (Fi w s x i))) ((0:Int),[])=some (cv (zP w i) (rD w s x i)):=by
 have c:=ajM e;have q:=(h.mill m c).1;have A:=q.outs;have r:=(f.fit m c).flow.rows;have t:zP w i=m.aw.aP.length:=by unfold zP;rw[e];rfl
 rw[t];have key:=fun g d=>qG (body:=jR m (cv m.aw.au.length (Fi w s x i))) m.aw.aM (by omega) (fun k (l:List ak)=>l=cv k (rD w s x i)) (fun l=>l=cv m.aw.aP.length (rD w s x i)) (s0:=[]) rfl g d;refine (key ?_ ?_).elim fun x ⟨u,hx⟩=>hx ▸ u
 ·rintro k v _ b rfl;have y:=aO b;obtain⟨j,n,z,_⟩:=C5 h f e (k:=k) (by omega) (a:=Fi w s x) (K:=1000000020) (by omega) (ZD f o hx e);rw[b]at n;obtain rfl:=aln n;refine⟨_,?_,rfl⟩;simp only[jR];rw[if_pos (by simpa using y),aU b,akO,z,akO,ZE (by omega) (by rw[dF];simp;omega),akO,a7 (by omega)];unfold cv rD;rw[alT,akG];rfl
 ·rintro _ rfl;refine⟨_,?_,rfl⟩;simp only[jR];rw[if_neg (by simp),r]
def OA (c:rF w) (g:ji w) (d:NZ w S s) (hx:∀p,p<w.av.length->LF (x p)<=1000000000) {e:Int} :
  aQ (iG w S (cv w.av.length x,e)) ((0:Int),[])=some (wO w s x w.an.length):=by
 have k:=c.mills;have key:=fun f b=>qG (body:=iG w S (cv w.av.length x,e)) w.an (by omega) (fun i (l:List (List ak))=>l=wO w s x i) (fun l=>l=wO w s x w.an.length) (s0:=[]) rfl f b;refine (key ?_ ?_).elim fun x ⟨h,hx⟩=>hx ▸ h
 ·rintro i m _ a rfl;have j:=aO a;have n:=(c.mill m (ajM a)).1.srcs;refine⟨_,?_,rfl⟩;simp only[iG];rw[if_pos (by simpa using j),aU a,akO,aU (d.row i m a),akO];unfold gI;rw[ZE (by omega) (by rw[dF];simp;omega),akV,akO,OD c g d hx a,akO,SM c g d hx a,akO,ZE (by omega) (by unfold wO;simp;omega),akO,a7 (by omega)];unfold wO;rw[alT,akG];rfl
 ·rintro _ rfl;refine⟨_,?_,rfl⟩;simp only[iG];rw[if_neg (by simp)]
structure LW (w:aT) (S:List (List ak)) (s:Nat->Nat->Rat) (x:Nat->Rat) (r:Nat->Int):Prop where
 err:Bw w=none
 amt:NZ w S s
 sol:L4 w.av.length (kC w.av.length (oa (uj w))) (um w s) x
 abL:jV (Ya w (uj w))=some ((List.range w.av.length).map r)
 rank:pH w.av.length (kC w.av.length (oa (uj w))) r
 trap:mD w.av.length r=[]
 sz:∀p,p<w.av.length->LF (x p)<=1000000000
 out:ey w S=some (wO w s x w.an.length,cv w.av.length x,0)
def OC (a:rF w) (D:SzA 100 S) (j:Bw w=none) (c:NZ w S s) :
  (ey w S=some ([],[],24)∧∃r,jV (Ya w (uj w))=some ((List.range w.av.length).map r)∧mD w.av.length r≠[])∨∃x r,LW w S s x r:=by
 have E:=a.given;have f:=PS j;obtain⟨e,F,G,_⟩:=Dx (w:=w) a.mills (fun m H=>(a.mill m H).1) D;obtain rfl:e=0:=G.2 ⟨s,c⟩;have I:=AB a f;have o:=V5 E (G7 a f).2;have q:SzN (Ya w (uj w)) 2700:=afa o.2;have J:∀p,p<w.av.length->LF (um w s p)<=2700:=fun p b=>(Vd a f c b).1;have t:SzL (cv w.av.length (um w s)) 2700:=XZ J;have g:ey w S=(ky (Ya w (uj w)) (cv w.av.length (um w s))).bind fun k=>if (k.2 != 0)=true then some ([],[],k.2) else (aQ (iG w S k) (0,[])).bind fun l=>some (l,k.1,0):=by
  unfold ey;rw[A4 a,akO,j,if_neg (by simp),F,akO,if_neg (by simp),of_eq a,j,akO,if_neg (by simp),Xr a f c,akO]
 rw[g];rcases Zo (K:=2700) (M:=6) (by decide) q t (by rw[dF];omega) (.inl (by show ((w.av.length:Nat):Int)<=_;omega)) ahz with⟨L,n⟩|⟨N,tk,d,r,B,O,u,P,_,_,h,v,⟨y,n⟩|⟨y,x,Q,n,z⟩⟩
 ·exact absurd ⟨_,_,_,rfl,I,rfl⟩ L
 ·obtain⟨rfl,rfl⟩:=MO B;left;rw[n,akO,if_pos (by simp)];exact⟨rfl,r,h,y⟩
 ·obtain⟨rfl,rfl⟩:=MO B;obtain⟨_,A⟩:=X0 u;have C:∀p,p<w.av.length->LF (x p)<=1000000000:=fun p b=>XsW P (z p b);right;have i:L4 w.av.length (kC w.av.length (oa (uj w))) (um w s) x:=fun p b=>by rw[A p b];exact Q p b
  refine⟨x,r,j,c,i,h,v,y,C,?_⟩;rw[g,n,akO,if_neg (by simp),OA a f c C,akO]
def xt (a:rF w) (f:SzA 100 S) :
  (∃e,ey w S=some ([],[],e)∧e≠0∧((∃r,Bw w=some r∧e=r.1)∨(Bw w=none∧ln w S=some e)∨(Bw w=none∧e=24∧∃r,jV (Ya w (uj w))=some ((List.range w.av.length).map r)∧mD w.av.length r≠[]))) ∨
  ∃s x r,LW w S s x r:=by
 cases c:Bw w with
 | some r =>
  have b:=Vt c;left;refine⟨r.1,?_,b,.inl ⟨r,rfl,rfl⟩⟩;unfold ey;rw[A4 a,akO,c,if_pos (by simpa using b)];rfl
 | none =>
 obtain⟨e,g,i,_⟩:=Dx (w:=w) a.mills (fun m j=>(a.mill m j).1) f
 by_cases d:e=0
 ·obtain⟨s,k⟩:=i.1 d;rcases OC a f c k with⟨l,n⟩|⟨x,r,h⟩
  ·exact .inl ⟨24,l,by decide,.inr (.inr ⟨rfl,rfl,n⟩)⟩
  ·exact .inr ⟨s,x,r,h⟩
 ·left;refine⟨e,?_,d,.inr (.inl ⟨rfl,g⟩)⟩;unfold ey;rw[A4 a,akO,c,if_neg (by simp),g,akO,if_pos (by simpa using d)]
end
section
variable {w:aT} {S:List (List ak)} {s:Nat->Nat->Rat} {x:Nat->Rat} {r:Nat->Int}
end
section
variable {w:aT} {x:Nat->Rat}
end
def afP:yc=some true:=by kernel_rfl
section
variable {w:aT} {S:List (List ak)} {s:Nat->Nat->Rat} {x:Nat->Rat} {r:Nat->Int}
def OB (b:rF w) (a:LW w S s x r):∀p,p<w.av.length->0<=x p:=by
 have c:=PS a.err;exact T0 (AB b c) a.rank (H5 a.rank a.trap) a.sol fun p d=>(Vd b c a.amt d).2
def TN (f:rF w) (d:LW w S s x r) {i k:Nat} {m:bs} {y:tz} (e:w.an[i]? = some m) (g:m.aw.aP[k]? = some y):0<=rD w s x i k∧LF (rD w s x i k)<=5000000126:=by
 have c:=PS d.err;have b:=ajM e;have h:=We f c e g (a:=Fi w s x) (K:=1000000020) (by omega) (ZD c d.amt d.sz e);refine⟨Wd f c e g fun j l =>?_,by unfold rD;omega⟩;have n:m.aw.au[j]? = some m.aw.au[j]:=ajA l;rw[sB e n];split
 ·rename_i p;obtain⟨_,o⟩:=yz (c.fit m b) (ajM n) p;exact alU (Rat.le_of_lt (L8 c.given (c.fit m b) o).2) (OB f d _ (Ih c d.sz b o).2.2)
 ·exact (d.amt.nn i m e j l).1
end
def ja (n:Nat) (c:Nat->Nat) (f:Nat->Nat->Rat):List (List ak):=(List.range n).map fun i=>cv (c i) (f i)
def ke (n:Nat) (c:Nat->Nat) (f:Nat->Nat->Rat):(ja n c f).length=n:=sj _
def s6 {n i:Nat} {c:Nat->Nat} {f:Nat->Nat->Rat} (h:i<n):(ja n c f)[i]? = some (cv (c i) (f i)):=dx _ h
def MK {n:Nat} {c:Nat->Nat} {f g:Nat->Nat->Rat} (h:∀i,i<n->∀k,k<c i->f i k=g i k):ja n c f=ja n c g:=akM fun i a=>DX (h i (akR.1 a))
def Ym {n:Nat} {f:Nat->Rat} (d:n<=100) (c:∀k,k<n->LF (f k)<=eX):nf (cv n f) (cv n f)=some true:=by
 unfold nf;rw[if_neg (by simp),oe (cv n f) (fun _ _=>(none:Option Bool)) (by rw[dF];omega) (fun k y b =>?_) (by simp only[ub];rw[if_neg (by simp)])]
 ·rw[BK];rfl
 ·have a:k<n:=by have:=aO b;rwa [dF]at this
  rw[gx f a]at b;obtain rfl:=aln b;simp only[ub];rw[dF,if_pos (by simpa using a),aU (gx f a),akO,akO,Yl (c k a),decide_eq_true rfl,akO,if_neg (by simp),a7 (by omega)]
def HQ {n:Nat} {c:Nat->Nat} {f:Nat->Nat->Rat} (g:n<=100) (d:∀i,i<n->c i<=100) (e:∀i,i<n->∀k,k<c i->LF (f i k)<=eX):iu (ja n c f) (ja n c f)=some true:=by
 unfold iu;rw[if_neg (by simp),oe (ja n c f) (fun _ _=>(none:Option Bool)) (by rw[ke];omega) (fun k y b =>?_) (by simp only[pc];rw[if_neg (by simp)])]
 ·rw[BK];rfl
 ·have a:k<n:=by have:=aO b;rwa [ke]at this
  rw[s6 a]at b;obtain rfl:=aln b;simp only[pc];rw[ke,if_pos (by simpa using a),aU (s6 a),akO,akO,Ym (d k a) (e k a),akO,if_neg (by simp),a7 (by omega)]
def GV {n:Nat} {c:Nat->Nat} {f g:Nat->Nat->Rat} {t:Rat} {K:Nat} (u:n<=100) (m:∀i,i<n->c i<=100) (o:∀i,i<n->∀k,k<c i->LF (f i k)<=K∧LF (g i k)<=K) (v:K<=100000000000) (w:LF t<=10) :
  jg (ja n c f) (cy t) (ja n c g)=some (ja n c fun i k=>f i k*t+g i k,true):=by
 have p:eX=4398046511104:=rfl;have e:∀i,i<n->aQ (l9 (cy t) (cv (c i) (f i)) (cv (c i) (g i))) ((0:Int),[])=some (cv (c i) fun k=>f i k*t+g i k):=fun i b=>by
  have r:=m i b;have key:=fun d a=>qG (body:=l9 (cy t) (cv (c i) (f i)) (cv (c i) (g i))) (List.range (c i)) (by simp;omega) (fun k (l:List ak)=>l=cv k fun k=>f i k*t+g i k) (fun l=>l=cv (c i) fun k=>f i k*t+g i k) (s0:=[]) rfl d a;refine (key ?_ ?_).elim fun x ⟨e,hx⟩=>hx ▸ e
  ·rintro k y _ j rfl;have h:k<c i:=by have:=aO j;simpa using this
   obtain⟨z,A⟩:=o i b k h;have B:=su (f i k) t;refine⟨_,?_,rfl⟩;simp only[l9];rw[dF,if_pos (by simpa using h),aU (gx _ h),akO,NX (by omega),akO,aU (gx _ h),akO,NR (by omega),akO,ZE (by omega) (by rw[dF];simp;omega),akO,a7 (by omega)];unfold cv;rw[alT,akG];rfl
  ·rintro _ rfl;refine⟨_,?_,rfl⟩;simp only[l9];rw[dF,ajQ,if_neg (by simp)]
 have s:aQ (l8 (ja n c f) (cy t) (ja n c g)) ((0:Int),[])=some (.inl (ja n c fun i k=>f i k*t+g i k)):=by
  have key:=fun d a=>qG (body:=l8 (ja n c f) (cy t) (ja n c g)) (List.range n) (by simp;omega) (fun i (l:List (List ak))=>l=ja i c fun i k=>f i k*t+g i k) (fun q=>q=.inl (ja n c fun i k=>f i k*t+g i k)) (s0:=[]) rfl d a;refine (key ?_ ?_).elim fun x ⟨e,hx⟩=>hx ▸ e
  ·rintro i y _ j rfl;have b:i<n:=by have:=aO j;simpa using this
   refine⟨_,?_,rfl⟩;simp only[l8];rw[ke,if_pos (by simpa using b),aU (s6 b),akO,aU (s6 b),akO,dF,dF,if_neg (by simp),e i b,akO,ZE (by omega) (by rw[ke];simp;omega),akO,a7 (by omega)];unfold ja;rw[alT,akG];rfl
  ·rintro _ rfl;refine⟨_,?_,rfl⟩;simp only[l8];rw[ke,ajQ,if_neg (by simp)]
 unfold jg;rw[ke,ke,if_neg (by simp),s,akO]
def abv (w:aT) (i:Nat):Nat:=(w.an[i]?).elim 0 fun m=>m.aw.au.length
section
variable {w:aT} {S:List (List ak)} {s s':Nat->Nat->Rat} {x x':Nat->Rat} {r:Nat->Int} {t:Rat}
def ES {i:Nat} {m:bs} (a:w.an[i]? = some m):abv w i=m.aw.au.length:=by unfold abv;rw[a];rfl
def QG {i:Nat} {m:bs} (a:w.an[i]? = some m):zP w i=m.aw.aP.length:=by unfold zP;rw[a];rfl
def A0 (a:NZ w S s):S=ja w.an.length (abv w) s:=fZ a.len fun i c=>by
 have b:w.an[i]? = some w.an[i]:=ajA c;rw[a.row i _ b,ES b]
def y7:wO w s x w.an.length=ja w.an.length (zP w) (rD w s x):=rfl
def UT (b:Y5 S) (c:NZ w S s) {i:Nat} {m:bs} (d:w.an[i]? = some m):∀k,k<m.aw.au.length->LF (s i k)<=3:=fun k e=>by
 have f:=b.row _ (ajM (c.row i m d));have a:=f.2 _ (ajM (gx (s i) e));exact qp a.1 a.2
def AA (s s':Nat->Nat->Rat) (t:Rat) (i k:Nat):Rat:=s i k*t+s' i k
def Rh (i k:Nat):zt w (AA s s' t) i k=zt w s i k*t+zt w s' i k:=by
 unfold zt AA;cases w.an[i]? with
 | none=>show (0:Rat)=0*t+0;grind
 | some m =>
  simp only[Option.elim_some];rw[Rat.mul_comm _ t,<- yv,<- BW];exact df fun j _=>by grind
def ac1 (a:ji w) {p:Nat} (b:p<w.av.length):um w (AA s s' t) p=um w s p*t+um w s' p:=by
 obtain⟨i,k,h,_⟩:=yZ a b;unfold um;rw[xY a b h,xY a b h,xY a b h,Rh]
def ad1 (b:ji w) {tk:List Tk} (c:L4 w.av.length tk (um w s) x) (d:L4 w.av.length tk (um w s') x'):L4 w.av.length tk (um w (AA s s' t)) fun p=>t*x p+x' p:=fun p a=>by
 show t*x p+x' p=_;rw[ac1 b a,adg,ER,c p a,d p a];grind
def adF {y:Nat->Rat} (g:∀p,p<w.av.length->y p=t*x p+x' p) (f:ji w) (i k:Nat):rD w (AA s s' t) y i k=rD w s x i k*t+rD w s' x' i k:=by
 unfold rD;rw[<- Rh];unfold zt;cases d:w.an[i]? with
 | none=>rfl
 | some m =>
  simp only[Option.elim_some];refine df fun j e =>?_;have e:=akR.1 e;have c:m.aw.au[j]? = some m.aw.au[j]:=ajA e;generalize m.aw.au[j]=z at c;unfold AA;rw[sB d c,sB d c,sB d c]
  by_cases b:z.bh=1
  ·have a:=ajM d;obtain⟨_,h⟩:=yz (f.fit m a) (ajM c) b;have l:=((f.fit m a).uses _ h).1;rw[if_pos b,if_pos b,if_pos b,g _ (by omega)];grind
  ·rw[if_neg b,if_neg b,if_neg b]
end
def ae8 {w:aT} {S:List (List ak)} {s:Nat->Nat->Rat} (a:NZ w S s):SzA 100 S:=fun r g f d=>by
 obtain⟨i,b⟩:=ajH g;have c:i<w.an.length:=by have:=aO b;rwa [a.len]at this
 have e:w.an[i]? = some w.an[i]:=ajA c;rw[a.row i _ e]at b;rw[<- aln b]at d;obtain⟨k,h,rfl⟩:=ajn.1 d;exact Ba (a.nn i _ e k (akR.1 h)).2
def L5 {S:List (List ak)} (h:Y5 S):SzA 100 S:=fun r a f b=>by have:=(h.row r a).2 f b;omega
def YG {N:Nat} {r b:Nat->Int} (h:(List.range N).map r=(List.range N).map b):mD N r=mD N b:=by
 unfold mD;refine List.filter_congr fun p a =>?_;have a:=akR.1 a;have:=congrArg (fun l=>l[p]?) h;simp only[dx _ a,ajw]at this;rw[this]
def SN {w:aT} (a:rF w) {S:List (List ak)} (b:SzA 100 S):∃z,ey w S=some z:=by
 rcases xt a b with⟨e,h,_⟩|⟨_,_,_,h⟩
 ·exact⟨_,h⟩
 ·exact⟨_,h.out⟩
def afB {w:aT} {S c:List (List ak)} {s s':Nat->Nat->Rat} {t:Rat} (h:NZ w S s) (b:NZ w c s') (e:Y5 S) (f:Y5 c) (g:0<=t) (j:LF t<=10):NZ w (ja w.an.length (abv w) (AA s s' t)) (AA s s' t) where
 len:=ke _ _ _
 row i m hm:=by rw[s6 (aO hm),ES hm]
 nn i m hm k hk:=by
  have a:=(h.nn i m hm k hk).1;have l:=(b.nn i m hm k hk).1;have n:=UT e h hm k hk;have o:=UT f b hm k hk;have p:=su (s i k) t;have q:=vA (s i k*t) (s' i k);have r:=alU a g;unfold AA;exact⟨by grind,by omega⟩
 tk i m hm k y d a:=by
  unfold AA;rw[h.tk i m hm k y d a,b.tk i m hm k y d a];grind
def LV (a0:aT) (J L:List (List ak)) (o q:Int) (X:(Lit.int .u8 o).wf=true) (Y:(Lit.int .u8 q).wf=true):jD a0 J L o q=some true:=by
 have Z:eX=4398046511104:=rfl;have b3:0<=o∧o<=255:=by
  simpa [Lit.wf,IntKind.min,IntKind.max,IntKind.signed,IntKind.bits] using X
 have b4:0<=q∧q<=255:=by
  simpa [Lit.wf,IntKind.min,IntKind.max,IntKind.signed,IntKind.bits] using Y
 obtain⟨b,e1,e2⟩:=aaE a0;obtain⟨c1,f1,f2⟩:=aex J;obtain⟨c2,g1,g2⟩:=aex L;unfold jD;rw[afP,akO,e1,akO];cases b with
 | false=>rfl
 | true =>
 rw[if_neg (by simp),f1,akO];cases c1 with
 | false=>rfl
 | true =>
 rw[if_neg (by simp),g1,akO];cases c2 with
 | false=>rfl
 | true =>
 rw[if_neg (by simp),akO]
 by_cases B:q=0
 ·rw[if_pos (by simpa using B)]
 rw[if_neg (by simpa using B)];have j:=e2 rfl;have W:=f2 rfl;have M:=g2 rfl;have hg:=j.given;have aa:=j.mills;rcases xt j (L5 W) with⟨e,N,O,_⟩|⟨s,x,r,u⟩
 ·obtain⟨z,C⟩:=SN j (L5 M);rw[N,akO,C,akO];simp only;rw[if_pos (by simpa using O),akO,if_pos rfl]
 rw[u.out,akO];rcases xt j (L5 M) with⟨e,N,O,_⟩|⟨s',x',r',D⟩
 ·rw[N,akO];simp only;rw[if_neg (by simp),akO,if_pos (by simpa using O)]
 rw[D.out,akO];simp only;rw[if_neg (by simp),akO,if_neg (by simp)];have P:=PS u.err;have H:oP (IntKind.i64.wrap o) (IntKind.i64.wrap q)=some (cy (Rat.divInt o q)):=by
  unfold oP;rw[lO (by omega),lO (by omega),ae6 (by omega) (by omega) B,akO]
 have G:0<=Rat.divInt o q:=by
  rw[Rat.divInt_eq_div,Rat.div_def];exact alU (by exact_mod_cast b3.1) (Rat.le_of_lt (Rat.inv_pos.2 (by exact_mod_cast (show (0:Int)<q by omega))))
 have v:LF (Rat.divInt o q)<=10:=by
  have z1:=se (p:=o) B;have z2:=Sw (x:=q) (by omega) (by omega);have z3:Ln o<=10:=by
   by_cases h:o=0
   ·rw[h];exact ajq Wh.LF_zero_ln (by decide)
   ·exact ajq (Sw (by omega) (by omega)) (by decide)
  omega
 generalize Rat.divInt o q=t at H G v;have I:=afB u.amt D.amt W M G v;have Q:jg J (cy t) L=some (ja a0.an.length (abv a0) (AA s s' t),true):=by
  rw[A0 u.amt,A0 D.amt];refine GV (K:=100) (by omega) (fun i m =>?_) (fun i m k a =>?_) (by omega) v
  ·have d:a0.an[i]? = some a0.an[i]:=ajA m;have:=(j.mill _ (ajM d)).1.srcs;rw[ES d];omega
  ·have d:a0.an[i]? = some a0.an[i]:=ajA m;rw[ES d]at a;exact⟨(u.amt.nn i _ d k a).2,(D.amt.nn i _ d k a).2⟩
 rcases OC j (ae8 I) u.err I with⟨_,r2,q1,q2⟩|⟨y,r3,E⟩
 ·exfalso;have:=u.abL;rw[q1]at this;exact q2 (by rw[YG (aln this)];exact u.trap)
 have R:∀p,p<a0.av.length->y p=t*x p+x' p:=T1 (AB j P) E.rank (H5 E.rank E.trap) E.sol (ad1 P u.sol D.sol);have w:∀i,i<a0.an.length->∀k,k<zP a0 i->zP a0 i<=100∧LF (rD a0 s x i k)<=5000000126∧LF (rD a0 s' x' i k)<=5000000126∧LF (rD a0 (AA s s' t) y i k)<=5000000126:=fun i m k a=>by
  have d:a0.an[i]? = some a0.an[i]:=ajA m;have ho:=(j.mill _ (ajM d)).1.outs;rw[QG d]at a ⊢;have C:a0.an[i].aw.aP[k]? = some (a0.an[i].aw.aP[k]):=ajA a;exact⟨by omega,(TN j u d C).2,(TN j D d C).2,(TN j E d C).2⟩
 have F:∀i,i<a0.an.length->zP a0 i<=100:=fun i m=>by
  have d:a0.an[i]? = some a0.an[i]:=ajA m;have ho:=(j.mill _ (ajM d)).1.outs;rw[QG d];omega
 have S:jg (wO a0 s x a0.an.length) (cy t) (wO a0 s' x' a0.an.length)=some (wO a0 (AA s s' t) y a0.an.length,true):=by
  rw[y7,y7,y7,GV (K:=5000000126) (by omega) F (fun i m k a=>⟨(w i m k a).2.1,(w i m k a).2.2.1⟩) (by omega) v];rw[MK fun i m k a=>(adF R P i k).symm]
 have T:jg [cv a0.av.length x] (cy t) [cv a0.av.length x']=some ([cv a0.av.length y],true):=by
  have:=GV (n:=1) (c:=fun _=>a0.av.length) (f:=fun _=>x) (g:=fun _=>x') (t:=t) (K:=1000000000) (by omega) (fun _ _=>by omega) (fun _ _ k a=>⟨u.sz k a,D.sz k a⟩) (by omega) v;refine Eq.trans this (congrArg (fun l=>some (l,true)) ?_);show [cv a0.av.length fun k=>x k*t+x' k]=_;rw[DX (e:=y) fun p A=>by rw[R p A];grind]
 have U:iu (wO a0 (AA s s' t) y a0.an.length) (wO a0 (AA s s' t) y a0.an.length)=some true:=by
  rw[y7];exact HQ (by omega) F fun i m k a=>by have:=(w i m k a).2.2.2;omega
 have V:iu [cv a0.av.length y] [cv a0.av.length y]=some true :=
  HQ (n:=1) (c:=fun _=>a0.av.length) (f:=fun _=>y) (by omega) (fun _ _=>by omega) fun _ _ k a=>by have:=E.sz k a;omega
 rw[H,akO,Q,akO];simp only;rw[E.out,akO];simp only;rw[S,akO,T,akO];simp only;rw[if_neg (by simp),if_neg (by simp),if_neg (by simp),if_neg (by simp),U,akO,if_neg (by simp),V,akO,akO,if_neg (by simp)];rw[oe (cv a0.av.length x') (fun _ _=>(none:Option Bool)) (by rw[dF];omega) (fun p z C =>?_) (by simp only[l7];rw[dF,if_neg (by simp)])]
 ·rw[BK];rfl
 ·have A:p<a0.av.length:=by have:=aO C;rwa [dF]at this
  rw[gx x' A]at C;obtain rfl:=aln C;have w1:=D.sz p A;have w2:=E.sz p A;have w3:=alU G (OB j u p A);have hc:¬OL (x' p) (y p)>0:=by
   rw[R p A];unfold OL;split
   ·decide
   ·rw[if_neg (by grind)];decide
  simp only[l7];rw[dF,if_pos (by simpa using A),aU (gx x' A),akO,aU (gx y A),akO,I8 (by omega),akO,if_neg (by rw[decide_eq_true_eq];exact hc),a7 (by omega)]
end Go.Proofs.YtobnihfgnbnncaaGreat.P
