import Derived.Test.YtekhokjkphgphaaGreatLg
set_option linter.unusedSimpArgs false
set_option linter.unusedVariables false
set_option linter.defProp false
noncomputable section
open Go.Proofs.Tryz
namespace Go.Proofs.YtekhokjkphgphaaGreat.P
open Go.RowKit
def acb {α σ τ ρ:Type} (l:List α) (a:τ->σ) (f:τ->α->τ) (P:Nat->τ->Prop) {body:Int×σ->Option ((Int×σ)⊕ρ)} {g:τ->ρ} {s0:τ} (r:l.length<=2000) (k:P 0 s0)
  (m:∀(i:Nat) x s,l[i]? = some x->P i s->body ((i:Int),a s)=some (.inl (((i+1:Nat):Int),a (f s x)))∧P (i+1) (f s x))
  (n:∀s,body ((l.length:Int),a s)=some (.inr (g s))):aK body (0,a s0)=some (g (l.foldl f s0))∧P l.length (l.foldl f s0):=by
 obtain⟨q,o,h⟩:=cn (body:=body) (fun i st=>st=((i:Int),a ((l.take i).foldl f s0))∧P i ((l.take i).foldl f s0)) l.length (fun q=>q=g (l.foldl f s0)∧P l.length (l.foldl f s0)) (s:=(0,a s0)) ⟨rfl,k⟩ (gM (by omega)) (by
  rintro i _ t ⟨rfl,d⟩
  by_cases b:i<l.length
  ·left;refine⟨b,?_⟩;have j:l[i]? = some l[i]:=ae9 b;have c:l.take (i+1)=l.take i++[l[i]]:=ahx b;generalize l[i]=x at j c;obtain⟨e,p⟩:=m i x _ j d;refine⟨_,e,?_⟩;rw[c,ahG];exact⟨rfl,p⟩
  ·right;have:i=l.length:=by omega
   subst this;rw[agY]at d ⊢;exact⟨_,n _,rfl,d⟩)
 rw[o,h.1];exact⟨rfl,h.2⟩
def IU (p:Nat):∀(l:List Tk) (c:Rat),l.foldl (fun s t=>if t.1=p then s-t.2.2 else s) c=c-ye l p
 | [],c=>by simp only[List.foldl_nil,ye];grind
 | t::l,c=>by
  rw[afG,IU p l,ye];split<;>grind
def W5 {N K:Nat} {tk:List Tk} (m:K<=1000000) (e:∀t∈tk,LF t.2.2<=K) (f:tk.length<=2000) (p:Nat):ng (kp N tk) (p:Int)=some (cR (dS tk p)):=by
 have j:cP=4398046511104:=rfl;have c:(kp N tk).az=tk.map oE:=rfl;have key:=(acb tk yy (fun s t=>if t.1=p then s-t.2.2 else s) (fun i s=>LF s<=1+i*(K+1)) (body:=pn (kp N tk) (p:Int)) (g:=yy) (s0:=1) f (aeZ PZ (by omega)) (fun i t s b n=>by
  have k:=aM b;have l:(tk.map oE)[i]? = some (oE t):=by rw[aeU,b];rfl
  have o:=e t (afo b);have q:i*(K+1)<=2000*1000001:=ahy (by omega) (by omega);simp only[pn,yy];rw[c,if_pos (by simpa using k),bf l,agv,aX (by omega),afS]
  by_cases h:t.1=p
  ·have a:sA (aw.mk (aG.mk (cR s).bR.ak (cR s).bR.aa) (aG.mk (cR s).bN.ak (cR s).bN.aa)) (oE t).bJ=some (cR (s-t.2.2),0):=ad5 (by omega);have:=Vy s t.2.2;rw[if_pos (by simp[oE,h]),a,agv,if_pos h];exact⟨rfl,by omega⟩
  ·rw[if_neg (by simp[oE];omega),if_neg h];exact⟨rfl,by omega⟩) (fun s=>by
  simp only[pn,yy];rw[c,if_neg (by simp)])).1
 unfold ng;rw[abe,agv];erw [key];rw[IU];rfl
def To {p:Nat} : ∀ {tk:List Tk},(∀t∈tk,t.1≠p)->ye tk p=0
 | [],_=>rfl
 | t::l,h=>by
  have a:=To (tk:=l) (p:=p) fun x b=>h x (agt _ b);rw[ye,a,if_neg (h t ags)];grind
def Ll {K:Nat} {tk:List Tk} (d:K<=1000000) (a:∀t∈tk,LF t.2.2<=K) (b:tk.length<=2000) (p:Nat):LF (dS tk p)<=cP:=by
 have c:cP=4398046511104:=rfl;have e:=DJ a p;have f:tk.length*(K+1)<=2000*1000001:=ahy b (by omega);omega
def K8 {n:cA} {K:Nat} (E:K<=1000000) (T:n.az.length<=2000) (R:∀t∈n.az,t.bJ.bR.aa.length<=K∧t.bJ.bN.aa.length<=K) :
  ∃b,mn n=some b∧(b=true↔∃N tk,n=kp N tk∧AK N tk):=by
 have U:cP=4398046511104:=rfl;have V:K<=jt:=aeZ E (by unfold jt;omega);unfold mn;rw[KJ,agv]
 by_cases F:0<=n.aq∧n.aq<=2000
 rotate_left
 ·rw[decide_eq_false F];refine⟨false,rfl,?_⟩;simp only[afv,false_iff];rintro⟨N,tk,rfl,h⟩;have:=h.ports;simp only[kp]at F;omega
 rw[decide_eq_true F,if_neg (by simp),decide_eq_false (by omega),agv,if_neg (by simp)];obtain⟨N,f⟩:∃N:Nat,n.aq=(N:Int):=⟨n.aq.toNat,by omega⟩;have G:IntKind.i64.wrap (n.aq-1)=(N:Int)-1:=by rw[f,wrap64 (by omega) (by omega)]
 have H:=rF n.az (fun i x=>sc N n.az i x=true) (body:=mY n) T (fun i x s=>by
  have I:=aM s;obtain⟨u,v⟩:=R x (afo s);simp only[mY];rw[if_pos (by simpa using I),bf s,agv,KJ,agv,G];have g:(if (!decide (0<=x.bI∧x.bI<=(N:Int)-1))=true then some true
   else (nf x.fU 0 ((N:Int)-1)).bind fun J =>
    if (!J)=true then some true
    else (dX x.bJ).bind fun L=>if (!L)=true then some true else (jA x.bJ).bind fun O=>some (decide (O<=0)))=some (!KR N x):=by
   unfold KR
   by_cases w:0<=x.bI∧x.bI<=(N:Int)-1
   rotate_left
   ·rw[decide_eq_false w];simp
   rw[decide_eq_true w,KJ,agv]
   by_cases z:0<=x.fU∧x.fU<=(N:Int)-1
   rotate_left
   ·rw[decide_eq_false z];simp
   rw[decide_eq_true z,P5 ⟨by omega,by omega⟩,agv];cases P:okF x.bJ with
   | false=>simp
   | true =>
    obtain⟨q,P⟩:=xE.1 P;rw[P]at u v ⊢;have k:=pS u v;rw[LX (by omega),agv];have:(cR q).bR.ak=q.num.sign:=rfl;rw[this]
    by_cases A:q.num.sign<=0
    ·rw[decide_eq_true A,decide_eq_false (show ¬0<q.num.sign by omega)];simp
    ·rw[decide_eq_false A,decide_eq_true (show 0<q.num.sign by omega)];simp
  rw[g,agv];cases l:KR N x with
  | false=>rw[if_pos (by simp),if_neg (by unfold sc;rw[l];simp)]
  | true =>
   rw[if_neg (by simp)];cases i with
   | zero=>rw[if_neg (by simp),aX (by omega),if_pos (by unfold sc;rw[l];simp)]
   | succ i =>
    have D:n.az[i]? = some n.az[i]:=ae9 (by omega);have B:IntKind.i64.wrap (((i+1:Nat):Int)-1)=(i:Int):=by rw[wrap64 (by omega) (by omega)];omega
    have a:sc N n.az (i+1) x=true↔L5 n.az[i] x:=by
     unfold sc;rw[l,agJ,D];simp
    rw[if_pos (by simp),B,bf D,agv,aX (by omega)];generalize n.az[i]=y at a;unfold L5 at a
    by_cases w:y.bI>x.bI
    ·rw[if_pos (decide_eq_true w),if_neg (fun h=>by have:=a.1 h;omega)]
    ·rw[if_neg (by simpa using w)]
     by_cases z:y.bI=x.bI
     ·rw[if_pos (by simpa using z)]
      by_cases A:y.fU>=x.fU
      ·rw[if_pos (decide_eq_true A),if_neg (fun h=>by have:=a.1 h;omega)]
      ·rw[if_neg (by simpa using A),if_pos (a.2 (by omega))]
     ·rw[if_neg (by simpa using z),if_pos (a.2 (by omega))]) (by simp only[mY];rw[if_neg (by simp)])
 rcases H with⟨B,m⟩|⟨B,j,x,s,c⟩;rotate_left
 ·rw[B];refine⟨false,rfl,?_⟩;simp only[afv,false_iff];exact ND f s c
 rw[B,agv];simp only;obtain⟨tk,rfl,d,o,k,W⟩:=NC f (by omega) R m;have S:(kp N tk).az=tk.map oE:=rfl;have C:=rF tk (fun _ t=>0<=dS tk t.1) (body:=mZ (kp N tk)) (by omega) (fun i t e=>by
  have I:=aM e;have D:(tk.map oE)[i]? = some (oE t):=by rw[aeU,e];rfl
  have r:ng (kp N tk) (oE t).bI=some (cR (dS tk t.1)):=W5 E k (by omega) t.1;simp only[mZ];rw[S,if_pos (by simpa using I),bf D,agv,aX (by omega),r,agv,LX (Ll E k (by omega) _),agv]
  by_cases h:0<=dS tk t.1
  ·rw[if_neg (by rw[decide_eq_true_eq,oI];grind),if_pos h]
  ·rw[if_pos (decide_eq_true (oI.2 (by grind))),if_neg h]) (by simp only[mZ];rw[S,if_neg (by simp)])
 rcases C with⟨Q,r⟩|⟨Q,j,t,e,c⟩
 ·rw[Q];refine⟨true,rfl,?_⟩;simp only[true_iff];refine⟨N,tk,rfl,by omega,by omega,d,o,fun p hp =>?_⟩
  by_cases h:∃t∈tk,t.1=p
  ·obtain⟨t,e,rfl⟩:=h;obtain⟨j,X⟩:=afi e;exact r j t X
  ·unfold dS;rw[To fun t e Y=>h ⟨t,e,Y⟩];grind
 ·rw[Q];refine⟨false,rfl,?_⟩;simp only[afv,false_iff];rintro⟨M,Z,he,hR⟩;obtain⟨rfl,rfl⟩:=Te he;exact c (hR.leak _ (d t (afo e)).1)
def JX:jz (aw.mk (aG.mk 0 ([])) (aG.mk 0 ([]))) (aw.mk (aG.mk 0 ([])) (aG.mk 0 ([])))=some true:=by
 rw[aas (by simp[Fit]) (by simp[Fit]),decide_eq_true rfl]
def UB {n:cA} {K:Nat} (d:K<=1000000) (e:n.az.length<=2000) (f:∀t∈n.az,t.bJ.bR.aa.length<=K∧t.bJ.bN.aa.length<=K) (p:Int) :
  ∃v,lx n p=some v∧pc n p=some v∧jz v v=some true:=by
 obtain⟨b,m,o⟩:=xN d f;obtain⟨c,g,r⟩:=K8 d e f;have h:b=c:=Bool.eq_iff_iff.2 (o.trans r.symm);subst h;cases b with
 | false =>
  refine⟨_,?_,?_,JX⟩
  ·unfold lx;rw[m];rfl
  ·unfold pc;rw[g];rfl
 | true =>
  obtain⟨N,tk,rfl,q⟩:=o.1 rfl;have w:=q.ports;have i:(kp N tk).aq=(N:Int):=rfl;have s:(kp N tk).az=tk.map oE:=rfl;rw[s,afq]at e;have a:∀t∈tk,LF t.2.2<=K:=fun t u=>by
   have:=f (oE t) (List.mem_map_of_mem u);exact pS this.1 this.2
  have j:IntKind.i64.wrap ((N:Int)-1)=(N:Int)-1:=wrap64 (by omega) (by omega)
  by_cases l:0<=p∧p<=(N:Int)-1
  ·obtain⟨k,rfl⟩:∃k:Nat,p=k:=⟨p.toNat,by omega⟩;refine⟨_,aa4 q d a (by omega),?_,by rw[Jy (Ll d a e k),decide_eq_true rfl]⟩;unfold pc;rw[g,agv,if_neg (by simp),i,j,KJ,agv,decide_eq_true l,if_neg (by simp),W5 d a e,agv]
  ·refine⟨_,?_,?_,JX⟩
   ·unfold lx;rw[m,agv,if_neg (by simp),i,j,jc,agv,decide_eq_false l];rfl
   ·unfold pc;rw[g,agv,if_neg (by simp),i,j,KJ,agv,decide_eq_false l];rfl
section
variable {N:Nat} {tk:List Tk} {r:Nat->Int}
def Gg (d:sK N tk r) (a:∀t∈tk,t.1<N∧t.2.1<N):∀(k p:Nat),p<N->r p=(k:Int)->∃l:List Nat,l.Nodup∧(∀x∈l,x<N∧r x<=(k:Int))∧l.length=k+1
 | 0,p,c,h=>⟨[p],by simp,fun x b=>by rw[afj.1 b];exact⟨c,by omega⟩,rfl⟩
 | k+1,p,c,h=>by
  obtain⟨t,f,rfl,m⟩:=d.down p c (by omega);obtain⟨l,g,e,i⟩:=Gg d a k t.2.1 (a t f).2 (by omega);refine⟨t.1::l,agA.2 ⟨fun j =>?_,g⟩,fun x b =>?_,by simp[i]⟩
  ·have:=(e _ j).2;omega
  ·rcases ae3.1 b with rfl|b
   ·exact⟨c,by omega⟩
   ·have:=e x b;exact⟨this.1,by omega⟩
def Y6 (b:sK N tk r) (a:∀t∈tk,t.1<N∧t.2.1<N) {p:Nat} (c:p<N):r p<(N:Int):=by
 by_cases h:0<=r p
 ·obtain⟨l,d,e,g⟩:=Gg b a (r p).toNat p c (by omega);have:=Ai N l d fun x f=>(e x f).1;omega
 ·omega
def PT (r:Nat->Int) (k p:Nat):Int:=if r p<=(k:Int) then r p else -1
open Classical in
def Fq (r:Nat->Int) (k:Nat) (l:List Tk) (p:Nat):Int:=if r p<=(k:Int) then r p else if r p=(k:Int)+1∧∃t∈l,t.1=p∧r t.2.1=(k:Int) then (k:Int)+1 else -1
def XB (o:sK N tk r) (q:∀t∈tk,t.1<N∧t.2.1<N) (M:tk.length<=2000) (k:Nat) (O:k<=2000) :
  aK (kM (kp N tk) ((k+1:Nat):Int)) ((0:Int),(List.range N).map (PT r k))=some ((List.range N).map (PT r (k+1))):=by
 have A:(kp N tk).az=tk.map oE:=rfl;have key:=fun s j=>uB (body:=kM (kp N tk) ((k+1:Nat):Int)) tk (by omega) (fun i (l:List Int)=>l=(List.range N).map (Fq r k (tk.take i))) (fun l=>l=(List.range N).map (PT r (k+1))) (s0:=(List.range N).map (PT r k))
  (agp fun p _=>by unfold PT Fq;rw[agT];simp) s j
 refine (key ?_ ?_).elim fun x ⟨h1,hx⟩=>hx ▸ h1
 ·rintro i t _ g rfl;have F:=aM g;have d:=afo g;obtain⟨B,C⟩:=q t d;have G:(tk.map oE)[i]? = some (oE t):=by rw[aeU,g];rfl
  have H:(oE t).fU=(t.2.1:Int):=rfl;have I:(oE t).bI=(t.1:Int):=rfl;have v:=o.near t d;have D:=o.ge _ B;have E:=o.ge _ C;have J:IntKind.i64.wrap (((k+1:Nat):Int)-1)=(k:Int):=by rw[fW (by omega)];omega
  have a:∀u,u∈tk.take (i+1)↔u∈tk.take i∨u=t:=fun u=>by
   obtain⟨w,K⟩:=afp.1 g;rw[ahx w,K,agr,afj]
  have m:Fq r k (tk.take i) t.2.1=(k:Int)↔r t.2.1=(k:Int):=by
   unfold Fq
   repeat' split
   all_goals omega
  simp only[kM];rw[A,if_pos (by simpa using F),bf G,agv,I,H,bf (cV _ B),agv,bf (cV _ C),J,aX (by omega)]
  by_cases n:Fq r k (tk.take i) t.1<0
  ·rw[if_pos (decide_eq_true n),agv,agv]
   by_cases c2:r t.2.1=(k:Int)
   ·rw[if_pos (by rw[beq_iff_eq];exact m.2 c2),afW,mq];refine⟨_,rfl,agp fun p _ =>?_⟩;have y:r t.1=(k:Int)+1:=by
     unfold Fq at n;split at n<;>omega
    by_cases e:p=t.1
    ·rw[if_pos e,e];unfold Fq;rw[if_neg (by omega),if_pos ⟨y,t,(a t).2 (.inr rfl),rfl,c2⟩];omega
    ·rw[if_neg e];unfold Fq;have:(∃u∈tk.take (i+1),u.1=p∧r u.2.1=(k:Int))↔∃u∈tk.take i,u.1=p∧r u.2.1=(k:Int):=by
      constructor
      ·rintro⟨u,h1,b⟩;rcases (a u).1 h1 with h|rfl
       ·exact⟨u,h,b⟩
       ·exact absurd b.1.symm e
      ·rintro⟨u,h1,b⟩;exact⟨u,(a u).2 (.inl h1),b⟩
     simp only[this]
   ·rw[if_neg (by rw[beq_iff_eq];exact fun h=>c2 (m.1 h))];refine⟨_,rfl,agp fun p _ =>?_⟩;unfold Fq;have:(∃u∈tk.take (i+1),u.1=p∧r u.2.1=(k:Int))↔∃u∈tk.take i,u.1=p∧r u.2.1=(k:Int):=by
     constructor
     ·rintro⟨u,h1,b⟩;rcases (a u).1 h1 with h|rfl
      ·exact⟨u,h,b⟩
      ·exact absurd b.2 c2
     ·rintro⟨u,h1,b⟩;exact⟨u,(a u).2 (.inl h1),b⟩
    simp only[this]
  ·rw[if_neg (by simpa using n),agv,if_neg (by simp)];refine⟨_,rfl,agp fun p _ =>?_⟩;have c:=n;unfold Fq at c ⊢
   by_cases f:r p<=(k:Int)
   ·rw[if_pos f,if_pos f]
   ·rw[if_neg f,if_neg f];have:(r p=(k:Int)+1∧∃u∈tk.take (i+1),u.1=p∧r u.2.1=(k:Int))↔(r p=(k:Int)+1∧∃u∈tk.take i,u.1=p∧r u.2.1=(k:Int)):=by
     constructor
     ·rintro⟨z,u,h1,b⟩;refine⟨z,?_⟩;rcases (a u).1 h1 with h|rfl
      ·exact⟨u,h,b⟩
      ·rw[b.1,if_neg f]at c;split at c
       ·rename_i L;exact L.2
       ·exact absurd (by decide) c
     ·rintro⟨z,u,h1,b⟩;exact⟨z,u,(a u).2 (.inl h1),b⟩
    simp only[this]
 ·rintro _ rfl;refine⟨_,?_,rfl⟩;simp only[kM];rw[A,if_neg (by simp),agY];congr 2;refine agp fun p e =>?_;have e:=agB.1 e;unfold Fq PT
  by_cases f:r p<=(k:Int)
  ·rw[if_pos f,if_pos (by omega)]
  ·rw[if_neg f]
   by_cases h1:r p=(k:Int)+1
   ·obtain⟨t,g,rfl,P⟩:=o.down p e (by omega);rw[if_pos ⟨h1,t,g,rfl,by omega⟩,if_pos (by omega),h1]
   ·rw[if_neg (fun h=>h1 h.1),if_neg (by omega)]
def UQ (b:sK N tk r) (a:∀t∈tk,t.1<N∧t.2.1<N) (c:tk.length<=2000) (j:N<=2000) :
  aK (mX (kp N tk)) ((1:Int),(List.range N).map (PT r 0))=some ((List.range N).map r):=by
 have d:(kp N tk).aq=(N:Int):=rfl;obtain⟨q,e,f⟩:=cn (body:=mX (kp N tk)) (fun i st=>st=(((i+1:Nat):Int),(List.range N).map (PT r i))) N (fun q=>q=(List.range N).map r) (s:=((1:Int),(List.range N).map (PT r 0))) rfl (gM (by omega)) (by
  rintro i _ k rfl;simp only[mX];rw[d]
  by_cases g:i+1<N
  ·left;rw[if_pos (decide_eq_true (by omega)),XB b a c i (by omega),agv,aX (by omega)];exact⟨by omega,_,rfl,rfl⟩
  ·right;rw[if_neg (by simp;omega)];refine⟨_,rfl,agp fun p h =>?_⟩;have:=Y6 b a (agB.1 h);unfold PT;rw[if_pos (by omega)])
 rw[e,f]
def Y7 {K:Nat} (f:AK N tk) (j:sK N tk r) (k:K<=1000000) (m:∀t∈tk,LF t.2.2<=K) (g:tk.length<=2000):iZ (kp N tk)=some ((List.range N).map r):=by
 have v:=f.ports;have q:(kp N tk).aq=(N:Int):=rfl;obtain⟨b,w,y⟩:=K8 (n:=kp N tk) k (by simpa [kp] using g) (fun t a=>by
  simp only[kp,aeW]at a;obtain⟨z,c,rfl⟩:=a;exact Dn (m z c))
 obtain rfl:b=true:=y.2 ⟨N,tk,rfl,f⟩;have c:aK (kL (kp N tk)) ((0:Int),[])=some ((List.range N).map (PT r 0)):=by
  have key:=fun o d=>uB (body:=kL (kp N tk)) (List.range N) (by simp;omega) (fun i (l:List Int)=>l=(List.range i).map (PT r 0)) (fun l=>l=(List.range N).map (PT r 0)) (s0:=[]) rfl o d;refine (key ?_ ?_).elim fun x ⟨c,hx⟩=>hx ▸ c
  ·rintro i x _ hx rfl;have p:i<N:=by have:=aM hx;simpa using this
   have s:=j.zero i p;have A:=j.ge i p;simp only[kL];rw[q,if_pos (by simpa using p),W5 k m g,agv,LX (Ll k m g i),agv,aX (by omega),ahE,agn]
   by_cases h:0<dS tk i
   ·have u:=s.2 h;rw[if_pos (decide_eq_true (sG.2 h)),te (by simp;omega),agv];refine⟨_,rfl,?_⟩;unfold PT;simp[u]
   ·have u:r i≠0:=fun e=>h (s.1 e);rw[if_neg (by rw[decide_eq_true_eq];exact fun B=>h (sG.1 B)),te (by simp;omega),agv];refine⟨_,rfl,?_⟩;have:PT r 0 i = -1:=by unfold PT;split<;>omega
    simp[this]
  ·rintro _ rfl;refine⟨_,?_,rfl⟩;simp only[kL];rw[q,if_neg (by simp),afr]
 unfold iZ;rw[w,agv,if_neg (by simp),c,agv,UQ j (fun t a=>⟨(f.ok t a).1,(f.ok t a).2.1⟩) g v,agv]
def U6 (c:sK N tk r) (m:N<=2000) (h:iZ (kp N tk)=some ((List.range N).map r)):jg (kp N tk)=some (je (nw N r)):=by
 unfold jg;rw[h,agv];have key:=fun d e=>uB (body:=gO ((List.range N).map r)) (List.range N) (by simp;omega) (fun i l=>l=je (nw i r)) (fun l=>l=je (nw N r)) (s0:=([]:List Int)) rfl d e;have f:aK (gO ((List.range N).map r)) ((0:Int),[])=some (je (nw N r)):=by
  refine (key ?_ ?_).elim fun x ⟨g,hx⟩=>hx ▸ g
  ·rintro i x _ hx rfl;have b:i<N:=by have:=aM hx;simpa using this
   have j:=c.ge i b;have k:(nw i r).length<=i:=by unfold nw;have:=ahz (fun p=>decide (r p = -1)) (List.range i);simpa using this
   refine⟨_,?_,rfl⟩;simp only[gO];rw[if_pos (by simp;omega),bf (cV r b),agv,aX (by omega),GI]
   by_cases a:r i = -1
   ·rw[if_pos (by rw[a];rfl),te (by rw[oV];simp;omega),agv,if_pos a];unfold je;simp
   ·rw[if_neg (by simp;omega),if_neg a]
  ·rintro _ rfl;refine⟨_,?_,rfl⟩;simp only[gO];rw[if_neg (by simp),afr]
 rw[f,agv]
end
section
variable {α:Type} {l:List α} {p:α->Bool} {g:α->Int} {n:Nat}
def Pv (h:((l.filter p).map g).Perm (s6 n)) {H:Nat->Nat->Rat} {pos:Nat->Nat} (e:∀j,j<n->gR l (fun x=>p x&&g x==(j:Int)) (pos j)) :
  ey (List.range l.length) (fun i=>(l[i]?).elim 0 fun x=>if p x=true then H i (g x).toNat else 0)=ey (List.range n) fun j=>H (pos j) j:=by
 have f:ey (List.range l.length) (fun i=>(l[i]?).elim 0 fun x=>if p x=true then H i (g x).toNat else 0)=ey (List.range l.length) (fun i=>(l[i]?).elim 0 fun x=>if p x=true then H (pos (g x).toNat) (g x).toNat else 0):=oc fun i b=>by
  have b:=agB.1 b;have a:l[i]? = some l[i]:=ae9 b;generalize l[i]=x at a;rw[a,Option.elim_some,Option.elim_some];cases c:p x with
  | false=>simp
  | true =>
   obtain⟨j,k,d⟩:=Fp.1 (h.mem_iff.1 (aeW.2 ⟨x,agy.2 ⟨afo a,c⟩,rfl⟩));have:=(e j k).2 i x a (by simp[c,d]);rw[d,afW,<- this]
 rw[f,GB l fun x=>if p x=true then H (pos (g x).toNat) (g x).toNat else 0,<- CP p fun x=>H (pos (g x).toNat) (g x).toNat,<- GA g fun z=>H (pos z.toNat) z.toNat,U4 h];unfold s6;rw[GA];simp only[Int.toNat_natCast]
end
def aaE (n:Nat) (F:Nat->Rat) {K B:Nat} {body:Int×(Int×List Int×Int×List Int)->Option ((Int×(Int×List Int×Int×List Int))⊕(Int×List Int×Int×List Int))} {A:Rat} (h:n<=100) (k:K<=100000) (l:LF A<=B) (hF:∀i,i<n->LF (F i)<=K)
  (b:∀(i:Nat) (s:Rat),i<n->LF s<=B+20000000->body ((i:Int),yy s)=some (.inl (((i+1:Nat):Int),yy (s+F i))))
  (c:∀s,body ((n:Int),yy s)=some (.inr (yy s))):aK body (0,yy A)=some (yy (A+ey (List.range n) F)):=by
 have d:A=A+ey (List.range 0) F:=by simp only[List.range_zero,ey];grind
 obtain⟨q,e,g⟩:=cn (body:=body) (fun i st=>st=((i:Int),yy (A+ey (List.range i) F))) n (fun q=>q=yy (A+ey (List.range n) F)) (s:=(0,yy A)) (by rw[<- d];rfl) (gM (by omega)) (by
  rintro i _ m rfl
  by_cases a:i<n
  ·left;have o:=DK (n:=i) (f:=F) fun j p=>hF j (by omega);have r:=AH A (ey (List.range i) F);have t:i*(K+1)<=100*100001:=ahy (by omega) (by omega);refine⟨a,_,b i _ a (by omega),?_⟩;rw[U5];have:A+ey (List.range i) F+F i=A+(ey (List.range i) F+F i):=by grind
   rw[this]
  ·right;have:i=n:=by omega
   subst this;exact⟨_,c _,rfl⟩)
 rw[e,g]
open Classical in
def sIx (m:bF) (j:Nat):Nat:=if h:∃i,gR m.an.ah (Cs 1 (j:Int)) i then Classical.choose h else 0
open Classical in
def YJ (m:bF) (j:Nat):Nat:=if h:∃i,gR m.an.aB (wD (j:Int)) i then Classical.choose h else 0
section
variable {m:bF} {N:Nat}
def Au (a:mB m N) {j:Nat} (b:j<m.aL.length):gR m.an.ah (Cs 1 (j:Int)) (sIx m j):=by
 have h:∃i,gR m.an.ah (Cs 1 (j:Int)) i:=qg a.takes b;unfold sIx;rw[dif_pos h];exact Classical.choose_spec h
def z7 (a:mB m N) {j:Nat} (b:j<m.aq.length):gR m.an.aB (wD (j:Int)) (YJ m j):=by
 have h:∃i,gR m.an.aB (wD (j:Int)) i:=qg a.gives b;unfold YJ;rw[dif_pos h];exact Classical.choose_spec h
def OE {α:Type} {l:List α} {p:α->Bool} {i k:Nat} (h:gR l p i) (a:gR l p k):i=k:=by
 obtain⟨x,b,c⟩:=h.1;exact a.2 i x b c
def Dv {α:Type} {l:List α} {p:α->Bool} {i:Nat} (h:gR l p i):i<l.length:=by
 obtain⟨x,a,_⟩:=h.1;exact aM a
def abw (c:ll m.an) (d:mB m N) {j:Nat} (e:j<m.aL.length):kf m.an 1 (j:Int)=some ((sIx m j:Nat):Int):=by
 have:=c.srcs;have b:=Au d e;obtain⟨s,g,a⟩:=Pf (f:=m.an) (by omega) 1 (j:Int);rcases a with⟨_,a⟩|⟨i,rfl,a⟩
 ·exact absurd ⟨_,b⟩ a
 ·rw[g,OE a b]
def YK (c:ll m.an) (d:mB m N) {j:Nat} (e:j<m.aq.length):pj m.an (j:Int)=some ((YJ m j:Nat):Int):=by
 have:=c.outs;have b:=z7 d e;obtain⟨s,g,a⟩:=WQ (f:=m.an) (by omega) (j:Int);rcases a with⟨_,a⟩|⟨i,rfl,a⟩
 ·exact absurd ⟨_,b⟩ a
 ·rw[g,OE a b]
end
def F6 (g:List Int) (m:bF) (a b i k:Nat):Rat :=
 if ((a:Int),(b:Int))=((m.aL.getD i (fv.mk 0 0)).b7,m.aq.getD k 0) then J7 g (m.aL.getD i (fv.mk 0 0))*Gw m.an (YJ m k) (sIx m i) else 0
def tD (g:List Int) (a b:Nat) (m:bF):Rat:=ey (List.range m.aL.length) fun i=>ey (List.range m.aq.length) (F6 g m a b i)
def UN {g:List Int} {m:bF} (d:mB m g.length) (a b:Nat):od ((a:Int),(b:Int)) (oM g m)=tD g a b m:=by
 have hk:∀(i k:Nat) (u:fv),ey (x4 m i u (J7 g u) k) (fun c=>if ((a:Int),(b:Int))=c.1 then c.2 else 0)=(m.an.aB[k]?).elim 0 fun y=>if (y.ba==0)=true then (if ((a:Int),(b:Int))=(u.b7,m.aq.getD y.aZ.toNat 0) then J7 g u*Gw m.an k i else 0) else 0:=by
  intro i k u;unfold x4;cases m.an.aB[k]? with
  | none=>rfl
  | some y =>
   simp only[Option.elim_some]
   by_cases h0:y.ba=0
   ·by_cases f:Gw m.an k i=0
    ·rw[if_neg (fun h=>h.2 f),f];show (0:Rat)=_;simp
    ·rw[if_pos ⟨h0,f⟩,if_pos (by simpa using h0)];simp only[ey];grind
   ·rw[if_neg (fun h=>h0 h.1),if_neg (by simpa using h0)];rfl
 have hsrc:∀i,ey (AN g m i) (fun c=>if ((a:Int),(b:Int))=c.1 then c.2 else 0)=(m.an.ah[i]?).elim 0 fun x=>if (x.ba==1)=true then (ey (List.range m.aq.length) fun k=>if ((a:Int),(b:Int))=((m.aL.getD x.aZ.toNat (fv.mk 0 0)).b7,m.aq.getD k 0) then J7 g (m.aL.getD x.aZ.toNat (fv.mk 0 0))*Gw m.an (YJ m k) i else 0) else 0:=by
  intro i;unfold AN;cases m.an.ah[i]? with
  | none=>rfl
  | some x =>
   simp only[Option.elim_some]
   by_cases e:x.ba=1
   ·rw[if_pos e,if_pos (by simpa using e),xU];unfold zr;rw[oc fun k _=>hk i k _];exact Pv (l:=m.an.aB) (p:=fun y=>y.ba==0) (g:=fun y=>y.aZ) d.gives (H:=fun k j=>if ((a:Int),(b:Int))=((m.aL.getD x.aZ.toNat (fv.mk 0 0)).b7,m.aq.getD j 0) then J7 g (m.aL.getD x.aZ.toNat (fv.mk 0 0))*Gw m.an k i else 0) (fun j n=>z7 d n)
   ·rw[if_neg e,if_neg (by simpa using e)];rfl
 rw[DB];unfold oM;rw[xU,oc fun i _=>hsrc i];exact Pv (l:=m.an.ah) (p:=fun x=>x.ba==1) (g:=fun x=>x.aZ) d.takes (H:=fun i j=>ey (List.range m.aq.length) fun k=>if ((a:Int),(b:Int))=((m.aL.getD j (fv.mk 0 0)).b7,m.aq.getD k 0) then J7 g (m.aL.getD j (fv.mk 0 0))*Gw m.an (YJ m k) i else 0) (fun j n=>Au d n)
def Xt {w:bg} (c:BV w) (a b:Nat):ey w.ao (tD w.al a b)=eP (jW w) a b:=by
 unfold eP jW;rw[DB,xU];refine oc fun m d =>?_;rw[<- UN (c.fit m d),DB]
def F7 {g:List Int} {m:bF} (e:vD g) (f:ll m.an) (c:mB m g.length) (a b:Nat) {i k:Nat} (d:i<m.aL.length) (h:k<m.aq.length):LF (F6 g m a b i k)<=14:=by
 unfold F6;split
 ·have j:=D1 e c (u:=m.aL.getD i (fv.mk 0 0)) (by rw[afz,ae9 d];exact ae8 d);obtain⟨_,_,_,_,l⟩:=wX f c.flow (Dv (z7 c h)) (Dv (Au c d));have n:=PY (J7 g (m.aL.getD i (fv.mk 0 0))) (Gw m.an (YJ m k) (sIx m i));omega
 ·exact aeZ xm (by decide)
section
variable {w:bg} {m:bF}
def Y2 (o:BV w) (h:ll m.an) (c:mB m w.al.length) (E:m.aq.length<=6) {a b i:Nat} (F:a<w.al.length) (l:i<m.aL.length) {A:Rat} (t:LF A<=40000000) :
  aK (pq w m (a:Int) (b:Int) (i:Int)) (0,yy A)=some (yy (A+ey (List.range m.aq.length) (F6 w.al m a b i))):=by
 have v:cP=4398046511104:=rfl;have d:m.aL[i]? = some (m.aL.getD i (fv.mk 0 0)):=by rw[afz,ae9 l];rfl
 refine aaE _ _ (K:=14) (by omega) (by omega) t (fun k g=>F7 o.given h c a b l g) (fun k s g G =>?_) (fun s=>by
  simp only[pq,yy];rw[if_neg (by simp)])
 have n:m.aq[k]? = some (m.aq.getD k 0):=by rw[afz,ae9 g];rfl
 have f:=F7 o.given h c a b l g;unfold F6 at f ⊢;generalize m.aL.getD i (fv.mk 0 0)=u at d f ⊢;generalize m.aq.getD k 0=q at n f ⊢;simp only[pq,yy];rw[if_pos (by simpa using g),bf d,agv,aX (by omega)]
 by_cases h1:u.b7=(a:Int)
 ·rw[if_pos (by simpa using h1),bf n,agv,agv]
  by_cases h2:q=(b:Int)
  ·obtain⟨j,H,I,x,J,L⟩:=E5 o.given (p:=(a:Int)) (by omega);obtain rfl:a=j:=by omega
   have M:=(c.uses u (afo d)).2;obtain⟨y,z,B,_,N⟩:=wX h c.flow (Dv (z7 c g)) (Dv (Au c l));have O:=(D1 o.given c (afo d)).1;have C:uW u.a7 (w.al.getD (a:Int).toNat 0)=some (cR (J7 w.al u),0):=by
    rw[Of5 (by omega) (by omega) (by omega)];unfold J7;rw[h1]
   have r:((a:Int),(b:Int))=(u.b7,q):=by rw[h1,h2]
   rw[if_pos r]at f;have D:nd (aw.mk (aG.mk (cR s).bR.ak (cR s).bR.aa) (aG.mk (cR s).bN.ak (cR s).bN.aa)) (cR (J7 w.al u*Gw m.an (YJ m k) (sIx m i)))=some (cR (s+J7 w.al u*Gw m.an (YJ m k) (sIx m i))):=P7 (by omega);rw[if_pos (by simpa using h2),bf x,agv,C,agv,YK h c g,agv,bf z,agv,abw h c l,agv,bf B,agv,ad0 (by omega),agv,D,agv,if_pos r]
  ·rw[if_neg (by simpa using h2),if_neg (fun e=>h2 (Prod.mk.inj e).2.symm)];simp[Rat.add_zero]
 ·rw[if_neg (by simpa using h1),agv,if_neg (by simp),if_neg (fun e=>h1 (Prod.mk.inj e).1.symm)];simp[Rat.add_zero]
def abh (g:BV w) (h:ll m.an) (j:mB m w.al.length) (q:m.aL.length<=6) (l:m.aq.length<=6) {a b:Nat} (o:a<w.al.length) :
  rD w m (a:Int) (b:Int)=some (cR (tD w.al a b m))∧LF (tD w.al a b m)<=1000:=by
 have c:∀i,i<m.aL.length->LF (ey (List.range m.aq.length) (F6 w.al m a b i))<=100:=fun i d=>by
  have:=DK (K:=14) (n:=m.aq.length) (f:=F6 w.al m a b i) fun k p=>F7 g.given h j a b d p;omega
 have key:aK (po w m (a:Int) (b:Int)) (0,yy 0)=some (yy (0+tD w.al a b m)):=by
  refine aaE _ _ (K:=100) (B:=1) (by omega) (by omega) xm c (fun i s d r =>?_) (fun s=>by
   simp only[po,yy];rw[if_neg (by simp)])
  have e:=Y2 g h j l (b:=b) o d (A:=s) (by omega);simp only[yy]at e;simp only[po,yy];rw[if_pos (by simpa using d),e,agv,aX (by omega)]
 constructor
 ·unfold rD;rw[Yl (by decide),agv];erw [key];rw[show (0:Rat)+tD w.al a b m=tD w.al a b m by grind];rfl
 ·have:=DK (K:=100) c;unfold tD;omega
def Rj (k:yC w) (j:BV w) {a b:Nat} (l:a<w.al.length) :
  aK (tE w (a:Int) (b:Int)) (0,yy 0)=some (yy (eP (jW w) a b)):=by
 have n:cP=4398046511104:=rfl;have u:=k.mills;have e:eP (jW w) a b=0+ey (List.range w.ao.length) (fun i=>(w.ao[i]?).elim 0 (tD w.al a b)):=by
  rw[GB,Xt j];grind
 rw[e];have c:∀i m,w.ao[i]? = some m->rD w m (a:Int) (b:Int)=some (cR (tD w.al a b m))∧LF (tD w.al a b m)<=1000:=fun i m h=>by
  have d:=afo h;obtain⟨o,p,q⟩:=k.mill m d;exact abh j o (j.fit m d) p q l
 refine aaE _ _ (K:=1000) (B:=1) (by omega) (by omega) xm (fun i g =>?_) (fun i s g v =>?_) (fun s=>by
  simp only[tE,yy];rw[if_neg (by simp)])
 ·have f:w.ao[i]? = some w.ao[i]:=ae9 g;rw[f];exact (c i _ f).2
 ·have f:w.ao[i]? = some w.ao[i]:=ae9 g;generalize w.ao[i]=m at f;obtain⟨r,x⟩:=c i m f;have t:nd (aw.mk (aG.mk (cR s).bR.ak (cR s).bR.aa) (aG.mk (cR s).bN.ak (cR s).bN.aa)) (cR (tD w.al a b m))=some (cR (s+tD w.al a b m)):=P7 (by omega);simp only[tE,yy];rw[if_pos (by simpa using g),bf f,agv,r,agv,t,agv,aX (by omega),f,Option.elim_some]
def ve (S:Nat->Nat->Rat) (a n:Nat):List Tk:=((List.range n).filter fun b=>decide (0<S a b)).map fun b=>(a,b,S a b)
def Jq (S:Nat->Nat->Rat) (a n:Nat):(ve S a n).length<=n:=by
 unfold ve;rw[afq];exact aeZ (ahz ..) (by simp)
def ad6 {l m:List bD} (h:l.length+m.length<=1000):kV 80 l m=some (l++m):=by
 unfold kV;have:(1000:Nat)<=maxLen:=by decide
 rw[if_pos ⟨by omega,by omega⟩]
def abd (e:yC w) (g:BV w) {a:Nat} (m:a<w.al.length) {c:List bD} (v:c.length<=36) :
  aK (qz w (a:Int)) ((0:Int),c)=some (c++(ve (eP (jW w)) a w.al.length).map oE):=by
 have n:cP=4398046511104:=rfl;have y:=e.given;obtain⟨_,j⟩:=FF e g;have key:=fun f d=>uB (body:=qz w (a:Int)) (List.range w.al.length) (by simp;omega) (fun i (s:List bD)=>s=c++(ve (eP (jW w)) a i).map oE) (fun s=>s=c++(ve (eP (jW w)) a w.al.length).map oE) (s0:=c) (by simp[ve]) f d;refine (key ?_ ?_).elim fun x ⟨o,hx⟩=>hx ▸ o
 ·rintro b x _ hx rfl;have p:b<w.al.length:=by have:=aM hx;simpa using this
  have z:=Jq (eP (jW w)) a b;have q:LF (eP (jW w) a b)<=2700:=by
   have A:=Dh (k:=((a:Int),(b:Int))) j.sz;have B:=afF 21 j.len;unfold eP;omega
  have r:ve (eP (jW w)) a (b+1)=if 0<eP (jW w) a b then ve (eP (jW w)) a b++[(a,b,eP (jW w) a b)] else ve (eP (jW w)) a b:=by
   unfold ve;rw[ahE,ahA,agn]
   by_cases h:0<eP (jW w) a b
   ·rw[if_pos h,ahB (by simpa using h)];rfl
   ·rw[if_neg h,ahC (by simpa using h)];simp
  have l:=Rj e g (b:=b) m;have t:jA (aw.mk (aG.mk (cR (eP (jW w) a b)).bR.ak (cR (eP (jW w) a b)).bR.aa) (aG.mk (cR (eP (jW w) a b)).bN.ak (cR (eP (jW w) a b)).bN.aa))=some (eP (jW w) a b).num.sign:=LX (by omega);simp only[yy]at l;simp only[qz];rw[if_pos (by simpa using p),Yl (by decide),agv,aX (by omega),r];erw [l];rw[agv];simp only;rw[t,agv]
  by_cases h:0<eP (jW w) a b
  ·rw[if_pos (decide_eq_true (sG.2 h)),if_pos h,ad6 (by rw[af6,afq,List.length_singleton];omega),agv];refine⟨_,rfl,?_⟩;rw[agn,agd];rfl
  ·rw[if_neg (by rw[decide_eq_true_eq];exact fun u=>h (sG.1 u)),if_neg h];exact⟨_,rfl,rfl⟩
 ·rintro _ rfl;refine⟨_,?_,rfl⟩;simp only[qz];rw[if_neg (by simp),afr]
def aeg (d:yC w):zn w=some (match z6 w with|some r=>(cA.mk 0 [],r.1)|none=>(aco w (jW w),0)):=by
 have e:=d.given;unfold zn;rw[SD d,agv];cases h:z6 w with
 | some r =>
  have:=SO h;rw[if_pos (by simpa using this)];rfl
 | none =>
  have k:=WR h;have b:∀n,((List.range n).flatMap fun a=>ve (eP (jW w)) a w.al.length).length<=n*w.al.length:=fun n=>mJ (fun a=>Jq _ a _) n;have key:=fun f c=>uB (body:=qy w) (List.range w.al.length) (by simp;omega) (fun i (s:List bD)=>s=((List.range i).flatMap fun a=>ve (eP (jW w)) a w.al.length).map oE) (fun s=>s=(lj w.al.length (eP (jW w))).map oE) (s0:=[]) rfl f c;have g:aK (qy w) ((0:Int),[])=some ((lj w.al.length (eP (jW w))).map oE):=by
   refine (key ?_ ?_).elim fun x ⟨g,hx⟩=>hx ▸ g
   ·rintro a x _ hx rfl;have j:a<w.al.length:=by have:=aM hx;simpa using this
    have m:=b a;have l:a*w.al.length<=6*6:=ahy (by omega) e;refine⟨_,?_,rfl⟩;simp only[qy];rw[if_pos (by simpa using j),abd d k j (by rw[afq];omega),agv,aX (by omega),AU,agn]
   ·rintro _ rfl;refine⟨_,?_,rfl⟩;simp only[qy];rw[if_neg (by simp),afr];rfl
  have l:=GD w.al.length (eP (jW w));have o:w.al.length*w.al.length<=6*6:=ahy e e;rw[if_neg (by simp),g,agv,if_neg (by rw[decide_eq_true_eq,afq];omega)];rfl
end
def LW (d:bg) (a:cA) (q:Int) (D:a.az.length<=17592186044416):jm d a q=some true:=by
 obtain⟨b,E,F⟩:=WH d;obtain⟨c,f1,f2⟩:=WG D;unfold jm;rw[abq,agv,E,agv];cases b with
 | false=>rfl
 | true =>
 rw[if_neg (by simp),f1,agv,agv];cases c with
 | false=>rfl
 | true =>
 have e:=F rfl;obtain⟨G,h,Z⟩:=f2 rfl;have j:zn d=s3 d:=by
  rw[aeg e,of_eq e];cases z6 d<;>rfl
 have H:∃x,s3 d=some x∧nc x.1 x.1=some true:=by
  rw[of_eq e];cases I:z6 d with
  | some r=>exact⟨_,rfl,O8 (N:=0) (K:=0) (tk:=[]) (by simp) (by simp) (fun t i=>by cases i)⟩
  | none =>
   obtain⟨_,J⟩:=FF e (WR I);obtain⟨z1,L⟩:=YX e.given J;exact⟨_,rfl,O8 (K:=2700) (by omega) (by omega) L⟩
 obtain⟨x,M,f⟩:=H;rw[if_neg (by simp),Ms e,agv,SD e,agv,j,M,agv,agv,if_neg (by simp),if_neg (by simp),if_neg (by simp)];obtain⟨v,O,P,Q⟩:=UB (K:=6) (by decide) (by omega) h q;obtain⟨b,s,u⟩:=xN (K:=6) (by decide) h;obtain⟨c,w,R⟩:=K8 (K:=6) (by decide) (by omega) h;have k:b=c:=Bool.eq_iff_iff.2 (u.trans R.symm);subst k;rw[f,agv,if_neg (by simp),s,agv,w,agv,if_neg (by simp),O,agv,P,agv,Q,agv,agv,if_neg (by simp),if_pos rfl];have m:∃l t,gD a=some l∧iZ a=some l∧l.length<=8000∧ib a=some t∧jg a=some t∧t.length<=8000:=by
  cases b with
  | false =>
   have y:gD a=some []:=by unfold gD;rw[s];rfl
   have g:iZ a=some []:=by unfold iZ;rw[w];rfl
   refine⟨[],[],y,g,by simp,?_,?_,by simp⟩
   ·unfold ib;rw[y,agv];exact (congrArg (Option.bind · _) (Ac (n:=FU-1) (by simp only[gN];rw[if_neg (by simp)]))).trans rfl
   ·unfold jg;rw[g,agv];exact (congrArg (Option.bind · _) (Ac (n:=FU-1) (by simp only[gO];rw[if_neg (by simp)]))).trans rfl
  | true =>
   obtain⟨N,tk,rfl,o⟩:=u.1 rfl;have z:∀t∈tk,LF t.2.2<=6:=fun t i=>by
    have:=h (oE t) (by simp only[kp];exact List.mem_map_of_mem i);exact pS this.1 this.2
   have S:tk.length<=2000:=by simp only[kp,afq]at G;omega
   obtain⟨r,A,B⟩:=XA o (by decide) z;have C:=o.ports;have g:=Y7 o B (by decide) z S;have i:(je (nw N r)).length<=N:=by rw[oV];unfold nw;have:=ahz (fun p=>decide (r p = -1)) (List.range N);simpa using this
   exact⟨_,_,A,g,by simp;omega,RN C A,U6 B C g,by omega⟩
 obtain⟨l,t,T,U,V,W,X,Y⟩:=m;rw[T,agv,U,agv,Jz V,agv,if_pos rfl,W,agv,X,agv,Jz Y,agv]
end Go.Proofs.YtekhokjkphgphaaGreat.P
