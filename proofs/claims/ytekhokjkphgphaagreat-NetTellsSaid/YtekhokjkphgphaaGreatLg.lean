import Derived.Test.YtekhokjkphgphaaGreatLf
set_option linter.unusedSimpArgs false
set_option linter.unusedVariables false
set_option linter.defProp false
noncomputable section
open Go.Proofs.Tryz
namespace Go.Proofs.YtekhokjkphgphaaGreat.P
open Go.RowKit
def QY {v u:List Int} {s13:Int} {a b c T V W:Int} {n:Nat} (hn:2<=n) (e:v.length=n) (M:n<=17592186044416) (i:Nat) (N:s13=i) (O:i+n<=17592186044416)
  (p:P.idx v (((n-2:Nat)):Int)=some b) (q:P.idx u (((i+n-2:Nat)):Int)=some c)
  (b1:524288<=a∧a<1048576) (m:0<=b∧b<1048576) (Q:0<=c∧c<1048576) (t:0<=T) (R:T<1048576*1048576)
  (G:pw (n-2)*(a*1048576+b)<=V∧V<pw (n-2)*(a*1048576+b+1)) (hW:pw (n-2)*(T*1048576+c)<=W∧W<pw (n-2)*(T*1048576+c+1)) (w:W<1048576*V) :
  ∃g,aK (um v s13 u a) (T / a,T % a)=some g∧W / V<=g∧g<=W / V+1∧g<=1048576:=by
 subst N;have hp:=nX (n-2);have d:0<V:=by
  have:pw (n-2)*1<=pw (n-2)*(a*1048576+b):=ag7 (by omega) (by omega);omega
 have y:0<=W:=by
  have:0<=pw (n-2)*(T*1048576+c):=ahf (by omega) (by omega);omega
 have S:0<=W / V:=ahb y (by omega);have U:W / V<1048576:=ahc d w;have hm:=ahe T a;have z:=Int.emod_nonneg T (show a≠0 by omega);have X:=ahd T (show 0<a by omega);have Y:0<=T / a:=ahb t (by omega);have A:T / a<=2097152:=by
  have:T / a<2097153:=ahc (by omega) (by
   omega)
  omega
 have Z:∀g r:Int,g*a+r=T->W / V<=g->g*b>r*1048576+c->W / V<=g-1:=by
  intro g r o B C;have j:W<g*V:=by
   have k:g*(a*1048576+b)>=T*1048576+c+1:=by
    grind
   have e2:pw (n-2)*(T*1048576+c+1)<=pw (n-2)*(g*(a*1048576+b)):=ag7 k (by omega);have H:g*(pw (n-2)*(a*1048576+b))<=g*V:=ag7 G.1 (by omega);grind
  have:=ahc d j;omega
 have D:∀g r:Int,g*a+r=T->0<=g->g<=1048576->g*b<=r*1048576+c->g<=W / V+1:=by
  intro g r o h0 hB C;have k:g*(a*1048576+b)<=T*1048576+c:=by
   grind
  have e2:g*V<=W+V:=by
   have f1:g*V<=g*(pw (n-2)*(a*1048576+b+1)):=ag7 (by omega) h0;have f2:g*(pw (n-2)*(a*1048576+b+1))=pw (n-2)*(g*(a*1048576+b))+pw (n-2)*g:=by
    grind
   have f3:pw (n-2)*(g*(a*1048576+b))<=pw (n-2)*(T*1048576+c):=ag7 k (by omega);have f4:pw (n-2)*g<=pw (n-2)*(a*1048576+b):=ag7 (by omega) (by omega);omega
  have H:(g-1)*V<=W:=by grind
  have:=Int.le_ediv_of_mul_le d H;omega
 have f:W / V<=T / a:=by
  have k:W<(T / a+1)*V:=by
   have f1:T+1<=(T / a+1)*a:=by
    grind
   have f2:T*1048576+c+1<=(T / a+1)*(a*1048576+b):=by
    have g1:(T+1)*1048576<=(T / a+1)*a*1048576:=ahh f1 (by omega);have g2:0<=(T / a+1)*b:=ahf (by omega) m.1;grind
   have f3:pw (n-2)*(T*1048576+c+1)<=pw (n-2)*((T / a+1)*(a*1048576+b)):=ag7 f2 (by omega);have f4:(T / a+1)*(pw (n-2)*(a*1048576+b))<=(T / a+1)*V:=ag7 G.1 (by omega);grind
  have:=ahc d k;omega
 refine tz (I:=fun (s:Int×Int)=>s.1*a+s.2=T∧W / V<=s.1∧s.1<=2097152∧0<=s.2) (μ:=fun (s:Int×Int)=>s.1.toNat) _ ⟨?_,f,A,z⟩ (by unfold FU;omega) ?_
 ·grind
 rintro⟨g,r⟩ ⟨o,B,C,j⟩;simp only at o B C j;have aa:0<=g*a:=ahf (by omega) (by omega);simp only[um];have el:IntKind.i64.wrap ((v.length:Int)-2)=((n-2:Nat):Int):=by rw[e,fW (by omega)];omega
 have ei:IntKind.i64.wrap ((IntKind.i64.wrap ((i:Int)+(v.length:Int)))-2)=((i+n-2:Nat):Int):=by rw[e,fW (x:=(i:Int)+n) (by omega),fW (by omega)];omega
 rw[el,ei];have E:W / V<=g-1->∃h:Int×Int,(some (Sum.inl (IntKind.i64.wrap (g-1),IntKind.i64.wrap (r+a))):Option ((Int×Int)⊕Int))=some (.inl h)∧(h.1*a+h.2=T∧W / V<=h.1∧h.1<=2097152∧0<=h.2)∧h.1.toNat<g.toNat:=by
  intro ab;refine⟨_,rfl,?_⟩;rw[fW (x:=g-1) (by omega),fW (x:=r+a) (by omega)];grind
 by_cases l:g>=1048576
 ·rw[if_pos (by simpa using l),agv,if_pos rfl];grind
 ·rw[if_neg (by simpa using l)]
  by_cases J:r<1048576
  ·have K:0<=g*b:=ahf (by omega) m.1;have F:g*b<=1048576*1048576:=ahg (by omega) (by omega) m.1 (by omega);rw[if_pos (by simpa using J),p,agv,XH j (by omega),agv,q,agv,fW (x:=g*b) (by omega),Ri j (by omega) Q,agv]
   by_cases L:g*b>1048576*r+c
   ·rw[if_pos (by simpa using L)];grind
   ·rw[if_neg (by simpa using L)];grind
  ·rw[if_neg (by simpa using J),agv,if_neg (by simp)];refine .inr ⟨g,rfl,B,D g r o (by omega) (by omega) ?_,by omega⟩;have:g*b<=1048575*1048575:=ahg (by omega) (by omega) m.1 (by omega);omega
def abu {α:Type} {l:List α} {a b:Nat} (h:a<=b) (c:b<=l.length):Df l (a:Int) (b:Int)=some ((l.drop a).take (b-a)):=by
 unfold Df;simp_all
def YC {l:List Int} {n:Nat} (d:l.length=n) (f:2<=n) (a:Dg l) :
  pw (n-2)*((l[n-1]'(by omega))*1048576+l[n-2]'(by omega))<=dv l∧dv l<pw (n-2)*((l[n-1]'(by omega))*1048576+l[n-2]'(by omega)+1):=by
 have e:=jv l (i:=n-2) (by omega);rw[kn (by omega),kn (i:=n-2+1) (by omega),agI (by omega)]at e;have b:l[n-2+1]'(by omega)=l[n-1]'(by omega):=by congr 1;omega
 rw[b]at e;have g:=cT (a.take (n-2));have c:=pJ (a.take (n-2));rw[aff,agX (by omega)]at c;simp only[dv]at e;grind
def YD {l:List Int} {n:Nat} (g:l.length=n+1) (h:2<=n) (a:Dg l) :
  pw (n-2)*((1048576*(l[n]'(by omega))+l[n-1]'(by omega))*1048576+l[n-2]'(by omega))<=dv l∧dv l<pw (n-2)*((1048576*(l[n]'(by omega))+l[n-1]'(by omega))*1048576+l[n-2]'(by omega)+1):=by
 have e:=jv l (i:=n-2) (by omega);rw[kn (by omega),kn (i:=n-2+1) (by omega),kn (i:=n-2+1+1) (by omega),agI (by omega)]at e;have b:l[n-2+1]'(by omega)=l[n-1]'(by omega):=by congr 1;omega
 have c:l[n-2+1+1]'(by omega)=l[n]'(by omega):=by congr 1;omega
 rw[b,c]at e;have j:=cT (a.take (n-2));have d:=pJ (a.take (n-2));rw[aff,agX (by omega)]at d;simp only[dv]at e;have f:l[n-2]'(by omega)+1048576*(l[n-1]'(by omega)+1048576*(l[n]'(by omega)+1048576*0))=(1048576*(l[n]'(by omega))+l[n-1]'(by omega))*1048576+l[n-2]'(by omega):=by omega
 rw[f]at e;rw[ag8 (pw (n-2)) _ 1,Int.mul_one];omega
def Wi {v o:List Int} {n m:Nat} (p:Dg v) (a:v.length=n) (F:2<=n) (G:524288<=v[n-1]'(by omega)) (hu:Dg o) (H:o.length=m+n) (hf:m+n<=17592186044416) (d:dv (o.drop m)<dv v) :
  ∃r,aK (uk v) ((m:Int)-1,o,List.replicate m 0)=some r∧r.1.length=m+n∧Dg r.1∧r.2.length=m∧Dg r.2∧dv r.1+dv v*dv r.2=dv o∧dv r.1<dv v:=by
 have J:=pJ p;rw[a]at J;refine cn (I:=fun i s=>s.1=((m-i:Nat):Int)-1∧s.2.1.length=m+n∧Dg s.2.1∧s.2.2.length=m∧Dg s.2.2∧(∀j (E:j<s.2.2.length),j<m-i->s.2.2[j]=0)∧dv s.2.1+dv v*dv s.2.2=dv o∧dv (s.2.1.drop (m-i))<dv v)
  m _ ⟨rfl,H,hu,by simp,Dg.rep _,fun j E _=>by simp,by simp[AR],d⟩ (gM (by omega)) ?_
 rintro i ⟨s,u,q⟩ hi ⟨S,hl,b,t,x,K,he,d⟩;simp only at S hl b t x K he d;subst S;generalize hk:m-i=k at *;simp only[uk]
 by_cases h0:0<k
 ·left;have ek:((k:Int)-1)=((k-1:Nat):Int):=by omega
  rw[ek,if_pos (by simp)];have e1:IntKind.i64.wrap (((k-1:Nat):Int)+(v.length:Int))=((k-1+n:Nat):Int):=by rw[a,fW (by omega)];omega
  have e2:IntKind.i64.wrap (((k-1+n:Nat):Int)-1)=((k-1+n-1:Nat):Int):=by rw[fW (by omega)];omega
  have e3:IntKind.i64.wrap ((v.length:Int)-1)=((n-1:Nat):Int):=by rw[a,fW (by omega)];omega
  have e4:IntKind.i64.wrap (((k-1+n:Nat):Int)+1)=((k-1+n+1:Nat):Int):=by rw[fW (by omega)];omega
  have e5:IntKind.i64.wrap (((k-1:Nat):Int)-1)=((k-1:Nat):Int)-1:=fW (by omega);rw[e1,e2,e3,e4,e5];have U:k-1+n<u.length:=by omega
  have V:k-1+n-1<u.length:=by omega
  have W:k-1+n-2<u.length:=by omega
  have X:n-1<v.length:=by omega
  have y:n-2<v.length:=by omega
  have Y:=b.get U;have g2:=b.get V;have g3:=b.get W;have gv:=p.get X;have L:=p.get y;rw[cu U,agv,XH Y.1 (by omega),agv,cu V,agv,cu X,agv,Ri Y.1 (by omega) g2,Wj (by omega) (by omega) (by omega),agv,YV (by omega) (by omega),agv,abu (by omega) (by omega),show k-1+n+1-(k-1)=n+1 by omega];generalize Z:(u.drop (k-1)).take (n+1)=w;have M:w.length=n+1:=by grind
  have c:Dg w:=by rw[<- Z];exact (b.drop _).take _
  have e:∀j (E:j<n+1),w[j]'(by omega)=u[k-1+j]'(by omega):=by
   grind
  have z:dv (u.drop (k+n))=0:=by
   have N:=jv (u.drop k) (i:=n) (by grind);rw[agK]at N;have n1:=cT ((b.drop k).take n);have n2:=cT (b.drop (k+n));have hp:=nX n;rcases (show dv (u.drop (k+n))=0∨1<=dv (u.drop (k+n)) by omega) with h|h
   ·exact h
   ·have:pw n*1<=pw n*dv (u.drop (k+n)):=ag7 h (by omega);omega
  have hW:dv w=dv (u.drop (k-1)):=by
   have N:=jv (u.drop (k-1)) (i:=n+1) (by grind);rw[agK,show k-1+(n+1)=k+n by omega,z,Z]at N;omega
  have aa:dv w=u[k-1]+1048576*dv (u.drop k):=by
   rw[hW,kn (by omega),show k-1+1=k by omega]
  have gk:=b.get (show k-1<u.length by omega);have A:dv w<1048576*dv v:=by omega
  have t2:=YC a F p;have t3:=YD M F c;rw[e n (by omega),e (n-1) (by omega),e (n-2) (by omega)]at t3;have a1:u[k-1+(n-1)]'(by omega)=u[k-1+n-1]'(by omega):=by congr 1;omega
  have a2:u[k-1+(n-2)]'(by omega)=u[k-1+n-2]'(by omega):=by congr 1;omega
  rw[a1,a2]at t3;obtain⟨g,q1,q2,q3,q4⟩:=QY (s13:=((k-1:Nat):Int)) F a (by omega) (k-1) rfl (by omega) (cu y) (cu W) ⟨G,gv.2⟩ L g3 (T:=1048576*u[k-1+n]+u[k-1+n-1]) (by omega) (by omega) t2 t3 A;rw[q1,agv,agv];have f:0<dv v:=by
   have:=cT c;omega
  obtain⟨l,r1,r2,r3,r4⟩:=UU c p (by unfold Fit;omega) (by omega) f q2 q3 q4;have O:k-1<q.length:=by omega
  rw[r1,agv,cu O,agv];simp only;have P:0<=dv w / dv v:=ahb (cT c) (by omega);have Q:dv w / dv v<1048576:=ahc f A;have B:=ahd (dv w) f;simp only[Int.toNat_natCast];have C:dv (l++u.drop (k-1+n+1))=dv w % dv v:=by
   rw[fM,show k-1+n+1=k+n by omega,z,r4];omega
  have D:(u.take (k-1)).length=k-1:=by grind
  have R:dv (u.take (k-1)++(l++u.drop (k-1+n+1)))=dv (u.take (k-1))+pw (k-1)*(dv w % dv v):=by rw[fM,D,C]
  refine⟨by omega,_,rfl,by rw[show m-(i+1)=k-1 by omega],?_,(b.take _).append (r3.append (b.drop _)),by simpa using t,x.set _ ⟨P,Q⟩,fun j E ab =>?_,?_,?_⟩
  ·grind
  ·rw[List.getElem_set_ne (by omega)];exact K j (by simpa using E) (by omega)
  ·rw[R,uz O,K _ O (by omega),Int.sub_zero,ag8];have s2:=jv u (i:=k-1) (by omega);rw[<- hW]at s2;have hm:=ahe (dv w) (dv v);grind
  ·rw[show m-(i+1)=k-1 by omega,agH,D,af8,agk,agI (by omega),agF,C];exact B
 simp_all
def Ru {v:List Int} {t:Int} {n:Nat} (b:v.length=n) (g:0<n) (k:n<=17592186044416) (c:v[n-1]'(by omega)=t) (d:1<=t) (l:t<1048576) :
  ∃s,aK (uj v) 1=some s∧∃j:Nat,s=2 ^ j∧j<=19∧524288<=t*s∧t*s<1048576:=by
 refine cn (I:=fun i s=>s=2 ^ i∧t*s<1048576) 20 _ ⟨rfl,by omega⟩ (by unfold FU;omega) ?_;rintro i s m ⟨rfl,o⟩;have p:(0:Int)<2 ^ i:=Int.pow_pos (by decide);have f:(2:Int) ^ i<=t*2 ^ i:=by
  have:1*(2:Int) ^ i<=t*2 ^ i:=ahh d (by omega);omega
 have a:i<=19:=by
  grind
 simp only[uj];have e:IntKind.i64.wrap ((v.length:Int)-1)=((n-1:Nat):Int):=by rw[b,fW (by omega)];omega
 rw[e,cu (by omega),agv,c,fW (x:=t*2 ^ i) (by omega)]
 by_cases h:t*2 ^ i<524288
 ·left;rw[if_pos (by simpa using h)];refine⟨by omega,_,rfl,by rw[fW (by omega),Int.pow_succ],?_⟩;rw[fW (by omega),<- ag9];omega
 grind
def div_eq {m n:Nat} (hn:n≠0) (ak:(aU m).length<=17592186043904) (al:(aU n).length<=17592186043904):ui (aU m) (aU n)=some (aU (m / n),aU (m % n)):=by
 unfold ui;rw[yG (by unfold Fit;omega) (by unfold Fit;omega),agv]
 by_cases q:m<n
 ·have:kX (m:Int) n<0:=by unfold kX;omega
  rw[if_pos (by simpa using this),vN (by unfold Fit;omega),agv,ahi q,afR q,cN]
 have:¬kX (m:Int) n<0:=by unfold kX;omega
 rw[if_neg (by simpa using this)];obtain⟨an,ao⟩:=zO hn;have r:=fT n
 by_cases h1:(aU n).length=1
 ·rw[if_pos (by simp;omega)];have aq:(n:Int)<1048576:=by rw[h1]at r;simpa [pw] using r
  have e:aU n=[(n:Int)]:=by
   rw[oO hn,ahi (by omega),cN,afR (by omega)]
  have ei:P.idx (aU n) 0=some (n:Int):=by rw[e];rfl
  rw[ei,agv,Pd (bW m) ⟨by omega,by omega⟩ (by unfold Fit;omega),agv,bh];have F:(m:Int) % n=((m % n:Nat):Int):=(Int.natCast_emod m n).symm;have G:((m:Int) / n).toNat=m / n:=by
   grind
  have ar:m % n<n:=afO _ (by omega);simp only[F,G];rw[DC (n:=m % n) (by simp[Fit]) (Dg.mk (by omega) Dg.nil) (by simp[dv]),agv]
 ·rw[if_neg (by simp;omega)];generalize hN:(aU n).length=N at *;have H:2<=N:=by omega
  have f:=bW n;have gt:=f.get (show N-1<(aU n).length by omega);generalize ht:(aU n)[N-1]'(by omega)=t at gt;have a:=jv (aU n) (i:=N-1) (by omega);rw[bh,kn (by omega),agI (by omega),ht]at a;simp only[dv,ahj,ahk]at a;have I:=cT (f.take (N-1));have J:=pJ (f.take (N-1));rw[aff,agX (by omega)]at J;have au:=nX (N-1);have K:1<=t:=by
   grind
  obtain⟨s,L,j,v,hj,O,g⟩:=Ru hN (by omega) (by omega) ht K gt.2;have R:(2:Int) ^ j<=524288:=by
   have:∀j:Nat,j<=19->(2:Int) ^ j<=524288:=by decide
   exact this j hj
  have T:(0:Int)<2 ^ j:=Int.pow_pos (by decide);have V:(t+1)*s<=1048576:=by
   have W:(1048576:Int)=2 ^ (20-j)*2 ^ j:=by rw[<- Int.pow_add,Nat.sub_add_cancel (by omega)];rfl
   rw[W]at g ⊢;rw[v]at g ⊢;have:t<2 ^ (20-j):=Int.lt_of_mul_lt_mul_right g (by omega);exact ahh (by omega) (by omega)
  rw[<- v]at T R;obtain⟨S,rfl⟩:∃S:Nat,s=S:=⟨s.toNat,by omega⟩;have w:Dg [(S:Int)]:=Dg.mk (by omega) Dg.nil;have b:dv [(S:Int)]=S:=by simp[dv]
  rw[L,agv,mul_eq (bW m) w (by simp;omega),agv,bh,b];have em:((m:Int)*S).toNat=m*S:=by omega
  have en:((n:Int)*S).toNat=n*S:=by omega
  rw[em];have av:(aU (m*S)).length<=(aU m).length+1:=by
   apply gZ;rw[iL,afV];have l:=fT m;have:(m:Int)*S<=m*1048576:=ag7 (by omega) (by omega);omega
  have hU:∃u,((if ((((aU (m*S)++[0]).length:Int))==((aU m).length:Int))=true then (kV 8 (aU (m*S)++[0]) [0]).bind fun X=>some X else some (aU (m*S)++[0]))=some u)∧Dg u∧dv u=(m*S:Nat)∧dv u<pw (u.length-1)∧(aU (m*S)).length+1<=u.length∧u.length<=(aU m).length+3:=by
   have d1:Dg (aU (m*S)++[0]):=(bW _).append (Dg.mk (by omega) Dg.nil);have v1:dv (aU (m*S)++[0])=(m*S:Nat):=by rw[fM,bh];simp[dv]
   have v2:=fT (m*S);split
   ·rw[te (by simp;omega),agv];refine⟨_,rfl,d1.append (Dg.mk (by omega) Dg.nil),by rw[fM,v1];simp[dv],?_,by simp,by simp;omega⟩;rw[fM,v1];simp only[dv,af6,List.length_cons,List.length_nil];have:=sn (i:=(aU (m*S)).length) (j:=(aU (m*S)).length+1) (by omega);grind
   grind
  obtain⟨u,Y,y,Z,aw,ax,ay⟩:=hU;rw[te (by simp;omega),agv,mul_eq (bW n) w (by simp;omega),agv,bh,b,en,Y,agv];have ai:524288*pw (N-1)<=((n*S:Nat):Int):=by
   rw[afV,a,Int.add_mul];have l:0<=dv ((aU n).take (N-1))*S:=ahf I (by omega);have z:pw (N-1)*524288<=pw (N-1)*(t*S):=ag7 O (by omega);grind
  have A:((n*S:Nat):Int)<pw N:=by
   have a0:pw N=1048576*pw (N-1):=by rw[<- iL];congr 1;omega
   rw[a0,afV,a];have l:(dv ((aU n).take (N-1))+pw (N-1)*t+1)*S<=(pw (N-1)*(t+1))*S:=ahh (by grind) (by omega);have z:pw (N-1)*((t+1)*S)<=pw (N-1)*1048576:=ag7 V (by omega);grind
  have B:(aU (n*S)).length=N:=by
   have l:=gZ A;rcases afE (aU (n*S)).length N with h|h
   ·have z:=fT (n*S);have D:=sn (i:=(aU (n*S)).length) (j:=N-1) (by omega);omega
   ·omega
  have aa:524288<=(aU (n*S))[N-1]'(by omega):=by
   have l:=jv (aU (n*S)) (i:=N-1) (by omega);rw[bh,kn (by omega),agI (by omega)]at l;simp only[dv,ahj,ahk]at l;have z:=pJ ((bW (n*S)).take (N-1));rw[aff,agX (by omega)]at z;have D:pw (N-1)*524288<pw (N-1)*((aU (n*S))[N-1]'(by omega)+1):=by grind
   have:=Int.lt_of_mul_lt_mul_left D (by omega);omega
  have aj:N+1<=u.length:=by
   have:n*S<=m*S:=afF _ (by omega);have:=cj this;omega
  obtain⟨M,hM⟩:∃M,u.length=M+N:=⟨u.length-N,by omega⟩;have e1:IntKind.i64.wrap ((u.length:Int)-((aU (n*S)).length:Int))=(M:Int):=by rw[B,hM,fW (by omega)];omega
  rw[e1,mk0 (by omega),agv,List.length_replicate,fW (x:=(M:Int)-1) (by omega)];have ab:dv (u.drop M)<dv (aU (n*S)):=by
   rw[bh];have l:=jv u (i:=M) (by omega);have z:=cT (y.take M);have D:pw M*dv (u.drop M)<pw M*pw (N-1):=by
    rw[<- Ge,show M+(N-1)=u.length-1 by omega];omega
   have:=Int.lt_of_mul_lt_mul_left D (by have:=nX M;omega);omega
  obtain⟨⟨U,Q⟩,r1,r2,r3,r4,r5,r6,r7⟩:=Wi (bW (n*S)) B H aa y hM (by omega) ab;simp only at r2 r3 r4 r5 r6 r7;rw[r1,agv];simp only;rw[bh,Z]at r6;rw[bh]at r7;have az:=cT r3;have aA:=cT r5;have hS:0<S:=by omega
  have ad:0<n*S:=ag1 (by omega) hS;obtain⟨o,p⟩:∃k:Nat,dv U=k:=⟨(dv U).toNat,by omega⟩;obtain⟨E,C⟩:∃k:Nat,dv Q=k:=⟨(dv Q).toNat,by omega⟩;rw[p,C]at r6;rw[p]at r7;have c:o+n*S*E=m*S:=by
   omega
  have d:o<n*S:=by omega
  have ae:E=m / n:=by
   have:m*S / (n*S)=E:=by
    rw[<- c,Nat.add_mul_div_left _ _ ad,ahi d,afH]
   rw[<- this,Nat.mul_div_mul_right _ _ hS]
  have ag:o=(m % n)*S:=by
   have:m*S % (n*S)=o:=by rw[<- c,Nat.add_mul_mod_self_left,afR d]
   rw[<- this,Nat.mul_mod_mul_right]
  rw[DC (n:=o) (by unfold Fit;omega) r3 p,agv];have ah:(aU o).length<=N:=gZ (by omega);rw[Pd (bW o) ⟨by omega,by omega⟩ (by unfold Fit;omega),agv,DC (n:=E) (by unfold Fit;omega) r5 C,agv,bh,ae,ag];have:((((m % n)*S:Nat):Int) / (S:Int)).toNat=m % n:=by
   rw[afV,Int.mul_ediv_cancel _ (by omega)];rfl
  rw[this]
def cY (x:Int):aG:=aG.mk x.sign (aU x.natAbs)
def Ln (x:Int):Nat:=(aU x.natAbs).length
def cP:Nat:=4398046511104
def jt:Nat:=17592186043904
def td {n:Nat} (h:n<=cP):n<=jt:=aeZ h (by decide)
def Fs:cY 0=aG.mk 0 []:=by unfold cY;rw[show (0:Int).natAbs=0 from rfl,cN];rfl
def KM {x y:Int} (h:cY x=cY y):x=y:=by
 unfold cY at h;simp only[aG.mk.injEq]at h;have:=Wg h.2;grind
def LU {x:Int} {k:Nat} (h:(x.natAbs:Int)<pw k):Ln x<=k:=gZ h
def Tb (x:Int):(x.natAbs:Int)<pw (Ln x):=fT _
def Sc {x y:Int} (h:x.natAbs<=y.natAbs):Ln x<=Ln y:=cj h
def yD (x:Int):Ln (-x)=Ln x:=by unfold Ln;rw[Int.natAbs_neg]
def AJ (x y:Int):Ln (x+y)<=max (Ln x) (Ln y)+1:=by
 apply LU;have a:=Tb x;have b:=Tb y;have c:=sn (i:=Ln x) (j:=max (Ln x) (Ln y)) (by omega);have d:=sn (i:=Ln y) (j:=max (Ln x) (Ln y)) (by omega);have e:=Int.natAbs_add_le x y;rw[iL];omega
def fX (x y:Int):Ln (x*y)<=Ln x+Ln y:=by
 apply LU;have c:=Tb x;have a:=Tb y;rw[ahl,afV,Ge];have b:=nX (Ln x)
 calc (x.natAbs:Int)*y.natAbs<=pw (Ln x)*y.natAbs:=ahh (by omega) (by omega)
  _<pw (Ln x)*pw (Ln y):=Int.mul_lt_mul_of_pos_left a b
def DL {x:Int} (h:x.natAbs<1048576):Ln x<=1:=LU (by rw[iL,oG];omega)
instance (l:List Int):Decidable (Dg l):=by unfold Dg;infer_instance
def okB (b:aG):Bool:=decide (Dg b.aa)&&(match b.aa.getLast? with|none=>b.ak==0|some d=>(b.ak==1||b.ak == -1)&&d != 0)
def uL {b:aG} : okB b=true↔∃x,b=cY x:=by
 obtain⟨s,l⟩:=b;unfold okB;simp only[afx,decide_eq_true_eq];constructor
 ·rintro⟨i,h⟩;cases f:l.getLast? with
  | none =>
   rw[f]at h;have:l=[]:=List.getLast?_eq_none_iff.1 f;subst this;exact⟨0,by rw[Fs];simpa using h⟩
  | some d =>
   rw[f]at h;simp only[afx,agw,beq_iff_eq,bne_iff_ne]at h;have a:l≠[]:=by grind
   have c:∀h:l≠[],l.getLast h≠0:=by
    grind
   have e:=Dp i c;have h0:(dv l).toNat≠0:=by
    intro h0;rw[h0,cN]at e;exact a e.symm
   have j:=cT i;refine⟨s*dv l,?_⟩;unfold cY;grind
 ·rintro⟨x,g⟩;unfold cY at g;simp only[aG.mk.injEq]at g;obtain⟨rfl,rfl⟩:=g;refine⟨bW _,?_⟩
  by_cases h0:x=0
  ·subst h0;simp[cN]
  ·have a:aU x.natAbs≠[]:=fun h=>h0 (by have:=tn.1 h;omega);rw[ahm a];have k:=T9 _ a;grind
def KQ (x:Int):okB (cY x)=true:=uL.2 ⟨x,rfl⟩
def Gm {b:aG} (h:Fit b.aa):df b=some (okB b):=by
 obtain⟨s,l⟩:=b;simp only[Fit]at h;have key:∃r,aK (pW ⟨s,l⟩) 0=some r∧(match r with | .inl _=>Dg l | .inr x=>x=false∧¬Dg l):=by
  refine cn (I:=fun i s=>s=(i:Int)∧Dg (l.take i)) l.length _ ⟨rfl,by simpa using Dg.nil⟩ (gM h) ?_;rintro i s k ⟨rfl,j⟩;simp only[pW]
  by_cases a:i<l.length
  ·rw[if_pos (by simpa using a),cu a,agv]
   by_cases f:l[i]<0
   ·right;exact⟨.inr false,by simp_all,rfl,fun g=>by have:=g.get a;omega⟩
   ·by_cases c:l[i]>1048575
    ·right;exact⟨.inr false,by simp_all,rfl,fun g=>by have:=g.get a;omega⟩
    ·left;refine⟨a,_,by rw[if_neg (by simpa using f),if_neg (by simpa using c)],by rw[fW (by omega)];omega,?_⟩;have e:l.take (i+1)=l.take i++[l[i]]:=by simp_all
     rw[e];exact j.append (Dg.mk (by omega) Dg.nil)
  ·right;have:i=l.length:=by omega
   simp_all
 obtain⟨r,f,c⟩:=key;unfold df okB;rw[f,agv];cases r with
 | inr x =>
  simp_all
 | inl u =>
  simp only at c ⊢;simp only[c,decide_true,agm]
  by_cases d:l=[]
  ·subst d;simp
  ·have m:0<l.length:=agN.2 d;have e:IntKind.i64.wrap ((l.length:Int)-1)=((l.length-1:Nat):Int):=by rw[fW (by omega)];omega
   rw[if_neg (by simpa using d),e,cu (by omega),ahm d,List.getLast_eq_getElem];grind
def ie {x:Int} (h:Ln x<=17592186044416):df (cY x)=some true:=by
 rw[Gm (show Fit (cY x).aa from h),KQ]
def tJ {s:Int} {l:List Int} (x:Int) (a:Fit l) (b:Dg l) (c:dv l=x.natAbs) (d:x≠0->s=x.sign):dq s l=some (cY x):=by
 unfold dq;rw[DC a b c,agv]
 by_cases h0:x=0
 ·subst h0;rw[show (0:Int).natAbs=0 from rfl,cN,Fs];rfl
 ·have:aU x.natAbs≠[]:=fun h=>h0 (by have:=tn.1 h;omega);rw[if_neg (by simpa using this),d h0];rfl
def mG (b:aG):eG true b=some (b,0):=rfl
def Ax (x:Int):x.sign = -1∨x.sign=0∨x.sign=1:=by
 grind
def P0 {x:Int} (h:Ln x<=cP):pV (cY x)=some (cY (-x)):=by
 unfold pV;have b:cP=4398046511104:=rfl;rw[ie (by omega),agv];simp only[agl,afv,if_false];have a:Fit (cY x).aa:=by unfold Fit;show Ln x<=_;omega
 rw[vN a,agv,tJ (-x) a (bW _) (by show dv (aU _)=_;rw[bh,Int.natAbs_neg]),agv];intro c;show IntKind.i64.wrap (0-x.sign)=_;rw[fW (by grind),Int.sign_neg,Int.zero_sub]
def ZJ (s t:Int):vO [s,t]=some (if s≠0 then s else t):=by
 have key:∃r,aK (xw [s,t]) 0=some r∧(match r with | .inl _=>s=0∧t=0 | .inr x=>x=if s≠0 then s else t):=by
  refine cn (I:=fun i j=>j=(i:Int)∧(1<=i->s=0)∧(2<=i->t=0)) 2 _ ⟨rfl,by omega,by omega⟩ (by unfold FU;omega) ?_;rintro i j c ⟨rfl,a,b⟩;simp only[xw];rcases (show i=0∨i=1∨i=2 by omega) with rfl|rfl|rfl
  ·rw[if_pos (by simp)];show _∨∃r,((some s).bind _=_)∧_;rw[show P.idx [s,t] ((0:Nat):Int)=some s from rfl,agv]
   by_cases hs:s=0
   ·left;exact⟨by omega,_,by rw[if_neg (by simpa using hs)],by rw[fW (by omega)];rfl,fun _=>hs,by omega⟩
   simp_all
  ·have hs:=a (by omega);rw[if_pos (by simp),show P.idx [s,t] ((1:Nat):Int)=some t from rfl,agv]
   by_cases ht:t=0
   ·left;exact⟨by omega,_,by rw[if_neg (by simpa using ht)],by rw[fW (by omega)];rfl,fun _=>hs,fun _=>ht⟩
   simp_all
  simp_all
 obtain⟨r,a,b⟩:=key;unfold vO;grind
def tI (x:Int):x.sign=1∧x=x.natAbs∧0<x∨x.sign = -1∧x = -x.natAbs∧x<0∨x.sign=0∧x=0:=by
 grind
def qD {x:Int} {s:Int} {n:Nat} (a:n=x.natAbs) (b:x≠0->s=x.sign) (c:n≠0->(aU n).length<=17592186044416):dq s (aU n)=some (cY x):=by
 subst a;refine tJ x ?_ (bW _) (bh _) b;unfold Fit
 by_cases h:x.natAbs=0
 ·rw[h,cN];simp
 ·exact c h
def aay {x y:Int} (k:Ln x<=cP) (l:Ln y<=cP):xp (cY x) (cY y)=some (cY (x+y),0):=by
 have m:cP=4398046511104:=rfl;have f:=AJ x y;unfold xp;rw[ie (by omega),agv];simp only[agl,afv,if_false];rw[ie (by omega),agv,agv];simp only[agl,afv,if_false];show (if decide (IntKind.i64.wrap (x.sign*y.sign)>=0)=true then _ else _)=_;have a:(cY x).aa=aU x.natAbs:=rfl;have b:(cY y).aa=aU y.natAbs:=rfl;have c:(cY x).ak=x.sign:=rfl;have d:(cY y).ak=y.sign:=rfl;rw[a,b,c,d];have n:(aU x.natAbs).length<=4398046511104:=by show Ln x<=_;omega
 have o:(aU y.natAbs).length<=4398046511104:=by show Ln y<=_;omega
 have p:=tI x;have q:=tI y;have g:IntKind.i64.wrap (x.sign*y.sign)=x.sign*y.sign:=by
  apply fW;grind
 rw[g]
 by_cases e:x.sign*y.sign>=0
 ·rw[if_pos (by simpa using e),ZJ,agv,add_eq (bW _) (bW _) (by omega) (by omega),agv,bh,bh];have h:((x.natAbs:Int)+y.natAbs).toNat=(x+y).natAbs:=by
   grind
  rw[h,qD (x:=x+y) rfl ?_ (fun _=>by show Ln (x+y)<=_;omega),agv,mG,agv];grind
 ·rw[if_neg (by simpa using e),yG (by unfold Fit;omega) (by unfold Fit;omega),agv];have i:x.sign=1∧y.sign = -1∧0<x∧y<0∨x.sign = -1∧y.sign=1∧x<0∧0<y:=by
   grind
  by_cases j:x.natAbs<y.natAbs
  ·have:kX (x.natAbs:Int) y.natAbs<0:=by unfold kX;omega
   rw[if_pos (by simpa using this),sub_eq (bW _) (bW _) (by unfold Fit;omega) (cj (by omega)) (by rw[bh,bh];omega),agv,bh,bh];rw[qD (x:=x+y) (by omega) ?_ (fun _=>by rw[show ((y.natAbs:Int)-x.natAbs).toNat=(x+y).natAbs by omega];show Ln (x+y)<=_;omega),agv,mG,agv];grind
  ·have:¬kX (x.natAbs:Int) y.natAbs<0:=by unfold kX;omega
   rw[if_neg (by simpa using this),sub_eq (bW _) (bW _) (by unfold Fit;omega) (cj (by omega)) (by rw[bh,bh];omega),agv,bh,bh];rw[qD (x:=x+y) (by omega) ?_ (fun _=>by rw[show ((x.natAbs:Int)-y.natAbs).toNat=(x+y).natAbs by omega];show Ln (x+y)<=_;omega),agv,mG,agv];grind
def aaA {x y:Int} (h:Ln x<=cP) (i:Ln y<=cP):xr (cY x) (cY y)=some (cY (x*y),0):=by
 have j:cP=4398046511104:=rfl;have e:=fX x y;unfold xr;rw[ie (by omega),agv];simp only[agl,afv,if_false];rw[ie (by omega),agv,agv];simp only[agl,afv,if_false];have a:(cY x).aa=aU x.natAbs:=rfl;have b:(cY y).aa=aU y.natAbs:=rfl;have c:(cY x).ak=x.sign:=rfl;have d:(cY y).ak=y.sign:=rfl;rw[a,b,c,d];have k:(aU x.natAbs).length<=4398046511104:=by show Ln x<=_;omega
 have l:(aU y.natAbs).length<=4398046511104:=by show Ln y<=_;omega
 have f:IntKind.i64.wrap (x.sign*y.sign)=(x*y).sign:=by
  rw[Int.sign_mul];apply fW;grind
 rw[f,mul_eq (bW _) (bW _) (by omega),agv,bh,bh];have g:((x.natAbs:Int)*y.natAbs).toNat=(x*y).natAbs:=by rw[ahl,<- afV];rfl
 rw[g,qD (x:=x*y) rfl (fun _=>rfl) (fun _=>by show Ln (x*y)<=_;omega),agv,mG,agv]
def rH {x y:Int} (a:Ln x<=cP) (b:Ln y<=cP):dr (cY x) (cY y)=some (cY (x*y)):=by
 unfold dr;rw[aaA a b];rfl
def Vt {x y:Int} (o:Ln x<=cP) (p:Ln y<=cP) (g:0<y) (j:y∣x):pU (cY x) (cY y)=some (cY (x / y),cY 0,0):=by
 have q:cP=4398046511104:=rfl;unfold pU;rw[ie (by omega),agv];simp only[agl,afv,if_false];rw[ie (by omega),agv,agv];simp only[agl,afv,if_false];have a:(cY x).aa=aU x.natAbs:=rfl;have b:(cY y).aa=aU y.natAbs:=rfl;have c:(cY x).ak=x.sign:=rfl;have d:(cY y).ak=1:=ahn g;rw[a,b,c,d];have r:(aU x.natAbs).length<=4398046511104:=by show Ln x<=_;omega
 have s:(aU y.natAbs).length<=4398046511104:=by show Ln y<=_;omega
 have k:=cj (Nat.div_le_self x.natAbs y.natAbs);obtain⟨z,rfl⟩:=j;have e:y*z / y=z:=Int.mul_ediv_cancel_left _ (by omega);have l:(y*z).natAbs=y.natAbs*z.natAbs:=ahl _ _;have i:(y*z).natAbs / y.natAbs=z.natAbs:=by rw[l,Nat.mul_div_cancel_left _ (by omega)]
 have m:(y*z).natAbs % y.natAbs=0:=by simp_all
 have f:(y*z).sign=z.sign:=by rw[Int.sign_mul,ahn g,Int.one_mul]
 rw[if_neg (by decide),div_eq (by omega) (by omega) (by omega),agv,Int.mul_one,f,fW (x:=z.sign) (by grind),e,i,m,cN];rw[i]at k;have n:(if decide (z.sign<0)=true then some (decide ((([]:List Int).length:Int)>0)) else some false)=some false:=by split<;>rfl
 simp only[n,Option.bind_some,afv,if_false];rw[qD (x:=z) rfl (fun _=>rfl) (fun _=>by omega),agv];have:dq z.sign []=some (cY 0):=tJ 0 (by simp[Fit]) Dg.nil rfl (fun h=>absurd rfl h);simp_all
def lg (n:Nat):Nat:=if n=0 then 0 else n.log2+1
def aah {r x:Nat} (h:2*r<x):lg r<lg x:=by
 unfold lg;rw[if_neg (show x≠0 by omega)]
 by_cases a:r=0
 ·simp_all
 ·rw[if_neg a];have b:=Nat.log2_self_le a;have c:=@Nat.lt_log2_self x;have:2 ^ (r.log2+1)<2 ^ (x.log2+1):=by omega
  have:=(Nat.pow_lt_pow_iff_right (by decide:1<2)).1 this;omega
def S8 {n k:Nat} (h:(n:Int)<pw k):lg n<=20*k:=by
 unfold lg
 by_cases a:n=0
 ·simp_all
 ·rw[if_neg a];have:n<2 ^ (20*k):=by
   have:pw k=((2 ^ (20*k):Nat):Int):=by
    unfold pw;rw[Nat.pow_mul,Int.natCast_pow];rfl
   omega
  have:=(Nat.log2_lt a).2 this;omega
def WM {a b:Nat} (g:(aU a).length<=jt) (i:(aU b).length<=jt):aK qJ (aU a,aU b)=some (aU (Nat.gcd a b)):=by
 have p:jt=17592186043904:=rfl;have key:∃r,aK qJ (aU a,aU b)=some r∧r=aU (Nat.gcd a b):=by
  have q:=S8 (fT a);have t:=S8 (fT b)
  let c:List Int->Nat:=fun l=>(dv l).toNat
  have d:∀n,c (aU n)=n:=fun n=>by show (dv (aU n)).toNat=n;rw[bh];rfl
  refine tz (I:=fun (s:List Int×List Int)=>∃x y,s=(aU x,aU y)∧Nat.gcd x y=Nat.gcd a b∧(aU x).length<=jt∧(aU y).length<=jt)
   (μ:=fun (s:List Int×List Int)=>lg (c s.1)+lg (c s.2)+(if c s.1<c s.2 then 1 else 0)) _ ⟨a,b,rfl,rfl,g,i⟩ (by simp only[d];unfold FU;split<;>omega) ?_
  rintro _ ⟨x,y,rfl,j,u,k⟩;simp only[qJ]
  by_cases h0:y=0
  ·right;subst h0;refine⟨_,by rw[cN,if_neg (by simp)],?_⟩;simp_all
  ·left;have f:0<(aU y).length:=agN.2 (fun h=>h0 (tn.1 h));rw[if_pos (by simpa using f),div_eq h0 (by omega) (by omega),agv];have m:=afO x (aho h0);refine⟨_,rfl,⟨y,x % y,rfl,?_,k,?_⟩,?_⟩
   ·rw[<- j,Nat.gcd_comm y,<- Nat.gcd_rec,Nat.gcd_comm]
   ·have:=cj (Nat.mod_le x y);omega
   ·simp only[d];rw[if_neg (by omega)]
    by_cases e:x<y
    ·rw[if_pos e,afR e];omega
    ·rw[if_neg e];have:lg (x % y)<lg x:=by
      apply aah;have v:=ag3 x y;have o:1<=x / y:=(Nat.one_le_div_iff (by omega)).2 (by omega);have w:y*1<=y*(x / y):=Nat.mul_le_mul_left _ o;omega
     omega
 simp_all
def Vw {x y:Int} (d:Ln x<=jt) (e:Ln y<=jt):rW (cY x) (cY y)=some (cY (Int.gcd x y),0):=by
 have f:jt=17592186043904:=rfl;unfold rW;rw[ie (by omega),agv];simp only[agl,afv,if_false];rw[ie (by omega),agv,agv];simp only[agl,afv,if_false];have a:(cY x).aa=aU x.natAbs:=rfl;have b:(cY y).aa=aU y.natAbs:=rfl;rw[a,b];have g:(aU x.natAbs).length<=17592186043904:=by show Ln x<=_;omega
 have i:(aU y.natAbs).length<=17592186043904:=by show Ln y<=_;omega
 have j:(aU (Nat.gcd x.natAbs y.natAbs)).length<=17592186043904:=by
  by_cases h:y.natAbs=0
  ·simp_all
  ·have:=cj (ahp x.natAbs (aho h));omega
 rw[vN (by unfold Fit;omega),agv,WM (by omega) (by omega),agv,vN (by unfold Fit;omega),agv];have c:Nat.gcd x.natAbs y.natAbs=((Int.gcd x y:Nat):Int).natAbs:=rfl;rw[qD (x:=(Int.gcd x y:Int)) c ?_ (fun _=>by omega),agv,mG,agv];grind
def PX {x y:Int} (k:Ln x<=cP) (l:Ln y<=cP):mc (cY x) (cY y)=some (kX x y):=by
 have m:cP=4398046511104:=rfl;unfold mc;rw[ie (by omega),agv];simp only[agl,afv,if_false];rw[ie (by omega),agv,agv];simp only[agl,afv,if_false];have d:(cY x).aa=aU x.natAbs:=rfl;have e:(cY y).aa=aU y.natAbs:=rfl;have f:(cY x).ak=x.sign:=rfl;have g:(cY y).ak=y.sign:=rfl;rw[d,e,f,g];have n:(aU x.natAbs).length<=4398046511104:=by show Ln x<=_;omega
 have o:(aU y.natAbs).length<=4398046511104:=by show Ln y<=_;omega
 by_cases h:x.sign=y.sign
 ·rw[if_neg (by simpa using h),yG (by unfold Fit;omega) (by unfold Fit;omega),agv];have j:∀s:Int,s = -1∨s=0∨s=1->∀c:Int,c = -1∨c=0∨c=1->IntKind.i64.wrap (s*c)=s*c:=by
   rintro s (rfl|rfl|rfl) c (rfl|rfl|rfl)<;>exact fW (by decide)
  have i:∀a b:Int,kX a b = -1∨kX a b=0∨kX a b=1:=by
   intro a b;unfold kX;omega
  rw[j _ (Ax x) _ (i _ _)];congr 1;unfold kX;grind
 ·rw[if_pos (by simpa using h),Ec,agv];congr 1;unfold kX;grind
def TU (x:Int):IntKind.u64.wrap x=x % 18446744073709551616:=by
 unfold IntKind.wrap;simp only[IntKind.bits,IntKind.signed,agU,afv,if_false];rfl
def wu {x:Int} (h:0<=x∧x<18446744073709551616):IntKind.u64.wrap x=x:=by rw[TU];omega
def T3 {x:Int} (h:0<=x∧x<18446744073709551616):kW .and .u64 x 1048575=x % 1048576:=by
 unfold kW;simp only;have a:(BitVec.ofInt IntKind.u64.bits x &&& BitVec.ofInt IntKind.u64.bits 1048575).toNat=((x % 18446744073709551616).toNat) % 1048576:=by
  rw[BitVec.toNat_and,BitVec.toNat_ofInt,BitVec.toNat_ofInt];have e:((1048575:Int) % ((2 ^ IntKind.u64.bits:Nat):Int)).toNat=2 ^ 20-1:=by decide
  rw[e,aha];rfl
 rw[a,wu (by omega)];omega
def abr (x:Int):De .u64 x 20=some (x / 1048576):=by
 unfold De;rw[if_neg (by decide)];have e:(2:Int) ^ (min (Int.toNat 20) IntKind.u64.bits)=1048576:=by decide
 grind
def pw4:pw 4=1208925819614629174706176:=by decide
def Y1 {n:Nat} (o:n<18446744073709551616):∃l,aK xt ((n:Int),[])=some l∧Dg l∧dv l=n∧l.length<=5:=by
 refine tz (I:=fun (s:Int×List Int)=>0<=s.1∧Dg s.2∧dv s.2+pw s.2.length*s.1=n∧s.2.length<=5∧(s.1=0∨s.2.length<5)) (μ:=fun (s:Int×List Int)=>s.1.toNat) _ ⟨by simp,Dg.nil,by simp[dv,oG],by simp,by simp⟩ (by simp only[Int.toNat_natCast];unfold FU;omega) ?_;rintro⟨u,l⟩ ⟨a,b,c,d,e⟩;simp only at a b c d e;have p:=nX l.length;have f:=cT b;have q:u<=n:=by
  have:1*u<=pw l.length*u:=ahh (by omega) a;omega
 simp only[xt]
 by_cases g:u>0
 ·left;have i:l.length<5:=by omega
  have j:l.length<4:=by
   rcases afE l.length 4 with h|h
   ·exact h
   ·have k:l.length=4:=by omega
    rw[k,pw4]at c;omega
  have m:IntKind.i64.wrap (u % 1048576)=u % 1048576:=fW (by omega);rw[if_pos (by simpa using g),T3 ⟨a,by omega⟩,m,te (by simp;omega),agv,abr,agv];refine⟨_,rfl,⟨by simp only;omega,b.append (Dg.mk (by omega) Dg.nil),?_,by simp;omega,by right;simp;omega⟩,by simp only;omega⟩;simp only[fM,dv,af6,List.length_cons,List.length_nil,ahj,ahk,afH];have:=uT l.length u;omega
 grind
def Sd {x:Int} (h : -9223372036854775808<=x∧x<9223372036854775808):uh x=some (cY x):=by
 have b:(if decide (x<0)=true then some ((-1:Int),IntKind.u64.wrap (0-(IntKind.u64.wrap x))) else some (1,IntKind.u64.wrap x))=some (if x<0 then -1 else 1,((x.natAbs:Nat):Int)):=by
  by_cases a:x<0
  ·rw[if_pos (by simpa using a),if_pos a,TU,TU];congr 2;omega
  ·rw[if_neg (by simpa using a),if_neg a,TU];congr 2;omega
 obtain⟨l,c,d,e,f⟩:=Y1 (n:=x.natAbs) (by omega);unfold uh;rw[b,agv];simp only;rw[c,agv,mR];refine tJ x (by unfold Fit;omega) d e (fun g =>?_);grind
def ael {d:Int} {i:Nat} (a:i<=3) (b:0<=d∧d<1048576) (c:i=3->d<=8):Ht .u64 (IntKind.u64.wrap d) (IntKind.i64.wrap (20*(i:Int)))=some (pw i*d):=by
 rw[wu (by omega),fW (by omega)];unfold Ht;rw[if_neg (by omega)];have e:(2:Int) ^ (min (20*(i:Int)).toNat IntKind.u64.bits)=pw i:=by
  have:∀i:Nat,i<=3->(2:Int) ^ (min (20*(i:Int)).toNat IntKind.u64.bits)=pw i:=by decide
  exact this i a
 rw[e,wu,Int.mul_comm];rcases (show i=0∨i=1∨i=2∨i=3 by omega) with rfl|rfl|rfl|rfl
 ·grind
 ·rw[show pw 1=1048576 by decide];omega
 ·rw[show pw 2=1099511627776 by decide];omega
 ·rw[show pw 3=1152921504606846976 by decide];omega
def acI {u d:Int} {i:Nat} (c:i<=3) (l:0<=u∧u<pw i) (f:0<=d∧pw i*d<9223372036854775809):kW .or .u64 u (pw i*d)=u+pw i*d:=by
 have m:=nX i;have a:0<=pw i*d:=ahf (by omega) f.1;have b:pw i=((2 ^ (20*i):Nat):Int):=by unfold pw;rw[Nat.pow_mul,Int.natCast_pow];rfl
 have g:pw i<=1152921504606846976:=by
  have:=sn c
  rwa [show pw 3=1152921504606846976 by decide]at this
 unfold kW;simp only;have h:(BitVec.ofInt IntKind.u64.bits u ||| BitVec.ofInt IntKind.u64.bits (pw i*d)).toNat=(u+pw i*d).toNat:=by
  rw[BitVec.toNat_or,BitVec.toNat_ofInt,BitVec.toNat_ofInt];have e:((2 ^ IntKind.u64.bits:Nat):Int)=18446744073709551616:=by decide
  rw[e];have j:(u % 18446744073709551616).toNat=u.toNat:=by omega
  have k:((pw i*d) % 18446744073709551616).toNat=d.toNat <<< (20*i):=by
   rw[Nat.shiftLeft_eq,Int.emod_eq_of_lt a (by omega),b];grind
  rw[j,k,Nat.or_comm,<- Nat.shiftLeft_add_eq_or_of_lt (by omega),Nat.shiftLeft_eq];omega
 rw[h,wu (by omega)];omega
def abf {g:Nat} (h:(aU g).length<=jt):tv (cY g)=some (decide (g=1)):=by
 have A:jt=17592186043904:=rfl;have b:(cY (g:Int)).aa=aU g:=rfl;have l:Ln (g:Int)=(aU g).length:=rfl;unfold tv;have f:g=1->(aU g).length<=4:=by
  rintro rfl;exact aeZ (gZ (k:=1) (by decide)) (by decide)
 suffices B:∃r,xq (cY g)=some r∧((if r.2=true then some (r.1==1) else some false)=some (decide (g=1))) by
  grind
 unfold xq;rw[ie (by rw[l];omega),agv];simp only[agl,afv,if_false,Option.bind_some,b]
 by_cases C:(aU g).length>4
 ·rw[if_pos (by simp;omega)];grind
 rw[if_neg (by simp;omega)];have key:∃r,aK (ug (cY g)) (0,0)=some r∧(match r with | .inl u=>u=(g:Int) | .inr x=>x=(0,false)∧g≠1):=by
  refine cn (I:=fun i s=>s.2=(i:Int)∧s.1=dv ((aU g).take i)) (aU g).length _ ⟨rfl,rfl⟩ (gM (by omega)) ?_;rintro i ⟨u,s⟩ q ⟨j,c⟩;simp only at j c;subst j c;simp only[ug,b];have d:=(bW g).take i;have m:=cT d;have e:=pJ d;rw[aff,agX q]at e
  by_cases a:i<(aU g).length
  ·have gd:=(bW g).get a;rw[if_pos (by simpa using a),cu a,agv];have t:(if ((i:Int)==3)=true then some (decide ((aU g)[i]>8)) else some false)=some (decide (i=3∧(aU g)[i]>8)):=by
    by_cases v:i=3
    ·subst v;simp
    grind
   rw[t,agv]
   by_cases p:i=3∧(aU g)[i]>8
   ·right;rw[if_pos (by simpa using p)];refine⟨.inr (0,false),rfl,rfl,?_⟩;rintro rfl;have:=gZ (n:=1) (k:=1) (by decide);omega
   ·left;rw[if_neg (by simpa using p),ael (by omega) gd (by omega),agv];have w:pw i*(aU g)[i]<9223372036854775809:=by
     rcases (show i=0∨i=1∨i=2∨i=3 by omega) with h|h|h|h
     ·have:pw i=1:=by rw[h];decide
      rw[this];omega
     ·have:pw i=1048576:=by rw[h];decide
      rw[this];omega
     ·have:pw i=1099511627776:=by rw[h];decide
      rw[this];omega
     ·have:pw i=1152921504606846976:=by rw[h];decide
      rw[this];omega
    rw[acI (by omega) ⟨m,e⟩ ⟨gd.1,w⟩];exact⟨a,_,rfl,by rw[fW (by omega)];omega,by rw[gg a]⟩
  ·right;have:i=(aU g).length:=by omega
   subst this;exact⟨.inl (dv ((aU g).take (aU g).length)),by simp_all,by rw[agY,bh]⟩
 obtain⟨r,j,c⟩:=key;rw[j,agv];cases r with
 | inr x=>simp_all
 | inl u =>
  simp only at c;subst c;have y:(cY (g:Int)).ak=(g:Int).sign:=rfl;have z:¬(g:Int).sign<0:=by simp_all
  simp only[y];rw[if_neg (by simp),agv,if_neg (by simp),if_pos (by simp)]
  by_cases o:(g:Int)<9223372036854775808
  ·rw[if_pos (by simpa using o)];refine⟨_,rfl,?_⟩;simp only[if_true];rw[wrap64 (by omega) o];congr 1;grind
  ·rw[if_neg (by simpa using o)];have:g≠1:=by omega
   simp_all
def cR (q:Rat):aw:=aw.mk (cY q.num) (cY q.den)
def LF (q:Rat):Nat:=max (Ln q.num) (Ln q.den)
def sf {p q:Rat} (h:cR p=cR q):p=q:=by
 unfold cR at h;simp only[aw.mk.injEq]at h;have a:=KM h.1;have b:=KM h.2;exact Rat.ext a (by omega)
def okF (f:aw):Bool:=okB f.bR&&okB f.bN&&(f.bN.ak==1)&&decide (Nat.gcd (dv f.bR.aa).toNat (dv f.bN.aa).toNat=1)
def xE {f:aw} : okF f=true↔∃q,f=cR q:=by
 obtain⟨p,q⟩:=f;unfold okF;simp only[afx,beq_iff_eq,decide_eq_true_eq];constructor
 ·rintro⟨⟨⟨e,g⟩,h⟩,d⟩;obtain⟨x,rfl⟩:=uL.1 e;obtain⟨y,rfl⟩:=uL.1 g;have i:0<y:=by
   have:y.sign=1:=h;simp_all
  have a:(dv (cY x).aa).toNat=x.natAbs:=by show (dv (aU _)).toNat=_;rw[bh];rfl
  have b:(dv (cY y).aa).toNat=y.natAbs:=by show (dv (aU _)).toNat=_;rw[bh];rfl
  rw[a,b]at d;refine⟨⟨x,y.natAbs,by omega,d⟩,?_⟩;unfold cR;grind
 ·rintro⟨q,c⟩;unfold cR at c;simp only[aw.mk.injEq]at c;obtain⟨rfl,rfl⟩:=c;have j:=q.den_pos;refine⟨⟨⟨KQ _,KQ _⟩,ahn (by omega)⟩,?_⟩;have a:(dv (cY q.num).aa).toNat=q.num.natAbs:=by show (dv (aU _)).toNat=_;rw[bh];rfl
  have b:(dv (cY (q.den:Int)).aa).toNat=q.den:=by show (dv (aU _)).toNat=_;rw[bh];rfl
  rw[a,b];exact q.reduced
def FG (q:Rat):okF (cR q)=true:=xE.2 ⟨q,rfl⟩
def Vv (f:aw):Prop:=f.bR.aa.length<=jt∧f.bN.aa.length<=jt
def R7 {q:Rat} (h:LF q<=cP):Vv (cR q):=by
 unfold LF at h;exact⟨td (show Ln q.num<=_ by omega),td (show Ln q.den<=_ by omega)⟩
def DS {f:aw} (a:Vv f):dE f=some (okF f):=by
 have i:jt=17592186043904:=rfl;obtain⟨p,q⟩:=f;simp only[Vv]at a;unfold dE okF;rw[Gm (show Fit p.aa by unfold Fit;omega),agv]
 by_cases c:okB p=true
 ·simp only[c,agl,afv,if_false,agm];rw[Gm (show Fit q.aa by unfold Fit;omega),agv]
  by_cases d:okB q=true
  ·simp only[d,agl,afv,if_false,agm,Option.bind_some]
   by_cases b:q.ak=1
   ·rw[if_neg (by simp[b])];obtain⟨x,rfl⟩:=uL.1 c;obtain⟨y,rfl⟩:=uL.1 d;rw[Vw a.1 a.2,agv];simp only[beq_self_eq_true,if_true];have e:(dv (cY x).aa).toNat=x.natAbs:=by show (dv (aU _)).toNat=_;rw[bh];rfl
    have g:(dv (cY y).aa).toNat=y.natAbs:=by show (dv (aU _)).toNat=_;rw[bh];rfl
    rw[abf,agv,e,g]
    ·rw[b];rfl
    ·have h:0<y.natAbs:=by
      have:y.sign=1:=b;grind
     have:=cj (ahp x.natAbs h);have j:(aU y.natAbs).length<=jt:=a.2;show (aU (Nat.gcd x.natAbs y.natAbs)).length<=_;omega
   simp_all
  simp_all
 simp_all
def mE {q:Rat} (h:LF q<=cP):dE (cR q)=some true:=by rw[DS (R7 h),FG]
def P3 {p q:Int} (f:Ln p<=cP) (e:Ln q<=cP) (i:q≠0):oR (cY p) (cY q)=some (cR (Rat.divInt p q),0):=by
 have n:cP=4398046511104:=rfl;have d:∀ {p q:Int},Ln p<=cP->Ln q<=cP->0<q ->
   ((rW (cY p) (cY q)).bind fun j=>(pU (cY p) j.1).bind fun k=>(pU (cY q) j.1).bind fun l=>some ((aw.mk k.1 l.1),(0:Int)))=some (cR (Rat.divInt p q),0):=by
  intro p q f e i;have o:0<Int.gcd p q:=Int.gcd_pos_of_ne_zero_right _ (by omega);have g:Ln (Int.gcd p q:Int)<=cP:=by
   have:=cj (ahp p.natAbs (show 0<q.natAbs by omega));show (aU (Nat.gcd p.natAbs q.natAbs)).length<=_;have r:(aU q.natAbs).length<=cP:=e;omega
  rw[Vw (td f) (td e),agv];simp only;rw[Vt f g (by omega) (Int.gcd_dvd_left ..),agv,Vt e g (by omega) (Int.gcd_dvd_right ..),agv];have m:((q.natAbs / Int.gcd p q:Nat):Int)=q / (Int.gcd p q:Int):=by
   grind
  unfold cR;rw[Rat.num_divInt,Rat.den_divInt,if_neg (by omega),ahn i,Int.one_mul,Int.gcd_comm q p,m]
 unfold oR;rw[ie (by omega),agv];simp only[agl,afv,if_false];rw[ie (by omega),agv,agv];simp only[agl,afv,if_false];have h:(cY q).ak=q.sign:=rfl;rw[h];rcases tI q with⟨a,b,c⟩|⟨a,b,c⟩|⟨a,b⟩
 ·rw[if_neg (by rw[a];decide),if_neg (by rw[a];decide),agv];exact d f e c
 ·rw[if_neg (by rw[a];decide),if_pos (by rw[a];decide),P0 f,agv,P0 e,agv,agv];have:=d (p := -p) (q := -q) (by rw[yD];exact f) (by rw[yD];exact e) (by omega);rw[Rat.neg_divInt_neg]at this;exact this
 omega
def jj (q:Rat):Ln q.num<=LF q:=by unfold LF;omega
def jL (q:Rat):Ln q.den<=LF q:=by unfold LF;omega
def AI {p q:Int} (a:q≠0):LF (Rat.divInt p q)<=max (Ln p) (Ln q):=by
 have d:0<Int.gcd q p:=Int.gcd_pos_of_ne_zero_left _ a;have e:Ln (Rat.divInt p q).num<=Ln p:=by
  apply Sc;rw[Rat.num_divInt];obtain⟨z,b⟩:(Int.gcd q p:Int)∣q.sign*p:=Int.dvd_mul_of_dvd_right (Int.gcd_dvd_right ..);rw[b,Int.mul_ediv_cancel_left _ (by omega)];have c:(q.sign*p).natAbs=p.natAbs:=by
   grind
  rw[<- c,b,ahl];exact Nat.le_mul_of_pos_left _ (by omega)
 have c:Ln ((Rat.divInt p q).den:Int)<=Ln q:=by
  apply Sc;rw[Rat.den_divInt,if_neg a];exact Nat.div_le_self _ _
 unfold LF;omega
def ZF {a b:Rat} (h:LF a+LF b+1<=cP):q8 (cR a) (cR b)=some (cR (a+b),0):=by
 have d:=jj a;have e:=jj b;have d1:=jL a;have d2:=jL b;have f:=fX a.num b.den;have g:=fX b.num a.den;have i:=fX a.den b.den;have j:=AJ (a.num*b.den) (b.num*a.den);unfold q8;rw[mE (by omega),agv];simp only[agl,afv,if_false];rw[mE (by omega),agv,agv];simp only[agl,afv,if_false];show (dr (cY a.num) (cY b.den)).bind _=_;rw[rH (by omega) (by omega),agv];show (dr (cY b.num) (cY a.den)).bind _=_;rw[rH (by omega) (by omega),agv,aay (by omega) (by omega),agv];show (dr (cY a.den) (cY b.den)).bind _=_;have c:(a.den:Int)*b.den≠0:=by
  rw[<- afV];have:=ag1 a.den_pos b.den_pos;omega
 rw[rH (by omega) (by omega),agv,P3 (by omega) (by omega) c,agv];rw[Rat.add_def',<- ahq,afV]
def AH (a b:Rat):LF (a+b)<=LF a+LF b+1:=by
 have d:=jj a;have e:=jj b;have d1:=jL a;have d2:=jL b;have f:=fX a.num b.den;have g:=fX b.num a.den;have h:=fX a.den b.den;have i:=AJ (a.num*b.den) (b.num*a.den);have c:(a.den:Int)*b.den≠0:=by
  rw[<- afV];have:=ag1 a.den_pos b.den_pos;omega
 rw[Rat.add_def',<- ahq,afV];have:=AI (p:=a.num*b.den+b.num*a.den) c;omega
def Vx (a:Rat):LF (-a)=LF a:=by unfold LF;rw[Rat.neg_num,Rat.neg_den,yD]
def Vy (a b:Rat):LF (a-b)<=LF a+LF b+1:=by
 rw[Rat.sub_eq_add_neg];have:=AH a (-b);rw[Vx]at this;exact this
def abZ {a b:Rat} (h:LF a+LF b+1<=cP):tu (cR a) (cR b)=some (cR (a-b),0):=by
 unfold tu;rw[mE (by omega),agv];simp only[agl,afv,if_false];rw[mE (by omega),agv,agv];simp only[agl,afv,if_false];show (pV (cY b.num)).bind _=_;have c:=jj b;rw[P0 (by omega),agv];have e:aw.mk (cY (-b.num)) (cR b).bN=cR (-b):=by unfold cR;simp_all
 rw[e,ZF (by rw[Vx];exact h),agv,Rat.sub_eq_add_neg]
def abW {a b:Rat} (h:LF a+LF b<=cP):tr (cR a) (cR b)=some (cR (a*b),0):=by
 have d:=jj a;have e:=jj b;have d1:=jL a;have d2:=jL b;have f:=fX a.num b.num;have g:=fX a.den b.den;unfold tr;rw[mE (by omega),agv];simp only[agl,afv,if_false];rw[mE (by omega),agv,agv];simp only[agl,afv,if_false];show (dr (cY a.num) (cY b.num)).bind _=_;rw[rH (by omega) (by omega),agv];show (dr (cY a.den) (cY b.den)).bind _=_;have c:(a.den:Int)*b.den≠0:=by
  rw[<- afV];have:=ag1 a.den_pos b.den_pos;omega
 rw[rH (by omega) (by omega),agv,P3 (by omega) (by omega) c,agv];rw[Rat.mul_def',<- ahq,afV]
def PY (a b:Rat):LF (a*b)<=LF a+LF b:=by
 have d:=jj a;have e:=jj b;have d1:=jL a;have d2:=jL b;have f:=fX a.num b.num;have g:=fX a.den b.den;have c:(a.den:Int)*b.den≠0:=by
  rw[<- afV];have:=ag1 a.den_pos b.den_pos;omega
 rw[Rat.mul_def',<- ahq,afV];have:=AI (p:=a.num*b.num) c;omega
def ZI {n:Int} (h : -9223372036854775808<=n∧n<9223372036854775808):jY n=some (cR n):=by
 unfold jY;rw[Sd h,agv,Sd (by decide),agv];unfold cR;simp_all
def DI {n:Int} (h:n.natAbs<1048576):LF (n:Rat)<=1:=by
 unfold LF;rw[Rat.num_intCast,Rat.den_intCast];have a:=DL h;have b:=DL (x:=((1:Nat):Int)) (by decide);omega
def DT {a:Rat} (h:LF a<=cP):iS (cR a)=some a.num.sign:=by
 unfold iS;rw[mE h,agv];rfl
def J9 (a b:Rat):Int:=if a<b then -1 else if b<a then 1 else 0
def SF (a b:Rat):kX (a.num*b.den) (b.num*a.den)=J9 a b:=by
 unfold kX J9;simp only[Rat.lt_iff]
def TY {a b:Rat} (h:LF a+LF b<=cP):jl (cR a) (cR b)=some (J9 a b):=by
 have c:=jj a;have d:=jj b;have d1:=jL a;have d2:=jL b;have e:=fX a.num b.den;have f:=fX b.num a.den;unfold jl;rw[mE (by omega),agv];simp only[agl,afv,if_false];rw[mE (by omega),agv,agv];simp only[agl,afv,if_false];show (dr (cY a.num) (cY b.den)).bind _=_;rw[rH (by omega) (by omega),agv];show (dr (cY b.num) (cY a.den)).bind _=_;rw[rH (by omega) (by omega),agv,PX (by omega) (by omega),agv,SF]
def Pz {l:List Int} (a:Fit l) (d:Dg l):ic l=some (aU (dv l).toNat):=by
 have h:=u5 a d;obtain⟨r,b,k,rfl,c,_⟩:=JQ a;unfold ee at h;unfold ic;have e:wT l=me l:=rfl;rw[b,agv,Lf c,agv]at h;rw[e,b,agv,Lf c,agv,te (by grind),agv];exact h
def GJ {l:List Int} {n:Nat} (a:Fit l) (b:Dg l) (c:dv l=n):ic l=some (aU n):=by
 rw[Pz a b,c];rfl
def Dr {s:Int} {l:List Int} (x:Int) (a:Fit l) (b:Dg l) (c:dv l=x.natAbs) (d:x≠0->s=x.sign):fb s l=some (cY x):=by
 have h:=tJ x a b c d;unfold dq at h;rw[u5 a b]at h;unfold fb;rw[Pz a b];exact h
def nS {x:Int} {s:Int} {n:Nat} (a:n=x.natAbs) (b:x≠0->s=x.sign) (c:n≠0->(aU n).length<=17592186044416):fb s (aU n)=some (cY x):=by
 subst a;refine Dr x ?_ (bW _) (bh _) b;unfold Fit
 by_cases h:x.natAbs=0
 ·rw[h,cN];simp
 ·exact c h
def OW {s:Int} {l:List Int} (c:Fit l):∃r,aK (qk ⟨s,l⟩) 0=some r∧(match r with | .inl _=>Dg l | .inr x=>x=false∧¬Dg l):=by
 refine cn (I:=fun i s=>s=(i:Int)∧Dg (l.take i)) l.length _ ⟨rfl,by simpa using Dg.nil⟩ (gM c) ?_;unfold Fit at c;rintro i s h ⟨rfl,d⟩;simp only[qk]
 by_cases a:i<l.length
 ·rw[if_pos (by simpa using a),cu a,agv]
  by_cases f:l[i]<0
  ·right;exact⟨.inr false,by simp_all,rfl,fun b=>by have:=b.get a;omega⟩
  ·by_cases g:l[i]>=1048576
   ·right;exact⟨.inr false,by simp_all,rfl,fun b=>by have:=b.get a;omega⟩
   ·left;refine⟨a,_,by rw[if_neg (by simpa using f),if_neg (by simpa using g)],by rw[fW (by omega)];omega,?_⟩;have e:l.take (i+1)=l.take i++[l[i]]:=by simp_all
    rw[e];exact d.append (Dg.mk (by omega) Dg.nil)
 ·right;have:i=l.length:=by omega
  simp_all
def Rr {b:aG} (h:Fit b.aa):dj b=some (okB b):=by
 obtain⟨s,l⟩:=b;simp only[Fit]at h;obtain⟨r,c,a⟩:=OW (s:=s) (l:=l) h;unfold dj okB;rw[c,agv];cases r with
 | inr x =>
  simp_all
 | inl u =>
  simp only at a ⊢;simp only[a,decide_true,agm]
  by_cases f:l=[]
  ·grind
  ·have j:0<l.length:=agN.2 f;have e:IntKind.i64.wrap ((l.length:Int)-1)=((l.length-1:Nat):Int):=by rw[fW (by omega)];omega
   have g:((l.length:Int)==0)=false:=by simpa using f
   rw[e,cu (by omega),ahm f,List.getLast_eq_getElem,g];simp only[Option.bind_some,afv,if_false]
   by_cases i:s < -1
   ·rw[if_pos (by simpa using i)];have c:(s==1)=false:=by simp;omega
    have a:(s == -1)=false:=by simp;omega
    simp[c,a]
   ·rw[if_neg (by simpa using i)]
    by_cases d:s>1
    ·rw[if_pos (by simpa using d)];have c:(s==1)=false:=by simp;omega
     have a:(s == -1)=false:=by simp;omega
     simp[c,a]
    ·rw[if_neg (by simpa using d)];rcases (show s = -1∨s=0∨s=1 by omega) with rfl|rfl|rfl<;>simp
def fO {x:Int} (h:Ln x<=17592186044416):dj (cY x)=some true:=by
 rw[Rr (show Fit (cY x).aa from h),KQ]
def tl (l:List Int) (i:Nat):iU l (i:Int)=some (gd l i):=by
 unfold iU
 by_cases h:i<l.length
 ·rw[if_pos (by simpa using h),cu h,agv,Nc h]
 ·rw[if_neg (by simpa using h),Cq (by omega)]
def Py {a b l0:List Int} {i n:Nat} (u:Dg a) (v:Dg b) (e:i<a.length) (w:Dg l0) (y:l0.length=n) (N:i+b.length<n) (O:n<=17592186044416) (hz:∀j (f:j<l0.length),i+b.length<=j->l0[j]=0) :
  ∃l,aK (qn a b (i:Int)) (0,0,l0)=some l∧l.length=n∧Dg l∧(∀j (f:j<l.length),i+b.length<j->l[j]=0)∧dv l=dv l0+pw i*(a[i]*dv b):=by
 have z:=u.get e;refine cn (I:=fun k s=>s.2.1=(k:Int)∧s.2.2.length=n∧Dg s.2.2∧(0<=s.1∧s.1<1048576)∧(∀j (f:j<s.2.2.length),i+b.length<=j->i+k<=j->s.2.2[j]=0)∧(k=b.length+1->s.1=0)∧dv s.2.2+pw (i+k)*s.1=dv l0+pw i*(a[i]*dv (b.take k)))
  (b.length+1) _ ⟨rfl,y,w,by simp,fun j f h _=>hz j f h,by omega,by simp[dv]⟩ (gM (by omega)) ?_
 rintro k ⟨c,s,l⟩ P ⟨p,q,m,A,hz,g,B⟩;simp only at p q m A hz g B;subst p;simp only[qn];have C:(if decide ((k:Int)<(b.length:Int))=true then some true else some (decide (c>0)))=some (decide (k<b.length∨c>0)):=by
  grind
 rw[C,agv]
 by_cases o:k<b.length∨c>0
 ·left;have D:k<=b.length:=by
   omega
  have d:i+k<l.length:=by omega
  have E:IntKind.i64.wrap ((i:Int)+(k:Int))=((i+k:Nat):Int):=by rw[fW (by omega)];omega
  have r:=Cp v k;have Q:=m.get d;have F:0<=a[i]*gd b k:=ahf z.1 r.1;have G:a[i]*gd b k<=1048575*1048575:=ahg (by omega) (by omega) r.1 (by omega);rw[if_pos (by simpa using o),E,cu d,agv,cu e,agv,tl,agv,fW (x:=a[i]*gd b k) (by omega),fW (x:=l[i+k]+a[i]*gd b k) (by omega),fW (x:=l[i+k]+a[i]*gd b k+c) (by omega),YV (by omega) (by omega),agv,Wj (by omega) (by omega) (by omega),agv];have H:IntKind.i64.wrap ((k:Int)+1)=((k+1:Nat):Int):=by rw[fW (by omega)];omega
  refine⟨by omega,_,rfl,H,by simpa using q,m.set _ (by omega),by simp only;omega,fun j f J t =>?_,fun K =>?_,?_⟩
  ·grind
  ·have L:k=b.length:=by omega
   simp only;rw[Cq (by omega),ahj,hz _ d (by omega) (aeX _)];omega
  ·simp only[Int.toNat_natCast];rw[uz d,oD];have M:=uT (i+k) (l[i+k]+a[i]*gd b k+c);rw[ag8 (pw (i+k)),ag8 (pw (i+k))]at M;have R:pw i*(a[i]*(dv (b.take k)+pw k*gd b k))=pw i*(a[i]*dv (b.take k))+pw (i+k)*(a[i]*gd b k):=by
    rw[ag8,ag8,Ge];grind
   grind
 grind
def RJ {a b:List Int} (q:Dg a) (r:Dg b) (g:a.length+b.length<=17592186044416):kG a b=some (aU (dv a*dv b).toNat):=by
 have key:∃l,aK (qm a b) (0,List.replicate (a.length+b.length) 0)=some l∧l.length=a.length+b.length∧Dg l∧dv l=dv a*dv b:=by
  refine cn (I:=fun i s=>s.1=(i:Int)∧s.2.length=a.length+b.length∧Dg s.2∧(∀j (f:j<s.2.length),i+b.length<=j->s.2[j]=0)∧dv s.2=dv (a.take i)*dv b)
   a.length _ ⟨rfl,by simp,Dg.rep _,fun j f _=>by simp,by simp[dv,AR]⟩ (gM (by omega)) ?_
  rintro i ⟨s,l⟩ B ⟨d,h,k,o,p⟩;simp only at d h k o p;subst d;simp only[qm]
  by_cases c:i<a.length
  ·left;obtain⟨m,t,u,v,g4,w⟩:=Py (i:=i) (n:=a.length+b.length) q r c k h (by omega) g o;rw[if_pos (by simpa using c),t,agv];have x:IntKind.i64.wrap ((i:Int)+1)=((i+1:Nat):Int):=by rw[fW (by omega)];omega
   refine⟨c,_,rfl,x,u,v,fun j f y=>g4 j f (by omega),?_⟩;rw[w,p,gg c,Int.add_mul,ag9]
  grind
 obtain⟨l,d,C,z,A⟩:=key;unfold kG;have e:IntKind.i64.wrap ((a.length:Int)+(b.length:Int))=((a.length+b.length:Nat):Int):=by rw[fW (by omega)];omega
 rw[e,mk0 g,agv,d,agv,mR,Pz (by unfold Fit;omega) z,A]
def Iq (l:List Int) (i:Nat):dv l=dv (l.take i)+pw i*dv (l.drop i):=by
 by_cases h:i<=l.length
 ·exact jv l h
 ·rw[agj (by omega),agI (by omega)];simp[dv]
def yI (l:List Int) (i:Nat):dv (l.drop i)=gd l i+1048576*dv (l.drop (i+1)):=by
 by_cases h:i<l.length
 ·rw[kn h,Nc h]
 ·rw[agI (by omega),agI (by omega),Cq (by omega)];simp[dv]
def Er {l:List Int} (h:Dg l) (i:Nat):0<=dv (l.take i)∧dv (l.take i)<pw i:=by
 have a:=pJ (h.take i);have b:=sn (show (l.take i).length<=i by grind);exact⟨cT (h.take i),by omega⟩
def Wy {a b:List Int} (c:Dg a) (d:Dg b) {k:Nat} (h:dv (a.drop (k+1))=dv (b.drop (k+1))) (e:gd a k<gd b k):dv a<dv b:=by
 have f:=Iq a k;have g:=Iq b k;rw[yI]at f g;have i:=Er c k;have j:=Er d k;have l:=nX k;have:pw k*(gd a k+1048576*dv (a.drop (k+1))+1)<=pw k*(gd b k+1048576*dv (b.drop (k+1))):=ag7 (by omega) (by omega);grind
def W7 {a b:List Int} (g:Dg a) (j:Dg b) (e:Fit a) (f:Fit b):oZ a b=some (decide (dv a<dv b)):=by
 unfold Fit at e f;generalize o:max a.length b.length=m;have em:(if (b.length:Int)>(a.length:Int) then (b.length:Int) else (a.length:Int))=(m:Int):=by split<;>omega
 have key:∃r,aK (ss a b) ((m:Int)-1)=some r∧(match r with | .inl _=>¬dv a<dv b | .inr x=>x=decide (dv a<dv b)):=by
  refine cn (I:=fun i s=>s=((m-i:Nat):Int)-1∧dv (a.drop (m-i))=dv (b.drop (m-i))) m _ ⟨rfl,?_⟩ (gM (by omega)) ?_
  ·rw[agI (by omega),agI (by omega)]
  rintro i s p ⟨rfl,c⟩;generalize q:m-i=k at *;simp only[ss]
  by_cases t:0<k
  ·have l:((k:Int)-1)=((k-1:Nat):Int):=by omega
   rw[l,if_pos (by simp),tl,agv,tl,agv];rw[show k=k-1+1 by omega]at c
   by_cases d:gd a (k-1)=gd b (k-1)
   ·left;rw[if_neg (by simpa using d)];refine⟨by omega,_,rfl,by rw[fW (by omega)];omega,?_⟩;rw[show m-(i+1)=k-1 by omega,yI,yI b,d,c]
   ·right;rw[if_pos (by simpa using d)];refine⟨.inr (decide (gd a (k-1)<gd b (k-1))),rfl,?_⟩;rcases Int.lt_or_gt_of_ne d with h|h
    ·have:=Wy g j c h;simp[h,this]
    ·have:=Wy j g c.symm h;grind
  simp_all
 obtain⟨r,n,u⟩:=key;unfold oZ;rw[em,fW (x:=(m:Int)-1) (by omega),n,agv];grind
def Q5 {a b:List Int} (o:Dg a) (p:Dg b) (q:Fit a) (h:b.length<=a.length) (r:dv b<=dv a):kF a b=some (aU (dv a-dv b).toNat):=by
 unfold Fit at q;have key:∃l,aK (ql a b) (0,0,[])=some l∧l.length=a.length∧Dg l∧dv l=dv a-dv b:=by
  refine cn (I:=fun i s=>s.2.1=(i:Int)∧s.2.2.length=i∧Dg s.2.2∧(0<=s.1∧s.1<=1)∧dv s.2.2+dv (b.take i)=dv (a.take i)+pw i*s.1)
   a.length _ ⟨rfl,rfl,Dg.nil,by simp,by simp[dv]⟩ (gM (by omega)) ?_
  rintro i ⟨c,s,l⟩ y ⟨f,e,g,t,k⟩;simp only at f e g t k;subst f;simp only[ql]
  by_cases d:i<a.length
  ·left;have z:=o.get d;have A:=Cp p i;rw[if_pos (by simpa using d),cu d,agv,tl,agv,fW (x:=a[i]-gd b i) (by omega),fW (x:=a[i]-gd b i-c) (by omega)];have m:IntKind.i64.wrap ((i:Int)+1)=((i+1:Nat):Int):=by rw[fW (by omega)];omega
   by_cases n:a[i]-gd b i-c<0
   ·rw[if_pos (by simpa using n),fW (by omega),te (by simp;omega),agv];refine⟨d,_,rfl,m,by simp[e],g.append (Dg.mk (by omega) Dg.nil),by simp,?_⟩;simp only;rw[fM,oD,gg d,e,Tt];simp only[dv,ahj,ahk,Int.mul_one];grind
   ·rw[if_neg (by simpa using n),te (by simp;omega),agv];refine⟨d,_,rfl,m,by simp[e],g.append (Dg.mk (by omega) Dg.nil),by simp,?_⟩;simp only;rw[fM,oD,gg d,e];simp only[dv,ahj,ahk];grind
  ·right;have j:i=a.length:=by omega
   subst j;refine⟨l,by simp_all,e,g,?_⟩;rw[wB h,agY]at k;have f:=pJ g;rw[e]at f;have u:c=0:=by
    grind
   grind
 obtain⟨l,f,B,v,w⟩:=key;unfold kF;rw[f,agv,mR,Pz (by unfold Fit;omega) v,w]
def acJ {a b:List Int} (n:Dg a) (o:Dg b) (p:a.length<17592186044410) (q:b.length<17592186044410):pb a b=some (aU (dv a+dv b).toNat):=by
 generalize A:max a.length b.length=m;have key:∃l,aK (sw a b) (0,0,[])=some l∧l.length<=m+1∧Dg l∧dv l=dv a+dv b:=by
  refine cn (I:=fun i s=>s.2.1=(i:Int)∧s.2.2.length=i∧Dg s.2.2∧(0<=s.1∧s.1<=1)∧(i=m+1->s.1=0)∧dv s.2.2+pw i*s.1=dv (a.take i)+dv (b.take i))
   (m+1) _ ⟨rfl,rfl,Dg.nil,by simp,by omega,by simp[dv]⟩ (gM (by omega)) ?_
  rintro i ⟨c,s,l⟩ B ⟨e,f,g,r,d,k⟩;simp only at e f g r d k;subst e;simp only[sw];have t:(if decide ((i:Int)<(a.length:Int))=true then some true else if decide ((i:Int)<(b.length:Int))=true then some true else some (decide (c>0)))=some (decide (i<m∨c>0)):=by
   grind
  rw[t,agv]
  by_cases h:i<m∨c>0
  ·left;have u:i<=m:=by
    omega
   have C:=Cp n i;have D:=Cp o i;rw[if_pos (by simpa using h),tl,agv,tl,agv,fW (x:=gd a i+gd b i) (by omega),fW (x:=gd a i+gd b i+c) (by omega),YV (by omega) (by omega),agv,te (by simp;omega),agv,Wj (by omega) (by omega) (by omega),agv];have v:IntKind.i64.wrap ((i:Int)+1)=((i+1:Nat):Int):=by rw[fW (by omega)];omega
   refine⟨by omega,_,rfl,v,by simp[f],g.append (Dg.mk (by omega) Dg.nil),by simp only;omega,fun w =>?_,?_⟩
   ·have:i=m:=by omega
    simp only;rw[Cq (by omega),Cq (l:=b) (by omega)];omega
   ·simp only;rw[fM,oD,oD,f];simp only[dv,ahj,ahk];have E:=uT i (gd a i+gd b i+c);grind
  ·right;refine⟨l,by grind,by omega,g,?_⟩;have j:c=0:=by omega
   subst j;rw[wB (by omega),wB (by omega),ahj]at k;omega
 obtain⟨l,e,F,y,z⟩:=key;unfold pb;rw[e,agv,mR,Pz (by unfold Fit;omega) y,z]
def OJ {n R:Nat} (l:n≠0) (f:(aU n).length<=17592186043904) (g:(aU R).length<=17592186043906) (h:R<1048576*n):aK (o0 (aU n) (aU R)) (0,1048576)=some ((R / n:Nat):Int):=by
 have key:∃r,aK (o0 (aU n) (aU R)) (0,1048576)=some r∧r=((R / n:Nat):Int):=by
  refine tz (I:=fun (s:Int×Int)=>∃a b:Nat,s=((a:Int),(b:Int))∧a<b∧b<=1048576∧a*n<=R∧R<b*n) (μ:=fun (s:Int×Int)=>(s.2-s.1).toNat) _ ⟨0,1048576,rfl,by omega,by omega,by omega,h⟩ (by simp only;unfold FU;omega) ?_;rintro _ ⟨a,b,rfl,m,o,d,e⟩;simp only[o0];rw[fW (x:=(b:Int)-a) (by omega)]
  by_cases c:(b:Int)-a>1
  ·left;have em:((a:Int)+b) / 2=(((a+b) / 2:Nat):Int):=by omega
   have i:Dg [(((a+b) / 2:Nat):Int)]:=Dg.mk (by omega) Dg.nil;have j:dv (aU n)*dv [(((a+b) / 2:Nat):Int)]=((n*((a+b) / 2):Nat):Int):=by rw[bh,afV];simp[dv]
   rw[if_pos (by simpa using c),fW (x:=(a:Int)+b) (by omega),Wj (by omega) (by omega) (by omega),agv,em,RJ (bW n) i (by simp;omega),agv,j,afW];have k:(aU (n*((a+b) / 2))).length<=17592186043905:=by
    have:((n*((a+b) / 2):Nat):Int)<pw ((aU n).length+1):=by
     rw[iL,afV];have p:=fT n;have:(n:Int)*((a+b) / 2:Nat)<=n*1048576:=ag7 (by omega) (by omega);omega
    have:=gZ this;omega
   rw[W7 (bW R) (bW _) (by unfold Fit;omega) (by unfold Fit;omega),agv,bh,bh]
   by_cases q:R<n*((a+b) / 2)
   ·rw[if_pos (decide_eq_true (by omega))];refine⟨_,rfl,⟨a,(a+b) / 2,rfl,by omega,by omega,d,by grind⟩,by simp only;omega⟩
   ·rw[if_neg (by grind)];refine⟨_,rfl,⟨(a+b) / 2,b,rfl,by omega,by omega,by grind,e⟩,by simp only;omega⟩
  ·right;refine⟨_,by rw[if_neg (by simpa using c)],?_⟩;have:b=a+1:=by omega
   subst this;congr 1;have:R / n=a:=by
    apply Nat.div_eq_of_lt_le
    ·exact d
    ·exact e
   exact this.symm
 simp_all
def aap {m n:Nat} (G:n≠0) (H:(aU m).length<=17592186043904) (h:(aU n).length<=17592186043904):rC (aU m) (aU n)=some (aU (m / n),aU (m % n)):=by
 generalize A:aU m=a at *;have j:Dg a:=by rw[<- A];exact bW m
 have key:∃r,aK (su a (aU n)) ([],(a.length:Int)-1,List.replicate a.length 0)=some r∧r.2.length=a.length∧Dg r.2∧∃R:Nat,r.1=aU R∧R<n∧dv a=n*dv r.2+R:=by
  refine cn (I:=fun i s=>s.2.1=((a.length-i:Nat):Int)-1∧s.2.2.length=a.length∧Dg s.2.2∧∃R:Nat,s.1=aU R∧R<n∧dv (a.drop (a.length-i))=n*dv (s.2.2.drop (a.length-i))+R)
   a.length _ ⟨rfl,by simp,Dg.rep _,0,cN.symm,by omega,by simp[dv]⟩ (gM (by omega)) ?_
  rintro i ⟨r,s,l⟩ T ⟨f,o,p,R,g,J,q⟩;simp only at f o p g q;subst f g;generalize U:a.length-i=k at *;simp only[su]
  by_cases V:0<k
  ·left;have b:k-1<a.length:=by omega
   have d:k-1<l.length:=by omega
   have K:((k:Int)-1)=((k-1:Nat):Int):=by omega
   have L:=j.get b;have M:=cj (show R<=n by omega);have t:Dg ([a[k-1]]++aU R):=(Dg.mk L Dg.nil).append (bW R);obtain⟨X,W⟩:∃X:Nat,a[k-1]+1048576*(R:Int)=X:=⟨(a[k-1]+1048576*(R:Int)).toNat,by omega⟩;have u:X<1048576*n:=by omega
   have v:(aU X).length<=17592186043906:=by
    have:(X:Int)<pw ((aU n).length+1):=by
     rw[iL];have Y:=fT n;omega
    have:=gZ this;omega
   rw[K,if_pos (by simp),cu b,agv,te (by simp;omega),agv,GJ (n:=X) (by grind) t (by rw[fM,bh];simp only[dv,List.length_cons,List.length_nil];rw[show pw (0+1)=1048576 by decide];omega),agv,OJ G h v u,agv,cu d,agv];have Z:X / n<1048576:=agM (by omega);have N:(0:Int)<=((X / n:Nat):Int):=Int.natCast_nonneg _;rw[GJ (n:=X / n) (by simp[Fit]) (Dg.mk (by omega) Dg.nil) (by simp[dv]),agv];have O:(aU (X / n)).length<=1:=gZ (by rw[iL,oG];omega);have c:(dv (aU n)*dv (aU (X / n))).toNat=n*(X / n):=by rw[bh,bh,<- afV];rfl
   rw[RJ (bW _) (bW _) (by omega),agv,c];have w:n*(X / n)<=X:=Nat.mul_div_le X n;rw[Q5 (bW _) (bW _) (by unfold Fit;omega) (cj w) (by rw[bh,bh];omega),agv,bh,bh];have e:((X:Int)-(n*(X / n):Nat)).toNat=X % n:=by
    have:=ag3 X n;omega
   rw[e];have B:IntKind.i64.wrap (((k-1:Nat):Int)-1)=((k-1:Nat):Int)-1:=fW (by omega);refine⟨by omega,_,rfl,by grind,by simpa using o,p.set _ (by omega),X % n,rfl,afO _ (by omega),?_⟩;simp only[Int.toNat_natCast];rw[show a.length-(i+1)=k-1 by omega,kn b,kn (l:=l.set (k-1) _) (i:=k-1) (by simpa using d),show k-1+1=k by omega,List.getElem_set_self,List.drop_set_of_lt (by omega),q,ag8,ag8];grind
  ·right;have:k=0:=by omega
   subst this;refine⟨(aU R,l),by simp_all,o,p,R,rfl,J,?_⟩;simpa using q
 obtain⟨⟨r,l⟩,f,g,y,R,C,D,z⟩:=key;simp only at g y C z;unfold rC;rw[mk0 (by omega),agv,fW (x:=(a.length:Int)-1) (by omega),f,agv];simp only;rw[<- A,bh]at z;have P:=cT y;obtain⟨Q,E⟩:∃Q:Nat,dv l=Q:=⟨(dv l).toNat,by omega⟩;rw[E]at z;have F:m=n*Q+R:=by
  omega
 have B:m / n=Q:=by rw[F,Nat.mul_add_div (by omega),ahi D,afw]
 have S:m % n=R:=by rw[F,Nat.mul_add_mod,afR D]
 rw[GJ (n:=Q) (by unfold Fit;omega) y E,agv,C,B,S]
def Um {a b:Nat} (g:(aU a).length<=jt) (i:(aU b).length<=jt):aK rB (aU a,aU b)=some (aU (Nat.gcd a b)):=by
 have p:jt=17592186043904:=rfl;have key:∃r,aK rB (aU a,aU b)=some r∧r=aU (Nat.gcd a b):=by
  have q:=S8 (fT a);have t:=S8 (fT b)
  let c:List Int->Nat:=fun l=>(dv l).toNat
  have d:∀n,c (aU n)=n:=fun n=>by show (dv (aU n)).toNat=n;rw[bh];rfl
  refine tz (I:=fun (s:List Int×List Int)=>∃x y,s=(aU x,aU y)∧Nat.gcd x y=Nat.gcd a b∧(aU x).length<=jt∧(aU y).length<=jt)
   (μ:=fun (s:List Int×List Int)=>lg (c s.1)+lg (c s.2)+(if c s.1<c s.2 then 1 else 0)) _ ⟨a,b,rfl,rfl,g,i⟩ (by simp only[d];unfold FU;split<;>omega) ?_
  rintro _ ⟨x,y,rfl,j,u,k⟩;simp only[rB]
  by_cases h0:y=0
  ·right;subst h0;refine⟨_,by rw[cN,if_neg (by simp)],?_⟩;simp_all
  ·left;have f:0<(aU y).length:=agN.2 (fun h=>h0 (tn.1 h));rw[if_pos (by simpa using f),aap h0 (by omega) (by omega),agv];have m:=afO x (aho h0);refine⟨_,rfl,⟨y,x % y,rfl,?_,k,?_⟩,?_⟩
   ·rw[<- j,Nat.gcd_comm y,<- Nat.gcd_rec,Nat.gcd_comm]
   ·have:=cj (Nat.mod_le x y);omega
   ·simp only[d];rw[if_neg (by omega)]
    by_cases e:x<y
    ·rw[if_pos e,afR e];omega
    ·rw[if_neg e];have:lg (x % y)<lg x:=by
      apply aah;have v:=ag3 x y;have o:1<=x / y:=(Nat.one_le_div_iff (by omega)).2 (by omega);have w:y*1<=y*(x / y):=Nat.mul_le_mul_left _ o;omega
     omega
 simp_all
def abS {x y:Int} (d:Ln x<=jt) (e:Ln y<=jt):so (cY x) (cY y)=some (cY (Int.gcd x y),0):=by
 have f:jt=17592186043904:=rfl;unfold so;rw[fO (by omega),agv];simp only[agl,afv,if_false];rw[fO (by omega),agv,agv];simp only[agl,afv,if_false];have a:(cY x).aa=aU x.natAbs:=rfl;have b:(cY y).aa=aU y.natAbs:=rfl;rw[a,b];have g:(aU x.natAbs).length<=17592186043904:=by show Ln x<=_;omega
 have i:(aU y.natAbs).length<=17592186043904:=by show Ln y<=_;omega
 have j:(aU (Nat.gcd x.natAbs y.natAbs)).length<=17592186043904:=by
  by_cases h:y.natAbs=0
  ·simp_all
  ·have:=cj (ahp x.natAbs (aho h));omega
 have c:Nat.gcd x.natAbs y.natAbs=((Int.gcd x y:Nat):Int).natAbs:=rfl;rw[Um (by omega) (by omega),agv,nS (x:=(Int.gcd x y:Int)) c ?_ (fun _=>by omega),agv];grind
def abR {x y:Int} (o:Ln x<=cP) (p:Ln y<=cP) (g:0<y) (j:y∣x):qh (cY x) (cY y)=some (cY (x / y),cY 0,0):=by
 have q:cP=4398046511104:=rfl;unfold qh;rw[fO (by omega),agv];simp only[agl,afv,if_false];rw[fO (by omega),agv,agv];simp only[agl,afv,if_false];have a:(cY x).aa=aU x.natAbs:=rfl;have b:(cY y).aa=aU y.natAbs:=rfl;have c:(cY x).ak=x.sign:=rfl;have d:(cY y).ak=1:=ahn g;rw[a,b,c,d];have r:(aU x.natAbs).length<=4398046511104:=by show Ln x<=_;omega
 have s:(aU y.natAbs).length<=4398046511104:=by show Ln y<=_;omega
 have k:=cj (Nat.div_le_self x.natAbs y.natAbs);obtain⟨z,rfl⟩:=j;have e:y*z / y=z:=Int.mul_ediv_cancel_left _ (by omega);have l:(y*z).natAbs=y.natAbs*z.natAbs:=ahl _ _;have i:(y*z).natAbs / y.natAbs=z.natAbs:=by rw[l,Nat.mul_div_cancel_left _ (by omega)]
 have m:(y*z).natAbs % y.natAbs=0:=by simp_all
 have f:(y*z).sign=z.sign:=by rw[Int.sign_mul,ahn g,Int.one_mul]
 rw[if_neg (by decide),aap (by omega) (by omega) (by omega),agv,Int.mul_one,f,fW (x:=z.sign) (by grind),e,i,m,cN];rw[i]at k;have n:(if decide (z.sign>=0)=true then some true else some ((([]:List Int).length:Int)==0))=some true:=by split<;>rfl
 simp only[n,Option.bind_some,if_true];rw[nS (x:=z) rfl (fun _=>rfl) (fun _=>by omega),agv];have:fb z.sign []=some (cY 0):=Dr 0 (by simp[Fit]) Dg.nil rfl (fun h=>absurd rfl h);simp_all
def aaB {x:Int} (h:Ln x<=cP):sr (cY x)=some (cY (-x)):=by
 unfold sr;have b:cP=4398046511104:=rfl;rw[fO (by omega),agv];simp only[agl,afv,if_false];have a:Fit (cY x).aa:=by unfold Fit;show Ln x<=_;omega
 rw[Dr (-x) a (bW _) (by show dv (aU _)=_;rw[bh,Int.natAbs_neg]),agv];intro c;show IntKind.i64.wrap (0-x.sign)=_;rw[fW (by grind),Int.sign_neg,Int.zero_sub]
def Xm {x:Int} (r : -9223372036854775808<=x∧x<9223372036854775808):∃l,aK xH (x,[])=some l∧Dg l∧dv l=x.natAbs∧l.length<=5:=by
 refine tz (I:=fun (s:Int×List Int)=>Dg s.2∧dv s.2+pw s.2.length*s.1.natAbs=x.natAbs∧s.2.length<=5∧(s.1=0∨s.2.length<5)) (μ:=fun (s:Int×List Int)=>s.1.natAbs) _ ⟨Dg.nil,by simp[dv,oG],by simp,by simp⟩ (by simp only;unfold FU;omega) ?_;rintro⟨u,l⟩ ⟨b,c,f,g⟩;simp only at b c f g;have t:=nX l.length;have i:=cT b;have v:(u.natAbs:Int)<=x.natAbs:=by
  have:1*(u.natAbs:Int)<=pw l.length*u.natAbs:=ahh (by omega) (by omega);omega
 simp only[xH]
 by_cases j:u≠0
 ·left;have k:l.length<4:=by
   rcases afE l.length 4 with h|h
   ·exact h
   ·have m:l.length=4:=by omega
    rw[m,pw4]at c;omega
  have n:Fu .i64 u 1048576=some (u.tmod 1048576):=by unfold Fu;simp_all
  have e:AO .i64 u 1048576=some (u.tdiv 1048576):=by
   unfold AO;have:(u.tdiv 1048576).natAbs=u.natAbs / 1048576:=Int.natAbs_tdiv u 1048576;rw[if_neg (by decide),fW (by omega)]
  have w:(u.tmod 1048576).natAbs=u.natAbs % 1048576:=Int.natAbs_tmod u 1048576;have o:(u.tdiv 1048576).natAbs=u.natAbs / 1048576:=Int.natAbs_tdiv u 1048576;have p:=uT l.length (u.natAbs:Int);rw[if_pos (by simpa using j),n,agv];have q:∀d:Int,d=((u.natAbs % 1048576:Nat):Int)->(Dg (l++[d])∧dv (l++[d])+pw (l++[d]).length*((u.tdiv 1048576).natAbs:Int)=x.natAbs∧(l++[d]).length<=5∧(u.tdiv 1048576=0∨(l++[d]).length<5))∧(u.tdiv 1048576).natAbs<u.natAbs:=by
   rintro d rfl;refine⟨⟨b.append (Dg.mk (by omega) Dg.nil),?_,by simp;omega,by right;simp;omega⟩,by omega⟩;rw[o];simp only[fM,dv,af6,List.length_cons,List.length_nil,ahj,ahk,afH];grind
  by_cases a:u.tmod 1048576<0
  ·rw[if_pos (by simpa using a),fW (x:=0-u.tmod 1048576) (by omega),te (by simp;omega),agv,e,agv];grind
  ·rw[if_neg (by simpa using a),te (by simp;omega),agv,e,agv];grind
 simp_all
def Of4 {x:Int} (h : -9223372036854775808<=x∧x<9223372036854775808):wR x=some (cY x):=by
 unfold wR
 by_cases a:x=0
 ·subst a;rw[Fs];rfl
 ·have b:(if decide (x<0)=true then some (-1:Int) else some 1)=some x.sign:=by
   grind
  obtain⟨l,c,d,e,f⟩:=Xm h;rw[if_neg (by simpa using a),b,agv,c,agv,mR,Dr x (by unfold Fit;omega) d e (fun _=>rfl)]
instance:DecidableEq aG:=fun a b=>decidable_of_iff (a.ak=b.ak∧a.aa=b.aa) (by cases a;cases b;simp)
instance:DecidableEq aw:=fun a b=>decidable_of_iff (a.bR=b.bR∧a.bN=b.bN) (by cases a;cases b;simp)
def UT {b c:aG} (d:Fit b.aa) (g:b.aa.length=c.aa.length):∃r,aK (mV b c) 0=some r∧(match r with | .inl _=>b.aa=c.aa | .inr x=>x=false∧b.aa≠c.aa):=by
 refine cn (I:=fun i s=>s=(i:Int)∧b.aa.take i=c.aa.take i) b.aa.length _ ⟨rfl,by simp⟩ (gM d) ?_;unfold Fit at d;rintro i s h ⟨rfl,f⟩;simp only[mV]
 by_cases a:i<b.aa.length
 ·rw[if_pos (by simpa using a),cu a,agv,cu (by omega),agv]
  by_cases e:b.aa[i]=c.aa[i]
  ·left;rw[if_neg (by simpa using e)];refine⟨a,_,rfl,by rw[fW (by omega)];omega,?_⟩;rw[List.take_add_one,List.take_add_one,f];grind
  ·right;rw[if_pos (by simpa using e)];grind
 ·right;have:i=b.aa.length:=by omega
  subst this;grind
def Lc {b c:aG} (d:Fit b.aa):kd b c=some (decide (b=c)):=by
 have a:b=c↔b.ak=c.ak∧b.aa=c.aa:=by cases b;cases c;simp
 unfold kd
 by_cases e:b.ak=c.ak
 ·rw[if_neg (by simpa using e),agv]
  by_cases f:b.aa.length=c.aa.length
  ·rw[if_neg (by simp;omega)];obtain⟨r,g,h⟩:=UT d f;grind
  grind
 simp_all
def acM {b c:aG} (a:Fit b.aa):wS b c=some (decide (b=c)):=Lc a
def aas {f g:aw} (b:Fit f.bR.aa) (c:Fit f.bN.aa):jz f g=some (decide (f=g)):=by
 have a:f=g↔f.bR=g.bR∧f.bN=g.bN:=by cases f;cases g;simp
 unfold jz;rw[Lc b,agv]
 by_cases h:f.bR=g.bR
 ·rw[if_pos (by simpa using h),Lc c,agv];simp[a,h]
 simp_all
def LQ {x y:Int} (e:Ln x<=jt) (f:Ln y<=jt):kb (cY x) (cY y)=some (kX x y):=by
 have g:jt=17592186043904:=rfl;unfold kb;rw[fO (by omega),agv];simp only[agl,afv,if_false];rw[fO (by omega),agv];simp only[agl,afv,if_false];have i:(aU x.natAbs).length<=17592186043904:=by show Ln x<=_;omega
 have j:(aU y.natAbs).length<=17592186043904:=by show Ln y<=_;omega
 rw[acM (by unfold Fit;show Ln x<=_;omega),agv,agv];have a:(cY x).aa=aU x.natAbs:=rfl;have b:(cY y).aa=aU y.natAbs:=rfl;have c:(cY x).ak=x.sign:=rfl;have d:(cY y).ak=y.sign:=rfl
 by_cases he:x=y
 ·subst he;rw[if_pos (by simp)];simp[kX]
 ·rw[if_neg (by simp only[decide_eq_true_eq];exact fun h=>he (KM h)),a,b,c,d]
  by_cases h:x.sign=y.sign
  ·rw[if_neg (by simpa using h),W7 (bW _) (bW _) (by unfold Fit;omega) (by unfold Fit;omega),agv,bh,bh];have k:kX x y=if x<y then -1 else 1:=by
    unfold kX;omega
   grind
  ·rw[if_pos (by simpa using h)];unfold kX;grind
def P5 {f:aw} (a:Vv f):dX f=some (okF f):=by
 have k:jt=17592186043904:=rfl;obtain⟨p,q⟩:=f;simp only[Vv]at a;unfold dX okF;rw[Rr (show Fit p.aa by unfold Fit;omega),agv]
 by_cases d:okB p=true
 ·simp only[d,agl,afv,if_false,agm];rw[Rr (show Fit q.aa by unfold Fit;omega),agv]
  by_cases e:okB q=true
  ·simp only[e,agl,afv,if_false,agm,Option.bind_some];obtain⟨x,rfl⟩:=uL.1 d;obtain⟨y,rfl⟩:=uL.1 e;have b:(cY y).ak=y.sign:=rfl
   by_cases g:y.sign=1
   ·rw[if_neg (by simp_all),abS a.1 a.2,agv,Of4 (by decide),agv];have h:(dv (cY x).aa).toNat=x.natAbs:=by show (dv (aU _)).toNat=_;rw[bh];rfl
    have i:(dv (cY y).aa).toNat=y.natAbs:=by show (dv (aU _)).toNat=_;rw[bh];rfl
    have j:0<y.natAbs:=by grind
    have c:Ln (Int.gcd x y:Int)<=jt:=by
     have:=cj (ahp x.natAbs j);have l:(aU y.natAbs).length<=jt:=a.2;show (aU (Nat.gcd x.natAbs y.natAbs)).length<=_;omega
    simp only;rw[LQ c (aeZ (DL (by decide)) (by decide)),agv,h,i,b,g];have m:Nat.gcd x.natAbs y.natAbs=Int.gcd x y:=rfl;congr 1;unfold kX;grind
   grind
  simp_all
 simp_all
def Yn {p q:Int} (f:Ln p<=cP) (e:Ln q<=cP) (i:q≠0):qo (cY p) (cY q)=some (cR (Rat.divInt p q),0):=by
 have n:cP=4398046511104:=rfl;have d:∀ {p q:Int},Ln p<=cP->Ln q<=cP->0<q ->
   ((so (cY p) (cY q)).bind fun j=>(qh (cY p) j.1).bind fun k=>(qh (cY q) j.1).bind fun l=>some ((aw.mk k.1 l.1),(0:Int)))=some (cR (Rat.divInt p q),0):=by
  intro p q f e i;have o:0<Int.gcd p q:=Int.gcd_pos_of_ne_zero_right _ (by omega);have g:Ln (Int.gcd p q:Int)<=cP:=by
   have:=cj (ahp p.natAbs (show 0<q.natAbs by omega));show (aU (Nat.gcd p.natAbs q.natAbs)).length<=_;have r:(aU q.natAbs).length<=cP:=e;omega
  rw[abS (td f) (td e),agv];simp only;rw[abR f g (by omega) (Int.gcd_dvd_left ..),agv,abR e g (by omega) (Int.gcd_dvd_right ..),agv];have m:((q.natAbs / Int.gcd p q:Nat):Int)=q / (Int.gcd p q:Int):=by
   grind
  unfold cR;rw[Rat.num_divInt,Rat.den_divInt,if_neg (by omega),ahn i,Int.one_mul,Int.gcd_comm q p,m]
 unfold qo;rw[fO (by omega),agv];simp only[agl,afv,if_false];rw[fO (by omega),agv,agv];simp only[agl,afv,if_false];have h:(cY q).ak=q.sign:=rfl;rw[h];rcases tI q with⟨a,b,c⟩|⟨a,b,c⟩|⟨a,b⟩
 ·rw[if_neg (by rw[a];decide),if_neg (by rw[a];decide),agv];exact d f e c
 ·rw[if_neg (by rw[a];decide),if_pos (by rw[a];decide),aaB f,agv,aaB e,agv,agv];have:=d (p := -p) (q := -q) (by rw[yD];exact f) (by rw[yD];exact e) (by omega);rw[Rat.neg_divInt_neg]at this;exact this
 omega
def J3 {x:Int} (h : -9223372036854775808<=x∧x<9223372036854775808):Ln x<=cP:=by
 have:Ln x<=4:=LU (by rw[pw4];omega);have a:cP=4398046511104:=rfl;omega
def Of5 {p q:Int} (a : -9223372036854775808<=p∧p<9223372036854775808) (b : -9223372036854775808<=q∧q<9223372036854775808) (c:q≠0):uW p q=some (cR (Rat.divInt p q),0):=by
 unfold uW;rw[Of4 a,agv,Of4 b,agv,Yn (J3 a) (J3 b) c,agv]
def Yl {n:Int} (h : -9223372036854775808<=n∧n<9223372036854775808):jP n=some (cR n):=by
 unfold jP;rw[Of5 h (by decide) (by decide),agv];simp only;congr 2;have:=Rat.num_divInt_den (n:Rat);simp_all
def aaU (f:aw) (n:Int):uV f n=some (decide ((f.bR.aa.length:Int)<=n∧(f.bN.aa.length:Int)<=n)):=by
 unfold uV;grind
def G0 {x y:Int} (j:Ln x<=cP) (k:Ln y<=cP):ew (cY x) (cY y)=some (cY (x*y),0):=by
 have l:cP=4398046511104:=rfl;have e:=fX x y;unfold ew;rw[fO (by omega),agv];simp only[agl,afv,if_false];rw[fO (by omega),agv,agv];simp only[agl,afv,if_false];have a:(cY x).aa=aU x.natAbs:=rfl;have b:(cY y).aa=aU y.natAbs:=rfl;have c:(cY x).ak=x.sign:=rfl;have d:(cY y).ak=y.sign:=rfl;rw[a,b,c,d];have m:(aU x.natAbs).length<=4398046511104:=by show Ln x<=_;omega
 have n:(aU y.natAbs).length<=4398046511104:=by show Ln y<=_;omega
 have f:IntKind.i64.wrap (x.sign*y.sign)=(x*y).sign:=by
  rw[Int.sign_mul];apply fW;rcases Ax x with h|h|h<;>rcases Ax y with g|g|g<;>rw[h,g]<;>decide
 rw[f,RJ (bW _) (bW _) (by omega),agv,bh,bh];have i:((x.natAbs:Int)*y.natAbs).toNat=(x*y).natAbs:=by rw[ahl,<- afV];rfl
 rw[i,nS (x:=x*y) rfl (fun _=>rfl) (fun _=>by show Ln (x*y)<=_;omega),agv]
def abP {x y:Int} (v:Ln x<=cP) (w:Ln y<=cP):uU (cY x) (cY y)=some (cY (x+y),0):=by
 have z:cP=4398046511104:=rfl;have r:=AJ x y;unfold uU;rw[fO (by omega),agv];simp only[agl,afv,if_false];rw[fO (by omega),agv,agv];simp only[agl,afv,if_false];have k:(cY x).aa=aU x.natAbs:=rfl;have l:(cY y).aa=aU y.natAbs:=rfl;have m:(cY x).ak=x.sign:=rfl;have n:(cY y).ak=y.sign:=rfl;rw[k,l,m,n];have A:(aU x.natAbs).length<=4398046511104:=by show Ln x<=_;omega
 have B:(aU y.natAbs).length<=4398046511104:=by show Ln y<=_;omega
 have o:=tI x;have p:=tI y;have s:(if (x.sign==0)=true then some true else if (y.sign==0)=true then some true else some (x.sign==y.sign))=some (decide (x.sign*y.sign>=0)):=by
  rcases Ax x with h|h|h<;>rcases Ax y with g|g|g<;>rw[h,g]<;>decide
 rw[s,agv]
 by_cases f:x.sign*y.sign>=0
 ·rw[if_pos (by simpa using f),acJ (bW _) (bW _) (by omega) (by omega),agv,bh,bh];have t:((x.natAbs:Int)+y.natAbs).toNat=(x+y).natAbs:=by
   rcases o with⟨a,b,c⟩|⟨a,b,c⟩|⟨a,b⟩<;>rcases p with⟨d,e,i⟩|⟨d,e,i⟩|⟨d,e⟩<;>first|omega|(rw[a,d]at f;exact absurd f (by decide))
  rw[t,nS (x:=x+y) rfl ?_ (fun _=>by show Ln (x+y)<=_;omega),agv];intro q;rcases o with⟨a,b,c⟩|⟨a,b,c⟩|⟨a,b⟩<;>rcases p with⟨d,e,i⟩|⟨d,e,i⟩|⟨d,e⟩<;>(try (rw[a,d]at f;exact absurd f (by decide)))<;>rw[a,d]
  ·rw[ahn (by omega)];decide
  ·rw[ahn (by omega)];decide
  ·rw[ahr (by omega)];decide
  ·rw[ahr (by omega)];decide
  ·rw[ahn (by omega)];decide
  ·rw[ahr (by omega)];decide
  ·omega
 ·rw[if_neg (by simpa using f),W7 (bW _) (bW _) (by unfold Fit;omega) (by unfold Fit;omega),agv,bh,bh];have j:x.sign=1∧y.sign = -1∧0<x∧y<0∨x.sign = -1∧y.sign=1∧x<0∧0<y:=by
   rcases o with⟨a,b,c⟩|⟨a,b,c⟩|⟨a,b⟩<;>rcases p with⟨d,e,i⟩|⟨d,e,i⟩|⟨d,e⟩<;>first|exact .inl ⟨a,d,c,i⟩|exact .inr ⟨a,d,c,i⟩|(rw[a,d]at f;exact absurd (by decide) f)
  by_cases u:x.natAbs<y.natAbs
  ·rw[if_pos (decide_eq_true (by omega)),Q5 (bW _) (bW _) (by unfold Fit;omega) (cj (by omega)) (by rw[bh,bh];omega),agv,bh,bh];rw[nS (x:=x+y) (by omega) ?_ (fun _=>by rw[show ((y.natAbs:Int)-x.natAbs).toNat=(x+y).natAbs by omega];show Ln (x+y)<=_;omega),agv];intro q;rcases j with⟨a,d,b,e⟩|⟨a,d,b,e⟩
   ·rw[d,ahr (by omega)]
   ·rw[d,ahn (by omega)]
  ·rw[if_neg (by rw[decide_eq_true_eq];omega),Q5 (bW _) (bW _) (by unfold Fit;omega) (cj (by omega)) (by rw[bh,bh];omega),agv,bh,bh];rw[nS (x:=x+y) (by omega) ?_ (fun _=>by rw[show ((x.natAbs:Int)-y.natAbs).toNat=(x+y).natAbs by omega];show Ln (x+y)<=_;omega),agv];intro q;rcases j with⟨a,d,b,e⟩|⟨a,d,b,e⟩
   ·rw[a,ahn (by omega)]
   ·rw[a,ahr (by omega)]
def ad4 {x y:Int} (b:Ln x<=cP) (a:Ln y<=cP):xI (cY x) (cY y)=some (cY (x-y),0):=by
 have c:cP=4398046511104:=rfl;unfold xI;rw[fO (by omega),agv];simp only[agl,afv,if_false];rw[aaB a,agv,abP b (by rw[yD];exact a),agv,Int.sub_eq_add_neg]
def km {q:Rat} (h:LF q<=cP):dX (cR q)=some true:=by rw[P5 (R7 h),FG]
def LX {a:Rat} (h:LF a<=cP):jA (cR a)=some a.num.sign:=by
 unfold jA;rw[km h,agv];rfl
def LR {a b:Rat} (h:LF a+LF b<=cP):kc (cR a) (cR b)=some (J9 a b):=by
 have c:cP=4398046511104:=rfl;have d:jt=17592186043904:=rfl;have e:=jj a;have f:=jj b;have d1:=jL a;have d2:=jL b;have g:=fX a.num b.den;have i:=fX b.num a.den;unfold kc;rw[km (by omega),agv];simp only[agl,afv,if_false];rw[km (by omega),agv,agv];simp only[agl,afv,if_false];show (ew (cY a.num) (cY b.den)).bind _=_;rw[G0 (by omega) (by omega),agv];show (ew (cY b.num) (cY a.den)).bind _=_;rw[G0 (by omega) (by omega),agv,LQ (by omega) (by omega),agv,SF]
def adZ {a b:Rat} (h:LF a+LF b+1<=cP):xJ (cR a) (cR b)=some (cR (a+b),0):=by
 have d:=jj a;have e:=jj b;have d1:=jL a;have d2:=jL b;have f:=fX a.num b.den;have g:=fX b.num a.den;have i:=fX a.den b.den;have j:=AJ (a.num*b.den) (b.num*a.den);unfold xJ;rw[km (by omega),agv];simp only[agl,afv,if_false];rw[km (by omega),agv,agv];simp only[agl,afv,if_false];show (ew (cY a.num) (cY b.den)).bind _=_;rw[G0 (by omega) (by omega),agv];show (ew (cY b.num) (cY a.den)).bind _=_;rw[G0 (by omega) (by omega),agv];show (ew (cY a.den) (cY b.den)).bind _=_;have c:(a.den:Int)*b.den≠0:=by
  rw[<- afV];have:=ag1 a.den_pos b.den_pos;omega
 rw[G0 (by omega) (by omega),agv,abP (by omega) (by omega),agv,Yn (by omega) (by omega) c,agv];rw[Rat.add_def',<- ahq,afV]
def ad5 {a b:Rat} (h:LF a+LF b+1<=cP):sA (cR a) (cR b)=some (cR (a-b),0):=by
 have e:=jj a;have f:=jj b;have d1:=jL a;have d2:=jL b;have g:=fX a.num b.den;have i:=fX b.num a.den;have j:=fX a.den b.den;have d:=AJ (a.num*b.den) (-(b.num*a.den));rw[yD]at d;unfold sA;rw[km (by omega),agv];simp only[agl,afv,if_false];rw[km (by omega),agv,agv];simp only[agl,afv,if_false];show (ew (cY a.num) (cY b.den)).bind _=_;rw[G0 (by omega) (by omega),agv];show (ew (cY b.num) (cY a.den)).bind _=_;rw[G0 (by omega) (by omega),agv];show (ew (cY a.den) (cY b.den)).bind _=_;have c:(a.den:Int)*b.den≠0:=by
  rw[<- afV];have:=ag1 a.den_pos b.den_pos;omega
 rw[G0 (by omega) (by omega),agv,ad4 (by omega) (by omega),agv,Yn (by rw[Int.sub_eq_add_neg];omega) (by omega) c,agv];rw[Rat.sub_def',<- ahq,afV]
def ad0 {a b:Rat} (h:LF a+LF b<=cP):xK (cR a) (cR b)=some (cR (a*b),0):=by
 have d:=jj a;have e:=jj b;have d1:=jL a;have d2:=jL b;have f:=fX a.num b.num;have g:=fX a.den b.den;unfold xK;rw[km (by omega),agv];simp only[agl,afv,if_false];rw[km (by omega),agv,agv];simp only[agl,afv,if_false];show (ew (cY a.num) (cY b.num)).bind _=_;rw[G0 (by omega) (by omega),agv];show (ew (cY a.den) (cY b.den)).bind _=_;have c:(a.den:Int)*b.den≠0:=by
  rw[<- afV];have:=ag1 a.den_pos b.den_pos;omega
 rw[G0 (by omega) (by omega),agv,Yn (by omega) (by omega) c,agv];rw[Rat.mul_def',<- ahq,afV]
def WX {σ ρ:Type} {a:σ->Option (σ⊕ρ)} {n:Nat} {s b:σ} (h:a s=some (.inl b)):pL a (n+1) s=pL a n b:=by simp only[pL,h]
def Ac {σ ρ:Type} {a:σ->Option (σ⊕ρ)} {n:Nat} {s:σ} {r:ρ} (h:a s=some (.inr r)):pL a (n+1) s=some r:=by simp only[pL,h]
def aX {i:Nat} (h:i<4611686018427387904):IntKind.i64.wrap ((i:Int)+1)=((i+1:Nat):Int):=by rw[wrap64 (by omega) (by omega)];omega
def bf {α:Type} {l:List α} {i:Nat} {x:α} (h:l[i]? = some x):P.idx l (i:Int)=some x:=NH (by omega) (by simpa using h)
def aM {α:Type} {l:List α} {i:Nat} {x:α} (h:l[i]? = some x):i<l.length:=(afp.1 h).1
def drop_cons {α:Type} {l a:List α} {i:Nat} {x:α} (h:l.drop i=x::a):i<l.length∧l[i]? = some x∧l.drop (i+1)=a:=by
 have b:i<l.length:=by
  rcases afE i l.length with h1|h1
  ·exact h1
  ·rw[agI h1]at h;cases h
 rw[agS b]at h;simp only[afk]at h;exact⟨b,by rw[ae9 b,h.1],h.2⟩
def db {α ρ:Type} (a:Nat->α->Option ρ):Nat->List α->Option ρ
 | _,[]=>none
 | i,x::l=>match a i x with|some r=>some r|none=>db a (i+1) l
def cv {α ρ:Type} {st:Nat->α->Option ρ} : ∀ {l:List α} {i:Nat},db st i l=none↔∀(j:Nat) x,l[j]? = some x->st (i+j) x=none
 | [],i=>by simp[db]
 | x::l,i=>by
  simp only[db];constructor
  ·intro h j y a;cases b:st i x with
   | some r=>rw[b]at h;cases h
   | none =>
    rw[b]at h;cases j with
    | zero=>simp only[List.getElem?_cons_zero,ae5]at a;subst a;exact b
    | succ j =>
     have:=cv.1 h j y (by simpa using a);rw[<- this];congr 1;omega
  ·intro h;have c:=h 0 x rfl;simp only[Nat.add_zero]at c;rw[c];refine cv.2 fun j y a =>?_;have:=h (j+1) y (by simpa using a);rw[<- this];congr 1;omega
def de {α ρ:Type} {st:Nat->α->Option ρ} {r:ρ} : ∀ {l:List α} {i:Nat},db st i l=some r->∃(j:Nat) (x:α),l[j]? = some x∧st (i+j) x=some r∧∀(k:Nat) y,k<j->l[k]? = some y->st (i+k) y=none
 | [],i,h=>by cases h
 | x::l,i,h=>by
  simp only[db]at h;cases a:st i x with
  | some r' =>
   rw[a]at h;exact⟨0,x,rfl,by rw[afw,a];exact h,fun k y c=>by omega⟩
  | none =>
   rw[a]at h;obtain⟨j,y,d,e,f⟩:=de h;refine⟨j+1,y,by simpa using d,by rw[<- e];congr 1;omega,fun k z c b =>?_⟩;cases k with
   | zero=>simp only[List.getElem?_cons_zero,ae5]at b;subst b;exact a
   | succ k =>
    have:=f k z (by omega) (by simpa using b);rw[<- this];congr 1;omega
def kS {α ρ:Type} (l:List α) {body:Int->Option (Int⊕(Unit⊕ρ))} (b:Nat->α->Option ρ) (g:l.length<4611686018427387904)
  (h:∀(i:Nat) x,l[i]? = some x->body (i:Int)=some (match b i x with|none =>.inl ((i+1:Nat):Int)|some r =>.inr (.inr r))) (j:body (l.length:Int)=some (.inr (.inl ()))) :
  aK body 0=some (match db b 0 l with|none =>.inl ()|some r =>.inr r):=by
 have key:∀(rest:List α) (i a:Nat),i<=l.length->l.drop i=rest->rest.length<a->pL body a (i:Int)=some (match db b i rest with|none =>.inl ()|some r =>.inr r):=by
  intro rest
  induction rest with
  | nil =>
   intro i a k e c;obtain⟨f,rfl⟩:∃f,a=f+1:=⟨a-1,by simp at c;omega⟩;have m:l.length<=i:=by
    have:=congrArg List.length e;simp at this;omega
   have:i=l.length:=by omega
   subst this;rw[Ac j];rfl
  | cons x rest n =>
   intro i a k e c;obtain⟨f,rfl⟩:∃f,a=f+1:=⟨a-1,by simp at c;omega⟩;obtain⟨o,p,q⟩:=drop_cons e;have:=h i x p;cases d:b i x with
   | some r =>
    rw[d]at this;rw[Ac this];simp only[db,d]
   | none =>
    rw[d]at this;rw[WX this,n (i+1) f o q (by simp at c;omega)];simp only[db,d]
 exact key l 0 FU (aeY _) rfl (by have:FU=1000000000000000000000000:=rfl;omega)
def uB {α σ ρ:Type} {body:Int×σ->Option ((Int×σ)⊕ρ)} (l:List α) (e:l.length<=17592186044416) (inv:Nat->σ->Prop) (Q:ρ->Prop) {s0:σ} (f:inv 0 s0)
  (a:∀(i:Nat) x s,l[i]? = some x->inv i s->∃c,body ((i:Int),s)=some (.inl (((i+1:Nat):Int),c))∧inv (i+1) c)
  (b:∀s,inv l.length s->∃r,body ((l.length:Int),s)=some (.inr r)∧Q r):∃r,aK body ((0:Int),s0)=some r∧Q r:=by
 refine cn (fun i s=>s.1=(i:Int)∧inv i s.2) l.length Q ⟨rfl,f⟩ (gM e) ?_;rintro i ⟨k,s⟩ m ⟨rfl,d⟩;rcases afE i l.length with h|h
 ·obtain⟨c,g,j⟩:=a i _ s (ae9 h) d;exact .inl ⟨h,_,g,rfl,j⟩
 ·have:i=l.length:=by omega
  subst this;exact .inr (b s d)
def cV {α:Type} {N j:Nat} (f:Nat->α) (h:j<N):((List.range N).map f)[j]? = some (f j):=by simp[h]
def BI {α:Type} {N:Nat} (f:Nat->α):((List.range N).map f).length=N:=by simp
def nR {α:Type} {l:List α} {N:Nat} {f:Nat->α} (b:l.length=N) (h:∀j,j<N->l[j]? = some (f j)):l=(List.range N).map f:=by
 apply ag2;intro j
 by_cases a:j<N
 ·rw[h j a,cV f a]
 ·rw[agx (by omega),agx (by simp;omega)]
def mq {α:Type} {N i:Nat} (f:Nat->α) (v:α):((List.range N).map f).set i v=(List.range N).map fun j=>if j=i then v else f j:=by
 refine nR (by simp) fun j a =>?_;rw[List.getElem?_set]
 by_cases h:i=j
 ·subst h;rw[if_pos rfl,if_pos (by simpa using a)];simp
 ·rw[if_neg h,cV f a,if_neg (fun e=>h e.symm)]
def Fg {α β:Type} {mk:β->α} {R:β->Prop} : ∀ {l:List α},(∀x∈l,∃y,x=mk y∧R y)->∃b:List β,l=b.map mk∧∀y∈b,R y
 | [],_=>⟨[],rfl,fun _ h=>by cases h⟩
 | x::l,h=>by
  obtain⟨y,c,d⟩:=h x (ags ..);obtain⟨b,e,f⟩:=Fg (l:=l) fun z a=>h z (agt _ a);refine⟨y::b,by rw[ae2,<- c,<- e],fun z a =>?_⟩;rcases ae3.1 a with rfl|a
  ·exact d
  ·exact f z a
def K1 {α:Type} {R:α->α->Prop} (g:∀a b c,R a b->R b c->R a c) {l:List α} (h:∀(i:Nat) a b,l[i]? = some a->l[i+1]? = some b->R a b):l.Pairwise R:=by
 rw[ag5];intro i j k f e;obtain⟨d,rfl⟩:∃d,j=i+1+d:=⟨j-(i+1),by omega⟩;clear e
 induction d with
 | zero=>exact h i _ _ (ae9 k) (ae9 f)
 | succ d m=>exact g _ _ _ (m (by omega)) (h (i+1+d) _ _ (ae9 (by omega)) (ae9 f))
abbrev Tk:=Nat×Nat×Rat
def oE (t:Tk):bD:=bD.mk (t.1:Int) (t.2.1:Int) (cR t.2.2)
def kp (N:Nat) (tk:List Tk):cA:=cA.mk (N:Int) (tk.map oE)
def Tf {a b:Tk} (h:oE a=oE b):a=b:=by
 unfold oE at h;injection h with d e c;exact Prod.ext (by omega) (Prod.ext (by omega) (sf c))
def Te {N M:Nat} {a b:List Tk} (h:kp N a=kp M b):N=M∧a=b:=by
 unfold kp at h;injection h with d c;refine⟨by omega,?_⟩;exact List.map_inj_right (f:=oE) (fun x y h=>Tf h) |>.1 c
def ye:List Tk->Nat->Rat
 | [],_=>0
 | t::l,p=>(if t.1=p then t.2.2 else 0)+ye l p
def OI (a b:List Tk) (p:Nat):ye (a++b) p=ye a p+ye b p:=by
 induction a with
 | nil=>rw[agF,ye,Rat.zero_add]
 | cons t a c=>rw[agP,ye,ye,c];grind
def dS (tk:List Tk) (p:Nat):Rat:=1-ye tk p
def Fb {tk:List Tk} {i:Nat} {t:Tk} (h:tk[i]? = some t) (p:Nat):dS (tk.take (i+1)) p=dS (tk.take i) p-(if t.1=p then t.2.2 else 0):=by
 obtain⟨a,b⟩:=afp.1 h;unfold dS;rw[ahx a,OI,b];simp only[ye];grind
def J2 {tk:List Tk} {K:Nat} (a:∀t∈tk,LF t.2.2<=K) (p:Nat):∀i,i<=tk.length->LF (dS (tk.take i) p)<=1+i*(K+1)
 | 0,_=>by
  have:dS (tk.take 0) p=((1:Int):Rat):=by unfold dS;rw[agT,ye];grind
  rw[this];exact aeZ (DI (n:=1) (by decide)) (by omega)
 | i+1,h=>by
  have c:=J2 a p i (by omega);have b:tk[i]? = some tk[i]:=ae9 (by omega);rw[Fb b];have d:=a _ (ae8 (show i<tk.length by omega));rw[afS];split
  ·have:=Vy (dS (tk.take i) p) tk[i].2.2;omega
  ·rw[show ∀x:Rat,x-0=x by intro x;grind];omega
def DJ {tk:List Tk} {K:Nat} (a:∀t∈tk,LF t.2.2<=K) (p:Nat):LF (dS tk p)<=1+tk.length*(K+1):=by
 have:=J2 a p tk.length (aeX _)
 rwa [agY]at this
def N7 {α:Type} {N B:Nat} (z:α) (h:N*B<=140737488355328) (a:N<=2000):IZ B (N:Int) (N:Int) z=some (List.replicate N z):=by
 unfold IZ;have:(2000:Nat)<=maxLen:=by decide
 rw[if_pos ⟨by omega,by omega,by omega,by simpa using h⟩];simp
def ace:jY 1=some (cR 1):=ZI (n:=1) (by decide)
def Fc {N K:Nat} {tk:List Tk} (v:N<=2000) (o:tk.length<=8000) (w:∀t∈tk,t.1<N) (C:K<=1000000) (q:∀t∈tk,LF t.2.2<=K) :
  mj (kp N tk)=some ((List.range N).map fun p=>cR (dS tk p)):=by
 unfold mj kp;simp only;rw[N7 _ (by omega) v,agv];have c:∃r,aK (mO (List.replicate N (aw.mk (aG.mk 0 []) (aG.mk 0 [])))) ((0:Int),List.replicate N (aw.mk (aG.mk 0 []) (aG.mk 0 [])))=some r∧r=(List.range N).map fun p=>cR (dS (tk.take 0) p):=by
  refine uB (List.replicate N (aw.mk (aG.mk 0 []) (aG.mk 0 []))) (by simp;omega) (fun i l=>l.length=N∧∀j,j<i->l[j]? = some (cR 1)) _ ⟨by simp,fun j d=>by omega⟩ ?_ ?_
  ·rintro i x l y ⟨g,a⟩;have z:i<N:=by have:=aM y;simpa using this
   have k:l[i]? = some l[i]:=ae9 (by omega);refine⟨l.set i (cR 1),?_,by simpa using g,fun j d =>?_⟩
   ·simp only[mO];rw[if_pos (by simp;omega),ace,agv,bf k,agv,aX (by omega),afW]
   ·rw[List.getElem?_set]
    by_cases h:i=j
    ·rw[if_pos h,if_pos (by omega)]
    ·rw[if_neg h];exact a j (by omega)
  ·rintro l ⟨g,a⟩;refine⟨l,?_,?_⟩
   ·simp only[mO];rw[if_neg (by simp)]
   ·rw[List.length_replicate]at a;refine nR g fun j d =>?_;rw[a j d,agT];congr 2;unfold dS ye;grind
 obtain⟨r,c,rfl⟩:=c;rw[c,agv];have m:∃r,aK (mP (cA.mk (N:Int) (tk.map oE))) ((0:Int),(List.range N).map fun p=>cR (dS (tk.take 0) p))=some r∧r=(List.range N).map fun p=>cR (dS tk p):=by
  refine uB tk (by omega) (fun i l=>l=(List.range N).map fun p=>cR (dS (tk.take i) p)) _ rfl ?_ ?_
  ·rintro i t _ b rfl;have z:=aM b;have s:=afo b;have n:=w t s;have k:(tk.map oE)[i]? = some (oE t):=by rw[aeU,b];rfl
   refine⟨_,?_,rfl⟩;simp only[mP];have A:=J2 q t.1 i (by omega);have B:=q t s;have u:i*(K+1)<=8000*1000001:=ahy (by omega) (by omega);rw[if_pos (by simp;omega),bf k,agv];simp only[oE];rw[bf (cV _ n),agv,abZ (by unfold cP;omega),agv,aX (by omega),afW,mq];congr 3;refine congrArg (fun f=>(List.range N).map f) (funext fun p =>?_);rw[Fb b]
   by_cases h:p=t.1
   ·subst h;rw[if_pos rfl,if_pos rfl]
   ·rw[if_neg h,if_neg (fun e=>h e.symm)];congr 1;grind
  ·rintro _ rfl;refine⟨_,?_,rfl⟩;simp only[mP];rw[if_neg (by simp),agY]
 obtain⟨r,m,rfl⟩:=m;rw[m,agv]
def Vq (a b:Tk):Prop:=a.1<b.1∨(a.1=b.1∧a.2.1<b.2.1)
def UD (a b c:Tk) (h:Vq a b) (k:Vq b c):Vq a c:=by unfold Vq at *;omega
structure AK (N:Nat) (tk:List Tk):Prop where
 ports:N<=2000
 takes:tk.length<=8000
 ok:∀t∈tk,t.1<N∧t.2.1<N∧0<t.2.2
 sorted:tk.Pairwise Vq
 leak:∀p,p<N->0<=dS tk p
def jc (a b c:Int):dT a b c=some (decide (b<=a∧a<=c)):=by
 unfold dT
 by_cases d:a>=b<;>by_cases e:a<=c<;>simp[d,e]
def T5 (a b:bD):∃c,nU a b=some c∧(c<0↔(a.bI<b.bI∨(a.bI=b.bI∧a.fU<b.fU))):=by
 unfold nU;rw[Ec,agv,Ec,agv,ZJ,agv];refine⟨_,rfl,?_⟩;unfold kX;split<;>split<;>(try split)<;>(try split)<;>simp at *<;>omega
def oI {q:Rat} : q.num.sign<0↔q<0:=by
 rw[Int.sign_neg_iff,<- Rat.not_le,<- Rat.num_nonneg];omega
def Aw {q:Rat} : q.num.sign=0↔q=0:=by
 rw[Int.sign_eq_zero_iff_zero,Rat.num_eq_zero]
def sG {q:Rat} : 0<q.num.sign↔0<q:=by
 constructor
 ·intro h;have b:¬q<0:=fun a=>by have:=oI.2 a;omega
  have c:q≠0:=fun a=>by have:=Aw.2 a;omega
  grind
 ·intro h;have b:¬q.num.sign<0:=fun a=>by have:=oI.1 a;grind
  have c:q.num.sign≠0:=fun a=>by have:=Aw.1 a;grind
  omega
def pS {q:Rat} {k:Nat} (a:(cR q).bR.aa.length<=k) (b:(cR q).bN.aa.length<=k):LF q<=k:=by
 unfold LF Ln;exact Nat.max_le.2 ⟨a,b⟩
def Dn {q:Rat} {k:Nat} (h:LF q<=k):(cR q).bR.aa.length<=k∧(cR q).bN.aa.length<=k:=by
 unfold LF Ln at h;exact Nat.max_le.1 h
def Ed {l:List Rat} (g:l.length<=17592186044416) (d:∀q∈l,LF q<=cP):cq (l.map cR)=some (decide (∃q∈l,q<0)):=by
 unfold cq dw;rw[kS l (fun i q=>if q<0 then some (i:Int) else none) (by omega) (fun i q a =>?_) (by simp only[dK];rw[if_neg (by simp)])]
 ·rw[agv];cases c:db (fun i (q:Rat)=>if q<0 then some (i:Int) else none) 0 l with
  | none =>
   simp only;rw[agv,decide_eq_false (by decide),decide_eq_false];rintro⟨q,a,hn⟩;obtain⟨j,e⟩:=afi a;have:=cv.1 c j q e;rw[if_pos hn]at this;cases this
  | some r =>
   obtain⟨j,q,f,b,_⟩:=de c
   by_cases hn:q<0
   ·rw[if_pos hn]at b;cases b;simp only;rw[agv,decide_eq_true (by omega),decide_eq_true ⟨q,afo f,hn⟩]
   ·rw[if_neg hn]at b;cases b
 ·have k:=aM a;simp only[dK,oW];rw[if_pos (by simp;omega),bf (x:=cR q) (by rw[aeU,a];rfl),agv,DT (d q (afo a)),agv,agv]
  by_cases hn:q<0
  ·rw[decide_eq_true (oI.2 hn),if_pos hn];rfl
  ·rw[decide_eq_false (fun h=>hn (oI.1 h)),if_neg hn,aX (by omega)];rfl
def KR (N:Nat) (x:bD):Bool:=decide (0<=x.bI∧x.bI<=(N:Int)-1)&&decide (0<=x.fU∧x.fU<=(N:Int)-1)&&okF x.bJ&&decide (0<x.bJ.bR.ak)
def L5 (a b:bD):Prop:=a.bI<b.bI∨(a.bI=b.bI∧a.fU<b.fU)
instance (a b:bD):Decidable (L5 a b):=by unfold L5;infer_instance
def sc (N:Nat) (l:List bD) (i:Nat) (x:bD):Bool:=KR N x&&(decide (i=0)||(match l[i-1]? with|some y=>decide (L5 y x)|none=>false))
def On {N:Nat} {x:bD} : KR N x=true↔∃t:Tk,x=oE t∧t.1<N∧t.2.1<N∧0<t.2.2:=by
 unfold KR;simp only[afx,decide_eq_true_eq];constructor
 ·rintro⟨⟨⟨b,c⟩,a⟩,d⟩;obtain⟨q,e⟩:=xE.1 a;refine⟨(x.bI.toNat,x.fU.toNat,q),?_,by simp only;omega,by simp only;omega,?_⟩
  ·unfold oE;cases x;simp only at *;rw[<- e,Int.toNat_of_nonneg b.1,Int.toNat_of_nonneg c.1]
  ·rw[e]at d;exact sG.1 d
 ·rintro⟨t,rfl,b,c,a⟩;exact⟨⟨⟨by simp only[oE];omega,by simp only[oE];omega⟩,FG _⟩,sG.2 a⟩
def Sr {a b:Tk} : L5 (oE a) (oE b)↔Vq a b:=by
 unfold L5 Vq oE;simp only;omega
def ND {n:cA} {N j:Nat} {x:bD} (b:n.aq=(N:Int)) (c:n.az[j]? = some x) (a:¬sc N n.az j x=true):¬ ∃M tk,n=kp M tk∧AK M tk:=by
 rintro⟨M,tk,rfl,f⟩;apply a;simp only[kp]at c b ⊢;obtain rfl:M=N:=by omega
 rw[aeU,aeV]at c;obtain⟨t,d,rfl⟩:=c;have g:=afo d;unfold sc;rw[On.2 ⟨t,rfl,f.ok t g⟩,agm];cases j with
 | zero=>simp
 | succ j =>
  have e:=aM d;have h:tk[j]? = some tk[j]:=ae9 (by omega);rw[agJ,aeU,h];simp only[Option.map_some];rw[decide_eq_true (Sr.2 ?_),Bool.or_true];have:=ag5.1 f.sorted j (j+1) (by omega) e (by omega)
  rwa [(afp.1 d).2]at this
def NC {n:cA} {N K:Nat} (g:n.aq=(N:Int)) (u:n.az.length<=8000) (k:∀t∈n.az,t.bJ.bR.aa.length<=K∧t.bJ.bN.aa.length<=K) (c:∀(j:Nat) x,n.az[j]? = some x->sc N n.az j x=true) :
  ∃tk,n=kp N tk∧(∀t∈tk,t.1<N∧t.2.1<N∧0<t.2.2)∧tk.Pairwise Vq∧(∀t∈tk,LF t.2.2<=K)∧tk.length=n.az.length:=by
 obtain⟨tk,d,f⟩:=Fg (mk:=oE) (R:=fun t=>t.1<N∧t.2.1<N∧0<t.2.2) (l:=n.az) fun x m=>by
  obtain⟨j,o⟩:=afi m;have:=c j x o;unfold sc at this;rw[afx]at this;exact On.1 this.1
 have p:n=kp N tk:=by
  unfold kp;rw[<- g,<- d]
 have e:tk.Pairwise Vq:=K1 UD fun i a b q r=>by
  have:=c (i+1) (oE b) (by rw[d,aeU,r];rfl);unfold sc at this;rw[afx,agJ,d,aeU,q]at this;simpa [Sr] using this.2
 have h:∀t∈tk,LF t.2.2<=K:=fun t s=>by
  have:=k (oE t) (by rw[d];exact List.mem_map_of_mem s);exact pS this.1 this.2
 exact⟨tk,p,f,e,h,by rw[d,afq]⟩
def xN {n:cA} {K:Nat} (Q:K<=1000000) (R:∀t∈n.az,t.bJ.bR.aa.length<=K∧t.bJ.bN.aa.length<=K) :
  ∃b,kC n=some b∧(b=true↔∃N tk,n=kp N tk∧AK N tk):=by
 unfold kC;rw[jc,agv]
 by_cases D:0<=n.aq∧n.aq<=2000
 rotate_left
 ·rw[decide_eq_false D];refine⟨false,by simp,?_⟩;simp only[afv,false_iff];rintro⟨N,tk,rfl,h⟩;have:=h.ports;simp only[kp]at D;omega
 rw[decide_eq_true D];simp only[agl,afv,if_false,Option.bind_some]
 by_cases E:(n.az.length:Int)>8000
 ·rw[decide_eq_true E];refine⟨false,by simp,?_⟩;simp only[afv,false_iff];rintro⟨N,tk,rfl,h⟩;have:=h.takes;simp only[kp,afq]at E;omega
 rw[decide_eq_false E];simp only[afv,if_false];obtain⟨N,f⟩:∃N:Nat,n.aq=(N:Int):=⟨n.aq.toNat,by omega⟩;have F:IntKind.i64.wrap (n.aq-1)=(N:Int)-1:=by rw[f,wrap64 (by omega) (by omega)]
 have X:K<=jt:=aeZ Q (by unfold jt;omega);have g:=kS n.az (body:=mN n) (fun i x=>if sc N n.az i x=true then none else some false) (by omega) (fun i x G=>by
  have hi:=aM G;obtain⟨u,v⟩:=R x (afo G);simp only[mN];rw[if_pos (by simp;omega),bf G,agv,jc,agv,F];have k:(if (!decide (0<=x.bI∧x.bI<=(N:Int)-1))=true then some true
   else (dT x.fU 0 ((N:Int)-1)).bind fun H =>
    if (!H)=true then some true
    else (dE x.bJ).bind fun I=>if (!I)=true then some true else (iS x.bJ).bind fun J=>some (decide (J<=0)))=some (!KR N x):=by
   unfold KR
   by_cases S:0<=x.bI∧x.bI<=(N:Int)-1
   rotate_left
   ·rw[decide_eq_false S];simp
   rw[decide_eq_true S,jc,agv]
   by_cases T:0<=x.fU∧x.fU<=(N:Int)-1
   rotate_left
   ·rw[decide_eq_false T];simp
   rw[decide_eq_true T,DS ⟨by omega,by omega⟩,agv];cases l:okF x.bJ with
   | false=>simp
   | true =>
    obtain⟨q,l⟩:=xE.1 l;rw[l]at u v ⊢;have m:=pS u v;rw[DT (by unfold cP;omega),agv];have:(cR q).bR.ak=q.num.sign:=rfl;rw[this]
    by_cases U:q.num.sign<=0
    ·rw[decide_eq_true U,decide_eq_false (show ¬0<q.num.sign by omega)];simp
    ·rw[decide_eq_false U,decide_eq_true (show 0<q.num.sign by omega)];simp
  rw[k,agv];unfold sc;cases Y:KR N x with
  | false=>simp
  | true =>
   simp only[agl,afv,if_false,agm];cases i with
   | zero=>rw[if_neg (by simp),aX (by omega)];simp
   | succ i =>
    rw[if_pos (by simp)];have V:n.az[i]? = some n.az[i]:=ae9 (by omega);have Z:IntKind.i64.wrap (((i+1:Nat):Int)-1)=(i:Int):=by rw[wrap64 (by omega) (by omega)];omega
    obtain⟨c,L,w⟩:=T5 n.az[i] x;rw[Z,bf V,agv,L,agv,agJ,V];simp only[Nat.add_eq_zero_iff,agV,and_false,decide_false,afZ]
    by_cases hb:L5 n.az[i] x
    ·rw[if_neg (by simp;exact w.2 hb),decide_eq_true hb,aX (by omega)];rfl
    ·rw[if_pos (by simp only[decide_eq_true_eq];have:¬c<0:=fun h=>hb (w.1 h);omega),decide_eq_false hb];rfl) (by
  unfold mN;rw[if_neg (by simp)])
 rw[g,agv];cases y:db (fun i x=>if sc N n.az i x=true then none else some false) 0 n.az with
 | some r =>
  obtain⟨j,x,h1,z,_⟩:=de y;simp only[afH]at z;split at z
  ·cases z
  rename_i A;cases z;refine⟨false,rfl,?_⟩;simp only[afv,false_iff];exact ND f h1 A
 | none =>
  have d:=cv.1 y;simp only[afH]at d;have o:∀(j:Nat) x,n.az[j]? = some x->sc N n.az j x=true:=fun j x hj=>by
   have:=d j x hj;split at this
   ·assumption
   ·cases this
  obtain⟨tk,hn,e,s,m,aa⟩:=NC f (by omega) R o;have a:tk.length<=8000:=by omega
  have B:N<=2000:=by omega
  simp only;rw[hn,Fc B a (fun t ht=>(e t ht).1) Q m,agv];have C:((List.range N).map fun p=>cR (dS tk p))=((List.range N).map fun p=>dS tk p).map cR:=by rw[List.map_map];rfl
  rw[C,Ed (by simp;omega) (fun q l=>by
   obtain⟨p,_,rfl⟩:=aeW.1 l;have:=DJ m p;have z:tk.length*(K+1)<=8000*1000001:=ahy a (by omega);unfold cP;omega),agv]
  refine⟨_,rfl,?_⟩;simp only[afy,decide_eq_false_iff_not];constructor
  ·intro O;refine⟨N,tk,rfl,⟨B,a,e,s,fun p P =>?_⟩⟩
   by_cases h0:dS tk p<0
   ·exact absurd ⟨_,aeW.2 ⟨p,agB.2 P,rfl⟩,h0⟩ O
   ·grind
  ·rintro⟨M,ab,he,hR⟩ ⟨q,l,W⟩;obtain⟨rfl,rfl⟩:=Te he;obtain⟨p,P,rfl⟩:=aeW.1 l;have:=hR.leak p (agB.1 P);grind
def Ai:∀(N:Nat) (l:List Nat),l.Nodup->(∀x∈l,x<N)->l.length<=N
 | 0,l,_,h=>by
  cases l with
  | nil=>simp
  | cons x l=>exact absurd (h x (ags ..)) (by omega)
 | N+1,l,a,h=>by
  have b:=Ai N (l.erase N) (a.erase N) fun x c=>by
   have d:=h x (List.mem_of_mem_erase c);have f:x≠N:=fun e=>by subst e;exact (List.Nodup.mem_erase_iff a).1 c |>.1 rfl
   omega
  rw[List.length_erase]at b;split at b<;>omega
def je (l:List Nat):List Int:=l.map fun (p:Nat)=>(p:Int)
def Xi {l:List Nat} {i p:Nat} (h:l[i]? = some p):(je l)[i]? = some (p:Int):=by unfold je;rw[aeU,h];rfl
def oV (l:List Nat):(je l).length=l.length:=afq ..
def lq (tk:List Tk) (p:Nat):List Nat:=(tk.filter fun t=>decide (t.2.1=p)).map fun t=>t.1
def IY {tk:List Tk} {p q:Nat} : q∈lq tk p↔∃t∈tk,t.1=q∧t.2.1=p:=by
 unfold lq;simp only[aeW,agy,decide_eq_true_eq];constructor
 ·rintro⟨t,⟨a,b⟩,c⟩;exact⟨t,a,c,b⟩
 ·rintro⟨t,a,c,b⟩;exact⟨t,⟨a,b⟩,c⟩
def HO (tk:List Tk) (p:Nat):(lq tk p).length<=tk.length:=by
 unfold lq;rw[afq];exact ahz ..
def Qb {tk:List Tk} {i:Nat} {t:Tk} (h:tk[i]? = some t) (p:Nat):lq (tk.take (i+1)) p=if t.2.1=p then lq (tk.take i) p++[t.1] else lq (tk.take i) p:=by
 obtain⟨b,c⟩:=afp.1 h;unfold lq;rw[ahx b,ahA,agn,c]
 by_cases a:t.2.1=p
 ·rw[if_pos a,ahB (by simpa using a)];rfl
 ·rw[if_neg a,ahC (by simpa using a)];simp
structure sK (N:Nat) (tk:List Tk) (r:Nat->Int):Prop where
 ge:∀p,p<N -> -1<=r p
 zero:∀p,p<N->(r p=0↔0<dS tk p)
 down:∀p,p<N->0<r p->∃t∈tk,t.1=p∧r t.2.1=r p-1
 near:∀t∈tk,0<=r t.2.1->0<=r t.1∧r t.1<=r t.2.1+1
 le:∀p,p<N->r p<=2000
structure BF (N:Nat) (tk:List Tk) (r:Nat->Int) (D Q:List Nat) (h m:Int):Prop where
 nodup:(D++Q).Nodup
 lt:∀p∈D++Q,p<N
 rk:∀p,p<N->(0<=r p↔p∈D++Q)
 ge:∀p,p<N -> -1<=r p
 zero:∀p,p<N->(r p=0↔0<dS tk p)
 down:∀p,p<N->0<r p->∃t∈tk,t.1=p∧r t.2.1=r p-1
 near:∀t∈tk,t.2.1∈D->0<=r t.1∧r t.1<=r t.2.1+1
 mono:Q.Pairwise fun a b=>r a<=r b
 top:∀p∈D++Q,r p<=h+1
 low:∀q∈Q,h<=r q
 bnd:∀p,p<N->r p<=m
def Vc (r:Nat->Int) (q:Nat) (v:Int):Nat->Int:=fun x=>if x=q then v else r x
def kP (r:Nat->Int) (q:Nat) (v:Int):Vc r q v q=v:=if_pos rfl
def iM {r:Nat->Int} {q x:Nat} (v:Int) (h:x≠q):Vc r q v x=r x:=if_neg h
def BF.pop {N:Nat} {tk:List Tk} {r:Nat->Int} {D Q:List Nat} {p:Nat} {h m:Int} (a:BF N tk r D (p::Q) h m):BF N tk r D (p::Q) (r p) (m+1)∧0<=r p∧p<N∧r p<=m where
 left:={
  nodup:=a.nodup,lt:=a.lt,rk:=a.rk,ge:=a.ge,zero:=a.zero,down:=a.down,near:=a.near,mono:=a.mono
  top:=fun x b=>by
   have f:=a.top x b;have g:=a.low p (ags ..);omega
  low:=fun q c=>by
   rcases ae3.1 c with rfl|c
   ·exact Int.le_refl _
   ·exact (agz.1 a.mono).1 q c
  bnd:=fun x b=>by have:=a.bnd x b;omega }
 right:=by
  have e:p∈D++p::Q:=afb _ (ags ..);have d:=a.lt p e;exact⟨(a.rk p d).2 e,d,a.bnd p d⟩
def BF.push {N:Nat} {tk:List Tk} {r:Nat->Int} {D Q:List Nat} {p q:Nat} {m:Int} (f:BF N tk r D (p::Q) (r p) m) (z:0<=r p) (A:r p+1<=m) (v:q<N) (B:r q = -1) (C:∃t∈tk,t.1=q∧t.2.1=p) :
  BF N tk (Vc r q (r p+1)) D (p::(Q++[q])) (r p) m∧Vc r q (r p+1) p=r p:=by
 have hqn:q∉D++p::Q:=fun h=>by have:=(f.rk q v).2 h;omega
 have g:∀x,x∈D++p::(Q++[q])↔x∈D++p::Q∨x=q:=fun x=>by
  simp only[agr,ae3,ahD,or_false];constructor
  ·rintro (h|h|h|h)<;>simp[h]
  ·rintro ((h|h|h)|h)<;>simp[h]
 have d:∀x,x∈D++p::Q->x≠q:=fun x c e=>hqn (e ▸ c);have s:p∈D++p::Q:=afb _ (ags ..);have l:p≠q:=d p s;refine⟨?_,iM _ l⟩;constructor
 ·have:D++p::(Q++[q])=(D++p::Q)++[q]:=by simp
  rw[this,List.nodup_append];refine⟨f.nodup,by simp,fun a j b i =>?_⟩;simp only[ae3,ahD,or_false]at i;subst i;exact d a j
 ·intro x c;rcases (g x).1 c with h|rfl
  ·exact f.lt x h
  ·exact v
 ·intro x c;rw[g]
  by_cases h:x=q
  ·subst h;rw[kP];exact⟨fun _ =>.inr rfl,fun _=>by omega⟩
  ·rw[iM _ h,f.rk x c];exact⟨.inl,fun k=>k.elim id fun e=>absurd e h⟩
 ·intro x c
  by_cases h:x=q
  ·subst h;rw[kP];omega
  ·rw[iM _ h];exact f.ge x c
 ·intro x c
  by_cases h:x=q
  ·subst h;rw[kP];have:=f.zero x c;constructor
   ·intro h;omega
   ·intro h;have:=this.2 h;omega
  ·rw[iM _ h];exact f.zero x c
 ·intro x c w
  by_cases h:x=q
  ·subst h;obtain⟨t,h1,n,o⟩:=C;refine⟨t,h1,n,?_⟩;rw[o,iM _ l,kP];omega
  ·rw[iM _ h]at w ⊢;obtain⟨t,h1,n,o⟩:=f.down x c w;refine⟨t,h1,n,?_⟩;rw[iM _ (fun e=>by rw[e,B]at o;omega)];exact o
 ·intro t u y;obtain⟨h1,n⟩:=f.near t u y;have E:t.2.1≠q:=d _ (afa _ y);have F:t.1≠q:=fun e=>by rw[e]at h1;omega
  rw[iM _ E,iM _ F];exact⟨h1,n⟩
 ·have h1:=f.mono;have:p::(Q++[q])=(p::Q)++[q]:=by simp
  rw[this,List.pairwise_append];refine⟨h1.imp_of_mem fun {a b} j i h =>?_,by simp,fun a j b i =>?_⟩
  ·rw[iM _ (d a (afb _ j)),iM _ (d b (afb _ i))];exact h
  ·simp only[ae3,ahD,or_false]at i;subst i;rw[iM _ (d a (afb _ j)),kP];exact f.top a (afb _ j)
 ·intro x c;rcases (g x).1 c with h|rfl
  ·rw[iM _ (d x h)];exact f.top x h
  ·rw[kP];exact Int.le_refl _
 ·intro x c
  by_cases h:x=q
  ·subst h;rw[kP];omega
  ·rw[iM _ h];apply f.low x;simp only[ae3,agr,ahD,or_false]at c ⊢;rcases c with h1|h1|h1
   ·exact .inl h1
   ·exact .inr h1
   ·exact absurd h1 h
 ·intro x c
  by_cases h:x=q
  ·subst h;rw[kP];exact A
  ·rw[iM _ h];exact f.bnd x c
def BF.finish {N:Nat} {tk:List Tk} {r:Nat->Int} {D Q:List Nat} {p:Nat} {h m:Int} (hB:BF N tk r D (p::Q) h m) (b:∀q∈lq tk p,0<=r q∧r q<=r p+1):BF N tk r (D++[p]) Q h m:=by
 have e:(D++[p])++Q=D++p::Q:=by simp
 exact {
  nodup:=by rw[e];exact hB.nodup
  lt:=by rw[e];exact hB.lt
  rk:=by rw[e];exact hB.rk
  ge:=hB.ge,zero:=hB.zero,down:=hB.down
  near:=fun t a c=>by
   rcases agr.1 c with h1|h1
   ·exact hB.near t a h1
   ·simp only[ae3,ahD,or_false]at h1;rw[h1];exact b t.1 (IY.2 ⟨t,a,rfl,h1⟩)
  mono:=(agz.1 hB.mono).2
  top:=by rw[e];exact hB.top
  low:=fun q d=>hB.low q (agt _ d)
  bnd:=hB.bnd }
def BF.acK {N:Nat} {tk:List Tk} {r:Nat->Int} {D:List Nat} {h m:Int} (a:BF N tk r D [] h m) (b:∀t∈tk,t.1<N∧t.2.1<N) (d:m<=2000):sK N tk r where
 ge:=a.ge
 zero:=a.zero
 down:=a.down
 near t h1 h2:=a.near t h1 (by have:=(a.rk t.2.1 (b t h1).2).1 h2;simpa using this)
 le p c:=by have:=a.bnd p c;omega
def XL {α:Type} (a:α) (l:List α):Df (a::l) 1 ((a::l).length:Int)=some l:=by
 unfold Df;rw[if_pos ⟨by omega,by simp;omega,by omega⟩];simp
variable {N:Nat} {tk:List Tk}
def Ro {r:Nat->Int} {D Q:List Nat} {p:Nat} {m:Int} (E:BF N tk r D (p::Q) (r p) m) (F:p<N) (G:0<=r p) (P:r p+1<=m) (H:m<=2001) (y:∀t∈tk,t.1<N∧t.2.1<N) (B:tk.length<=8000) (R:N<=2000) :
  ∃b d,aK (kB (p:Int) (je (lq tk p))) ((0:Int),(List.range N).map r,je Q)=some ((List.range N).map b,je d)∧BF N tk b (D++[p]) d (r p) m:=by
 have I:=HO tk p;have key:=fun J K=>uB (body:=kB (p:Int) (je (lq tk p))) (lq tk p) (by omega) (fun i (s:List Int×List Int)=>∃b d,s=((List.range N).map b,je d)∧BF N tk b D (p::d) (r p) m∧b p=r p∧∀q∈(lq tk p).take i,0<=b q∧b q<=r p+1)
  (fun x=>∃b d,x=((List.range N).map b,je d)∧BF N tk b (D++[p]) d (r p) m) (s0:=((List.range N).map r,je Q)) ⟨r,Q,rfl,E,rfl,fun q j=>by simp at j⟩ J K
 refine (key ?_ ?_).elim fun x ⟨k,b,d,e,v⟩=>⟨b,d,e ▸ k,v⟩
 ·rintro i q _ j ⟨b,d,rfl,c,f,a⟩;have L:=aM j;have z:=afo j;obtain⟨t,l,n,A⟩:=IY.1 z;have h:q<N:=by rw[<- n];exact (y t l).1
  have g:(lq tk p).take (i+1)=(lq tk p).take i++[q]:=by
   rw[ahx L,(afp.1 j).2]
  have M:d.length<=N:=by
   have k:=Ai N (D++p::d) c.nodup c.lt;simp only[af6,List.length_cons]at k;omega
  simp only[kB];rw[if_pos (by rw[oV];simp;omega),bf (Xi j),agv,bf (cV b h),agv]
  by_cases w:b q = -1
  ·rw[if_pos (by rw[w];rfl),bf (cV b F),agv,f,te (by rw[oV];simp;omega),agv,aX (by omega),afW,mq];have O:IntKind.i64.wrap (r p+1)=r p+1:=wrap64 (by omega) (by omega);rw[O];have o:=c;rw[<- f]at o;obtain⟨k,v⟩:=o.push (by omega) (by omega) h w ⟨t,l,n,A⟩;rw[f]at k v;refine⟨_,rfl,Vc b q (r p+1),d++[q],?_,k,v,fun x e =>?_⟩
   ·unfold je Vc;simp
   ·rw[g]at e;rcases agr.1 e with e|e
    ·have:=a x e
     by_cases u:x=q
     ·subst u;rw[w]at this;omega
     ·rw[iM _ u];exact this
    ·simp only[ae3,ahD,or_false]at e;subst e;rw[kP];omega
  ·rw[if_neg (by simpa using w),aX (by omega)];refine⟨_,rfl,b,d,rfl,c,f,fun x e =>?_⟩;rw[g]at e;rcases agr.1 e with e|e
   ·exact a x e
   ·simp only[ae3,ahD,or_false]at e;subst e;have C:0<=b x:=by have:=c.ge x h;omega
    exact⟨C,c.top x ((c.rk x h).1 C)⟩
 ·rintro _ ⟨b,d,rfl,c,f,a⟩;refine⟨_,?_,b,d,rfl,c.finish fun q j =>?_⟩
  ·simp only[kB];rw[if_neg (by rw[oV];simp)]
  ·rw[agY]at a;rw[f];exact a q j
def Rp {r:Nat->Int} {Q:List Nat} (v:BF N tk r [] Q 0 0) (e:∀t∈tk,t.1<N∧t.2.1<N) (f:tk.length<=8000) (w:N<=2000) :
  ∃b,aK (kA ((List.range N).map fun p=>je (lq tk p))) ((List.range N).map r,je Q)=some ((List.range N).map b)∧sK N tk b:=by
 have key:=fun y=>cn (body:=kA ((List.range N).map fun p=>je (lq tk p))) (fun i (s:List Int×List Int)=>∃b D d h,s=((List.range N).map b,je d)∧D.length=i∧BF N tk b D d h (i:Int)) N
  (fun x=>∃b,x=(List.range N).map b∧sK N tk b) (s:=((List.range N).map r,je Q)) ⟨r,[],Q,0,rfl,rfl,v⟩ (gM (by omega)) y
 refine (key ?_).elim fun x ⟨g,b,z,j⟩=>⟨b,z ▸ g,j⟩
 ·rintro i _ E ⟨b,D,d,h,rfl,A,c⟩;cases d with
  | nil =>
   refine .inr ⟨_,?_,b,rfl,c.acK e (by omega)⟩;simp only[kA,je,afI];rw[if_neg (by simp)]
  | cons p d =>
   obtain⟨k,m,o,B⟩:=c.pop;have n:i<N:=by
    have g:=Ai N (D++p::d) c.nodup c.lt;simp only[af6,List.length_cons]at g;omega
   obtain⟨q,u,g,j⟩:=Ro k o m (by omega) (by omega) e f w;refine .inl ⟨n,((List.range N).map q,je u),?_,q,D++[p],u,b p,rfl,by simp[A],by simpa using j⟩;simp only[kA];have C:je (p::d)=(p:Int)::je d:=rfl;rw[C,if_pos (by simp),idx_zero' ,agv,XL,agv,bf (cV (fun p=>je (lq tk p)) o),agv,g,agv]
where
 idx_zero':∀ {α:Type} {a:α} {l:List α},P.idx (a::l) 0=some a:=fun {_ a l}=>bf (l:=a::l) (i:=0) rfl
def T4 {L:Nat} (b:∀t∈tk,t.1<N∧t.2.1<N) (g:tk.length<=8000) :
  aK (ky (kp N tk)) ((0:Int),List.replicate N ([]:List Int))=some ((List.range N).map fun p=>je (lq tk p)):=by
 unfold kp;have key:=fun k m=>uB (body:=ky (cA.mk (N:Int) (tk.map oE))) tk (by omega) (fun i l=>l=(List.range N).map fun p=>je (lq (tk.take i) p)) (fun l=>l=(List.range N).map fun p=>je (lq tk p)) (s0:=List.replicate N ([]:List Int))
  (nR (by simp) fun j n=>by rw[List.getElem?_replicate,if_pos n,List.take_zero];rfl) k m
 refine (key ?_ ?_).elim fun x ⟨o,hx⟩=>hx ▸ o
 ·rintro i t _ a rfl;have r:=aM a;have c:=(b t (afo a)).2;have q:(tk.map oE)[i]? = some (oE t):=by rw[aeU,a];rfl
  have d:=HO (tk.take i) t.2.1;rw[aff]at d;refine⟨_,?_,rfl⟩;simp only[ky];rw[if_pos (by simp;omega),bf q,agv];simp only[oE];rw[bf (cV _ c),agv,te (by rw[oV];simp;omega),agv,aX (by omega),afW,mq];congr 3;refine congrArg (fun f=>(List.range N).map f) (funext fun p =>?_);rw[Qb a]
  by_cases h:p=t.2.1
  ·subst h;rw[if_pos rfl,if_pos rfl];unfold je;simp
  ·rw[if_neg h,if_neg (fun e=>h e.symm)]
 ·rintro _ rfl;refine⟨_,?_,rfl⟩;simp only[ky];rw[if_neg (by simp),agY]
def CJ (tk:List Tk) (p:Nat):Int:=if 0<dS tk p then 0 else -1
def mU (tk:List Tk) (n:Nat):List Nat:=(List.range n).filter fun p=>decide (0<dS tk p)
def OQ (tk:List Tk) (n:Nat):mU tk (n+1)=if 0<dS tk n then mU tk n++[n] else mU tk n:=by
 unfold mU;rw[ahE,ahA]
 by_cases h:0<dS tk n
 ·rw[if_pos h,ahB (by simpa using h)];rfl
 ·rw[if_neg h,ahC (by simpa using h)];simp
def Us {K:Nat} (n:N<=2000) (a:tk.length<=8000) (o:K<=1000000) (d:∀t∈tk,LF t.2.2<=K) :
  aK (kz ((List.range N).map fun p=>cR (dS tk p))) ((0:Int),List.replicate N (0:Int),([]:List Int))=some ((List.range N).map (CJ tk),je (mU tk N)):=by
 have key:=fun d g=>uB (body:=kz ((List.range N).map fun p=>cR (dS tk p))) (List.range N) (by simp;omega) (fun i (s:List Int×List Int)=>s=((List.range N).map (fun p=>if p<i then CJ tk p else 0),je (mU tk i))) (fun s=>s=((List.range N).map (CJ tk),je (mU tk N))) (s0:=(List.replicate N (0:Int),([]:List Int)))
  (by rw[show mU tk 0=[] from rfl];refine Prod.ext ?_ rfl;exact nR (by simp) fun j c=>by rw[List.getElem?_replicate,if_pos c,if_neg (by omega)]) d g
 refine (key ?_ ?_).elim fun x ⟨k,hx⟩=>hx ▸ k
 ·rintro i x _ hx rfl;have e:i<N:=by have:=aM hx;simpa using this
  have l:=DJ d i;have r:tk.length*(K+1)<=8000*1000001:=ahy a (by omega);have m:(mU tk i).length<=i:=by unfold mU;have:=ahz (fun p=>decide (0<dS tk p)) (List.range i);simpa using this
  refine⟨_,?_,rfl⟩;simp only[kz];rw[if_pos (by simp;omega),bf (cV (fun p=>cR (dS tk p)) e),agv,bf (cV _ e),agv,DT (by unfold cP;omega),agv,afW,mq,mq,aX (by omega),OQ]
  by_cases hl:0<dS tk i
  ·rw[if_pos (by simpa using sG.2 hl),bf (cV _ e),agv,te (by rw[oV];simp;omega),agv,if_pos hl];refine congrArg some (congrArg Sum.inl (congrArg (Prod.mk _) (Prod.ext ?_ ?_)))
   ·refine congrArg (fun f=>(List.range N).map f) (funext fun p =>?_)
    by_cases h:p=i
    ·subst h;rw[if_pos rfl,if_pos (by omega)];unfold CJ;rw[if_pos hl]
    ·rw[if_neg h,if_neg h]
     by_cases b:p<i
     ·rw[if_pos b,if_pos (by omega)]
     ·rw[if_neg b,if_neg (by omega)]
   ·unfold je;simp
  ·rw[if_neg (by simpa using fun h=>hl (sG.1 h)),if_neg hl];refine congrArg some (congrArg Sum.inl (congrArg (Prod.mk _) (Prod.ext ?_ rfl)));refine congrArg (fun f=>(List.range N).map f) (funext fun p =>?_)
   by_cases h:p=i
   ·subst h;rw[if_pos rfl,if_pos (by omega)];unfold CJ;rw[if_neg hl]
   ·rw[if_neg h]
    by_cases b:p<i
    ·rw[if_pos b,if_pos (by omega)]
    ·rw[if_neg b,if_neg (by omega)]
 ·rintro _ rfl;refine⟨_,?_,rfl⟩;simp only[kz];rw[if_neg (by simp),afr];refine congrArg some (congrArg Sum.inr (Prod.ext ?_ rfl));refine nR (by simp) fun j c =>?_;rw[cV _ c,if_pos c]
def YM (N:Nat) (tk:List Tk):BF N tk (CJ tk) [] (mU tk N) 0 0:=by
 have f:∀p,p∈mU tk N↔p<N∧0<dS tk p:=fun p=>by unfold mU;simp[agy]
 have d:∀p,0<dS tk p->CJ tk p=0:=fun p h=>if_pos h;have g:∀p,¬0<dS tk p->CJ tk p = -1:=fun p h=>if_neg h;constructor
 ·rw[agF];unfold mU;exact List.nodup_range.filter _
 ·intro p c;rw[agF]at c;exact ((f p).1 c).1
 ·intro p c;rw[agF,f]
  by_cases h:0<dS tk p
  ·rw[d p h];simp[c,h]
  ·rw[g p h];simp[h]
 ·intro p c
  by_cases h:0<dS tk p
  ·rw[d p h];omega
  ·rw[g p h];omega
 ·intro p c
  by_cases h:0<dS tk p
  ·rw[d p h];simp[h]
  ·rw[g p h];simp[h]
 ·intro p c e
  by_cases h:0<dS tk p
  ·rw[d p h]at e;omega
  ·rw[g p h]at e;omega
 ·intro t _ h;simp at h
 ·refine List.Pairwise.imp_of_mem (R:=fun _ _=>True) (fun {a b} i j _ =>?_) (List.pairwise_of_forall (fun _ _=>trivial));rw[d a ((f a).1 i).2,d b ((f b).1 j).2];exact Int.le_refl _
 ·intro p c;rw[agF]at c;rw[d p ((f p).1 c).2];omega
 ·intro q k;rw[d q ((f q).1 k).2];omega
 ·intro p c
  by_cases h:0<dS tk p
  ·rw[d p h];omega
  ·rw[g p h];omega
def XA {K:Nat} (e:AK N tk) (g:K<=1000000) (h:∀t∈tk,LF t.2.2<=K):∃r,gD (kp N tk)=some ((List.range N).map r)∧sK N tk r:=by
 have f:=e.ports;have a:=e.takes;have c:∀t∈tk,t.1<N∧t.2.1<N:=fun t d=>⟨(e.ok t d).1,(e.ok t d).2.1⟩;obtain⟨b,i,j⟩:=xN (n:=kp N tk) g (fun t d=>by
  simp only[kp,aeW]at d;obtain⟨l,k,rfl⟩:=d;exact Dn (h l k))
 obtain rfl:b=true:=j.2 ⟨N,tk,rfl,e⟩;obtain⟨m,k,o⟩:=Rp (YM N tk) c a f;refine⟨m,?_,o⟩;unfold gD;rw[i,agv];simp only[agl,afv,if_false];have p:(kp N tk).aq=(N:Int):=rfl;rw[p,N7 _ (by omega) f,agv,T4 (L:=0) c a,agv,N7 _ (by omega) f,agv,Fc f a (fun t d=>(c t d).1) g h,agv,Us f a g h,agv];simp only;rw[k,agv]
def nw (N:Nat) (r:Nat->Int):List Nat:=(List.range N).filter fun p=>decide (r p = -1)
def GI (n:Nat) (r:Nat->Int):nw (n+1) r=if r n = -1 then nw n r++[n] else nw n r:=by
 unfold nw;rw[ahE,ahA]
 by_cases h:r n = -1
 ·rw[if_pos h,ahB (by simpa using h)];rfl
 ·rw[if_neg h,ahC (by simpa using h)];simp
def RN {r:Nat->Int} (j:N<=2000) (h:gD (kp N tk)=some ((List.range N).map r)):ib (kp N tk)=some (je (nw N r)):=by
 unfold ib;rw[h,agv];have key:=fun b c=>uB (body:=gN ((List.range N).map r)) (List.range N) (by simp;omega) (fun i l=>l=je (nw i r)) (fun l=>l=je (nw N r)) (s0:=([]:List Int)) rfl b c;have d:aK (gN ((List.range N).map r)) ((0:Int),[])=some (je (nw N r)):=by
  refine (key ?_ ?_).elim fun x ⟨e,hx⟩=>hx ▸ e
  ·rintro i x _ hx rfl;have f:i<N:=by have:=aM hx;simpa using this
   have g:(nw i r).length<=i:=by unfold nw;have:=ahz (fun p=>decide (r p = -1)) (List.range i);simpa using this
   refine⟨_,?_,rfl⟩;simp only[gN];rw[if_pos (by simp;omega),bf (cV r f),agv,aX (by omega),GI]
   by_cases a:r i = -1
   ·rw[if_pos (by rw[a];rfl),te (by rw[oV];simp;omega),agv,if_pos a];unfold je;simp
   ·rw[if_neg (by simpa using a),if_neg a]
  ·rintro _ rfl;refine⟨_,?_,rfl⟩;simp only[gN];rw[if_neg (by simp),afr]
 rw[d,agv]
end Go.Proofs.YtekhokjkphgphaaGreat.P
namespace Go.Proofs.YtekhokjkphgphaaGreat.P
open Go.RowKit
set_option maxRecDepth 100000
def abq:wF=some true:=by kernel_rfl
def WG {n:cA} (q:n.az.length<=17592186044416):∃b,n5 n=some b∧(b=true->n.az.length<=40∧(∀t∈n.az,t.bJ.bR.aa.length<=6∧t.bJ.bN.aa.length<=6)∧(n.aq<=12∨2000<n.aq)):=by
 unfold n5;have c:(n.az.take 40).length=min 40 n.az.length:=aff;rw[kS (n.az.take 40) (fun i x=>if decide ((x.bJ.bR.aa.length:Int)<=6∧(x.bJ.bN.aa.length:Int)<=6)=true then none else some false) (by omega) (fun i x f =>?_) (by
  simp only[oH]
  by_cases h:40<n.az.length
  ·rw[if_pos (by rw[c];simp;omega),agv,if_neg (by rw[c];simp;omega)]
  ·rw[if_neg (by rw[c];simp;omega),agv];rfl)]
 ·rw[agv];cases e:db (fun (i:Nat) (x:bD)=>if decide ((x.bJ.bR.aa.length:Int)<=6∧(x.bJ.bN.aa.length:Int)<=6)=true then none else some false) 0 (n.az.take 40) with
  | none =>
   have a:(n.az.length:Int)<=40->∀t∈n.az,t.bJ.bR.aa.length<=6∧t.bJ.bN.aa.length<=6:=fun h t m=>by
    obtain⟨j,o⟩:=afi m;have:=cv.1 e j t (by rw[agj (by omega)];exact o);split at this
    ·rename_i h;have:=of_decide_eq_true h;omega
    ·cases this
   simp only
   by_cases g:n.aq<=12
   ·rw[if_pos (by simpa using g)];exact⟨_,rfl,fun h=>by have k:=of_decide_eq_true h;exact⟨by omega,a k,.inl g⟩⟩
   ·rw[if_neg (by simpa using g)]
    by_cases d:n.aq>2000
    ·rw[if_pos (by simpa using d)];exact⟨_,rfl,fun h=>by have k:=of_decide_eq_true h;exact⟨by omega,a k,.inr d⟩⟩
    ·rw[if_neg (by simpa using d)];exact⟨_,rfl,fun h=>by cases h⟩
  | some r =>
   obtain⟨j,x,_,d,_⟩:=de e;split at d
   ·cases d
   ·cases d;exact⟨false,rfl,fun h=>by cases h⟩
 ·have p:=aM f;rw[c]at p;rw[afc,if_pos (by omega)]at f;simp only[oH];rw[if_pos (by simp;omega),agv,if_pos (by simp;omega),bf f,agv,aaU,agv]
  by_cases l:(x.bJ.bR.aa.length:Int)<=6∧(x.bJ.bN.aa.length:Int)<=6
  ·rw[decide_eq_true l,aX (by omega)];rfl
  ·rw[decide_eq_false l];rfl
def aa4 {N K:Nat} {tk:List Tk} (a:AK N tk) (f:K<=1000000) (g:∀t∈tk,LF t.2.2<=K) {p:Nat} (h:p<N):lx (kp N tk) (p:Int)=some (cR (dS tk p)):=by
 have i:=a.ports;obtain⟨b,d,e⟩:=xN (n:=kp N tk) f (fun t c=>by
  simp only[kp,aeW]at c;obtain⟨j,k,rfl⟩:=c;exact Dn (g j k))
 obtain rfl:b=true:=e.2 ⟨N,tk,rfl,a⟩;unfold lx;have l:(kp N tk).aq=(N:Int):=rfl;rw[d,agv,jc,agv,l,wrap64 (by omega) (by omega),decide_eq_true (show (0:Int)<=(p:Int)∧(p:Int)<=(N:Int)-1 by omega),Fc i a.takes (fun t c=>(a.ok t c).1) f g,agv,bf (cV _ h)];rfl
section
variable {N:Nat} {tk:List Tk} {r:Nat->Int}
end
def ij:List Rat->Rat
 | []=>0
 | q::l=>q+ij l
def CQ (a b:List Rat):ij (a++b)=ij a+ij b:=by
 induction a with
 | nil=>rw[agF,ij,Rat.zero_add]
 | cons q a c=>rw[agP,ij,ij,c];grind
def Pu {l:List Rat} (h:∀q∈l,0<=q):0<=ij l:=by
 induction l with
 | nil=>simp[ij]
 | cons q l a =>
  have c:=h q (ags ..);have d:=a fun x b=>h x (agt _ b);simp only[ij];grind
def Di {K:Nat} {l:List Rat} (h:∀q∈l,LF q<=K):LF (ij l)<=1+l.length*(K+1):=by
 induction l with
 | nil=>simp only[ij];exact aeZ (DI (n:=0) (by decide)) (by omega)
 | cons q l a =>
  have c:=h q (ags ..);have d:=a fun x b=>h x (agt _ b);have e:=AH q (ij l);simp only[ij,List.length_cons];rw[afS];omega
def H5 {a b:Rat} : J9 a b=0↔a=b:=by
 unfold J9
 by_cases c:a<b
 ·rw[if_pos c];constructor
  ·intro h;cases h
  ·intro h;grind
 ·rw[if_neg c]
  by_cases d:b<a
  ·rw[if_pos d];constructor
   ·intro h;cases h
   ·intro h;grind
  ·rw[if_neg d];constructor
   ·intro _;grind
   ·intro _;rfl
def sL (l:List aw):Prop:=∃a:List Rat,l=a.map cR∧(∀q∈a,0<=q)∧ij a=1
def ZR {a b:Rat} (h:LF a+LF b+1<=cP):p8 (cR a) (cR b)=some (cR (a+b)):=by
 unfold p8;rw[ZF h];rfl
def X9 {l:List aw} (E:l.length<=100) (F:∀f∈l,f.bR.aa.length<=6∧f.bN.aa.length<=6):∃b,qw l=some b∧(b=true↔sL l):=by
 have G:cP=4398046511104:=rfl;have j:jY 0=some (cR 0):=ZI (n:=0) (by decide);unfold qw;rw[j,agv];obtain⟨q,o,v⟩:=cn (body:=p9 l)
  (fun i H=>∃c:List Rat,l.take i=c.map cR∧(∀q∈c,0<=q∧LF q<=6)∧H=((i:Int),(cR (ij c)).bR.ak,(cR (ij c)).bR.aa,(cR (ij c)).bN.ak,(cR (ij c)).bN.aa)) l.length
  (fun q=>(q=.inr false∧¬sL l)∨∃c:List Rat,l=c.map cR∧(∀q∈c,0<=q∧LF q<=6)∧q=.inl ((cR (ij c)).bR.ak,(cR (ij c)).bR.aa,(cR (ij c)).bN.ak,(cR (ij c)).bN.aa))
  (s:=(0,(cR 0).bR.ak,(cR 0).bR.aa,(cR 0).bN.ak,(cR 0).bN.aa)) ⟨[],rfl,fun q g=>by simp at g,rfl⟩ (gM (by omega)) (by
   rintro i _ O ⟨c,u,g,rfl⟩;simp only[p9];have I:c.length=i:=by
    have:=congrArg List.length u;simp only[aff,afq]at this;omega
   by_cases e:i<l.length
   ·have D:l[i]? = some l[i]:=ae9 e;have w:=F _ (ae8 e);have p:l.take (i+1)=l.take i++[l[i]]:=ahx e;have d:l[i]∈l:=ae8 e;generalize l[i]=f at D w p d;rw[if_pos (by simpa using e),bf D,agv,DS ⟨by unfold jt;omega,by unfold jt;omega⟩,agv];cases k:okF f with
    | false =>
     right;refine⟨_,rfl,.inl ⟨rfl,?_⟩⟩;rintro⟨r,o,_,_⟩;rw[o]at d;obtain⟨q,_,rfl⟩:=aeW.1 d;rw[FG]at k;cases k
    | true =>
     obtain⟨q,rfl⟩:=xE.1 k;have y:LF q<=6:=pS w.1 w.2;simp only[agl,afv,if_false];rw[DT (by omega),agv]
     by_cases hneg:q<0
     ·right;refine⟨_,by rw[if_pos (decide_eq_true (oI.2 hneg))],.inl ⟨rfl,?_⟩⟩;rintro⟨r,o,v,_⟩;rw[o]at d;obtain⟨J,z,A⟩:=aeW.1 d;have:=v J z;rw[sf A]at this;grind
     ·left;refine⟨e,?_⟩;have B:=Di (K:=6) (l:=c) fun x t=>(g x t).2;have L:p8 (cR (ij c)) (cR q)=some (cR (ij c+q)):=ZR (by omega);rw[if_neg (by rw[decide_eq_true_eq];exact fun h=>hneg (oI.1 h)),aX (by omega)];refine⟨_,by erw [L];rfl,c++[q],?_,?_,?_⟩
      ·rw[p,u,agn];rfl
      ·intro x t;rcases agr.1 t with h|h
       ·exact g x h
       ·rw[afj.1 h];exact⟨by grind,y⟩
      ·have:ij (c++[q])=ij c+q:=by rw[CQ];simp only[ij];grind
       rw[this]
   ·right;have:i=l.length:=by omega
    subst this;rw[agY]at u;exact⟨_,by rw[if_neg (by simp)],.inr ⟨c,u,g,rfl⟩⟩)
 erw [o];rw[agv];rcases v with⟨rfl,C⟩|⟨c,rfl,g,rfl⟩
 ·exact⟨false,rfl,by simp[C]⟩
 ·have m:jY 1=some (cR 1):=ace;simp only[afq]at E;have B:=Di (K:=6) (l:=c) fun x t=>(g x t).2;have M:LF (1:Rat)<=1:=DI (n:=1) (by decide);have N:jl (cR (ij c)) (cR 1)=some (J9 (ij c) 1):=TY (by omega);simp only;rw[m,agv];refine⟨_,by erw [N];rfl,?_⟩;rw[beq_iff_eq,H5];constructor
  ·intro h;exact⟨c,rfl,fun q h=>(g q h).1,h⟩
  ·rintro⟨r,A,_,h⟩;rw[(List.map_inj_right fun a b=>sf).1 A];exact h
def rM (f:cJ) (i:Nat):List aw:=f.av.map fun l=>(l[i]?).getD (aw.mk (aG.mk 0 ([])) (aG.mk 0 ([])))
structure HC (f:cJ):Prop where
 srcs:f.ah.length<=100
 outs:f.aB.length<=100
 rows:f.av.length=f.aB.length
 out:∀x∈f.aB,0<=x.ba∧x.ba<=3∧0<=x.aZ
 row:∀l∈f.av,l.length=f.ah.length
 src:∀x∈f.ah,0<=x.ba∧x.ba<=2∧0<=x.aZ
 col:∀i,i<f.ah.length->sL (rM f i)
structure ll (f:cJ):Prop where
 srcs:f.ah.length<=5
 outs:f.aB.length<=5
 rows:f.av.length<=8
 row:∀l∈f.av,l.length<=8∧∀x∈l,x.bR.aa.length<=4∧x.bN.aa.length<=4
def Wb {f:cJ} {i:Nat} (t:i<f.ah.length) (u:f.av.length=f.aB.length) (a:∀l∈f.av,l.length=f.ah.length) (v:f.aB.length<=100) :
  ∃c:List aw,aK (gF f (i:Int)) ((0:Int),List.replicate f.aB.length (aw.mk (aG.mk 0 ([])) (aG.mk 0 ([]))))=some c∧f.av.map (fun l=>l[i]?)=c.map some:=by
 have key:=fun h b=>uB (body:=gF f (i:Int)) f.aB (by omega)
  (fun k (c:List aw)=>c.length=f.aB.length∧∀j,j<k->(f.av.map (fun l=>l[i]?))[j]? = some c[j]?) (fun c=>f.av.map (fun l=>l[i]?)=c.map some) (s0:=List.replicate f.aB.length (aw.mk (aG.mk 0 ([])) (aG.mk 0 ([]))))
  ⟨by simp,fun j m=>by omega⟩ h b
 refine (key ?_ ?_)
 ·rintro k x c q ⟨d,n⟩;have r:=aM q;have g:f.av[k]? = some (f.av[k]'(by omega)):=ae9 _;have s:=a _ (afo g);generalize f.av[k]'(by omega)=l at g s;have e:l[i]? = some (l[i]'(by omega)):=ae9 _;have o:c[k]? = some (c[k]'(by omega)):=ae9 _;refine⟨c.set k (l[i]'(by omega)),?_,?_,?_⟩;rotate_left
  ·simpa using d
  ·intro j m
   by_cases p:j=k
   ·subst p;rw[aeU,g,ahv (by omega)];exact congrArg some e
   ·rw[n j (by omega),ahw (by omega)]
  ·simp only[gF];rw[if_pos (by simpa using r),bf g,agv,bf e,agv,bf o,agv,afW,aX (by omega)]
 ·rintro c ⟨d,n⟩;refine⟨_,by simp only[gF];rw[if_neg (by simp)],?_⟩;apply ag2;intro j
  by_cases m:j<f.aB.length
  ·rw[n j m,aeU,ae9 (by omega)];rfl
  ·rw[agx (by simp;omega),agx (by simp;omega)]
def aaN {f:cJ} {i:Nat} {c:List aw} (h:f.av.map (fun l=>l[i]?)=c.map some):c=rM f i:=by
 have:=congrArg (List.map fun x:Option aw=>x.getD (aw.mk (aG.mk 0 ([])) (aG.mk 0 ([])))) h;rw[List.map_map,List.map_map]at this;have a:c.map ((fun x:Option aw=>x.getD (aw.mk (aG.mk 0 ([])) (aG.mk 0 ([])))) ∘ some)=c:=by
  rw[show ((fun x:Option aw=>x.getD (aw.mk (aG.mk 0 ([])) (aG.mk 0 ([])))) ∘ some)=id from rfl,List.map_id]
 rw[a]at this;exact this.symm
def K9 {f:cJ} (v:ll f):∃b,jF f=some b∧(b=true↔HC f):=by
 open Classical in
 have F:=v.srcs;have G:=v.outs;unfold jF;rw[if_neg (by simp;omega),if_neg (by simp;omega),agv]
 by_cases hr:f.av.length=f.aB.length
 rotate_left
 ·rw[if_pos (by simpa using fun h=>hr (by omega))];exact⟨false,rfl,by simp only[afv,false_iff];exact fun h=>hr h.rows⟩
 rw[if_neg (by simp[hr])];rw[kS f.aB (fun i x=>if (0<=x.ba∧x.ba<=3)∧0<=x.aZ∧(f.av.getD i []).length=f.ah.length then none else some false) (by omega) (fun i x g =>?_) (by simp only[kD];rw[if_neg (by simp)])];rotate_left
 ·have u:=aM g;have p:f.av[i]? = some (f.av.getD i []):=by rw[afz,ae9 (by omega)];rfl
  simp only[kD];rw[if_pos (by simpa using u),bf g,agv,jc,agv,aX (by omega)]
  by_cases h1:0<=x.ba∧x.ba<=3
  ·rw[decide_eq_true h1,if_neg (by simp)]
   by_cases a:x.aZ<0
   ·rw[if_pos (by simpa using a),if_neg (by omega)]
   ·rw[if_neg (by simpa using a),bf p,agv]
    by_cases h3:(f.av.getD i []).length=f.ah.length
    ·rw[if_neg (by rw[h3];simp),if_pos ⟨h1,by omega,h3⟩]
    ·rw[if_pos (by rw[bne_iff_ne];intro h;exact h3 (by omega)),if_neg (fun h=>h3 h.2.2)]
  ·rw[decide_eq_false h1,if_pos (by simp),if_neg (by omega)]
 rw[agv];cases r:db (fun (i:Nat) (x:uf)=>if (0<=x.ba∧x.ba<=3)∧0<=x.aZ∧(f.av.getD i []).length=f.ah.length then none else some false) 0 f.aB with
 | some q =>
  obtain⟨j,x,h1,a,_⟩:=de r;rw[afH]at a;have e:=aM h1;split at a
  ·cases a
  ·rename_i d;cases a;refine⟨false,rfl,?_⟩;simp only[afv,false_iff];intro s;have o:=s.out x (afo h1);have p:f.av[j]? = some (f.av.getD j []):=by rw[afz,ae9 (by omega)];rfl
   exact d ⟨⟨o.1,o.2.1⟩,o.2.2,s.row _ (afo p)⟩
 | none =>
  have k:∀(j:Nat) x,f.aB[j]? = some x->(0<=x.ba∧x.ba<=3)∧0<=x.aZ∧(f.av.getD j []).length=f.ah.length:=fun j x h=>by
   have:=cv.1 r j x h;rw[afH]at this;split at this
   ·assumption
   ·cases this
  have m:∀l∈f.av,l.length=f.ah.length:=fun l w=>by
   obtain⟨j,e,rfl⟩:=ag6 w;have h:=(k j _ (ae9 (by omega))).2.2;rw[afz,ae9 e]at h;exact h
  simp only;rw[kS f.ah (fun i x=>if (0<=x.ba∧x.ba<=2)∧0<=x.aZ∧sL (rM f i) then none else some false) (by omega) (fun i x g =>?_) (by simp only[kE];rw[if_neg (by simp)])];rotate_left
  ·have u:=aM g;obtain⟨c,C,D⟩:=Wb u hr m (by omega);obtain rfl:=aaN D;obtain⟨b,E,A⟩:=X9 (l:=rM f i) (by unfold rM;rw[afq];omega) (fun y B=>by
    unfold rM at B;obtain⟨l,w,rfl⟩:=aeW.1 B;have h1:=(v.row l w).2;cases p:l[i]? with
    | none=>simp
    | some z =>
     have:=h1 z (afo p);simp only[Option.getD_some];omega)
   simp only[kE];rw[if_pos (by simpa using u),bf g,agv,N7 _ (by omega) (by omega),agv,C,agv,jc,agv,aX (by omega)]
   by_cases h1:0<=x.ba∧x.ba<=2
   ·rw[decide_eq_true h1,if_neg (by simp)]
    by_cases a:x.aZ<0
    ·rw[if_pos (by simpa using a),if_neg (by omega)]
    ·rw[if_neg (by simpa using a),E,agv]
     by_cases h3:sL (rM f i)
     ·rw[A.2 h3,if_neg (by simp),if_pos ⟨h1,by omega,h3⟩]
     ·have:b=false:=by cases b with
       | false=>rfl
       | true=>exact absurd (A.1 rfl) h3
      rw[this,if_pos (by simp),if_neg (fun h=>h3 h.2.2)]
   ·rw[decide_eq_false h1,if_pos (by simp),if_neg (fun h=>h1 h.1)]
  rw[agv];cases t:db (fun (i:Nat) (x:fK)=>if (0<=x.ba∧x.ba<=2)∧0<=x.aZ∧sL (rM f i) then none else some false) 0 f.ah with
  | some q =>
   obtain⟨j,x,h1,a,_⟩:=de t;rw[afH]at a;have e:=aM h1;split at a
   ·cases a
   ·rename_i d;cases a;refine⟨false,rfl,?_⟩;simp only[afv,false_iff];intro s;have o:=s.src x (afo h1);exact d ⟨⟨o.1,o.2.1⟩,o.2.2,s.col j e⟩
  | none =>
   have n:∀(j:Nat) x,f.ah[j]? = some x->(0<=x.ba∧x.ba<=2)∧0<=x.aZ∧sL (rM f j):=fun j x h=>by
    have:=cv.1 t j x h;rw[afH]at this;split at this
    ·assumption
    ·cases this
   refine⟨true,rfl,?_⟩;simp only[true_iff];exact⟨by omega,by omega,hr,fun x g=>by
    obtain⟨j,e⟩:=afi g;have:=k j x e;exact⟨this.1.1,this.1.2,this.2.1⟩,m,fun x g=>by
    obtain⟨j,e⟩:=afi g;have:=n j x e;exact⟨this.1.1,this.1.2,this.2.1⟩,fun j e=>(n j _ (ae9 e)).2.2⟩
def s6 (n:Nat):List Int:=(List.range n).map fun (i:Nat)=>(i:Int)
def PD {n i:Nat} (h:i<n):(s6 n)[i]? = some (i:Int):=cV (fun (i:Nat)=>(i:Int)) h
def tM (n:Nat):(s6 n).length=n:=BI _
def PE (n:Nat):(s6 n).Pairwise (fun x y=>x<=y):=by
 unfold s6;rw[ag4];exact (agC (n:=n)).imp fun h=>by omega
def Gx (l:List Int):(pM l).Perm l:=List.mergeSort_perm l _
def Lh (l:List Int):(pM l).Pairwise (fun x y=>x<=y):=by
 have:=List.pairwise_mergeSort (le:=fun x y:Int=>decide (x<=y)) (fun a b c d e=>by simp only[decide_eq_true_eq]at *;omega) (fun a b=>by simp only[agw,decide_eq_true_eq];omega) l;exact this.imp fun h=>by simpa using h
def UY:∀ {l m:List Int},l.Perm m->l.Pairwise (fun x y=>x<=y)->m.Pairwise (fun x y=>x<=y)->l=m:=fun e c d=>List.Perm.eq_of_pairwise (le:=fun x y:Int=>x<=y) (fun a b _ _ c d=>by omega) c d e
def FB {l:List Int} (t:l.length<=100) (n:Nat):∃b,j8 l (n:Int)=some b∧(b=true↔l.Perm (s6 n)):=by
 unfold j8 oJ cO LC DA;rw[agv,if_pos (by omega),agv];have p:=qC l;have a:l.Perm (s6 n)↔pM l=s6 n:=⟨fun h=>UY ((Gx l).trans h) (Lh l) (PE n),fun h=>h ▸ (Gx l).symm⟩;rw[a];rw[kS (pM l) (fun i x=>if (i:Int)=x then none else some false) (by omega) (fun i x k =>?_) (by simp only[mQ];rw[if_neg (by simp)])];rotate_left
 ·have r:=aM k;simp only[mQ];rw[if_pos (by simpa using r),bf k,agv,aX (by omega)]
  by_cases h:(i:Int)=x
  ·rw[if_neg (by simp[h]),if_pos h]
  ·rw[if_pos (by simpa using h),if_neg h]
 rw[agv];cases m:db (fun (i:Nat) (x:Int)=>if (i:Int)=x then none else some false) 0 (pM l) with
 | some q =>
  obtain⟨j,x,e,f,_⟩:=de m;rw[afH]at f;split at f
  ·cases f
  ·rename_i c;cases f;refine⟨false,rfl,?_⟩;simp only[afv,false_iff];intro s;rw[s]at e;have g:=aM e;rw[tM]at g;rw[PD g]at e;exact c (ag0 e)
 | none =>
  have d:∀(j:Nat) x,(pM l)[j]? = some x->(j:Int)=x:=fun j x h=>by
   have:=cv.1 m j x h;rw[afH]at this;split at this
   ·assumption
   ·cases this
  refine⟨_,rfl,?_⟩;rw[beq_iff_eq];constructor
  ·intro h;apply ag2;intro j
   by_cases g:j<n
   ·have o:(pM l)[j]? = some ((pM l)[j]'(by omega)):=ae9 _;rw[PD g,o,<- d j _ o]
   ·rw[agx (by omega),agx (by rw[tM];omega)]
  ·intro h;rw[h,tM]
structure mB (m:bF) (ports:Nat):Prop where
 flow:HC m.an
 takes:((m.an.ah.filter fun x=>x.ba==1).map (·.aZ)).Perm (s6 m.aL.length)
 gives:((m.an.aB.filter fun x=>x.ba==0).map (·.aZ)).Perm (s6 m.aq.length)
 uses:∀u∈m.aL,(0<=u.b7∧u.b7<ports)∧1<=u.a7∧u.a7<=1099511627776
 ports:∀p∈m.aq,0<=p∧p<(ports:Int)
def Px {m:bF} (h:m.an.ah.length<=100):aK (mh m) ((0:Int),[])=some ((m.an.ah.filter fun x=>x.ba==1).map (·.aZ)):=by
 have key:=fun c a=>uB (body:=mh m) m.an.ah (by omega) (fun i (l:List Int)=>l=((m.an.ah.take i).filter fun x=>x.ba==1).map (·.aZ)) (fun l=>l=(m.an.ah.filter fun x=>x.ba==1).map (·.aZ)) (s0:=[]) rfl c a;refine (key ?_ ?_).elim fun x ⟨g,hx⟩=>hx ▸ g
 ·rintro i x _ hx rfl;have j:=aM hx;have d:m.an.ah.take (i+1)=m.an.ah.take i++[x]:=by
   obtain⟨e,k⟩:=afp.1 hx;rw[ahx e,k]
  have f:=ahz (fun x:fK=>x.ba==1) (m.an.ah.take i);rw[aff]at f;refine⟨_,?_,rfl⟩;simp only[mh];rw[if_pos (by simpa using j),bf hx,agv,aX (by omega),d,ahA]
  by_cases b:x.ba=1
  ·rw[if_pos (by simpa using b),te (by rw[afq];simp only[List.length_cons,List.length_nil];omega),agv,ahB (by simpa using b),agn];rfl
  ·rw[if_neg (by simpa using b),ahC (by simpa using b)];simp
 ·rintro _ rfl;refine⟨_,?_,rfl⟩;simp only[mh];rw[if_neg (by simp),agY]
def NB {m:bF} (h:m.an.aB.length<=100):aK (mi m) ((0:Int),[])=some ((m.an.aB.filter fun x=>x.ba==0).map (·.aZ)):=by
 have key:=fun c a=>uB (body:=mi m) m.an.aB (by omega) (fun i (l:List Int)=>l=((m.an.aB.take i).filter fun x=>x.ba==0).map (·.aZ)) (fun l=>l=(m.an.aB.filter fun x=>x.ba==0).map (·.aZ)) (s0:=[]) rfl c a;refine (key ?_ ?_).elim fun x ⟨g,hx⟩=>hx ▸ g
 ·rintro i x _ hx rfl;have j:=aM hx;have d:m.an.aB.take (i+1)=m.an.aB.take i++[x]:=by
   obtain⟨e,k⟩:=afp.1 hx;rw[ahx e,k]
  have f:=ahz (fun x:uf=>x.ba==0) (m.an.aB.take i);rw[aff]at f;refine⟨_,?_,rfl⟩;simp only[mi];rw[if_pos (by simpa using j),bf hx,agv,aX (by omega),d,ahA]
  by_cases b:x.ba=0
  ·rw[if_pos (by simpa using b),te (by rw[afq];simp only[List.length_cons,List.length_nil];omega),agv,ahB (by simpa using b),agn];rfl
  ·rw[if_neg (by simpa using b),ahC (by simpa using b)];simp
 ·rintro _ rfl;refine⟨_,?_,rfl⟩;simp only[mi];rw[if_neg (by simp),agY]
def abc (u:fv) {a:Nat} (e:a<=2000):∃b,nV u (a:Int)=some b∧(b=false↔(0<=u.b7∧u.b7<a)∧1<=u.a7∧u.a7<=1099511627776):=by
 unfold nV;rw[jc,agv,fW (by omega)]
 by_cases c:0<=u.b7∧u.b7<=(a:Int)-1
 ·rw[decide_eq_true c,if_neg (by simp),jc,agv];refine⟨_,rfl,?_⟩
  by_cases d:1<=u.a7∧u.a7<=1099511627776
  ·rw[decide_eq_true d];simp;omega
  ·rw[decide_eq_false d];simp;omega
 ·rw[decide_eq_false c,if_pos (by simp)];exact⟨true,rfl,by simp;omega⟩
def aaT (p:Int) {a:Nat} (d:a<=2000):∃b,nW p (a:Int)=some b∧(b=false↔0<=p∧p<a):=by
 unfold nW;rw[jc,agv,fW (by omega)];refine⟨_,rfl,?_⟩
 by_cases c:0<=p∧p<=(a:Int)-1
 ·rw[decide_eq_true c];simp;omega
 ·rw[decide_eq_false c];simp;omega
def Y0 {l:List fv} (r:l.length<=100) {a:Nat} (g:a<=2000):∃b,b9 l (a:Int)=some b∧(b=false↔∀u∈l,(0<=u.b7∧u.b7<a)∧1<=u.a7∧u.a7<=1099511627776):=by
 unfold b9 cW;rw[kS l (fun i u=>if (0<=u.b7∧u.b7<a)∧1<=u.a7∧u.a7<=1099511627776 then none else some (i:Int)) (by omega) (fun i x e =>?_) (by simp only[dy];rw[if_neg (by simp)])];rotate_left
 ·have k:=aM e;obtain⟨b,m,c⟩:=abc x g;simp only[dy];rw[if_pos (by simpa using k),bf e,agv,m,agv,aX (by omega)];cases b with
  | false=>rw[if_pos (c.1 rfl)];rfl
  | true =>
   simp only[ahF,false_iff]at c;simp only[if_true];rw[if_neg c]
 cases f:db (fun (i:Nat) (u:fv)=>if (0<=u.b7∧u.b7<a)∧1<=u.a7∧u.a7<=1099511627776 then none else some (i:Int)) 0 l with
 | none =>
  refine⟨false,rfl,?_⟩;simp only[true_iff];intro u n;obtain⟨j,o⟩:=afi n;have:=cv.1 f j u o;split at this
  ·assumption
  ·cases this
 | some q =>
  obtain⟨j,x,p,d,_⟩:=de f;split at d
  ·cases d
  ·rename_i hbad;cases d;refine⟨true,by simp,?_⟩;simp only[ahF,false_iff];exact fun h=>hbad (h x (afo p))
def YG {l:List Int} (s:l.length<=100) {a:Nat} (g:a<=2000):∃b,ca l (a:Int)=some b∧(b=false↔∀p∈l,0<=p∧p<(a:Int)):=by
 unfold ca cX;rw[kS l (fun i p=>if 0<=p∧p<(a:Int) then none else some (i:Int)) (by omega) (fun i x e =>?_) (by simp only[dz];rw[if_neg (by simp)])];rotate_left
 ·have k:=aM e;obtain⟨b,m,c⟩:=aaT x g;simp only[dz];rw[if_pos (by simpa using k),bf e,agv,m,agv,aX (by omega)];cases b with
  | false=>rw[if_pos (c.1 rfl)];rfl
  | true =>
   simp only[ahF,false_iff]at c;simp only[if_true];rw[if_neg c]
 cases f:db (fun (i:Nat) (p:Int)=>if 0<=p∧p<(a:Int) then none else some (i:Int)) 0 l with
 | none =>
  refine⟨false,rfl,?_⟩;simp only[true_iff];intro u n;obtain⟨j,o⟩:=afi n;have:=cv.1 f j u o;split at this
  ·assumption
  ·cases this
 | some q =>
  obtain⟨j,x,r,d,_⟩:=de f;split at d
  ·cases d
  ·rename_i hbad;cases d;refine⟨true,by simp,?_⟩;simp only[ahF,false_iff];exact fun h=>hbad (h x (afo r))
def YH {m:bF} {ports:Nat} (c:ports<=2000) (a:ll m.an) (A:m.aL.length<=6) (j:m.aq.length<=6):∃b,tB m (ports:Int)=some b∧(b=true↔mB m ports):=by
 have B:=a.srcs;have C:=a.outs;obtain⟨k,n,d⟩:=K9 a;unfold tB;rw[n,agv];cases k with
 | false=>exact⟨false,rfl,by simp only[afv,false_iff];exact fun h=>by have:=d.2 h.flow;cases this⟩
 | true =>
 have o:=d.1 rfl;have p:=ahz (fun x:fK=>x.ba==1) m.an.ah;have q:=ahz (fun x:uf=>x.ba==0) m.an.aB;obtain⟨r,s,e⟩:=FB (l:=(m.an.ah.filter fun x=>x.ba==1).map (·.aZ)) (by rw[afq];omega) m.aL.length;obtain⟨t,u,f⟩:=FB (l:=(m.an.aB.filter fun x=>x.ba==0).map (·.aZ)) (by rw[afq];omega) m.aq.length;obtain⟨v,w,g⟩:=Y0 (l:=m.aL) (by omega) c;obtain⟨y,z,i⟩:=YG (l:=m.aq) (by omega) c;simp only[agl,afv,if_false];rw[Px (by omega),agv,NB (by omega),agv,s,agv];cases r with
 | false=>exact⟨false,rfl,by simp only[afv,false_iff];exact fun h=>by have:=e.2 h.takes;cases this⟩
 | true =>
 simp only[if_true];rw[u,agv];cases t with
 | false=>exact⟨false,rfl,by simp only[afv,false_iff];exact fun h=>by have:=f.2 h.gives;cases this⟩
 | true =>
 simp only[if_true];rw[w,agv];cases v with
 | true=>exact⟨false,rfl,by simp only[afv,false_iff];exact fun h=>by have:=g.2 h.uses;cases this⟩
 | false =>
 simp only[Bool.not_false,if_true];rw[z,agv];refine⟨_,rfl,?_⟩;cases y with
 | true=>simp only[agl,afv,false_iff];exact fun h=>by have:=i.2 h.ports;cases this
 | false=>simp only[Bool.not_false,true_iff];exact⟨o,e.1 rfl,f.1 rfl,g.1 rfl,i.1 rfl⟩
def aaV {l:List aw} (g:l.length<=8):(aK (eo l) 0=some (.inl ())∧∀x∈l,x.bR.aa.length<=4∧x.bN.aa.length<=4)∨aK (eo l) 0=some (.inr false):=by
 have b:=kS l (body:=eo l) (fun (i:Nat) (x:aw)=>if (x.bR.aa.length:Int)<=4∧(x.bN.aa.length:Int)<=4 then none else some false) (by omega) (fun i x a=>by
  have e:=aM a;simp only[eo];rw[if_pos (by simpa using e),bf a,agv,aaU,agv,aX (by omega)]
  by_cases h:(x.bR.aa.length:Int)<=4∧(x.bN.aa.length:Int)<=4
  ·rw[decide_eq_true h,if_neg (by simp),if_pos h]
  ·rw[decide_eq_false h,if_pos (by simp),if_neg h]) (by simp only[eo];rw[if_neg (by simp)])
 rw[b];cases d:db (fun (i:Nat) (x:aw)=>if (x.bR.aa.length:Int)<=4∧(x.bN.aa.length:Int)<=4 then none else some false) 0 l with
 | none =>
  refine .inl ⟨rfl,fun x a =>?_⟩;obtain⟨j,f⟩:=afi a;have:=cv.1 d j x f;split at this
  ·omega
  ·cases this
 | some q =>
  obtain⟨j,x,_,c,_⟩:=de d;split at c
  ·cases c
  ·cases c;exact .inr rfl
def Uk (f:cJ):∃b,ke f=some b∧(b=true->ll f):=by
 unfold ke
 by_cases o:f.ah.length<=5
 rotate_left
 ·exact⟨false,by rw[if_pos (by simp;omega)];rfl,fun h=>by cases h⟩
 by_cases e:f.aB.length<=5
 rotate_left
 ·exact⟨false,by rw[if_neg (by simp;omega),if_pos (by simp;omega)];rfl,fun h=>by cases h⟩
 by_cases p:f.av.length<=8
 rotate_left
 ·exact⟨false,by rw[if_neg (by simp;omega),if_neg (by simp;omega),decide_eq_true (by omega)];rfl,fun h=>by cases h⟩
 rw[if_neg (by simp;omega),if_neg (by simp;omega),decide_eq_false (by omega),agv,if_neg (by simp)]
 open Classical in
 rw[kS f.av (fun i l=>if l.length<=8∧∀x∈l,x.bR.aa.length<=4∧x.bN.aa.length<=4 then none else some false) (by omega) (fun i l d =>?_) (by simp only[mW];rw[if_neg (by simp)])];rotate_left
 ·have k:=aM d;simp only[mW];rw[if_pos (by simpa using k),bf d,agv,aX (by omega)]
  by_cases h:l.length<=8
  ·rw[if_neg (by simp;omega)];rcases aaV h with⟨g,r⟩|g
   ·rw[g,if_pos ⟨h,r⟩];rfl
   ·rw[g]
    by_cases hs:∀x∈l,x.bR.aa.length<=4∧x.bN.aa.length<=4
    ·exfalso;have c:=kS l (body:=eo l) (fun (i:Nat) (x:aw)=>(none:Option Bool)) (by omega) (fun i x d=>by
      have k:=aM d;have:=hs x (afo d);simp only[eo];rw[if_pos (by simpa using k),bf d,agv,aaU,agv,aX (by omega),decide_eq_true (by omega),if_neg (by simp)]) (by simp only[eo];rw[if_neg (by simp)])
     rw[g]at c;have m:∀(l:List aw) i,db (fun _ _=>(none:Option Bool)) i l=none:=by
      intro l
      induction l with
      | nil=>intro i;rfl
      | cons a l s=>intro i;simp only[db];exact s _
     rw[m]at c;cases c
    ·rw[if_neg (fun h=>hs h.2)];rfl
  ·rw[if_pos (by simp;omega),if_neg (fun t=>h t.1)]
 rw[agv];cases n:db (fun (i:Nat) (l:List aw)=>if l.length<=8∧∀x∈l,x.bR.aa.length<=4∧x.bN.aa.length<=4 then none else some false) 0 f.av with
 | none =>
  refine⟨true,rfl,fun _=>⟨o,e,p,fun l u =>?_⟩⟩;obtain⟨j,v⟩:=afi u;have:=cv.1 n j l v;split at this
  ·assumption
  ·cases this
 | some q =>
  obtain⟨j,x,_,e,_⟩:=de n;split at e
  ·cases e
  ·cases e;exact⟨false,rfl,fun h=>by cases h⟩
structure yC (w:bg):Prop where
 given:w.al.length<=6
 mills:w.ao.length<=5
 mill:∀m∈w.ao,ll m.an∧m.aL.length<=6∧m.aq.length<=6
def WH (w:bg):∃b,xL w=some b∧(b=true->yC w):=by
 unfold xL
 by_cases f:w.al.length<=6
 rotate_left
 ·exact⟨false,by rw[if_pos (by simp;omega)];rfl,fun h=>by cases h⟩
 by_cases a:w.ao.length<=5
 rotate_left
 ·exact⟨false,by rw[if_neg (by simp;omega),decide_eq_true (by omega)];rfl,fun h=>by cases h⟩
 rw[if_neg (by simp;omega),decide_eq_false (by omega),agv,if_neg (by simp)];have c:∀m:bF,∃b,ke m.an=some b∧(b=true->ll m.an):=fun m=>Uk m.an;obtain⟨B,c⟩:=Classical.axiomOfChoice c;rw[kS w.ao (fun i m=>if B m=true∧m.aL.length<=6∧m.aq.length<=6 then none else some false) (by omega) (fun i m d =>?_) (by simp only[uX];rw[if_neg (by simp)])];rotate_left
 ·have g:=aM d;simp only[uX];rw[if_pos (by simpa using g),bf d,agv,(c m).1,agv,aX (by omega)];cases n:B m with
  | false=>rfl
  | true =>
   simp only[agl,afv,if_false,true_and]
   by_cases q1:m.aL.length<=6
   ·rw[if_neg (by simp;omega)]
    by_cases q2:m.aq.length<=6
    ·rw[if_neg (by simp;omega),if_pos ⟨q1,q2⟩]
    ·rw[if_pos (by simp;omega),if_neg (fun h=>q2 h.2)]
   ·rw[if_pos (by simp;omega),if_neg (fun h=>q1 h.1)]
 rw[agv];cases e:db (fun (i:Nat) (m:bF)=>if B m=true∧m.aL.length<=6∧m.aq.length<=6 then none else some false) 0 w.ao with
 | none =>
  refine⟨true,rfl,fun _=>⟨f,a,fun m k =>?_⟩⟩;obtain⟨j,l⟩:=afi k;have:=cv.1 e j m l;split at this
  ·rename_i h;exact⟨(c m).2 h.1,h.2⟩
  ·cases this
 | some q =>
  obtain⟨j,x,_,a,_⟩:=de e;split at a
  ·cases a
  ·cases a;exact⟨false,rfl,fun h=>by cases h⟩
def Qt (w:bg):Option (Int×Int):=db (fun (i:Nat) (n:Int)=>if 1<=n∧n<=1099511627776 then none else some ((3:Int),(i:Int))) 0 w.al
def QX {w:bg} (h:w.al.length<=2000):aK (kq w) 0=some (match Qt w with|none =>.inl ()|some r =>.inr r):=by
 refine Eq.trans (kS w.al (body:=kq w) (fun (i:Nat) (n:Int)=>if 1<=n∧n<=1099511627776 then none else some ((3:Int),(i:Int))) (by omega) (fun i x a =>?_) ?_) ?_
 ·have b:=aM a;simp only[kq];rw[if_pos (by simpa using b),bf a,agv,jc,agv,aX (by omega)]
  by_cases h:1<=x∧x<=1099511627776
  ·rw[decide_eq_true h,if_neg (by simp),if_pos h]
  ·rw[decide_eq_false h,if_pos (by simp),if_neg h]
 ·simp only[kq];rw[if_neg (by simp)]
 ·unfold Qt;cases db (fun (i:Nat) (n:Int)=>if 1<=n∧n<=1099511627776 then none else some ((3:Int),(i:Int))) 0 w.al<;>rfl
def RL {m:bF} {N:Nat} (v:N<=2000) (w:m.aq.length<=6) (g:∀p∈m.aq,0<=p∧p<(N:Int)) (t:Nat->Int) (n:∀q,q<N->0<=t q∧t q<=1000000) :
  aK (kr m) ((0:Int),(List.range N).map t)=some ((List.range N).map fun q=>t q+(m.aq.count (q:Int):Int)):=by
 have key:=fun b a=>uB (body:=kr m) m.aq (by omega) (fun i (l:List Int)=>l=(List.range N).map fun q=>t q+((m.aq.take i).count (q:Int):Int)) (fun l=>l=(List.range N).map fun q=>t q+(m.aq.count (q:Int):Int)) (s0:=(List.range N).map t)
  (agp fun q _=>by simp) b a
 refine (key ?_ ?_).elim fun x ⟨e,hx⟩=>hx ▸ e
 ·rintro i p _ hx rfl;have o:=aM hx;obtain⟨e,y⟩:=g p (afo hx);obtain⟨k,rfl⟩:∃k:Nat,p=k:=⟨p.toNat,by omega⟩;have f:k<N:=by omega
  have r:∀q:Nat,(m.aq.take i).count (q:Int)<=6:=fun q=>aeZ (List.count_le_length ..) (by rw[aff];omega);have s:=r k;have c:m.aq.take (i+1)=m.aq.take i++[(k:Int)]:=by
   obtain⟨d,u⟩:=afp.1 hx;rw[ahx d,u]
  have z:=n k f;refine⟨_,?_,rfl⟩;simp only[kr];rw[if_pos (by simpa using o),bf hx,agv,bf (cV _ f),agv,afW,mq,aX (by omega),fW (by omega),c];have:(fun j=>if j=k then t k+((m.aq.take i).count (k:Int):Int)+1 else t j+((m.aq.take i).count (j:Int):Int))=fun q=>t q+((m.aq.take i++[(k:Int)]).count (q:Int):Int):=funext fun q=>by
   rw[List.count_append]
   by_cases hq:q=k
   ·subst hq;rw[if_pos rfl];simp;omega
   ·rw[if_neg hq,List.count_cons_of_ne (by simpa using fun h=>hq (by omega))];simp
  rw[this]
 ·rintro _ rfl;refine⟨_,?_,rfl⟩;simp only[kr];rw[if_neg (by simp),agY]
def Ly (q:Nat) (x:Int) (u:fv):Int:=if u.b7=(q:Int) then (if 1099511627777<x+u.a7 then 1099511627777 else x+u.a7) else x
def pN (q:Nat) (l:List fv) (x:Int):Int:=l.foldl (Ly q) x
def GR {q:Nat} {x:Int} {u:fv} (a:0<=x∧x<=1099511627777) (b:1<=u.a7∧u.a7<=1099511627776):0<=Ly q x u∧Ly q x u<=1099511627777:=by
 unfold Ly
 repeat' split
 all_goals omega
def sI {q:Nat} : ∀ {l:List fv} {x:Int},(0<=x∧x<=1099511627777)->(∀u∈l,1<=u.a7∧u.a7<=1099511627776)->0<=pN q l x∧pN q l x<=1099511627777
 | [],_,hx,_=>hx
 | u::l,x,hx,h=>sI (l:=l) (x:=Ly q x u) (GR hx (h u (ags ..))) fun v a=>h v (agt _ a)
def Ve {m:bF} {N:Nat} (w:N<=2000) (y:m.aL.length<=6) (f:∀u∈m.aL,(0<=u.b7∧u.b7<(N:Int))∧1<=u.a7∧u.a7<=1099511627776) (t:Nat->Int) (o:∀q,q<N->0<=t q∧t q<=1099511627777) :
  aK (ku m) ((0:Int),(List.range N).map t)=some ((List.range N).map fun q=>pN q m.aL (t q)):=by
 have key:=fun c b=>uB (body:=ku m) m.aL (by omega) (fun i (l:List Int)=>l=(List.range N).map fun q=>pN q (m.aL.take i) (t q)) (fun l=>l=(List.range N).map fun q=>pN q m.aL (t q)) (s0:=(List.range N).map t)
  (agp fun q _=>by simp[pN]) c b
 refine (key ?_ ?_).elim fun x ⟨g,hx⟩=>hx ▸ g
 ·rintro i u _ hx rfl;have p:=aM hx;obtain⟨⟨g,z⟩,A⟩:=f u (afo hx);obtain⟨k,a⟩:∃k:Nat,u.b7=k:=⟨u.b7.toNat,by omega⟩;have h:k<N:=by omega
  have d:m.aL.take (i+1)=m.aL.take i++[u]:=by
   obtain⟨e,r⟩:=afp.1 hx;rw[ahx e,r]
  have B:=sI (q:=k) (l:=m.aL.take i) (o k h) fun v s=>(f v (afD s)).2;refine⟨_,?_,rfl⟩;simp only[ku];rw[if_pos (by simpa using p),bf hx,agv,a,bf (cV _ h),agv,afW,mq,aX (by omega),fW (by omega),d];have:(fun j=>if j=k then (if 1099511627777<pN k (m.aL.take i) (t k)+u.a7 then 1099511627777 else pN k (m.aL.take i) (t k)+u.a7) else pN j (m.aL.take i) (t j))=fun q=>pN q (m.aL.take i++[u]) (t q):=funext fun q=>by
   unfold pN;rw[ahG];simp only[List.foldl_cons,List.foldl_nil]
   by_cases n:q=k
   ·subst n;rw[if_pos rfl]
    conv=>rhs;rw[Ly]
    rw[if_pos a]
   ·rw[if_neg n]
    conv=>rhs;rw[Ly]
    rw[if_neg (by rw[a];omega)]
  rw[this]
 ·rintro _ rfl;refine⟨_,?_,rfl⟩;simp only[ku];rw[if_neg (by simp),agY]
def IG {α ρ:Type} {st:Nat->α->Option ρ} {r:ρ} : ∀ {l:List α} {k i:Nat} {x:α},l[i]? = some x->st (k+i) x=some r->(∀j y,j<i->l[j]? = some y->st (k+j) y=none)->db st k l=some r
 | [],_,_,_,h,_,_=>by simp at h
 | a::l,k,0,x,h,hs,_=>by
  simp only[List.getElem?_cons_zero,ae5]at h;subst h;rw[afw]at hs;simp only[db,hs]
 | a::l,k,i+1,x,h,hs,b=>by
  have c:=b 0 a (by omega) rfl;rw[afw]at c;simp only[db,c];refine IG (k:=k+1) (i:=i) (x:=x) (by simpa using h) (by rw[<- hs];congr 1;omega) fun j y e d =>?_;have:=b (j+1) y (by omega) (by simpa using d);rw[<- this];congr 1;omega
open Classical in
def C2 (N:Nat) (a:List bF):Option (Int×Int):=db (fun (i:Nat) (m:bF)=>if mB m N then none else some ((1:Int),(i:Int))) 0 a
def GY (a:List bF) (q:Nat):Int:=a.foldl (fun x m=>x+(m.aq.count (q:Int):Int)) 0
def JW (a:List bF) (q:Nat):Int:=a.foldl (fun x m=>pN q m.aL x) 0
def Q4 {w:bg} (o:yC w) :
  (∃r,C2 w.al.length w.ao=some r∧aK (jn w) ((0:Int),List.replicate w.al.length 0,List.replicate w.al.length 0)=some (.inr r)) ∨
  (C2 w.al.length w.ao=none∧(∀m∈w.ao,mB m w.al.length)∧aK (jn w) ((0:Int),List.replicate w.al.length 0,List.replicate w.al.length 0)=some (.inl ((List.range w.al.length).map (GY w.ao),(List.range w.al.length).map (JW w.ao)))):=by
 have J:=o.given;have v:=o.mills;have g:List.replicate w.al.length (0:Int)=(List.range w.al.length).map fun _=>0:=nR (by simp) fun j p=>by rw[List.getElem?_replicate,if_pos p]
 obtain⟨q,z,E⟩:=cn (body:=jn w)
  (fun i st=>st=((i:Int),(List.range w.al.length).map (GY (w.ao.take i)),(List.range w.al.length).map (JW (w.ao.take i)))∧(∀m∈w.ao.take i,mB m w.al.length)∧∀q,(0<=GY (w.ao.take i) q∧GY (w.ao.take i) q<=6*i)∧0<=JW (w.ao.take i) q∧JW (w.ao.take i) q<=1099511627777) w.ao.length
  (fun q=>(∃r,C2 w.al.length w.ao=some r∧q=.inr r)∨(C2 w.al.length w.ao=none∧(∀m∈w.ao,mB m w.al.length)∧q=.inl ((List.range w.al.length).map (GY w.ao),(List.range w.al.length).map (JW w.ao))))
  (s:=((0:Int),List.replicate w.al.length 0,List.replicate w.al.length 0)) ⟨by rw[g];rfl,fun m v=>by simp at v,fun q=>by simp[GY,JW]⟩ (gM (by omega)) (by
   rintro i _ K ⟨rfl,a,k⟩
   by_cases c:i<w.ao.length
   ·have d:w.ao[i]? = some w.ao[i]:=ae9 c;have e:w.ao.take (i+1)=w.ao.take i++[w.ao[i]]:=ahx c;generalize w.ao[i]=m at d e;obtain⟨F,A,t⟩:=o.mill m (afo d);obtain⟨b,G,B⟩:=YH (m:=m) (ports:=w.al.length) (by omega) F A t;simp only[jn];rw[if_pos (by simpa using c),bf d,agv,G,agv];cases b with
    | false =>
     right;refine⟨_,rfl,.inl ⟨_,?_,rfl⟩⟩;unfold C2;refine IG (i:=i) (x:=m) d ?_ fun j y p f =>?_
     ·rw[if_neg (fun h=>by have:=B.2 h;cases this),afH]
     ·rw[if_pos (a y (afo (i:=j) (by rw[List.getElem?_take_of_lt p];exact f)))]
    | true =>
     have l:=B.1 rfl;left;refine⟨c,?_⟩;have C:∀q,GY (w.ao.take (i+1)) q=GY (w.ao.take i) q+(m.aq.count (q:Int):Int):=fun q=>by rw[e];unfold GY;rw[ahG];rfl
     have D:∀q,JW (w.ao.take (i+1)) q=pN q m.aL (JW (w.ao.take i) q):=fun q=>by rw[e];unfold JW;rw[ahG];rfl
     simp only[agl,afv,if_false];rw[RL (by omega) t l.ports _ (fun q _=>by have:=(k q).1;omega),agv,Ve (by omega) A l.uses _ (fun q _=>(k q).2),agv,aX (by omega)];refine⟨_,rfl,?_,fun y f =>?_,fun q =>?_⟩
     ·rw[show GY (w.ao.take (i+1))=fun q=>GY (w.ao.take i) q+(m.aq.count (q:Int):Int) from funext C,show JW (w.ao.take (i+1))=fun q=>pN q m.aL (JW (w.ao.take i) q) from funext D]
     ·rw[e]at f;rcases agr.1 f with h|h
      ·exact a y h
      ·rw[afj.1 h];exact l
     ·have L:m.aq.count (q:Int)<=6:=aeZ (List.count_le_length ..) t;have n:=(k q).1;rw[C,D];exact⟨by omega,sI (k q).2 fun u H=>(l.uses u H).2⟩
   ·right;have:i=w.ao.length:=by omega
    subst this;rw[agY]at a ⊢;refine⟨_,by simp only[jn];rw[if_neg (by simp)],.inr ⟨?_,a,rfl⟩⟩;unfold C2;refine cv.2 fun j y f =>?_;rw[if_pos (a y (afo f))])
 rcases E with⟨r,n,rfl⟩|⟨n,I,rfl⟩
 ·exact .inl ⟨r,n,z⟩
 ·exact .inr ⟨n,I,z⟩
def Qu (l:List Int):Option (Int×Int):=db (fun (i:Nat) (x:Int)=>if x=0 then some ((21:Int),(i:Int)) else if 1<x then some (5,(i:Int)) else none) 0 l
def Qv (w:bg) (l:List Int):Option (Int×Int):=db (fun (i:Nat) (x:Int)=>if w.al.getD i 0<x then some ((25:Int),(i:Int)) else none) 0 l
def RM {l:List Int} (h:l.length<=2000):aK (kv l) 0=some (match Qu l with|none =>.inl ()|some r =>.inr r):=by
 refine Eq.trans (kS l (body:=kv l) (fun (i:Nat) (x:Int)=>if x=0 then some ((21:Int),(i:Int)) else if 1<x then some (5,(i:Int)) else none) (by omega) (fun i x c =>?_) ?_) ?_
 ·have d:=aM c;simp only[kv];rw[if_pos (by simpa using d),bf c,agv,aX (by omega)]
  by_cases a:x=0
  ·rw[if_pos (by simpa using a),if_pos a]
  ·rw[if_neg (by simpa using a),if_neg a]
   by_cases b:1<x
   ·rw[if_pos (by simpa using b),if_pos b]
   ·rw[if_neg (by simpa using b),if_neg b]
 ·simp only[kv];rw[if_neg (by simp)]
 ·unfold Qu;cases db (fun (i:Nat) (x:Int)=>if x=0 then some ((21:Int),(i:Int)) else if 1<x then some (5,(i:Int)) else none) 0 l<;>rfl
def Vf {w:bg} {l:List Int} (h:l.length<=2000) (e:l.length=w.al.length):aK (kx w l) 0=some (match Qv w l with|none =>.inl ()|some r =>.inr r):=by
 refine Eq.trans (kS l (body:=kx w l) (fun (i:Nat) (x:Int)=>if w.al.getD i 0<x then some ((25:Int),(i:Int)) else none) (by omega) (fun i x b =>?_) ?_) ?_
 ·have c:=aM b;have d:w.al[i]? = some (w.al.getD i 0):=by rw[afz,ae9 (by omega)];rfl
  simp only[kx];rw[if_pos (by simpa using c),bf b,agv,bf d,agv,aX (by omega)]
  by_cases a:w.al.getD i 0<x
  ·rw[if_pos (decide_eq_true a),if_pos a]
  ·rw[if_neg (by rw[decide_eq_true_eq];exact a),if_neg a]
 ·simp only[kx];rw[if_neg (by simp)]
 ·unfold Qv;cases db (fun (i:Nat) (x:Int)=>if w.al.getD i 0<x then some ((25:Int),(i:Int)) else none) 0 l<;>rfl
def z6 (w:bg):Option (Int×Int):=(((Qt w).or (C2 w.al.length w.ao)).or (Qu ((List.range w.al.length).map (GY w.ao)))).or (Qv w ((List.range w.al.length).map (JW w.ao)))
def Ms {w:bg} (a:yC w):mg w=some ((z6 w).getD (0,0)):=by
 have d:=a.given;have e:=a.mills;unfold mg z6;rw[if_neg (by simp;omega),decide_eq_false (by omega),agv,if_neg (by simp),QX (by omega),agv];cases Qt w with
 | some r=>rfl
 | none =>
 simp only[Option.none_or];rw[N7 _ (by omega) (by omega),agv];rcases Q4 a with⟨r,b,c⟩|⟨b,_,c⟩
 ·rw[c,b];rfl
 rw[c,b,agv];simp only[Option.none_or];rw[RM (by simp;omega),agv];cases Qu ((List.range w.al.length).map (GY w.ao)) with
 | some r=>rfl
 | none =>
 simp only[Option.none_or];rw[Vf (by simp;omega) (by simp),agv];cases Qv w ((List.range w.al.length).map (JW w.ao))<;>rfl
section
variable {κ α:Type} [DecidableEq κ]
def rl {n:κ} : ∀ {m:List (κ×α)},mK m n=true↔n∈m.map (·.1)
 | []=>by simp[mK]
 | (k,v)::m=>by
  simp only[mK,ae2,ae3]
  by_cases h:k=n
  ·subst h;simp
  ·have:=rl (n:=n) (m:=m);simp[h,this,Ne.symm h]
def BH {n:κ} {x:α} : ∀ {m:List (κ×α)},(rz m n x).map (·.1)=if mK m n=true then m.map (·.1) else m.map (·.1)++[n]
 | []=>by simp[rz,mK]
 | (k,v)::m=>by
  have a:=BH (n:=n) (x:=x) (m:=m);simp only[rz,mK]
  by_cases h:k=n
  ·subst h;simp
  ·simp only[if_neg h,ae2];rw[a];split<;>simp_all
def Rl {n:κ} {x:α} {m:List (κ×α)} (h:(m.map (·.1)).Nodup):((rz m n x).map (·.1)).Nodup:=by
 rw[BH];split
 ·exact h
 ·rename_i hn;have hn:n∉m.map (·.1):=fun c=>hn (rl.2 c);rw[List.nodup_append];exact⟨h,by simp,fun a d b f=>by
   rw[afj.1 f];intro e;subst e;exact hn d⟩
def Jj {z x:α} {n k:κ} : ∀ {m:List (κ×α)},fm z (rz m n x) k=if k=n then x else fm z m k
 | []=>by
  simp only[rz,fm]
  by_cases h:n=k
  ·rw[if_pos h,if_pos h.symm]
  ·rw[if_neg h,if_neg (fun e=>h e.symm)]
 | (a,v)::m=>by
  have b:=Jj (z:=z) (x:=x) (n:=n) (k:=k) (m:=m);simp only[rz]
  by_cases h:a=n
  ·rw[if_pos h];simp only[fm]
   by_cases hk:a=k
   ·rw[if_pos hk,if_pos (by rw[<- hk,h])]
   ·rw[if_neg hk,if_neg (fun e=>hk (by rw[e,h])),if_neg hk]
  ·rw[if_neg h];simp only[fm]
   by_cases hk:a=k
   ·rw[if_pos hk,if_neg (fun e=>h (by rw[hk,e])),if_pos hk]
   ·rw[if_neg hk,b,if_neg hk]
def NY {z:α} {k:κ} {v:α} : ∀ {m:List (κ×α)},(m.map (·.1)).Nodup->((k,v)∈m↔mK m k=true∧fm z m k=v)
 | [],_=>by simp[mK]
 | (a,x)::m,h=>by
  rw[ae2,agA]at h;have c:=NY (z:=z) (k:=k) (v:=v) (m:=m) h.2;simp only[mK,fm,ae3,Prod.mk.injEq]
  by_cases b:a=k
  ·subst b;have d:(a,v)∉m:=fun e=>h.1 (aeW.2 ⟨_,e,rfl⟩);simp[d,eq_comm]
  ·simp[b,c,Ne.symm b]
end
abbrev MQ:=List ((Int×Int)×Rat)
def jN (m:MQ):List ((Int×Int)×aw):=m.map fun p=>(p.1,cR p.2)
def Fj (m:MQ):(jN m).length=m.length:=afq ..
def UE (m:MQ):(jN m).map (·.1)=m.map (·.1):=by unfold jN;rw[List.map_map];rfl
def N2 (m:MQ) (k:Int×Int):mK (jN m) k=mK m k:=by
 induction m with
 | nil=>rfl
 | cons p m b =>
  obtain⟨a,v⟩:=p;rw[show jN ((a,v)::m)=(a,cR v)::jN m from rfl];simp only[mK,b]
def UF {z:aw} {m:MQ} {k:Int×Int} (h:mK m k=true):fm z (jN m) k=cR (fm 0 m k):=by
 induction m with
 | nil=>cases h
 | cons p m c =>
  obtain⟨a,v⟩:=p;show (if a=k then cR v else fm z (jN m) k)=cR (if a=k then v else fm 0 m k)
  by_cases b:a=k
  ·rw[if_pos b,if_pos b]
  ·rw[if_neg b,if_neg b];exact c (by simpa [mK,b] using h)
def N3 (m:MQ) (k:Int×Int) (q:Rat):rz (jN m) k (cR q)=jN (rz m k q):=by
 induction m with
 | nil=>rfl
 | cons p m c =>
  obtain⟨a,v⟩:=p;show (if a=k then (a,cR q)::jN m else (a,cR v)::rz (jN m) k (cR q))=jN (if a=k then (a,q)::m else (a,v)::rz m k q)
  by_cases b:a=k
  ·rw[if_pos b,if_pos b];rfl
  ·rw[if_neg b,if_neg b,c];rfl
def YN {m:MQ} {k:Int×Int} (h:mK m k=false):fm 0 m k=0:=by
 induction m with
 | nil=>rfl
 | cons p m b =>
  obtain⟨a,v⟩:=p;simp only[mK,Bool.or_eq_false_iff,beq_eq_false_iff_ne]at h;simp only[fm];rw[if_neg h.1,b h.2]
def jV (m:MQ) (c:(Int×Int)×Rat):MQ:=rz m c.1 (fm 0 m c.1+c.2)
def T2 (m:MQ) (c:(Int×Int)×Rat) (k:Int×Int):fm 0 (jV m c) k=fm 0 m k+(if k=c.1 then c.2 else 0):=by
 unfold jV;rw[Jj]
 by_cases h:k=c.1
 ·rw[if_pos h,if_pos h,h]
 ·rw[if_neg h,if_neg h];grind
def od (k:Int×Int):List ((Int×Int)×Rat)->Rat
 | []=>0
 | c::l=>(if k=c.1 then c.2 else 0)+od k l
def AV:∀(l:List ((Int×Int)×Rat)) (m:MQ) (k:Int×Int),fm 0 (l.foldl jV m) k=fm 0 m k+od k l
 | [],m,k=>by simp only[List.foldl_nil,od];grind
 | c::l,m,k=>by
  rw[afG,AV l,T2];simp only[od];grind
def yM:∀(l:List ((Int×Int)×Rat)) (m:MQ),(m.map (·.1)).Nodup->((l.foldl jV m).map (·.1)).Nodup
 | [],_,h=>h
 | c::l,m,h=>yM l (jV m c) (Rl h)
def ad3 {p q:Int} (a : -9223372036854775808<=p∧p<9223372036854775808) (b : -9223372036854775808<=q∧q<9223372036854775808) (c:q≠0):xC p q=some (cR (Rat.divInt p q),0):=by
 unfold xC;rw[Sd a,agv,Sd b,agv,P3 (J3 a) (J3 b) c,agv]
open Classical in
def abm (f:aw):Rat:=if h:∃q,f=cR q then Classical.choose h else 0
def K7 (q:Rat):abm (cR q)=q:=by
 have h:∃p,cR q=cR p:=⟨q,rfl⟩;unfold abm;rw[dif_pos h];exact (sf (Classical.choose_spec h)).symm
def Gw (f:cJ) (k i:Nat):Rat:=abm ((f.av.getD k []).getD i (aw.mk (aG.mk 0 ([])) (aG.mk 0 ([]))))
def wX {f:cJ} (p:ll f) (h:HC f) {k i:Nat} (r:k<f.aB.length) (s:i<f.ah.length) :
  ∃a,f.av[k]? = some a∧a[i]? = some (cR (Gw f k i))∧0<=Gw f k i∧LF (Gw f k i)<=4:=by
 have d:k<f.av.length:=by rw[h.rows];exact r
 have g:f.av[k]? = some (f.av[k]):=ae9 d;have j:=ae8 d;have t:f.av.getD k []=f.av[k]:=by rw[afz,g];rfl
 have u:=h.row _ j;have o:=(p.row _ j).2;unfold Gw;rw[t];have b:(rM f i)[k]? = some ((f.av[k][i]?).getD (aw.mk (aG.mk 0 ([])) (aG.mk 0 ([])))):=by
  unfold rM;rw[aeU,g];rfl
 generalize f.av[k]=a at g j u o b ⊢;have c:a[i]? = some (a[i]'(by omega)):=ae9 _;have l:=o _ (afo c);have m:a.getD i (aw.mk (aG.mk 0 ([])) (aG.mk 0 ([])))=a[i]'(by omega):=by rw[afz,c];rfl
 rw[c]at b;rw[m];obtain⟨x,v,w,_⟩:=h.col i s;rw[v]at b;rw[aeU]at b;obtain⟨q,n,e⟩:=aeV.1 b;simp only[Option.getD_some]at e;rw[<- e]at c l ⊢;refine⟨a,g,?_,?_,?_⟩
 ·rw[K7];exact c
 ·rw[K7];exact w q (afo n)
 ·rw[K7];exact pS l.1 l.2
abbrev DE:=(Int×Int)×Rat
def x4 (m:bF) (i:Nat) (u:fv) (r:Rat) (k:Nat):List DE :=
 match m.an.aB[k]? with
 | some y=>if y.ba=0∧Gw m.an k i≠0 then [((u.b7,m.aq.getD y.aZ.toNat 0),r*Gw m.an k i)] else []
 | none=>[]
def J7 (g:List Int) (u:fv):Rat:=Rat.divInt u.a7 (g.getD u.b7.toNat 0)
def zr (m:bF) (n:Int):fv:=m.aL.getD n.toNat (fv.mk 0 0)
def AN (g:List Int) (m:bF) (i:Nat):List DE :=
 match m.an.ah[i]? with
 | some x=>if x.ba=1 then (List.range m.an.aB.length).flatMap (x4 m i (zr m x.aZ) (J7 g (zr m x.aZ))) else []
 | none=>[]
def oM (g:List Int) (m:bF):List DE:=(List.range m.an.ah.length).flatMap (AN g m)
def jW (w:bg):List DE:=w.ao.flatMap (oM w.al)
def xm:LF 0<=1:=DI (n:=0) (by decide)
def Dh {K:Nat} {k:Int×Int} : ∀ {l:List DE},(∀c∈l,LF c.2<=K)->LF (od k l)<=1+l.length*(K+1)
 | [],_=>by simp only[od];have:=xm;simp;omega
 | c::l,h=>by
  have e:=Dh (k:=k) (l:=l) fun x b=>h x (agt _ b);have f:=h c (ags ..);simp only[od,List.length_cons];have d:=AH (if k=c.1 then c.2 else 0) (od k l);have g:LF (if k=c.1 then c.2 else 0)<=max K 1:=by
   split
   ·omega
   ·have:=xm;omega
  have i:=AH 0 (od k l);rw[afS]
  by_cases a:k=c.1
  ·rw[if_pos a]at d ⊢;omega
  ·rw[if_neg a,show (0:Rat)+od k l=od k l by grind];omega
def Y5 {z:aw} {M:MQ} {k:Int×Int} {v:Rat} {K:Nat} (h:LF (fm 0 M k)<=K) (c:LF v<=K) (d:K<=1000000000) :
  (mK (jN M) k=true->p8 (fm z (jN M) k) (cR v)=some (cR (fm 0 M k+v))∧rz (jN M) k (cR (fm 0 M k+v))=jN (jV M (k,v)))∧(mK (jN M) k=false->rz (jN M) k (cR v)=jN (jV M (k,v))):=by
 have b:cP=4398046511104:=rfl;constructor
 ·intro a;rw[N2]at a;rw[UF a,ZR (by omega),N3];exact⟨rfl,rfl⟩
 ·intro a;rw[N2]at a;rw[N3];unfold jV;rw[YN a,show (0:Rat)+v=v by grind]
def NA {m:bF} {N:Nat} (a:mB m N) {y:uf} (b:y∈m.an.aB) (c:y.ba=0):∃j:Nat,y.aZ=j∧j<m.aq.length:=by
 have:y.aZ∈s6 m.aq.length:=a.gives.mem_iff.1 (aeW.2 ⟨y,agy.2 ⟨b,by simpa using c⟩,rfl⟩);unfold s6 at this;obtain⟨j,d,e⟩:=aeW.1 this;exact⟨j,e.symm,agB.1 d⟩
def X3 {m:bF} {N:Nat} (b:mB m N) {x:fK} (c:x∈m.an.ah) (a:x.ba=1):∃j:Nat,x.aZ=j∧j<m.aL.length:=by
 have:x.aZ∈s6 m.aL.length:=b.takes.mem_iff.1 (aeW.2 ⟨x,agy.2 ⟨c,by simpa using a⟩,rfl⟩);unfold s6 at this;obtain⟨j,a,d⟩:=aeW.1 this;exact⟨j,d.symm,agB.1 a⟩
structure GZ (n:Nat) (h:List DE):Prop where
 len:h.length<=n
 sz:∀c∈h,LF c.2<=20
def GZ.look {n:Nat} {h:List DE} (H:GZ n h) (k:Int×Int):LF (fm 0 (h.foldl jV []) k)<=1+n*21:=by
 rw[AV,show fm 0 ([]:MQ) k=0 from rfl,show (0:Rat)+od k h=od k h by grind];have b:=Dh (k:=k) H.sz;have a:=H.len;have c:=afF 21 a;omega
def GZ.app {n a:Nat} {h l:List DE} (H:GZ n h) (e:l.length<=a) (b:∀c∈l,LF c.2<=20):GZ (n+a) (h++l) :=
 ⟨by rw[af6];have:=H.len;omega,fun c d=>(agr.1 d).elim (H.sz c) (b c)⟩
def L8 (m:bF) (i:Nat) (u:fv) (r:Rat) (k:Nat):(x4 m i u r k).length<=1:=by
 unfold x4;split
 ·split<;>simp
 ·simp
def mJ {α:Type} {f:Nat->List α} {b:Nat} (h:∀i,(f i).length<=b):∀n,((List.range n).flatMap f).length<=n*b
 | 0=>by simp
 | n+1=>by
  have:=mJ h n;have a:=h n;rw[ahE,List.flatMap_append,af6,afS];simp only[agq,List.flatMap_nil,agO];omega
def AU {α:Type} {f:Nat->List α} (n:Nat):(List.range (n+1)).flatMap f=(List.range n).flatMap f++f n:=by
 rw[ahE,List.flatMap_append];simp
def Yx {m:bF} {i:Nat} {u:fv} {r:Rat} {k:Nat} (b:ll m.an) (d:HC m.an) (e:i<m.an.ah.length) (g:LF r<=10):∀c∈x4 m i u r k,LF c.2<=20:=by
 intro c a;unfold x4 at a;split at a
 ·rename_i y f;split at a
  ·rw[afj.1 a];obtain⟨_,_,_,_,h⟩:=wX b d (aM f) e;have:=PY r (Gw m.an k i);simp only;omega
  ·cases a
 ·cases a
def Tp {m:bF} {i:Nat} {u:fv} {r:Rat} {n:Nat} (a:ll m.an) (b:HC m.an) (d:i<m.an.ah.length) (e:LF r<=10):∀c∈(List.range n).flatMap (x4 m i u r),LF c.2<=20:=by
 intro c f;obtain⟨k,_,g⟩:=ago.1 f;exact Yx a b d e c g
def UM {m:bF} {N i n:Nat} {u:fv} {r:Rat} {h:List DE} (e:ll m.an) (f:mB m N) (o:i<m.an.ah.length) (B:LF r<=10) (H:GZ n h) (L:n<=1000) :
  aK (gE m (i:Int) u (cR r,0)) ((0:Int),jN (h.foldl jV []))=some (jN ((h++(List.range m.an.aB.length).flatMap (x4 m i u r)).foldl jV [])):=by
 have C:cP=4398046511104:=rfl;have O:=e.outs;have key:=fun g b=>uB (body:=gE m (i:Int) u (cR r,0)) m.an.aB (by omega)
  (fun k (c:List ((Int×Int)×aw))=>c=jN ((h++(List.range k).flatMap (x4 m i u r)).foldl jV [])) (fun c=>c=jN ((h++(List.range m.an.aB.length).flatMap (x4 m i u r)).foldl jV [])) (s0:=jN (h.foldl jV [])) (by simp) g b
 refine (key ?_ ?_).elim fun x ⟨D,hx⟩=>hx ▸ D
 ·rintro k x _ hx rfl;have p:=aM hx;have Q:=mJ (fun k=>L8 m i u r k) k;have q:=H.app (a:=k) (by omega) (Tp (u:=u) (n:=k) e f.flow o B);obtain⟨E,F,s,R,S⟩:=wX e f.flow p o;rw[AU,<- agd];generalize h++(List.range k).flatMap (x4 m i u r)=t at q;have l:=q.look;have G:x4 m i u r k=if x.ba=0∧Gw m.an k i≠0 then [((u.b7,m.aq.getD x.aZ.toNat 0),r*Gw m.an k i)] else []:=by unfold x4;rw[hx]
  refine⟨_,?_,rfl⟩;simp only[gE];rw[if_pos (by simpa using p),bf hx,agv,aX (by omega),G]
  by_cases h0:x.ba=0
  ·rw[if_neg (by simp[h0]),bf F,agv,bf s,agv,DT (by omega),agv,agv]
   by_cases hz:Gw m.an k i=0
   ·rw[if_pos (by rw[beq_iff_eq];exact Aw.2 hz),if_neg (fun hh=>hh.2 hz),agO]
   ·obtain⟨j,w,I⟩:=NA f (afo hx) h0;have y:m.aq[j]? = some (m.aq.getD x.aZ.toNat 0):=by rw[w,afW,afz,ae9 I];rfl
    have J:=PY r (Gw m.an k i);rw[if_neg (by rw[beq_iff_eq];exact fun hh=>hz (Aw.1 hh)),if_pos ⟨h0,hz⟩];rw[show P.idx m.aq x.aZ=some (m.aq.getD x.aZ.toNat 0) by rw[w]at y ⊢;exact bf y];rw[agv,agv,bf s,agv,abW (by omega),agv];have d:=Y5 (z:=aw.mk (aG.mk 0 ([])) (aG.mk 0 ([]))) (M:=t.foldl jV []) (k:=(u.b7,m.aq.getD x.aZ.toNat 0)) (v:=r*Gw m.an k i) (K:=20+(n+k)*21) (aeZ (l _) (by omega)) (by omega) (by omega);cases hh:mK (jN (t.foldl jV [])) (u.b7,m.aq.getD x.aZ.toNat 0) with
    | false =>
     rw[if_neg (by simp),d.2 hh,ahG];rfl
    | true =>
     have A:=d.1 hh;rw[if_pos rfl];erw [A.1];rw[agv,A.2,ahG];rfl
  ·rw[if_pos (by simpa using h0),agv,if_pos rfl,if_neg (fun hh=>h0 hh.1),agO]
 ·rintro _ rfl;refine⟨_,?_,rfl⟩;simp only[gE];rw[if_neg (by simp)]
def abV {x:Int} (a:1<=x) (b:x<=1099511627776):Ln x<=3:=LU (by rw[iL,iL,iL,oG];omega)
def vD (g:List Int):Prop:=∀x∈g,1<=x∧x<=1099511627776
def E5 {g:List Int} (c:vD g) {p:Int} (h:0<=p∧p<(g.length:Int)):∃j:Nat,p=j∧j<g.length∧g[j]? = some (g.getD p.toNat 0)∧1<=g.getD p.toNat 0∧g.getD p.toNat 0<=1099511627776:=by
 obtain⟨j,rfl⟩:∃j:Nat,p=j:=⟨p.toNat,by omega⟩;have a:j<g.length:=by omega
 have b:g[j]? = some (g.getD (j:Int).toNat 0):=by rw[afW,afz,ae9 a];rfl
 exact⟨j,rfl,a,b,c _ (afo b)⟩
def RU {m:bF} {N:Nat} (c:mB m N) {x:fK} (d:x∈m.an.ah) (e:x.ba=1):P.idx m.aL x.aZ=some (zr m x.aZ)∧zr m x.aZ∈m.aL:=by
 obtain⟨j,b,f⟩:=X3 c d e;have a:m.aL[j]? = some (zr m x.aZ):=by unfold zr;rw[b,afW,afz,ae9 f];rfl
 exact⟨by rw[b]at a ⊢;exact bf a,afo a⟩
def D1 {g:List Int} {m:bF} (b:vD g) (c:mB m g.length) {u:fv} (d:u∈m.aL):LF (J7 g u)<=10∧0<J7 g u:=by
 obtain⟨e,a⟩:=c.uses u d;obtain⟨j,i,k,l,f,h⟩:=E5 b e;have n:=abV a.1 a.2;have o:=abV f h;unfold J7;have r:=AI (p:=u.a7) (q:=g.getD u.b7.toNat 0) (by omega);refine⟨by omega,?_⟩;rw[Rat.divInt_eq_div,Rat.div_def];exact Rat.mul_pos (by exact_mod_cast (show (0:Int)<u.a7 by omega)) (Rat.inv_pos.2 (by exact_mod_cast (show (0:Int)<g.getD u.b7.toNat 0 by omega)))
def Sv {g:List Int} {m:bF} (f:vD g) (d:ll m.an) (a:mB m g.length) (i:Nat):(AN g m i).length<=5∧∀c∈AN g m i,LF c.2<=20:=by
 unfold AN;split
 ·rename_i x e;split
  ·rename_i h;have j:=d.outs;have l:=mJ (fun k=>L8 m i (zr m x.aZ) (J7 g (zr m x.aZ)) k) m.an.aB.length;refine⟨by omega,Tp d a.flow (aM e) (D1 f a (RU a (afo e) h).2).1⟩
  ·exact⟨by simp,fun c b=>by cases b⟩
 ·exact⟨by simp,fun c b=>by cases b⟩
def TC {g:List Int} {m:bF} (a:vD g) (b:ll m.an) (d:mB m g.length) (n:Nat):((List.range n).flatMap (AN g m)).length<=n*5∧∀c∈(List.range n).flatMap (AN g m),LF c.2<=20:=by
 refine⟨mJ (fun i=>(Sv a b d i).1) n,fun c e =>?_⟩;obtain⟨k,_,f⟩:=ago.1 e;exact (Sv a b d k).2 c f
def Qc {g:List Int} {m:bF} {n:Nat} {h:List DE} (q:vD g) (s:ll m.an) (b:mB m g.length) (H:GZ n h) (I:n<=900) :
  iE (jN (h.foldl jV [])) g m=some (jN ((h++oM g m).foldl jV []),()):=by
 have A:cP=4398046511104:=rfl;have J:=s.srcs;have key:=fun t d=>uB (body:=iT g m) m.an.ah (by omega)
  (fun k (c:List ((Int×Int)×aw))=>c=jN ((h++(List.range k).flatMap (AN g m)).foldl jV [])) (fun c=>c=jN ((h++oM g m).foldl jV [])) (s0:=jN (h.foldl jV [])) (by simp) t d
 unfold iE;refine (key ?_ ?_).elim fun c o =>?_
 ·rintro i x _ p rfl;have v:=aM p;obtain⟨B,C⟩:=TC q s b i;have w:=H.app (a:=i*5) B C;rw[AU,<- agd];generalize h++(List.range i).flatMap (AN g m)=K at w;have o:AN g m i=if x.ba=1 then (List.range m.an.aB.length).flatMap (x4 m i (zr m x.aZ) (J7 g (zr m x.aZ))) else []:=by unfold AN;rw[p]
  refine⟨_,?_,rfl⟩;simp only[iT];rw[if_pos (by simpa using v),bf p,agv,aX (by omega),o]
  by_cases e:x.ba=1
  ·obtain⟨D,y⟩:=RU b (afo p) e;have E:=D1 q b y;obtain⟨F,L⟩:=b.uses _ y;obtain⟨j,G,M,z,N,O⟩:=E5 q F;have f:P.idx g (zr m x.aZ).b7=some (g.getD (zr m x.aZ).b7.toNat 0):=by
    rw[G]at z ⊢;exact bf z
   rw[if_neg (by simp[e]),D,agv,f,agv,ad3 (by omega) (by omega) (by omega),agv,if_pos e];have l:=UM (u:=zr m x.aZ) (r:=J7 g (zr m x.aZ)) s b v E.1 w (by omega);unfold J7 at l ⊢;erw [l];rfl
  ·rw[if_pos (by simpa using e),if_neg e,agO]
 ·rintro _ rfl;refine⟨_,?_,rfl⟩;simp only[iT];rw[if_neg (by simp)];rfl
 ·rw[o.1,o.2];rfl
def VZ {g:List Int} {m:bF} (b:vD g) (a:ll m.an) (d:mB m g.length):(oM g m).length<=25∧∀c∈oM g m,LF c.2<=20:=by
 have:=TC b a d m.an.ah.length;have e:=a.srcs;exact⟨by have:=this.1;unfold oM;omega,this.2⟩
def VI {m:MQ} {c:DE} {k:Int×Int} : mK (jV m c) k=true↔mK m k=true∨c.1=k:=by
 unfold jV;rw[rl,BH];split
 ·rename_i h;constructor
  ·exact fun b =>.inl (rl.2 b)
  ·rintro (b|rfl)
   ·exact rl.1 b
   ·exact rl.1 h
 ·rw[agr,afj,eq_comm (a:=k),rl]
def Na:∀(l:List DE) (m:MQ) (k:Int×Int),mK (l.foldl jV m) k=true↔mK m k=true∨∃c∈l,c.1=k
 | [],m,k=>by simp
 | c::l,m,k=>by
  rw[afG,Na l,VI];simp only[ae3,exists_eq_or_imp];exact or_assoc
def GC {k:Int×Int} : ∀ {l:List DE},(∀c∈l,0<c.2)->0<=od k l∧(0<od k l↔∃c∈l,c.1=k)
 | [],_=>⟨by simp only[od];grind,by simp only[od];simp⟩
 | c::l,h=>by
  obtain⟨a,b⟩:=GC (k:=k) (l:=l) fun x d=>h x (agt _ d);have f:=h c (ags ..);simp only[od,ae3,exists_eq_or_imp]
  by_cases hk:k=c.1
  ·rw[if_pos hk];exact⟨by grind,⟨fun _ =>.inl hk.symm,fun _=>by grind⟩⟩
  ·rw[if_neg hk,show (0:Rat)+od k l=od k l by grind,b];exact⟨a,⟨.inr,fun h=>h.resolve_left fun e=>hk e.symm⟩⟩
def lj (N:Nat) (S:Nat->Nat->Rat):List Tk:=(List.range N).flatMap fun a=>((List.range N).filter fun b=>decide (0<S a b)).map fun b=>(a,b,S a b)
def Fo {N:Nat} {S:Nat->Nat->Rat} {t:Tk} : t∈lj N S↔t.1<N∧t.2.1<N∧0<S t.1 t.2.1∧t.2.2=S t.1 t.2.1:=by
 unfold lj;simp only[ago,aeW,agy,agB,decide_eq_true_eq];constructor
 ·rintro⟨a,c,b,⟨d,e⟩,rfl⟩;exact⟨c,d,e,rfl⟩
 ·rintro⟨f,g,h,i⟩;exact⟨t.1,f,t.2.1,⟨g,h⟩,by rw[<- i]⟩
def TO (N:Nat) (S:Nat->Nat->Rat):(lj N S).Pairwise Vq:=by
 unfold lj;rw[List.pairwise_flatMap];constructor
 ·intro a _;rw[ag4];exact (List.Pairwise.filter _ (agC (n:=N))).imp fun h =>.inr ⟨rfl,h⟩
 ·refine (agC (n:=N)).imp fun {a b} h x c y d =>?_;obtain⟨_,_,rfl⟩:=aeW.1 c;obtain⟨_,_,rfl⟩:=aeW.1 d;exact .inl h
def GD (N:Nat) (S:Nat->Nat->Rat):(lj N S).length<=N*N:=by
 unfold lj;refine mJ (fun a =>?_) N;rw[afq];exact aeZ (ahz ..) (by simp)
def eP (L:List DE) (a b:Nat):Rat:=od ((a:Int),(b:Int)) L
structure aaz (N:Nat) (L:List DE):Prop where
 pos:∀c∈L,0<c.2
 from_:∀c∈L,0<=c.1.1∧c.1.1<(N:Int)
 to_:∀c∈L,0<=c.1.2∧c.1.2<(N:Int)
def JP {N:Nat} {L:List DE} (H:aaz N L) :
  pK (jQ bD.bI bD.fU) ((jN (L.foldl jV [])).map fun q=>bD.mk q.1.1 q.1.2 q.2)=(lj N (eP L)).map oE:=by
 have d:((L.foldl jV []).map (·.1)).Nodup:=yM L [] (by simp);have B:((jN (L.foldl jV [])).map fun q=>bD.mk q.1.1 q.1.2 q.2)=(L.foldl jV []).map fun p=>bD.mk p.1.1 p.1.2 (cR p.2):=by unfold jN;rw[List.map_map];rfl
 rw[B];have f:∀p:DE,p∈L.foldl jV []↔(∃c∈L,c.1=p.1)∧od p.1 L=p.2:=by
  rintro⟨k,v⟩;rw[NY (z:=0) d,Na,AV];simp only[mK,fm,afv,false_or];rw[show (0:Rat)+od k L=od k L by grind]
 have i:((L.foldl jV []).map fun p:DE=>bD.mk p.1.1 p.1.2 (cR p.2)).Nodup:=by
  unfold List.Nodup at d ⊢;rw[ag4]at d ⊢;refine d.imp fun {a b} h e=>h ?_;simp only[bD.mk.injEq]at e;exact Prod.ext e.1 e.2.1
 have j:((lj N (eP L)).map oE).Nodup:=by
  unfold List.Nodup;rw[ag4];refine (TO N (eP L)).imp fun {a b} h e =>?_;have:=Tf e;subst this;unfold Vq at h;omega
 have l:∀x,x∈((L.foldl jV []).map fun p:DE=>bD.mk p.1.1 p.1.2 (cR p.2))↔x∈(lj N (eP L)).map oE:=by
  intro x;rw[aeW,aeW];constructor
  ·rintro⟨p,C,rfl⟩;obtain⟨m,g⟩:=(f p).1 C;obtain⟨c,n,s⟩:=m;have f1:=H.from_ c n;have f2:=H.to_ c n;rw[s]at f1 f2;have u:((p.1.1.toNat:Nat):Int)=p.1.1:=by omega
   have w:((p.1.2.toNat:Nat):Int)=p.1.2:=by omega
   have A:eP L p.1.1.toNat p.1.2.toNat=p.2:=by unfold eP;rw[u,w];exact g
   refine⟨(p.1.1.toNat,p.1.2.toNat,p.2),Fo.2 ⟨by simp only;omega,by simp only;omega,?_,A.symm⟩,?_⟩
   ·simp only;rw[A,<- g];exact (GC H.pos).2.2 ⟨c,n,s⟩
   ·unfold oE;simp only;rw[u,w]
  ·rintro⟨t,D,rfl⟩;obtain⟨m,g,E,F⟩:=Fo.1 D;refine⟨(((t.1:Int),(t.2.1:Int)),t.2.2),(f _).2 ⟨(GC H.pos).2.1 E,F.symm⟩,rfl⟩
 refine oK (c:=jQ bD.bI bD.fU) ((iC _ _).trans ((List.perm_ext_iff_of_nodup i j).2 l)) ?_ (mL (tK _ _) _) ?_
 ·intro x o y r m g;have o:=(iC _ _).mem_iff.1 o;have r:=(iC _ _).mem_iff.1 r;obtain⟨p,G,rfl⟩:=aeW.1 o;obtain⟨q,I,rfl⟩:=aeW.1 r;rw[wZ]at m g;simp only at m g;have e:p.1=q.1:=Prod.ext (by omega) (by omega);have:p.2=q.2:=by rw[<- ((f p).1 G).2,<- ((f q).1 I).2,e]
  rw[e,this]
 ·rw[ag4];refine (TO N (eP L)).imp fun {a b} h =>?_;rw[wZ];simp only[oE];unfold Vq at h;omega
def SO {w:bg} {r:Int×Int} (h:z6 w=some r):r.1≠0:=by
 unfold z6 at h;simp only[Option.or_eq_some_iff]at h;rcases h with ((h|⟨_,h⟩)|⟨_,h⟩)|⟨_,h⟩
 ·obtain⟨j,x,_,a,_⟩:=de h;split at a
  ·cases a
  ·cases a;simp
 ·obtain⟨j,x,_,a,_⟩:=de h;split at a
  ·cases a
  ·cases a;simp
 ·obtain⟨j,x,_,a,_⟩:=de h;split at a
  ·cases a;simp
  ·split at a
   ·cases a;simp
   ·cases a
 ·obtain⟨j,x,_,a,_⟩:=de h;split at a
  ·cases a;simp
  ·cases a
structure BV (w:bg):Prop where
 given:vD w.al
 fit:∀m∈w.ao,mB m w.al.length
 once:∀q,q<w.al.length->GY w.ao q=1∨GY w.ao q<0
 used:∀q,q<w.al.length->JW w.ao q<=w.al.getD q 0
def WR {w:bg} (h:z6 w=none):BV w:=by
 unfold z6 at h;simp only[Option.or_eq_none_iff]at h;obtain⟨⟨⟨c,d⟩,e⟩,f⟩:=h;refine⟨fun x g =>?_,fun m i =>?_,fun q a =>?_,fun q a =>?_⟩
 ·obtain⟨j,b⟩:=afi g;have:=cv.1 c j x b;split at this
  ·assumption
  ·cases this
 ·obtain⟨j,b⟩:=afi i;have:=cv.1 d j m b;split at this
  ·assumption
  ·cases this
 ·have:=cv.1 e q _ (cV _ a);split at this
  ·cases this
  ·split at this
   ·cases this
   ·omega
 ·have:=cv.1 f q _ (cV _ a);rw[afH]at this;split at this
  ·cases this
  ·omega
def aea {w:bg} (p:yC w) (d:BV w):aaz w.al.length (jW w):=by
 have key:∀c∈jW w,0<c.2∧(0<=c.1.1∧c.1.1<(w.al.length:Int))∧0<=c.1.2∧c.1.2<(w.al.length:Int):=by
  intro c a;unfold jW at a;obtain⟨m,e,a⟩:=ago.1 a;have q:=(p.mill m e).1;have b:=d.fit m e;unfold oM at a;obtain⟨i,f,a⟩:=ago.1 a;rw[agB]at f;unfold AN at a;split at a
  ·rename_i x r;split at a
   ·rename_i s;obtain⟨k,g,a⟩:=ago.1 a;rw[agB]at g;unfold x4 at a;split at a
    ·rename_i y t;split at a
     ·rename_i l;rw[afj.1 a];obtain⟨_,n⟩:=RU b (afo r) s;obtain⟨j,u,o⟩:=NA b (afo t) l.1;obtain⟨_,_,_,z,_⟩:=wX q b.flow g f;have v:m.aq.getD y.aZ.toNat 0∈m.aq:=by
       rw[u,afW,afz,ae9 o];exact ae8 o
      refine⟨Rat.mul_pos (D1 d.given b n).2 ?_,(b.uses _ n).1,b.ports _ v⟩;have:=l.2;grind
     ·cases a
    ·cases a
   ·cases a
  ·cases a
 exact⟨fun c h=>(key c h).1,fun c h=>(key c h).2.1,fun c h=>(key c h).2.2⟩
def FF {w:bg} (i:yC w) (f:BV w):aK (qv w) ((0:Int),[])=some (jN ((jW w).foldl jV []))∧GZ 125 (jW w):=by
 have b:=i.mills;have j:∀k,((w.ao.take k).flatMap (oM w.al)).length<=k*25∧∀c∈(w.ao.take k).flatMap (oM w.al),LF c.2<=20:=by
  intro k;have g:∀m∈w.ao.take k,(oM w.al m).length<=25∧∀c∈oM w.al m,LF c.2<=20:=fun m h=>by
   have b:=afD h;exact VZ f.given (i.mill m b).1 (f.fit m b)
  have v:(w.ao.take k).length<=k:=by rw[aff];omega
  refine⟨?_,fun c n =>?_⟩
  ·have o:∀l:List bF,(∀m∈l,(oM w.al m).length<=25)->(l.flatMap (oM w.al)).length<=l.length*25:=by
    intro l
    induction l with
    | nil=>intro _;simp
    | cons a l s =>
     intro h;have y:=h a (ags ..);have z:=s fun m b=>h m (agt _ b);rw[agq,af6,afm];omega
   have:=o _ fun m b=>(g m b).1;omega
  ·obtain⟨m,b,n⟩:=ago.1 n;exact (g m b).2 c n
 have key:=fun p e=>uB (body:=qv w) w.ao (by omega)
  (fun k (c:List ((Int×Int)×aw))=>c=jN (((w.ao.take k).flatMap (oM w.al)).foldl jV [])) (fun c=>c=jN ((jW w).foldl jV [])) (s0:=[]) rfl p e
 constructor
 ·refine (key ?_ ?_).elim fun x ⟨g,hx⟩=>hx ▸ g
  ·rintro k m _ hx rfl;have t:=aM hx;have q:w.ao.take (k+1)=w.ao.take k++[m]:=by
    obtain⟨r,u⟩:=afp.1 hx;rw[ahx r,u]
   have d:=afo hx;have H:GZ (k*25) ((w.ao.take k).flatMap (oM w.al)):=⟨(j k).1,(j k).2⟩;refine⟨_,?_,rfl⟩;simp only[qv];rw[if_pos (by simpa using t),bf hx,agv,Qc f.given (i.mill m d).1 (f.fit m d) H (by omega),agv,aX (by omega),q,List.flatMap_append];simp
  ·rintro _ rfl;refine⟨_,?_,rfl⟩;simp only[qv];rw[if_neg (by simp),agY];rfl
 ·have:=j w.ao.length;rw[agY]at this;exact⟨by have:=this.1;unfold jW;omega,this.2⟩
def WJ {N:Nat} {L:List DE} (H:aaz N L):(L.foldl jV []).length<=N*N:=by
 have h:=JP H;have:=congrArg List.length h;rw[nQ,afq,afq,Fj]at this;have:=GD N (eP L);omega
def aco (w:bg) (L:List DE):cA:=kp w.al.length (lj w.al.length (eP L))
def of_eq {w:bg} (a:yC w):s3 w=some (match z6 w with|some r=>(cA.mk 0 [],r.1)|none=>(aco w (jW w),0)):=by
 have b:=a.given;unfold s3;rw[Ms a,agv];cases c:z6 w with
 | some r =>
  have:=SO c;rw[if_pos (by simpa using this)];rfl
 | none =>
  have d:=WR c;obtain⟨g,_⟩:=FF a d;have e:=aea a d;have f:=WJ e;have h:w.al.length*w.al.length<=6*6:=ahy b b;rw[if_neg (by simp),g,agv,if_neg (by rw[decide_eq_true_eq,Fj];omega)];unfold Dt;rw[if_pos ⟨by rw[Fj];omega,by rw[UE];exact yM _ _ (by simp)⟩,JP e];rfl
def Jy {a b:Rat} (h:LF a<=cP):jz (cR a) (cR b)=some (decide (a=b)):=by
 have:=Dn h;rw[aas (by unfold Fit cP at *;omega) (by unfold Fit cP at *;omega)];congr 1
 by_cases hab:a=b
 ·rw[hab,decide_eq_true rfl,decide_eq_true rfl]
 ·rw[decide_eq_false (fun h=>hab (sf h)),decide_eq_false hab]
def Fy {α ρ:Type} : ∀(l:List α) (i:Nat),db (fun _ _=>(none:Option ρ)) i l=none
 | [],_=>rfl
 | _::l,i=>by simp only[db];exact Fy l _
def O8 {N K:Nat} {tk:List Tk} (l:tk.length<=8000) (m:K<=1000000) (e:∀t∈tk,LF t.2.2<=K):nc (kp N tk) (kp N tk)=some true:=by
 have g:cP=4398046511104:=rfl;unfold nc;rw[if_neg (by simp),agv,if_neg (by simp)];rw[kS (kp N tk).az (fun _ _=>(none:Option Bool)) (by simp[kp];omega) (fun i f a =>?_) (by simp only[sB];rw[if_neg (by simp)])]
 ·rw[Fy];rfl
 ·have c:=aM a;obtain⟨t,h,j⟩:∃t,t∈tk∧f=oE t:=by
   have:=afo a;simp only[kp,aeW]at this;obtain⟨t,d,k⟩:=this;exact⟨t,d,k.symm⟩
  have d:=e t h;have b:jz f.bJ f.bJ=some true:=by
   rw[j];simp only[oE];rw[Jy (by omega),decide_eq_true rfl]
  simp only[sB];rw[if_pos (by simpa using c),bf a,agv,agv,if_neg (by simp),if_neg (by simp),b,agv,if_neg (by simp),aX (by simp[kp]at c;omega)]
def Jz {l:List Int} (c:l.length<=8000):e7 l l=some true:=by
 unfold e7;rw[if_neg (by simp)];rw[kS l (fun _ _=>(none:Option Bool)) (by omega) (fun i f a =>?_) (by simp only[lO];rw[if_neg (by simp)])]
 ·rw[Fy];rfl
 ·have b:=aM a;simp only[lO];rw[if_pos (by simpa using b),bf a,agv,agv,if_neg (by simp),aX (by omega)]
def YX {N:Nat} {L:List DE} (a:N<=6) (H:GZ 125 L):(lj N (eP L)).length<=36∧∀t∈lj N (eP L),LF t.2.2<=2700:=by
 have d:=GD N (eP L);have e:N*N<=6*6:=ahy a a;refine⟨by omega,fun t b =>?_⟩;obtain⟨_,_,_,c⟩:=Fo.1 b;rw[c];unfold eP;have f:=Dh (k:=((t.1:Int),(t.2.1:Int))) H.sz;have g:=afF 21 H.len;omega
def Uj {N:Nat} {a:List bF} : C2 N a=none↔∀m∈a,mB m N:=by
 unfold C2;constructor
 ·intro h m b;obtain⟨j,c⟩:=afi b;have:=cv.1 h j m c;split at this
  ·assumption
  ·cases this
 ·intro h;exact cv.2 fun j y d=>if_pos (h y (afo d))
section
variable {α β:Type}
def ey:List α->(α->Rat)->Rat
 | [],_=>0
 | a::l,f=>f a+ey l f
def pt (f:α->Rat) (b:List α):∀a:List α,ey (a++b) f=ey a f+ey b f
 | []=>by simp only[List.nil_append,ey];grind
 | x::a=>by simp only[List.cons_append,ey,pt f b a];grind
def U4 {f:α->Rat} {a b:List α} (h:a.Perm b):ey a f=ey b f:=by
 induction h with
 | nil=>rfl
 | cons x _ c=>simp only[ey];rw[c]
 | swap x y l=>simp only[ey];grind
 | trans _ _ h1 h2=>exact h1.trans h2
def oc {f g:α->Rat} : ∀ {l:List α},(∀a∈l,f a=g a)->ey l f=ey l g
 | [],_=>rfl
 | a::l,h=>by
  simp only[ey];rw[h a (ags ..),oc fun x b=>h x (agt _ b)]
def GA (h:β->α) (f:α->Rat):∀l:List β,ey (l.map h) f=ey l fun a=>f (h a)
 | []=>rfl
 | a::l=>by simp only[ae2,ey,GA h f l]
def xU (h:β->List α) (f:α->Rat):∀l:List β,ey (l.flatMap h) f=ey l fun a=>ey (h a) f
 | []=>rfl
 | a::l=>by rw[agq,pt];simp only[ey,xU h f l]
def CP (p:α->Bool) (f:α->Rat):∀l:List α,ey (l.filter p) f=ey l fun a=>if p a=true then f a else 0
 | []=>rfl
 | a::l=>by
  rw[List.filter_cons];have b:=CP p f l;split
  ·rename_i h;simp only[ey,b,h,if_true]
  ·rename_i h;simp only[ey,b,h,if_false];grind
def GB (l:List α) (f:α->Rat):ey (List.range l.length) (fun i=>(l[i]?).elim 0 f)=ey l f:=by
 have key:∀l:List α,ey (List.range l.reverse.length) (fun i=>(l.reverse[i]?).elim 0 f)=ey l.reverse f:=by
  intro l
  induction l with
  | nil=>rfl
  | cons a l b =>
   rw[List.reverse_cons,af6,List.length_singleton,ahE,pt,pt];congr 1
   ·rw[<- b];exact oc fun i c=>by rw[afQ (agB.1 c)]
   ·simp only[ey];rw[afT (aeX _)];simp
 have:=key l.reverse
 rwa [List.reverse_reverse]at this
def Sa {K:Nat} {f:α->Rat} : ∀ {l:List α},(∀a∈l,LF (f a)<=K)->LF (ey l f)<=1+l.length*(K+1)
 | [],_=>by simp only[ey];have:=xm;omega
 | a::l,h=>by
  have c:=h a (ags ..);have d:=Sa (l:=l) fun x b=>h x (agt _ b);have e:=AH (f a) (ey l f);simp only[ey,List.length_cons];rw[afS];omega
end
def DB (k:Int×Int):∀L:List DE,od k L=ey L fun c=>if k=c.1 then c.2 else 0
 | []=>rfl
 | c::L=>by simp only[od,ey,DB k L]
def gk (m:bF) (k:Nat):Bool:=match m.an.aB[k]? with|some y=>y.ba==0|none=>false
def gv (m:bF) (i:Nat):Rat:=ey (List.range m.an.aB.length) fun k=>if gk m k=true then Gw m.an k i else 0
def ls (m:bF) (i:Nat):Rat:=ey (List.range m.an.aB.length) fun k=>if gk m k=true then 0 else Gw m.an k i
section
variable {w:bg} {p:Nat} {d:Int}
end
def yy (q:Rat):Int×List Int×Int×List Int:=((cR q).bR.ak,(cR q).bR.aa,(cR q).bN.ak,(cR q).bN.aa)
def U5 (f:Nat->Rat) (n:Nat):ey (List.range (n+1)) f=ey (List.range n) f+f n:=by
 rw[ahE,pt];simp only[ey];grind
def DK {K n:Nat} {f:Nat->Rat} (h:∀i,i<n->LF (f i)<=K):LF (ey (List.range n) f)<=1+n*(K+1):=by
 have:=Sa (f:=f) (l:=List.range n) fun a b=>h a (agB.1 b)
 rwa [afr]at this
section
variable {m:bF} {N:Nat}
end
section
variable {w:bg}
end
open Classical in
def rF {α:Type} (l:List α) (Q:Nat->α->Prop) {body:Int->Option (Int⊕(Unit⊕Bool))} (k:l.length<=2000) (f:∀(i:Nat) x,l[i]? = some x->body (i:Int)=if Q i x then some (.inl ((i+1:Nat):Int)) else some (.inr (.inr false))) (g:body (l.length:Int)=some (.inr (.inl ()))) :
  (aK body 0=some (.inl ())∧∀(i:Nat) x,l[i]? = some x->Q i x)∨(aK body 0=some (.inr false)∧∃(i:Nat) (x:α),l[i]? = some x∧¬Q i x):=by
 have b:=kS l (fun i x=>if Q i x then none else some false) (by omega) (fun i x e=>by rw[f i x e];split<;>rfl) g;cases c:db (fun (i:Nat) (x:α)=>if Q i x then none else some false) 0 l with
 | none =>
  left;rw[c]at b;refine⟨b,fun i x e =>?_⟩;have:=cv.1 c i x e;rw[afH]at this;split at this
  ·assumption
  ·cases this
 | some q =>
  right;rw[c]at b;obtain⟨j,x,h,d,_⟩:=de c;rw[afH]at d;split at d
  ·cases d
  ·rename_i a;cases d;exact⟨b,j,x,h,a⟩
def KJ (a b c:Int):nf a b c=some (decide (b<=a∧a<=c)):=by
 unfold nf
 by_cases d:a>=b<;>by_cases e:a<=c<;>simp[d,e]
def T8 {a b:Rat} : (J9 a b<=0)↔a<=b:=by
 unfold J9
 by_cases c:a<b
 ·rw[if_pos c];exact⟨fun _=>by grind,fun _=>by decide⟩
 ·rw[if_neg c]
  by_cases d:b<a
  ·rw[if_pos d];exact⟨fun h=>absurd h (by decide),fun h=>by grind⟩
  ·rw[if_neg d];exact⟨fun _=>by grind,fun _=>by decide⟩
def PZ:LF (1:Rat)<=1:=DI (n:=1) (by decide)
def abe:jP 1=some (cR 1):=Yl (n:=1) (by decide)
def Zq {f:aw} (h:f.bR.aa.length<=6∧f.bN.aa.length<=6):∃b,qA f=some b∧(b=true↔∃q,f=cR q∧0<=q∧q<=1):=by
 have e:cP=4398046511104:=rfl;unfold qA;rw[P5 ⟨by unfold jt;omega,by unfold jt;omega⟩,agv];cases a:okF f with
 | false =>
  refine⟨false,rfl,?_⟩;simp only[afv,false_iff];rintro⟨q,rfl,_⟩;rw[FG]at a;cases a
 | true =>
  obtain⟨q,rfl⟩:=xE.1 a;have i:=pS h.1 h.2;have j:=PZ;rw[if_pos rfl,LX (by omega),agv]
  by_cases c:q<0
  ·rw[if_neg (by rw[decide_eq_true_eq];have:=oI.2 c;omega)];refine⟨false,rfl,?_⟩;simp only[afv,false_iff];rintro⟨g,d,k,_⟩;rw[sf d]at c;grind
  ·rw[if_pos (by rw[decide_eq_true_eq];have:=mt oI.1 c;omega),abe,agv,LR (by omega),agv];refine⟨_,rfl,?_⟩;rw[decide_eq_true_eq,T8];constructor
   ·intro h;exact⟨q,rfl,by grind,h⟩
   ·rintro⟨g,d,_,h⟩;rw[sf d];exact h
def P7 {a b:Rat} (h:LF a+LF b+1<=cP):nd (cR a) (cR b)=some (cR (a+b)):=by
 unfold nd;rw[adZ h];rfl
def acq {q:Rat} (h:LF q<=1000000):∃b,xM (cR q)=some b∧(b=true↔q=1):=by
 have a:cP=4398046511104:=rfl;have c:=PZ;unfold xM;rw[abe,agv,LR (by omega),agv];exact⟨_,rfl,by rw[beq_iff_eq,H5]⟩
def Pt {q:Rat} : ∀ {l:List Rat},(∀x∈l,0<=x)->q∈l->q<=ij l
 | [],_,h=>by cases h
 | x::l,h0,h=>by
  have b:=h0 x ags;have c:=Pu fun y a=>h0 y (agt _ a);simp only[ij];rcases ae3.1 h with rfl|h
  ·grind
  ·have:=Pt (fun y a=>h0 y (agt _ a)) h;grind
def Yy {f:cJ} (c:∀l∈f.av,l.length=f.ah.length) {k i:Nat} (d:k<f.av.length) (h:i<f.ah.length):∃a x,f.av[k]? = some a∧a[i]? = some x∧x∈a∧a∈f.av∧(rM f i)[k]? = some x:=by
 have e:f.av[k]? = some f.av[k]:=ae9 d;have g:=ae8 d;have j:=c _ g;have b:(f.av[k])[i]? = some ((f.av[k])[i]'(by omega)):=ae9 _;refine⟨_,_,e,b,afo b,g,?_⟩;unfold rM;rw[aeU,e,ae4,b];rfl
def ab7 {f:cJ} (t:ll f) (y:f.av.length=f.aB.length) (d:∀l∈f.av,l.length=f.ah.length) {i:Nat} (z:i<f.ah.length) :
  ∃q,aK (iY f (i:Int)) (0,yy 0)=some q∧((q=.inr false∧¬sL (rM f i))∨∃a:List Rat,rM f i=a.map cR∧(∀q∈a,0<=q∧LF q<=4)∧q=.inl (yy (ij a))):=by
 have A:cP=4398046511104:=rfl;have S:=t.outs;have B:(rM f i).length=f.aB.length:=by unfold rM;rw[afq,y]
 refine cn (body:=iY f (i:Int)) (fun k s=>∃a:List Rat,(rM f i).take k=a.map cR∧(∀q∈a,0<=q∧LF q<=4)∧s=((k:Int),yy (ij a))) f.aB.length _ ⟨[],rfl,fun q e=>by simp at e,rfl⟩ (gM (by omega)) ?_;rintro k _ T ⟨a,n,e,rfl⟩;have C:a.length=k:=by
  have:=congrArg List.length n;simp only[aff,afq]at this;omega
 unfold yy;simp only[iY]
 by_cases g:k<f.aB.length
 ·obtain⟨o,x,D,E,F,G,m⟩:=Yy d (show k<f.av.length by omega) z;have c:=(t.row o G).2 x F;obtain⟨b,H,u⟩:=Zq (f:=x) (by omega);rw[if_pos (by simpa using g),bf D,agv,bf E,agv,H,agv,aX (by omega)];cases b with
  | false =>
   right;refine⟨_,rfl,.inl ⟨rfl,?_⟩⟩;rintro⟨I,J,v,L⟩;rw[J,aeU]at m;obtain⟨q,M,N⟩:=aeV.1 m;have w:=afo M;have:=Pt v w;have p:=mt u.2 (by simp);exact p ⟨q,N.symm,v q w,by rw[L]at this;exact this⟩
  | true =>
   obtain⟨q,rfl,O,U⟩:=u.1 rfl;left;refine⟨g,?_⟩;have r:LF q<=4:=pS c.1 c.2;have P:=Di (K:=4) (l:=a) fun x c=>(e x c).2;rw[if_neg (by simp)];have Q:nd (aw.mk (aG.mk (cR (ij a)).bR.ak (cR (ij a)).bR.aa) (aG.mk (cR (ij a)).bN.ak (cR (ij a)).bN.aa)) (cR q)=some (cR (ij a+q)):=P7 (by omega);rw[Q,agv];have R:ij (a++[q])=ij a+q:=by rw[CQ];simp only[ij];grind
   refine⟨_,rfl,a++[q],?_,?_,by rw[R]⟩
   ·have j:k<(rM f i).length:=by omega
    rw[ahx j,n,agn];rw[ae9 j]at m;rw[ag0 m];rfl
   ·intro x c;rcases agr.1 c with h|h
    ·exact e x h
    ·rw[afj.1 h];exact⟨O,r⟩
 ·right;have:k=f.aB.length:=by omega
  refine⟨_,by rw[if_neg (by simp;omega)],.inr ⟨a,?_,e,rfl⟩⟩;rw[<- n,agj (by omega)]
def aaX {f:cJ} (w:ll f):∃b,jI f=some b∧(b=true↔HC f):=by
 have M:=w.srcs;have N:=w.outs;unfold jI;rw[if_neg (by simp;omega),if_neg (by simp;omega),agv]
 by_cases hr:f.av.length=f.aB.length
 rotate_left
 ·rw[if_pos (by rw[bne_iff_ne];omega)];exact⟨false,rfl,by simp only[afv,false_iff];exact fun h=>hr h.rows⟩
 rw[if_neg (by simp[hr])];rcases rF f.ah (fun _ x=>0<=x.ba∧x.ba<=2∧0<=x.aZ) (body:=iV f) (by omega) (fun i x c=>by
  have o:=aM c;simp only[iV];rw[if_pos (by simpa using o),bf c,agv,aX (by omega)]
  by_cases d:x.ba<0
  ·rw[if_pos (decide_eq_true d),if_neg (by omega)]
  ·rw[if_neg (by rw[decide_eq_true_eq];exact d)]
   by_cases g:x.ba>=3
   ·rw[if_pos (decide_eq_true g),if_neg (by omega)]
   ·rw[if_neg (by rw[decide_eq_true_eq];exact g)]
    by_cases s:x.aZ<0
    ·rw[if_pos (decide_eq_true s),if_neg (by omega)]
    ·rw[if_neg (by rw[decide_eq_true_eq];exact s),if_pos (by omega)]) (by simp only[iV];rw[if_neg (by simp)]) with⟨r,t⟩|⟨r,i,x,c,hbad⟩
 rotate_left
 ·rw[r];refine⟨false,rfl,?_⟩;simp only[afv,false_iff];exact fun h=>hbad (h.src x (afo c))
 rw[r,agv];simp only;rcases rF f.aB (fun k x=>(0<=x.ba∧x.ba<=3∧0<=x.aZ)∧(f.av.getD k []).length=f.ah.length) (body:=iW f) (by omega) (fun i x c=>by
  have o:=aM c;have z:f.av[i]? = some (f.av.getD i []):=by rw[afz,ae9 (by omega)];rfl
  simp only[iW];rw[if_pos (by simpa using o),bf c,agv,aX (by omega)]
  by_cases d:x.ba<0
  ·rw[if_pos (decide_eq_true d),if_neg (by omega)]
  ·rw[if_neg (by rw[decide_eq_true_eq];exact d)]
   by_cases g:x.ba>=4
   ·rw[if_pos (decide_eq_true g),if_neg (by omega)]
   ·rw[if_neg (by rw[decide_eq_true_eq];exact g)]
    by_cases s:x.aZ<0
    ·rw[if_pos (decide_eq_true s),if_neg (by omega)]
    ·rw[if_neg (by rw[decide_eq_true_eq];exact s),bf z,agv]
     by_cases h4:(f.av.getD i []).length=f.ah.length
     ·rw[if_neg (by rw[h4];simp),if_pos ⟨by omega,h4⟩]
     ·rw[if_pos (by rw[bne_iff_ne];omega),if_neg (fun h=>h4 h.2)]) (by simp only[iW];rw[if_neg (by simp)]) with⟨y,m⟩|⟨y,i,x,c,hbad⟩
 rotate_left
 ·rw[y];refine⟨false,rfl,?_⟩;simp only[afv,false_iff];intro h;have o:=aM c;have z:f.av[i]? = some (f.av.getD i []):=by rw[afz,ae9 (by omega)];rfl
  have d:=h.out x (afo c);exact hbad ⟨d,h.row _ (afo z)⟩
 rw[y,agv];simp only;have n:∀l∈f.av,l.length=f.ah.length:=fun l E=>by
  obtain⟨j,p,rfl⟩:=ag6 E;have h:=(m j _ (ae9 (by omega))).2;rw[afz,ae9 p]at h;exact h
 rcases rF f.ah (fun i _=>sL (rM f i)) (body:=iX f) (by omega) (fun i x c=>by
  open Classical in
  have o:=aM c;obtain⟨q,F,G⟩:=ab7 w hr n o;simp only[iX];rw[if_pos (by simpa using o),Yl (by decide),agv,aX (by omega)];erw [F];rw[agv];rcases G with⟨rfl,A⟩|⟨u,d,g,rfl⟩
  ·rw[if_neg A]
  ·have B:u.length<=8:=by
    have:=congrArg List.length d;unfold rM at this;rw[afq,afq]at this;have:=w.rows;omega
   have H:=Di (K:=4) (l:=u) fun x c=>(g x c).2;obtain⟨b,I,C⟩:=acq (q:=ij u) (by omega);unfold yy;simp only;erw [I];rw[agv];have D:sL (rM f i)↔ij u=1:=by
    constructor
    ·rintro⟨J,r,y,v⟩;rw[d]at r;rw[(List.map_inj_right fun a b=>sf).1 r];exact v
    ·intro h;exact⟨u,d,fun q L=>(g q L).1,h⟩
   cases b with
   | true=>rw[if_neg (by simp),if_pos (D.2 (C.1 rfl))]
   | false=>rw[if_pos (show (!false)=true from rfl),if_neg (fun h=>by have:=C.2 (D.1 h);cases this)]) (by simp only[iX];rw[if_neg (by simp)]) with⟨v,hcol⟩|⟨v,i,x,c,hbad⟩
 ·rw[v];refine⟨true,rfl,?_⟩;simp only[true_iff];exact⟨by omega,by omega,hr,fun x c=>by
   obtain⟨j,p⟩:=afi c;exact (m j x p).1,n,fun x c=>by
   obtain⟨j,p⟩:=afi c;exact t j x p,fun j p=>hcol j _ (ae9 p)⟩
 ·rw[v];refine⟨false,rfl,?_⟩;simp only[afv,false_iff];exact fun h=>hbad (h.col i (aM c))
def gR {α:Type} (l:List α) (p:α->Bool) (i:Nat):Prop:=(∃x,l[i]? = some x∧p x=true)∧∀(j:Nat) y,l[j]? = some y->p y=true->j=i
def JU {α:Type} (l:List α) (p:α->Bool) {body:Int×Int->Option ((Int×Int)⊕(Int⊕Int))} (z:l.length<=2000)
  (v:∀(s:Int) (i:Nat) x,l[i]? = some x->body (s,(i:Int))=if p x=true then (if decide (s>=0)=true then some (.inr (.inr (-1))) else some (.inl ((i:Int),((i+1:Nat):Int)))) else some (.inl (s,((i+1:Nat):Int))))
  (w:∀s:Int,body (s,(l.length:Int))=some (.inr (.inl s))) :
  ∃s:Int,(aK body (-1,0)=some (.inl s)∨aK body (-1,0)=some (.inr s))∧((s = -1∧¬ ∃i,gR l p i)∨∃i:Nat,s=i∧gR l p i):=by
 obtain⟨q,f,d⟩:=cn (body:=body)
  (fun i (st:Int×Int)=>st.2=(i:Int)∧((st.1 = -1∧∀(j:Nat) y,j<i->l[j]? = some y->p y=false)∨∃m:Nat,m<i∧st.1=m∧(∃x,l[m]? = some x∧p x=true)∧∀(j:Nat) y,j<i->l[j]? = some y->p y=true->j=m)) l.length
  (fun q=>∃s:Int,(q=.inl s∨q=.inr s)∧((s = -1∧¬ ∃i,gR l p i)∨∃i:Nat,s=i∧gR l p i)) (s:=(-1,0)) ⟨rfl,.inl ⟨rfl,fun j y t=>by omega⟩⟩ (gM (by omega)) (by
   rintro i ⟨s,k⟩ A ⟨u,c⟩;simp only at u c;subst u
   by_cases g:i<l.length
   ·have n:l[i]? = some l[i]:=ae9 g;generalize l[i]=x at n;rw[v s i x n];cases r:p x with
    | false =>
     left;refine⟨g,_,by rw[if_neg (by simp)],rfl,?_⟩;simp only;rcases c with⟨f,d⟩|⟨m,f,d,h,h4⟩
     ·refine .inl ⟨f,fun j y t b =>?_⟩
      by_cases e:j=i
      ·subst e;rw[n]at b;rw[<- ag0 b];exact r
      ·exact d j y (by omega) b
     ·refine .inr ⟨m,by omega,d,h,fun j y t b a =>?_⟩
      by_cases e:j=i
      ·subst e;rw[n]at b;rw[<- ag0 b,r]at a;cases a
      ·exact h4 j y (by omega) b a
    | true =>
     rw[if_pos rfl];rcases c with⟨f,d⟩|⟨m,f,d,h,h4⟩
     ·left;refine⟨g,_,by rw[if_neg (by rw[decide_eq_true_eq];omega)],rfl,?_⟩;simp only;refine .inr ⟨i,by omega,rfl,⟨x,n,r⟩,fun j y t b a =>?_⟩
      by_cases e:j=i
      ·exact e
      ·have:=d j y (by omega) b;rw[this]at a;cases a
     ·right;rw[if_pos (decide_eq_true (by omega))];refine⟨_,rfl,-1,.inr rfl,.inl ⟨rfl,?_⟩⟩;rintro⟨k,_,o⟩;obtain⟨y,b,a⟩:=h;have B:=o m y b a;have C:=o i x n r;omega
   ·right;have:i=l.length:=by omega
    subst this;refine⟨_,w s,s,.inl rfl,?_⟩;rcases c with⟨f,d⟩|⟨m,f,d,h,h4⟩
    ·refine .inl ⟨f,?_⟩;rintro⟨k,⟨y,b,a⟩,_⟩;have:=d k y (aM b) b;rw[this]at a;cases a
    ·exact .inr ⟨m,d,h,fun j y b a=>h4 j y (aM b) b a⟩)
 obtain⟨s,h,h4⟩:=d;refine⟨s,?_,h4⟩;rcases h with rfl|rfl
 ·exact .inl f
 ·exact .inr f
def Cs (k j:Int) (x:fK):Bool:=x.ba==k&&x.aZ==j
def wD (j:Int) (x:uf):Bool:=x.ba==0&&x.aZ==j
def Pf {f:cJ} (h:f.ah.length<=2000) (k j:Int):∃s:Int,kf f k j=some s∧((s = -1∧¬ ∃i,gR f.ah (Cs k j) i)∨∃i:Nat,s=i∧gR f.ah (Cs k j) i):=by
 obtain⟨s,a,c⟩:=JU f.ah (Cs k j) (body:=ly f k j) h (fun s i x b=>by
  have d:=aM b;simp only[ly];rw[if_pos (by simpa using d),bf b,agv,aX (by omega)];unfold Cs
  by_cases a:x.ba=k
  ·rw[if_pos (by simpa using a),agv,a,beq_self_eq_true,agm]
  ·rw[if_neg (by simpa using a),agv,beq_eq_false_iff_ne.2 a,agU]) (fun s=>by simp only[ly];rw[if_neg (by simp)])
 refine⟨s,?_,c⟩;unfold kf;rcases a with e|e<;>rw[e]<;>rfl
def WQ {f:cJ} (h:f.aB.length<=2000) (j:Int):∃s:Int,pj f j=some s∧((s = -1∧¬ ∃i,gR f.aB (wD j) i)∨∃i:Nat,s=i∧gR f.aB (wD j) i):=by
 obtain⟨s,a,c⟩:=JU f.aB (wD j) (body:=pk f j) h (fun s i x b=>by
  have d:=aM b;simp only[pk];rw[if_pos (by simpa using d),bf b,agv,aX (by omega)];unfold wD
  by_cases a:x.ba=0
  ·rw[if_pos (by simpa using a),agv,a,beq_self_eq_true,agm]
  ·rw[if_neg (by simpa using a),agv,beq_eq_false_iff_ne.2 a,agU]) (fun s=>by simp only[pk];rw[if_neg (by simp)])
 refine⟨s,?_,c⟩;unfold pj;rcases a with e|e<;>rw[e]<;>rfl
def CF:∀ {l m:List Int},l.Nodup->(∀x∈l,x∈m)->m.length=l.length->m.Perm l
 | [],m,_,_,h=>by rw[aga h]
 | a::l,m,f,hs,h=>by
  obtain⟨h1,g⟩:=agA.1 f;have c:=hs a ags;have i:=List.perm_cons_erase c;refine i.trans ((CF g (fun x d =>?_) ?_).cons a)
  ·have b:=hs x (agt _ d);exact (List.mem_erase_of_ne (fun e=>h1 (by rw[<- e];exact d))).2 b
  ·have:=List.length_erase_of_mem c;rw[afm]at h;omega
def GQ (n:Nat):(s6 n).Nodup:=by
 unfold s6 List.Nodup;rw[ag4];exact (agC (n:=n)).imp fun h=>by omega
def Fp {n:Nat} {x:Int} : x∈s6 n↔∃j:Nat,j<n∧x=j:=by
 unfold s6;rw[aeW];exact⟨fun⟨j,a,b⟩=>⟨j,agB.1 a,b.symm⟩,fun⟨j,a,b⟩=>⟨j,agB.2 a,b.symm⟩⟩
section
variable {α:Type} {l:List α} {p:α->Bool} {g:α->Int} {n:Nat}
def qg (h:((l.filter p).map g).Perm (s6 n)) {j:Nat} (B:j<n):∃i,gR l (fun x=>p x&&g x==(j:Int)) i:=by
 have C:(j:Int)∈(l.filter p).map g:=h.mem_iff.2 (Fp.2 ⟨j,B,rfl⟩);obtain⟨x,D,c⟩:=aeW.1 C;obtain⟨q,d⟩:=agy.1 D;obtain⟨i,r⟩:=afi q;refine⟨i,⟨x,r,by simp[d,c]⟩,fun k y z f =>?_⟩;simp only[afx,beq_iff_eq]at f;have e:((l.filter p).map g).Nodup:=h.nodup_iff.2 (GQ n);unfold List.Nodup at e;rw[ag4,List.pairwise_filter]at e;have key:∀(a b:Nat) (u v:α),a<b->l[a]? = some u->l[b]? = some v->p u=true->p v=true->g u≠g v:=fun a b u v s m o E F=>by
  have A:=ag5.1 e a b (aM m) (aM o) s;rw[ae9 (aM m)]at m;rw[ae9 (aM o)]at o;rw[ag0 m,ag0 o]at A;exact A E F
 rcases Nat.lt_trichotomy k i with t|heq|w
 ·exact absurd (f.2.trans c.symm) (key k i y x t z r f.1 d)
 ·exact heq
 ·exact absurd (c.trans f.2.symm) (key i k x y w r z d f.1)
def Ao (c:(l.filter p).length=n) (h:∀j,j<n->∃i,gR l (fun x=>p x&&g x==(j:Int)) i):((l.filter p).map g).Perm (s6 n):=by
 refine CF (GQ n) (fun x a =>?_) (by rw[afq,c,tM]);obtain⟨j,d,rfl⟩:=Fp.1 a;obtain⟨i,⟨x,a,b⟩,_⟩:=h j d;simp only[afx,beq_iff_eq]at b;exact aeW.2 ⟨x,agy.2 ⟨afo a,b.1⟩,b.2⟩
end
def Ef {α:Type} (l:List α) (p:α->Bool) {body:Int×Int->Option ((Int×Int)⊕Int)} (k:l.length<=2000)
  (f:∀(s i:Nat) x,s<=2000->l[i]? = some x->body ((s:Int),(i:Int))=if p x=true then some (.inl (((s+1:Nat):Int),((i+1:Nat):Int))) else some (.inl ((s:Int),((i+1:Nat):Int))))
  (g:∀s:Int,body (s,(l.length:Int))=some (.inr s)):aK body (0,0)=some ((l.filter p).length:Int):=by
 obtain⟨q,h,j⟩:=cn (body:=body) (fun i (st:Int×Int)=>st=((((l.take i).filter p).length:Int),(i:Int))) l.length (fun q=>q=((l.filter p).length:Int)) (s:=(0,0)) rfl (gM (by omega)) (by
  rintro i _ m rfl
  by_cases a:i<l.length
  ·left;refine⟨a,?_⟩;have d:l[i]? = some l[i]:=ae9 a;have b:l.take (i+1)=l.take i++[l[i]]:=ahx a;have c:=ahz p (l.take i);rw[aff]at c;generalize l[i]=x at d b;rw[f _ i x (by omega) d,b,ahA,af6];cases e:p x with
   | true=>exact⟨_,if_pos rfl,by simp[e]⟩
   | false=>exact⟨_,if_neg (by simp),by simp[e]⟩
  ·right;have:i=l.length:=by omega
   subst this;rw[agY];exact⟨_,g _,rfl⟩)
 rw[h,j]
def aaW {m:bF} {ports:Nat} (J:ports<=2000) (r:ll m.an) (A:m.aL.length<=6) (E:m.aq.length<=6):∃b,tG m (ports:Int)=some b∧(b=true↔mB m ports):=by
 have B:=r.srcs;have K:=r.outs;obtain⟨F,G,C⟩:=aaX r;unfold tG;rw[G,agv];cases F with
 | false=>exact⟨false,rfl,by simp only[afv,false_iff];exact fun h=>by have:=C.2 h.flow;cases this⟩
 | true =>
 have H:=C.1 rfl;rw[if_neg (by simp),Ef m.an.ah (fun x=>x.ba==1) (by omega) (fun s i x B a=>by
  have e:=aM a;simp only[sC];rw[if_pos (by simpa using e),bf a,agv,aX (by omega),aX (by omega)]) (fun s=>by simp only[sC];rw[if_neg (by simp)]),agv,Ef m.an.aB (fun x=>x.ba==0) (by omega) (fun s i x B a=>by
  have e:=aM a;simp only[sD];rw[if_pos (by simpa using e),bf a,agv,aX (by omega),aX (by omega)]) (fun s=>by simp only[sD];rw[if_neg (by simp)]),agv]
 by_cases g:(m.an.ah.filter fun x=>x.ba==1).length=m.aL.length
 rotate_left
 ·rw[if_pos (by rw[bne_iff_ne];omega),agv,if_pos rfl];refine⟨false,rfl,?_⟩;simp only[afv,false_iff];intro h;have:=h.takes.length_eq;rw[afq,tM]at this;exact g this
 rw[if_neg (by simp[g]),agv]
 by_cases l:(m.an.aB.filter fun x=>x.ba==0).length=m.aq.length
 rotate_left
 ·rw[if_pos (by rw[bne_iff_ne];omega)];refine⟨false,rfl,?_⟩;simp only[afv,false_iff];intro h;have:=h.gives.length_eq;rw[afq,tM]at this;exact l this
 rw[if_neg (by simp[l])];have D:IntKind.i64.wrap ((ports:Int)-1)=(ports:Int)-1:=fW (by omega);rcases rF m.aL (fun i u=>((0<=u.b7∧u.b7<(ports:Int))∧1<=u.a7∧u.a7<=1099511627776)∧∃k,gR m.an.ah (Cs 1 (i:Int)) k) (body:=pf m (ports:Int)) (by omega) (fun i x a=>by
  have e:=aM a;obtain⟨s,t,v⟩:=Pf (f:=m.an) (by omega) 1 (i:Int);simp only[pf];rw[if_pos (by simpa using e),bf a,agv,D,KJ,agv,aX (by omega)]
  by_cases p:0<=x.b7∧x.b7<=(ports:Int)-1
  ·rw[decide_eq_true p,if_neg (by simp),KJ,agv]
   by_cases h2:1<=x.a7∧x.a7<=1099511627776
   ·rw[decide_eq_true h2,if_neg (by simp),t,agv];rcases v with⟨rfl,hno⟩|⟨k,rfl,w⟩
    ·rw[if_pos (by simp),if_neg (fun h=>hno h.2)]
    ·rw[if_neg (by simp),if_pos ⟨⟨by omega,h2⟩,k,w⟩]
   ·rw[decide_eq_false h2,if_pos (by simp),if_neg (fun h=>h2 h.1.2)]
  ·rw[decide_eq_false p,if_pos (by simp),if_neg (by omega)]) (by simp only[pf];rw[if_neg (by simp)]) with⟨y,d⟩|⟨y,i,x,a,hbad⟩
 rotate_left
 ·rw[y];refine⟨false,rfl,?_⟩;simp only[afv,false_iff];exact fun h=>hbad ⟨h.uses x (afo a),qg h.takes (aM a)⟩
 rw[y,agv];simp only;rcases rF m.aq (fun i q=>(0<=q∧q<(ports:Int))∧∃k,gR m.an.aB (wD (i:Int)) k) (body:=pg m (ports:Int)) (by omega) (fun i x a=>by
  have e:=aM a;obtain⟨s,t,v⟩:=WQ (f:=m.an) (by omega) (i:Int);simp only[pg];rw[if_pos (by simpa using e),bf a,agv,D,KJ,agv,aX (by omega)]
  by_cases p:0<=x∧x<=(ports:Int)-1
  ·rw[decide_eq_true p,if_neg (by simp),t,agv];rcases v with⟨rfl,hno⟩|⟨k,rfl,w⟩
   ·rw[if_pos (by simp),if_neg (fun h=>hno h.2)]
   ·rw[if_neg (by simp),if_pos ⟨by omega,k,w⟩]
  ·rw[decide_eq_false p,if_pos (by simp),if_neg (by omega)]) (by simp only[pg];rw[if_neg (by simp)]) with⟨z,c⟩|⟨z,i,x,a,hbad⟩
 ·rw[z];refine⟨true,rfl,?_⟩;simp only[true_iff];refine⟨H,Ao g fun j n=>(d j _ (ae9 n)).2,Ao l fun j n=>(c j _ (ae9 n)).2,fun u A =>?_,fun q I =>?_⟩
  ·obtain⟨j,n⟩:=afi A;exact (d j u n).1
  ·obtain⟨j,n⟩:=afi I;exact (c j q n).1
 ·rw[z];refine⟨false,rfl,?_⟩;simp only[afv,false_iff];exact fun h=>hbad ⟨h.ports x (afo a),qg h.gives (aM a)⟩
def SX {α σ ρ:Type} (l:List α) (f:σ->α->σ) (P:Nat->σ->Prop) {body:σ×Int->Option ((σ×Int)⊕ρ)} {g:σ->ρ} {s0:σ} (p:l.length<=2000) (j:P 0 s0)
  (k:∀(i:Nat) x s,l[i]? = some x->P i s->body (s,(i:Int))=some (.inl (f s x,((i+1:Nat):Int)))∧P (i+1) (f s x))
  (m:∀s,body (s,(l.length:Int))=some (.inr (g s))):aK body (s0,0)=some (g (l.foldl f s0))∧P l.length (l.foldl f s0):=by
 obtain⟨q,n,d⟩:=cn (body:=body) (fun i st=>st=((l.take i).foldl f s0,(i:Int))∧P i ((l.take i).foldl f s0)) l.length (fun q=>q=g (l.foldl f s0)∧P l.length (l.foldl f s0)) (s:=(s0,0)) ⟨rfl,j⟩ (gM (by omega)) (by
  rintro i _ r ⟨rfl,c⟩
  by_cases a:i<l.length
  ·left;refine⟨a,?_⟩;have h:l[i]? = some l[i]:=ae9 a;have b:l.take (i+1)=l.take i++[l[i]]:=ahx a;generalize l[i]=x at h b;obtain⟨e,o⟩:=k i x _ h c;refine⟨_,e,?_⟩;rw[b,ahG];exact⟨rfl,o⟩
  ·right;have:i=l.length:=by omega
   subst this;rw[agY]at c ⊢;exact⟨_,m _,rfl,c⟩)
 rw[n,d.1];exact⟨rfl,d.2⟩
def YL {w:bg} (h:w.al.length<=2000):aK (kH w) 0=some (match Qt w with|none =>.inl ()|some r =>.inr r):=by
 refine Eq.trans (kS w.al (body:=kH w) (fun (i:Nat) (n:Int)=>if 1<=n∧n<=1099511627776 then none else some ((3:Int),(i:Int))) (by omega) (fun i x a =>?_) ?_) ?_
 ·have b:=aM a;simp only[kH];rw[if_pos (by simpa using b),bf a,agv,KJ,agv,aX (by omega)]
  by_cases h:1<=x∧x<=1099511627776
  ·rw[decide_eq_true h,if_neg (by simp),if_pos h]
  ·rw[decide_eq_false h,if_pos (by simp),if_neg h]
 ·simp only[kH];rw[if_neg (by simp)]
 ·unfold Qt;cases db (fun (i:Nat) (n:Int)=>if 1<=n∧n<=1099511627776 then none else some ((3:Int),(i:Int))) 0 w.al<;>rfl
def YQ {w:bg} (a:yC w):aK (kI w) 0=some (match C2 w.al.length w.ao with|none =>.inl ()|some r =>.inr r):=by
 open Classical in
 have l:=a.given;have n:=a.mills;refine Eq.trans (kS w.ao (body:=kI w) (fun (i:Nat) (m:bF)=>if mB m w.al.length then none else some ((1:Int),(i:Int))) (by omega) (fun i x c =>?_) ?_) ?_
 ·have e:=aM c;obtain⟨f,g,j⟩:=a.mill x (afo c);obtain⟨b,k,d⟩:=aaW (m:=x) (ports:=w.al.length) (by omega) f g j;simp only[kI];rw[if_pos (by simpa using e),bf c,agv,k,agv,aX (by omega)];cases b with
  | true=>rw[if_neg (by simp),if_pos (d.1 rfl)]
  | false=>rw[if_pos (show (!false)=true from rfl),if_neg (fun h=>by have:=d.2 h;cases this)]
 ·simp only[kI];rw[if_neg (by simp)]
 ·unfold C2;cases db (fun (i:Nat) (m:bF)=>if mB m w.al.length then none else some ((1:Int),(i:Int))) 0 w.ao<;>rfl
def Ee (q:Int):∀(l:List Int) (c:Int),l.foldl (fun s x=>if x=q then s+1 else s) c=c+(l.count q:Int)
 | [],c=>by simp
 | x::l,c=>by
  rw[afG,Ee q l,List.count_cons]
  by_cases h:x=q
  ·subst h;simp;omega
  ·simp[h]
def abA {w:bg} {i:Nat} {m:bF} (a:w.ao[i]? = some m) (e:m.aq.length<=6) (q:Nat) {c:Int} (f:0<=c∧c<=1000000) :
  aK (kN w (q:Int) (i:Int)) (c,(0:Int))=some (c+(m.aq.count (q:Int):Int)):=by
 have h:=(SX m.aq (fun s x=>if x=(q:Int) then s+1 else s) (fun k s=>0<=s∧s<=1000000+(k:Int)) (body:=kN w (q:Int) (i:Int)) (g:=id) (s0:=c) (by omega) (by omega) (fun k x s b j=>by
  have d:=aM b;simp only[kN];rw[bf a,agv,if_pos (by simpa using d),bf b,agv,aX (by omega),fW (by omega)]
  by_cases h:x=(q:Int)
  ·rw[if_pos (by simpa using h),if_pos h];exact⟨rfl,by omega⟩
  ·rw[if_neg (by simpa using h),if_neg h];exact⟨rfl,by omega⟩) (fun s=>by
  simp only[kN];rw[bf a,agv,if_neg (by simp)];rfl)).1
 rw[h,Ee];rfl
def Zv {w:bg} (b:yC w) (q:Nat):qB w (q:Int)=some (GY w.ao q):=by
 have e:=b.mills;unfold qB;rw[(SX w.ao (fun x m=>x+(m.aq.count (q:Int):Int)) (fun k s=>0<=s∧s<=6*(k:Int)) (body:=nh w (q:Int)) (g:=id) (s0:=0) (by omega) (by omega) (fun k m s a f=>by
  have d:=aM a;have c:=(b.mill m (afo a)).2.2;have h:m.aq.count (q:Int)<=6:=aeZ (List.count_le_length ..) c;simp only[nh];rw[if_pos (by simpa using d),abA a c q (by omega),agv,aX (by omega)];exact⟨rfl,by omega⟩) (fun s=>by
  simp only[nh];rw[if_neg (by simp)];rfl)).1]
 rfl
def adB {w:bg} {i:Nat} {m:bF} (b:w.ao[i]? = some m) (n:m.aL.length<=6) (d:∀u∈m.aL,1<=u.a7∧u.a7<=1099511627776) (q:Nat) {c:Int} (e:0<=c∧c<=1099511627777) :
  aK (mo w (q:Int) (i:Int)) (c,(0:Int))=some (pN q m.aL c) :=
 (SX m.aL (Ly q) (fun k s=>0<=s∧s<=1099511627777) (body:=mo w (q:Int) (i:Int)) (g:=id) (s0:=c) (by omega) e (fun k x s a f=>by
  have j:=aM a;have l:=d x (afo a);refine⟨?_,GR f l⟩;simp only[mo];rw[bf b,agv,if_pos (by simpa using j),bf a,agv,aX (by omega),fW (by omega)];unfold Ly
  by_cases h:x.b7=(q:Int)
  ·rw[if_pos (by simpa using h),if_pos h];congr 3;split<;>split<;>omega
  ·rw[if_neg (by simpa using h),if_neg h]) (fun s=>by
  simp only[mo];rw[bf b,agv,if_neg (by simp)];rfl)).1
def abF {w:bg} (d:yC w) (b:∀m∈w.ao,mB m w.al.length) (q:Nat):tF w (q:Int)=some (JW w.ao q):=by
 have j:=d.mills;unfold tF;rw[(SX w.ao (fun x m=>pN q m.aL x) (fun k s=>0<=s∧s<=1099511627777) (body:=pe w (q:Int)) (g:=id) (s0:=0) (by omega) (by omega) (fun k m s c e=>by
  have h:=aM c;have a:=afo c;have f:∀u∈m.aL,1<=u.a7∧u.a7<=1099511627776:=fun u i=>((b m a).uses u i).2;simp only[pe];rw[if_pos (by simpa using h),adB c (d.mill m a).2.1 f q e,agv,aX (by omega)];exact⟨rfl,sI e f⟩) (fun s=>by
  simp only[pe];rw[if_neg (by simp)];rfl)).1]
 rfl
def Zw {w:bg} (e:yC w):aK (kJ w) 0=some (match Qu ((List.range w.al.length).map (GY w.ao)) with|none =>.inl ()|some r =>.inr r):=by
 have f:=e.given;refine Eq.trans (kS ((List.range w.al.length).map (GY w.ao)) (body:=kJ w) (fun (i:Nat) (x:Int)=>if x=0 then some ((21:Int),(i:Int)) else if 1<x then some (5,(i:Int)) else none) (by simp;omega) (fun i x c =>?_) ?_) ?_
 ·have d:=aM c;rw[BI]at d;rw[cV _ d]at c;obtain rfl:=ag0 c;simp only[kJ];rw[if_pos (by simpa using d),Zv e,agv,aX (by omega)]
  by_cases a:GY w.ao i=0
  ·rw[if_pos (by simpa using a),if_pos a]
  ·rw[if_neg (by simpa using a),if_neg a]
   by_cases b:1<GY w.ao i
   ·rw[if_pos (by simpa using b),if_pos b]
   ·rw[if_neg (by simpa using b),if_neg b]
 ·simp only[kJ];rw[if_neg (by simp)]
 ·unfold Qu;cases db (fun (i:Nat) (x:Int)=>if x=0 then some ((21:Int),(i:Int)) else if 1<x then some (5,(i:Int)) else none) 0 ((List.range w.al.length).map (GY w.ao))<;>rfl
def Zz {w:bg} (f:yC w) (a:∀m∈w.ao,mB m w.al.length):aK (kK w) 0=some (match Qv w ((List.range w.al.length).map (JW w.ao)) with|none =>.inl ()|some r =>.inr r):=by
 have g:=f.given;refine Eq.trans (kS ((List.range w.al.length).map (JW w.ao)) (body:=kK w) (fun (i:Nat) (x:Int)=>if w.al.getD i 0<x then some ((25:Int),(i:Int)) else none) (by simp;omega) (fun i x c =>?_) ?_) ?_
 ·have d:=aM c;rw[BI]at d;rw[cV _ d]at c;obtain rfl:=ag0 c;have e:w.al[i]? = some (w.al.getD i 0):=by rw[afz,ae9 (by omega)];rfl
  simp only[kK];rw[if_pos (by simpa using d),abF f a,agv,bf e,agv,aX (by omega)]
  by_cases b:w.al.getD i 0<JW w.ao i
  ·rw[if_pos (decide_eq_true b),if_pos b]
  ·rw[if_neg (by rw[decide_eq_true_eq];exact b),if_neg b]
 ·simp only[kK];rw[if_neg (by simp)]
 ·unfold Qv;cases db (fun (i:Nat) (x:Int)=>if w.al.getD i 0<x then some ((25:Int),(i:Int)) else none) 0 ((List.range w.al.length).map (JW w.ao))<;>rfl
def SD {w:bg} (a:yC w):nZ w=some ((z6 w).getD (0,0)):=by
 have d:=a.given;have e:=a.mills;unfold nZ z6;rw[if_neg (by simp;omega),decide_eq_false (by omega),agv,if_neg (by simp),YL (by omega),agv];cases Qt w with
 | some r=>rfl
 | none =>
 simp only[Option.none_or];rw[YQ a,agv];cases c:C2 w.al.length w.ao with
 | some r=>rfl
 | none =>
 have b:=Uj.1 c;simp only[Option.none_or];rw[Zw a,agv];cases Qu ((List.range w.al.length).map (GY w.ao)) with
 | some r=>rfl
 | none =>
 simp only[Option.none_or];rw[Zz a b,agv];cases Qv w ((List.range w.al.length).map (JW w.ao))<;>rfl
end Go.Proofs.YtekhokjkphgphaaGreat.P
