import Derived.Test.YtoioidmblipblaaGreatIf
set_option linter.unusedSimpArgs false
set_option linter.unusedVariables false
noncomputable section
open Go.Proofs.Tryz
namespace Go.Proofs.YtoioidmblipblaaGreat.P
open Go.RowKit
theorem Yv {a b:List Int} (ha:Dg a) (hb:Dg b) (hf:Fit a) (aa:b.length<=a.length) (hle:dv b<=dv a) :
  ∃l,ba (q8 b a) (0,0,a)=some l∧l.length=a.length∧Dg l∧dv l=dv a-dv b:=by
 unfold Fit at hf;refine eQ (I:=fun i s=>s.2.1=(i:Int)∧s.2.2.length=a.length∧Dg s.2.2∧(∀j (Z:j<s.2.2.length) (Y:j<a.length),i<=j->s.2.2[j]=a[j])∧(0<=s.1∧s.1<=1)∧dv s.2.2+dv (b.take i)=dv a+pw i*s.1)
  a.length _ ⟨rfl,rfl,ha,fun j Z _ _=>rfl,by simp,by simp[dv]⟩ (mN (by omega)) ?_
 rintro i ⟨c,s,l⟩ hi ⟨h1,hl,hd,hz,hc,he⟩;simp only at h1 hl hd hz hc he;subst h1;simp only[q8]
 by_cases O:i<a.length
 ·left;have U:i<l.length:=by omega
  rw[if_pos (by simpa using O),cR U,ahg,hz i U O (afD _)];have ga:=ha.get O;have gb:=SF hb i;have hT:(if decide ((i:Int)<(b.length:Int))=true then (P.idx b (i:Int)).bind fun ab=>some (IntKind.i64.wrap ((IntKind.i64.wrap (a[i]-c))-ab)) else some (IntKind.i64.wrap (a[i]-c)))=some (a[i]-c-gd b i):=by
   by_cases X:i<b.length
   ·rw[if_pos (by simpa using X),cR X,ahg];rw[Xo X]at gb ⊢;rw[jn (x:=a[i]-c) (by omega),jn (by omega)]
   ·rw[if_neg (by simpa using X),Xn (by omega),jn (by omega)];simp
  rw[hT,ahg,Ou,ahg,ss (by omega) (by omega),ZB (by omega) (by omega)];have e1:IntKind.i64.wrap ((i:Int)+1)=((i+1:Nat):Int):=by rw[jn (by omega)];omega
  refine⟨O,_,rfl,e1,by simpa using hl,hd.set _ (by omega),fun j Z Y ah =>?_,by simp only;omega,?_⟩
  ·simp only[Int.toNat_natCast]at Z ⊢;rw[ahV (by omega)];exact hz j (by simpa using Z) Y (by omega)
  ·simp only[Int.toNat_natCast];rw[sP U,hz i U O (afD _),xf];have hp:=yW i (a[i]-c-gd b i);have ad:(a[i]-c-gd b i) / 1048576 % 2 = - ((a[i]-c-gd b i) / 1048576):=by omega
   rw[ad,Int.mul_neg];rw[ahW,ahW]at hp;rw[ahW];omega
 ·right;have ae:i=a.length:=by omega
  subst ae;refine⟨l,by rw[if_neg (by simp)],hl,hd,?_⟩;rw[CR aa]at he;have h1:=pr hd;rw[hl]at h1;have ag:c=0:=by
   rcases (show c=0∨c=1 by omega) with h|h
   ·exact h
   ·subst h;omega
  subst ag;omega
theorem sub_eq {a b:List Int} (X:Dg a) (Y:Dg b) (U:Fit a) (O:b.length<=a.length) (hle:dv b<=dv a):po a b=some (bf (dv a-dv b).toNat):=by
 obtain⟨l,h1,h2,h3,h4⟩:=Yv X Y U O hle;unfold po;rw[sH U,ahg,h1,ahg,tu,xP (by unfold Fit at *;omega) h3,h4]
theorem mD {l:List Int} {i:Nat} (h:i<l.length):dv (l.drop i)=l[i]+1048576*dv (l.drop (i+1)):=by
 rw[ahD h,dv]
theorem acR {x d:Int} (h:0<=x) (O:0<d) (U:x<4611686018427387904):B9 .i64 x d=some (x / d):=by
 unfold B9;rw[if_neg (by omega),Int.tdiv_eq_ediv_of_nonneg h,jn];have:=ahX h (Int.le_of_lt O);have:=Int.ediv_le_self d h;omega
theorem ac7 {x d:Int} (h:0<=x) (O:0<d):AQ .i64 x d=some (x % d):=by
 unfold AQ;rw[if_neg (by omega),Int.tmod_eq_emod_of_nonneg h]
theorem QJ {a:List Int} {d:Int} (ha:Dg a) (X:0<d∧d<=1048576) (hf:Fit a) :
  ∃r,ba (nH a d) (0,IntKind.i64.wrap ((a.length:Int)-1),List.replicate a.length 0)=some r∧r.2.length=a.length∧Dg r.2∧(0<=r.1∧r.1<d)∧dv a=d*dv r.2+r.1:=by
 unfold Fit at hf;have e0:IntKind.i64.wrap ((a.length:Int)-1)=(a.length:Int)-1:=jn (by omega);rw[e0];refine eQ (I:=fun i s=>s.2.1=((a.length-i:Nat):Int)-1∧s.2.2.length=a.length∧Dg s.2.2∧(0<=s.1∧s.1<d)∧dv (a.drop (a.length-i))=d*dv (s.2.2.drop (a.length-i))+s.1)
  a.length _ ⟨rfl,by simp,Dg.rep _,by simp;omega,by simp[dv]⟩ (mN (by omega)) ?_
 rintro i ⟨r,s,l⟩ hi ⟨h1,Y,Z,hr,he⟩;simp only at h1 Y Z hr he;subst h1;generalize hk:a.length-i=k at *;simp only[nH]
 by_cases h0:0<k
 ·left;have O:k-1<a.length:=by omega
  have U:k-1<l.length:=by omega
  have ek:((k:Int)-1)=((k-1:Nat):Int):=by omega
  have ga:=ha.get O;rw[ek,if_pos (by simp),Yf (by omega) (by omega),ahg,cR O,ahg,QA (by omega) (by omega) ga,acR (by omega) X.1 (by omega),ahg,cR U,ahg,ac7 (by omega) X.1,ahg];have e1:IntKind.i64.wrap (((k-1:Nat):Int)-1)=((k-1:Nat):Int)-1:=jn (by omega);have aa:0<=1048576*r+a[k-1]:=by omega
  have ab:0<=(1048576*r+a[k-1]) / d:=ahX aa (by omega);have ad:(1048576*r+a[k-1]) / d<1048576:=by
   apply ahY X.1;have:1048576*r<=1048576*(d-1):=ahR (by omega) (by omega);omega
  have ae:=Int.emod_nonneg (1048576*r+a[k-1]) (show d≠0 by omega);have ag:=ahZ (1048576*r+a[k-1]) X.1;refine⟨by omega,_,rfl,by rw[e1,show a.length-(i+1)=k-1 by omega],by simpa using Y,Z.set _ ⟨ab,ad⟩,⟨ae,ag⟩,?_⟩;simp only[Int.toNat_natCast];rw[show a.length-(i+1)=k-1 by omega,mD O,mD (l:=l.set (k-1) _) (i:=k-1) (by simpa using U),show k-1+1=k by omega,List.getElem_set_self,List.drop_set_of_lt (by omega),he];have:=ah0 (1048576*r+a[k-1]) d;rw[ahS,ahS];have e3:d*(1048576*dv (l.drop k))=1048576*(d*dv (l.drop k)):=by rw[<- ahT,ahP d,ahT]
  rw[e3];omega
 ·right;have:k=0:=by omega
  subst this;refine⟨(r,l),by rw[if_neg (by simp)],Y,Z,hr,?_⟩;simpa using he
theorem Ot {a:List Int} {d:Int} (U:Dg a) (X:0<d∧d<=1048576) (O:Fit a):lX a d=some (bf (dv a / d).toNat,dv a % d):=by
 obtain⟨⟨r,l⟩,h1,h2,h3,h4,h5⟩:=QJ U X O;unfold lX;rw[mk0 O,ahg,h1,ahg];simp only at h2 h3 h4 h5 ⊢;rw[xP (by unfold Fit at *;omega) h3,ahg];have Y:dv a / d=dv l:=by
  rw[h5,ahP,Int.add_comm,Int.add_mul_ediv_right _ _ (by omega),Int.ediv_eq_zero_of_lt h4.1 h4.2];omega
 have Z:dv a % d=r:=by
  rw[h5,ahP,Int.add_comm,Int.add_mul_emod_self_right];exact Int.emod_eq_of_lt h4.1 h4.2
 rw[Y,Z]
theorem UT {b l0:List Int} {x:Int} {i n:Nat} (hb:Dg b) (hx:0<=x∧x<1048576) (h0:Dg l0) (hn:l0.length=n) (hi:i+b.length<n) (hf:n<=17592186044416) (X:∀j (Y:j<l0.length),i+b.length<=j->l0[j]=0) :
  ∃r,ba (qZ b (i:Int) x) (0,0,l0)=some r∧r.2.length=n∧Dg r.2∧(0<=r.1∧r.1<1048576)∧(∀j (Y:j<r.2.length),i+b.length<=j->r.2[j]=0)∧dv r.2+pw (i+b.length)*r.1=dv l0+pw i*(x*dv b):=by
 refine eQ (I:=fun k s=>s.2.1=(k:Int)∧s.2.2.length=n∧Dg s.2.2∧(0<=s.1∧s.1<1048576)∧(∀j (Y:j<s.2.2.length),i+b.length<=j->s.2.2[j]=0)∧dv s.2.2+pw (i+k)*s.1=dv l0+pw i*(x*dv (b.take k)))
  b.length _ ⟨rfl,hn,h0,by simp,X,by simp[dv]⟩ (mN (by omega)) ?_
 rintro k ⟨c,s,l⟩ hk ⟨h1,hl,Z,hc,X,he⟩;simp only at h1 hl Z hc X he;subst h1;simp only[qZ]
 by_cases O:k<b.length
 ·left;have U:i+k<l.length:=by omega
  have ei:IntKind.i64.wrap ((i:Int)+(k:Int))=((i+k:Nat):Int):=by rw[jn (by omega)];omega
  have gb:=hb.get O;have gl:=Z.get U;have ad:0<=x*b[k]:=ah1 hx.1 gb.1;have ae:x*b[k]<=1048575*1048575:=Int.mul_le_mul (by omega) (by omega) gb.1 (by omega);rw[if_pos (by simpa using O),cR O,ahg,ei,cR U,ahg,jn (x:=x*b[k]) (by omega),jn (x:=l[i+k]+x*b[k]) (by omega),jn (x:=l[i+k]+x*b[k]+c) (by omega),Ou,ahg,ss (by omega) (by omega)];have e1:IntKind.i64.wrap ((k:Int)+1)=((k+1:Nat):Int):=by rw[jn (by omega)];omega
  refine⟨O,_,rfl,e1,by simpa using hl,Z.set _ (by omega),by simp only;omega,fun j Y aa =>?_,?_⟩
  ·simp only[Int.toNat_natCast]at Y ⊢;rw[ahV (by omega)];exact X j (by simpa using Y) aa
  ·simp only[Int.toNat_natCast];rw[sP U,jq O];have hp:=yW (i+k) (l[i+k]+x*b[k]+c);rw[ahS (pw (i+k)),ahS (pw (i+k))]at hp;have e2:pw i*(x*(dv (b.take k)+pw k*b[k]))=pw i*(x*dv (b.take k))+pw (i+k)*(x*b[k]):=by
    rw[ahS,ahS,JJ];congr 1;rw[ah2 x,<- ahT]
   rw[e2,ahW,show i+(k+1)=i+k+1 by omega];omega
 ·right;have ab:k=b.length:=by omega
  subst ab;refine⟨(c,l),by rw[if_neg (by simp)],hl,Z,hc,X,?_⟩;rw[he,ahJ]
theorem US {a b:List Int} (ha:Dg a) (hb:Dg b) (hf:a.length+b.length<=17592186044416) :
  ∃l,ba (qY a b) (0,List.replicate (a.length+b.length) 0)=some l∧l.length=a.length+b.length∧Dg l∧dv l=dv a*dv b:=by
 refine eQ (I:=fun i s=>s.1=(i:Int)∧s.2.length=a.length+b.length∧Dg s.2∧(∀j (X:j<s.2.length),i+b.length<=j->s.2[j]=0)∧dv s.2=dv (a.take i)*dv b)
  a.length _ ⟨rfl,by simp,Dg.rep _,fun j X _=>by simp,by simp[dv,Cn]⟩ (mN (by omega)) ?_
 rintro i ⟨s,l⟩ hi ⟨h1,Y,Z,hz,he⟩;simp only at h1 Y Z hz he;subst h1;simp only[qY]
 by_cases O:i<a.length
 ·left;have ga:=ha.get O;obtain⟨⟨c,m⟩,g1,g2,g3,g4,g5,g6⟩:=UT (i:=i) (n:=a.length+b.length) hb ga Z Y (by omega) hf hz;rw[if_pos (by simpa using O),cR O,ahg,g1,ahg];simp only at g2 g3 g4 g5 g6 ⊢;have ei:IntKind.i64.wrap ((i:Int)+(b.length:Int))=((i+b.length:Nat):Int):=by rw[jn (by omega)];omega
  have U:i+b.length<m.length:=by omega
  rw[ei,cR U,ahg,g5 _ U (afD _),Int.zero_add,jn (x:=c) (by omega)];have e1:IntKind.i64.wrap ((i:Int)+1)=((i+1:Nat):Int):=by rw[jn (by omega)];omega
  refine⟨O,_,rfl,e1,by simpa using g2,g3.set _ g4,fun j X ab =>?_,?_⟩
  ·simp only[Int.toNat_natCast]at X ⊢;rw[ahV (by omega)];exact g5 j (by simpa using X) (by omega)
  ·simp only[Int.toNat_natCast];rw[sP U,g5 _ U (afD _),Int.sub_zero,g6,he,jq O,ah3,ahT]
 ·right;have aa:i=a.length:=by omega
  subst aa;refine⟨l,by rw[if_neg (by simp)],Y,Z,?_⟩;rw[he,ahJ]
theorem mul_eq {a b:List Int} (U:Dg a) (X:Dg b) (O:a.length+b.length<=17592186044416):nG a b=some (bf (dv a*dv b).toNat):=by
 obtain⟨l,h1,h2,h3,h4⟩:=US U X O;unfold nG;have e:IntKind.i64.wrap ((a.length:Int)+(b.length:Int))=((a.length+b.length:Nat):Int):=by rw[jn (by omega)];omega
 rw[e,mk0 O,ahg,h1,ahg,tu,xP (by unfold Fit;omega) h3,h4]
def lY (x y:Int):Int:=if x<y then -1 else if y<x then 1 else 0
theorem B5 (x y:Int):fW x y=some (lY x y):=by
 unfold fW nT lY;simp only[bne_self_eq_false,Option.bind_some,agd,if_false,decide_eq_true_eq];split
 ·rfl
 ·split<;>rfl
theorem K9 {a b:List Int} (X:Dg a) (Y:Dg b) (Z:Fit a) (hl:a.length=b.length):fV a b=some (lY (dv a) (dv b)):=by
 unfold Fit at Z;unfold fV;rw[if_neg (by simp;omega)];have e0:IntKind.i64.wrap ((a.length:Int)-1)=(a.length:Int)-1:=jn (by omega);rw[e0];have key:∃r,ba (kW a b) ((a.length:Int)-1)=some r∧(match r with | .inl _=>lY (dv a) (dv b)=0 | .inr x=>x=lY (dv a) (dv b)):=by
  refine eQ (I:=fun i s=>s=((a.length-i:Nat):Int)-1∧a.drop (a.length-i)=b.drop (a.length-i)) a.length _ ⟨rfl,?_⟩ (mN Z) ?_
  ·rw[aht (by omega),aht (by omega)]
  rintro i s hi ⟨rfl,he⟩;generalize hk:a.length-i=k at *;simp only[kW]
  by_cases h0:0<k
  ·have h1:k-1<a.length:=by omega
   have h2:k-1<b.length:=by omega
   have ek:((k:Int)-1)=((k-1:Nat):Int):=by omega
   rw[ek,if_pos (by simp),cR h1,ahg,cR h2,ahg]
   by_cases U:a[k-1]=b[k-1]
   ·left;rw[if_neg (by simpa using U)];refine⟨by omega,_,rfl,by rw[jn (by omega)];omega,?_⟩;rw[show a.length-(i+1)=k-1 by omega,ahD h1,ahD h2,U,show k-1+1=k by omega,he]
   ·right;rw[if_pos (by simpa using U),B5,ahg];refine⟨_,rfl,?_⟩;simp only;have ea:=iW a (i:=k) (by omega);have eb:=iW b (i:=k) (by omega);have ta:=jq h1;have tb:=jq h2;rw[show k-1+1=k by omega]at ta tb;have la:=pr (X.take (k-1));have lb:=pr (Y.take (k-1));rw[afW,agS (by omega)]at la lb;have na:=dx (X.take (k-1));have nb:=dx (Y.take (k-1));have hp:=oU (k-1);rw[ta]at ea;rw[tb]at eb;rw[he]at ea;unfold lY;rcases Int.lt_or_gt_of_ne U with O|O
    ·have:pw (k-1)*a[k-1]+pw (k-1)<=pw (k-1)*b[k-1]:=by
      have:pw (k-1)*(a[k-1]+1)<=pw (k-1)*b[k-1]:=ahR (by omega) (by omega)
      rwa [ahS,ahQ]at this
     rw[if_pos O,if_pos (by omega)]
    ·have:pw (k-1)*b[k-1]+pw (k-1)<=pw (k-1)*a[k-1]:=by
      have:pw (k-1)*(b[k-1]+1)<=pw (k-1)*a[k-1]:=ahR (by omega) (by omega)
      rwa [ahS,ahQ]at this
     rw[if_neg (by omega),if_pos O,if_neg (by omega),if_pos (by omega)]
  ·right;have:k=0:=by omega
   subst this;refine⟨.inl (),by rw[if_neg (by simp)],?_⟩;simp only[ag7]at he;simp[he,lY]
 obtain⟨r,h1,h2⟩:=key;rw[h1,ahg];cases r with
 | inl u=>simp only at h2 ⊢;rw[h2]
 | inr x=>simp only at h2 ⊢;rw[h2]
theorem sJ {m n:Nat} (h:(bf m).length<(bf n).length):m<n:=by
 have h1:=jc m;have O:n≠0:=fun U=>by subst U;rw[dw]at h;simp at h
 have h2:=wP O;have h3:=rH (i:=(bf m).length) (j:=(bf n).length-1) (by omega);omega
theorem fk {m n:Nat} (h:m<=n):(bf m).length<=(bf n).length:=by
 rcases agp (bf n).length (bf m).length with h1|h1
 ·have:=sJ h1;omega
 ·exact h1
theorem vu {m n:Nat} (hm:Fit (bf m)) (U:Fit (bf n)):fV (bf m) (bf n)=some (lY m n):=by
 by_cases O:(bf m).length=(bf n).length
 ·rw[K9 (eA m) (eA n) hm O,cj,cj]
 ·unfold fV;rw[if_pos (by simp;omega),B5,tu];unfold lY;rcases Nat.lt_or_gt_of_ne O with h|h
  ·have:=sJ h;rw[if_pos (by omega),if_pos (by omega)]
  ·have:=sJ h;rw[if_neg (by omega),if_pos (by omega),if_neg (by omega),if_pos (by omega)]
theorem JP {u v:List Int} {g:Int} (hu:Dg u) (hv:Dg v) (hg:0<=g∧g<=1048576) (hf:Fit u) (hl:v.length<=u.length) :
  ∃r,ba (kd u v g) (0,0,u)=some r∧r.2.length=u.length∧Dg r.2∧(0<=r.1∧r.1<=1048576)∧dv r.2+g*dv v=dv u+pw u.length*r.1:=by
 unfold Fit at hf;refine eQ (I:=fun i s=>s.2.1=(i:Int)∧s.2.2.length=u.length∧Dg s.2.2∧(∀j (hj:j<s.2.2.length) (Z:j<u.length),i<=j->s.2.2[j]=u[j])∧(0<=s.1∧s.1<=1048576)∧dv s.2.2+g*dv (v.take i)=dv u+pw i*s.1)
  u.length _ ⟨rfl,rfl,hu,fun j hj _ _=>rfl,by simp,by simp[dv]⟩ (mN (by omega)) ?_
 rintro i ⟨c,s,l⟩ hi ⟨h1,Y,hd,hz,hc,he⟩;simp only at h1 Y hd hz hc he;subst h1;simp only[kd]
 by_cases O:i<u.length
 ·left;have U:i<l.length:=by omega
  rw[if_pos (by simpa using O),cR U,ahg,hz i U O (afD _)];have ga:=hu.get O;have gb:=SF hv i;have aa:0<=g*gd v i:=ah1 hg.1 gb.1;have ab:g*gd v i<=1048576*1048575:=Int.mul_le_mul (by omega) (by omega) gb.1 (by omega);have hT:(if decide ((i:Int)<(v.length:Int))=true then (P.idx v (i:Int)).bind fun ad=>some (IntKind.i64.wrap ((IntKind.i64.wrap (u[i]-c))-(IntKind.i64.wrap (g*ad)))) else some (IntKind.i64.wrap (u[i]-c)))=some (u[i]-c-g*gd v i):=by
   by_cases X:i<v.length
   ·rw[if_pos (by simpa using X),cR X,ahg];rw[Xo X]at gb aa ab ⊢;rw[jn (x:=u[i]-c) (by omega),jn (x:=g*v[i]) (by omega),jn (by omega)]
   ·rw[if_neg (by simpa using X),Xn (by omega),jn (by omega)];simp
  rw[hT,ahg,Ou,ahg,ss (by omega) (by omega),jn (x:=0-_) (by omega)];have e1:IntKind.i64.wrap ((i:Int)+1)=((i+1:Nat):Int):=by rw[jn (by omega)];omega
  refine⟨O,_,rfl,e1,by simpa using Y,hd.set _ (by omega),fun j hj Z ag =>?_,by simp only;omega,?_⟩
  ·simp only[Int.toNat_natCast]at hj ⊢;rw[ahV (by omega)];exact hz j (by simpa using hj) Z (by omega)
  ·simp only[Int.toNat_natCast];rw[sP U,hz i U O (afD _),xf];have hp:=yW i (u[i]-c-g*gd v i);rw[ahW (pw i),ahW (pw i)]at hp;have e2:g*(dv (v.take i)+pw i*gd v i)=g*dv (v.take i)+pw i*(g*gd v i):=by rw[ahS,ah2]
   rw[e2,ahW (pw i),ahW (pw (i+1)),ah4];omega
 ·right;have ae:i=u.length:=by omega
  subst ae;refine⟨(c,l),by rw[if_neg (by simp)],Y,hd,hc,?_⟩;rw[CR hl]at he;exact he
theorem JQ {u v:List Int} (hu:Dg u) (hv:Dg v) (hf:Fit u) (hl:v.length<=u.length) :
  ∃l,ba (ke v u) (0,0,u)=some l∧l.length=u.length∧Dg l∧∃c,0<=c∧dv l+pw u.length*c=dv u+dv v:=by
 unfold Fit at hf;refine eQ (I:=fun i s=>s.2.1=(i:Int)∧s.2.2.length=u.length∧Dg s.2.2∧(∀j (hj:j<s.2.2.length) (Z:j<u.length),i<=j->s.2.2[j]=u[j])∧(0<=s.1∧s.1<=1)∧dv s.2.2+pw i*s.1=dv u+dv (v.take i))
  u.length _ ⟨rfl,rfl,hu,fun j hj _ _=>rfl,by simp,by simp[dv]⟩ (mN (by omega)) ?_
 rintro i ⟨c,s,l⟩ hi ⟨h1,Y,hd,hz,hc,he⟩;simp only at h1 Y hd hz hc he;subst h1;simp only[ke]
 by_cases O:i<u.length
 ·left;have U:i<l.length:=by omega
  rw[if_pos (by simpa using O),cR U,ahg,hz i U O (afD _)];have ga:=hu.get O;have gb:=SF hv i;have hT:(if decide ((i:Int)<(v.length:Int))=true then (P.idx v (i:Int)).bind fun aa=>some (IntKind.i64.wrap ((IntKind.i64.wrap (c+u[i]))+aa)) else some (IntKind.i64.wrap (c+u[i])))=some (c+u[i]+gd v i):=by
   by_cases X:i<v.length
   ·rw[if_pos (by simpa using X),cR X,ahg];rw[Xo X]at gb ⊢;rw[jn (x:=c+u[i]) (by omega),jn (by omega)]
   ·rw[if_neg (by simpa using X),Xn (by omega),jn (by omega)];simp
  rw[hT,ahg,Ou,ahg,ss (by omega) (by omega)];have e1:IntKind.i64.wrap ((i:Int)+1)=((i+1:Nat):Int):=by rw[jn (by omega)];omega
  refine⟨O,_,rfl,e1,by simpa using Y,hd.set _ (by omega),fun j hj Z ad =>?_,by simp only;omega,?_⟩
  ·simp only[Int.toNat_natCast]at hj ⊢;rw[ahV (by omega)];exact hz j (by simpa using hj) Z (by omega)
  ·simp only[Int.toNat_natCast];rw[sP U,hz i U O (afD _),xf];have hp:=yW i (c+u[i]+gd v i);rw[ahS (pw i),ahS (pw i)]at hp;rw[ahW (pw i)];omega
 ·right;have ab:i=u.length:=by omega
  subst ab;refine⟨l,by rw[if_neg (by simp)],Y,hd,c,hc.1,?_⟩;rw[CR hl]at he;exact he
theorem U5 {u v:List Int} {g:Int} (hu:Dg u) (X:Dg v) (hf:Fit u) (hl:v.length<=u.length) (hV:0<dv v) (ag:dv u / dv v<=g) (ah:g<=dv u / dv v+1) (Y:g<=1048576) :
  ∃l,fL u v g=some (l,dv u / dv v)∧l.length=u.length∧Dg l∧dv l=dv u % dv v:=by
 have ai:0<=dv u / dv v:=ahX (dx hu) (by omega);obtain⟨⟨c,l⟩,h1,h2,h3,h4,h5⟩:=JP hu X ⟨by omega,Y⟩ hf hl;simp only at h2 h3 h4 h5;have hm:=ah0 (dv u) (dv v);have aj:=Int.emod_nonneg (dv u) (show dv v≠0 by omega);have ak:=ahZ (dv u) hV;have Z:=pr h3;have al:=dx h3;rw[h2]at Z;have hp:=oU u.length;have an:dv v<pw u.length:=Int.lt_of_lt_of_le (pr X) (rH hl);unfold fL ot;rw[h1,ahg];simp only;rcases (show g=dv u / dv v∨g=dv u / dv v+1 by omega) with U|U
 ·have aa:g*dv v=dv v*(dv u / dv v):=by rw[U,ahP]
  have O:c=0:=by
   rcases (show c=0∨1<=c by omega) with h|h
   ·exact h
   ·have:pw u.length*1<=pw u.length*c:=ahR h (by omega);omega
  subst O;rw[if_pos (by simp),ahg,if_pos (by simpa using h2)];exact⟨l,by rw[U],h2,h3,by rw[ah4]at h5;omega⟩
 ·have aa:g*dv v=dv v*(dv u / dv v)+dv v:=by rw[U,ah3,ah5,ahP]
  have O:c≠0:=by
   intro h;subst h;rw[ah4]at h5;omega
  obtain⟨m,g1,g2,g3,d,g4,g5⟩:=JQ h3 X (by unfold Fit at *;omega) (by omega);rw[if_neg (by simpa using O),g1,ahg,ahg,if_pos (by simp;omega)];refine⟨m,by rw[jn (by omega),U];simp,by omega,g3,?_⟩;rw[h2]at g5;have ab:=pr g3;have ae:=dx g3;rw[g2,h2]at ab;have ad:c=d:=by
   rcases ahL c d with h|h|h
   ·have:pw u.length*(c+1)<=pw u.length*d:=ahR (by omega) (by omega);rw[ahS,ahQ]at this;omega
   ·exact h
   ·have:pw u.length*(d+1)<=pw u.length*c:=ahR (by omega) (by omega);rw[ahS,ahQ]at this;omega
  subst ad;omega
theorem Qe {v u:List Int} {s13:Int} {v1 v2 O T V W:Int} {n:Nat} (hn:2<=n) (hlen:v.length=n) (aq:n<=17592186044416) (i:Nat) (hs:s13=i) (ar:i+n<=17592186044416)
  (ab:P.idx v (((n-2:Nat)):Int)=some v2) (ad:P.idx u (((i+n-2:Nat)):Int)=some O)
  (b1:524288<=v1∧v1<1048576) (b2:0<=v2∧v2<1048576) (bw:0<=O∧O<1048576) (ae:0<=T) (au:T<1048576*1048576)
  (hV:pw (n-2)*(v1*1048576+v2)<=V∧V<pw (n-2)*(v1*1048576+v2+1)) (hW:pw (n-2)*(T*1048576+O)<=W∧W<pw (n-2)*(T*1048576+O+1)) (ag:W<1048576*V) :
  ∃g,ba (qX v s13 u v1) (T / v1,T % v1)=some g∧W / V<=g∧g<=W / V+1∧g<=1048576:=by
 subst hs;have hp:=oU (n-2);have X:0<V:=by
  have:pw (n-2)*1<=pw (n-2)*(v1*1048576+v2):=ahR (by omega) (by omega);omega
 have ah:0<=W:=by
  have:0<=pw (n-2)*(T*1048576+O):=ah1 (by omega) (by omega);omega
 have av:0<=W / V:=ahX ah (by omega);have aw:W / V<1048576:=ahY X ag;have hm:=ah0 T v1;have ai:=Int.emod_nonneg T (show v1≠0 by omega);have ax:=ahZ T (show 0<v1 by omega);have ay:0<=T / v1:=ahX ae (by omega);have aj:T / v1<=2097152:=by
  have:T / v1<2097153:=ahY (by omega) (by
   have:2097153*524288<=2097153*v1:=ahR b1.1 (by omega);omega)
  omega
 have ak:∀g r:Int,g*v1+r=T->W / V<=g->g*v2>r*1048576+O->W / V<=g-1:=by
  intro g r h1 h2 h3;have h4:W<g*V:=by
   have e1:g*(v1*1048576+v2)>=T*1048576+O+1:=by
    rw[<- h1];have:g*(v1*1048576+v2)=g*v1*1048576+g*v2:=by rw[ahS,ahT]
    rw[this,ah3];omega
   have e2:pw (n-2)*(T*1048576+O+1)<=pw (n-2)*(g*(v1*1048576+v2)):=ahR e1 (by omega);have e3:g*(pw (n-2)*(v1*1048576+v2))<=g*V:=ahR hV.1 (by omega);have e4:pw (n-2)*(g*(v1*1048576+v2))=g*(pw (n-2)*(v1*1048576+v2)):=ah2 _ _ _;omega
  have:=ahY X h4;omega
 have hle:∀g r:Int,g*v1+r=T->0<=g->g<=1048576->g*v2<=r*1048576+O->g<=W / V+1:=by
  intro g r h1 h0 hB h3;have e1:g*(v1*1048576+v2)<=T*1048576+O:=by
   rw[<- h1];have:g*(v1*1048576+v2)=g*v1*1048576+g*v2:=by rw[ahS,ahT]
   rw[this,ah3];omega
  have e2:g*V<=W+V:=by
   have f1:g*V<=g*(pw (n-2)*(v1*1048576+v2+1)):=ahR (by omega) h0;have f2:g*(pw (n-2)*(v1*1048576+v2+1))=pw (n-2)*(g*(v1*1048576+v2))+pw (n-2)*g:=by
    rw[ah2,ahS g,ahQ,ahS]
   have f3:pw (n-2)*(g*(v1*1048576+v2))<=pw (n-2)*(T*1048576+O):=ahR e1 (by omega);have f4:pw (n-2)*g<=pw (n-2)*(v1*1048576+v2):=ahR (by omega) (by omega);omega
  have e3:(g-1)*V<=W:=by rw[Int.sub_mul,ah5];omega
  have:=Int.le_ediv_of_mul_le X e3;omega
 have Y:W / V<=T / v1:=by
  have e1:W<(T / v1+1)*V:=by
   have f1:T+1<=(T / v1+1)*v1:=by
    have:(T / v1+1)*v1=v1*(T / v1)+v1:=by rw[ah3,ah5,ahP]
    omega
   have f2:T*1048576+O+1<=(T / v1+1)*(v1*1048576+v2):=by
    have g1:(T+1)*1048576<=(T / v1+1)*v1*1048576:=ah6 f1 (by omega);have g2:0<=(T / v1+1)*v2:=ah1 (by omega) b2.1;rw[ahS,<- ahT];omega
   have f3:pw (n-2)*(T*1048576+O+1)<=pw (n-2)*((T / v1+1)*(v1*1048576+v2)):=ahR f2 (by omega);have f4:(T / v1+1)*(pw (n-2)*(v1*1048576+v2))<=(T / v1+1)*V:=ahR hV.1 (by omega);have f5:pw (n-2)*((T / v1+1)*(v1*1048576+v2))=(T / v1+1)*(pw (n-2)*(v1*1048576+v2)):=ah2 _ _ _;omega
  have:=ahY X e1;omega
 refine Dk (I:=fun (s:Int×Int)=>s.1*v1+s.2=T∧W / V<=s.1∧s.1<=2097152∧0<=s.2) (μ:=fun (s:Int×Int)=>s.1.toNat) _ ⟨?_,Y,aj,ai⟩ (by unfold FU;omega) ?_
 ·show T / v1*v1+T % v1=T;rw[ahP];exact hm
 rintro⟨g,r⟩ ⟨h1,h2,h3,h4⟩;simp only at h1 h2 h3 h4;have az:0<=g*v1:=ah1 (by omega) (by omega);simp only[qX];have el:IntKind.i64.wrap ((v.length:Int)-2)=((n-2:Nat):Int):=by rw[hlen,jn (by omega)];omega
 have ei:IntKind.i64.wrap ((IntKind.i64.wrap ((i:Int)+(v.length:Int)))-2)=((i+n-2:Nat):Int):=by rw[hlen,jn (x:=(i:Int)+n) (by omega),jn (by omega)];omega
 rw[el,ei];have U:W / V<=g-1->∃Z:Int×Int,(some (Sum.inl (IntKind.i64.wrap (g-1),IntKind.i64.wrap (r+v1))):Option ((Int×Int)⊕Int))=some (.inl Z)∧(Z.1*v1+Z.2=T∧W / V<=Z.1∧Z.1<=2097152∧0<=Z.2)∧Z.1.toNat<g.toNat:=by
  intro al;refine⟨_,rfl,?_⟩;rw[jn (x:=g-1) (by omega),jn (x:=r+v1) (by omega)];simp only;refine⟨⟨by rw[Int.sub_mul,ah5];omega,al,by omega,by omega⟩,by omega⟩
 by_cases aa:g>=1048576
 ·rw[if_pos (by simpa using aa),ahg,if_pos rfl];exact .inl (U (by omega))
 ·rw[if_neg (by simpa using aa)]
  by_cases hr:r<1048576
  ·have ao:0<=g*v2:=ah1 (by omega) b2.1;have an:g*v2<=1048576*1048576:=Int.mul_le_mul (by omega) (by omega) b2.1 (by omega);rw[if_pos (by simpa using hr),ab,ahg,Yf h4 (by omega),ahg,ad,ahg,jn (x:=g*v2) (by omega),QA h4 (by omega) bw,ahg]
   by_cases ht:g*v2>1048576*r+O
   ·rw[if_pos (by simpa using ht)];exact .inl (U (ak g r h1 h2 (by omega)))
   ·rw[if_neg (by simpa using ht)];exact .inr ⟨g,rfl,h2,hle g r h1 (by omega) (by omega) (by omega),by omega⟩
  ·rw[if_neg (by simpa using hr),ahg,if_neg (by simp)];refine .inr ⟨g,rfl,h2,hle g r h1 (by omega) (by omega) ?_,by omega⟩;have:g*v2<=1048575*1048575:=Int.mul_le_mul (by omega) (by omega) b2.1 (by omega);have:1048576*1048576<=r*1048576:=ah6 (by omega) (by omega);omega
theorem ack {α:Type} {l:List α} {a b:Nat} (h:a<=b) (O:b<=l.length):wo l (a:Int) (b:Int)=some ((l.drop a).take (b-a)):=by
 unfold wo;rw[if_pos ⟨by omega,by omega,by omega⟩];simp
theorem ZP {l:List Int} {n:Nat} (Y:l.length=n) (Z:2<=n) (O:Dg l) :
  pw (n-2)*((l[n-1]'(by omega))*1048576+l[n-2]'(by omega))<=dv l∧dv l<pw (n-2)*((l[n-1]'(by omega))*1048576+l[n-2]'(by omega)+1):=by
 have e:=iW l (i:=n-2) (by omega);rw[mD (by omega),mD (i:=n-2+1) (by omega),aht (by omega)]at e;have U:l[n-2+1]'(by omega)=l[n-1]'(by omega):=by congr 1;omega
 rw[U]at e;have h1:=dx (O.take (n-2));have h2:=pr (O.take (n-2));rw[afW,agS (by omega)]at h2;simp only[dv]at e;have X:l[n-2]'(by omega)+1048576*(l[n-1]'(by omega)+1048576*0)=(l[n-1]'(by omega))*1048576+l[n-2]'(by omega):=by omega
 rw[X]at e;rw[ahS (pw (n-2)) _ 1,ahQ];omega
theorem ZQ {l:List Int} {n:Nat} (Z:l.length=n+1) (hn:2<=n) (O:Dg l) :
  pw (n-2)*((1048576*(l[n]'(by omega))+l[n-1]'(by omega))*1048576+l[n-2]'(by omega))<=dv l∧dv l<pw (n-2)*((1048576*(l[n]'(by omega))+l[n-1]'(by omega))*1048576+l[n-2]'(by omega)+1):=by
 have e:=iW l (i:=n-2) (by omega);rw[mD (by omega),mD (i:=n-2+1) (by omega),mD (i:=n-2+1+1) (by omega),aht (by omega)]at e;have U:l[n-2+1]'(by omega)=l[n-1]'(by omega):=by congr 1;omega
 have X:l[n-2+1+1]'(by omega)=l[n]'(by omega):=by congr 1;omega
 rw[U,X]at e;have h1:=dx (O.take (n-2));have h2:=pr (O.take (n-2));rw[afW,agS (by omega)]at h2;simp only[dv]at e;have Y:l[n-2]'(by omega)+1048576*(l[n-1]'(by omega)+1048576*(l[n]'(by omega)+1048576*0))=(1048576*(l[n]'(by omega))+l[n-1]'(by omega))*1048576+l[n-2]'(by omega):=by omega
 rw[Y]at e;rw[ahS (pw (n-2)) _ 1,ahQ];omega
theorem WI {v u0:List Int} {n m:Nat} (hv:Dg v) (O:v.length=n) (hn:2<=n) (al:524288<=v[n-1]'(by omega)) (hu:Dg u0) (an:u0.length=m+n) (hf:m+n<=17592186044416) (X:dv (u0.drop m)<dv v) :
  ∃r,ba (qW v) ((m:Int)-1,u0,List.replicate m 0)=some r∧r.1.length=m+n∧Dg r.1∧r.2.length=m∧Dg r.2∧dv r.1+dv v*dv r.2=dv u0∧dv r.1<dv v:=by
 have ao:=pr hv;rw[O]at ao;refine eQ (I:=fun i s=>s.1=((m-i:Nat):Int)-1∧s.2.1.length=m+n∧Dg s.2.1∧s.2.2.length=m∧Dg s.2.2∧(∀j (hj:j<s.2.2.length),j<m-i->s.2.2[j]=0)∧dv s.2.1+dv v*dv s.2.2=dv u0∧dv (s.2.1.drop (m-i))<dv v)
  m _ ⟨rfl,an,hu,by simp,Dg.rep _,fun j hj _=>by simp,by simp[Cn],X⟩ (mN (by omega)) ?_
 rintro i ⟨s,u,q⟩ hi ⟨h1,hl,U,Z,aa,hz,he,X⟩;simp only at h1 hl U Z aa hz he X;subst h1;generalize hk:m-i=k at *;simp only[qW]
 by_cases h0:0<k
 ·left;have ek:((k:Int)-1)=((k-1:Nat):Int):=by omega
  rw[ek,if_pos (by simp)];have e1:IntKind.i64.wrap (((k-1:Nat):Int)+(v.length:Int))=((k-1+n:Nat):Int):=by rw[O,jn (by omega)];omega
  have e2:IntKind.i64.wrap (((k-1+n:Nat):Int)-1)=((k-1+n-1:Nat):Int):=by rw[jn (by omega)];omega
  have e3:IntKind.i64.wrap ((v.length:Int)-1)=((n-1:Nat):Int):=by rw[O,jn (by omega)];omega
  have e4:IntKind.i64.wrap (((k-1+n:Nat):Int)+1)=((k-1+n+1:Nat):Int):=by rw[jn (by omega)];omega
  have e5:IntKind.i64.wrap (((k-1:Nat):Int)-1)=((k-1:Nat):Int)-1:=jn (by omega);rw[e1,e2,e3,e4,e5];have i1:k-1+n<u.length:=by omega
  have i2:k-1+n-1<u.length:=by omega
  have i3:k-1+n-2<u.length:=by omega
  have iv:n-1<v.length:=by omega
  have ae:n-2<v.length:=by omega
  have g1:=U.get i1;have g2:=U.get i2;have g3:=U.get i3;have gv:=hv.get iv;have aq:=hv.get ae;rw[cR i1,ahg,Yf g1.1 (by omega),ahg,cR i2,ahg,cR iv,ahg,QA g1.1 (by omega) g2,acR (by omega) (by omega) (by omega),ahg,ac7 (by omega) (by omega),ahg,ack (by omega) (by omega),show k-1+n+1-(k-1)=n+1 by omega];generalize hw:(u.drop (k-1)).take (n+1)=w;have ar:w.length=n+1:=by rw[<- hw,afW,afX];omega
  have Y:Dg w:=by rw[<- hw];exact (U.drop _).take _
  have ab:∀j (hj:j<n+1),w[j]'(by omega)=u[k-1+j]'(by omega):=by
   intro j hj;subst hw;rw[List.getElem_take,List.getElem_drop]
  have ag:dv (u.drop (k+n))=0:=by
   have s1:=iW (u.drop k) (i:=n) (by rw[afX];omega);rw[ahv]at s1;have n1:=dx ((U.drop k).take n);have n2:=dx (U.drop (k+n));have hp:=oU n;rcases (show dv (u.drop (k+n))=0∨1<=dv (u.drop (k+n)) by omega) with h|h
   ·exact h
   ·have:pw n*1<=pw n*dv (u.drop (k+n)):=ahR h (by omega);omega
  have hW:dv w=dv (u.drop (k-1)):=by
   have s1:=iW (u.drop (k-1)) (i:=n+1) (by rw[afX];omega);rw[ahv,show k-1+(n+1)=k+n by omega,ag,hw]at s1;omega
  have ax:dv w=u[k-1]+1048576*dv (u.drop k):=by
   rw[hW,mD (by omega),show k-1+1=k by omega]
  have gk:=U.get (show k-1<u.length by omega);have ah:dv w<1048576*dv v:=by omega
  have t2:=ZP O hn hv;have t3:=ZQ ar hn Y;rw[ab n (by omega),ab (n-1) (by omega),ab (n-2) (by omega)]at t3;have a1:u[k-1+(n-1)]'(by omega)=u[k-1+n-1]'(by omega):=by congr 1;omega
  have a2:u[k-1+(n-2)]'(by omega)=u[k-1+n-2]'(by omega):=by congr 1;omega
  rw[a1,a2]at t3;obtain⟨g,q1,q2,q3,q4⟩:=Qe (s13:=((k-1:Nat):Int)) hn O (by omega) (k-1) rfl (by omega) (cR ae) (cR i3) ⟨al,gv.2⟩ aq g3 (T:=1048576*u[k-1+n]+u[k-1+n-1]) (by omega) (by omega) t2 t3 ah;rw[q1,ahg,ahg];have ad:0<dv v:=by
   have:=dx Y;omega
  obtain⟨l,r1,r2,r3,r4⟩:=U5 Y hv (by unfold Fit;omega) (by omega) ad q2 q3 q4;have iq:k-1<q.length:=by omega
  rw[r1,ahg,cR iq,ahg];simp only;have au:0<=dv w / dv v:=ahX (dx Y) (by omega);have av:dv w / dv v<1048576:=ahY ad ah;have ai:=ahZ (dv w) ad;simp only[Int.toNat_natCast];have aj:dv (l++u.drop (k-1+n+1))=dv w % dv v:=by
   rw[jo,show k-1+n+1=k+n by omega,ag,r4];omega
  have ak:(u.take (k-1)).length=k-1:=by rw[afW];omega
  have aw:dv (u.take (k-1)++(l++u.drop (k-1+n+1)))=dv (u.take (k-1))+pw (k-1)*(dv w % dv v):=by rw[jo,ak,aj]
  refine⟨by omega,_,rfl,by rw[show m-(i+1)=k-1 by omega],?_,(U.take _).append (r3.append (U.drop _)),by simpa using Z,aa.set _ ⟨au,av⟩,fun j hj ay =>?_,?_,?_⟩
  ·simp only[agP,afW,afX];omega
  ·rw[ahV (by omega)];exact hz j (by simpa using hj) (by omega)
  ·rw[aw,sP iq,hz _ iq (by omega),Int.sub_zero,ahS];have s2:=iW u (i:=k-1) (by omega);rw[<- hW]at s2;have hm:=ah0 (dv w) (dv v);have:pw (k-1)*dv w=dv v*(pw (k-1)*(dv w / dv v))+pw (k-1)*(dv w % dv v):=by
    rw[ah2,<- ahS,hm]
   omega
  ·rw[show m-(i+1)=k-1 by omega,ahs,ak,agR,ag7,aht (by omega),ahq,aj];exact ai
 ·right;have:k=0:=by omega
  subst this;refine⟨(u,q),by rw[if_neg (by simp)],hl,U,Z,aa,he,?_⟩;simpa using X
theorem QI {v:List Int} {t:Int} {n:Nat} (U:v.length=n) (hn:0<n) (hf:n<=17592186044416) (X:v[n-1]'(by omega)=t) (h1:1<=t) (h2:t<1048576) :
  ∃s,ba (qV v) 1=some s∧∃j:Nat,s=2 ^ j∧j<=19∧524288<=t*s∧t*s<1048576:=by
 refine eQ (I:=fun i s=>s=2 ^ i∧t*s<1048576) 20 _ ⟨rfl,by omega⟩ (by unfold FU;omega) ?_;rintro i s hi ⟨rfl,Y⟩;have hp:(0:Int)<2 ^ i:=Int.pow_pos (by decide);have Z:(2:Int) ^ i<=t*2 ^ i:=by
  have:1*(2:Int) ^ i<=t*2 ^ i:=ah6 h1 (by omega);omega
 have O:i<=19:=by
  rcases agp 19 i with h|h
  ·have hx:i=20:=by omega
   subst hx;omega
  ·exact h
 simp only[qV];have e:IntKind.i64.wrap ((v.length:Int)-1)=((n-1:Nat):Int):=by rw[U,jn (by omega)];omega
 rw[e,cR (by omega),ahg,X,jn (x:=t*2 ^ i) (by omega)]
 by_cases h:t*2 ^ i<524288
 ·left;rw[if_pos (by simpa using h)];refine⟨by omega,_,rfl,by rw[jn (by omega),Int.pow_succ],?_⟩;rw[jn (by omega),<- ahT];omega
 ·right;rw[if_neg (by simpa using h)];exact⟨_,rfl,i,rfl,O,by omega,Y⟩
theorem div_eq {m n:Nat} (hn:n≠0) (aP:(bf m).length<=17592186043904) (aQ:(bf n).length<=17592186043904):qU (bf m) (bf n)=some (bf (m / n),bf (m % n)):=by
 unfold qU;rw[vu (by unfold Fit;omega) (by unfold Fit;omega),ahg]
 by_cases ah:m<n
 ·have:lY (m:Int) n<0:=by unfold lY;rw[if_pos (by omega)];decide
  rw[if_pos (by simpa using this),sH (by unfold Fit;omega),ahg,Nat.div_eq_of_lt ah,agB ah,dw]
 have:¬lY (m:Int) n<0:=by unfold lY;rw[if_neg (by omega)];split<;>decide
 rw[if_neg (by simpa using this)];obtain⟨aR,aS⟩:=wP hn;have ai:=jc n
 by_cases h1:(bf n).length=1
 ·rw[if_pos (by simp;omega)];have aT:(n:Int)<1048576:=by rw[h1]at ai;simpa [pw] using ai
  have e:bf n=[(n:Int)]:=by
   rw[mJ hn,Nat.div_eq_of_lt (by omega),dw,agB (by omega)]
  have ei:P.idx (bf n) 0=some (n:Int):=by rw[e];rfl
  rw[ei,ahg,Ot (eA m) ⟨by omega,by omega⟩ (by unfold Fit;omega),ahg,cj];have ar:(m:Int) % n=((m % n:Nat):Int):=(Int.natCast_emod m n).symm;have au:((m:Int) / n).toNat=m / n:=by
   rw[<- Int.natCast_ediv];rfl
  have aU:m % n<n:=Nat.mod_lt _ (by omega);simp only[ar,au];rw[Bn (n:=m % n) (by simp[Fit]) (Dg.mk (by omega) Dg.nil) (by simp[dv]),ahg]
 ·rw[if_neg (by simp;omega)];generalize hN:(bf n).length=N at *;have av:2<=N:=by omega
  have ad:=eA n;have gt:=ad.get (show N-1<(bf n).length by omega);generalize ht:(bf n)[N-1]'(by omega)=t at gt;have O:=iW (bf n) (i:=N-1) (by omega);rw[cj,mD (by omega),aht (by omega),ht]at O;simp only[dv,ah4,Int.add_zero]at O;have aw:=dx (ad.take (N-1));have ax:=pr (ad.take (N-1));rw[afW,agS (by omega)]at ax;have aV:=oU (N-1);have ay:1<=t:=by
   rcases (show t=0∨1<=t by omega) with h|h
   ·subst h;omega
   ·exact h
  obtain⟨s,az,j,aj,hj,aA,ae⟩:=QI hN (by omega) (by omega) ht ay gt.2;have aB:(2:Int) ^ j<=524288:=by
   have:∀j:Nat,j<=19->(2:Int) ^ j<=524288:=by decide
   exact this j hj
  have aC:(0:Int)<2 ^ j:=Int.pow_pos (by decide);have aD:(t+1)*s<=1048576:=by
   have aE:(1048576:Int)=2 ^ (20-j)*2 ^ j:=by rw[<- Int.pow_add,Nat.sub_add_cancel (by omega)];rfl
   rw[aE]at ae ⊢;rw[aj]at ae ⊢;have:t<2 ^ (20-j):=Int.lt_of_mul_lt_mul_right ae (by omega);exact ah6 (by omega) (by omega)
  rw[<- aj]at aC aB;obtain⟨S,rfl⟩:∃S:Nat,s=S:=⟨s.toNat,by omega⟩;have ak:Dg [(S:Int)]:=Dg.mk (by omega) Dg.nil;have Y:dv [(S:Int)]=S:=by simp[dv]
  rw[az,ahg,mul_eq (eA m) ak (by simp;omega),ahg,cj,Y];have em:((m:Int)*S).toNat=m*S:=by rw[<- agE];rfl
  have en:((n:Int)*S).toNat=n*S:=by rw[<- agE];rfl
  rw[em];have aW:(bf (m*S)).length<=(bf m).length+1:=by
   apply kG;rw[jF,agE];have X:=jc m;have:(m:Int)*S<=m*1048576:=ahR (by omega) (by omega);omega
  have hU:∃u,((if ((((bf (m*S)++[0]).length:Int))==((bf m).length:Int))=true then (kr 8 (bf (m*S)++[0]) [0]).bind fun aF=>some aF else some (bf (m*S)++[0]))=some u)∧Dg u∧dv u=(m*S:Nat)∧dv u<pw (u.length-1)∧(bf (m*S)).length+1<=u.length∧u.length<=(bf m).length+3:=by
   have d1:Dg (bf (m*S)++[0]):=(eA _).append (Dg.mk (by omega) Dg.nil);have v1:dv (bf (m*S)++[0])=(m*S:Nat):=by rw[jo,cj];simp[dv]
   have v2:=jc (m*S);split
   ·rw[IS (by simp;omega),ahg];refine⟨_,rfl,d1.append (Dg.mk (by omega) Dg.nil),by rw[jo,v1];simp[dv],?_,by simp,by simp;omega⟩;rw[jo,v1];simp only[dv,agP,List.length_cons,List.length_nil];have:=rH (i:=(bf (m*S)).length) (j:=(bf (m*S)).length+1) (by omega);rw[show (bf (m*S)).length+(0+1)+(0+1)-1=(bf (m*S)).length+1 by omega];omega
   ·refine⟨_,rfl,d1,v1,?_,by simp,by simp;omega⟩;rw[v1];simpa using v2
  obtain⟨u,aG,al,aH,aX,aY,aZ⟩:=hU;rw[IS (by simp;omega),ahg,mul_eq (eA n) ak (by simp;omega),ahg,cj,Y,en,aG,ahg];have aO:524288*pw (N-1)<=((n*S:Nat):Int):=by
   rw[agE,O,ah3];have X:0<=dv ((bf n).take (N-1))*S:=ah1 aw (by omega);have a2:pw (N-1)*524288<=pw (N-1)*(t*S):=ahR aA (by omega);rw[ahT];omega
  have an:((n*S:Nat):Int)<pw N:=by
   have a0:pw N=1048576*pw (N-1):=by rw[<- jF];congr 1;omega
   rw[a0,agE,O];have X:(dv ((bf n).take (N-1))+pw (N-1)*t+1)*S<=(pw (N-1)*(t+1))*S:=ah6 (by rw[ahS];omega) (by omega);have a2:pw (N-1)*((t+1)*S)<=pw (N-1)*1048576:=ahR aD (by omega);rw[ahT]at X;rw[ah3 _ 1,ah5]at X;omega
  have ao:(bf (n*S)).length=N:=by
   have X:=kG an;rcases agp (bf (n*S)).length N with h|h
   ·have a2:=jc (n*S);have a3:=rH (i:=(bf (n*S)).length) (j:=N-1) (by omega);omega
   ·omega
  have aI:524288<=(bf (n*S))[N-1]'(by omega):=by
   have X:=iW (bf (n*S)) (i:=N-1) (by omega);rw[cj,mD (by omega),aht (by omega)]at X;simp only[dv,ah4,Int.add_zero]at X;have a2:=pr ((eA (n*S)).take (N-1));rw[afW,agS (by omega)]at a2;have a3:pw (N-1)*524288<pw (N-1)*((bf (n*S))[N-1]'(by omega)+1):=by rw[ahS];omega
   have:=Int.lt_of_mul_lt_mul_left a3 (by omega);omega
  have hlen:N+1<=u.length:=by
   have:n*S<=m*S:=agr _ (by omega);have:=fk this;omega
  obtain⟨M,hM⟩:∃M,u.length=M+N:=⟨u.length-N,by omega⟩;have e1:IntKind.i64.wrap ((u.length:Int)-((bf (n*S)).length:Int))=(M:Int):=by rw[ao,hM,jn (by omega)];omega
  rw[e1,mk0 (by omega),ahg,List.length_replicate,jn (x:=(M:Int)-1) (by omega)];have aJ:dv (u.drop M)<dv (bf (n*S)):=by
   rw[cj];have X:=iW u (i:=M) (by omega);have a2:=dx (al.take M);have a3:pw M*dv (u.drop M)<pw M*pw (N-1):=by
    rw[<- JJ,show M+(N-1)=u.length-1 by omega];omega
   have:=Int.lt_of_mul_lt_mul_left a3 (by have:=oU M;omega);omega
  obtain⟨⟨U,Q⟩,r1,r2,r3,r4,r5,r6,r7⟩:=WI (eA (n*S)) ao av aI al hM (by omega) aJ;simp only at r2 r3 r4 r5 r6 r7;rw[r1,ahg];simp only;rw[cj,aH]at r6;rw[cj]at r7;have a6:=dx r3;have a7:=dx r5;have hS:0<S:=by omega
  have aK:0<n*S:=Nat.mul_pos (by omega) hS;obtain⟨Z,ag⟩:∃k:Nat,dv U=k:=⟨(dv U).toNat,by omega⟩;obtain⟨Q',aq⟩:∃k:Nat,dv Q=k:=⟨(dv Q).toNat,by omega⟩;rw[ag,aq]at r6;rw[ag]at r7;have aa:Z+n*S*Q'=m*S:=by
   have:((Z+n*S*Q':Nat):Int)=((m*S:Nat):Int):=by rw[Int.natCast_add,agE (n*S) Q'];exact r6
   omega
  have ab:Z<n*S:=by omega
  have aL:Q'=m / n:=by
   have:m*S / (n*S)=Q':=by
    rw[<- aa,Nat.add_mul_div_left _ _ aK,Nat.div_eq_of_lt ab,agt]
   rw[<- this,Nat.mul_div_mul_right _ _ hS]
  have aM:Z=(m % n)*S:=by
   have:m*S % (n*S)=Z:=by rw[<- aa,Nat.add_mul_mod_self_left,agB ab]
   rw[<- this,Nat.mul_mod_mul_right]
  rw[Bn (n:=Z) (by unfold Fit;omega) r3 ag,ahg];have aN:(bf Z).length<=N:=kG (by omega);rw[Ot (eA Z) ⟨by omega,by omega⟩ (by unfold Fit;omega),ahg,Bn (n:=Q') (by unfold Fit;omega) r5 aq,ahg,cj,aL,aM];have:((((m % n)*S:Nat):Int) / (S:Int)).toNat=m % n:=by
   rw[agE,Int.mul_ediv_cancel _ (by omega)];rfl
  rw[this]
def gw (x:Int):az:=az.mk x.sign (bf x.natAbs)
def Ln (x:Int):Nat:=(bf x.natAbs).length
def gg:Nat:=4398046511104
def qN:Nat:=17592186043904
theorem wD {n:Nat} (h:n<=gg):n<=qN:=afF h (by decide)
theorem Nl:gw 0=az.mk 0 []:=by unfold gw;rw[show (0:Int).natAbs=0 from rfl,dw];rfl
theorem S1 {x y:Int} (h:gw x=gw y):x=y:=by
 unfold gw at h;simp only[az.mk.injEq]at h;have:=WG h.2;have h1:=Int.sign_mul_natAbs x;have h2:=Int.sign_mul_natAbs y;rw[<- h1,<- h2,h.1,this]
theorem Kg {x:Int} {k:Nat} (h:(x.natAbs:Int)<pw k):Ln x<=k:=kG h
theorem SY (x:Int):(x.natAbs:Int)<pw (Ln x):=jc _
theorem Rw {x y:Int} (h:x.natAbs<=y.natAbs):Ln x<=Ln y:=fk h
theorem Pf (x:Int):Ln (-x)=Ln x:=by unfold Ln;rw[Int.natAbs_neg]
theorem Pe (x y:Int):Ln (x+y)<=max (Ln x) (Ln y)+1:=by
 apply Kg;have h1:=SY x;have h2:=SY y;have h3:=rH (i:=Ln x) (j:=max (Ln x) (Ln y)) (by omega);have h4:=rH (i:=Ln y) (j:=max (Ln x) (Ln y)) (by omega);have h5:=Int.natAbs_add_le x y;rw[jF];omega
theorem lU (x y:Int):Ln (x*y)<=Ln x+Ln y:=by
 apply Kg;have h1:=SY x;have h2:=SY y;rw[ah7,agE,JJ];have O:=oU (Ln x)
 calc (x.natAbs:Int)*y.natAbs<=pw (Ln x)*y.natAbs:=ah6 (by omega) (by omega)
  _<pw (Ln x)*pw (Ln y):=Int.mul_lt_mul_of_pos_left h2 O
theorem Kh {x:Int} (h:x.natAbs<1048576):Ln x<=1:=Kg (by rw[jF,pF];omega)
instance (l:List Int):Decidable (Dg l):=by unfold Dg;infer_instance
def okB (b:az):Bool:=decide (Dg b.aa)&&(match b.aa.getLast? with|none=>b.ah==0|some d=>(b.ah==1||b.ah == -1)&&d != 0)
theorem xr {b:az} : okB b=true↔∃x,b=gw x:=by
 obtain⟨s,l⟩:=b;unfold okB;simp only[age,decide_eq_true_eq];constructor
 ·rintro⟨Z,h⟩;cases X:l.getLast? with
  | none =>
   rw[X]at h;have:l=[]:=List.getLast?_eq_none_iff.1 X;subst this;exact⟨0,by rw[Nl];simpa using h⟩
  | some d =>
   rw[X]at h;simp only[age,ahh,beq_iff_eq,bne_iff_ne]at h;have O:l≠[]:=by intro h0;subst h0;simp at X
   have U:∀h:l≠[],l.getLast h≠0:=by
    intro h';rw[ah8 h']at X;cases X;exact h.2
   have e:=A9 Z U;have h0:(dv l).toNat≠0:=by
    intro h0;rw[h0,dw]at e;exact O e.symm
   have hn:=dx Z;refine⟨s*dv l,?_⟩;unfold gw;rcases h.1 with rfl|rfl
   ·rw[ah5,ah9 (by omega)];have:(dv l).natAbs=(dv l).toNat:=by omega
    rw[this,e]
   ·rw[Int.neg_mul,ah5,Int.sign_neg,ah9 (by omega)];have:(-dv l).natAbs=(dv l).toNat:=by omega
    rw[this,e]
 ·rintro⟨x,Y⟩;unfold gw at Y;simp only[az.mk.injEq]at Y;obtain⟨rfl,rfl⟩:=Y;refine⟨eA _,?_⟩
  by_cases h0:x=0
  ·subst h0;simp[dw]
  ·have O:bf x.natAbs≠[]:=fun h=>h0 (by have:=sK.1 h;omega);rw[ah8 O];have h1:=Uj _ O;simp only[age,ahh,beq_iff_eq,bne_iff_ne];refine⟨?_,h1⟩;rcases ahL x 0 with h|h|h
   ·right;exact aia h
   ·exact absurd h h0
   ·left;exact ah9 h
theorem Ql (x:Int):okB (gw x)=true:=xr.2 ⟨x,rfl⟩
theorem Eh {b:az} (hf:Fit b.aa):cO b=some (okB b):=by
 obtain⟨s,l⟩:=b;simp only[Fit]at hf;have key:∃r,ba (nF ⟨s,l⟩) 0=some r∧(match r with | .inl _=>Dg l | .inr x=>x=false∧¬Dg l):=by
  refine eQ (I:=fun i s=>s=(i:Int)∧Dg (l.take i)) l.length _ ⟨rfl,by simpa using Dg.nil⟩ (mN hf) ?_;rintro i s hi ⟨rfl,Y⟩;simp only[nF]
  by_cases O:i<l.length
  ·rw[if_pos (by simpa using O),cR O,ahg]
   by_cases h1:l[i]<0
   ·right;exact⟨.inr false,by rw[if_pos (by simpa using h1)],rfl,fun Z=>by have:=Z.get O;omega⟩
   ·by_cases h2:l[i]>1048575
    ·right;exact⟨.inr false,by rw[if_neg (by simpa using h1),if_pos (by simpa using h2)],rfl,fun Z=>by have:=Z.get O;omega⟩
    ·left;refine⟨O,_,by rw[if_neg (by simpa using h1),if_neg (by simpa using h2)],by rw[jn (by omega)];omega,?_⟩;have e:l.take (i+1)=l.take i++[l[i]]:=by rw[List.take_add_one];simp[O]
     rw[e];exact Y.append (Dg.mk (by omega) Dg.nil)
  ·right;have:i=l.length:=by omega
   subst this;rw[ahJ]at Y;exact⟨.inl (),by rw[if_neg (by simp)],Y⟩
 obtain⟨r,h1,h2⟩:=key;unfold cO okB;rw[h1,ahg];cases r with
 | inr x =>
  obtain⟨rfl,h⟩:=h2;simp[h]
 | inl u =>
  simp only at h2 ⊢;simp only[h2,decide_true,ag9]
  by_cases X:l=[]
  ·subst X;simp
  ·have hp:0<l.length:=ahy.2 X;have e:IntKind.i64.wrap ((l.length:Int)-1)=((l.length-1:Nat):Int):=by rw[jn (by omega)];omega
   rw[if_neg (by simpa using X),e,cR (by omega),ah8 X,List.getLast_eq_getElem];simp only[Option.bind_some]
   by_cases hs:s=1
   ·subst hs;simp
   ·rw[if_neg (by simpa using hs)]
    by_cases U:s = -1
    ·subst U;simp
    ·rw[if_neg (by simpa using U)];simp[hs,U]
theorem gG {x:Int} (h:Ln x<=17592186044416):cO (gw x)=some true:=by
 rw[Eh (show Fit (gw x).aa from h),Ql]
theorem uI {s:Int} {l:List Int} (x:Int) (O:Fit l) (U:Dg l) (X:dv l=x.natAbs) (hs:x≠0->s=x.sign):dm s l=some (gw x):=by
 unfold dm;rw[Bn O U X,ahg]
 by_cases h0:x=0
 ·subst h0;rw[show (0:Int).natAbs=0 from rfl,dw,Nl];rfl
 ·have:bf x.natAbs≠[]:=fun h=>h0 (by have:=sK.1 h;omega);rw[if_neg (by simpa using this),hs h0];rfl
theorem kX (b:az):ep true b=some (b,0):=rfl
theorem rP (x:Int):x.sign = -1∨x.sign=0∨x.sign=1:=by
 rcases ahL x 0 with h|h|h
 ·left;exact aia h
 ·subst h;right;left;rfl
 ·right;right;exact ah9 h
theorem Pg {x:Int} (h:Ln x<=gg):nE (gw x)=some (gw (-x)):=by
 unfold nE;have U:gg=4398046511104:=rfl;rw[gG (by omega),ahg];simp only[ag8,agd,if_false];have O:Fit (gw x).aa:=by unfold Fit;show Ln x<=_;omega
 rw[sH O,ahg,uI (-x) O (eA _) (by show dv (bf _)=_;rw[cj,Int.natAbs_neg]),ahg];intro X;show IntKind.i64.wrap (0-x.sign)=_;rw[jn (by have:=rP x;omega),Int.sign_neg,Int.zero_sub]
theorem aaE (s t:Int):sI [s,t]=some (if s≠0 then s else t):=by
 have key:∃r,ba (ud [s,t]) 0=some r∧(match r with | .inl _=>s=0∧t=0 | .inr x=>x=if s≠0 then s else t):=by
  refine eQ (I:=fun i j=>j=(i:Int)∧(1<=i->s=0)∧(2<=i->t=0)) 2 _ ⟨rfl,by omega,by omega⟩ (by unfold FU;omega) ?_;rintro i j O ⟨rfl,h1,h2⟩;simp only[ud];rcases (show i=0∨i=1∨i=2 by omega) with rfl|rfl|rfl
  ·rw[if_pos (by simp)];show _∨∃r,((some s).bind _=_)∧_;rw[show P.idx [s,t] ((0:Nat):Int)=some s from rfl,ahg]
   by_cases hs:s=0
   ·left;exact⟨by omega,_,by rw[if_neg (by simpa using hs)],by rw[jn (by omega)];rfl,fun _=>hs,by omega⟩
   ·right;exact⟨_,by rw[if_pos (by simpa using hs)],by simp[hs]⟩
  ·have hs:=h1 (by omega);rw[if_pos (by simp),show P.idx [s,t] ((1:Nat):Int)=some t from rfl,ahg]
   by_cases ht:t=0
   ·left;exact⟨by omega,_,by rw[if_neg (by simpa using ht)],by rw[jn (by omega)];rfl,fun _=>hs,fun _=>ht⟩
   ·right;exact⟨_,by rw[if_pos (by simpa using ht)],by simp[hs]⟩
  ·right;exact⟨.inl (),by rw[if_neg (by simp)],h1 (by omega),h2 (by omega)⟩
 obtain⟨r,h1,h2⟩:=key;unfold sI;rw[h1,ahg];cases r with
 | inl u=>simp only at h2 ⊢;rw[if_neg (by simp[h2.1]),h2.2]
 | inr x=>simp only at h2 ⊢;rw[h2]
theorem jk (x:Int):x.sign=1∧x=x.natAbs∧0<x∨x.sign = -1∧x = -x.natAbs∧x<0∨x.sign=0∧x=0:=by
 rcases ahL x 0 with h|h|h
 ·right;left;exact⟨aia h,by omega,h⟩
 ·subst h;right;right;exact⟨rfl,rfl⟩
 ·left;exact⟨ah9 h,by omega,h⟩
theorem nZ {x:Int} {s:Int} {n:Nat} (O:n=x.natAbs) (hs:x≠0->s=x.sign) (U:n≠0->(bf n).length<=17592186044416):dm s (bf n)=some (gw x):=by
 subst O;refine uI x ?_ (eA _) (cj _) hs;unfold Fit
 by_cases h:x.natAbs=0
 ·rw[h,dw];simp
 ·exact U h
theorem abx {x y:Int} (hx:Ln x<=gg) (hy:Ln y<=gg):tX (gw x) (gw y)=some (gw (x+y),0):=by
 have hL:gg=4398046511104:=rfl;have ag:=Pe x y;unfold tX;rw[gG (by omega),ahg];simp only[ag8,agd,if_false];rw[gG (by omega),ahg,ahg];simp only[ag8,agd,if_false];show (if decide (IntKind.i64.wrap (x.sign*y.sign)>=0)=true then _ else _)=_;have Z:(gw x).aa=bf x.natAbs:=rfl;have ab:(gw y).aa=bf y.natAbs:=rfl;have ad:(gw x).ah=x.sign:=rfl;have ae:(gw y).ah=y.sign:=rfl;rw[Z,ab,ad,ae];have fx:(bf x.natAbs).length<=4398046511104:=by show Ln x<=_;omega
 have fy:(bf y.natAbs).length<=4398046511104:=by show Ln y<=_;omega
 have sx:=jk x;have sy:=jk y;have hw:IntKind.i64.wrap (x.sign*y.sign)=x.sign*y.sign:=by
  apply jn;rcases rP x with h|h|h<;>rcases rP y with g|g|g<;>rw[h,g]<;>decide
 rw[hw]
 by_cases hs:x.sign*y.sign>=0
 ·rw[if_pos (by simpa using hs),aaE,ahg,add_eq (eA _) (eA _) (by omega) (by omega),ahg,cj,cj];have hn:((x.natAbs:Int)+y.natAbs).toNat=(x+y).natAbs:=by
   rcases sx with⟨a,b,c⟩|⟨a,b,c⟩|⟨a,b⟩<;>rcases sy with⟨O,U,X⟩|⟨O,U,X⟩|⟨O,U⟩<;>first|omega|(rw[a,O]at hs;exact absurd hs (by decide))
  rw[hn,nZ (x:=x+y) rfl ?_ (fun _=>by show Ln (x+y)<=_;omega),ahg,kX,ahg];intro h0;rcases sx with⟨a,b,c⟩|⟨a,b,c⟩|⟨a,b⟩<;>rcases sy with⟨O,U,X⟩|⟨O,U,X⟩|⟨O,U⟩<;>(try (rw[a,O]at hs;exact absurd hs (by decide)))<;>rw[a,O]
  ·rw[if_pos (by decide),ah9 (by omega)]
  ·rw[if_pos (by decide),ah9 (by omega)]
  ·rw[if_pos (by decide),aia (by omega)]
  ·rw[if_pos (by decide),aia (by omega)]
  ·rw[if_neg (by decide),ah9 (by omega)]
  ·rw[if_neg (by decide),aia (by omega)]
  ·omega
 ·rw[if_neg (by simpa using hs),vu (by unfold Fit;omega) (by unfold Fit;omega),ahg];have Y:x.sign=1∧y.sign = -1∧0<x∧y<0∨x.sign = -1∧y.sign=1∧x<0∧0<y:=by
   rcases sx with⟨a,b,c⟩|⟨a,b,c⟩|⟨a,b⟩<;>rcases sy with⟨O,U,X⟩|⟨O,U,X⟩|⟨O,U⟩<;>first|exact .inl ⟨a,O,c,X⟩|exact .inr ⟨a,O,c,X⟩|(rw[a,O]at hs;exact absurd (by decide) hs)
  by_cases ai:x.natAbs<y.natAbs
  ·have:lY (x.natAbs:Int) y.natAbs<0:=by unfold lY;rw[if_pos (by omega)];decide
   rw[if_pos (by simpa using this),sub_eq (eA _) (eA _) (by unfold Fit;omega) (fk (by omega)) (by rw[cj,cj];omega),ahg,cj,cj];rw[nZ (x:=x+y) (by omega) ?_ (fun _=>by rw[show ((y.natAbs:Int)-x.natAbs).toNat=(x+y).natAbs by omega];show Ln (x+y)<=_;omega),ahg,kX,ahg];intro h0;rcases Y with⟨a,O,b,U⟩|⟨a,O,b,U⟩
   ·rw[O,aia (by omega)]
   ·rw[O,ah9 (by omega)]
  ·have:¬lY (x.natAbs:Int) y.natAbs<0:=by unfold lY;rw[if_neg (by omega)];split<;>decide
   rw[if_neg (by simpa using this),sub_eq (eA _) (eA _) (by unfold Fit;omega) (fk (by omega)) (by rw[cj,cj];omega),ahg,cj,cj];rw[nZ (x:=x+y) (by omega) ?_ (fun _=>by rw[show ((x.natAbs:Int)-y.natAbs).toNat=(x+y).natAbs by omega];show Ln (x+y)<=_;omega),ahg,kX,ahg];intro h0;rcases Y with⟨a,O,b,U⟩|⟨a,O,b,U⟩
   ·rw[a,ah9 (by omega)]
   ·rw[a,aia (by omega)]
theorem abC {x y:Int} (hx:Ln x<=gg) (hy:Ln y<=gg):tZ (gw x) (gw y)=some (gw (x*y),0):=by
 have hL:gg=4398046511104:=rfl;have Z:=lU x y;unfold tZ;rw[gG (by omega),ahg];simp only[ag8,agd,if_false];rw[gG (by omega),ahg,ahg];simp only[ag8,agd,if_false];have O:(gw x).aa=bf x.natAbs:=rfl;have U:(gw y).aa=bf y.natAbs:=rfl;have X:(gw x).ah=x.sign:=rfl;have Y:(gw y).ah=y.sign:=rfl;rw[O,U,X,Y];have fx:(bf x.natAbs).length<=4398046511104:=by show Ln x<=_;omega
 have fy:(bf y.natAbs).length<=4398046511104:=by show Ln y<=_;omega
 have hw:IntKind.i64.wrap (x.sign*y.sign)=(x*y).sign:=by
  rw[Int.sign_mul];apply jn;rcases rP x with h|h|h<;>rcases rP y with g|g|g<;>rw[h,g]<;>decide
 rw[hw,mul_eq (eA _) (eA _) (by omega),ahg,cj,cj];have hn:((x.natAbs:Int)*y.natAbs).toNat=(x*y).natAbs:=by rw[ah7,<- agE];rfl
 rw[hn,nZ (x:=x*y) rfl (fun _=>rfl) (fun _=>by show Ln (x*y)<=_;omega),ahg,kX,ahg]
theorem oX {x y:Int} (O:Ln x<=gg) (U:Ln y<=gg):cQ (gw x) (gw y)=some (gw (x*y)):=by
 unfold cQ;rw[abC O U];rfl
theorem VB {x y:Int} (hx:Ln x<=gg) (hy:Ln y<=gg) (h0:0<y) (hd:y∣x):nD (gw x) (gw y)=some (gw (x / y),gw 0,0):=by
 have hL:gg=4398046511104:=rfl;unfold nD;rw[gG (by omega),ahg];simp only[ag8,agd,if_false];rw[gG (by omega),ahg,ahg];simp only[ag8,agd,if_false];have O:(gw x).aa=bf x.natAbs:=rfl;have U:(gw y).aa=bf y.natAbs:=rfl;have X:(gw x).ah=x.sign:=rfl;have Y:(gw y).ah=1:=ah9 h0;rw[O,U,X,Y];have fx:(bf x.natAbs).length<=4398046511104:=by show Ln x<=_;omega
 have fy:(bf y.natAbs).length<=4398046511104:=by show Ln y<=_;omega
 have fq:=fk (Nat.div_le_self x.natAbs y.natAbs);obtain⟨z,rfl⟩:=hd;have Z:y*z / y=z:=Int.mul_ediv_cancel_left _ (by omega);have hn:(y*z).natAbs=y.natAbs*z.natAbs:=ah7 _ _;have hq:(y*z).natAbs / y.natAbs=z.natAbs:=by rw[hn,Nat.mul_div_cancel_left _ (by omega)]
 have hr:(y*z).natAbs % y.natAbs=0:=by rw[hn,Nat.mul_mod_right]
 have ab:(y*z).sign=z.sign:=by rw[Int.sign_mul,ah9 h0,ah5]
 rw[if_neg (by decide),div_eq (by omega) (by omega) (by omega),ahg,ahQ,ab,jn (x:=z.sign) (by have:=rP z;omega),Z,hq,hr,dw];rw[hq]at fq;have hT:(if decide (z.sign<0)=true then some (decide ((([]:List Int).length:Int)>0)) else some false)=some false:=by split<;>rfl
 simp only[hT,Option.bind_some,agd,if_false];rw[nZ (x:=z) rfl (fun _=>rfl) (fun _=>by omega),ahg];have:dm z.sign []=some (gw 0):=uI 0 (by simp[Fit]) Dg.nil rfl (fun h=>absurd rfl h);rw[this,ahg]
def lg (n:Nat):Nat:=if n=0 then 0 else n.log2+1
theorem ac3 {r x:Nat} (h:2*r<x):lg r<lg x:=by
 unfold lg;rw[if_neg (show x≠0 by omega)]
 by_cases O:r=0
 ·rw[if_pos O];omega
 ·rw[if_neg O];have h1:=Nat.log2_self_le O;have h2:=@Nat.lt_log2_self x;have:2 ^ (r.log2+1)<2 ^ (x.log2+1):=by rw[Nat.pow_succ];omega
  have:=(Nat.pow_lt_pow_iff_right (by decide:1<2)).1 this;omega
theorem abe {n k:Nat} (h:(n:Int)<pw k):lg n<=20*k:=by
 unfold lg
 by_cases O:n=0
 ·rw[if_pos O];omega
 ·rw[if_neg O];have:n<2 ^ (20*k):=by
   have:pw k=((2 ^ (20*k):Nat):Int):=by
    unfold pw;rw[Nat.pow_mul,Int.natCast_pow];rfl
   omega
  have:=(Nat.log2_lt O).2 this;omega
theorem Xm {a b:Nat} (Z:(bf a).length<=qN) (hb:(bf b).length<=qN):ba oh (bf a,bf b)=some (bf (Nat.gcd a b)):=by
 have hL:qN=17592186043904:=rfl;have key:∃r,ba oh (bf a,bf b)=some r∧r=bf (Nat.gcd a b):=by
  have la:=abe (jc a);have lb:=abe (jc b)
  let val:List Int->Nat:=fun l=>(dv l).toNat
  have O:∀n,val (bf n)=n:=fun n=>by show (dv (bf n)).toNat=n;rw[cj];rfl
  refine Dk (I:=fun (s:List Int×List Int)=>∃x y,s=(bf x,bf y)∧Nat.gcd x y=Nat.gcd a b∧(bf x).length<=qN∧(bf y).length<=qN)
   (μ:=fun (s:List Int×List Int)=>lg (val s.1)+lg (val s.2)+(if val s.1<val s.2 then 1 else 0)) _ ⟨a,b,rfl,rfl,Z,hb⟩ (by simp only[O];unfold FU;split<;>omega) ?_
  rintro _ ⟨x,y,rfl,Y,hx,hy⟩;simp only[oh]
  by_cases h0:y=0
  ·right;subst h0;refine⟨_,by rw[dw,if_neg (by simp)],?_⟩;rw[<- Y,Nat.gcd_zero_right]
  ·left;have X:0<(bf y).length:=ahy.2 (fun h=>h0 (sK.1 h));rw[if_pos (by simpa using X),div_eq h0 (by omega) (by omega),ahg];have aa:=Nat.mod_lt x (Nat.pos_of_ne_zero h0);refine⟨_,rfl,⟨y,x % y,rfl,?_,hy,?_⟩,?_⟩
   ·rw[<- Y,Nat.gcd_comm y,<- Nat.gcd_rec,Nat.gcd_comm]
   ·have:=fk (Nat.mod_le x y);omega
   ·simp only[O];rw[if_neg (by omega)]
    by_cases U:x<y
    ·rw[if_pos U,agB U];omega
    ·rw[if_neg U];have:lg (x % y)<lg x:=by
      apply ac3;have h1:=Nat.div_add_mod x y;have h2:1<=x / y:=(Nat.one_le_div_iff (by omega)).2 (by omega);have h3:y*1<=y*(x / y):=Nat.mul_le_mul_left _ h2;omega
     omega
 obtain⟨r,h1,rfl⟩:=key;exact h1
theorem VD {x y:Int} (Z:Ln x<=qN) (hy:Ln y<=qN):pk (gw x) (gw y)=some (gw (Int.gcd x y),0):=by
 have hL:qN=17592186043904:=rfl;unfold pk;rw[gG (by omega),ahg];simp only[ag8,agd,if_false];rw[gG (by omega),ahg,ahg];simp only[ag8,agd,if_false];have O:(gw x).aa=bf x.natAbs:=rfl;have U:(gw y).aa=bf y.natAbs:=rfl;rw[O,U];have Y:(bf x.natAbs).length<=17592186043904:=by show Ln x<=_;omega
 have fy:(bf y.natAbs).length<=17592186043904:=by show Ln y<=_;omega
 have fg:(bf (Nat.gcd x.natAbs y.natAbs)).length<=17592186043904:=by
  by_cases h:y.natAbs=0
  ·rw[h,Nat.gcd_zero_right];exact Y
  ·have:=fk (Nat.gcd_le_right x.natAbs (Nat.pos_of_ne_zero h));omega
 rw[sH (by unfold Fit;omega),ahg,Xm (by omega) (by omega),ahg,sH (by unfold Fit;omega),ahg];have X:Nat.gcd x.natAbs y.natAbs=((Int.gcd x y:Nat):Int).natAbs:=rfl;rw[nZ (x:=(Int.gcd x y:Int)) X ?_ (fun _=>by omega),ahg,kX,ahg];intro h;rw[ah9 (by omega)]
theorem Pc {x y:Int} (hx:Ln x<=gg) (hy:Ln y<=gg):kF (gw x) (gw y)=some (lY x y):=by
 have hL:gg=4398046511104:=rfl;unfold kF;rw[gG (by omega),ahg];simp only[ag8,agd,if_false];rw[gG (by omega),ahg,ahg];simp only[ag8,agd,if_false];have X:(gw x).aa=bf x.natAbs:=rfl;have Y:(gw y).aa=bf y.natAbs:=rfl;have Z:(gw x).ah=x.sign:=rfl;have ab:(gw y).ah=y.sign:=rfl;rw[X,Y,Z,ab];have fx:(bf x.natAbs).length<=4398046511104:=by show Ln x<=_;omega
 have fy:(bf y.natAbs).length<=4398046511104:=by show Ln y<=_;omega
 by_cases h:x.sign=y.sign
 ·rw[if_neg (by simpa using h),vu (by unfold Fit;omega) (by unfold Fit;omega),ahg];have hc:∀s:Int,s = -1∨s=0∨s=1->∀c:Int,c = -1∨c=0∨c=1->IntKind.i64.wrap (s*c)=s*c:=by
   rintro s (rfl|rfl|rfl) c (rfl|rfl|rfl)<;>exact jn (by decide)
  have ad:∀a b:Int,lY a b = -1∨lY a b=0∨lY a b=1:=by
   intro a b;unfold lY;split
   ·simp
   ·split<;>simp
  rw[hc _ (rP x) _ (ad _ _)];congr 1;unfold lY;rcases jk x with⟨a,b,c⟩|⟨a,b,c⟩|⟨a,b⟩<;>rcases jk y with⟨O,U,c'⟩|⟨O,U,c'⟩|⟨O,U⟩<;>(try (rw[a,O]at h;exact absurd h (by decide)))<;>rw[a]<;>split<;>(try split)<;>(try split)<;>(try split)<;>omega
 ·rw[if_pos (by simpa using h),B5,ahg];congr 1;unfold lY;rcases jk x with⟨a,b,c⟩|⟨a,b,c⟩|⟨a,b⟩<;>rcases jk y with⟨O,U,c'⟩|⟨O,U,c'⟩|⟨O,U⟩<;>(try (exact absurd (a.trans O.symm) h))<;>rw[a,O]<;>split<;>(try split)<;>(try split)<;>(try split)<;>omega
theorem T0 (x:Int):IntKind.u64.wrap x=x % 18446744073709551616:=by
 unfold IntKind.wrap;simp only[IntKind.bits,IntKind.signed,ahF,agd,if_false];rfl
theorem wu {x:Int} (h:0<=x∧x<18446744073709551616):IntKind.u64.wrap x=x:=by rw[T0];omega
theorem Ub {x:Int} (h:0<=x∧x<18446744073709551616):jQ .and .u64 x 1048575=x % 1048576:=by
 unfold jQ;simp only;have O:(BitVec.ofInt IntKind.u64.bits x &&& BitVec.ofInt IntKind.u64.bits 1048575).toNat=((x % 18446744073709551616).toNat) % 1048576:=by
  rw[BitVec.toNat_and,BitVec.toNat_ofInt,BitVec.toNat_ofInt];have e:((1048575:Int) % ((2 ^ IntKind.u64.bits:Nat):Int)).toNat=2 ^ 20-1:=by decide
  rw[e,ahU];rfl
 rw[O,wu (by omega)];omega
theorem aci (x:Int):A2 .u64 x 20=some (x / 1048576):=by
 unfold A2;rw[if_neg (by decide)];have e:(2:Int) ^ (min (Int.toNat 20) IntKind.u64.bits)=1048576:=by decide
 rw[e,Int.fdiv_eq_ediv_of_nonneg _ (by decide)]
theorem pw4:pw 4=1208925819614629174706176:=by decide
theorem aab {n:Nat} (hn:n<18446744073709551616):∃l,ba ua ((n:Int),[])=some l∧Dg l∧dv l=n∧l.length<=5:=by
 refine Dk (I:=fun (s:Int×List Int)=>0<=s.1∧Dg s.2∧dv s.2+pw s.2.length*s.1=n∧s.2.length<=5∧(s.1=0∨s.2.length<5)) (μ:=fun (s:Int×List Int)=>s.1.toNat) _ ⟨by simp,Dg.nil,by simp[dv,pF],by simp,by simp⟩ (by simp only[Int.toNat_natCast];unfold FU;omega) ?_;rintro⟨u,l⟩ ⟨h1,O,h2,h3,h5⟩;simp only at h1 O h2 h3 h5;have hp:=oU l.length;have U:=dx O;have hu:u<=n:=by
  have:1*u<=pw l.length*u:=ah6 (by omega) h1;omega
 simp only[ua]
 by_cases X:u>0
 ·left;have Y:l.length<5:=by omega
  have Z:l.length<4:=by
   rcases agp l.length 4 with h|h
   ·exact h
   ·have h4:l.length=4:=by omega
    rw[h4,pw4]at h2;omega
  have hw:IntKind.i64.wrap (u % 1048576)=u % 1048576:=jn (by omega);rw[if_pos (by simpa using X),Ub ⟨h1,by omega⟩,hw,IS (by simp;omega),ahg,aci,ahg];refine⟨_,rfl,⟨by simp only;omega,O.append (Dg.mk (by omega) Dg.nil),?_,by simp;omega,by right;simp;omega⟩,by simp only;omega⟩;simp only[jo,dv,agP,List.length_cons,List.length_nil,ah4,Int.add_zero,agt];have:=yW l.length u;omega
 ·right;have:u=0:=by omega
  subst this;refine⟨l,by rw[if_neg (by simp)],O,?_,h3⟩;rw[ah4]at h2;omega
theorem Rx {x:Int} (h : -9223372036854775808<=x∧x<9223372036854775808):qT x=some (gw x):=by
 have U:(if decide (x<0)=true then some ((-1:Int),IntKind.u64.wrap (0-(IntKind.u64.wrap x))) else some (1,IntKind.u64.wrap x))=some (if x<0 then -1 else 1,((x.natAbs:Nat):Int)):=by
  by_cases O:x<0
  ·rw[if_pos (by simpa using O),if_pos O,T0,T0];congr 2;omega
  ·rw[if_neg (by simpa using O),if_neg O,T0];congr 2;omega
 obtain⟨l,h1,h2,h3,h4⟩:=aab (n:=x.natAbs) (by omega);unfold qT;rw[U,ahg];simp only;rw[h1,ahg,tu];refine uI x (by unfold Fit;omega) h2 h3 (fun X =>?_);split
 ·rw[aia (by omega)]
 ·rw[ah9 (by omega)]
theorem aeZ {d:Int} {i:Nat} (O:i<=3) (U:0<=d∧d<1048576) (h8:i=3->d<=8):Fm .u64 (IntKind.u64.wrap d) (IntKind.i64.wrap (20*(i:Int)))=some (pw i*d):=by
 rw[wu (by omega),jn (by omega)];unfold Fm;rw[if_neg (by omega)];have e:(2:Int) ^ (min (20*(i:Int)).toNat IntKind.u64.bits)=pw i:=by
  have:∀i:Nat,i<=3->(2:Int) ^ (min (20*(i:Int)).toNat IntKind.u64.bits)=pw i:=by decide
  exact this i O
 rw[e,wu,ahP];rcases (show i=0∨i=1∨i=2∨i=3 by omega) with rfl|rfl|rfl|rfl
 ·rw[show pw 0=1 by decide];omega
 ·rw[show pw 1=1048576 by decide];omega
 ·rw[show pw 2=1099511627776 by decide];omega
 ·rw[show pw 3=1152921504606846976 by decide];have:=h8 rfl;omega
theorem adp {u d:Int} {i:Nat} (X:i<=3) (hu:0<=u∧u<pw i) (Y:0<=d∧pw i*d<9223372036854775809):jQ .or .u64 u (pw i*d)=u+pw i*d:=by
 have hp:=oU i;have U:0<=pw i*d:=ah1 (by omega) Y.1;have O:pw i=((2 ^ (20*i):Nat):Int):=by unfold pw;rw[Nat.pow_mul,Int.natCast_pow];rfl
 have Z:pw i<=1152921504606846976:=by
  have:=rH X
  rwa [show pw 3=1152921504606846976 by decide]at this
 unfold jQ;simp only;have e1:(BitVec.ofInt IntKind.u64.bits u ||| BitVec.ofInt IntKind.u64.bits (pw i*d)).toNat=(u+pw i*d).toNat:=by
  rw[BitVec.toNat_or,BitVec.toNat_ofInt,BitVec.toNat_ofInt];have e:((2 ^ IntKind.u64.bits:Nat):Int)=18446744073709551616:=by decide
  rw[e];have e2:(u % 18446744073709551616).toNat=u.toNat:=by omega
  have e3:((pw i*d) % 18446744073709551616).toNat=d.toNat <<< (20*i):=by
   rw[Nat.shiftLeft_eq,Int.emod_eq_of_lt U (by omega),O];have:d=(d.toNat:Int):=by omega
   rw[this,<- agE,agF,agF,agD]
  rw[e2,e3,Nat.or_comm,<- Nat.shiftLeft_add_eq_or_of_lt (by omega),Nat.shiftLeft_eq];have:pw i*d=((d.toNat*2 ^ (20*i):Nat):Int):=by
   rw[O,agE,ahP];congr 1;omega
  omega
 rw[e1,wu (by omega)];omega
theorem ab8 {g:Nat} (h:(bf g).length<=qN):qn (gw g)=some (decide (g=1)):=by
 have hL:qN=17592186043904:=rfl;have X:(gw (g:Int)).aa=bf g:=rfl;have ab:Ln (g:Int)=(bf g).length:=rfl;unfold qn;have U:g=1->(bf g).length<=4:=by
  rintro rfl;exact afF (kG (k:=1) (by decide)) (by decide)
 suffices hI:∃r,tY (gw g)=some r∧((if r.2=true then some (r.1==1) else some false)=some (decide (g=1))) by
  obtain⟨r,h1,h2⟩:=hI;rw[h1,ahg,h2]
 unfold tY;rw[gG (by rw[ab];omega),ahg];simp only[ag8,agd,if_false,Option.bind_some,X]
 by_cases h4:(bf g).length>4
 ·rw[if_pos (by simp;omega)];refine⟨_,rfl,?_⟩;have:g≠1:=fun hh=>by have:=U hh;omega
  simp[this]
 rw[if_neg (by simp;omega)];have key:∃r,ba (qS (gw g)) (0,0)=some r∧(match r with | .inl u=>u=(g:Int) | .inr x=>x=(0,false)∧g≠1):=by
  refine eQ (I:=fun i s=>s.2=(i:Int)∧s.1=dv ((bf g).take i)) (bf g).length _ ⟨rfl,rfl⟩ (mN (by omega)) ?_;rintro i ⟨u,s⟩ hi ⟨h1,h2⟩;simp only at h1 h2;subst h1 h2;simp only[qS,X];have Y:=(eA g).take i;have ad:=dx Y;have Z:=pr Y;rw[afW,agS hi]at Z
  by_cases O:i<(bf g).length
  ·have gd:=(eA g).get O;rw[if_pos (by simpa using O),cR O,ahg];have hT:(if ((i:Int)==3)=true then some (decide ((bf g)[i]>8)) else some false)=some (decide (i=3∧(bf g)[i]>8)):=by
    by_cases h3:i=3
    ·subst h3;simp
    ·rw[if_neg (by simp;omega)];simp[h3]
   rw[hT,ahg]
   by_cases h8:i=3∧(bf g)[i]>8
   ·right;rw[if_pos (by simpa using h8)];refine⟨.inr (0,false),rfl,rfl,?_⟩;rintro rfl;have:=kG (n:=1) (k:=1) (by decide);omega
   ·left;rw[if_neg (by simpa using h8),aeZ (by omega) gd (by omega),ahg];have hb:pw i*(bf g)[i]<9223372036854775809:=by
     rcases (show i=0∨i=1∨i=2∨i=3 by omega) with h|h|h|h
     ·have:pw i=1:=by rw[h];decide
      rw[this];omega
     ·have:pw i=1048576:=by rw[h];decide
      rw[this];omega
     ·have:pw i=1099511627776:=by rw[h];decide
      rw[this];omega
     ·have:pw i=1152921504606846976:=by rw[h];decide
      rw[this];omega
    rw[adp (by omega) ⟨ad,Z⟩ ⟨gd.1,hb⟩];exact⟨O,_,rfl,by rw[jn (by omega)];omega,by rw[jq O]⟩
  ·right;have:i=(bf g).length:=by omega
   subst this;exact⟨.inl (dv ((bf g).take (bf g).length)),by rw[if_neg (by simp)],by rw[ahJ,cj]⟩
 obtain⟨r,h1,h2⟩:=key;rw[h1,ahg];cases r with
 | inr x=>obtain⟨rfl,h⟩:=h2;exact⟨_,rfl,by simp[h]⟩
 | inl u =>
  simp only at h2;subst h2;have hs:(gw (g:Int)).ah=(g:Int).sign:=rfl;have ae:¬(g:Int).sign<0:=by have:=jk (g:Int);omega
  simp only[hs];rw[if_neg (by simp),ahg,if_neg (by simp),if_pos (by simp)]
  by_cases hg:(g:Int)<9223372036854775808
  ·rw[if_pos (by simpa using hg)];refine⟨_,rfl,?_⟩;simp only[if_true];rw[wrap64 (by omega) hg];congr 1
   by_cases h:g=1
   ·subst h;rfl
   ·have:¬((g:Int)=1):=by omega
    simp[h,this]
  ·rw[if_neg (by simpa using hg)];have:g≠1:=by omega
   exact⟨_,rfl,by simp[this]⟩
def fA (q:Rat):aw:=aw.mk (gw q.num) (gw q.den)
def LF (q:Rat):Nat:=max (Ln q.num) (Ln q.den)
theorem xn {p q:Rat} (h:fA p=fA q):p=q:=by
 unfold fA at h;simp only[aw.mk.injEq]at h;have h1:=S1 h.1;have h2:=S1 h.2;exact Rat.ext h1 (by omega)
def okF (f:aw):Bool:=okB f.cD&&okB f.cw&&(f.cw.ah==1)&&decide (Nat.gcd (dv f.cD.aa).toNat (dv f.cw.aa).toNat=1)
theorem Bd {f:aw} : okF f=true↔∃q,f=fA q:=by
 obtain⟨p,q⟩:=f;unfold okF;simp only[age,beq_iff_eq,decide_eq_true_eq];constructor
 ·rintro⟨⟨⟨h1,h2⟩,h3⟩,h4⟩;obtain⟨x,rfl⟩:=xr.1 h1;obtain⟨y,rfl⟩:=xr.1 h2;have U:0<y:=by
   have:y.sign=1:=h3;rcases jk y with⟨a,b,c⟩|⟨a,b,c⟩|⟨a,b⟩<;>omega
  have h5:(dv (gw x).aa).toNat=x.natAbs:=by show (dv (bf _)).toNat=_;rw[cj];rfl
  have h6:(dv (gw y).aa).toNat=y.natAbs:=by show (dv (bf _)).toNat=_;rw[cj];rfl
  rw[h5,h6]at h4;refine⟨⟨x,y.natAbs,by omega,h4⟩,?_⟩;unfold fA;simp only;congr 2;omega
 ·rintro⟨q,O⟩;unfold fA at O;simp only[aw.mk.injEq]at O;obtain⟨rfl,rfl⟩:=O;have X:=q.den_pos;refine⟨⟨⟨Ql _,Ql _⟩,ah9 (by omega)⟩,?_⟩;have h5:(dv (gw q.num).aa).toNat=q.num.natAbs:=by show (dv (bf _)).toNat=_;rw[cj];rfl
  have h6:(dv (gw (q.den:Int)).aa).toNat=q.den:=by show (dv (bf _)).toNat=_;rw[cj];rfl
  rw[h5,h6];exact q.reduced
theorem Qm (q:Rat):okF (fA q)=true:=Bd.2 ⟨q,rfl⟩
def abz (f:aw):Prop:=f.cD.aa.length<=qN∧f.cw.aa.length<=qN
theorem Zy {q:Rat} (h:LF q<=gg):abz (fA q):=by
 unfold LF at h;exact⟨wD (show Ln q.num<=_ by omega),wD (show Ln q.den<=_ by omega)⟩
theorem BA {f:aw} (O:abz f):dp f=some (okF f):=by
 have X:qN=17592186043904:=rfl;obtain⟨p,q⟩:=f;simp only[abz]at O;unfold dp okF;rw[Eh (show Fit p.aa by unfold Fit;omega),ahg]
 by_cases h1:okB p=true
 ·simp only[h1,ag8,agd,if_false,ag9];rw[Eh (show Fit q.aa by unfold Fit;omega),ahg]
  by_cases h2:okB q=true
  ·simp only[h2,ag8,agd,if_false,ag9,Option.bind_some]
   by_cases h3:q.ah=1
   ·rw[if_neg (by simp[h3])];obtain⟨x,rfl⟩:=xr.1 h1;obtain⟨y,rfl⟩:=xr.1 h2;rw[VD O.1 O.2,ahg];simp only[beq_self_eq_true,if_true];have h5:(dv (gw x).aa).toNat=x.natAbs:=by show (dv (bf _)).toNat=_;rw[cj];rfl
    have h6:(dv (gw y).aa).toNat=y.natAbs:=by show (dv (bf _)).toNat=_;rw[cj];rfl
    rw[ab8,ahg,h5,h6]
    ·rw[h3];rfl
    ·have U:0<y.natAbs:=by
      have:y.sign=1:=h3;rcases jk y with⟨a,b,c⟩|⟨a,b,c⟩|⟨a,b⟩<;>omega
     have:=fk (Nat.gcd_le_right x.natAbs U);have h7:(bf y.natAbs).length<=qN:=O.2;show (bf (Nat.gcd x.natAbs y.natAbs)).length<=_;omega
   ·rw[if_pos (by simpa using h3)];simp[h3]
  ·simp only[h2,ahG,if_true,Option.bind_some,ahF]
 ·simp only[h1,ahG,if_true,Option.bind_some,ahF]
theorem kV {q:Rat} (h:LF q<=gg):dp (fA q)=some true:=by rw[BA (Zy h),Qm]
theorem Ph {p q:Int} (U:Ln p<=gg) (O:Ln q<=gg) (Y:q≠0):mM (gw p) (gw q)=some (fA (Rat.divInt p q),0):=by
 have hL:gg=4398046511104:=rfl;have main:∀ {p q:Int},Ln p<=gg->Ln q<=gg->0<q ->
   ((pk (gw p) (gw q)).bind fun r6=>(nD (gw p) r6.1).bind fun r7=>(nD (gw q) r6.1).bind fun r8=>some ((aw.mk r7.1 r8.1),(0:Int)))=some (fA (Rat.divInt p q),0):=by
  intro p q U O Y;have hg:0<Int.gcd p q:=Int.gcd_pos_of_ne_zero_right _ (by omega);have X:Ln (Int.gcd p q:Int)<=gg:=by
   have:=fk (Nat.gcd_le_right p.natAbs (show 0<q.natAbs by omega));show (bf (Nat.gcd p.natAbs q.natAbs)).length<=_;have h7:(bf q.natAbs).length<=gg:=O;omega
  rw[VD (wD U) (wD O),ahg];simp only;rw[VB U X (by omega) (Int.gcd_dvd_left ..),ahg,VB O X (by omega) (Int.gcd_dvd_right ..),ahg];have hd:((q.natAbs / Int.gcd p q:Nat):Int)=q / (Int.gcd p q:Int):=by
   rw[Int.natCast_ediv];congr 1;omega
  unfold fA;rw[Rat.num_divInt,Rat.den_divInt,if_neg (by omega),ah9 Y,ah5,Int.gcd_comm q p,hd]
 unfold mM;rw[gG (by omega),ahg];simp only[ag8,agd,if_false];rw[gG (by omega),ahg,ahg];simp only[ag8,agd,if_false];have Z:(gw q).ah=q.sign:=rfl;rw[Z];rcases jk q with⟨a,b,c⟩|⟨a,b,c⟩|⟨a,b⟩
 ·rw[if_neg (by rw[a];decide),if_neg (by rw[a];decide),ahg];exact main U O c
 ·rw[if_neg (by rw[a];decide),if_pos (by rw[a];decide),Pg U,ahg,Pg O,ahg,ahg];have:=main (p := -p) (q := -q) (by rw[Pf];exact U) (by rw[Pf];exact O) (by omega);rw[Rat.neg_divInt_neg]at this;exact this
 ·exact absurd b Y
theorem oe (q:Rat):Ln q.num<=LF q:=by unfold LF;omega
theorem pM (q:Rat):Ln q.den<=LF q:=by unfold LF;omega
theorem xY {p q:Int} (O:q≠0):LF (Rat.divInt p q)<=max (Ln p) (Ln q):=by
 have X:0<Int.gcd q p:=Int.gcd_pos_of_ne_zero_left _ O;have h1:Ln (Rat.divInt p q).num<=Ln p:=by
  apply Rw;rw[Rat.num_divInt];obtain⟨z,U⟩:(Int.gcd q p:Int)∣q.sign*p:=Int.dvd_mul_of_dvd_right (Int.gcd_dvd_right ..);rw[U,Int.mul_ediv_cancel_left _ (by omega)];have h2:(q.sign*p).natAbs=p.natAbs:=by
   rw[ah7];have:q.sign.natAbs=1:=by
    rcases jk q with⟨a,b,c⟩|⟨a,b,c⟩|⟨a,b⟩
    ·rw[a];rfl
    ·rw[a];rfl
    ·exact absurd b O
   rw[this,Nat.one_mul]
  rw[<- h2,U,ah7];exact Nat.le_mul_of_pos_left _ (by omega)
 have h2:Ln ((Rat.divInt p q).den:Int)<=Ln q:=by
  apply Rw;rw[Rat.den_divInt,if_neg O];exact Nat.div_le_self _ _
 unfold LF;omega
theorem aaA {a b:Rat} (h:LF a+LF b+1<=gg):oJ (fA a) (fA b)=some (fA (a+b),0):=by
 have U:=oe a;have X:=oe b;have d1:=pM a;have d2:=pM b;have m1:=lU a.num b.den;have m2:=lU b.num a.den;have m3:=lU a.den b.den;have m4:=Pe (a.num*b.den) (b.num*a.den);unfold oJ;rw[kV (by omega),ahg];simp only[ag8,agd,if_false];rw[kV (by omega),ahg,ahg];simp only[ag8,agd,if_false];show (cQ (gw a.num) (gw b.den)).bind _=_;rw[oX (by omega) (by omega),ahg];show (cQ (gw b.num) (gw a.den)).bind _=_;rw[oX (by omega) (by omega),ahg,abx (by omega) (by omega),ahg];show (cQ (gw a.den) (gw b.den)).bind _=_;have O:(a.den:Int)*b.den≠0:=by
  rw[<- agE];have:=Nat.mul_pos a.den_pos b.den_pos;omega
 rw[oX (by omega) (by omega),ahg,Ph (by omega) (by omega) O,ahg];rw[Rat.add_def',<- Rat.divInt_ofNat,agE]
theorem IK (a b:Rat):LF (a+b)<=LF a+LF b+1:=by
 have U:=oe a;have X:=oe b;have d1:=pM a;have d2:=pM b;have m1:=lU a.num b.den;have m2:=lU b.num a.den;have m3:=lU a.den b.den;have m4:=Pe (a.num*b.den) (b.num*a.den);have O:(a.den:Int)*b.den≠0:=by
  rw[<- agE];have:=Nat.mul_pos a.den_pos b.den_pos;omega
 rw[Rat.add_def',<- Rat.divInt_ofNat,agE];have:=xY (p:=a.num*b.den+b.num*a.den) O;omega
theorem VI (a:Rat):LF (-a)=LF a:=by unfold LF;rw[Rat.neg_num,Rat.neg_den,Pf]
theorem abB (a b:Rat):LF (a-b)<=LF a+LF b+1:=by
 rw[Rat.sub_eq_add_neg];have:=IK a (-b);rw[VI]at this;exact this
theorem acL {a b:Rat} (h:LF a+LF b+1<=gg):qm (fA a) (fA b)=some (fA (a-b),0):=by
 unfold qm;rw[kV (by omega),ahg];simp only[ag8,agd,if_false];rw[kV (by omega),ahg,ahg];simp only[ag8,agd,if_false];show (nE (gw b.num)).bind _=_;have O:=oe b;rw[Pg (by omega),ahg];have e:aw.mk (gw (-b.num)) (fA b).cw=fA (-b):=by unfold fA;rw[Rat.neg_num,Rat.neg_den]
 rw[e,aaA (by rw[VI];exact h),ahg,Rat.sub_eq_add_neg]
theorem acI {a b:Rat} (h:LF a+LF b<=gg):ql (fA a) (fA b)=some (fA (a*b),0):=by
 have U:=oe a;have X:=oe b;have d1:=pM a;have d2:=pM b;have m1:=lU a.num b.num;have m3:=lU a.den b.den;unfold ql;rw[kV (by omega),ahg];simp only[ag8,agd,if_false];rw[kV (by omega),ahg,ahg];simp only[ag8,agd,if_false];show (cQ (gw a.num) (gw b.num)).bind _=_;rw[oX (by omega) (by omega),ahg];show (cQ (gw a.den) (gw b.den)).bind _=_;have O:(a.den:Int)*b.den≠0:=by
  rw[<- agE];have:=Nat.mul_pos a.den_pos b.den_pos;omega
 rw[oX (by omega) (by omega),ahg,Ph (by omega) (by omega) O,ahg];rw[Rat.mul_def',<- Rat.divInt_ofNat,agE]
theorem VH (a b:Rat):LF (a*b)<=LF a+LF b:=by
 have U:=oe a;have X:=oe b;have d1:=pM a;have d2:=pM b;have m1:=lU a.num b.num;have m3:=lU a.den b.den;have O:(a.den:Int)*b.den≠0:=by
  rw[<- agE];have:=Nat.mul_pos a.den_pos b.den_pos;omega
 rw[Rat.mul_def',<- Rat.divInt_ofNat,agE];have:=xY (p:=a.num*b.num) O;omega
theorem aaC {n:Int} (h : -9223372036854775808<=n∧n<9223372036854775808):iZ n=some (fA n):=by
 unfold iZ;rw[Rx h,ahg,Rx (by decide),ahg];unfold fA;rw[Rat.num_intCast,Rat.den_intCast];rfl
theorem IL {n:Int} (h:n.natAbs<1048576):LF (n:Rat)<=1:=by
 unfold LF;rw[Rat.num_intCast,Rat.den_intCast];have h1:=Kh h;have h2:=Kh (x:=((1:Nat):Int)) (by decide);omega
theorem BB {a:Rat} (h:LF a<=gg):ib (fA a)=some a.num.sign:=by
 unfold ib;rw[kV h,ahg];rfl
def Uh (a b:Rat):Int:=if a<b then -1 else if b<a then 1 else 0
theorem ZM (a b:Rat):lY (a.num*b.den) (b.num*a.den)=Uh a b:=by
 unfold lY Uh;simp only[Rat.lt_iff]
theorem T6 {a b:Rat} (h:LF a+LF b<=gg):iu (fA a) (fA b)=some (Uh a b):=by
 have O:=oe a;have U:=oe b;have d1:=pM a;have d2:=pM b;have m1:=lU a.num b.den;have m2:=lU b.num a.den;unfold iu;rw[kV (by omega),ahg];simp only[ag8,agd,if_false];rw[kV (by omega),ahg,ahg];simp only[ag8,agd,if_false];show (cQ (gw a.num) (gw b.den)).bind _=_;rw[oX (by omega) (by omega),ahg];show (cQ (gw b.num) (gw a.den)).bind _=_;rw[oX (by omega) (by omega),ahg,Pc (by omega) (by omega),ahg,ZM]
instance:DecidableEq az:=fun a b=>decidable_of_iff (a.ah=b.ah∧a.aa=b.aa) (by cases a;cases b;simp)
instance:DecidableEq aw:=fun a b=>decidable_of_iff (a.cD=b.cD∧a.cw=b.cw) (by cases a;cases b;simp)
theorem U4 {b c:az} (U:Fit b.aa) (X:b.aa.length=c.aa.length):∃r,ba (lx b c) 0=some r∧(match r with | .inl _=>b.aa=c.aa | .inr x=>x=false∧b.aa≠c.aa):=by
 refine eQ (I:=fun i s=>s=(i:Int)∧b.aa.take i=c.aa.take i) b.aa.length _ ⟨rfl,by simp⟩ (mN U) ?_;unfold Fit at U;rintro i s Y ⟨rfl,he⟩;simp only[lx]
 by_cases O:i<b.aa.length
 ·rw[if_pos (by simpa using O),cR O,ahg,cR (by omega),ahg]
  by_cases hx:b.aa[i]=c.aa[i]
  ·left;rw[if_neg (by simpa using hx)];refine⟨O,_,rfl,by rw[jn (by omega)];omega,?_⟩;rw[List.take_add_one,List.take_add_one,he];simp[O,show i<c.aa.length by omega,hx]
  ·right;rw[if_pos (by simpa using hx)];refine⟨.inr false,rfl,rfl,fun h=>hx ?_⟩;simp[h]
 ·right;have:i=b.aa.length:=by omega
  subst this;refine⟨.inl (),by rw[if_neg (by simp)],?_⟩;rw[ahJ,ag6 (by omega)]at he;exact he
theorem Tp {b c:az} (U:Fit b.aa):jh b c=some (decide (b=c)):=by
 have O:b=c↔b.ah=c.ah∧b.aa=c.aa:=by cases b;cases c;simp
 unfold jh
 by_cases h1:b.ah=c.ah
 ·rw[if_neg (by simpa using h1),ahg]
  by_cases h2:b.aa.length=c.aa.length
  ·rw[if_neg (by simp;omega)];obtain⟨r,h3,h4⟩:=U4 U h2;rw[h3,ahg];cases r with
   | inl u=>simp only at h4 ⊢;simp[O,h1,h4]
   | inr x=>simp only at h4 ⊢;simp[O,h1,h4.1,h4.2]
  ·rw[if_pos (by simp;omega)];have:b≠c:=fun h=>h2 (by rw[h]);simp[this]
 ·rw[if_pos (by simpa using h1),ahg,if_pos rfl];have:b≠c:=fun h=>h1 (by rw[h]);simp[this]
theorem ads {f g:aw} (U:Fit f.cD.aa) (X:Fit f.cw.aa):lv f g=some (decide (f=g)):=by
 have O:f=g↔f.cD=g.cD∧f.cw=g.cw:=by cases f;cases g;simp
 unfold lv;rw[Tp U,ahg]
 by_cases h:f.cD=g.cD
 ·rw[if_pos (by simpa using h),Tp X,ahg];simp[O,h]
 ·rw[if_neg (by simpa using h)];simp[O,h]
theorem VK {x:Int} (h : -9223372036854775808<=x∧x<9223372036854775808):Ln x<=gg:=by
 have:Ln x<=4:=Kg (by rw[pw4];omega);have O:gg=4398046511104:=rfl;omega
theorem acT (f:aw) (n:Int):uA f n=some (decide ((f.cD.aa.length:Int)<=n∧(f.cw.aa.length:Int)<=n)):=by
 unfold uA
 by_cases h:(f.cD.aa.length:Int)<=n
 ·rw[if_pos (by simpa using h)];simp[h]
 ·rw[if_neg (by simpa using h)];simp[h]
theorem Xv {σ ρ:Type} {body:σ->Option (σ⊕ρ)} {n:Nat} {s O:σ} (h:body s=some (.inl O)):ns body (n+1) s=ns body n O:=by simp only[ns,h]
theorem MB {σ ρ:Type} {body:σ->Option (σ⊕ρ)} {n:Nat} {s:σ} {r:ρ} (h:body s=some (.inr r)):ns body (n+1) s=some r:=by simp only[ns,h]
theorem b7 {i:Nat} (h:i<4611686018427387904):IntKind.i64.wrap ((i:Int)+1)=((i+1:Nat):Int):=by rw[wrap64 (by omega) (by omega)];omega
theorem bU {α:Type} {l:List α} {i:Nat} {x:α} (h:l[i]? = some x):P.idx l (i:Int)=some x:=Mv (by omega) (by simpa using h)
theorem bx {α:Type} {l:List α} {i:Nat} {x:α} (h:l[i]? = some x):i<l.length:=(af6.1 h).1
theorem drop_cons {α:Type} {l rest:List α} {i:Nat} {x:α} (h:l.drop i=x::rest):i<l.length∧l[i]? = some x∧l.drop (i+1)=rest:=by
 have O:i<l.length:=by
  rcases agp i l.length with h1|h1
  ·exact h1
  ·rw[aht h1]at h;cases h
 rw[ahD O]at h;simp only[af1]at h;exact⟨O,by rw[afQ O,h.1],h.2⟩
def dJ {α ρ:Type} (st:Nat->α->Option ρ):Nat->List α->Option ρ
 | _,[]=>none
 | i,x::l=>match st i x with|some r=>some r|none=>dJ st (i+1) l
theorem cq {α ρ:Type} {st:Nat->α->Option ρ} : ∀ {l:List α} {i:Nat},dJ st i l=none↔∀(j:Nat) x,l[j]? = some x->st (i+j) x=none
 | [],i=>by simp[dJ]
 | x::l,i=>by
  simp only[dJ];constructor
  ·intro h j y O;cases hs:st i x with
   | some r=>rw[hs]at h;cases h
   | none =>
    rw[hs]at h;cases j with
    | zero=>simp only[List.getElem?_cons_zero,afM]at O;subst O;exact hs
    | succ j =>
     have:=cq.1 h j y (by simpa using O);rw[<- this];congr 1;omega
  ·intro h;have U:=h 0 x rfl;simp only[Nat.add_zero]at U;rw[U];refine cq.2 fun j y O =>?_;have:=h (j+1) y (by simpa using O);rw[<- this];congr 1;omega
theorem di {α ρ:Type} {st:Nat->α->Option ρ} {r:ρ} : ∀ {l:List α} {i:Nat},dJ st i l=some r->∃(j:Nat) (x:α),l[j]? = some x∧st (i+j) x=some r∧∀(k:Nat) y,k<j->l[k]? = some y->st (i+k) y=none
 | [],i,h=>by cases h
 | x::l,i,h=>by
  simp only[dJ]at h;cases hs:st i x with
  | some r' =>
   rw[hs]at h;exact⟨0,x,rfl,by rw[agc,hs];exact h,fun k y hk=>by omega⟩
  | none =>
   rw[hs]at h;obtain⟨j,y,h1,h2,h3⟩:=di h;refine⟨j+1,y,by simpa using h1,by rw[<- h2];congr 1;omega,fun k z hk O =>?_⟩;cases k with
   | zero=>simp only[List.getElem?_cons_zero,afM]at O;subst O;exact hs
   | succ k =>
    have:=h3 k z (by omega) (by simpa using O);rw[<- this];congr 1;omega
theorem nt {α ρ:Type} (l:List α) {body:Int->Option (Int⊕(Unit⊕ρ))} (st:Nat->α->Option ρ) (hlen:l.length<4611686018427387904)
  (X:∀(i:Nat) x,l[i]? = some x->body (i:Int)=some (match st i x with|none =>.inl ((i+1:Nat):Int)|some r =>.inr (.inr r))) (he:body (l.length:Int)=some (.inr (.inl ()))) :
  ba body 0=some (match dJ st 0 l with|none =>.inl ()|some r =>.inr r):=by
 have key:∀(rest:List α) (i fuel:Nat),i<=l.length->l.drop i=rest->rest.length<fuel->ns body fuel (i:Int)=some (match dJ st i rest with|none =>.inl ()|some r =>.inr r):=by
  intro rest
  induction rest with
  | nil =>
   intro i fuel Y U O;obtain⟨f,rfl⟩:∃f,fuel=f+1:=⟨fuel-1,by simp at O;omega⟩;have hle:l.length<=i:=by
    have:=congrArg List.length U;simp at this;omega
   have:i=l.length:=by omega
   subst this;rw[MB he];rfl
  | cons x rest Z =>
   intro i fuel Y U O;obtain⟨f,rfl⟩:∃f,fuel=f+1:=⟨fuel-1,by simp at O;omega⟩;obtain⟨h1,h2,h3⟩:=drop_cons U;have:=X i x h2;cases hs:st i x with
   | some r =>
    rw[hs]at this;rw[MB this];simp only[dJ,hs]
   | none =>
    rw[hs]at this;rw[Xv this,Z (i+1) f h1 h3 (by simp at O;omega)];simp only[dJ,hs]
 exact key l 0 FU (afE _) rfl (by have:FU=1000000000000000000000000:=rfl;omega)
theorem yh {α σ ρ:Type} {body:Int×σ->Option ((Int×σ)⊕ρ)} (l:List α) (Z:l.length<=17592186044416) (inv:Nat->σ->Prop) (Q:ρ->Prop) {s0:σ} (h0:inv 0 s0)
  (O:∀(i:Nat) x s,l[i]? = some x->inv i s->∃X,body ((i:Int),s)=some (.inl (((i+1:Nat):Int),X))∧inv (i+1) X)
  (U:∀s,inv l.length s->∃r,body ((l.length:Int),s)=some (.inr r)∧Q r):∃r,ba body ((0:Int),s0)=some r∧Q r:=by
 refine eQ (fun i s=>s.1=(i:Int)∧inv i s.2) l.length Q ⟨rfl,h0⟩ (mN Z) ?_;rintro i ⟨k,s⟩ hi ⟨rfl,Y⟩;rcases agp i l.length with h|h
 ·obtain⟨X,h1,h2⟩:=O i _ s (afQ h) Y;exact .inl ⟨h,_,h1,rfl,h2⟩
 ·have:i=l.length:=by omega
  subst this;exact .inr (U s Y)
theorem eS {α:Type} {N j:Nat} (f:Nat->α) (h:j<N):((List.range N).map f)[j]? = some (f j):=by simp[h]
theorem U0 {α:Type} {N:Nat} (f:Nat->α):((List.range N).map f).length=N:=by simp
theorem ma {α:Type} {l:List α} {N:Nat} {f:Nat->α} (U:l.length=N) (h:∀j,j<N->l[j]? = some (f j)):l=(List.range N).map f:=by
 apply ahM;intro j
 by_cases O:j<N
 ·rw[h j O,eS f O]
 ·rw[ahi (by omega),ahi (by simp;omega)]
theorem ml {α:Type} {N i:Nat} (f:Nat->α) (v:α):((List.range N).map f).set i v=(List.range N).map fun j=>if j=i then v else f j:=by
 refine ma (by simp) fun j O =>?_;rw[List.getElem?_set]
 by_cases h:i=j
 ·subst h;rw[if_pos rfl,if_pos (by simpa using O)];simp
 ·rw[if_neg h,eS f O,if_neg (fun e=>h e.symm)]
theorem Dh {α β:Type} {mk:β->α} {R:β->Prop} : ∀ {l:List α},(∀x∈l,∃y,x=mk y∧R y)->∃U:List β,l=U.map mk∧∀y∈U,R y
 | [],_=>⟨[],rfl,fun _ h=>by cases h⟩
 | x::l,h=>by
  obtain⟨y,h1,h2⟩:=h x (ahd ..);obtain⟨U,h3,h4⟩:=Dh (l:=l) fun z O=>h z (ahe _ O);refine⟨y::U,by rw[afJ,<- h1,<- h3],fun z O =>?_⟩;rcases afK.1 O with rfl|O
  ·exact h2
  ·exact h4 z O
theorem JE {α:Type} {R:α->α->Prop} (X:∀a b c,R a b->R b c->R a c) {l:List α} (h:∀(i:Nat) a b,l[i]? = some a->l[i+1]? = some b->R a b):l.Pairwise R:=by
 rw[ahO];intro i j Y U O;obtain⟨d,rfl⟩:∃d,j=i+1+d:=⟨j-(i+1),by omega⟩;clear O
 induction d with
 | zero=>exact h i _ _ (afQ Y) (afQ U)
 | succ d Z=>exact X _ _ _ (Z (by omega)) (h (i+1+d) _ _ (afQ (by omega)) (afQ U))
abbrev Tk:=Nat×Nat×Rat
def wA (t:Tk):bG:=bG.mk (t.1:Int) (t.2.1:Int) (fA t.2.2)
def si (N:Nat) (tk:List Tk):eM:=eM.mk (N:Int) (tk.map wA)
theorem S3 {a b:Tk} (h:wA a=wA b):a=b:=by
 unfold wA at h;injection h with h1 h2 h3;exact Prod.ext (by omega) (Prod.ext (by omega) (xn h3))
theorem S2 {N M:Nat} {a b:List Tk} (h:si N a=si M b):N=M∧a=b:=by
 unfold si at h;injection h with h1 h2;refine⟨by omega,?_⟩;exact List.map_inj_right (f:=wA) (fun x y h=>S3 h) |>.1 h2
def D1:List Tk->Nat->Rat
 | [],_=>0
 | t::l,p=>(if t.1=p then t.2.2 else 0)+D1 l p
theorem N1 (a b:List Tk) (p:Nat):D1 (a++b) p=D1 a p+D1 b p:=by
 induction a with
 | nil=>rw[ahq,D1,Rat.zero_add]
 | cons t a O=>rw[ahA,D1,D1,O];grind
def e7 (tk:List Tk) (p:Nat):Rat:=1-D1 tk p
theorem Dd {tk:List Tk} {i:Nat} {t:Tk} (h:tk[i]? = some t) (p:Nat):e7 (tk.take (i+1)) p=e7 (tk.take i) p-(if t.1=p then t.2.2 else 0):=by
 obtain⟨O,he⟩:=af6.1 h;unfold e7;rw[aih O,N1,he];simp only[D1];grind
theorem IM {tk:List Tk} {K:Nat} (hs:∀t∈tk,LF t.2.2<=K) (p:Nat):∀i,i<=tk.length->LF (e7 (tk.take i) p)<=1+i*(K+1)
 | 0,_=>by
  have:e7 (tk.take 0) p=((1:Int):Rat):=by unfold e7;rw[ahE,D1];grind
  rw[this];exact afF (IL (n:=1) (by decide)) (by omega)
 | i+1,h=>by
  have U:=IM hs p i (by omega);have O:tk[i]? = some tk[i]:=afQ (by omega);rw[Dd O];have hk:=hs _ (afP (show i<tk.length by omega));rw[agC];split
  ·have:=abB (e7 (tk.take i) p) tk[i].2.2;omega
  ·rw[show ∀x:Rat,x-0=x by intro x;grind];omega
theorem Kf {tk:List Tk} {K:Nat} (hs:∀t∈tk,LF t.2.2<=K) (p:Nat):LF (e7 tk p)<=1+tk.length*(K+1):=by
 have:=IM hs p tk.length (afD _)
 rwa [ahJ]at this
theorem Nn {α:Type} {N B:Nat} (z:α) (h:N*B<=140737488355328) (h2:N<=2000):Hl B (N:Int) (N:Int) z=some (List.replicate N z):=by
 unfold Hl;have:(2000:Nat)<=maxLen:=by decide
 rw[if_pos ⟨by omega,by omega,by omega,by simpa using h⟩];simp
theorem acW:iZ 1=some (fA 1):=aaC (n:=1) (by decide)
theorem MT {N K:Nat} {tk:List Tk} (hN:N<=2000) (hlen:tk.length<=8000) (hf:∀t∈tk,t.1<N) (hK:K<=1000000) (hs:∀t∈tk,LF t.2.2<=K) :
  kM (si N tk)=some ((List.range N).map fun p=>fA (e7 tk p)):=by
 unfold kM si;simp only;rw[Nn _ (by omega) hN,ahg];have h1:∃r,ba (ll (List.replicate N (aw.mk (az.mk 0 []) (az.mk 0 [])))) ((0:Int),List.replicate N (aw.mk (az.mk 0 []) (az.mk 0 [])))=some r∧r=(List.range N).map fun p=>fA (e7 (tk.take 0) p):=by
  refine yh (List.replicate N (aw.mk (az.mk 0 []) (az.mk 0 []))) (by simp;omega) (fun i l=>l.length=N∧∀j,j<i->l[j]? = some (fA 1)) _ ⟨by simp,fun j X=>by omega⟩ ?_ ?_
  ·rintro i x l hx ⟨Y,O⟩;have hi:i<N:=by have:=bx hx;simpa using this
   have Z:l[i]? = some l[i]:=afQ (by omega);refine⟨l.set i (fA 1),?_,by simpa using Y,fun j X =>?_⟩
   ·simp only[ll];rw[if_pos (by simp;omega),acW,ahg,bU Z,ahg,b7 (by omega),agF]
   ·rw[List.getElem?_set]
    by_cases h:i=j
    ·rw[if_pos h,if_pos (by omega)]
    ·rw[if_neg h];exact O j (by omega)
  ·rintro l ⟨Y,O⟩;refine⟨l,?_,?_⟩
   ·simp only[ll];rw[if_neg (by simp)]
   ·rw[List.length_replicate]at O;refine ma Y fun j X =>?_;rw[O j X,ahE];congr 2;unfold e7 D1;grind
 obtain⟨r,h1,rfl⟩:=h1;rw[h1,ahg];have h2:∃r,ba (ln (eM.mk (N:Int) (tk.map wA))) ((0:Int),(List.range N).map fun p=>fA (e7 (tk.take 0) p))=some r∧r=(List.range N).map fun p=>fA (e7 tk p):=by
  refine yh tk (by omega) (fun i l=>l=(List.range N).map fun p=>fA (e7 (tk.take i) p)) _ rfl ?_ ?_
  ·rintro i t _ U rfl;have hi:=bx U;have hm:=af5 U;have aa:=hf t hm;have Z:(tk.map wA)[i]? = some (wA t):=by rw[afA,U];rfl
   refine⟨_,?_,rfl⟩;simp only[ln];have ab:=IM hs t.1 i (by omega);have ad:=hs t hm;have hmul:i*(K+1)<=8000*1000001:=aii (by omega) (by omega);rw[if_pos (by simp;omega),bU Z,ahg];simp only[wA];rw[bU (eS _ aa),ahg,acL (by unfold gg;omega),ahg,b7 (by omega),agF,ml];congr 3;refine congrArg (fun f=>(List.range N).map f) (funext fun p =>?_);rw[Dd U]
   by_cases h:p=t.1
   ·subst h;rw[if_pos rfl,if_pos rfl]
   ·rw[if_neg h,if_neg (fun e=>h e.symm)];congr 1;grind
  ·rintro _ rfl;refine⟨_,?_,rfl⟩;simp only[ln];rw[if_neg (by simp),ahJ]
 obtain⟨r,h2,rfl⟩:=h2;rw[h2,ahg]
def XD (a b:Tk):Prop:=a.1<b.1∨(a.1=b.1∧a.2.1<b.2.1)
theorem UN (a b c:Tk) (h:XD a b) (k:XD b c):XD a c:=by unfold XD at *;omega
structure VP (N:Nat) (tk:List Tk):Prop where
 ports:N<=2000
 takes:tk.length<=8000
 ok:∀t∈tk,t.1<N∧t.2.1<N∧0<t.2.2
 sorted:tk.Pairwise XD
 leak:∀p,p<N->0<=e7 tk p
theorem jK (a b c:Int):dM a b c=some (decide (b<=a∧a<=c)):=by
 unfold dM
 by_cases h1:a>=b<;>by_cases h2:a<=c<;>simp[h1,h2]
theorem Ue (a b:bG):∃c,me a b=some c∧(c<0↔(a.ct<b.ct∨(a.ct=b.ct∧a.iO<b.iO))):=by
 unfold me;rw[B5,ahg,B5,ahg,aaE,ahg];refine⟨_,rfl,?_⟩;unfold lY;split<;>split<;>(try split)<;>(try split)<;>simp at *<;>omega
theorem uG {q:Rat} : q.num.sign<0↔q<0:=by
 rw[Int.sign_neg_iff,<- Rat.not_le,<- Rat.num_nonneg];omega
theorem xJ {q:Rat} : q.num.sign=0↔q=0:=by
 rw[Int.sign_eq_zero_iff_zero,Rat.num_eq_zero]
theorem Bi {q:Rat} : 0<q.num.sign↔0<q:=by
 constructor
 ·intro h;have h1:¬q<0:=fun h'=>by have:=uG.2 h';omega
  have h2:q≠0:=fun h'=>by have:=xJ.2 h';omega
  grind
 ·intro h;have h1:¬q.num.sign<0:=fun h'=>by have:=uG.1 h';grind
  have h2:q.num.sign≠0:=fun h'=>by have:=xJ.1 h';grind
  omega
theorem A4 {q:Rat} {k:Nat} (h1:(fA q).cD.aa.length<=k) (h2:(fA q).cw.aa.length<=k):LF q<=k:=by
 unfold LF Ln;exact Nat.max_le.2 ⟨h1,h2⟩
theorem IY {q:Rat} {k:Nat} (h:LF q<=k):(fA q).cD.aa.length<=k∧(fA q).cw.aa.length<=k:=by
 unfold LF Ln at h;exact Nat.max_le.1 h
theorem B7 {l:List Rat} (Y:l.length<=17592186044416) (hs:∀q∈l,LF q<=gg):b8 (l.map fA)=some (decide (∃q∈l,q<0)):=by
 unfold b8 cY;rw[nt l (fun i q=>if q<0 then some (i:Int) else none) (by omega) (fun i q O =>?_) (by simp only[dz];rw[if_neg (by simp)])]
 ·rw[ahg];cases U:dJ (fun i (q:Rat)=>if q<0 then some (i:Int) else none) 0 l with
  | none =>
   simp only;rw[ahg,decide_eq_false (by decide),decide_eq_false];rintro⟨q,O,hn⟩;obtain⟨j,X⟩:=afZ O;have:=cq.1 U j q X;rw[if_pos hn]at this;cases this
  | some r =>
   obtain⟨j,q,h1,h2,_⟩:=di U
   by_cases hn:q<0
   ·rw[if_pos hn]at h2;cases h2;simp only;rw[ahg,decide_eq_true (by omega),decide_eq_true ⟨q,af5 h1,hn⟩]
   ·rw[if_neg hn]at h2;cases h2
 ·have Z:=bx O;simp only[dz,mS];rw[if_pos (by simp;omega),bU (x:=fA q) (by rw[afA,O];rfl),ahg,BB (hs q (af5 O)),ahg,ahg]
  by_cases hn:q<0
  ·rw[decide_eq_true (uG.2 hn),if_pos hn];rfl
  ·rw[decide_eq_false (fun h=>hn (uG.1 h)),if_neg hn,b7 (by omega)];rfl
def UW (N:Nat) (x:bG):Bool:=decide (0<=x.ct∧x.ct<=(N:Int)-1)&&decide (0<=x.iO∧x.iO<=(N:Int)-1)&&okF x.eB&&decide (0<x.eB.cD.ah)
def Ud (a b:bG):Prop:=a.ct<b.ct∨(a.ct=b.ct∧a.iO<b.iO)
instance (a b:bG):Decidable (Ud a b):=by unfold Ud;infer_instance
def C1 (N:Nat) (l:List bG) (i:Nat) (x:bG):Bool:=UW N x&&(decide (i=0)||(match l[i-1]? with|some y=>decide (Ud y x)|none=>false))
theorem NM {N:Nat} {x:bG} : UW N x=true↔∃t:Tk,x=wA t∧t.1<N∧t.2.1<N∧0<t.2.2:=by
 unfold UW;simp only[age,decide_eq_true_eq];constructor
 ·rintro⟨⟨⟨h1,h2⟩,h3⟩,h4⟩;obtain⟨q,O⟩:=Bd.1 h3;refine⟨(x.ct.toNat,x.iO.toNat,q),?_,by simp only;omega,by simp only;omega,?_⟩
  ·unfold wA;cases x;simp only at *;rw[<- O,Int.toNat_of_nonneg h1.1,Int.toNat_of_nonneg h2.1]
  ·rw[O]at h4;exact Bi.1 h4
 ·rintro⟨t,rfl,h1,h2,h3⟩;exact⟨⟨⟨by simp only[wA];omega,by simp only[wA];omega⟩,Qm _⟩,Bi.2 h3⟩
theorem RZ {a b:Tk} : Ud (wA a) (wA b)↔XD a b:=by
 unfold Ud XD wA;simp only;omega
theorem HT {n:eM} {K:Nat} (hK:K<=1000000) (hs:∀t∈n.aN,t.eB.cD.aa.length<=K∧t.eB.cw.aa.length<=K) :
  ∃b,kJ n=some b∧(b=true↔∃N tk,n=si N tk∧VP N tk):=by
 unfold kJ;rw[jK,ahg]
 by_cases hN:0<=n.aA∧n.aA<=2000
 rotate_left
 ·rw[decide_eq_false hN];refine⟨false,by simp,?_⟩;simp only[agd,false_iff];rintro⟨N,tk,rfl,h⟩;have:=h.ports;simp only[si]at hN;omega
 rw[decide_eq_true hN];simp only[ag8,agd,if_false,Option.bind_some]
 by_cases hL:(n.aN.length:Int)>8000
 ·rw[decide_eq_true hL];refine⟨false,by simp,?_⟩;simp only[agd,false_iff];rintro⟨N,tk,rfl,h⟩;have:=h.takes;simp only[si,af7]at hL;omega
 rw[decide_eq_false hL];simp only[agd,if_false];obtain⟨N,Z⟩:∃N:Nat,n.aA=(N:Int):=⟨n.aA.toNat,by omega⟩;have ar:IntKind.i64.wrap (n.aA-1)=(N:Int)-1:=by rw[Z,wrap64 (by omega) (by omega)]
 have aC:K<=qN:=afF hK (by unfold qN;omega);have ab:=nt n.aN (body:=lk n) (fun i x=>if C1 N n.aN i x=true then none else some false) (by omega) (fun i x hx=>by
  have hi:=bx hx;obtain⟨ai,aj⟩:=hs x (af5 hx);simp only[lk];rw[if_pos (by simp;omega),bU hx,ahg,jK,ahg,ar];have ad:(if (!decide (0<=x.ct∧x.ct<=(N:Int)-1))=true then some true
   else (dM x.iO 0 ((N:Int)-1)).bind fun au =>
    if (!au)=true then some true
    else (dp x.eB).bind fun av=>if (!av)=true then some true else (ib x.eB).bind fun aw=>some (decide (aw<=0)))=some (!UW N x):=by
   unfold UW
   by_cases c1:0<=x.ct∧x.ct<=(N:Int)-1
   rotate_left
   ·rw[decide_eq_false c1];simp
   rw[decide_eq_true c1,jK,ahg]
   by_cases c2:0<=x.iO∧x.iO<=(N:Int)-1
   rotate_left
   ·rw[decide_eq_false c2];simp
   rw[decide_eq_true c2,BA ⟨by omega,by omega⟩,ahg];cases hq:okF x.eB with
   | false=>simp
   | true =>
    obtain⟨q,hq⟩:=Bd.1 hq;rw[hq]at ai aj ⊢;have ae:=A4 ai aj;rw[BB (by unfold gg;omega),ahg];have:(fA q).cD.ah=q.num.sign:=rfl;rw[this]
    by_cases c3:q.num.sign<=0
    ·rw[decide_eq_true c3,decide_eq_false (show ¬0<q.num.sign by omega)];simp
    ·rw[decide_eq_false c3,decide_eq_true (show 0<q.num.sign by omega)];simp
  rw[ad,ahg];unfold C1;cases aD:UW N x with
  | false=>simp
  | true =>
   simp only[ag8,agd,if_false,ag9];cases i with
   | zero=>rw[if_neg (by simp),b7 (by omega)];simp
   | succ i =>
    rw[if_pos (by simp)];have hg:n.aN[i]? = some n.aN[i]:=afQ (by omega);have e1:IntKind.i64.wrap (((i+1:Nat):Int)-1)=(i:Int):=by rw[wrap64 (by omega) (by omega)];omega
    obtain⟨c,ax,ak⟩:=Ue n.aN[i] x;rw[e1,bU hg,ahg,ax,ahg,ahu,hg];simp only[Nat.add_eq_zero_iff,ahH,and_false,decide_false,agI]
    by_cases hb:Ud n.aN[i] x
    ·rw[if_neg (by simp;exact ak.2 hb),decide_eq_true hb,b7 (by omega)];rfl
    ·rw[if_pos (by simp only[decide_eq_true_eq];have:¬c<0:=fun h=>hb (ak.1 h);omega),decide_eq_false hb];rfl) (by
  unfold lk;rw[if_neg (by simp)])
 rw[ab,ahg];cases al:dJ (fun i x=>if C1 N n.aN i x=true then none else some false) 0 n.aN with
 | some r =>
  obtain⟨j,x,h1,h2,_⟩:=di al;simp only[agt]at h2;split at h2
  ·cases h2
  rename_i an;cases h2;refine⟨false,rfl,?_⟩;simp only[agd,false_iff];rintro⟨M,tk,rfl,hR⟩;apply an;simp only[si]at h1 Z ⊢;obtain rfl:M=N:=by omega
  rw[afA,afB]at h1;obtain⟨t,ht,rfl⟩:=h1;have hm:=af5 ht;unfold C1;rw[NM.2 ⟨t,rfl,hR.ok t hm⟩,ag9];cases j with
  | zero=>simp
  | succ j =>
   have ay:=bx ht;have hg:tk[j]? = some tk[j]:=afQ (by omega);rw[ahu,afA,hg];simp only[Option.map_some];rw[decide_eq_true (RZ.2 ?_),Bool.or_true];have:=ahO.1 hR.sorted j (j+1) (by omega) ay (by omega)
   rwa [(af6.1 ht).2]at this
 | none =>
  have X:=cq.1 al;simp only[agt]at X;have O:∀(j:Nat) x,n.aN[j]? = some x->C1 N n.aN j x=true:=fun j x hj=>by
   have:=X j x hj;split at this
   ·assumption
   ·cases this
  obtain⟨tk,U,Y⟩:=Dh (mk:=wA) (R:=fun t=>t.1<N∧t.2.1<N∧0<t.2.2) (l:=n.aN) fun x hx=>by
   obtain⟨j,hj⟩:=afZ hx;have:=O j x hj;unfold C1 at this;rw[age]at this;exact NM.1 this.1
  have hn:n=si N tk:=by
   unfold si;rw[<- Z,<- U]
  have ag:tk.Pairwise XD:=JE UN fun i a b ha hb=>by
   have:=O (i+1) (wA b) (by rw[U,afA,hb];rfl);unfold C1 at this;rw[age,ahu,U,afA,ha]at this;simpa [RZ] using this.2
  have ae:∀t∈tk,LF t.2.2<=K:=fun t ht=>by
   have:=hs (wA t) (by rw[U];exact List.mem_map_of_mem ht);exact A4 this.1 this.2
  have hlen:tk.length<=8000:=by
   have:=congrArg List.length U;rw[af7]at this;omega
  have ao:N<=2000:=by omega
  simp only;rw[hn,MT ao hlen (fun t ht=>(Y t ht).1) hK ae,ahg];have aq:((List.range N).map fun p=>fA (e7 tk p))=((List.range N).map fun p=>e7 tk p).map fA:=by rw[List.map_map];rfl
  rw[aq,B7 (by simp;omega) (fun q hq=>by
   obtain⟨p,_,rfl⟩:=afC.1 hq;have:=Kf ae p;have h2:tk.length*(K+1)<=8000*1000001:=aii hlen (by omega);unfold gg;omega),ahg]
  refine⟨_,rfl,?_⟩;simp only[agf,decide_eq_false_iff_not];constructor
  ·intro az;refine⟨N,tk,rfl,⟨ao,hlen,Y,ag,fun p hp =>?_⟩⟩
   by_cases h0:e7 tk p<0
   ·exact absurd ⟨_,afC.2 ⟨p,ahm.2 hp,rfl⟩,h0⟩ az
   ·grind
  ·rintro⟨M,aE,he,hR⟩ ⟨q,hq,aB⟩;obtain⟨rfl,rfl⟩:=S2 he;obtain⟨p,hp,rfl⟩:=afC.1 hq;have:=hR.leak p (ahm.1 hp);grind
theorem Dz:∀(N:Nat) (l:List Nat),l.Nodup->(∀x∈l,x<N)->l.length<=N
 | 0,l,_,h=>by
  cases l with
  | nil=>simp
  | cons x l=>exact absurd (h x (ahd ..)) (by omega)
 | N+1,l,O,h=>by
  have h1:=Dz N (l.erase N) (O.erase N) fun x U=>by
   have h2:=h x (List.mem_of_mem_erase U);have h3:x≠N:=fun e=>by subst e;exact (List.Nodup.mem_erase_iff O).1 U |>.1 rfl
   omega
  rw[List.length_erase]at h1;split at h1<;>omega
def lj (l:List Nat):List Int:=l.map fun (p:Nat)=>(p:Int)
theorem XN {l:List Nat} {i p:Nat} (h:l[i]? = some p):(lj l)[i]? = some (p:Int):=by unfold lj;rw[afA,h];rfl
theorem tq (l:List Nat):(lj l).length=l.length:=af7 ..
def jY (tk:List Tk) (p:Nat):List Nat:=(tk.filter fun t=>decide (t.2.1=p)).map fun t=>t.1
theorem Hk {tk:List Tk} {p q:Nat} : q∈jY tk p↔∃t∈tk,t.1=q∧t.2.1=p:=by
 unfold jY;simp only[afC,ahj,decide_eq_true_eq];constructor
 ·rintro⟨t,⟨h1,h2⟩,h3⟩;exact⟨t,h1,h3,h2⟩
 ·rintro⟨t,h1,h3,h2⟩;exact⟨t,⟨h1,h2⟩,h3⟩
theorem FK (tk:List Tk) (p:Nat):(jY tk p).length<=tk.length:=by
 unfold jY;rw[af7];exact aij ..
theorem Pq {tk:List Tk} {i:Nat} {t:Tk} (h:tk[i]? = some t) (p:Nat):jY (tk.take (i+1)) p=if t.2.1=p then jY (tk.take i) p++[t.1] else jY (tk.take i) p:=by
 obtain⟨U,he⟩:=af6.1 h;unfold jY;rw[aih U,aik,aha,he]
 by_cases O:t.2.1=p
 ·rw[if_pos O,ail (by simpa using O)];rfl
 ·rw[if_neg O,aim (by simpa using O)];simp
structure IP (N:Nat) (tk:List Tk) (r:Nat->Int):Prop where
 ge:∀p,p<N -> -1<=r p
 zero:∀p,p<N->(r p=0↔0<e7 tk p)
 down:∀p,p<N->0<r p->∃t∈tk,t.1=p∧r t.2.1=r p-1
 near:∀t∈tk,0<=r t.2.1->0<=r t.1∧r t.1<=r t.2.1+1
 le:∀p,p<N->r p<=2000
structure BF (N:Nat) (tk:List Tk) (r:Nat->Int) (D Q:List Nat) (h m:Int):Prop where
 nodup:(D++Q).Nodup
 lt:∀p∈D++Q,p<N
 rk:∀p,p<N->(0<=r p↔p∈D++Q)
 ge:∀p,p<N -> -1<=r p
 zero:∀p,p<N->(r p=0↔0<e7 tk p)
 down:∀p,p<N->0<r p->∃t∈tk,t.1=p∧r t.2.1=r p-1
 near:∀t∈tk,t.2.1∈D->0<=r t.1∧r t.1<=r t.2.1+1
 mono:Q.Pairwise fun a b=>r a<=r b
 top:∀p∈D++Q,r p<=h+1
 low:∀q∈Q,h<=r q
 bnd:∀p,p<N->r p<=m
def Vm (r:Nat->Int) (q:Nat) (v:Int):Nat->Int:=fun x=>if x=q then v else r x
theorem jJ (r:Nat->Int) (q:Nat) (v:Int):Vm r q v q=v:=if_pos rfl
theorem gZ {r:Nat->Int} {q x:Nat} (v:Int) (h:x≠q):Vm r q v x=r x:=if_neg h
theorem BF.pop {N:Nat} {tk:List Tk} {r:Nat->Int} {D Q:List Nat} {p:Nat} {h m:Int} (O:BF N tk r D (p::Q) h m):BF N tk r D (p::Q) (r p) (m+1)∧0<=r p∧p<N∧r p<=m where
 left:={
  nodup:=O.nodup,lt:=O.lt,rk:=O.rk,ge:=O.ge,zero:=O.zero,down:=O.down,near:=O.near,mono:=O.mono
  top:=fun x U=>by
   have h1:=O.top x U;have h2:=O.low p (ahd ..);omega
  low:=fun q X=>by
   rcases afK.1 X with rfl|X
   ·exact Int.le_refl _
   ·exact (ahk.1 O.mono).1 q X
  bnd:=fun x U=>by have:=O.bnd x U;omega }
 right:=by
  have hm:p∈D++p::Q:=afS _ (ahd ..);have Y:=O.lt p hm;exact⟨(O.rk p Y).2 hm,Y,O.bnd p Y⟩
theorem BF.push {N:Nat} {tk:List Tk} {r:Nat->Int} {D Q:List Nat} {p q:Nat} {m:Int} (X:BF N tk r D (p::Q) (r p) m) (ae:0<=r p) (hm:r p+1<=m) (hq:q<N) (hr:r q = -1) (ht:∃t∈tk,t.1=q∧t.2.1=p) :
  BF N tk (Vm r q (r p+1)) D (p::(Q++[q])) (r p) m∧Vm r q (r p+1) p=r p:=by
 have hqn:q∉D++p::Q:=fun h=>by have:=(X.rk q hq).2 h;omega
 have Y:∀x,x∈D++p::(Q++[q])↔x∈D++p::Q∨x=q:=fun x=>by
  simp only[agV,afK,ain,or_false];constructor
  ·rintro (h|h|h|h)<;>simp[h]
  ·rintro ((h|h|h)|h)<;>simp[h]
 have U:∀x,x∈D++p::Q->x≠q:=fun x O e=>hqn (e ▸ O);have ab:p∈D++p::Q:=afS _ (ahd ..);have aa:p≠q:=U p ab;refine⟨?_,gZ _ aa⟩;constructor
 ·have:D++p::(Q++[q])=(D++p::Q)++[q]:=by simp
  rw[this,List.nodup_append];refine⟨X.nodup,by simp,fun a ha b Z =>?_⟩;simp only[afK,ain,or_false]at Z;subst Z;exact U a ha
 ·intro x O;rcases (Y x).1 O with h|rfl
  ·exact X.lt x h
  ·exact hq
 ·intro x O;rw[Y]
  by_cases h:x=q
  ·subst h;rw[jJ];exact⟨fun _ =>.inr rfl,fun _=>by omega⟩
  ·rw[gZ _ h,X.rk x O];exact⟨.inl,fun k=>k.elim id fun e=>absurd e h⟩
 ·intro x O
  by_cases h:x=q
  ·subst h;rw[jJ];omega
  ·rw[gZ _ h];exact X.ge x O
 ·intro x O
  by_cases h:x=q
  ·subst h;rw[jJ];have:=X.zero x O;constructor
   ·intro h;omega
   ·intro h;have:=this.2 h;omega
  ·rw[gZ _ h];exact X.zero x O
 ·intro x O h0
  by_cases h:x=q
  ·subst h;obtain⟨t,h1,h2,h3⟩:=ht;refine⟨t,h1,h2,?_⟩;rw[h3,gZ _ aa,jJ];omega
  ·rw[gZ _ h]at h0 ⊢;obtain⟨t,h1,h2,h3⟩:=X.down x O h0;refine⟨t,h1,h2,?_⟩;rw[gZ _ (fun e=>by rw[e,hr]at h3;omega)];exact h3
 ·intro t ad hD;obtain⟨h1,h2⟩:=X.near t ad hD;have e1:t.2.1≠q:=U _ (afR _ hD);have e2:t.1≠q:=fun e=>by rw[e]at h1;omega
  rw[gZ _ e1,gZ _ e2];exact⟨h1,h2⟩
 ·have h1:=X.mono;have:p::(Q++[q])=(p::Q)++[q]:=by simp
  rw[this,List.pairwise_append];refine⟨h1.imp_of_mem fun {a b} ha Z h =>?_,by simp,fun a ha b Z =>?_⟩
  ·rw[gZ _ (U a (afS _ ha)),gZ _ (U b (afS _ Z))];exact h
  ·simp only[afK,ain,or_false]at Z;subst Z;rw[gZ _ (U a (afS _ ha)),jJ];exact X.top a (afS _ ha)
 ·intro x O;rcases (Y x).1 O with h|rfl
  ·rw[gZ _ (U x h)];exact X.top x h
  ·rw[jJ];exact Int.le_refl _
 ·intro x O
  by_cases h:x=q
  ·subst h;rw[jJ];omega
  ·rw[gZ _ h];apply X.low x;simp only[afK,agV,ain,or_false]at O ⊢;rcases O with h1|h1|h1
   ·exact .inl h1
   ·exact .inr h1
   ·exact absurd h1 h
 ·intro x O
  by_cases h:x=q
  ·subst h;rw[jJ];exact hm
  ·rw[gZ _ h];exact X.bnd x O
theorem BF.finish {N:Nat} {tk:List Tk} {r:Nat->Int} {D Q:List Nat} {p:Nat} {h m:Int} (hB:BF N tk r D (p::Q) h m) (U:∀q∈jY tk p,0<=r q∧r q<=r p+1):BF N tk r (D++[p]) Q h m:=by
 have e:(D++[p])++Q=D++p::Q:=by simp
 exact {
  nodup:=by rw[e];exact hB.nodup
  lt:=by rw[e];exact hB.lt
  rk:=by rw[e];exact hB.rk
  ge:=hB.ge,zero:=hB.zero,down:=hB.down
  near:=fun t O X=>by
   rcases agV.1 X with h1|h1
   ·exact hB.near t O h1
   ·simp only[afK,ain,or_false]at h1;rw[h1];exact U t.1 (Hk.2 ⟨t,O,rfl,h1⟩)
  mono:=(ahk.1 hB.mono).2
  top:=by rw[e];exact hB.top
  low:=fun q Y=>hB.low q (ahe _ Y)
  bnd:=hB.bnd }
theorem BF.adq {N:Nat} {tk:List Tk} {r:Nat->Int} {D:List Nat} {h m:Int} (O:BF N tk r D [] h m) (U:∀t∈tk,t.1<N∧t.2.1<N) (hm:m<=2000):IP N tk r where
 ge:=O.ge
 zero:=O.zero
 down:=O.down
 near t h1 h2:=O.near t h1 (by have:=(O.rk t.2.1 (U t h1).2).1 h2;simpa using this)
 le p X:=by have:=O.bnd p X;omega
theorem Yj {α:Type} (a:α) (l:List α):wo (a::l) 1 ((a::l).length:Int)=some l:=by
 unfold wo;rw[if_pos ⟨by omega,by simp;omega,by omega⟩];simp
variable {N:Nat} {tk:List Tk}
theorem QD {r:Nat->Int} {D Q:List Nat} {p:Nat} {m:Int} (hB:BF N tk r D (p::Q) (r p) m) (hp:p<N) (ak:0<=r p) (hm:r p+1<=m) (al:m<=2001) (ah:∀t∈tk,t.1<N∧t.2.1<N) (hlen:tk.length<=8000) (hN:N<=2000) :
  ∃r' Q',ba (jC (p:Int) (lj (jY tk p))) ((0:Int),(List.range N).map r,lj Q)=some ((List.range N).map r',lj Q')∧BF N tk r' (D++[p]) Q' (r p) m:=by
 have an:=FK tk p;have key:=fun hs he=>yh (body:=jC (p:Int) (lj (jY tk p))) (jY tk p) (by omega) (fun i (s:List Int×List Int)=>∃r' Q',s=((List.range N).map r',lj Q')∧BF N tk r' D (p::Q') (r p) m∧r' p=r p∧∀q∈(jY tk p).take i,0<=r' q∧r' q<=r p+1)
  (fun x=>∃r' Q',x=((List.range N).map r',lj Q')∧BF N tk r' (D++[p]) Q' (r p) m) (s0:=((List.range N).map r,lj Q)) ⟨r,Q,rfl,hB,rfl,fun q hq=>by simp at hq⟩ hs he
 refine (key ?_ ?_).elim fun x ⟨h1,r',Q',X,h2⟩=>⟨r',Q',X ▸ h1,h2⟩
 ·rintro i q _ hq ⟨r',Q',rfl,U,Y,O⟩;have hi:=bx hq;have ai:=af5 hq;obtain⟨t,ab,ad,aj⟩:=Hk.1 ai;have aa:q<N:=by rw[<- ad];exact (ah t ab).1
  have Z:(jY tk p).take (i+1)=(jY tk p).take i++[q]:=by
   rw[aih hi,(af6.1 hq).2]
  have ao:Q'.length<=N:=by
   have h1:=Dz N (D++p::Q') U.nodup U.lt;simp only[agP,List.length_cons]at h1;omega
  simp only[jC];rw[if_pos (by rw[tq];simp;omega),bU (XN hq),ahg,bU (eS r' aa),ahg]
  by_cases hc:r' q = -1
  ·rw[if_pos (by rw[hc];rfl),bU (eS r' hp),ahg,Y,IS (by rw[tq];simp;omega),ahg,b7 (by omega),agF,ml];have hw:IntKind.i64.wrap (r p+1)=r p+1:=wrap64 (by omega) (by omega);rw[hw];have ae:=U;rw[<- Y]at ae;obtain⟨h1,h2⟩:=ae.push (by omega) (by omega) aa hc ⟨t,ab,ad,aj⟩;rw[Y]at h1 h2;refine⟨_,rfl,Vm r' q (r p+1),Q'++[q],?_,h1,h2,fun x X =>?_⟩
   ·unfold lj Vm;simp
   ·rw[Z]at X;rcases agV.1 X with X|X
    ·have:=O x X
     by_cases ag:x=q
     ·subst ag;rw[hc]at this;omega
     ·rw[gZ _ ag];exact this
    ·simp only[afK,ain,or_false]at X;subst X;rw[jJ];omega
  ·rw[if_neg (by simpa using hc),b7 (by omega)];refine⟨_,rfl,r',Q',rfl,U,Y,fun x X =>?_⟩;rw[Z]at X;rcases agV.1 X with X|X
   ·exact O x X
   ·simp only[afK,ain,or_false]at X;subst X;have h0:0<=r' x:=by have:=U.ge x aa;omega
    exact⟨h0,U.top x ((U.rk x aa).1 h0)⟩
 ·rintro _ ⟨r',Q',rfl,U,Y,O⟩;refine⟨_,?_,r',Q',rfl,U.finish fun q hq =>?_⟩
  ·simp only[jC];rw[if_neg (by rw[tq];simp)]
  ·rw[ahJ]at O;rw[Y];exact O q hq
theorem QE {r:Nat->Int} {Q:List Nat} (hB:BF N tk r [] Q 0 0) (U:∀t∈tk,t.1<N∧t.2.1<N) (hlen:tk.length<=8000) (hN:N<=2000) :
  ∃r',ba (jB ((List.range N).map fun p=>lj (jY tk p))) ((List.range N).map r,lj Q)=some ((List.range N).map r')∧IP N tk r':=by
 have key:=fun hs=>eQ (body:=jB ((List.range N).map fun p=>lj (jY tk p))) (fun i (s:List Int×List Int)=>∃r' D Q' h,s=((List.range N).map r',lj Q')∧D.length=i∧BF N tk r' D Q' h (i:Int)) N
  (fun x=>∃r',x=(List.range N).map r'∧IP N tk r') (s:=((List.range N).map r,lj Q)) ⟨r,[],Q,0,rfl,rfl,hB⟩ (mN (by omega)) hs
 refine (key ?_).elim fun x ⟨h1,r',hx,h2⟩=>⟨r',hx ▸ h1,h2⟩
 ·rintro i _ hi ⟨r',D,Q',h,rfl,hD,O⟩;cases Q' with
  | nil =>
   refine .inr ⟨_,?_,r',rfl,O.adq U (by omega)⟩;simp only[jB,lj,agu];rw[if_neg (by simp)]
  | cons p Q' =>
   obtain⟨X,Y,hp,aa⟩:=O.pop;have Z:i<N:=by
    have h1:=Dz N (D++p::Q') O.nodup O.lt;simp only[agP,List.length_cons]at h1;omega
   obtain⟨r2,Q2,h1,h2⟩:=QD X hp Y (by omega) (by omega) U hlen hN;refine .inl ⟨Z,((List.range N).map r2,lj Q2),?_,r2,D++[p],Q2,r' p,rfl,by simp[hD],by simpa using h2⟩;simp only[jB];have e1:lj (p::Q')=(p:Int)::lj Q':=rfl;rw[e1,if_pos (by simp),idx_zero' ,ahg,Yj,ahg,bU (eS (fun p=>lj (jY tk p)) hp),ahg,h1,ahg]
where
 idx_zero':∀ {α:Type} {a:α} {l:List α},P.idx (a::l) 0=some a:=fun {_ a l}=>bU (l:=a::l) (i:=0) rfl
theorem Uc {L:Nat} (U:∀t∈tk,t.1<N∧t.2.1<N) (hlen:tk.length<=8000) :
  ba (jz (si N tk)) ((0:Int),List.replicate N ([]:List Int))=some ((List.range N).map fun p=>lj (jY tk p)):=by
 unfold si;have key:=fun hs he=>yh (body:=jz (eM.mk (N:Int) (tk.map wA))) tk (by omega) (fun i l=>l=(List.range N).map fun p=>lj (jY (tk.take i) p)) (fun l=>l=(List.range N).map fun p=>lj (jY tk p)) (s0:=List.replicate N ([]:List Int))
  (ma (by simp) fun j Z=>by rw[List.getElem?_replicate,if_pos Z,List.take_zero];rfl) hs he
 refine (key ?_ ?_).elim fun x ⟨h1,hx⟩=>hx ▸ h1
 ·rintro i t _ O rfl;have hi:=bx O;have X:=(U t (af5 O)).2;have hg:(tk.map wA)[i]? = some (wA t):=by rw[afA,O];rfl
  have Y:=FK (tk.take i) t.2.1;rw[afW]at Y;refine⟨_,?_,rfl⟩;simp only[jz];rw[if_pos (by simp;omega),bU hg,ahg];simp only[wA];rw[bU (eS _ X),ahg,IS (by rw[tq];simp;omega),ahg,b7 (by omega),agF,ml];congr 3;refine congrArg (fun f=>(List.range N).map f) (funext fun p =>?_);rw[Pq O]
  by_cases h:p=t.2.1
  ·subst h;rw[if_pos rfl,if_pos rfl];unfold lj;simp
  ·rw[if_neg h,if_neg (fun e=>h e.symm)]
 ·rintro _ rfl;refine⟨_,?_,rfl⟩;simp only[jz];rw[if_neg (by simp),ahJ]
def Aq (tk:List Tk) (p:Nat):Int:=if 0<e7 tk p then 0 else -1
def lu (tk:List Tk) (n:Nat):List Nat:=(List.range n).filter fun p=>decide (0<e7 tk p)
theorem N6 (tk:List Tk) (n:Nat):lu tk (n+1)=if 0<e7 tk n then lu tk n++[n] else lu tk n:=by
 unfold lu;rw[List.range_succ,aik]
 by_cases h:0<e7 tk n
 ·rw[if_pos h,ail (by simpa using h)];rfl
 ·rw[if_neg h,aim (by simpa using h)];simp
theorem UB {K:Nat} (Z:N<=2000) (hlen:tk.length<=8000) (hK:K<=1000000) (hs:∀t∈tk,LF t.2.2<=K) :
  ba (jA ((List.range N).map fun p=>fA (e7 tk p))) ((0:Int),List.replicate N (0:Int),([]:List Int))=some ((List.range N).map (Aq tk),lj (lu tk N)):=by
 have key:=fun hs he=>yh (body:=jA ((List.range N).map fun p=>fA (e7 tk p))) (List.range N) (by simp;omega) (fun i (s:List Int×List Int)=>s=((List.range N).map (fun p=>if p<i then Aq tk p else 0),lj (lu tk i))) (fun s=>s=((List.range N).map (Aq tk),lj (lu tk N))) (s0:=(List.replicate N (0:Int),([]:List Int)))
  (by rw[show lu tk 0=[] from rfl];refine Prod.ext ?_ rfl;exact ma (by simp) fun j O=>by rw[List.getElem?_replicate,if_pos O,if_neg (by omega)]) hs he
 refine (key ?_ ?_).elim fun x ⟨h1,hx⟩=>hx ▸ h1
 ·rintro i x _ hx rfl;have U:i<N:=by have:=bx hx;simpa using this
  have X:=Kf hs i;have h2:tk.length*(K+1)<=8000*1000001:=aii hlen (by omega);have Y:(lu tk i).length<=i:=by unfold lu;have:=aij (fun p=>decide (0<e7 tk p)) (List.range i);simpa using this
  refine⟨_,?_,rfl⟩;simp only[jA];rw[if_pos (by simp;omega),bU (eS (fun p=>fA (e7 tk p)) U),ahg,bU (eS _ U),ahg,BB (by unfold gg;omega),ahg,agF,ml,ml,b7 (by omega),N6]
  by_cases hl:0<e7 tk i
  ·rw[if_pos (by simpa using Bi.2 hl),bU (eS _ U),ahg,IS (by rw[tq];simp;omega),ahg,if_pos hl];refine congrArg some (congrArg Sum.inl (congrArg (Prod.mk _) (Prod.ext ?_ ?_)))
   ·refine congrArg (fun f=>(List.range N).map f) (funext fun p =>?_)
    by_cases h:p=i
    ·subst h;rw[if_pos rfl,if_pos (by omega)];unfold Aq;rw[if_pos hl]
    ·rw[if_neg h,if_neg h]
     by_cases h3:p<i
     ·rw[if_pos h3,if_pos (by omega)]
     ·rw[if_neg h3,if_neg (by omega)]
   ·unfold lj;simp
  ·rw[if_neg (by simpa using fun h=>hl (Bi.1 h)),if_neg hl];refine congrArg some (congrArg Sum.inl (congrArg (Prod.mk _) (Prod.ext ?_ rfl)));refine congrArg (fun f=>(List.range N).map f) (funext fun p =>?_)
   by_cases h:p=i
   ·subst h;rw[if_pos rfl,if_pos (by omega)];unfold Aq;rw[if_neg hl]
   ·rw[if_neg h]
    by_cases h3:p<i
    ·rw[if_pos h3,if_pos (by omega)]
    ·rw[if_neg h3,if_neg (by omega)]
 ·rintro _ rfl;refine⟨_,?_,rfl⟩;simp only[jA];rw[if_neg (by simp),af8];refine congrArg some (congrArg Sum.inr (Prod.ext ?_ rfl));refine ma (by simp) fun j O =>?_;rw[eS _ O,if_pos O]
theorem ZY (N:Nat) (tk:List Tk):BF N tk (Aq tk) [] (lu tk N) 0 0:=by
 have hm:∀p,p∈lu tk N↔p<N∧0<e7 tk p:=fun p=>by unfold lu;simp[ahj]
 have U:∀p,0<e7 tk p->Aq tk p=0:=fun p h=>if_pos h;have h1:∀p,¬0<e7 tk p->Aq tk p = -1:=fun p h=>if_neg h;constructor
 ·rw[ahq];unfold lu;exact List.nodup_range.filter _
 ·intro p O;rw[ahq]at O;exact ((hm p).1 O).1
 ·intro p O;rw[ahq,hm]
  by_cases h:0<e7 tk p
  ·rw[U p h];simp[O,h]
  ·rw[h1 p h];simp[h]
 ·intro p O
  by_cases h:0<e7 tk p
  ·rw[U p h];omega
  ·rw[h1 p h];omega
 ·intro p O
  by_cases h:0<e7 tk p
  ·rw[U p h];simp[h]
  ·rw[h1 p h];simp[h]
 ·intro p O X
  by_cases h:0<e7 tk p
  ·rw[U p h]at X;omega
  ·rw[h1 p h]at X;omega
 ·intro t _ h;simp at h
 ·refine List.Pairwise.imp_of_mem (R:=fun _ _=>True) (fun {a b} Y Z _ =>?_) (List.pairwise_of_forall (fun _ _=>trivial));rw[U a ((hm a).1 Y).2,U b ((hm b).1 Z).2];exact Int.le_refl _
 ·intro p O;rw[ahq]at O;rw[U p ((hm p).1 O).2];omega
 ·intro q hq;rw[U q ((hm q).1 hq).2];omega
 ·intro p O
  by_cases h:0<e7 tk p
  ·rw[U p h];omega
  ·rw[h1 p h];omega
theorem X9 {K:Nat} (X:VP N tk) (Z:K<=1000000) (hs:∀t∈tk,LF t.2.2<=K):∃r,fD (si N tk)=some ((List.range N).map r)∧IP N tk r:=by
 have Y:=X.ports;have hlen:=X.takes;have O:∀t∈tk,t.1<N∧t.2.1<N:=fun t U=>⟨(X.ok t U).1,(X.ok t U).2.1⟩;obtain⟨b,aa,ab⟩:=HT (n:=si N tk) Z (fun t U=>by
  simp only[si,afC]at U;obtain⟨t',h1,rfl⟩:=U;exact IY (hs t' h1))
 obtain rfl:b=true:=ab.2 ⟨N,tk,rfl,X⟩;obtain⟨r',h1,h2⟩:=QE (ZY N tk) O hlen Y;refine⟨r',?_,h2⟩;unfold fD;rw[aa,ahg];simp only[ag8,agd,if_false];have e1:(si N tk).aA=(N:Int):=rfl;rw[e1,Nn _ (by omega) Y,ahg,Uc (L:=0) O hlen,ahg,Nn _ (by omega) Y,ahg,MT Y hlen (fun t U=>(O t U).1) Z hs,ahg,UB Y hlen Z hs,ahg];simp only;rw[h1,ahg]
end Go.Proofs.YtoioidmblipblaaGreat.P
namespace Go.Proofs.YtoioidmblipblaaGreat.P
open Go.RowKit
set_option maxRecDepth 100000
theorem ach:tl=some true:=by kernel_rfl
section
variable {N:Nat} {tk:List Tk} {r:Nat->Int}
end
def mo:List Rat->Rat
 | []=>0
 | q::l=>q+mo l
theorem OO (a b:List Rat):mo (a++b)=mo a+mo b:=by
 induction a with
 | nil=>rw[ahq,mo,Rat.zero_add]
 | cons q a O=>rw[ahA,mo,mo,O];grind
theorem Rt {K:Nat} {l:List Rat} (h:∀q∈l,LF q<=K):LF (mo l)<=1+l.length*(K+1):=by
 induction l with
 | nil=>simp only[mo];exact afF (IL (n:=0) (by decide)) (by omega)
 | cons q l O =>
  have h1:=h q (ahd ..);have h2:=O fun x U=>h x (ahe _ U);have h3:=IK q (mo l);simp only[mo,List.length_cons];rw[agC];omega
theorem Ui {a b:Rat} : Uh a b=0↔a=b:=by
 unfold Uh
 by_cases h1:a<b
 ·rw[if_pos h1];constructor
  ·intro h;cases h
  ·intro h;grind
 ·rw[if_neg h1]
  by_cases h2:b<a
  ·rw[if_pos h2];constructor
   ·intro h;cases h
   ·intro h;grind
  ·rw[if_neg h2];constructor
   ·intro _;grind
   ·intro _;rfl
def vr (l:List aw):Prop:=∃O:List Rat,l=O.map fA∧(∀q∈O,0<=q)∧mo O=1
theorem aaN {a b:Rat} (h:LF a+LF b+1<=gg):nO (fA a) (fA b)=some (fA (a+b)):=by
 unfold nO;rw[aaA h];rfl
theorem Zm {l:List aw} (hl:l.length<=100) (hs:∀f∈l,f.cD.aa.length<=6∧f.cw.aa.length<=6):∃b,nX l=some b∧(b=true↔vr l):=by
 have an:gg=4398046511104:=rfl;have Z:iZ 0=some (fA 0):=aaC (n:=0) (by decide);unfold nX;rw[Z,ahg];obtain⟨q,h1,h2⟩:=eQ (body:=nP l)
  (fun i st=>∃O:List Rat,l.take i=O.map fA∧(∀q∈O,0<=q∧LF q<=6)∧st=((i:Int),(fA (mo O)).cD.ah,(fA (mo O)).cD.aa,(fA (mo O)).cw.ah,(fA (mo O)).cw.aa)) l.length
  (fun q=>(q=.inr false∧¬vr l)∨∃O:List Rat,l=O.map fA∧(∀q∈O,0<=q∧LF q<=6)∧q=.inl ((fA (mo O)).cD.ah,(fA (mo O)).cD.aa,(fA (mo O)).cw.ah,(fA (mo O)).cw.aa))
  (s:=(0,(fA 0).cD.ah,(fA 0).cD.aa,(fA 0).cw.ah,(fA 0).cw.aa)) ⟨[],rfl,fun q Y=>by simp at Y,rfl⟩ (mN (by omega)) (by
   rintro i _ hi ⟨O,ht,Y,rfl⟩;simp only[nP];have ao:O.length=i:=by
    have:=congrArg List.length ht;simp only[afW,af7]at this;omega
   by_cases X:i<l.length
   ·have hg:l[i]? = some l[i]:=afQ X;have hf:=hs _ (afP X);have ae:l.take (i+1)=l.take i++[l[i]]:=aih X;have U:l[i]∈l:=afP X;generalize l[i]=f at hg hf ae U;rw[if_pos (by simpa using X),bU hg,ahg,BA ⟨by unfold qN;omega,by unfold qN;omega⟩,ahg];cases ab:okF f with
    | false =>
     right;refine⟨_,rfl,.inl ⟨rfl,?_⟩⟩;rintro⟨ag,h1,_,_⟩;rw[h1]at U;obtain⟨q,_,rfl⟩:=afC.1 U;rw[Qm]at ab;cases ab
    | true =>
     obtain⟨q,rfl⟩:=Bd.1 ab;have ai:LF q<=6:=A4 hf.1 hf.2;simp only[ag8,agd,if_false];rw[BB (by omega),ahg]
     by_cases hneg:q<0
     ·right;refine⟨_,by rw[if_pos (decide_eq_true (uG.2 hneg))],.inl ⟨rfl,?_⟩⟩;rintro⟨ag,h1,h2,_⟩;rw[h1]at U;obtain⟨q',aj,he⟩:=afC.1 U;have:=h2 q' aj;rw[xn he]at this;grind
     ·left;refine⟨X,?_⟩;have ak:=Rt (K:=6) (l:=O) fun x hx=>(Y x hx).2;have ha:nO (fA (mo O)) (fA q)=some (fA (mo O+q)):=aaN (by omega);rw[if_neg (by rw[decide_eq_true_eq];exact fun h=>hneg (uG.1 h)),b7 (by omega)];refine⟨_,by erw [ha];rfl,O++[q],?_,?_,?_⟩
      ·rw[ae,ht,aha];rfl
      ·intro x hx;rcases agV.1 hx with h|h
       ·exact Y x h
       ·rw[af0.1 h];exact⟨by grind,ai⟩
      ·have:mo (O++[q])=mo O+q:=by rw[OO];simp only[mo];grind
       rw[this]
   ·right;have:i=l.length:=by omega
    subst this;rw[ahJ]at ht;exact⟨_,by rw[if_neg (by simp)],.inr ⟨O,ht,Y,rfl⟩⟩)
 erw [h1];rw[ahg];rcases h2 with⟨rfl,al⟩|⟨O,rfl,Y,rfl⟩
 ·exact⟨false,rfl,by simp[al]⟩
 ·have ad:iZ 1=some (fA 1):=acW;simp only[af7]at hl;have ak:=Rt (K:=6) (l:=O) fun x hx=>(Y x hx).2;have aq:LF (1:Rat)<=1:=IL (n:=1) (by decide);have hc:iu (fA (mo O)) (fA 1)=some (Uh (mo O) 1):=T6 (by omega);simp only;rw[ad,ahg];refine⟨_,by erw [hc];rfl,?_⟩;rw[beq_iff_eq,Ui];constructor
  ·intro h;exact⟨O,rfl,fun q h=>(Y q h).1,h⟩
  ·rintro⟨ag,he,_,h⟩;rw[(List.map_inj_right fun a b=>xn).1 he];exact h
def B6 (f:fJ) (i:Nat):List aw:=f.aB.map fun l=>(l[i]?).getD (aw.mk (az.mk 0 ([])) (az.mk 0 ([])))
structure Kd (f:fJ):Prop where
 srcs:f.ak.length<=100
 outs:f.aH.length<=100
 rows:f.aB.length=f.aH.length
 out:∀x∈f.aH,0<=x.bu∧x.bu<=3∧0<=x.a7
 row:∀l∈f.aB,l.length=f.ak.length
 src:∀x∈f.ak,0<=x.bu∧x.bu<=2∧0<=x.a7
 col:∀i,i<f.ak.length->vr (B6 f i)
structure p7 (f:fJ):Prop where
 srcs:f.ak.length<=5
 outs:f.aH.length<=5
 rows:f.aB.length<=8
 row:∀l∈f.aB,l.length<=8∧∀x∈l,x.cD.aa.length<=4∧x.cw.aa.length<=4
theorem Wz {f:fJ} {i:Nat} (hi:i<f.ak.length) (hr:f.aB.length=f.aH.length) (hrow:∀l∈f.aB,l.length=f.ak.length) (ho:f.aH.length<=100) :
  ∃c:List aw,ba (fZ f (i:Int)) ((0:Int),List.replicate f.aH.length (aw.mk (az.mk 0 ([])) (az.mk 0 ([]))))=some c∧f.aB.map (fun l=>l[i]?)=c.map some:=by
 have key:=fun Z O=>yh (body:=fZ f (i:Int)) f.aH (by omega)
  (fun k (c:List aw)=>c.length=f.aH.length∧∀j,j<k->(f.aB.map (fun l=>l[i]?))[j]? = some c[j]?) (fun c=>f.aB.map (fun l=>l[i]?)=c.map some) (s0:=List.replicate f.aH.length (aw.mk (az.mk 0 ([])) (az.mk 0 ([]))))
  ⟨by simp,fun j hj=>by omega⟩ Z O
 refine (key ?_ ?_)
 ·rintro k x c hx ⟨U,hc⟩;have hk:=bx hx;have Y:f.aB[k]? = some (f.aB[k]'(by omega)):=afQ _;have hl:=hrow _ (af5 Y);generalize f.aB[k]'(by omega)=l at Y hl;have X:l[i]? = some (l[i]'(by omega)):=afQ _;have aa:c[k]? = some (c[k]'(by omega)):=afQ _;refine⟨c.set k (l[i]'(by omega)),?_,?_,?_⟩;rotate_left
  ·simpa using U
  ·intro j hj
   by_cases ab:j=k
   ·subst ab;rw[afA,Y,aie (by omega)];exact congrArg some X
   ·rw[hc j (by omega),aif (by omega)]
  ·simp only[fZ];rw[if_pos (by simpa using hk),bU Y,ahg,bU X,ahg,bU aa,ahg,agF,b7 (by omega)]
 ·rintro c ⟨U,hc⟩;refine⟨_,by simp only[fZ];rw[if_neg (by simp)],?_⟩;apply ahM;intro j
  by_cases hj:j<f.aH.length
  ·rw[hc j hj,afA,afQ (by omega)];rfl
  ·rw[ahi (by simp;omega),ahi (by simp;omega)]
theorem abL {f:fJ} {i:Nat} {c:List aw} (h:f.aB.map (fun l=>l[i]?)=c.map some):c=B6 f i:=by
 have:=congrArg (List.map fun x:Option aw=>x.getD (aw.mk (az.mk 0 ([])) (az.mk 0 ([])))) h;rw[List.map_map,List.map_map]at this;have h2:c.map ((fun x:Option aw=>x.getD (aw.mk (az.mk 0 ([])) (az.mk 0 ([])))) ∘ some)=c:=by
  rw[show ((fun x:Option aw=>x.getD (aw.mk (az.mk 0 ([])) (az.mk 0 ([])))) ∘ some)=id from rfl,List.map_id]
 rw[h2]at this;exact this.symm
theorem JM {f:fJ} (hF:p7 f):∃b,iF f=some b∧(b=true↔Kd f):=by
 open Classical in
 have hs:=hF.srcs;have ho:=hF.outs;unfold iF;rw[if_neg (by simp;omega),if_neg (by simp;omega),ahg]
 by_cases hr:f.aB.length=f.aH.length
 rotate_left
 ·rw[if_pos (by simpa using fun h=>hr (by omega))];exact⟨false,rfl,by simp only[agd,false_iff];exact fun h=>hr h.rows⟩
 rw[if_neg (by simp[hr])];rw[nt f.aH (fun i x=>if (0<=x.bu∧x.bu<=3)∧0<=x.a7∧(f.aB.getD i []).length=f.ak.length then none else some false) (by omega) (fun i x X =>?_) (by simp only[jD];rw[if_neg (by simp)])];rotate_left
 ·have hi:=bx X;have hg:f.aB[i]? = some (f.aB.getD i []):=by rw[agh,afQ (by omega)];rfl
  simp only[jD];rw[if_pos (by simpa using hi),bU X,ahg,jK,ahg,b7 (by omega)]
  by_cases h1:0<=x.bu∧x.bu<=3
  ·rw[decide_eq_true h1,if_neg (by simp)]
   by_cases h2:x.a7<0
   ·rw[if_pos (by simpa using h2),if_neg (by omega)]
   ·rw[if_neg (by simpa using h2),bU hg,ahg]
    by_cases h3:(f.aB.getD i []).length=f.ak.length
    ·rw[if_neg (by rw[h3];simp),if_pos ⟨h1,by omega,h3⟩]
    ·rw[if_pos (by rw[bne_iff_ne];intro h;exact h3 (by omega)),if_neg (fun h=>h3 h.2.2)]
  ·rw[decide_eq_false h1,if_pos (by simp),if_neg (by omega)]
 rw[ahg];cases aa:dJ (fun (i:Nat) (x:sr)=>if (0<=x.bu∧x.bu<=3)∧0<=x.a7∧(f.aB.getD i []).length=f.ak.length then none else some false) 0 f.aH with
 | some q =>
  obtain⟨j,x,h1,h2,_⟩:=di aa;rw[agt]at h2;have U:=bx h1;split at h2
  ·cases h2
  ·rename_i O;cases h2;refine⟨false,rfl,?_⟩;simp only[agd,false_iff];intro hQ;have a1:=hQ.out x (af5 h1);have hg:f.aB[j]? = some (f.aB.getD j []):=by rw[agh,afQ (by omega)];rfl
   exact O ⟨⟨a1.1,a1.2.1⟩,a1.2.2,hQ.row _ (af5 hg)⟩
 | none =>
  have Y:∀(j:Nat) x,f.aH[j]? = some x->(0<=x.bu∧x.bu<=3)∧0<=x.a7∧(f.aB.getD j []).length=f.ak.length:=fun j x h=>by
   have:=cq.1 aa j x h;rw[agt]at this;split at this
   ·assumption
   ·cases this
  have hrow:∀l∈f.aB,l.length=f.ak.length:=fun l hl=>by
   obtain⟨j,U,rfl⟩:=List.getElem_of_mem hl;have h:=(Y j _ (afQ (by omega))).2.2;rw[agh,afQ U]at h;exact h
  simp only;rw[nt f.ak (fun i x=>if (0<=x.bu∧x.bu<=2)∧0<=x.a7∧vr (B6 f i) then none else some false) (by omega) (fun i x X =>?_) (by simp only[jE];rw[if_neg (by simp)])];rotate_left
  ·have hi:=bx X;obtain⟨c,c1,c2⟩:=Wz hi hr hrow (by omega);obtain rfl:=abL c2;obtain⟨b,b1,b2⟩:=Zm (l:=B6 f i) (by unfold B6;rw[af7];omega) (fun y hy=>by
    unfold B6 at hy;obtain⟨l,hl,rfl⟩:=afC.1 hy;have h1:=(hF.row l hl).2;cases hg:l[i]? with
    | none=>simp
    | some z =>
     have:=h1 z (af5 hg);simp only[Option.getD_some];omega)
   simp only[jE];rw[if_pos (by simpa using hi),bU X,ahg,Nn _ (by omega) (by omega),ahg,c1,ahg,jK,ahg,b7 (by omega)]
   by_cases h1:0<=x.bu∧x.bu<=2
   ·rw[decide_eq_true h1,if_neg (by simp)]
    by_cases h2:x.a7<0
    ·rw[if_pos (by simpa using h2),if_neg (by omega)]
    ·rw[if_neg (by simpa using h2),b1,ahg]
     by_cases h3:vr (B6 f i)
     ·rw[b2.2 h3,if_neg (by simp),if_pos ⟨h1,by omega,h3⟩]
     ·have:b=false:=by cases b with
       | false=>rfl
       | true=>exact absurd (b2.1 rfl) h3
      rw[this,if_pos (by simp),if_neg (fun h=>h3 h.2.2)]
   ·rw[decide_eq_false h1,if_pos (by simp),if_neg (fun h=>h1 h.1)]
  rw[ahg];cases ab:dJ (fun (i:Nat) (x:gn)=>if (0<=x.bu∧x.bu<=2)∧0<=x.a7∧vr (B6 f i) then none else some false) 0 f.ak with
  | some q =>
   obtain⟨j,x,h1,h2,_⟩:=di ab;rw[agt]at h2;have U:=bx h1;split at h2
   ·cases h2
   ·rename_i O;cases h2;refine⟨false,rfl,?_⟩;simp only[agd,false_iff];intro hQ;have a1:=hQ.src x (af5 h1);exact O ⟨⟨a1.1,a1.2.1⟩,a1.2.2,hQ.col j U⟩
  | none =>
   have Z:∀(j:Nat) x,f.ak[j]? = some x->(0<=x.bu∧x.bu<=2)∧0<=x.a7∧vr (B6 f j):=fun j x h=>by
    have:=cq.1 ab j x h;rw[agt]at this;split at this
    ·assumption
    ·cases this
   refine⟨true,rfl,?_⟩;simp only[true_iff];exact⟨by omega,by omega,hr,fun x X=>by
    obtain⟨j,U⟩:=afZ X;have:=Y j x U;exact⟨this.1.1,this.1.2,this.2.1⟩,hrow,fun x X=>by
    obtain⟨j,U⟩:=afZ X;have:=Z j x U;exact⟨this.1.1,this.1.2,this.2.1⟩,fun j U=>(Z j _ (afQ U)).2.2⟩
def zf (n:Nat):List Int:=(List.range n).map fun (i:Nat)=>(i:Int)
theorem OU {n i:Nat} (h:i<n):(zf n)[i]? = some (i:Int):=eS (fun (i:Nat)=>(i:Int)) h
theorem EK (n:Nat):(zf n).length=n:=U0 _
theorem OV (n:Nat):(zf n).Pairwise (fun x y=>x<=y):=by
 unfold zf;rw[ahN];exact (ahn (n:=n)).imp fun h=>by omega
theorem Et (l:List Int):(nw l).Perm l:=List.mergeSort_perm l _
theorem JR (l:List Int):(nw l).Pairwise (fun x y=>x<=y):=by
 have:=List.pairwise_mergeSort (le:=fun x y:Int=>decide (x<=y)) (fun a b c h1 h2=>by simp only[decide_eq_true_eq]at *;omega) (fun a b=>by simp only[ahh,decide_eq_true_eq];omega) l;exact this.imp fun h=>by simpa using h
theorem U8:∀ {l m:List Int},l.Perm m->l.Pairwise (fun x y=>x<=y)->m.Pairwise (fun x y=>x<=y)->l=m:=fun O h1 h2=>List.Perm.eq_of_pairwise (le:=fun x y:Int=>x<=y) (fun a b _ _ h1 h2=>by omega) h1 h2 O
theorem DD {l:List Int} (hl:l.length<=100) (n:Nat):∃b,jd l (n:Int)=some b∧(b=true↔l.Perm (zf n)):=by
 unfold jd mE cy J4 Bm;rw[ahg,if_pos (by omega),ahg];have aa:=nY l;have O:l.Perm (zf n)↔nw l=zf n:=⟨fun h=>U8 ((Et l).trans h) (JR l) (OV n),fun h=>h ▸ (Et l).symm⟩;rw[O];rw[nt (nw l) (fun i x=>if (i:Int)=x then none else some false) (by omega) (fun i x Z =>?_) (by simp only[lp];rw[if_neg (by simp)])];rotate_left
 ·have hi:=bx Z;simp only[lp];rw[if_pos (by simpa using hi),bU Z,ahg,b7 (by omega)]
  by_cases h:(i:Int)=x
  ·rw[if_neg (by simp[h]),if_pos h]
  ·rw[if_pos (by simpa using h),if_neg h]
 rw[ahg];cases hf:dJ (fun (i:Nat) (x:Int)=>if (i:Int)=x then none else some false) 0 (nw l) with
 | some q =>
  obtain⟨j,x,h1,h2,_⟩:=di hf;rw[agt]at h2;split at h2
  ·cases h2
  ·rename_i U;cases h2;refine⟨false,rfl,?_⟩;simp only[agd,false_iff];intro he;rw[he]at h1;have Y:=bx h1;rw[EK]at Y;rw[OU Y]at h1;exact U (Option.some.inj h1)
 | none =>
  have X:∀(j:Nat) x,(nw l)[j]? = some x->(j:Int)=x:=fun j x h=>by
   have:=cq.1 hf j x h;rw[agt]at this;split at this
   ·assumption
   ·cases this
  refine⟨_,rfl,?_⟩;rw[beq_iff_eq];constructor
  ·intro h;apply ahM;intro j
   by_cases Y:j<n
   ·have hg:(nw l)[j]? = some ((nw l)[j]'(by omega)):=afQ _;rw[OU Y,hg,<- X j _ hg]
   ·rw[ahi (by omega),ahi (by rw[EK];omega)]
  ·intro h;rw[h,EK]
structure uP (m:bV) (ports:Nat):Prop where
 flow:Kd m.au
 takes:((m.au.ak.filter fun x=>x.bu==1).map (·.a7)).Perm (zf m.aZ.length)
 gives:((m.au.aH.filter fun x=>x.bu==0).map (·.a7)).Perm (zf m.aA.length)
 uses:∀u∈m.aZ,(0<=u.ck∧u.ck<ports)∧1<=u.aL∧u.aL<=1099511627776
 ports:∀p∈m.aA,0<=p∧p<(ports:Int)
theorem OP {m:bV} (h:m.au.ak.length<=100):ba (kK m) ((0:Int),[])=some ((m.au.ak.filter fun x=>x.bu==1).map (·.a7)):=by
 have key:=fun U O=>yh (body:=kK m) m.au.ak (by omega) (fun i (l:List Int)=>l=((m.au.ak.take i).filter fun x=>x.bu==1).map (·.a7)) (fun l=>l=(m.au.ak.filter fun x=>x.bu==1).map (·.a7)) (s0:=[]) rfl U O;refine (key ?_ ?_).elim fun x ⟨h1,hx⟩=>hx ▸ h1
 ·rintro i x _ hx rfl;have hi:=bx hx;have X:m.au.ak.take (i+1)=m.au.ak.take i++[x]:=by
   obtain⟨Y,he⟩:=af6.1 hx;rw[aih Y,he]
  have Z:=aij (fun x:gn=>x.bu==1) (m.au.ak.take i);rw[afW]at Z;refine⟨_,?_,rfl⟩;simp only[kK];rw[if_pos (by simpa using hi),bU hx,ahg,b7 (by omega),X,aik]
  by_cases hk:x.bu=1
  ·rw[if_pos (by simpa using hk),IS (by rw[af7];simp only[List.length_cons,List.length_nil];omega),ahg,ail (by simpa using hk),aha];rfl
  ·rw[if_neg (by simpa using hk),aim (by simpa using hk)];simp
 ·rintro _ rfl;refine⟨_,?_,rfl⟩;simp only[kK];rw[if_neg (by simp),ahJ]
theorem Mi {m:bV} (h:m.au.aH.length<=100):ba (kL m) ((0:Int),[])=some ((m.au.aH.filter fun x=>x.bu==0).map (·.a7)):=by
 have key:=fun U O=>yh (body:=kL m) m.au.aH (by omega) (fun i (l:List Int)=>l=((m.au.aH.take i).filter fun x=>x.bu==0).map (·.a7)) (fun l=>l=(m.au.aH.filter fun x=>x.bu==0).map (·.a7)) (s0:=[]) rfl U O;refine (key ?_ ?_).elim fun x ⟨h1,hx⟩=>hx ▸ h1
 ·rintro i x _ hx rfl;have hi:=bx hx;have X:m.au.aH.take (i+1)=m.au.aH.take i++[x]:=by
   obtain⟨Y,he⟩:=af6.1 hx;rw[aih Y,he]
  have Z:=aij (fun x:sr=>x.bu==0) (m.au.aH.take i);rw[afW]at Z;refine⟨_,?_,rfl⟩;simp only[kL];rw[if_pos (by simpa using hi),bU hx,ahg,b7 (by omega),X,aik]
  by_cases hk:x.bu=0
  ·rw[if_pos (by simpa using hk),IS (by rw[af7];simp only[List.length_cons,List.length_nil];omega),ahg,ail (by simpa using hk),aha];rfl
  ·rw[if_neg (by simpa using hk),aim (by simpa using hk)];simp
 ·rintro _ rfl;refine⟨_,?_,rfl⟩;simp only[kL];rw[if_neg (by simp),ahJ]
theorem ab7 (u:gN) {ports:Nat} (O:ports<=2000):∃b,mf u (ports:Int)=some b∧(b=false↔(0<=u.ck∧u.ck<ports)∧1<=u.aL∧u.aL<=1099511627776):=by
 unfold mf;rw[jK,ahg,jn (by omega)]
 by_cases h1:0<=u.ck∧u.ck<=(ports:Int)-1
 ·rw[decide_eq_true h1,if_neg (by simp),jK,ahg];refine⟨_,rfl,?_⟩
  by_cases h2:1<=u.aL∧u.aL<=1099511627776
  ·rw[decide_eq_true h2];simp;omega
  ·rw[decide_eq_false h2];simp;omega
 ·rw[decide_eq_false h1,if_pos (by simp)];exact⟨true,rfl,by simp;omega⟩
theorem abR (p:Int) {ports:Nat} (O:ports<=2000):∃b,mg p (ports:Int)=some b∧(b=false↔0<=p∧p<ports):=by
 unfold mg;rw[jK,ahg,jn (by omega)];refine⟨_,rfl,?_⟩
 by_cases h1:0<=p∧p<=(ports:Int)-1
 ·rw[decide_eq_true h1];simp;omega
 ·rw[decide_eq_false h1];simp;omega
theorem aaa {l:List gN} (hl:l.length<=100) {ports:Nat} (Y:ports<=2000):∃b,bR l (ports:Int)=some b∧(b=false↔∀u∈l,(0<=u.ck∧u.ck<ports)∧1<=u.aL∧u.aL<=1099511627776):=by
 unfold bR cA;rw[nt l (fun i u=>if (0<=u.ck∧u.ck<ports)∧1<=u.aL∧u.aL<=1099511627776 then none else some (i:Int)) (by omega) (fun i x U =>?_) (by simp only[cU];rw[if_neg (by simp)])];rotate_left
 ·have Z:=bx U;obtain⟨b,b1,O⟩:=ab7 x Y;simp only[cU];rw[if_pos (by simpa using Z),bU U,ahg,b1,ahg,b7 (by omega)];cases b with
  | false=>rw[if_pos (O.1 rfl)];rfl
  | true =>
   simp only[aio,false_iff]at O;simp only[if_true];rw[if_neg O]
 cases X:dJ (fun (i:Nat) (u:gN)=>if (0<=u.ck∧u.ck<ports)∧1<=u.aL∧u.aL<=1099511627776 then none else some (i:Int)) 0 l with
 | none =>
  refine⟨false,rfl,?_⟩;simp only[true_iff];intro u hu;obtain⟨j,hj⟩:=afZ hu;have:=cq.1 X j u hj;split at this
  ·assumption
  ·cases this
 | some q =>
  obtain⟨j,x,h1,h2,_⟩:=di X;split at h2
  ·cases h2
  ·rename_i hbad;cases h2;refine⟨true,by simp,?_⟩;simp only[aio,false_iff];exact fun h=>hbad (h x (af5 h1))
theorem ZW {l:List Int} (hl:l.length<=100) {ports:Nat} (Y:ports<=2000):∃b,bS l (ports:Int)=some b∧(b=false↔∀p∈l,0<=p∧p<(ports:Int)):=by
 unfold bS cB;rw[nt l (fun i p=>if 0<=p∧p<(ports:Int) then none else some (i:Int)) (by omega) (fun i x U =>?_) (by simp only[cV];rw[if_neg (by simp)])];rotate_left
 ·have Z:=bx U;obtain⟨b,b1,O⟩:=abR x Y;simp only[cV];rw[if_pos (by simpa using Z),bU U,ahg,b1,ahg,b7 (by omega)];cases b with
  | false=>rw[if_pos (O.1 rfl)];rfl
  | true =>
   simp only[aio,false_iff]at O;simp only[if_true];rw[if_neg O]
 cases X:dJ (fun (i:Nat) (p:Int)=>if 0<=p∧p<(ports:Int) then none else some (i:Int)) 0 l with
 | none =>
  refine⟨false,rfl,?_⟩;simp only[true_iff];intro u hu;obtain⟨j,hj⟩:=afZ hu;have:=cq.1 X j u hj;split at this
  ·assumption
  ·cases this
 | some q =>
  obtain⟨j,x,h1,h2,_⟩:=di X;split at h2
  ·cases h2
  ·rename_i hbad;cases h2;refine⟨true,by simp,?_⟩;simp only[aio,false_iff];exact fun h=>hbad (h x (af5 h1))
theorem ZX {m:bV} {ports:Nat} (U:ports<=2000) (O:p7 m.au) (hu:m.aZ.length<=6) (aa:m.aA.length<=6):∃b,qt m (ports:Int)=some b∧(b=true↔uP m ports):=by
 have hs:=O.srcs;have ho:=O.outs;obtain⟨b1,a1,c1⟩:=JM O;unfold qt;rw[a1,ahg];cases b1 with
 | false=>exact⟨false,rfl,by simp only[agd,false_iff];exact fun h=>by have:=c1.2 h.flow;cases this⟩
 | true =>
 have hQ:=c1.1 rfl;have ab:=aij (fun x:gn=>x.bu==1) m.au.ak;have ad:=aij (fun x:sr=>x.bu==0) m.au.aH;obtain⟨b2,a2,c2⟩:=DD (l:=(m.au.ak.filter fun x=>x.bu==1).map (·.a7)) (by rw[af7];omega) m.aZ.length;obtain⟨b3,a3,X⟩:=DD (l:=(m.au.aH.filter fun x=>x.bu==0).map (·.a7)) (by rw[af7];omega) m.aA.length;obtain⟨b4,a4,Y⟩:=aaa (l:=m.aZ) (by omega) U;obtain⟨b5,a5,Z⟩:=ZW (l:=m.aA) (by omega) U;simp only[ag8,agd,if_false];rw[OP (by omega),ahg,Mi (by omega),ahg,a2,ahg];cases b2 with
 | false=>exact⟨false,rfl,by simp only[agd,false_iff];exact fun h=>by have:=c2.2 h.takes;cases this⟩
 | true =>
 simp only[if_true];rw[a3,ahg];cases b3 with
 | false=>exact⟨false,rfl,by simp only[agd,false_iff];exact fun h=>by have:=X.2 h.gives;cases this⟩
 | true =>
 simp only[if_true];rw[a4,ahg];cases b4 with
 | true=>exact⟨false,rfl,by simp only[agd,false_iff];exact fun h=>by have:=Y.2 h.uses;cases this⟩
 | false =>
 simp only[ahG,if_true];rw[a5,ahg];refine⟨_,rfl,?_⟩;cases b5 with
 | true=>simp only[ag8,agd,false_iff];exact fun h=>by have:=Z.2 h.ports;cases this
 | false=>simp only[ahG,true_iff];exact⟨hQ,c2.1 rfl,X.1 rfl,Y.1 rfl,Z.1 rfl⟩
theorem abS {l:List aw} (hl:l.length<=8):(ba (dX l) 0=some (.inl ())∧∀x∈l,x.cD.aa.length<=4∧x.cw.aa.length<=4)∨ba (dX l) 0=some (.inr false):=by
 have U:=nt l (body:=dX l) (fun (i:Nat) (x:aw)=>if (x.cD.aa.length:Int)<=4∧(x.cw.aa.length:Int)<=4 then none else some false) (by omega) (fun i x O=>by
  have Y:=bx O;simp only[dX];rw[if_pos (by simpa using Y),bU O,ahg,acT,ahg,b7 (by omega)]
  by_cases h:(x.cD.aa.length:Int)<=4∧(x.cw.aa.length:Int)<=4
  ·rw[decide_eq_true h,if_neg (by simp),if_pos h]
  ·rw[decide_eq_false h,if_pos (by simp),if_neg h]) (by simp only[dX];rw[if_neg (by simp)])
 rw[U];cases X:dJ (fun (i:Nat) (x:aw)=>if (x.cD.aa.length:Int)<=4∧(x.cw.aa.length:Int)<=4 then none else some false) 0 l with
 | none =>
  refine .inl ⟨rfl,fun x O =>?_⟩;obtain⟨j,Z⟩:=afZ O;have:=cq.1 X j x Z;split at this
  ·omega
  ·cases this
 | some q =>
  obtain⟨j,x,_,h2,_⟩:=di X;split at h2
  ·cases h2
  ·cases h2;exact .inr rfl
theorem Uv (f:fJ):∃b,ji f=some b∧(b=true->p7 f):=by
 unfold ji
 by_cases h1:f.ak.length<=5
 rotate_left
 ·exact⟨false,by rw[if_pos (by simp;omega)];rfl,fun h=>by cases h⟩
 by_cases h2:f.aH.length<=5
 rotate_left
 ·exact⟨false,by rw[if_neg (by simp;omega),if_pos (by simp;omega)];rfl,fun h=>by cases h⟩
 by_cases h3:f.aB.length<=8
 rotate_left
 ·exact⟨false,by rw[if_neg (by simp;omega),if_neg (by simp;omega),decide_eq_true (by omega)];rfl,fun h=>by cases h⟩
 rw[if_neg (by simp;omega),if_neg (by simp;omega),decide_eq_false (by omega),ahg,if_neg (by simp)]
 open Classical in
 rw[nt f.aB (fun i l=>if l.length<=8∧∀x∈l,x.cD.aa.length<=4∧x.cw.aa.length<=4 then none else some false) (by omega) (fun i l U =>?_) (by simp only[ly];rw[if_neg (by simp)])];rotate_left
 ·have Y:=bx U;simp only[ly];rw[if_pos (by simpa using Y),bU U,ahg,b7 (by omega)]
  by_cases h:l.length<=8
  ·rw[if_neg (by simp;omega)];rcases abS h with⟨X,q2⟩|X
   ·rw[X,if_pos ⟨h,q2⟩];rfl
   ·rw[X]
    by_cases hs:∀x∈l,x.cD.aa.length<=4∧x.cw.aa.length<=4
    ·exfalso;have O:=nt l (body:=dX l) (fun (i:Nat) (x:aw)=>(none:Option Bool)) (by omega) (fun i x U=>by
      have Y:=bx U;have:=hs x (af5 U);simp only[dX];rw[if_pos (by simpa using Y),bU U,ahg,acT,ahg,b7 (by omega),decide_eq_true (by omega),if_neg (by simp)]) (by simp only[dX];rw[if_neg (by simp)])
     rw[X]at O;have Z:∀(l:List aw) i,dJ (fun _ _=>(none:Option Bool)) i l=none:=by
      intro l
      induction l with
      | nil=>intro i;rfl
      | cons a l ih=>intro i;simp only[dJ];exact ih _
     rw[Z]at O;cases O
    ·rw[if_neg (fun h=>hs h.2)];rfl
  ·rw[if_pos (by simp;omega),if_neg (fun h'=>h h'.1)]
 rw[ahg];cases hf:dJ (fun (i:Nat) (l:List aw)=>if l.length<=8∧∀x∈l,x.cD.aa.length<=4∧x.cw.aa.length<=4 then none else some false) 0 f.aB with
 | none =>
  refine⟨true,rfl,fun _=>⟨h1,h2,h3,fun l hl =>?_⟩⟩;obtain⟨j,hj⟩:=afZ hl;have:=cq.1 hf j l hj;split at this
  ·assumption
  ·cases this
 | some q =>
  obtain⟨j,x,_,h2,_⟩:=di hf;split at h2
  ·cases h2
  ·cases h2;exact⟨false,rfl,fun h=>by cases h⟩
structure Pd (w:bA):Prop where
 given:w.ax.length<=6
 mills:w.ao.length<=5
 mill:∀m∈w.ao,p7 m.au∧m.aZ.length<=6∧m.aA.length<=6
theorem Xd (w:bA):∃b,uB w=some b∧(b=true->Pd w):=by
 unfold uB
 by_cases h1:w.ax.length<=6
 rotate_left
 ·exact⟨false,by rw[if_pos (by simp;omega)];rfl,fun h=>by cases h⟩
 by_cases h2:w.ao.length<=5
 rotate_left
 ·exact⟨false,by rw[if_neg (by simp;omega),decide_eq_true (by omega)];rfl,fun h=>by cases h⟩
 rw[if_neg (by simp;omega),decide_eq_false (by omega),ahg,if_neg (by simp)];have O:∀m:bV,∃b,ji m.au=some b∧(b=true->p7 m.au):=fun m=>Uv m.au;obtain⟨B,O⟩:=Classical.axiomOfChoice O;rw[nt w.ao (fun i m=>if B m=true∧m.aZ.length<=6∧m.aA.length<=6 then none else some false) (by omega) (fun i m U =>?_) (by simp only[rI];rw[if_neg (by simp)])];rotate_left
 ·have Y:=bx U;simp only[rI];rw[if_pos (by simpa using Y),bU U,ahg,(O m).1,ahg,b7 (by omega)];cases hb:B m with
  | false=>rfl
  | true =>
   simp only[ag8,agd,if_false,true_and]
   by_cases q1:m.aZ.length<=6
   ·rw[if_neg (by simp;omega)]
    by_cases q2:m.aA.length<=6
    ·rw[if_neg (by simp;omega),if_pos ⟨q1,q2⟩]
    ·rw[if_pos (by simp;omega),if_neg (fun h=>q2 h.2)]
   ·rw[if_pos (by simp;omega),if_neg (fun h=>q1 h.1)]
 rw[ahg];cases X:dJ (fun (i:Nat) (m:bV)=>if B m=true∧m.aZ.length<=6∧m.aA.length<=6 then none else some false) 0 w.ao with
 | none =>
  refine⟨true,rfl,fun _=>⟨h1,h2,fun m hm =>?_⟩⟩;obtain⟨j,Z⟩:=afZ hm;have:=cq.1 X j m Z;split at this
  ·rename_i h;exact⟨(O m).2 h.1,h.2⟩
  ·cases this
 | some q =>
  obtain⟨j,x,_,h2,_⟩:=di X;split at h2
  ·cases h2
  ·cases h2;exact⟨false,rfl,fun h=>by cases h⟩
def PL (w:bA):Option (Int×Int):=dJ (fun (i:Nat) (n:Int)=>if 1<=n∧n<=1099511627776 then none else some ((3:Int),(i:Int))) 0 w.ax
theorem Qd {w:bA} (h:w.ax.length<=2000):ba (ju w) 0=some (match PL w with|none =>.inl ()|some r =>.inr r):=by
 refine Eq.trans (nt w.ax (body:=ju w) (fun (i:Nat) (n:Int)=>if 1<=n∧n<=1099511627776 then none else some ((3:Int),(i:Int))) (by omega) (fun i x O =>?_) ?_) ?_
 ·have U:=bx O;simp only[ju];rw[if_pos (by simpa using U),bU O,ahg,jK,ahg,b7 (by omega)]
  by_cases h:1<=x∧x<=1099511627776
  ·rw[decide_eq_true h,if_neg (by simp),if_pos h]
  ·rw[decide_eq_false h,if_pos (by simp),if_neg h]
 ·simp only[ju];rw[if_neg (by simp)]
 ·unfold PL;cases dJ (fun (i:Nat) (n:Int)=>if 1<=n∧n<=1099511627776 then none else some ((3:Int),(i:Int))) 0 w.ax<;>rfl
theorem Q6 {m:bV} {N:Nat} (hN:N<=2000) (hp:m.aA.length<=6) (Z:∀p∈m.aA,0<=p∧p<(N:Int)) (t:Nat->Int) (ht:∀q,q<N->0<=t q∧t q<=1000000) :
  ba (jv m) ((0:Int),(List.range N).map t)=some ((List.range N).map fun q=>t q+(m.aA.count (q:Int):Int)):=by
 have key:=fun U O=>yh (body:=jv m) m.aA (by omega) (fun i (l:List Int)=>l=(List.range N).map fun q=>t q+((m.aA.take i).count (q:Int):Int)) (fun l=>l=(List.range N).map fun q=>t q+(m.aA.count (q:Int):Int)) (s0:=(List.range N).map t)
  (ahc fun q _=>by simp) U O
 refine (key ?_ ?_).elim fun x ⟨h1,hx⟩=>hx ▸ h1
 ·rintro i p _ hx rfl;have hi:=bx hx;obtain⟨h1,h2⟩:=Z p (af5 hx);obtain⟨k,rfl⟩:∃k:Nat,p=k:=⟨p.toNat,by omega⟩;have hk:k<N:=by omega
  have hc:∀q:Nat,(m.aA.take i).count (q:Int)<=6:=fun q=>afF (List.count_le_length ..) (by rw[afW];omega);have aa:=hc k;have X:m.aA.take (i+1)=m.aA.take i++[(k:Int)]:=by
   obtain⟨Y,he⟩:=af6.1 hx;rw[aih Y,he]
  have hb:=ht k hk;refine⟨_,?_,rfl⟩;simp only[jv];rw[if_pos (by simpa using hi),bU hx,ahg,bU (eS _ hk),ahg,agF,ml,b7 (by omega),jn (by omega),X];have:(fun j=>if j=k then t k+((m.aA.take i).count (k:Int):Int)+1 else t j+((m.aA.take i).count (j:Int):Int))=fun q=>t q+((m.aA.take i++[(k:Int)]).count (q:Int):Int):=funext fun q=>by
   rw[List.count_append]
   by_cases hq:q=k
   ·subst hq;rw[if_pos rfl];simp;omega
   ·rw[if_neg hq,List.count_cons_of_ne (by simpa using fun h=>hq (by omega))];simp
  rw[this]
 ·rintro _ rfl;refine⟨_,?_,rfl⟩;simp only[jv];rw[if_neg (by simp),ahJ]
def Fu (q:Nat) (x:Int) (u:gN):Int:=if u.ck=(q:Int) then (if 1099511627777<x+u.aL then 1099511627777 else x+u.aL) else x
def kQ (q:Nat) (l:List gN) (x:Int):Int:=l.foldl (Fu q) x
theorem EL {q:Nat} {x:Int} {u:gN} (O:0<=x∧x<=1099511627777) (hu:1<=u.aL∧u.aL<=1099511627776):0<=Fu q x u∧Fu q x u<=1099511627777:=by
 unfold Fu
 repeat' split
 all_goals omega
theorem pK {q:Nat} : ∀ {l:List gN} {x:Int},(0<=x∧x<=1099511627777)->(∀u∈l,1<=u.aL∧u.aL<=1099511627776)->0<=kQ q l x∧kQ q l x<=1099511627777
 | [],_,hx,_=>hx
 | u::l,x,hx,h=>pK (l:=l) (x:=Fu q x u) (EL hx (h u (ahd ..))) fun v O=>h v (ahe _ O)
theorem Vo {m:bV} {N:Nat} (hN:N<=2000) (hp:m.aZ.length<=6) (hr:∀u∈m.aZ,(0<=u.ck∧u.ck<(N:Int))∧1<=u.aL∧u.aL<=1099511627776) (t:Nat->Int) (ht:∀q,q<N->0<=t q∧t q<=1099511627777) :
  ba (jw m) ((0:Int),(List.range N).map t)=some ((List.range N).map fun q=>kQ q m.aZ (t q)):=by
 have key:=fun X U=>yh (body:=jw m) m.aZ (by omega) (fun i (l:List Int)=>l=(List.range N).map fun q=>kQ q (m.aZ.take i) (t q)) (fun l=>l=(List.range N).map fun q=>kQ q m.aZ (t q)) (s0:=(List.range N).map t)
  (ahc fun q _=>by simp[kQ]) X U
 refine (key ?_ ?_).elim fun x ⟨h1,hx⟩=>hx ▸ h1
 ·rintro i u _ hx rfl;have hi:=bx hx;obtain⟨⟨h1,h2⟩,h3⟩:=hr u (af5 hx);obtain⟨k,O⟩:∃k:Nat,u.ck=k:=⟨u.ck.toNat,by omega⟩;have hk:k<N:=by omega
  have Y:m.aZ.take (i+1)=m.aZ.take i++[u]:=by
   obtain⟨Z,he⟩:=af6.1 hx;rw[aih Z,he]
  have hb:=pK (q:=k) (l:=m.aZ.take i) (ht k hk) fun v hv=>(hr v (ago hv)).2;refine⟨_,?_,rfl⟩;simp only[jw];rw[if_pos (by simpa using hi),bU hx,ahg,O,bU (eS _ hk),ahg,agF,ml,b7 (by omega),jn (by omega),Y];have:(fun j=>if j=k then (if 1099511627777<kQ k (m.aZ.take i) (t k)+u.aL then 1099511627777 else kQ k (m.aZ.take i) (t k)+u.aL) else kQ j (m.aZ.take i) (t j))=fun q=>kQ q (m.aZ.take i++[u]) (t q):=funext fun q=>by
   unfold kQ;rw[aip];simp only[List.foldl_cons,List.foldl_nil]
   by_cases hq:q=k
   ·subst hq;rw[if_pos rfl]
    conv=>rhs;rw[Fu]
    rw[if_pos O]
   ·rw[if_neg hq]
    conv=>rhs;rw[Fu]
    rw[if_neg (by rw[O];omega)]
  rw[this]
 ·rintro _ rfl;refine⟨_,?_,rfl⟩;simp only[jw];rw[if_neg (by simp),ahJ]
theorem GS {α ρ:Type} {st:Nat->α->Option ρ} {r:ρ} : ∀ {l:List α} {k i:Nat} {x:α},l[i]? = some x->st (k+i) x=some r->(∀j y,j<i->l[j]? = some y->st (k+j) y=none)->dJ st k l=some r
 | [],_,_,_,h,_,_=>by simp at h
 | a::l,k,0,x,h,hs,_=>by
  simp only[List.getElem?_cons_zero,afM]at h;subst h;rw[agc]at hs;simp only[dJ,hs]
 | a::l,k,i+1,x,h,hs,O=>by
  have U:=O 0 a (by omega) rfl;rw[agc]at U;simp only[dJ,U];refine GS (k:=k+1) (i:=i) (x:=x) (by simpa using h) (by rw[<- hs];congr 1;omega) fun j y Y X =>?_;have:=O (j+1) y (by omega) (by simpa using X);rw[<- this];congr 1;omega
open Classical in
def vB (N:Nat) (ms:List bV):Option (Int×Int):=dJ (fun (i:Nat) (m:bV)=>if uP m N then none else some ((1:Int),(i:Int))) 0 ms
def Iu (ms:List bV) (q:Nat):Int:=ms.foldl (fun x m=>x+(m.aA.count (q:Int):Int)) 0
def IA (ms:List bV) (q:Nat):Int:=ms.foldl (fun x m=>kQ q m.aZ x) 0
theorem Qj {w:bA} (hW:Pd w) :
  (∃r,vB w.ax.length w.ao=some r∧ba (iy w) ((0:Int),List.replicate w.ax.length 0,List.replicate w.ax.length 0)=some (.inr r)) ∨
  (vB w.ax.length w.ao=none∧(∀m∈w.ao,uP m w.ax.length)∧ba (iy w) ((0:Int),List.replicate w.ax.length 0,List.replicate w.ax.length 0)=some (.inl ((List.range w.ax.length).map (Iu w.ao),(List.range w.ax.length).map (IA w.ao)))):=by
 have hg:=hW.given;have hm:=hW.mills;have aa:List.replicate w.ax.length (0:Int)=(List.range w.ax.length).map fun _=>0:=ma (by simp) fun j hj=>by rw[List.getElem?_replicate,if_pos hj]
 obtain⟨q,h1,h2⟩:=eQ (body:=iy w)
  (fun i st=>st=((i:Int),(List.range w.ax.length).map (Iu (w.ao.take i)),(List.range w.ax.length).map (IA (w.ao.take i)))∧(∀m∈w.ao.take i,uP m w.ax.length)∧∀q,(0<=Iu (w.ao.take i) q∧Iu (w.ao.take i) q<=6*i)∧0<=IA (w.ao.take i) q∧IA (w.ao.take i) q<=1099511627777) w.ao.length
  (fun q=>(∃r,vB w.ax.length w.ao=some r∧q=.inr r)∨(vB w.ax.length w.ao=none∧(∀m∈w.ao,uP m w.ax.length)∧q=.inl ((List.range w.ax.length).map (Iu w.ao),(List.range w.ax.length).map (IA w.ao))))
  (s:=((0:Int),List.replicate w.ax.length 0,List.replicate w.ax.length 0)) ⟨by rw[aa];rfl,fun m hm=>by simp at hm,fun q=>by simp[Iu,IA]⟩ (mN (by omega)) (by
   rintro i _ hi ⟨rfl,O,hb⟩
   by_cases U:i<w.ao.length
   ·have X:w.ao[i]? = some w.ao[i]:=afQ U;have Y:w.ao.take (i+1)=w.ao.take i++[w.ao[i]]:=aih U;generalize w.ao[i]=m at X Y;obtain⟨m1,m2,m3⟩:=hW.mill m (af5 X);obtain⟨b,b1,b2⟩:=ZX (m:=m) (ports:=w.ax.length) (by omega) m1 m2 m3;simp only[iy];rw[if_pos (by simpa using U),bU X,ahg,b1,ahg];cases b with
    | false =>
     right;refine⟨_,rfl,.inl ⟨_,?_,rfl⟩⟩;unfold vB;refine GS (i:=i) (x:=m) X ?_ fun j y hj Z =>?_
     ·rw[if_neg (fun h=>by have:=b2.2 h;cases this),agt]
     ·rw[if_pos (O y (af5 (i:=j) (by rw[List.getElem?_take_of_lt hj];exact Z)))]
    | true =>
     have hQ:=b2.1 rfl;left;refine⟨U,?_⟩;have e1:∀q,Iu (w.ao.take (i+1)) q=Iu (w.ao.take i) q+(m.aA.count (q:Int):Int):=fun q=>by rw[Y];unfold Iu;rw[aip];rfl
     have e2:∀q,IA (w.ao.take (i+1)) q=kQ q m.aZ (IA (w.ao.take i) q):=fun q=>by rw[Y];unfold IA;rw[aip];rfl
     simp only[ag8,agd,if_false];rw[Q6 (by omega) m3 hQ.ports _ (fun q _=>by have:=(hb q).1;omega),ahg,Vo (by omega) m2 hQ.uses _ (fun q _=>(hb q).2),ahg,b7 (by omega)];refine⟨_,rfl,?_,fun y Z =>?_,fun q =>?_⟩
     ·rw[show Iu (w.ao.take (i+1))=fun q=>Iu (w.ao.take i) q+(m.aA.count (q:Int):Int) from funext e1,show IA (w.ao.take (i+1))=fun q=>kQ q m.aZ (IA (w.ao.take i) q) from funext e2]
     ·rw[Y]at Z;rcases agV.1 Z with h|h
      ·exact O y h
      ·rw[af0.1 h];exact hQ
     ·have hc:m.aA.count (q:Int)<=6:=afF (List.count_le_length ..) m3;have h3:=(hb q).1;rw[e1,e2];exact⟨by omega,pK (hb q).2 fun u hu=>(hQ.uses u hu).2⟩
   ·right;have:i=w.ao.length:=by omega
    subst this;rw[ahJ]at O ⊢;refine⟨_,by simp only[iy];rw[if_neg (by simp)],.inr ⟨?_,O,rfl⟩⟩;unfold vB;refine cq.2 fun j y Z =>?_;rw[if_pos (O y (af5 Z))])
 rcases h2 with⟨r,h3,rfl⟩|⟨h3,h4,rfl⟩
 ·exact .inl ⟨r,h3,h1⟩
 ·exact .inr ⟨h3,h4,h1⟩
def ZT (l:List Int):Option (Int×Int):=dJ (fun (i:Nat) (x:Int)=>if x=0 then some ((21:Int),(i:Int)) else if 1<x then some (5,(i:Int)) else none) 0 l
def ZU (w:bA) (l:List Int):Option (Int×Int):=dJ (fun (i:Nat) (x:Int)=>if w.ax.getD i 0<x then some ((25:Int),(i:Int)) else none) 0 l
theorem Q7 {l:List Int} (h:l.length<=2000):ba (jx l) 0=some (match ZT l with|none =>.inl ()|some r =>.inr r):=by
 refine Eq.trans (nt l (body:=jx l) (fun (i:Nat) (x:Int)=>if x=0 then some ((21:Int),(i:Int)) else if 1<x then some (5,(i:Int)) else none) (by omega) (fun i x U =>?_) ?_) ?_
 ·have X:=bx U;simp only[jx];rw[if_pos (by simpa using X),bU U,ahg,b7 (by omega)]
  by_cases O:x=0
  ·rw[if_pos (by simpa using O),if_pos O]
  ·rw[if_neg (by simpa using O),if_neg O]
   by_cases h1:1<x
   ·rw[if_pos (by simpa using h1),if_pos h1]
   ·rw[if_neg (by simpa using h1),if_neg h1]
 ·simp only[jx];rw[if_neg (by simp)]
 ·unfold ZT;cases dJ (fun (i:Nat) (x:Int)=>if x=0 then some ((21:Int),(i:Int)) else if 1<x then some (5,(i:Int)) else none) 0 l<;>rfl
theorem Vp {w:bA} {l:List Int} (h:l.length<=2000) (Z:l.length=w.ax.length):ba (jy w l) 0=some (match ZU w l with|none =>.inl ()|some r =>.inr r):=by
 refine Eq.trans (nt l (body:=jy w l) (fun (i:Nat) (x:Int)=>if w.ax.getD i 0<x then some ((25:Int),(i:Int)) else none) (by omega) (fun i x U =>?_) ?_) ?_
 ·have X:=bx U;have Y:w.ax[i]? = some (w.ax.getD i 0):=by rw[agh,afQ (by omega)];rfl
  simp only[jy];rw[if_pos (by simpa using X),bU U,ahg,bU Y,ahg,b7 (by omega)]
  by_cases O:w.ax.getD i 0<x
  ·rw[if_pos (decide_eq_true O),if_pos O]
  ·rw[if_neg (by rw[decide_eq_true_eq];exact O),if_neg O]
 ·simp only[jy];rw[if_neg (by simp)]
 ·unfold ZU;cases dJ (fun (i:Nat) (x:Int)=>if w.ax.getD i 0<x then some ((25:Int),(i:Int)) else none) 0 l<;>rfl
def vC (w:bA):Option (Int×Int):=(((PL w).or (vB w.ax.length w.ao)).or (ZT ((List.range w.ax.length).map (Iu w.ao)))).or (ZU w ((List.range w.ax.length).map (IA w.ao)))
theorem sD {w:bA} (O:Pd w):jt w=some ((vC w).getD (0,0)):=by
 have U:=O.given;have hm:=O.mills;unfold jt vC;rw[if_neg (by simp;omega),decide_eq_false (by omega),ahg,if_neg (by simp),Qd (by omega),ahg];cases PL w with
 | some r=>rfl
 | none =>
 simp only[Option.none_or];rw[Nn _ (by omega) (by omega),ahg];rcases Qj O with⟨r,h1,h2⟩|⟨h1,_,h2⟩
 ·rw[h2,h1];rfl
 rw[h2,h1,ahg];simp only[Option.none_or];rw[Q7 (by simp;omega),ahg];cases ZT ((List.range w.ax.length).map (Iu w.ao)) with
 | some r=>rfl
 | none =>
 simp only[Option.none_or];rw[Vp (by simp;omega) (by simp),ahg];cases ZU w ((List.range w.ax.length).map (IA w.ao))<;>rfl
section
variable {κ α:Type} [DecidableEq κ]
theorem oM {n:κ} : ∀ {m:List (κ×α)},kR m n=true↔n∈m.map (·.1)
 | []=>by simp[kR]
 | (k,v)::m=>by
  simp only[kR,afJ,afK]
  by_cases h:k=n
  ·subst h;simp
  ·have:=oM (n:=n) (m:=m);simp[h,this,Ne.symm h]
theorem yV {n:κ} {x:α} : ∀ {m:List (κ×α)},(oT m n x).map (·.1)=if kR m n=true then m.map (·.1) else m.map (·.1)++[n]
 | []=>by simp[oT,kR]
 | (k,v)::m=>by
  have O:=yV (n:=n) (x:=x) (m:=m);simp only[oT,kR]
  by_cases h:k=n
  ·subst h;simp
  ·simp only[if_neg h,afJ];rw[O];split<;>simp_all
theorem QC {n:κ} {x:α} {m:List (κ×α)} (h:(m.map (·.1)).Nodup):((oT m n x).map (·.1)).Nodup:=by
 rw[yV];split
 ·exact h
 ·rename_i hn;have hn:n∉m.map (·.1):=fun O=>hn (oM.2 O);rw[List.nodup_append];exact⟨h,by simp,fun a U b X=>by
   rw[af0.1 X];intro e;subst e;exact hn U⟩
theorem HM {z x:α} {n k:κ} : ∀ {m:List (κ×α)},ff z (oT m n x) k=if k=n then x else ff z m k
 | []=>by
  simp only[oT,ff]
  by_cases h:n=k
  ·rw[if_pos h,if_pos h.symm]
  ·rw[if_neg h,if_neg (fun e=>h e.symm)]
 | (a,v)::m=>by
  have O:=HM (z:=z) (x:=x) (n:=n) (k:=k) (m:=m);simp only[oT]
  by_cases h:a=n
  ·rw[if_pos h];simp only[ff]
   by_cases hk:a=k
   ·rw[if_pos hk,if_pos (by rw[<- hk,h])]
   ·rw[if_neg hk,if_neg (fun e=>hk (by rw[e,h])),if_neg hk]
  ·rw[if_neg h];simp only[ff]
   by_cases hk:a=k
   ·rw[if_pos hk,if_neg (fun e=>h (by rw[hk,e])),if_pos hk]
   ·rw[if_neg hk,O,if_neg hk]
theorem M9 {z:α} {k:κ} {v:α} : ∀ {m:List (κ×α)},(m.map (·.1)).Nodup->((k,v)∈m↔kR m k=true∧ff z m k=v)
 | [],_=>by simp[kR]
 | (a,x)::m,h=>by
  rw[afJ,ahl]at h;have O:=M9 (z:=z) (k:=k) (v:=v) (m:=m) h.2;simp only[kR,ff,afK,Prod.mk.injEq]
  by_cases hk:a=k
  ·subst hk;have U:(a,v)∉m:=fun hm=>h.1 (afC.2 ⟨_,hm,rfl⟩);simp[U,eq_comm]
  ·simp[hk,O,Ne.symm hk]
end
abbrev MQ:=List ((Int×Int)×Rat)
def iQ (m:MQ):List ((Int×Int)×aw):=m.map fun p=>(p.1,fA p.2)
theorem Dm (m:MQ):(iQ m).length=m.length:=af7 ..
theorem UO (m:MQ):(iQ m).map (·.1)=m.map (·.1):=by unfold iQ;rw[List.map_map];rfl
theorem Nf (m:MQ) (k:Int×Int):kR (iQ m) k=kR m k:=by
 induction m with
 | nil=>rfl
 | cons p m O =>
  obtain⟨a,v⟩:=p;rw[show iQ ((a,v)::m)=(a,fA v)::iQ m from rfl];simp only[kR,O]
theorem UP {z:aw} {m:MQ} {k:Int×Int} (h:kR m k=true):ff z (iQ m) k=fA (ff 0 m k):=by
 induction m with
 | nil=>cases h
 | cons p m O =>
  obtain⟨a,v⟩:=p;show (if a=k then fA v else ff z (iQ m) k)=fA (if a=k then v else ff 0 m k)
  by_cases hk:a=k
  ·rw[if_pos hk,if_pos hk]
  ·rw[if_neg hk,if_neg hk];exact O (by simpa [kR,hk] using h)
theorem Ng (m:MQ) (k:Int×Int) (q:Rat):oT (iQ m) k (fA q)=iQ (oT m k q):=by
 induction m with
 | nil=>rfl
 | cons p m O =>
  obtain⟨a,v⟩:=p;show (if a=k then (a,fA q)::iQ m else (a,fA v)::oT (iQ m) k (fA q))=iQ (if a=k then (a,q)::m else (a,v)::oT m k q)
  by_cases hk:a=k
  ·rw[if_pos hk,if_pos hk];rfl
  ·rw[if_neg hk,if_neg hk,O];rfl
theorem ZZ {m:MQ} {k:Int×Int} (h:kR m k=false):ff 0 m k=0:=by
 induction m with
 | nil=>rfl
 | cons p m O =>
  obtain⟨a,v⟩:=p;simp only[kR,Bool.or_eq_false_iff,beq_eq_false_iff_ne]at h;simp only[ff];rw[if_neg h.1,O h.2]
def iV (m:MQ) (c:(Int×Int)×Rat):MQ:=oT m c.1 (ff 0 m c.1+c.2)
theorem Ua (m:MQ) (c:(Int×Int)×Rat) (k:Int×Int):ff 0 (iV m c) k=ff 0 m k+(if k=c.1 then c.2 else 0):=by
 unfold iV;rw[HM]
 by_cases h:k=c.1
 ·rw[if_pos h,if_pos h,h]
 ·rw[if_neg h,if_neg h];grind
def lE (k:Int×Int):List ((Int×Int)×Rat)->Rat
 | []=>0
 | c::l=>(if k=c.1 then c.2 else 0)+lE k l
theorem yg:∀(l:List ((Int×Int)×Rat)) (m:MQ) (k:Int×Int),ff 0 (l.foldl iV m) k=ff 0 m k+lE k l
 | [],m,k=>by simp only[List.foldl_nil,lE];grind
 | c::l,m,k=>by
  rw[ags,yg l,Ua];simp only[lE];grind
theorem vD:∀(l:List ((Int×Int)×Rat)) (m:MQ),(m.map (·.1)).Nodup->((l.foldl iV m).map (·.1)).Nodup
 | [],_,h=>h
 | c::l,m,h=>vD l (iV m c) (QC h)
theorem Vf {k:Int×Int} {l l':List ((Int×Int)×Rat)} (h:l.Perm l'):lE k l=lE k l':=by
 induction h with
 | nil=>rfl
 | cons x _ O=>simp only[lE];rw[O]
 | swap x y l=>simp only[lE];grind
 | trans _ _ h1 h2=>exact h1.trans h2
theorem aeH {p q:Int} (O : -9223372036854775808<=p∧p<9223372036854775808) (U : -9223372036854775808<=q∧q<9223372036854775808) (X:q≠0):uo p q=some (fA (Rat.divInt p q),0):=by
 unfold uo;rw[Rx O,ahg,Rx U,ahg,Ph (VK O) (VK U) X,ahg]
open Classical in
def ace (f:aw):Rat:=if h:∃q,f=fA q then Classical.choose h else 0
theorem JL (q:Rat):ace (fA q)=q:=by
 have h:∃p,fA q=fA p:=⟨q,rfl⟩;unfold ace;rw[dif_pos h];exact (xn (Classical.choose_spec h)).symm
def VA (f:fJ) (k i:Nat):Rat:=ace ((f.aB.getD k []).getD i (aw.mk (az.mk 0 ([])) (az.mk 0 ([]))))
theorem Er {f:fJ} (hF:p7 f) (hQ:Kd f) {k i:Nat} (hk:k<f.aH.length) (hi:i<f.ak.length) :
  ∃row,f.aB[k]? = some row∧row[i]? = some (fA (VA f k i))∧0<=VA f k i∧LF (VA f k i)<=4:=by
 have X:k<f.aB.length:=by rw[hQ.rows];exact hk
 have Z:f.aB[k]? = some (f.aB[k]):=afQ X;have hm:=afP X;have hd:f.aB.getD k []=f.aB[k]:=by rw[agh,Z];rfl
 have hl:=hQ.row _ hm;have hs:=(hF.row _ hm).2;unfold VA;rw[hd];have O:(B6 f i)[k]? = some ((f.aB[k][i]?).getD (aw.mk (az.mk 0 ([])) (az.mk 0 ([])))):=by
  unfold B6;rw[afA,Z];rfl
 generalize f.aB[k]=row at Z hm hl hs O ⊢;have U:row[i]? = some (row[i]'(by omega)):=afQ _;have hx:=hs _ (af5 U);have aa:row.getD i (aw.mk (az.mk 0 ([])) (az.mk 0 ([])))=row[i]'(by omega):=by rw[agh,U];rfl
 rw[U]at O;rw[aa];obtain⟨qs,h1,h2,_⟩:=hQ.col i hi;rw[h1]at O;rw[afA]at O;obtain⟨q,ab,Y⟩:=afB.1 O;simp only[Option.getD_some]at Y;rw[<- Y]at U hx ⊢;refine⟨row,Z,?_,?_,?_⟩
 ·rw[JL];exact U
 ·rw[JL];exact h2 q (af5 ab)
 ·rw[JL];exact A4 hx.1 hx.2
abbrev ET:=(Int×Int)×Rat
def wI (m:bV) (i:Nat) (u:gN) (r:Rat) (k:Nat):List ET :=
 match m.au.aH[k]? with
 | some y=>if y.bu=0∧VA m.au k i≠0 then [((u.ck,m.aA.getD y.a7.toNat 0),r*VA m.au k i)] else []
 | none=>[]
def byQ (g:List Int) (u:gN):Rat:=Rat.divInt u.aL (g.getD u.ck.toNat 0)
def xQ (m:bV) (n:Int):gN:=m.aZ.getD n.toNat (gN.mk 0 0)
def BL (g:List Int) (m:bV) (i:Nat):List ET :=
 match m.au.ak[i]? with
 | some x=>if x.bu=1 then (List.range m.au.aH.length).flatMap (wI m i (xQ m x.a7) (byQ g (xQ m x.a7))) else []
 | none=>[]
def ou (g:List Int) (m:bV):List ET:=(List.range m.au.ak.length).flatMap (BL g m)
def wH (w:bA):List ET:=w.ao.flatMap (ou w.ax)
theorem Ru:LF 0<=1:=IL (n:=0) (by decide)
theorem IN {K:Nat} {k:Int×Int} : ∀ {l:List ET},(∀c∈l,LF c.2<=K)->LF (lE k l)<=1+l.length*(K+1)
 | [],_=>by simp only[lE];have:=Ru;simp;omega
 | c::l,h=>by
  have U:=IN (k:=k) (l:=l) fun x O=>h x (ahe _ O);have h1:=h c (ahd ..);simp only[lE,List.length_cons];have h2:=IK (if k=c.1 then c.2 else 0) (lE k l);have h3:LF (if k=c.1 then c.2 else 0)<=max K 1:=by
   split
   ·omega
   ·have:=Ru;omega
  have h4:=IK 0 (lE k l);rw[agC]
  by_cases hk:k=c.1
  ·rw[if_pos hk]at h2 ⊢;omega
  ·rw[if_neg hk,show (0:Rat)+lE k l=lE k l by grind];omega
theorem aaf {z:aw} {M:MQ} {k:Int×Int} {v:Rat} {K:Nat} (h:LF (ff 0 M k)<=K) (X:LF v<=K) (Y:K<=1000000000) :
  (kR (iQ M) k=true->nO (ff z (iQ M) k) (fA v)=some (fA (ff 0 M k+v))∧oT (iQ M) k (fA (ff 0 M k+v))=iQ (iV M (k,v)))∧(kR (iQ M) k=false->oT (iQ M) k (fA v)=iQ (iV M (k,v))):=by
 have U:gg=4398046511104:=rfl;constructor
 ·intro O;rw[Nf]at O;rw[UP O,aaN (by omega),Ng];exact⟨rfl,rfl⟩
 ·intro O;rw[Nf]at O;rw[Ng];unfold iV;rw[ZZ O,show (0:Rat)+v=v by grind]
theorem Mh {m:bV} {N:Nat} (O:uP m N) {y:sr} (U:y∈m.au.aH) (X:y.bu=0):∃j:Nat,y.a7=j∧j<m.aA.length:=by
 have:y.a7∈zf m.aA.length:=O.gives.mem_iff.1 (afC.2 ⟨y,ahj.2 ⟨U,by simpa using X⟩,rfl⟩);unfold zf at this;obtain⟨j,h1,h2⟩:=afC.1 this;exact⟨j,h2.symm,ahm.1 h1⟩
theorem Y4 {m:bV} {N:Nat} (O:uP m N) {x:gn} (U:x∈m.au.ak) (h1:x.bu=1):∃j:Nat,x.a7=j∧j<m.aZ.length:=by
 have:x.a7∈zf m.aZ.length:=O.takes.mem_iff.1 (afC.2 ⟨x,ahj.2 ⟨U,by simpa using h1⟩,rfl⟩);unfold zf at this;obtain⟨j,h1,h2⟩:=afC.1 this;exact⟨j,h2.symm,ahm.1 h1⟩
structure EV (n:Nat) (h:List ET):Prop where
 len:h.length<=n
 sz:∀c∈h,LF c.2<=20
theorem EV.look {n:Nat} {h:List ET} (H:EV n h) (k:Int×Int):LF (ff 0 (h.foldl iV []) k)<=1+n*21:=by
 rw[yg,show ff 0 ([]:MQ) k=0 from rfl,show (0:Rat)+lE k h=lE k h by grind];have h1:=IN (k:=k) H.sz;have h2:=H.len;have h3:=agr 21 h2;omega
theorem EV.app {n a:Nat} {h l:List ET} (H:EV n h) (U:l.length<=a) (hs:∀c∈l,LF c.2<=20):EV (n+a) (h++l) :=
 ⟨by rw[agP];have:=H.len;omega,fun c O=>(agV.1 O).elim (H.sz c) (hs c)⟩
theorem Kw (m:bV) (i:Nat) (u:gN) (r:Rat) (k:Nat):(wI m i u r k).length<=1:=by
 unfold wI;split
 ·split<;>simp
 ·simp
theorem mL {α:Type} {f:Nat->List α} {b:Nat} (h:∀i,(f i).length<=b):∀n,((List.range n).flatMap f).length<=n*b
 | 0=>by simp
 | n+1=>by
  have:=mL h n;have h2:=h n;rw[List.range_succ,air,agP,agC];simp only[List.flatMap_cons,List.flatMap_nil,ahz];omega
theorem GZ {α:Type} {f:Nat->List α} (n:Nat):(List.range (n+1)).flatMap f=(List.range n).flatMap f++f n:=by
 rw[List.range_succ,air];simp
theorem ZH {m:bV} {i:Nat} {u:gN} {r:Rat} {k:Nat} (U:p7 m.au) (X:Kd m.au) (Y:i<m.au.ak.length) (hr:LF r<=10):∀c∈wI m i u r k,LF c.2<=20:=by
 intro c O;unfold wI at O;split at O
 ·rename_i y Z;split at O
  ·rw[af0.1 O];obtain⟨_,_,_,_,h4⟩:=Er U X (bx Z) Y;have:=VH r (VA m.au k i);simp only;omega
  ·cases O
 ·cases O
theorem Th {m:bV} {i:Nat} {u:gN} {r:Rat} {n:Nat} (O:p7 m.au) (U:Kd m.au) (X:i<m.au.ak.length) (Y:LF r<=10):∀c∈(List.range n).flatMap (wI m i u r),LF c.2<=20:=by
 intro c Z;obtain⟨k,_,hk⟩:=ahb.1 Z;exact ZH O U X Y c hk
theorem UY {m:bV} {N i n:Nat} {u:gN} {r:Rat} {h:List ET} (X:p7 m.au) (Y:uP m N) (hi:i<m.au.ak.length) (hr:LF r<=10) (H:EV n h) (hn:n<=1000) :
  ba (fY m (i:Int) u (fA r,0)) ((0:Int),iQ (h.foldl iV []))=some (iQ ((h++(List.range m.au.aH.length).flatMap (wI m i u r)).foldl iV [])):=by
 have ab:gg=4398046511104:=rfl;have ho:=X.outs;have key:=fun Z O=>yh (body:=fY m (i:Int) u (fA r,0)) m.au.aH (by omega)
  (fun k (c:List ((Int×Int)×aw))=>c=iQ ((h++(List.range k).flatMap (wI m i u r)).foldl iV [])) (fun c=>c=iQ ((h++(List.range m.au.aH.length).flatMap (wI m i u r)).foldl iV [])) (s0:=iQ (h.foldl iV [])) (by simp) Z O
 refine (key ?_ ?_).elim fun x ⟨h1,hx⟩=>hx ▸ h1
 ·rintro k x _ hx rfl;have hk:=bx hx;have hl:=mL (fun k=>Kw m i u r k) k;have H2:=H.app (a:=k) (by omega) (Th (u:=u) (n:=k) X Y.flow hi hr);obtain⟨row,r1,r2,r3,r4⟩:=Er X Y.flow hk hi;rw[GZ,<- ag1];generalize h++(List.range k).flatMap (wI m i u r)=h2 at H2;have aa:=H2.look;have hc:wI m i u r k=if x.bu=0∧VA m.au k i≠0 then [((u.ck,m.aA.getD x.a7.toNat 0),r*VA m.au k i)] else []:=by unfold wI;rw[hx]
  refine⟨_,?_,rfl⟩;simp only[fY];rw[if_pos (by simpa using hk),bU hx,ahg,b7 (by omega),hc]
  by_cases h0:x.bu=0
  ·rw[if_neg (by simp[h0]),bU r1,ahg,bU r2,ahg,BB (by omega),ahg,ahg]
   by_cases hz:VA m.au k i=0
   ·rw[if_pos (by rw[beq_iff_eq];exact xJ.2 hz),if_neg (fun hh=>hh.2 hz),ahz]
   ·obtain⟨j,j1,j2⟩:=Mh Y (af5 hx) h0;have hp:m.aA[j]? = some (m.aA.getD x.a7.toNat 0):=by rw[j1,agF,agh,afQ j2];rfl
    have ad:=VH r (VA m.au k i);rw[if_neg (by rw[beq_iff_eq];exact fun hh=>hz (xJ.1 hh)),if_pos ⟨h0,hz⟩];rw[show P.idx m.aA x.a7=some (m.aA.getD x.a7.toNat 0) by rw[j1]at hp ⊢;exact bU hp];rw[ahg,ahg,bU r2,ahg,acI (by omega),ahg];have U:=aaf (z:=aw.mk (az.mk 0 ([])) (az.mk 0 ([]))) (M:=h2.foldl iV []) (k:=(u.ck,m.aA.getD x.a7.toNat 0)) (v:=r*VA m.au k i) (K:=20+(n+k)*21) (afF (aa _) (by omega)) (by omega) (by omega);cases hh:kR (iQ (h2.foldl iV [])) (u.ck,m.aA.getD x.a7.toNat 0) with
    | false =>
     rw[if_neg (by simp),U.2 hh,aip];rfl
    | true =>
     have h5:=U.1 hh;rw[if_pos rfl];erw [h5.1];rw[ahg,h5.2,aip];rfl
  ·rw[if_pos (by simpa using h0),ahg,if_pos rfl,if_neg (fun hh=>h0 hh.1),ahz]
 ·rintro _ rfl;refine⟨_,?_,rfl⟩;simp only[fY];rw[if_neg (by simp)]
theorem acH {x:Int} (h1:1<=x) (h2:x<=1099511627776):Ln x<=3:=Kg (by rw[jF,jF,jF,pF];omega)
def vp (g:List Int):Prop:=∀x∈g,1<=x∧x<=1099511627776
theorem Mg {g:List Int} (U:vp g) {p:Int} (h:0<=p∧p<(g.length:Int)):∃j:Nat,p=j∧j<g.length∧g[j]? = some (g.getD p.toNat 0)∧1<=g.getD p.toNat 0∧g.getD p.toNat 0<=1099511627776:=by
 obtain⟨j,rfl⟩:∃j:Nat,p=j:=⟨p.toNat,by omega⟩;have O:j<g.length:=by omega
 have h1:g[j]? = some (g.getD (j:Int).toNat 0):=by rw[agF,agh,afQ O];rfl
 exact⟨j,rfl,O,h1,U _ (af5 h1)⟩
theorem Re {m:bV} {N:Nat} (X:uP m N) {x:gn} (Y:x∈m.au.ak) (h1:x.bu=1):P.idx m.aZ x.a7=some (xQ m x.a7)∧xQ m x.a7∈m.aZ:=by
 obtain⟨j,U,Z⟩:=Y4 X Y h1;have O:m.aZ[j]? = some (xQ m x.a7):=by unfold xQ;rw[U,agF,agh,afQ Z];rfl
 exact⟨by rw[U]at O ⊢;exact bU O,af5 O⟩
theorem Pr {g:List Int} {m:bV} (O:vp g) (U:uP m g.length) {u:gN} (hu:u∈m.aZ):LF (byQ g u)<=10∧0<byQ g u:=by
 obtain⟨h1,h2⟩:=U.uses u hu;obtain⟨j,Z,j2,j3,X,Y⟩:=Mg O h1;have a1:=acH h2.1 h2.2;have a2:=acH X Y;unfold byQ;have a3:=xY (p:=u.aL) (q:=g.getD u.ck.toNat 0) (by omega);refine⟨by omega,?_⟩;rw[Rat.divInt_eq_div,Rat.div_def];exact Rat.mul_pos (by exact_mod_cast (show (0:Int)<u.aL by omega)) (Rat.inv_pos.2 (by exact_mod_cast (show (0:Int)<g.getD u.ck.toNat 0 by omega)))
theorem R2 {g:List Int} {m:bV} (Z:vp g) (X:p7 m.au) (O:uP m g.length) (i:Nat):(BL g m i).length<=5∧∀c∈BL g m i,LF c.2<=20:=by
 unfold BL;split
 ·rename_i x Y;split
  ·rename_i h1;have ho:=X.outs;have hl:=mL (fun k=>Kw m i (xQ m x.a7) (byQ g (xQ m x.a7)) k) m.au.aH.length;refine⟨by omega,Th X O.flow (bx Y) (Pr Z O (Re O (af5 Y) h1).2).1⟩
  ·exact⟨by simp,fun c U=>by cases U⟩
 ·exact⟨by simp,fun c U=>by cases U⟩
theorem Tt {g:List Int} {m:bV} (O:vp g) (U:p7 m.au) (X:uP m g.length) (n:Nat):((List.range n).flatMap (BL g m)).length<=n*5∧∀c∈(List.range n).flatMap (BL g m),LF c.2<=20:=by
 refine⟨mL (fun i=>(R2 O U X i).1) n,fun c Y =>?_⟩;obtain⟨k,_,hk⟩:=ahb.1 Y;exact (R2 O U X k).2 c hk
theorem Pt {g:List Int} {m:bV} {n:Nat} {h:List ET} (hg:vp g) (hF:p7 m.au) (O:uP m g.length) (H:EV n h) (hn:n<=900) :
  gR (iQ (h.foldl iV [])) g m=some (iQ ((h++ou g m).foldl iV []),()):=by
 have ab:gg=4398046511104:=rfl;have hs:=hF.srcs;have key:=fun aa U=>yh (body:=ic g m) m.au.ak (by omega)
  (fun k (c:List ((Int×Int)×aw))=>c=iQ ((h++(List.range k).flatMap (BL g m)).foldl iV [])) (fun c=>c=iQ ((h++ou g m).foldl iV [])) (s0:=iQ (h.foldl iV [])) (by simp) aa U
 unfold gR;refine (key ?_ ?_).elim fun c Z =>?_
 ·rintro i x _ hx rfl;have hi:=bx hx;obtain⟨hl,hz⟩:=Tt hg hF O i;have H2:=H.app (a:=i*5) hl hz;rw[GZ,<- ag1];generalize h++(List.range i).flatMap (BL g m)=h2 at H2;have Z:BL g m i=if x.bu=1 then (List.range m.au.aH.length).flatMap (wI m i (xQ m x.a7) (byQ g (xQ m x.a7))) else []:=by unfold BL;rw[hx]
  refine⟨_,?_,rfl⟩;simp only[ic];rw[if_pos (by simpa using hi),bU hx,ahg,b7 (by omega),Z]
  by_cases h1:x.bu=1
  ·obtain⟨u1,u2⟩:=Re O (af5 hx) h1;have hb:=Pr hg O u2;obtain⟨p1,p2⟩:=O.uses _ u2;obtain⟨j,j1,j2,j3,j4,j5⟩:=Mg hg p1;have X:P.idx g (xQ m x.a7).ck=some (g.getD (xQ m x.a7).ck.toNat 0):=by
    rw[j1]at j3 ⊢;exact bU j3
   rw[if_neg (by simp[h1]),u1,ahg,X,ahg,aeH (by omega) (by omega) (by omega),ahg,if_pos h1];have Y:=UY (u:=xQ m x.a7) (r:=byQ g (xQ m x.a7)) hF O hi hb.1 H2 (by omega);unfold byQ at Y ⊢;erw [Y];rfl
  ·rw[if_pos (by simpa using h1),if_neg h1,ahz]
 ·rintro _ rfl;refine⟨_,?_,rfl⟩;simp only[ic];rw[if_neg (by simp)];rfl
 ·rw[Z.1,Z.2];rfl
theorem Wk {g:List Int} {m:bV} (U:vp g) (O:p7 m.au) (X:uP m g.length):(ou g m).length<=25∧∀c∈ou g m,LF c.2<=20:=by
 have:=Tt U O X m.au.ak.length;have hs:=O.srcs;exact⟨by have:=this.1;unfold ou;omega,this.2⟩
theorem VV {m:MQ} {c:ET} {k:Int×Int} : kR (iV m c) k=true↔kR m k=true∨c.1=k:=by
 unfold iV;rw[oM,yV];split
 ·rename_i h;constructor
  ·exact fun h1 =>.inl (oM.2 h1)
  ·rintro (h1|rfl)
   ·exact oM.1 h1
   ·exact oM.1 h
 ·rw[agV,af0,eq_comm (a:=k),oM]
theorem LX:∀(l:List ET) (m:MQ) (k:Int×Int),kR (l.foldl iV m) k=true↔kR m k=true∨∃c∈l,c.1=k
 | [],m,k=>by simp
 | c::l,m,k=>by
  rw[ags,LX l,VV];simp only[afK,exists_eq_or_imp];exact or_assoc
theorem Ey {k:Int×Int} : ∀ {l:List ET},(∀c∈l,0<c.2)->0<=lE k l∧(0<lE k l↔∃c∈l,c.1=k)
 | [],_=>⟨by simp only[lE];grind,by simp only[lE];simp⟩
 | c::l,h=>by
  obtain⟨h1,h2⟩:=Ey (k:=k) (l:=l) fun x O=>h x (ahe _ O);have h3:=h c (ahd ..);simp only[lE,afK,exists_eq_or_imp]
  by_cases hk:k=c.1
  ·rw[if_pos hk];exact⟨by grind,⟨fun _ =>.inl hk.symm,fun _=>by grind⟩⟩
  ·rw[if_neg hk,show (0:Rat)+lE k l=lE k l by grind,h2];exact⟨h1,⟨.inr,fun h=>h.resolve_left fun e=>hk e.symm⟩⟩
def jI (N:Nat) (S:Nat->Nat->Rat):List Tk:=(List.range N).flatMap fun a=>((List.range N).filter fun b=>decide (0<S a b)).map fun b=>(a,b,S a b)
theorem Dr {N:Nat} {S:Nat->Nat->Rat} {t:Tk} : t∈jI N S↔t.1<N∧t.2.1<N∧0<S t.1 t.2.1∧t.2.2=S t.1 t.2.1:=by
 unfold jI;simp only[ahb,afC,ahj,ahm,decide_eq_true_eq];constructor
 ·rintro⟨a,O,b,⟨U,hs⟩,rfl⟩;exact⟨O,U,hs,rfl⟩
 ·rintro⟨h1,h2,h3,h4⟩;exact⟨t.1,h1,t.2.1,⟨h2,h3⟩,by rw[<- h4]⟩
theorem TS (N:Nat) (S:Nat->Nat->Rat):(jI N S).Pairwise XD:=by
 unfold jI;rw[List.pairwise_flatMap];constructor
 ·intro a _;rw[ahN];exact (List.Pairwise.filter _ (ahn (n:=N))).imp fun h =>.inr ⟨rfl,h⟩
 ·refine (ahn (n:=N)).imp fun {a b} h x O y U =>?_;obtain⟨_,_,rfl⟩:=afC.1 O;obtain⟨_,_,rfl⟩:=afC.1 U;exact .inl h
theorem OQ (N:Nat) (S:Nat->Nat->Rat):(jI N S).length<=N*N:=by
 unfold jI;refine mL (fun a =>?_) N;rw[af7];exact afF (aij ..) (by simp)
theorem Q8 {N:Nat} {S U:Nat->Nat->Rat} (h:∀a b,a<N->b<N->S a b=U a b):jI N S=jI N U:=by
 unfold jI;rw[List.flatMap_def,List.flatMap_def];congr 1;refine ahc fun a O =>?_;have O:=ahm.1 O;rw[List.filter_congr (q:=fun b=>decide (0<U a b)) fun b X=>by rw[h a b O (ahm.1 X)]];refine ahc fun b X =>?_;rw[h a b O (ahm.1 (ahj.1 X).1)]
def pD (L:List ET) (a b:Nat):Rat:=lE ((a:Int),(b:Int)) L
structure aby (N:Nat) (L:List ET):Prop where
 pos:∀c∈L,0<c.2
 from_:∀c∈L,0<=c.1.1∧c.1.1<(N:Int)
 to_:∀c∈L,0<=c.1.2∧c.1.2<(N:Int)
theorem It {N:Nat} {L:List ET} (H:aby N L) :
  np (iT bG.ct bG.iO) ((iQ (L.foldl iV [])).map fun q=>bG.mk q.1.1 q.1.2 q.2)=(jI N (pD L)).map wA:=by
 have O:((L.foldl iV []).map (·.1)).Nodup:=vD L [] (by simp);have hK:((iQ (L.foldl iV [])).map fun q=>bG.mk q.1.1 q.1.2 q.2)=(L.foldl iV []).map fun p=>bG.mk p.1.1 p.1.2 (fA p.2):=by unfold iQ;rw[List.map_map];rfl
 rw[hK];have U:∀p:ET,p∈L.foldl iV []↔(∃c∈L,c.1=p.1)∧lE p.1 L=p.2:=by
  rintro⟨k,v⟩;rw[M9 (z:=0) O,LX,yg];simp only[kR,ff,agd,false_or];rw[show (0:Rat)+lE k L=lE k L by grind]
 have X:((L.foldl iV []).map fun p:ET=>bG.mk p.1.1 p.1.2 (fA p.2)).Nodup:=by
  unfold List.Nodup at O ⊢;rw[ahN]at O ⊢;refine O.imp fun {a b} h e=>h ?_;simp only[bG.mk.injEq]at e;exact Prod.ext e.1 e.2.1
 have Y:((jI N (pD L)).map wA).Nodup:=by
  unfold List.Nodup;rw[ahN];refine (TS N (pD L)).imp fun {a b} h e =>?_;have:=S3 e;subst this;unfold XD at h;omega
 have Z:∀x,x∈((L.foldl iV []).map fun p:ET=>bG.mk p.1.1 p.1.2 (fA p.2))↔x∈(jI N (pD L)).map wA:=by
  intro x;rw[afC,afC];constructor
  ·rintro⟨p,hp,rfl⟩;obtain⟨h1,h2⟩:=(U p).1 hp;obtain⟨c,c1,c2⟩:=h1;have f1:=H.from_ c c1;have f2:=H.to_ c c1;rw[c2]at f1 f2;have e1:((p.1.1.toNat:Nat):Int)=p.1.1:=by omega
   have e2:((p.1.2.toNat:Nat):Int)=p.1.2:=by omega
   have e3:pD L p.1.1.toNat p.1.2.toNat=p.2:=by unfold pD;rw[e1,e2];exact h2
   refine⟨(p.1.1.toNat,p.1.2.toNat,p.2),Dr.2 ⟨by simp only;omega,by simp only;omega,?_,e3.symm⟩,?_⟩
   ·simp only;rw[e3,<- h2];exact (Ey H.pos).2.2 ⟨c,c1,c2⟩
   ·unfold wA;simp only;rw[e1,e2]
  ·rintro⟨t,ht,rfl⟩;obtain⟨h1,h2,h3,h4⟩:=Dr.1 ht;refine⟨(((t.1:Int),(t.2.1:Int)),t.2.2),(U _).2 ⟨(Ey H.pos).2.1 h3,h4.symm⟩,rfl⟩
 refine mF (c:=iT bG.ct bG.iO) ((gP _ _).trans ((List.perm_ext_iff_of_nodup X Y).2 Z)) ?_ (k9 (qz _ _) _) ?_
 ·intro x hx y hy h1 h2;have hx:=(gP _ _).mem_iff.1 hx;have hy:=(gP _ _).mem_iff.1 hy;obtain⟨p,p1,rfl⟩:=afC.1 hx;obtain⟨q,q1,rfl⟩:=afC.1 hy;rw[tD]at h1 h2;simp only at h1 h2;have e:p.1=q.1:=Prod.ext (by omega) (by omega);have:p.2=q.2:=by rw[<- ((U p).1 p1).2,<- ((U q).1 q1).2,e]
  rw[e,this]
 ·rw[ahN];refine (TS N (pD L)).imp fun {a b} h =>?_;rw[tD];simp only[wA];unfold XD at h;omega
theorem Sx {w:bA} {r:Int×Int} (h:vC w=some r):r.1≠0:=by
 unfold vC at h;simp only[Option.or_eq_some_iff]at h;rcases h with ((h|⟨_,h⟩)|⟨_,h⟩)|⟨_,h⟩
 ·obtain⟨j,x,_,h2,_⟩:=di h;split at h2
  ·cases h2
  ·cases h2;simp
 ·obtain⟨j,x,_,h2,_⟩:=di h;split at h2
  ·cases h2
  ·cases h2;simp
 ·obtain⟨j,x,_,h2,_⟩:=di h;split at h2
  ·cases h2;simp
  ·split at h2
   ·cases h2;simp
   ·cases h2
 ·obtain⟨j,x,_,h2,_⟩:=di h;split at h2
  ·cases h2;simp
  ·cases h2
structure VF (w:bA):Prop where
 given:vp w.ax
 fit:∀m∈w.ao,uP m w.ax.length
 once:∀q,q<w.ax.length->Iu w.ao q=1∨Iu w.ao q<0
 used:∀q,q<w.ax.length->IA w.ao q<=w.ax.getD q 0
theorem aaW {w:bA} (h:vC w=none):VF w:=by
 unfold vC at h;simp only[Option.or_eq_none_iff]at h;obtain⟨⟨⟨h1,h2⟩,h3⟩,h4⟩:=h;refine⟨fun x X =>?_,fun m hm =>?_,fun q O =>?_,fun q O =>?_⟩
 ·obtain⟨j,U⟩:=afZ X;have:=cq.1 h1 j x U;split at this
  ·assumption
  ·cases this
 ·obtain⟨j,U⟩:=afZ hm;have:=cq.1 h2 j m U;split at this
  ·assumption
  ·cases this
 ·have:=cq.1 h3 q _ (eS _ O);split at this
  ·cases this
  ·split at this
   ·cases this
   ·omega
 ·have:=cq.1 h4 q _ (eS _ O);rw[agt]at this;split at this
  ·cases this
  ·omega
theorem aeO {w:bA} (hW:Pd w) (X:VF w):aby w.ax.length (wH w):=by
 have key:∀c∈wH w,0<c.2∧(0<=c.1.1∧c.1.1<(w.ax.length:Int))∧0<=c.1.2∧c.1.2<(w.ax.length:Int):=by
  intro c O;unfold wH at O;obtain⟨m,hm,O⟩:=ahb.1 O;have hF:=(hW.mill m hm).1;have U:=X.fit m hm;unfold ou at O;obtain⟨i,Y,O⟩:=ahb.1 O;rw[ahm]at Y;unfold BL at O;split at O
  ·rename_i x hx;split at O
   ·rename_i h1;obtain⟨k,hk,O⟩:=ahb.1 O;rw[ahm]at hk;unfold wI at O;split at O
    ·rename_i y hy;split at O
     ·rename_i Z;rw[af0.1 O];obtain⟨_,u2⟩:=Re U (af5 hx) h1;obtain⟨j,j1,j2⟩:=Mh U (af5 hy) Z.1;obtain⟨_,_,_,r3,_⟩:=Er hF U.flow hk Y;have hp:m.aA.getD y.a7.toNat 0∈m.aA:=by
       rw[j1,agF,agh,afQ j2];exact afP j2
      refine⟨Rat.mul_pos (Pr X.given U u2).2 ?_,(U.uses _ u2).1,U.ports _ hp⟩;have:=Z.2;grind
     ·cases O
    ·cases O
   ·cases O
  ·cases O
 exact⟨fun c h=>(key c h).1,fun c h=>(key c h).2.1,fun c h=>(key c h).2.2⟩
theorem NJ {w:bA} (Y:Pd w) (X:VF w):ba (nW w) ((0:Int),[])=some (iQ ((wH w).foldl iV []))∧EV 125 (wH w):=by
 have hm:=Y.mills;have sz:∀k,((w.ao.take k).flatMap (ou w.ax)).length<=k*25∧∀c∈(w.ao.take k).flatMap (ou w.ax),LF c.2<=20:=by
  intro k;have h1:∀m∈w.ao.take k,(ou w.ax m).length<=25∧∀c∈ou w.ax m,LF c.2<=20:=fun m h=>by
   have hm:=ago h;exact Wk X.given (Y.mill m hm).1 (X.fit m hm)
  have h2:(w.ao.take k).length<=k:=by rw[afW];omega
  refine⟨?_,fun c Z =>?_⟩
  ·have gen:∀l:List bV,(∀m∈l,(ou w.ax m).length<=25)->(l.flatMap (ou w.ax)).length<=l.length*25:=by
    intro l
    induction l with
    | nil=>intro _;simp
    | cons a l ih =>
     intro h;have a1:=h a (ahd ..);have a2:=ih fun m hm=>h m (ahe _ hm);rw[List.flatMap_cons,agP,af3];omega
   have:=gen _ fun m hm=>(h1 m hm).1;omega
  ·obtain⟨m,hm,Z⟩:=ahb.1 Z;exact (h1 m hm).2 c Z
 have key:=fun aa U=>yh (body:=nW w) w.ao (by omega)
  (fun k (c:List ((Int×Int)×aw))=>c=iQ (((w.ao.take k).flatMap (ou w.ax)).foldl iV [])) (fun c=>c=iQ ((wH w).foldl iV [])) (s0:=[]) rfl aa U
 constructor
 ·refine (key ?_ ?_).elim fun x ⟨h1,hx⟩=>hx ▸ h1
  ·rintro k m _ hx rfl;have hk:=bx hx;have ab:w.ao.take (k+1)=w.ao.take k++[m]:=by
    obtain⟨ad,he⟩:=af6.1 hx;rw[aih ad,he]
   have O:=af5 hx;have H:EV (k*25) ((w.ao.take k).flatMap (ou w.ax)):=⟨(sz k).1,(sz k).2⟩;refine⟨_,?_,rfl⟩;simp only[nW];rw[if_pos (by simpa using hk),bU hx,ahg,Pt X.given (Y.mill m O).1 (X.fit m O) H (by omega),ahg,b7 (by omega),ab,air];simp
  ·rintro _ rfl;refine⟨_,?_,rfl⟩;simp only[nW];rw[if_neg (by simp),ahJ];rfl
 ·have:=sz w.ao.length;rw[ahJ]at this;exact⟨by have:=this.1;unfold wH;omega,this.2⟩
theorem Xg {N:Nat} {L:List ET} (H:aby N L):(L.foldl iV []).length<=N*N:=by
 have h:=It H;have:=congrArg List.length h;rw[l9,af7,af7,Dm]at this;have:=OQ N (pD L);omega
def Qk (w:bA) (L:List ET):eM:=si w.ax.length (jI w.ax.length (pD L))
theorem of_eq {w:bA} (O:Pd w):rA w=some (match vC w with|some r=>(eM.mk 0 [],r.1)|none=>(Qk w (wH w),0)):=by
 have U:=O.given;unfold rA;rw[sD O,ahg];cases he:vC w with
 | some r =>
  have:=Sx he;rw[if_pos (by simpa using this)];rfl
 | none =>
  have X:=aaW he;obtain⟨h1,_⟩:=NJ O X;have Y:=aeO O X;have hlen:=Xg Y;have Z:w.ax.length*w.ax.length<=6*6:=aii U U;rw[if_neg (by simp),h1,ahg,if_neg (by rw[decide_eq_true_eq,Dm];omega)];unfold Bc;rw[if_pos ⟨by rw[Dm];omega,by rw[UO];exact vD _ _ (by simp)⟩,It Y];rfl
theorem ab5 {x:Int} {n:Nat} (O:(Lit.int .u8 x).wf=true) (U:0<n):∃a:Nat,a<n∧AQ .i64 (IntKind.i64.wrap x) (n:Int)=some (a:Int):=by
 have O:0<=x∧x<=255:=by
  simpa [Lit.wf,IntKind.min,IntKind.max,IntKind.signed,IntKind.bits] using O
 refine⟨(x.tmod n).toNat,?_,?_⟩
 ·have h1:=Int.tmod_lt_of_pos x (show (0:Int)<n by omega);have h2:=Int.tmod_nonneg (n:Int) O.1;omega
 ·unfold AQ;have h2:=Int.tmod_nonneg (n:Int) O.1;rw[if_neg (by omega),jn (by omega),Int.toNat_of_nonneg h2]
theorem U3 {a b:Rat} (h:LF a<=gg):lv (fA a) (fA b)=some (decide (a=b)):=by
 have:=IY h;rw[ads (by unfold Fit gg at *;omega) (by unfold Fit gg at *;omega)];congr 1
 by_cases hab:a=b
 ·rw[hab,decide_eq_true rfl,decide_eq_true rfl]
 ·rw[decide_eq_false (fun h=>hab (xn h)),decide_eq_false hab]
theorem Dy {α ρ:Type} : ∀(l:List α) (i:Nat),dJ (fun _ _=>(none:Option ρ)) i l=none
 | [],_=>rfl
 | _::l,i=>by simp only[dJ];exact Dy l _
theorem Oo {N K:Nat} {tk:List Tk} (hl:tk.length<=8000) (hK:K<=1000000) (hs:∀t∈tk,LF t.2.2<=K):j0 (si N tk) (si N tk)=some true:=by
 have Y:gg=4398046511104:=rfl;unfold j0;rw[if_neg (by simp),ahg,if_neg (by simp)];rw[nt (si N tk).aN (fun _ _=>(none:Option Bool)) (by simp[si];omega) (fun i f O =>?_) (by simp only[pH];rw[if_neg (by simp)])]
 ·rw[Dy];rfl
 ·have X:=bx O;obtain⟨t,Z,he⟩:∃t,t∈tk∧f=wA t:=by
   have:=af5 O;simp only[si,afC]at this;obtain⟨t,h1,h2⟩:=this;exact⟨t,h1,h2.symm⟩
  have h1:=hs t Z;have U:lv f.eB f.eB=some true:=by
   rw[he];simp only[wA];rw[U3 (by omega),decide_eq_true rfl]
  simp only[pH];rw[if_pos (by simpa using X),bU O,ahg,ahg,if_neg (by simp),if_neg (by simp),U,ahg,if_neg (by simp),b7 (by simp[si]at X;omega)]
theorem y5 {l:List Int} (X:l.length<=8000):fm l l=some true:=by
 unfold fm;rw[if_neg (by simp)];rw[nt l (fun _ _=>(none:Option Bool)) (by omega) (fun i f O =>?_) (by simp only[kl];rw[if_neg (by simp)])]
 ·rw[Dy];rfl
 ·have U:=bx O;simp only[kl];rw[if_pos (by simpa using U),bU O,ahg,ahg,if_neg (by simp),b7 (by omega)]
theorem Eb {N K:Nat} {tk:List Tk} (U:K<=1000000) (hs:∀t∈tk,LF t.2.2<=K):∃l,fD (si N tk)=some l∧l.length<=2000:=by
 have O:∀t∈(si N tk).aN,t.eB.cD.aa.length<=K∧t.eB.cw.aa.length<=K:=by
  intro t X;simp only[si,afC]at X;obtain⟨x,h1,rfl⟩:=X;exact IY (hs x h1)
 obtain⟨c,c1,c2⟩:=HT U O;cases c with
 | false =>
  refine⟨[],?_,by simp⟩;unfold fD;rw[c1];rfl
 | true =>
  obtain⟨N',Z,he,Y⟩:=c2.1 rfl;obtain⟨rfl,rfl⟩:=S2 he;obtain⟨r,r1,_⟩:=X9 Y U hs;have:=Y.ports;exact⟨_,r1,by simp;omega⟩
theorem Z7 {N:Nat} {L:List ET} (O:N<=6) (H:EV 125 L):(jI N (pD L)).length<=36∧∀t∈jI N (pD L),LF t.2.2<=2700:=by
 have h1:=OQ N (pD L);have h2:N*N<=6*6:=aii O O;refine⟨by omega,fun t U =>?_⟩;obtain⟨_,_,_,h4⟩:=Dr.1 U;rw[h4];unfold pD;have h5:=IN (k:=((t.1:Int),(t.2.1:Int))) H.sz;have h6:=agr 21 H.len;omega
def Ez (q:Nat) (l:List gN):Int:=l.foldl (fun x u=>x+if u.ck=(q:Int) then u.aL else 0) 0
theorem qk {α:Type} (f:α->Int):∀(l:List α) (x:Int),l.foldl (fun x u=>x+f u) x=x+l.foldl (fun x u=>x+f u) 0
 | [],x=>by simp
 | a::l,x=>by rw[ags,ags,qk f l (x+f a),qk f l (0+f a)];omega
theorem um {α:Type} (f:α->Int) (l m:List α):(l++m).foldl (fun x u=>x+f u) 0=l.foldl (fun x u=>x+f u) 0+m.foldl (fun x u=>x+f u) 0:=by
 rw[aip,qk f m]
theorem OX {q:Nat} : ∀ {l:List gN} {x:Int},(0<=x∧x<=1099511627777)->(∀u∈l,1<=u.aL∧u.aL<=1099511627776)->kQ q l x=min 1099511627777 (x+Ez q l)∧0<=Ez q l
 | [],x,U,_=>by simp only[kQ,Ez,List.foldl_nil];omega
 | u::l,x,U,h=>by
  have h1:=h u (ahd ..);have O:=EL (q:=q) U h1;obtain⟨h2,h3⟩:=OX (q:=q) (l:=l) (x:=Fu q x u) O fun v Y=>h v (ahe _ Y);have e:Ez q (u::l)=(if u.ck=(q:Int) then u.aL else 0)+Ez q l:=by
   unfold Ez;rw[ags,qk (fun u:gN=>if u.ck=(q:Int) then u.aL else 0)];omega
  have Z:kQ q (u::l) x=kQ q l (Fu q x u):=rfl;rw[Z,h2,e];unfold Fu at O ⊢
  by_cases X:u.ck=(q:Int)
  ·simp only[X,if_true]at O ⊢;split<;>omega
  ·simp only[X,if_false]at O ⊢;omega
def J1 (q:Nat) (ms:List bV):Int:=ms.foldl (fun x m=>x+Ez q m.aZ) 0
theorem TX {q:Nat} {ms:List bV} (h:∀m∈ms,∀u∈m.aZ,1<=u.aL∧u.aL<=1099511627776):IA ms q=min 1099511627777 (J1 q ms)∧0<=J1 q ms:=by
 have key:∀(ms:List bV) (x:Int),(0<=x∧x<=1099511627777)->(∀m∈ms,∀u∈m.aZ,1<=u.aL∧u.aL<=1099511627776)->ms.foldl (fun x m=>kQ q m.aZ x) x=min 1099511627777 (x+J1 q ms)∧0<=J1 q ms:=by
  intro ms
  induction ms with
  | nil=>intro x O _;simp only[List.foldl_nil,J1];omega
  | cons m ms U =>
   intro x O h;obtain⟨X,a2⟩:=OX (q:=q) O (h m (ahd ..));obtain⟨Y,Z⟩:=U (kQ q m.aZ x) (pK O (h m (ahd ..))) fun m hm=>h m (ahe _ hm);have e:J1 q (m::ms)=Ez q m.aZ+J1 q ms:=by
    unfold J1;rw[ags,qk (fun m:bV=>Ez q m.aZ)];omega
   rw[ags,Y,X,e];omega
 have:=key ms 0 (by omega) h;unfold IA;rw[this.1];exact⟨by omega,this.2⟩
theorem Zk {q:Nat} {a b:List bV} (h:∀m∈a++b,∀u∈m.aZ,1<=u.aL∧u.aL<=1099511627776):IA (b++a) q=IA (a++b) q:=by
 rw[(TX h).1,(TX (ms:=b++a) fun m hm=>h m (by simpa [or_comm] using hm)).1];unfold J1;rw[um (fun m:bV=>Ez q m.aZ),um (fun m:bV=>Ez q m.aZ)];congr 1;omega
theorem Y5 {q:Nat} {a b:List bV} : Iu (b++a) q=Iu (a++b) q:=by
 unfold Iu;rw[um (fun m:bV=>(m.aA.count (q:Int):Int)),um (fun m:bV=>(m.aA.count (q:Int):Int))];omega
theorem uj {N:Nat} {ms:List bV} : vB N ms=none↔∀m∈ms,uP m N:=by
 unfold vB;constructor
 ·intro h m hm;obtain⟨j,O⟩:=afZ hm;have:=cq.1 h j m O;split at this
  ·assumption
  ·cases this
 ·intro h;exact cq.2 fun j y U=>if_pos (h y (af5 U))
theorem GJ {N:Nat} {ms:List bV} {r:Int×Int} (h:vB N ms=some r):r.1=1:=by
 unfold vB at h;obtain⟨j,x,_,h2,_⟩:=di h;split at h2
 ·cases h2
 ·cases h2;rfl
theorem Xa (g:List Int) (a b:List bV):vC (bA.mk g (b++a))=vC (bA.mk g (a++b))∨∃i j,vC (bA.mk g (b++a))=some (1,i)∧vC (bA.mk g (a++b))=some (1,j):=by
 have O:PL (bA.mk g (b++a))=PL (bA.mk g (a++b)):=rfl;unfold vC;rw[O];cases PL (bA.mk g (a++b)) with
 | some r=>exact .inl rfl
 | none =>
  simp only[Option.none_or];cases h1:vB g.length (a++b) with
  | some r =>
   cases h2:vB g.length (b++a) with
   | some r' =>
    refine .inr ⟨r'.2,r.2,?_,?_⟩
    ·simp only[Option.some_or];rw[<- GJ h2]
    ·simp only[Option.some_or];rw[<- GJ h1]
   | none =>
    have:vB g.length (a++b)=none:=uj.2 fun m hm=>uj.1 h2 m (show m∈b++a by simpa [or_comm] using hm);rw[h1]at this;cases this
  | none =>
   have hf:=uj.1 h1;have h2:vB g.length (b++a)=none:=uj.2 fun m hm=>hf m (by simpa [or_comm] using hm);have hu:∀m∈a++b,∀u∈m.aZ,1<=u.aL∧u.aL<=1099511627776:=fun m hm u hu=>((hf m hm).uses u hu).2;left;rw[h2];simp only[Option.none_or];rw[show Iu (b++a)=Iu (a++b) from funext fun q=>Y5,show IA (b++a)=IA (a++b) from funext fun q=>Zk hu];rfl
theorem Kj (a0:bA) (a1:Int) (h1:(Lit.int .u8 a1).wf=true):iw a0 a1=some true:=by
 obtain⟨b,e1,e2⟩:=Xd a0;unfold iw;rw[ach,ahg,e1,ahg];cases b with
 | false=>rfl
 | true =>
 have hW:=e2 rfl;have hm:=hW.mills;have hg:=hW.given;simp only[ag8,agd,if_false];rw[ahg]
 by_cases h0:a0.ao.length=0
 ·rw[if_pos (by simp[h0])]
 rw[if_neg (by simpa using h0)];obtain⟨k,k1,k2⟩:=ab5 (n:=a0.ao.length) h1 (by omega);have s1:wo a0.ao (k:Int) (a0.ao.length:Int)=some (a0.ao.drop k):=by
  unfold wo;rw[if_pos (by omega),agF,agF,ag6 (by simp)]
 have s2:wo a0.ao 0 (k:Int)=some (a0.ao.take k):=by
  unfold wo;rw[if_pos (by omega)];simp
 have s3:∀l m:List bV,l.length+m.length<=10->kr 120 l m=some (l++m):=fun l m h=>by
  unfold kr;rw[if_pos ⟨afF h (by decide),by omega⟩]
 rw[k2,ahg,s1,ahg,s3 _ _ (by simp;omega),ahg,s2,ahg,s3 _ _ (by simp;omega),ahg];have X:a0=bA.mk a0.ax (a0.ao.take k++a0.ao.drop k):=by rw[ahw]
 have Z:Pd (bA.mk a0.ax (a0.ao.drop k++a0.ao.take k)):=⟨hg,by simp;omega,fun m hm=>hW.mill m (by
  rcases agV.1 hm with h|h
  ·exact agm h
  ·exact ago h)⟩
 have U:=Xa a0.ax (a0.ao.take k) (a0.ao.drop k);rw[<- X]at U;rw[of_eq hW,ahg,of_eq Z,ahg,sD Z,ahg];have O:j0 (eM.mk 0 []) (eM.mk 0 [])=some true:=Oo (N:=0) (K:=1) (tk:=[]) (by simp) (by decide) (fun t ht=>by cases ht);obtain⟨l0,r1,r2⟩:=Eb (N:=0) (K:=1) (tk:=[]) (by decide) (fun t ht=>by cases ht);have r1:fD (eM.mk 0 [])=some l0:=r1;cases Y:vC a0 with
 | some r =>
  have ae:=Sx Y;rcases U with h|⟨i,j,h3,h4⟩
  ·rw[h,Y];simp only[Option.getD_some];rw[if_neg (by simp),if_neg (by simp),O,ahg,if_neg (by simp),r1,ahg,ahg,y5 (by omega),ahg,ahg,if_neg (by simp),sD hW,Y];simp
  ·rw[Y]at h4;obtain rfl:=Option.some.inj h4;rw[h3];simp only[Option.getD_some];rw[if_neg (by simp),if_neg (by simp),O,ahg,if_neg (by simp),r1,ahg,ahg,y5 (by omega),ahg,ahg,if_neg (by simp),sD hW];simp
 | none =>
  have h:vC (bA.mk a0.ax (a0.ao.drop k++a0.ao.take k))=none:=by
   rcases U with h|⟨i,j,h3,h4⟩
   ·rw[h,Y]
   ·rw[Y]at h4;cases h4
  have hG:=aaW Y;have aa:=Z7 hg (NJ hW hG).2;have ab:Qk (bA.mk a0.ax (a0.ao.drop k++a0.ao.take k)) (wH (bA.mk a0.ax (a0.ao.drop k++a0.ao.take k)))=Qk a0 (wH a0):=by
   unfold Qk;simp only;congr 1;refine Q8 fun x y _ _ =>?_;unfold pD;apply Vf;unfold wH;simp only;rw[air];apply List.perm_append_comm.trans;rw[<- air,ahw]
  obtain⟨l,q1,q2⟩:=Eb (N:=a0.ax.length) (K:=2700) (by decide) aa.2;have q1:fD (Qk a0 (wH a0))=some l:=q1;have ad:j0 (Qk a0 (wH a0)) (Qk a0 (wH a0))=some true:=Oo (by omega) (by decide) aa.2;rw[h,ab];simp only[Option.getD_none];rw[if_neg (by simp),if_neg (by simp),ad,ahg,if_neg (by simp),q1,ahg,ahg,y5 (by omega),ahg,ahg,if_neg (by simp),sD hW,Y];simp
end Go.Proofs.YtoioidmblipblaaGreat.P
