import Derived.Test.YtgnoaanebhmegaaIe
set_option linter.unusedSimpArgs false
set_option linter.unusedVariables false
noncomputable section
open Go.Proofs.Try
namespace Go.Proofs.Ytgnoaanebhmegaa.P
open Go.RowKit
theorem Oz {a b:Nat} (Z:(az a).length<=gC) (hb:(az b).length<=gC):aQ kP (az a,az b)=some (az (Nat.gcd a b)):=by
 have hL:gC=17592186043904:=rfl;have key:∃r,aQ kP (az a,az b)=some r∧r=az (Nat.gcd a b):=by
  have la:=KH (dL a);have lb:=KH (dL b)
  let val:List Int->Nat:=fun l=>(dv l).toNat
  have O:∀n,val (az n)=n:=fun n=>by show (dv (az n)).toNat=n;rw[aT];rfl
  refine pc (I:=fun (s:List Int×List Int)=>∃x y,s=(az x,az y)∧Nat.gcd x y=Nat.gcd a b∧(az x).length<=gC∧(az y).length<=gC)
   (μ:=fun (s:List Int×List Int)=>lg (val s.1)+lg (val s.2)+(if val s.1<val s.2 then 1 else 0)) _ ⟨a,b,rfl,rfl,Z,hb⟩ (by simp only[O];unfold FU;split<;>omega) ?_
  rintro _ ⟨x,y,rfl,Y,hx,hy⟩;simp only[kP]
  by_cases h0:y=0
  ·right;subst h0;refine⟨_,by rw[bK,if_neg (by simp)],?_⟩;rw[<- Y,X6]
  ·left;have X:0<(az y).length:=Xw.2 (fun h=>h0 (mF.1 h));rw[if_pos (by simpa using X),div_eq h0 (by omega) (by omega),Xe];have aa:=Wz x (X7 h0);refine⟨_,rfl,⟨y,x % y,rfl,?_,hy,?_⟩,?_⟩
   ·rw[<- Y,Nat.gcd_comm y,<- Nat.gcd_rec,Nat.gcd_comm]
   ·have:=dy (Nat.mod_le x y);omega
   ·simp only[O];rw[if_neg (by omega)]
    by_cases U:x<y
    ·rw[if_pos U,WB U];omega
    ·rw[if_neg U];have:lg (x % y)<lg x:=by
      apply RD;have h1:=XH x y;have h2:1<=x / y:=(Nat.one_le_div_iff (by omega)).2 (by omega);have h3:y*1<=y*(x / y):=Nat.mul_le_mul_left _ h2;omega
     omega
 obtain⟨r,h1,rfl⟩:=key;exact h1
theorem R3 {x y:Int} (Z:Ln x<=gC) (hy:Ln y<=gC):pS (fc x) (fc y)=some (fc (Int.gcd x y),0):=by
 have hL:gC=17592186043904:=rfl;unfold pS;rw[lF (by omega),Xe];simp only[W7,Wg,if_false];rw[lF (by omega),Xe,Xe];simp only[W7,Wg,if_false];have O:(fc x).aa=az x.natAbs:=rfl;have U:(fc y).aa=az y.natAbs:=rfl;rw[O,U];have Y:(az x.natAbs).length<=17592186043904:=by show Ln x<=_;omega
 have fy:(az y.natAbs).length<=17592186043904:=by show Ln y<=_;omega
 have fg:(az (Nat.gcd x.natAbs y.natAbs)).length<=17592186043904:=by
  by_cases h:y.natAbs=0
  ·rw[h,X6];exact Y
  ·have:=dy (Nat.gcd_le_right x.natAbs (X7 h));omega
 rw[wO (by unfold Fit;omega),Xe,Oz (by omega) (by omega),Xe,wO (by unfold Fit;omega),Xe];have X:Nat.gcd x.natAbs y.natAbs=((Int.gcd x y:Nat):Int).natAbs:=rfl;rw[Ck (x:=(Int.gcd x y:Int)) X ?_ (fun _=>by omega),Xe,rU,Xe];intro h;rw[X4 (by omega)]
theorem HY {x y:Int} (hx:Ln x<=lK) (hy:Ln y<=lK):iJ (fc x) (fc y)=some (jo x y):=by
 have hL:lK=4398046511104:=rfl;unfold iJ;rw[lF (by omega),Xe];simp only[W7,Wg,if_false];rw[lF (by omega),Xe,Xe];simp only[W7,Wg,if_false];have X:(fc x).aa=az x.natAbs:=rfl;have Y:(fc y).aa=az y.natAbs:=rfl;have Z:(fc x).an=x.sign:=rfl;have ab:(fc y).an=y.sign:=rfl;rw[X,Y,Z,ab];have fx:(az x.natAbs).length<=4398046511104:=by show Ln x<=_;omega
 have fy:(az y.natAbs).length<=4398046511104:=by show Ln y<=_;omega
 by_cases h:x.sign=y.sign
 ·rw[if_neg (by simpa using h),wR (by unfold Fit;omega) (by unfold Fit;omega),Xe];have hc:∀s:Int,s = -1∨s=0∨s=1->∀c:Int,c = -1∨c=0∨c=1->IntKind.i64.wrap (s*c)=s*c:=by
   rintro s (rfl|rfl|rfl) c (rfl|rfl|rfl)<;>exact fG (by decide)
  have ad:∀a b:Int,jo a b = -1∨jo a b=0∨jo a b=1:=by
   intro a b;unfold jo;split
   ·simp
   ·split<;>simp
  rw[hc _ (qp x) _ (ad _ _)];congr 1;unfold jo;rcases fa x with⟨a,b,c⟩|⟨a,b,c⟩|⟨a,b⟩<;>rcases fa y with⟨O,U,c'⟩|⟨O,U,c'⟩|⟨O,U⟩<;>(try (rw[a,O]at h;exact absurd h (by decide)))<;>rw[a]<;>split<;>(try split)<;>(try split)<;>(try split)<;>omega
 ·rw[if_pos (by simpa using h),Ia,Xe];congr 1;unfold jo;rcases fa x with⟨a,b,c⟩|⟨a,b,c⟩|⟨a,b⟩<;>rcases fa y with⟨O,U,c'⟩|⟨O,U,c'⟩|⟨O,U⟩<;>(try (exact absurd (a.trans O.symm) h))<;>rw[a,O]<;>split<;>(try split)<;>(try split)<;>(try split)<;>omega
theorem Uj (x:Int):IntKind.u64.wrap x=x % 18446744073709551616:=by
 unfold IntKind.wrap;simp only[IntKind.bits,IntKind.signed,XC,Wg,if_false];rfl
theorem wu {x:Int} (h:0<=x∧x<18446744073709551616):IntKind.u64.wrap x=x:=by rw[Uj];omega
theorem Vz:pw 4=1208925819614629174706176:=by decide
theorem UW {d:Int} {i:Nat} (O:i<=3) (U:0<=d∧d<1048576) (h8:i=3->d<=8):mN .u64 (IntKind.u64.wrap d) (IntKind.i64.wrap (20*(i:Int)))=some (pw i*d):=by
 rw[wu (by omega),fG (by omega)];unfold mN;rw[if_neg (by omega)];have e:(2:Int) ^ (min (20*(i:Int)).toNat IntKind.u64.bits)=pw i:=by
  have:∀i:Nat,i<=3->(2:Int) ^ (min (20*(i:Int)).toNat IntKind.u64.bits)=pw i:=by decide
  exact this i O
 rw[e,wu,XJ];rcases (show i=0∨i=1∨i=2∨i=3 by omega) with rfl|rfl|rfl|rfl
 ·rw[show pw 0=1 by decide];omega
 ·rw[show pw 1=1048576 by decide];omega
 ·rw[show pw 2=1099511627776 by decide];omega
 ·rw[show pw 3=1152921504606846976 by decide];have:=h8 rfl;omega
theorem Tz {u d:Int} {i:Nat} (X:i<=3) (hu:0<=u∧u<pw i) (Y:0<=d∧pw i*d<9223372036854775809):gR .or .u64 u (pw i*d)=u+pw i*d:=by
 have hp:=kd i;have U:0<=pw i*d:=XT (by omega) Y.1;have O:pw i=((2 ^ (20*i):Nat):Int):=by unfold pw;rw[Nat.pow_mul,Int.natCast_pow];rfl
 have Z:pw i<=1152921504606846976:=by
  have:=qe X
  rwa [show pw 3=1152921504606846976 by decide]at this
 unfold gR;simp only;have e1:(BitVec.ofInt IntKind.u64.bits u ||| BitVec.ofInt IntKind.u64.bits (pw i*d)).toNat=(u+pw i*d).toNat:=by
  rw[BitVec.toNat_or,BitVec.toNat_ofInt,BitVec.toNat_ofInt];have e:((2 ^ IntKind.u64.bits:Nat):Int)=18446744073709551616:=by decide
  rw[e];have e2:(u % 18446744073709551616).toNat=u.toNat:=by omega
  have e3:((pw i*d) % 18446744073709551616).toNat=d.toNat <<< (20*i):=by
   rw[Nat.shiftLeft_eq,Int.emod_eq_of_lt U (by omega),O];have:d=(d.toNat:Int):=by omega
   rw[this,<- WE,WG,WG,WD]
  rw[e2,e3,Nat.or_comm,<- Nat.shiftLeft_add_eq_or_of_lt (by omega),Nat.shiftLeft_eq];have:pw i*d=((d.toNat*2 ^ (20*i):Nat):Int):=by
   rw[O,WE,XJ];congr 1;omega
  omega
 rw[e1,wu (by omega)];omega
theorem SF {g:Nat} (h:(az g).length<=gC):mI (fc g)=some (decide (g=1)):=by
 have hL:gC=17592186043904:=rfl;have X:(fc (g:Int)).aa=az g:=rfl;have ab:Ln (g:Int)=(az g).length:=rfl;unfold mI;have U:g=1->(az g).length<=4:=by
  rintro rfl;exact VI (eE (k:=1) (by decide)) (by decide)
 suffices hI:∃r,pT (fc g)=some r∧((if r.2=true then some (r.1==1) else some false)=some (decide (g=1))) by
  obtain⟨r,h1,h2⟩:=hI;rw[h1,Xe,h2]
 unfold pT;rw[lF (by rw[ab];omega),Xe];simp only[W7,Wg,if_false,Option.bind_some,X]
 by_cases h4:(az g).length>4
 ·rw[if_pos (by simp;omega)];refine⟨_,rfl,?_⟩;have:g≠1:=fun hh=>by have:=U hh;omega
  simp[this]
 rw[if_neg (by simp;omega)];have key:∃r,aQ (mY (fc g)) (0,0)=some r∧(match r with | .inl u=>u=(g:Int) | .inr x=>x=(0,false)∧g≠1):=by
  refine bA (I:=fun i s=>s.2=(i:Int)∧s.1=dv ((az g).take i)) (az g).length _ ⟨rfl,rfl⟩ (e6 (by omega)) ?_;rintro i ⟨u,s⟩ hi ⟨h1,h2⟩;simp only at h1 h2;subst h1 h2;simp only[mY,X];have Y:=(bO g).take i;have ad:=bL Y;have Z:=kT Y;rw[VZ,WS hi]at Z
  by_cases O:i<(az g).length
  ·have gd:=(bO g).get O;rw[if_pos (by simpa using O),bo O,Xe];have hT:(if ((i:Int)==3)=true then some (decide ((az g)[i]>8)) else some false)=some (decide (i=3∧(az g)[i]>8)):=by
    by_cases h3:i=3
    ·subst h3;simp
    ·rw[if_neg (by simp;omega)];simp[h3]
   rw[hT,Xe]
   by_cases h8:i=3∧(az g)[i]>8
   ·right;rw[if_pos (by simpa using h8)];refine⟨.inr (0,false),rfl,rfl,?_⟩;rintro rfl;have:=eE (n:=1) (k:=1) (by decide);omega
   ·left;rw[if_neg (by simpa using h8),UW (by omega) gd (by omega),Xe];have hb:pw i*(az g)[i]<9223372036854775809:=by
     rcases (show i=0∨i=1∨i=2∨i=3 by omega) with h|h|h|h
     ·have:pw i=1:=by rw[h];decide
      rw[this];omega
     ·have:pw i=1048576:=by rw[h];decide
      rw[this];omega
     ·have:pw i=1099511627776:=by rw[h];decide
      rw[this];omega
     ·have:pw i=1152921504606846976:=by rw[h];decide
      rw[this];omega
    rw[Tz (by omega) ⟨ad,Z⟩ ⟨gd.1,hb⟩];exact⟨O,_,rfl,by rw[fG (by omega)];omega,by rw[dU O]⟩
  ·right;have:i=(az g).length:=by omega
   subst this;exact⟨.inl (dv ((az g).take (az g).length)),by rw[if_neg (by simp)],by rw[XI,aT]⟩
 obtain⟨r,h1,h2⟩:=key;rw[h1,Xe];cases r with
 | inr x=>obtain⟨rfl,h⟩:=h2;exact⟨_,rfl,by simp[h]⟩
 | inl u =>
  simp only at h2;subst h2;have hs:(fc (g:Int)).an=(g:Int).sign:=rfl;have ae:¬(g:Int).sign<0:=by have:=fa (g:Int);omega
  simp only[hs];rw[if_neg (by simp),Xe,if_neg (by simp),if_pos (by simp)]
  by_cases hg:(g:Int)<9223372036854775808
  ·rw[if_pos (by simpa using hg)];refine⟨_,rfl,?_⟩;simp only[if_true];rw[wrap64 (by omega) hg];congr 1
   by_cases h:g=1
   ·subst h;rfl
   ·have:¬((g:Int)=1):=by omega
    simp[h,this]
  ·rw[if_neg (by simpa using hg)];have:g≠1:=by omega
   exact⟨_,rfl,by simp[this]⟩
def mr (q:Rat):au:=au.mk (fc q.num) (fc q.den)
def LF (q:Rat):Nat:=max (Ln q.num) (Ln q.den)
def okF (f:au):Bool:=okB f.dQ&&okB f.dN&&(f.dN.an==1)&&decide (Nat.gcd (dv f.dQ.aa).toNat (dv f.dN.aa).toNat=1)
theorem De {f:au} : okF f=true↔∃q,f=mr q:=by
 obtain⟨p,q⟩:=f;unfold okF;simp only[Wh,beq_iff_eq,decide_eq_true_eq];constructor
 ·rintro⟨⟨⟨h1,h2⟩,h3⟩,h4⟩;obtain⟨x,rfl⟩:=nD.1 h1;obtain⟨y,rfl⟩:=nD.1 h2;have U:0<y:=by
   have:y.sign=1:=h3;rcases fa y with⟨a,b,c⟩|⟨a,b,c⟩|⟨a,b⟩<;>omega
  have h5:(dv (fc x).aa).toNat=x.natAbs:=by show (dv (az _)).toNat=_;rw[aT];rfl
  have h6:(dv (fc y).aa).toNat=y.natAbs:=by show (dv (az _)).toNat=_;rw[aT];rfl
  rw[h5,h6]at h4;refine⟨⟨x,y.natAbs,by omega,h4⟩,?_⟩;unfold mr;simp only;congr 2;omega
 ·rintro⟨q,O⟩;unfold mr at O;simp only[au.mk.injEq]at O;obtain⟨rfl,rfl⟩:=O;have X:=q.den_pos;refine⟨⟨⟨Dd _,Dd _⟩,X4 (by omega)⟩,?_⟩;have h5:(dv (fc q.num).aa).toNat=q.num.natAbs:=by show (dv (az _)).toNat=_;rw[aT];rfl
  have h6:(dv (fc (q.den:Int)).aa).toNat=q.den:=by show (dv (az _)).toNat=_;rw[aT];rfl
  rw[h5,h6];exact q.reduced
theorem OZ (q:Rat):okF (mr q)=true:=De.2 ⟨q,rfl⟩
def y8 (f:au):Prop:=f.dQ.aa.length<=gC∧f.dN.aa.length<=gC
theorem Jp {q:Rat} (h:LF q<=lK):y8 (mr q):=by
 unfold LF at h;exact⟨DK (show Ln q.num<=_ by omega),DK (show Ln q.den<=_ by omega)⟩
theorem v7 {f:au} (O:y8 f):eR f=some (okF f):=by
 have X:gC=17592186043904:=rfl;obtain⟨p,q⟩:=f;simp only[y8]at O;unfold eR okF;rw[yB (show Fit p.aa by unfold Fit;omega),Xe]
 by_cases h1:okB p=true
 ·simp only[h1,W7,Wg,if_false,W8];rw[yB (show Fit q.aa by unfold Fit;omega),Xe]
  by_cases h2:okB q=true
  ·simp only[h2,W7,Wg,if_false,W8,Option.bind_some]
   by_cases h3:q.an=1
   ·rw[if_neg (by simp[h3])];obtain⟨x,rfl⟩:=nD.1 h1;obtain⟨y,rfl⟩:=nD.1 h2;rw[R3 O.1 O.2,Xe];simp only[beq_self_eq_true,if_true];have h5:(dv (fc x).aa).toNat=x.natAbs:=by show (dv (az _)).toNat=_;rw[aT];rfl
    have h6:(dv (fc y).aa).toNat=y.natAbs:=by show (dv (az _)).toNat=_;rw[aT];rfl
    rw[SF,Xe,h5,h6]
    ·rw[h3];rfl
    ·have U:0<y.natAbs:=by
      have:y.sign=1:=h3;rcases fa y with⟨a,b,c⟩|⟨a,b,c⟩|⟨a,b⟩<;>omega
     have:=dy (Nat.gcd_le_right x.natAbs U);have h7:(az y.natAbs).length<=gC:=O.2;show (az (Nat.gcd x.natAbs y.natAbs)).length<=_;omega
   ·rw[if_pos (by simpa using h3)];simp[h3]
  ·simp only[h2,XD,if_true,Option.bind_some,XC]
 ·simp only[h1,XD,if_true,Option.bind_some,XC]
theorem v8 {q:Rat} (h:LF q<=lK):eR (mr q)=some true:=by rw[v7 (Jp h),OZ]
theorem Cz (q:Rat):Ln q.num<=LF q:=by unfold LF;omega
theorem Cy (q:Rat):Ln q.den<=LF q:=by unfold LF;omega
def LU (a b:Rat):Int:=if a<b then -1 else if b<a then 1 else 0
theorem J5 (a b:Rat):jo (a.num*b.den) (b.num*a.den)=LU a b:=by
 unfold jo LU;simp only[Rat.lt_iff]
theorem LM {a b:Rat} (h:LF a+LF b<=lK):fq (mr a) (mr b)=some (LU a b):=by
 have O:=Cz a;have U:=Cz b;have d1:=Cy a;have d2:=Cy b;have m1:=s7 a.num b.den;have m2:=s7 b.num a.den;unfold fq;rw[v8 (by omega),Xe];simp only[W7,Wg,if_false];rw[v8 (by omega),Xe,Xe];simp only[W7,Wg,if_false];show (fu (fc a.num) (fc b.den)).bind _=_;rw[HG (by omega) (by omega),Xe];show (fu (fc b.num) (fc a.den)).bind _=_;rw[HG (by omega) (by omega),Xe,HY (by omega) (by omega),Xe,J5]
theorem Lx {l:List Int} (O:Fit l) (U:Dg l):e7 l=some (az (dv l).toNat):=by
 have h:=sX O U;obtain⟨r,h1,k,rfl,hk,_⟩:=Cm O;unfold dh at h;unfold e7;have e:pz l=iK l:=rfl;rw[h1,Xe,vQ hk,Xe]at h;rw[e,h1,Xe,vQ hk,Xe,CB (by unfold Fit at O;simp;omega),Xe];exact h
theorem yS {l:List Int} {n:Nat} (O:Fit l) (U:Dg l) (X:dv l=n):e7 l=some (az n):=by
 rw[Lx O U,X];rfl
theorem KL {s:Int} {l:List Int} (x:Int) (O:Fit l) (U:Dg l) (X:dv l=x.natAbs) (hs:x≠0->s=x.sign):jl s l=some (fc x):=by
 have h:=BW x O U X hs;unfold eP at h;rw[sX O U]at h;unfold jl;rw[Lx O U];exact h
theorem xU {x:Int} {s:Int} {n:Nat} (O:n=x.natAbs) (hs:x≠0->s=x.sign) (U:n≠0->(az n).length<=17592186044416):jl s (az n)=some (fc x):=by
 subst O;refine KL x ?_ (bO _) (aT _) hs;unfold Fit
 by_cases h:x.natAbs=0
 ·rw[h,bK];simp
 ·exact U h
theorem G6 {s:Int} {l:List Int} (Y:Fit l):∃r,aQ (ky ⟨s,l⟩) 0=some r∧(match r with | .inl _=>Dg l | .inr x=>x=false∧¬Dg l):=by
 refine bA (I:=fun i s=>s=(i:Int)∧Dg (l.take i)) l.length _ ⟨rfl,by simpa using Dg.nil⟩ (e6 Y) ?_;unfold Fit at Y;rintro i s Z ⟨rfl,U⟩;simp only[ky]
 by_cases O:i<l.length
 ·rw[if_pos (by simpa using O),bo O,Xe]
  by_cases h1:l[i]<0
  ·right;exact⟨.inr false,by rw[if_pos (by simpa using h1)],rfl,fun X=>by have:=X.get O;omega⟩
  ·by_cases h2:l[i]>=1048576
   ·right;exact⟨.inr false,by rw[if_neg (by simpa using h1),if_pos (by simpa using h2)],rfl,fun X=>by have:=X.get O;omega⟩
   ·left;refine⟨O,_,by rw[if_neg (by simpa using h1),if_neg (by simpa using h2)],by rw[fG (by omega)];omega,?_⟩;have e:l.take (i+1)=l.take i++[l[i]]:=by rw[XO];simp[O]
    rw[e];exact U.append (Dg.mk (by omega) Dg.nil)
 ·right;have:i=l.length:=by omega
  subst this;rw[XI]at U;exact⟨.inl (),by rw[if_neg (by simp)],U⟩
theorem IZ {b:aH} (Z:Fit b.aa):dH b=some (okB b):=by
 obtain⟨s,l⟩:=b;simp only[Fit]at Z;obtain⟨r,h1,h2⟩:=G6 (s:=s) (l:=l) Z;unfold dH okB;rw[h1,Xe];cases r with
 | inr x =>
  obtain⟨rfl,h⟩:=h2;simp[h]
 | inl u =>
  simp only at h2 ⊢;simp only[h2,decide_true,W8]
  by_cases X:l=[]
  ·subst X
   by_cases O:s=0
   ·subst O;simp
   ·have:(s==0)=false:=by simpa using O
    simp only[List.length_nil,List.getLast?_nil,this];split<;>(try split)<;>simp
  ·have hp:0<l.length:=Xw.2 X;have e:IntKind.i64.wrap ((l.length:Int)-1)=((l.length-1:Nat):Int):=by rw[fG (by omega)];omega
   have Y:((l.length:Int)==0)=false:=by simpa using X
   rw[e,bo (by omega),X3 X,List.getLast_eq_getElem,Y];simp only[Option.bind_some,Wg,if_false]
   by_cases hs:s < -1
   ·rw[if_pos (by simpa using hs)];have h1:(s==1)=false:=by simp;omega
    have h2:(s == -1)=false:=by simp;omega
    simp[h1,h2]
   ·rw[if_neg (by simpa using hs)]
    by_cases U:s>1
    ·rw[if_pos (by simpa using U)];have h1:(s==1)=false:=by simp;omega
     have h2:(s == -1)=false:=by simp;omega
     simp[h1,h2]
    ·rw[if_neg (by simpa using U)];rcases (show s = -1∨s=0∨s=1 by omega) with rfl|rfl|rfl<;>simp
theorem kM {x:Int} (h:Ln x<=17592186044416):dH (fc x)=some true:=by
 rw[IZ (show Fit (fc x).aa from h),Dd]
theorem rZ (l:List Int) (i:Nat):gJ l (i:Int)=some (gd l i):=by
 unfold gJ
 by_cases h:i<l.length
 ·rw[if_pos (by simpa using h),bo h,Xe,Kv h]
 ·rw[if_neg (by simpa using h),Fi (by omega)]
theorem HH {a b l0:List Int} {i n:Nat} (ha:Dg a) (hb:Dg b) (Z:i<a.length) (h0:Dg l0) (hn:l0.length=n) (hi:i+b.length<n) (hf:n<=17592186044416) (hz:∀j (O:j<l0.length),i+b.length<=j->l0[j]=0) :
  ∃l,aQ (kB a b (i:Int)) (0,0,l0)=some l∧l.length=n∧Dg l∧(∀j (O:j<l.length),i+b.length<j->l[j]=0)∧dv l=dv l0+pw i*(a[i]*dv b):=by
 have hx:=ha.get Z;refine bA (I:=fun k s=>s.2.1=(k:Int)∧s.2.2.length=n∧Dg s.2.2∧(0<=s.1∧s.1<1048576)∧(∀j (O:j<s.2.2.length),i+b.length<=j->i+k<=j->s.2.2[j]=0)∧(k=b.length+1->s.1=0)∧dv s.2.2+pw (i+k)*s.1=dv l0+pw i*(a[i]*dv (b.take k)))
  (b.length+1) _ ⟨rfl,hn,h0,by simp,fun j O h _=>hz j O h,by omega,by simp[dv]⟩ (e6 (by omega)) ?_
 rintro k ⟨c,s,l⟩ hk ⟨h1,hl,hd,hc,hz,X,he⟩;simp only at h1 hl hd hc hz X he;subst h1;simp only[kB];have hT:(if decide ((k:Int)<(b.length:Int))=true then some true else some (decide (c>0)))=some (decide (k<b.length∨c>0)):=by
  by_cases h:k<b.length
  ·rw[if_pos (by simpa using h)];simp[h]
  ·rw[if_neg (by simpa using h)];simp[h]
 rw[hT,Xe]
 by_cases Y:k<b.length∨c>0
 ·left;have aa:k<=b.length:=by
   rcases Y with h|h
   ·omega
   ·rcases Wr b.length k with h'|h'
    ·have:=X (by omega);omega
    ·exact h'
  have U:i+k<l.length:=by omega
  have ei:IntKind.i64.wrap ((i:Int)+(k:Int))=((i+k:Nat):Int):=by rw[fG (by omega)];omega
  have gb:=Ku hb k;have gl:=hd.get U;have ah:0<=a[i]*gd b k:=XT hx.1 gb.1;have ai:a[i]*gd b k<=1048575*1048575:=XU (by omega) (by omega) gb.1 (by omega);rw[if_pos (by simpa using Y),ei,bo U,Xe,bo Z,Xe,rZ,Xe,fG (x:=a[i]*gd b k) (by omega),fG (x:=l[i+k]+a[i]*gd b k) (by omega),fG (x:=l[i+k]+a[i]*gd b k+c) (by omega),SE (by omega) (by omega),Xe,Qt (by omega) (by omega) (by omega),Xe];have e1:IntKind.i64.wrap ((k:Int)+1)=((k+1:Nat):Int):=by rw[fG (by omega)];omega
  refine⟨by omega,_,rfl,e1,by simpa using hl,hd.set _ (by omega),by simp only;omega,fun j O ab ae =>?_,fun aj =>?_,?_⟩
  ·simp only[Int.toNat_natCast]at O ⊢;rw[XV (by omega)];exact hz j (by simpa using O) ab (by omega)
  ·have ak:k=b.length:=by omega
   simp only;rw[Fi (by omega),XZ,hz _ U (by omega) (VG _)];omega
  ·simp only[Int.toNat_natCast];rw[tj U,su];have hp:=yv (i+k) (l[i+k]+a[i]*gd b k+c);rw[XM (pw (i+k)),XM (pw (i+k))]at hp;have e2:pw i*(a[i]*(dv (b.take k)+pw k*gd b k))=pw i*(a[i]*dv (b.take k))+pw (i+k)*(a[i]*gd b k):=by
    rw[XM,XM,yu];congr 1;rw[XW a[i],<- XN]
   rw[e2,XX,show i+(k+1)=i+k+1 by omega];omega
 ·right;have aa:b.length<=k:=by omega
  have ad:c=0:=by omega
  subst ad;refine⟨l,by rw[if_neg (by simpa using Y)],hl,hd,fun j O h=>hz j O (by omega) (by omega),?_⟩;rw[C0 aa,XZ]at he;omega
theorem Jd {a b:List Int} (ha:Dg a) (hb:Dg b) (hf:a.length+b.length<=17592186044416):gK a b=some (az (dv a*dv b).toNat):=by
 have key:∃l,aQ (kA a b) (0,List.replicate (a.length+b.length) 0)=some l∧l.length=a.length+b.length∧Dg l∧dv l=dv a*dv b:=by
  refine bA (I:=fun i s=>s.1=(i:Int)∧s.2.length=a.length+b.length∧Dg s.2∧(∀j (U:j<s.2.length),i+b.length<=j->s.2[j]=0)∧dv s.2=dv (a.take i)*dv b)
   a.length _ ⟨rfl,by simp,Dg.rep _,fun j U _=>by simp,by simp[dv,w7]⟩ (e6 (by omega)) ?_
  rintro i ⟨s,l⟩ hi ⟨h1,X,Y,hz,he⟩;simp only at h1 X Y hz he;subst h1;simp only[kA]
  by_cases O:i<a.length
  ·left;obtain⟨m,g1,g2,g3,g4,g5⟩:=HH (i:=i) (n:=a.length+b.length) ha hb O Y X (by omega) hf hz;rw[if_pos (by simpa using O),g1,Xe];have e1:IntKind.i64.wrap ((i:Int)+1)=((i+1:Nat):Int):=by rw[fG (by omega)];omega
   refine⟨O,_,rfl,e1,g2,g3,fun j U aa=>g4 j U (by omega),?_⟩;rw[g5,he,dU O,XY,XN]
  ·right;have Z:i=a.length:=by omega
   subst Z;refine⟨l,by rw[if_neg (by simp)],X,Y,?_⟩;rw[he,XI]
 obtain⟨l,h1,h2,h3,h4⟩:=key;unfold gK;have e:IntKind.i64.wrap ((a.length:Int)+(b.length:Int))=((a.length+b.length:Nat):Int):=by rw[fG (by omega)];omega
 rw[e,Tn hf,Xe,h1,Xe,pf,Lx (by unfold Fit;omega) h3,h4]
theorem AK (l:List Int) (i:Nat):dv l=dv (l.take i)+pw i*dv (l.drop i):=by
 by_cases h:i<=l.length
 ·exact fD l h
 ·rw[W5 (by omega),Xr (by omega)];simp[dv]
theorem qY (l:List Int) (i:Nat):dv (l.drop i)=gd l i+1048576*dv (l.drop (i+1)):=by
 by_cases h:i<l.length
 ·rw[gD h,Kv h]
 ·rw[Xr (by omega),Xr (by omega),Fi (by omega)];simp[dv]
theorem w8 {l:List Int} (h:Dg l) (i:Nat):0<=dv (l.take i)∧dv (l.take i)<pw i:=by
 have h1:=kT (h.take i);have h2:=qe (show (l.take i).length<=i by rw[VZ];omega);exact⟨bL (h.take i),by omega⟩
theorem Oe {a b:List Int} (O:Dg a) (U:Dg b) {k:Nat} (he:dv (a.drop (k+1))=dv (b.drop (k+1))) (X:gd a k<gd b k):dv a<dv b:=by
 have Y:=AK a k;have Z:=AK b k;rw[qY]at Y Z;have la:=w8 O k;have lb:=w8 U k;have hp:=kd k;have:pw k*(gd a k+1048576*dv (a.drop (k+1))+1)<=pw k*(gd b k+1048576*dv (b.drop (k+1))):=XL (by omega) (by omega);rw[XM _ _ 1,XK]at this;omega
theorem RA {a b:List Int} (Y:Dg a) (Z:Dg b) (U:Fit a) (X:Fit b):lC a b=some (decide (dv a<dv b)):=by
 unfold Fit at U X;generalize hm:max a.length b.length=m;have em:(if (b.length:Int)>(a.length:Int) then (b.length:Int) else (a.length:Int))=(m:Int):=by split<;>omega
 have key:∃r,aQ (l6 a b) ((m:Int)-1)=some r∧(match r with | .inl _=>¬dv a<dv b | .inr x=>x=decide (dv a<dv b)):=by
  refine bA (I:=fun i s=>s=((m-i:Nat):Int)-1∧dv (a.drop (m-i))=dv (b.drop (m-i))) m _ ⟨rfl,?_⟩ (e6 (by omega)) ?_
  ·rw[Xr (by omega),Xr (by omega)]
  rintro i s hi ⟨rfl,he⟩;generalize hk:m-i=k at *;simp only[l6]
  by_cases h0:0<k
  ·have ek:((k:Int)-1)=((k-1:Nat):Int):=by omega
   rw[ek,if_pos (by simp),rZ,Xe,rZ,Xe];rw[show k=k-1+1 by omega]at he
   by_cases O:gd a (k-1)=gd b (k-1)
   ·left;rw[if_neg (by simpa using O)];refine⟨by omega,_,rfl,by rw[fG (by omega)];omega,?_⟩;rw[show m-(i+1)=k-1 by omega,qY,qY b,O,he]
   ·right;rw[if_pos (by simpa using O)];refine⟨.inr (decide (gd a (k-1)<gd b (k-1))),rfl,?_⟩;rcases Int.lt_or_gt_of_ne O with h|h
    ·have:=Oe Y Z he h;simp[h,this]
    ·have:=Oe Z Y he.symm h;have h1:¬gd a (k-1)<gd b (k-1):=by omega
     have h2:¬dv a<dv b:=by omega
     simp[h1,h2]
  ·right;have:k=0:=by omega
   subst this;refine⟨.inl (),by rw[if_neg (by simp)],?_⟩;simp only[W6]at he;omega
 obtain⟨r,h1,h2⟩:=key;unfold lC;rw[em,fG (x:=(m:Int)-1) (by omega),h1,Xe];cases r with
 | inl u=>simp only at h2 ⊢;simp[h2]
 | inr x=>simp only at h2 ⊢;rw[h2]
theorem Sz {a b:List Int} (ha:Dg a) (hb:Dg b) (hf:Fit a) (Y:b.length<=a.length) (hle:dv b<=dv a):kK a b=some (az (dv a-dv b).toNat):=by
 unfold Fit at hf;have key:∃l,aQ (kz a b) (0,0,[])=some l∧l.length=a.length∧Dg l∧dv l=dv a-dv b:=by
  refine bA (I:=fun i s=>s.2.1=(i:Int)∧s.2.2.length=i∧Dg s.2.2∧(0<=s.1∧s.1<=1)∧dv s.2.2+dv (b.take i)=dv (a.take i)+pw i*s.1)
   a.length _ ⟨rfl,rfl,Dg.nil,by simp,by simp[dv]⟩ (e6 (by omega)) ?_
  rintro i ⟨c,s,l⟩ hi ⟨h1,U,X,hc,he⟩;simp only at h1 U X hc he;subst h1;simp only[kz]
  by_cases O:i<a.length
  ·left;have ga:=ha.get O;have gb:=Ku hb i;rw[if_pos (by simpa using O),bo O,Xe,rZ,Xe,fG (x:=a[i]-gd b i) (by omega),fG (x:=a[i]-gd b i-c) (by omega)];have e1:IntKind.i64.wrap ((i:Int)+1)=((i+1:Nat):Int):=by rw[fG (by omega)];omega
   by_cases hn:a[i]-gd b i-c<0
   ·rw[if_pos (by simpa using hn),fG (by omega),CB (by simp;omega),Xe];refine⟨O,_,rfl,e1,by simp[U],X.append (Dg.mk (by omega) Dg.nil),by simp,?_⟩;simp only;rw[eu,su,dU O,U,K5];simp only[dv,XZ,Int.add_zero,XK];rw[XM,XX,XX];omega
   ·rw[if_neg (by simpa using hn),CB (by simp;omega),Xe];refine⟨O,_,rfl,e1,by simp[U],X.append (Dg.mk (by omega) Dg.nil),by simp,?_⟩;simp only;rw[eu,su,dU O,U];simp only[dv,XZ,Int.add_zero];rw[XX,XX];omega
  ·right;have Z:i=a.length:=by omega
   subst Z;refine⟨l,by rw[if_neg (by simp)],U,X,?_⟩;rw[C0 Y,XI]at he;have h1:=kT X;rw[U]at h1;have aa:c=0:=by
    rcases (show c=0∨c=1 by omega) with h|h
    ·exact h
    ·subst h;omega
   subst aa;omega
 obtain⟨l,h1,h2,h3,h4⟩:=key;unfold kK;rw[h1,Xe,pf,Lx (by unfold Fit;omega) h3,h4]
theorem GY {n R:Nat} (hn:n≠0) (Y:(az n).length<=17592186043904) (Z:(az R).length<=17592186043906) (hR:R<1048576*n):aQ (j1 (az n) (az R)) (0,1048576)=some ((R / n:Nat):Int):=by
 have key:∃r,aQ (j1 (az n) (az R)) (0,1048576)=some r∧r=((R / n:Nat):Int):=by
  refine pc (I:=fun (s:Int×Int)=>∃O U:Nat,s=((O:Int),(U:Int))∧O<U∧U<=1048576∧O*n<=R∧R<U*n) (μ:=fun (s:Int×Int)=>(s.2-s.1).toNat) _ ⟨0,1048576,rfl,by omega,by omega,by omega,hR⟩ (by simp only;unfold FU;omega) ?_;rintro _ ⟨O,U,rfl,h1,h2,h3,h4⟩;simp only[j1];rw[fG (x:=(U:Int)-O) (by omega)]
  by_cases X:(U:Int)-O>1
  ·left;have em:((O:Int)+U) / 2=(((O+U) / 2:Nat):Int):=by omega
   have hd:Dg [(((O+U) / 2:Nat):Int)]:=Dg.mk (by omega) Dg.nil;have ed:dv (az n)*dv [(((O+U) / 2:Nat):Int)]=((n*((O+U) / 2):Nat):Int):=by rw[aT,WE];simp[dv]
   rw[if_pos (by simpa using X),fG (x:=(O:Int)+U) (by omega),Qt (by omega) (by omega) (by omega),Xe,em,Jd (bO n) hd (by simp;omega),Xe,ed,WG];have aa:(az (n*((O+U) / 2))).length<=17592186043905:=by
    have:((n*((O+U) / 2):Nat):Int)<pw ((az n).length+1):=by
     rw[ij,WE];have a1:=dL n;have:(n:Int)*((O+U) / 2:Nat)<=n*1048576:=XL (by omega) (by omega);omega
    have:=eE this;omega
   rw[RA (bO R) (bO _) (by unfold Fit;omega) (by unfold Fit;omega),Xe,aT,aT]
   by_cases hc:R<n*((O+U) / 2)
   ·rw[if_pos (decide_eq_true (by omega))];refine⟨_,rfl,⟨O,(O+U) / 2,rfl,by omega,by omega,h3,by rw[WD];exact hc⟩,by simp only;omega⟩
   ·rw[if_neg (by rw[decide_eq_true_eq];omega)];refine⟨_,rfl,⟨(O+U) / 2,U,rfl,by omega,by omega,by rw[WD];omega,h4⟩,by simp only;omega⟩
  ·right;refine⟨_,by rw[if_neg (by simpa using X)],?_⟩;have:U=O+1:=by omega
   subst this;congr 1;have:R / n=O:=by
    apply Nat.div_eq_of_lt_le
    ·exact h3
    ·exact h4
   exact this.symm
 obtain⟨r,h1,rfl⟩:=key;exact h1
theorem TA {m n:Nat} (hn:n≠0) (ai:(az m).length<=17592186043904) (ab:(az n).length<=17592186043904):mM (az m) (az n)=some (az (m / n),az (m % n)):=by
 generalize ha:az m=a at *;have ad:Dg a:=by rw[<- ha];exact bO m
 have key:∃r,aQ (l7 a (az n)) ([],(a.length:Int)-1,List.replicate a.length 0)=some r∧r.2.length=a.length∧Dg r.2∧∃R:Nat,r.1=az R∧R<n∧dv a=n*dv r.2+R:=by
  refine bA (I:=fun i s=>s.2.1=((a.length-i:Nat):Int)-1∧s.2.2.length=a.length∧Dg s.2.2∧∃R:Nat,s.1=az R∧R<n∧dv (a.drop (a.length-i))=n*dv (s.2.2.drop (a.length-i))+R)
   a.length _ ⟨rfl,by simp,Dg.rep _,0,bK.symm,by omega,by simp[dv]⟩ (e6 (by omega)) ?_
  rintro i ⟨r,s,l⟩ hi ⟨h1,hl,hg,R,h2,hR,he⟩;simp only at h1 hl hg h2 he;subst h1 h2;generalize hk:a.length-i=k at *;simp only[l7]
  by_cases h0:0<k
  ·left;have O:k-1<a.length:=by omega
   have Y:k-1<l.length:=by omega
   have ek:((k:Int)-1)=((k-1:Nat):Int):=by omega
   have ga:=ad.get O;have aj:=dy (show R<=n by omega);have ae:Dg ([a[k-1]]++az R):=(Dg.mk ga Dg.nil).append (bO R);obtain⟨X,hX⟩:∃X:Nat,a[k-1]+1048576*(R:Int)=X:=⟨(a[k-1]+1048576*(R:Int)).toNat,by omega⟩;have Z:X<1048576*n:=by omega
   have ah:(az X).length<=17592186043906:=by
    have:(X:Int)<pw ((az n).length+1):=by
     rw[ij];have a1:=dL n;omega
    have:=eE this;omega
   rw[ek,if_pos (by simp),bo O,Xe,CB (by simp;omega),Xe,yS (n:=X) (by unfold Fit;simp;omega) ae (by rw[eu,aT];simp only[dv,List.length_cons,List.length_nil];rw[show pw (0+1)=1048576 by decide];omega),Xe,GY hn ab ah Z,Xe,bo Y,Xe];have hq:X / n<1048576:=Xv (by rw[WD];exact Z);have ak:(0:Int)<=((X / n:Nat):Int):=Int.natCast_nonneg _;rw[yS (n:=X / n) (by simp[Fit]) (Dg.mk (by omega) Dg.nil) (by simp[dv]),Xe];have al:(az (X / n)).length<=1:=eE (by rw[ij,l4];omega);have U:(dv (az n)*dv (az (X / n))).toNat=n*(X / n):=by rw[aT,aT,<- WE];rfl
   rw[Jd (bO _) (bO _) (by omega),Xe,U];have hle:n*(X / n)<=X:=Nat.mul_div_le X n;rw[Sz (bO _) (bO _) (by unfold Fit;omega) (dy hle) (by rw[aT,aT];omega),Xe,aT,aT];have aa:((X:Int)-(n*(X / n):Nat)).toNat=X % n:=by
    have:=XH X n;omega
   rw[aa];have e1:IntKind.i64.wrap (((k-1:Nat):Int)-1)=((k-1:Nat):Int)-1:=fG (by omega);refine⟨by omega,_,rfl,by rw[e1,show a.length-(i+1)=k-1 by omega],by simpa using hl,hg.set _ (by omega),X % n,rfl,Wz _ (by omega),?_⟩;simp only[Int.toNat_natCast];rw[show a.length-(i+1)=k-1 by omega,gD O,gD (l:=l.set (k-1) _) (i:=k-1) (by simpa using Y),show k-1+1=k by omega,List.getElem_set_self,List.drop_set_of_lt (by omega),he,XM,XM];have h3:=XH X n;have e3:(n:Int)*(1048576*dv (l.drop k))=1048576*(n*dv (l.drop k)):=XW _ _ _;rw[e3,<- WE n (X / n)];omega
  ·right;have:k=0:=by omega
   subst this;refine⟨(az R,l),by rw[if_neg (by simp)],hl,hg,R,rfl,hR,?_⟩;simpa using he
 obtain⟨⟨r,l⟩,h1,h2,h3,R,h4,h5,h6⟩:=key;simp only at h2 h3 h4 h6;unfold mM;rw[Tn (by omega),Xe,fG (x:=(a.length:Int)-1) (by omega),h1,Xe];simp only;rw[<- ha,aT]at h6;have an:=bL h3;obtain⟨Q,hQ⟩:∃Q:Nat,dv l=Q:=⟨(dv l).toNat,by omega⟩;rw[hQ]at h6;have hm:m=n*Q+R:=by
  have:((m:Nat):Int)=((n*Q+R:Nat):Int):=by rw[Int.natCast_add,WE];exact h6
  omega
 have e1:m / n=Q:=by rw[hm,Nat.mul_add_div (by omega),X2 h5,Wf]
 have e2:m % n=R:=by rw[hm,Nat.mul_add_mod,WB h5]
 rw[yS (n:=Q) (by unfold Fit;omega) h3 hQ,Xe,h4,e1,e2]
theorem Mb {a b:Nat} (Z:(az a).length<=gC) (hb:(az b).length<=gC):aQ lA (az a,az b)=some (az (Nat.gcd a b)):=by
 have hL:gC=17592186043904:=rfl;have key:∃r,aQ lA (az a,az b)=some r∧r=az (Nat.gcd a b):=by
  have la:=KH (dL a);have lb:=KH (dL b)
  let val:List Int->Nat:=fun l=>(dv l).toNat
  have O:∀n,val (az n)=n:=fun n=>by show (dv (az n)).toNat=n;rw[aT];rfl
  refine pc (I:=fun (s:List Int×List Int)=>∃x y,s=(az x,az y)∧Nat.gcd x y=Nat.gcd a b∧(az x).length<=gC∧(az y).length<=gC)
   (μ:=fun (s:List Int×List Int)=>lg (val s.1)+lg (val s.2)+(if val s.1<val s.2 then 1 else 0)) _ ⟨a,b,rfl,rfl,Z,hb⟩ (by simp only[O];unfold FU;split<;>omega) ?_
  rintro _ ⟨x,y,rfl,Y,hx,hy⟩;simp only[lA]
  by_cases h0:y=0
  ·right;subst h0;refine⟨_,by rw[bK,if_neg (by simp)],?_⟩;rw[<- Y,X6]
  ·left;have X:0<(az y).length:=Xw.2 (fun h=>h0 (mF.1 h));rw[if_pos (by simpa using X),TA h0 (by omega) (by omega),Xe];have aa:=Wz x (X7 h0);refine⟨_,rfl,⟨y,x % y,rfl,?_,hy,?_⟩,?_⟩
   ·rw[<- Y,Nat.gcd_comm y,<- Nat.gcd_rec,Nat.gcd_comm]
   ·have:=dy (Nat.mod_le x y);omega
   ·simp only[O];rw[if_neg (by omega)]
    by_cases U:x<y
    ·rw[if_pos U,WB U];omega
    ·rw[if_neg U];have:lg (x % y)<lg x:=by
      apply RD;have h1:=XH x y;have h2:1<=x / y:=(Nat.one_le_div_iff (by omega)).2 (by omega);have h3:y*1<=y*(x / y):=Nat.mul_le_mul_left _ h2;omega
     omega
 obtain⟨r,h1,rfl⟩:=key;exact h1
theorem UB {x y:Int} (Z:Ln x<=gC) (hy:Ln y<=gC):qg (fc x) (fc y)=some (fc (Int.gcd x y),0):=by
 have hL:gC=17592186043904:=rfl;unfold qg;rw[kM (by omega),Xe];simp only[W7,Wg,if_false];rw[kM (by omega),Xe,Xe];simp only[W7,Wg,if_false];have O:(fc x).aa=az x.natAbs:=rfl;have U:(fc y).aa=az y.natAbs:=rfl;rw[O,U];have Y:(az x.natAbs).length<=17592186043904:=by show Ln x<=_;omega
 have fy:(az y.natAbs).length<=17592186043904:=by show Ln y<=_;omega
 have fg:(az (Nat.gcd x.natAbs y.natAbs)).length<=17592186043904:=by
  by_cases h:y.natAbs=0
  ·rw[h,X6];exact Y
  ·have:=dy (Nat.gcd_le_right x.natAbs (X7 h));omega
 have X:Nat.gcd x.natAbs y.natAbs=((Int.gcd x y:Nat):Int).natAbs:=rfl;rw[Mb (by omega) (by omega),Xe,xU (x:=(Int.gcd x y:Int)) X ?_ (fun _=>by omega),Xe];intro h;rw[X4 (by omega)]
theorem OY {x:Int} (hx : -9223372036854775808<=x∧x<9223372036854775808):∃l,aQ qh (x,[])=some l∧Dg l∧dv l=x.natAbs∧l.length<=5:=by
 refine pc (I:=fun (s:Int×List Int)=>Dg s.2∧dv s.2+pw s.2.length*s.1.natAbs=x.natAbs∧s.2.length<=5∧(s.1=0∨s.2.length<5)) (μ:=fun (s:Int×List Int)=>s.1.natAbs) _ ⟨Dg.nil,by simp[dv,l4],by simp,by simp⟩ (by simp only;unfold FU;omega) ?_;rintro⟨u,l⟩ ⟨U,h2,h3,h5⟩;simp only at U h2 h3 h5;have hp:=kd l.length;have Y:=bL U;have hu:(u.natAbs:Int)<=x.natAbs:=by
  have:1*(u.natAbs:Int)<=pw l.length*u.natAbs:=X1 (by omega) (by omega);omega
 simp only[qh]
 by_cases Z:u≠0
 ·left;have aa:l.length<4:=by
   rcases Wr l.length 4 with h|h
   ·exact h
   ·have h4:l.length=4:=by omega
    rw[h4,Vz]at h2;omega
  have hm:zl .i64 u 1048576=some (u.tmod 1048576):=by unfold zl;rw[if_neg (by decide)]
  have X:vf .i64 u 1048576=some (u.tdiv 1048576):=by
   unfold vf;have:(u.tdiv 1048576).natAbs=u.natAbs / 1048576:=Int.natAbs_tdiv u 1048576;rw[if_neg (by decide),fG (by omega)]
  have ha:(u.tmod 1048576).natAbs=u.natAbs % 1048576:=Int.natAbs_tmod u 1048576;have hb:(u.tdiv 1048576).natAbs=u.natAbs / 1048576:=Int.natAbs_tdiv u 1048576;have ab:=yv l.length (u.natAbs:Int);rw[if_pos (by simpa using Z),hm,Xe];have fin:∀d:Int,d=((u.natAbs % 1048576:Nat):Int)->(Dg (l++[d])∧dv (l++[d])+pw (l++[d]).length*((u.tdiv 1048576).natAbs:Int)=x.natAbs∧(l++[d]).length<=5∧(u.tdiv 1048576=0∨(l++[d]).length<5))∧(u.tdiv 1048576).natAbs<u.natAbs:=by
   rintro d rfl;refine⟨⟨U.append (Dg.mk (by omega) Dg.nil),?_,by simp;omega,by right;simp;omega⟩,by omega⟩;rw[hb];simp only[eu,dv,WN,List.length_cons,List.length_nil,XZ,Int.add_zero,Wt];rw[Int.natCast_emod,Int.natCast_ediv];have:((1048576:Nat):Int)=1048576:=rfl;rw[this];omega
  by_cases O:u.tmod 1048576<0
  ·rw[if_pos (by simpa using O),fG (x:=0-u.tmod 1048576) (by omega),CB (by simp;omega),Xe,X,Xe];have:=fin (0-u.tmod 1048576) (by omega);exact⟨_,rfl,this.1,this.2⟩
  ·rw[if_neg (by simpa using O),CB (by simp;omega),Xe,X,Xe];have:=fin (u.tmod 1048576) (by omega);exact⟨_,rfl,this.1,this.2⟩
 ·right;have:u=0:=by omega
  subst this;refine⟨l,by rw[if_neg (by simp)],U,?_,h3⟩;simp at h2;omega
theorem Vp {x:Int} (h : -9223372036854775808<=x∧x<9223372036854775808):tO x=some (fc x):=by
 unfold tO
 by_cases O:x=0
 ·subst O;rw[xW];rfl
 ·have U:(if decide (x<0)=true then some (-1:Int) else some 1)=some x.sign:=by
   rcases fa x with⟨a,b,c⟩|⟨a,b,c⟩|⟨a,b⟩
   ·rw[if_neg (by simp;omega),a]
   ·rw[if_pos (by simp;omega),a]
   ·exact absurd b O
  obtain⟨l,h1,h2,h3,h4⟩:=OY h;rw[if_neg (by simpa using O),U,Xe,h1,Xe,pf,KL x (by unfold Fit;omega) h2 h3 (fun _=>rfl)]
instance:DecidableEq aH:=fun a b=>decidable_of_iff (a.an=b.an∧a.aa=b.aa) (by cases a;cases b;simp)
instance:DecidableEq au:=fun a b=>decidable_of_iff (a.dQ=b.dQ∧a.dN=b.dN) (by cases a;cases b;simp)
theorem MA {b c:aH} (U:Fit b.aa) (X:b.aa.length=c.aa.length):∃r,aQ (l5 b c) 0=some r∧(match r with | .inl _=>b.aa=c.aa | .inr x=>x=false∧b.aa≠c.aa):=by
 refine bA (I:=fun i s=>s=(i:Int)∧b.aa.take i=c.aa.take i) b.aa.length _ ⟨rfl,by simp⟩ (e6 U) ?_;unfold Fit at U;rintro i s Y ⟨rfl,he⟩;simp only[l5]
 by_cases O:i<b.aa.length
 ·rw[if_pos (by simpa using O),bo O,Xe,bo (by omega),Xe]
  by_cases hx:b.aa[i]=c.aa[i]
  ·left;rw[if_neg (by simpa using hx)];refine⟨O,_,rfl,by rw[fG (by omega)];omega,?_⟩;rw[XO,XO,he];simp[O,show i<c.aa.length by omega,hx]
  ·right;rw[if_pos (by simpa using hx)];refine⟨.inr false,rfl,rfl,fun h=>hx ?_⟩;simp[h]
 ·right;have:i=b.aa.length:=by omega
  subst this;refine⟨.inl (),by rw[if_neg (by simp)],?_⟩;rw[XI,W5 (by omega)]at he;exact he
theorem QS {b c:aH} (U:Fit b.aa):lB b c=some (decide (b=c)):=by
 have O:b=c↔b.an=c.an∧b.aa=c.aa:=by cases b;cases c;simp
 unfold lB
 by_cases h1:b.an=c.an
 ·rw[if_neg (by simpa using h1),Xe]
  by_cases h2:b.aa.length=c.aa.length
  ·rw[if_neg (by simp;omega)];obtain⟨r,h3,h4⟩:=MA U h2;rw[h3,Xe];cases r with
   | inl u=>simp only at h4 ⊢;simp[O,h1,h4]
   | inr x=>simp only at h4 ⊢;simp[O,h1,h4.1,h4.2]
  ·rw[if_pos (by simp;omega)];have:b≠c:=fun h=>h2 (by rw[h]);simp[this]
 ·rw[if_pos (by simpa using h1),Xe,if_pos rfl];have:b≠c:=fun h=>h1 (by rw[h]);simp[this]
theorem TE {b c:aH} (O:Fit b.aa):lB b c=some (decide (b=c)):=QS O
theorem DI {x y:Int} (hx:Ln x<=gC) (hy:Ln y<=gC):gn (fc x) (fc y)=some (jo x y):=by
 have hL:gC=17592186043904:=rfl;unfold gn;rw[kM (by omega),Xe];simp only[W7,Wg,if_false];rw[kM (by omega),Xe];simp only[W7,Wg,if_false];have fx:(az x.natAbs).length<=17592186043904:=by show Ln x<=_;omega
 have fy:(az y.natAbs).length<=17592186043904:=by show Ln y<=_;omega
 rw[TE (by unfold Fit;show Ln x<=_;omega),Xe,Xe];have Y:(fc x).aa=az x.natAbs:=rfl;have Z:(fc y).aa=az y.natAbs:=rfl;have ab:(fc x).an=x.sign:=rfl;have ad:(fc y).an=y.sign:=rfl
 by_cases he:x=y
 ·subst he;rw[if_pos (by simp)];simp[jo]
 ·rw[if_neg (by simp only[decide_eq_true_eq];exact fun h=>he (QI h)),Y,Z,ab,ad]
  by_cases h:x.sign=y.sign
  ·rw[if_neg (by simpa using h),RA (bO _) (bO _) (by unfold Fit;omega) (by unfold Fit;omega),Xe,aT,aT];have hc:jo x y=if x<y then -1 else 1:=by
    unfold jo;split
    ·rfl
    ·rw[if_pos (by omega)]
   rcases fa x with⟨a,b,c⟩|⟨a,b,c⟩|⟨a,b⟩<;>rcases fa y with⟨U,X,c'⟩|⟨U,X,c'⟩|⟨U,X⟩<;>(try (rw[a,U]at h;exact absurd h (by decide)))
   ·rw[a,hc]
    by_cases O:x<y
    ·have h1:(x.natAbs:Int)<y.natAbs:=by omega
     rw[if_pos O,decide_eq_true h1];rfl
    ·have h1:¬(x.natAbs:Int)<y.natAbs:=by omega
     rw[if_neg O,decide_eq_false h1];rfl
   ·rw[a,hc]
    by_cases O:x<y
    ·have h1:¬(x.natAbs:Int)<y.natAbs:=by omega
     rw[if_pos O,decide_eq_false h1];rfl
    ·have h1:(x.natAbs:Int)<y.natAbs:=by omega
     rw[if_neg O,decide_eq_true h1];rfl
   ·exact absurd (b.trans X.symm) he
  ·rw[if_pos (by simpa using h)];unfold jo;rcases fa x with⟨a,b,c⟩|⟨a,b,c⟩|⟨a,b⟩<;>rcases fa y with⟨U,X,c'⟩|⟨U,X,c'⟩|⟨U,X⟩<;>(try (exact absurd (a.trans U.symm) h))<;>rw[a,U]<;>(try rw[if_pos (show x<y by omega)])<;>(try rw[if_neg (show ¬x<y by omega),if_pos (show y<x by omega)])<;>rfl
theorem H0 {f:au} (U:y8 f):fN f=some (okF f):=by
 have hL:gC=17592186043904:=rfl;obtain⟨p,q⟩:=f;simp only[y8]at U;unfold fN okF;rw[IZ (show Fit p.aa by unfold Fit;omega),Xe]
 by_cases h1:okB p=true
 ·simp only[h1,W7,Wg,if_false,W8];rw[IZ (show Fit q.aa by unfold Fit;omega),Xe]
  by_cases h2:okB q=true
  ·simp only[h2,W7,Wg,if_false,W8,Option.bind_some];obtain⟨x,rfl⟩:=nD.1 h1;obtain⟨y,rfl⟩:=nD.1 h2;have O:(fc y).an=y.sign:=rfl
   by_cases h3:y.sign=1
   ·rw[if_neg (by rw[O,h3];decide),UB U.1 U.2,Xe,Vp (by decide),Xe];have h5:(dv (fc x).aa).toNat=x.natAbs:=by show (dv (az _)).toNat=_;rw[aT];rfl
    have h6:(dv (fc y).aa).toNat=y.natAbs:=by show (dv (az _)).toNat=_;rw[aT];rfl
    have Z:0<y.natAbs:=by rcases fa y with⟨a,b,c⟩|⟨a,b,c⟩|⟨a,b⟩<;>omega
    have X:Ln (Int.gcd x y:Int)<=gC:=by
     have:=dy (Nat.gcd_le_right x.natAbs Z);have h7:(az y.natAbs).length<=gC:=U.2;show (az (Nat.gcd x.natAbs y.natAbs)).length<=_;omega
    simp only;rw[DI X (VI (M3 (by decide)) (by decide)),Xe,h5,h6,O,h3];have Y:Nat.gcd x.natAbs y.natAbs=Int.gcd x y:=rfl;congr 1;unfold jo
    by_cases h:Int.gcd x y=1
    ·rw[decide_eq_true (Y.trans h),h];rfl
    ·have h1:¬((Int.gcd x y:Nat):Int)=1:=by omega
     rw[decide_eq_false (fun h'=>h (Y.symm.trans h'))];split
     ·rfl
     ·rw[if_pos (by omega)];rfl
   ·have h4:((fc y).an==1)=false:=by rw[O];simpa using h3
    rw[if_pos (by rw[O];have:=qp y;simp;omega),h4];rfl
  ·simp only[h2,XD,if_true,Option.bind_some,XC]
 ·simp only[h1,XD,if_true,Option.bind_some,XC]
theorem Td (f:au) (n:Int):nJ f n=some (decide ((f.dQ.aa.length:Int)<=n∧(f.dN.aa.length:Int)<=n)):=by
 unfold nJ
 by_cases h:(f.dQ.aa.length:Int)<=n
 ·rw[if_pos (by simpa using h)];simp[h]
 ·rw[if_neg (by simpa using h)];simp[h]
theorem S3 {x y:Int} (hx:Ln x<=lK) (hy:Ln y<=lK):kx (fc x) (fc y)=some (fc (x*y),0):=by
 have hL:lK=4398046511104:=rfl;have Z:=s7 x y;unfold kx;rw[kM (by omega),Xe];simp only[W7,Wg,if_false];rw[kM (by omega),Xe,Xe];simp only[W7,Wg,if_false];have O:(fc x).aa=az x.natAbs:=rfl;have U:(fc y).aa=az y.natAbs:=rfl;have X:(fc x).an=x.sign:=rfl;have Y:(fc y).an=y.sign:=rfl;rw[O,U,X,Y];have fx:(az x.natAbs).length<=4398046511104:=by show Ln x<=_;omega
 have fy:(az y.natAbs).length<=4398046511104:=by show Ln y<=_;omega
 have hw:IntKind.i64.wrap (x.sign*y.sign)=(x*y).sign:=by
  rw[Int.sign_mul];apply fG;rcases qp x with h|h|h<;>rcases qp y with g|g|g<;>rw[h,g]<;>decide
 rw[hw,Jd (bO _) (bO _) (by omega),Xe,aT,aT];have hn:((x.natAbs:Int)*y.natAbs).toNat=(x*y).natAbs:=by rw[Int.natAbs_mul,<- WE];rfl
 rw[hn,xU (x:=x*y) rfl (fun _=>rfl) (fun _=>by show Ln (x*y)<=_;omega),Xe]
theorem s8 {q:Rat} (h:LF q<=lK):fN (mr q)=some true:=by rw[H0 (Jp h),OZ]
theorem MX {a b:Rat} (h:LF a+LF b<=lK):iN (mr a) (mr b)=some (LU a b):=by
 have O:lK=4398046511104:=rfl;have U:gC=17592186043904:=rfl;have X:=Cz a;have Y:=Cz b;have d1:=Cy a;have d2:=Cy b;have m1:=s7 a.num b.den;have m2:=s7 b.num a.den;unfold iN;rw[s8 (by omega),Xe];simp only[W7,Wg,if_false];rw[s8 (by omega),Xe,Xe];simp only[W7,Wg,if_false];show (kx (fc a.num) (fc b.den)).bind _=_;rw[S3 (by omega) (by omega),Xe];show (kx (fc b.num) (fc a.den)).bind _=_;rw[S3 (by omega) (by omega),Xe,DI (by omega) (by omega),Xe,J5]
theorem C8 {α:Type} (l:List α) (t:Nat):idx l (t:Int)=l[t]?:=by
 unfold idx
 by_cases h:t<l.length
 ·rw[if_pos (by omega),WG]
 ·rw[if_neg (by omega),Xg (by omega)]
theorem FH {α:Type} (l:List α):idx l 0=l[0]?:=C8 l 0
def bl (s:Nat):List Int:=((List.range 8).filter (fun i:Nat=>s.testBit i)).map (fun i:Nat=>(Int.ofNat i))
theorem OO:((List.range 256).all fun s=>iP (s:Int)==some (bl s))=true:=by decide +kernel
theorem KI {s:Nat} (h:s<256):iP (s:Int)=some (bl s):=by
 have O:=OO;simp only[VR,Xl,beq_iff_eq]at O;exact O s h
def fe (s:Nat):List Nat:=(List.range s).reverse.filter (fun t=>t &&& s==t)
def mn (R:Nat->Bool) (s:Nat):Bool:=R s&&(fe s).all (fun t => !R t)
theorem HE:((List.range 256).all fun s=>(s==0||(gR .and .i64 (IntKind.i64.wrap ((s:Int)-1)) (s:Int)==(((fe s).getD 0 0:Nat):Int)&&decide (0<(fe s).length)))&&(List.range (fe s).length).all fun i=>decide ((fe s).getD i 0<s)&&(((fe s).getD i 0==0)==(i+1==(fe s).length))&&(i+1==(fe s).length||gR .and .i64 (IntKind.i64.wrap ((((fe s).getD i 0:Nat):Int)-1)) (s:Int)==(((fe s).getD (i+1) 0:Nat):Int)))=true:=by decide +kernel
theorem MM {s:Nat} (h:s<256) (U:s≠0):gR .and .i64 (IntKind.i64.wrap ((s:Int)-1)) (s:Int)=(((fe s).getD 0 0:Nat):Int)∧0<(fe s).length:=by
 have O:=HE;simp only[VR,Xl,Wh,Xf,beq_iff_eq,decide_eq_true_eq]at O;exact (O s h).1.resolve_left U
theorem ML {s i:Nat} (h:s<256) (U:i<(fe s).length):(fe s).getD i 0<s∧(((fe s).getD i 0=0)↔(i+1=(fe s).length))∧(i+1=(fe s).length∨gR .and .i64 (IntKind.i64.wrap ((((fe s).getD i 0:Nat):Int)-1)) (s:Int)=(((fe s).getD (i+1) 0:Nat):Int)):=by
 have O:=HE;simp only[VR,Xl,Wh,Xf,beq_iff_eq,decide_eq_true_eq]at O;obtain⟨⟨h1,h2⟩,h3⟩:=(O s h).2 i U;refine⟨h1,?_,h3⟩;rw[<- beq_iff_eq,h2,beq_iff_eq]
theorem Gp {s t:Nat} : t∈fe s↔t<s∧t &&& s=t:=by
 unfold fe;rw[Xh,List.mem_reverse,Xl,beq_iff_eq]
section
variable {G:iH} {n:Nat} {R:Nat->Bool}
theorem yr {n:Nat} (O:n<=8):2 ^ n<=256∧0<2 ^ n:=⟨Nat.pow_le_pow_right (by decide) O,Nat.pow_pos (by decide)⟩
theorem It (hn:n<=8) (hR:∀s:Nat,s<2 ^ n->bE G (s:Int)=some (R s)) {s:Nat} (hs:s<2 ^ n) :
  aQ (aP G (s:Int)) (R s,gR .and .i64 (IntKind.i64.wrap ((s:Int)-1)) (s:Int))=some (mn R s):=by
 have hP:=(yr hn).1;have X:s<256:=by omega
 by_cases Z:s=0
 ·subst Z;obtain⟨r,h1,h2⟩:=bA (body:=aP G ((0:Nat):Int)) (I:=fun _ st=>st=(R 0,((0:Nat):Int))) 0 (fun r=>r=mn R 0) (s:=(R 0,((0:Nat):Int))) rfl (e6 (by omega)) (by
   rintro i st hi rfl;right;simp only[aP];refine⟨R 0,?_,by unfold mn fe;simp⟩;cases R 0<;>simp)
  rw[show gR .and .i64 (IntKind.i64.wrap (((0:Nat):Int)-1)) ((0:Nat):Int)=((0:Nat):Int) by decide,h1,h2]
 ·obtain⟨e1,e2⟩:=MM X Z;rw[e1];obtain⟨r,h1,h2⟩:=bA (body:=aP G (s:Int)) (I:=fun i st=>i<(fe s).length∧st=((R s&&((fe s).take i).all (fun t => !R t)),(((fe s).getD i 0:Nat):Int))) (fe s).length (fun r=>r=mn R s)
   (s:=(R s,(((fe s).getD 0 0:Nat):Int))) ⟨e2,by simp⟩ (e6 (by
    have:(fe s).length<=s:=by unfold fe;exact VI (X8 _ _) (by simp)
    omega)) (by
   rintro i st hi ⟨U,rfl⟩;obtain⟨f1,f2,f3⟩:=ML X U;have hd:fe s=(fe s).take i++(fe s).getD i 0::(fe s).drop (i+1):=by
    rw[Wj,VT U,Wv,List.getElem_cons_drop,Xt]
   have ht:(fe s).take (i+1)=(fe s).take i++[(fe s).getD i 0]:=by
    rw[XO,Wj,VT U];rfl
   generalize (fe s).getD i 0=t at *;simp only[aP];cases Y:(R s&&((fe s).take i).all (fun t => !R t)) with
   | false =>
    right;refine⟨false,by simp,?_⟩;unfold mn;rw[hd,List.all_append,<- Bool.and_assoc,Y,XC]
   | true =>
    rw[if_pos rfl,Xe,if_pos (by simp;omega),hR _ (by omega),Xe]
    by_cases hz:t=0
    ·right;rw[if_pos (by rw[hz];rfl)];refine⟨_,rfl,?_⟩;have O:=f2.1 hz;unfold mn;rw[<- XI (l:=fe s),<- O,ht,List.all_append,<- Bool.and_assoc,Y,W8];simp
    ·left;have O:¬i+1=(fe s).length:=fun h=>hz (f2.2 h);refine⟨U,?_⟩;rw[if_neg (by simp;omega),f3.resolve_left O];refine⟨_,rfl,by omega,?_⟩;rw[ht,List.all_append,<- Bool.and_assoc,Y,W8];simp)
  rw[h1,h2]
theorem zJ {α:Type} {l m:List α} (h:l.length+m.length<=1000):iX 24 l m=some (l++m):=by
 unfold iX;rw[if_pos (by have:maxLen=9223372036854775807:=rfl;omega)]
theorem Iu (U:n<=8) (X:∀s:Nat,s<2 ^ n->bE G (s:Int)=some (R s)) :
  aQ (bh G ((2 ^ n:Nat):Int)) (0,[])=some (((List.range (2 ^ n)).filter (mn R)).map bl):=by
 have Y:=(yr U).1;obtain⟨r,h1,h2⟩:=bA (body:=bh G ((2 ^ n:Nat):Int)) (I:=fun i st=>st=((i:Int),((List.range i).filter (mn R)).map bl)) (2 ^ n)
  (fun r=>r=((List.range (2 ^ n)).filter (mn R)).map bl) (s:=(0,[])) rfl (e6 (by omega)) (by
   rintro i st Z rfl;simp only[bh]
   by_cases O:i<2 ^ n
   ·left;refine⟨O,?_⟩;rw[if_pos (decide_eq_true (by omega)),X i O,Xe,It U X O,Xe,List.range_succ,List.filter_append,List.map_append,fG (by omega)];cases hm:mn R i with
    | true =>
     rw[if_pos rfl,KI (by omega),Xe,zJ (by
      have:=X8 (mn R) (List.range i);simp at this ⊢;omega),Xe]
     exact⟨_,rfl,by simp[hm]⟩
    | false =>
     rw[if_neg (by simp)];exact⟨_,rfl,by simp[hm]⟩
   ·right;have:i=2 ^ n:=by omega
    subst this;exact⟨_,by rw[if_neg (by simp)],rfl⟩)
 rw[h1,h2]
end
theorem TO:∀n:Nat,n<10->mN .i64 1 (n:Int)=some ((2 ^ n:Nat):Int):=by decide +kernel
theorem QP {l:List au} (h:∀f∈l,okF f=true):∃qs:List Rat,l=qs.map mr:=by
 induction l with
 | nil=>exact⟨[],rfl⟩
 | cons f l U =>
  obtain⟨q,X⟩:=De.1 (h f Xb);obtain⟨qs,O⟩:=U (fun g Y=>h g (Xc _ Y));exact⟨q::qs,by rw[X,O];rfl⟩
theorem Q7 {q:Rat} {k:Nat} (h:(mr q).dQ.aa.length<=k∧(mr q).dN.aa.length<=k):LF q<=k:=by
 have h1:Ln q.num<=k:=h.1;have h2:Ln q.den<=k:=h.2;unfold LF;omega
def Vq (qs:List Rat) (s:Nat):Rat:=qs.getD s 0
theorem Na {qs:List Rat} {s:Nat} (h:s<qs.length):(qs.map mr)[s]? = some (mr (Vq qs s)):=by
 unfold Vq;simp[h]
theorem Re {qs:List Rat} {K:Nat} (h:∀q∈qs,LF q<=K) {s:Nat} (hs:s<qs.length):LF (Vq qs s)<=K:=by
 unfold Vq;rw[Wj,VT hs];exact h _ (VS hs)
def F3 (f:au):Prop:=f.dQ.aa.length<=3∧f.dN.aa.length<=3
theorem QD {l:List au} : ∃r,aQ (nK l) 0=some r∧(match r with | .inl _=>l.length<520->∀f∈l,F3 f | .inr b=>b=false):=by
 refine bA (I:=fun i s=>s=(i:Int)∧∀f∈l.take i,F3 f) (min l.length 520) _ ⟨rfl,by simp⟩ (e6 (by omega)) ?_;rintro i s Z ⟨rfl,h⟩;simp only[nK]
 by_cases O:i<l.length∧i<520
 ·rw[if_pos (by simpa using O.1),decide_eq_true (show (i:Int)<520 by omega),Xe,if_pos rfl,bo O.1,Xe,Td,Xe]
  by_cases h3:((l[i]'O.1).dQ.aa.length:Int)<=3∧((l[i]'O.1).dN.aa.length:Int)<=3
  ·left;rw[decide_eq_true h3,if_neg (by simp)];refine⟨by omega,_,rfl,by rw[fG (by omega)];omega,fun f U =>?_⟩;rw[XO,WV]at U;rcases U with U|U
   ·exact h f U
   ·rw[VT O.1]at U;simp only[Option.toList_some,V3]at U;subst U;exact⟨by omega,by omega⟩
  ·right;rw[decide_eq_false h3,if_pos (show (!false)=true from rfl)];exact⟨_,rfl,rfl⟩
 ·right;have X:i=min l.length 520:=by omega
  have:(if decide ((i:Int)<(l.length:Int))=true then some (decide ((i:Int)<520)) else some false)=some false:=by
   by_cases h1:i<l.length
   ·rw[if_pos (by simpa using h1),decide_eq_false (by omega)]
   ·rw[if_neg (by simpa using h1)]
  rw[this,Xe,if_neg (by simp)];refine⟨_,rfl,fun Y f U=>h f ?_⟩;rw[X,W5 (by omega)];exact U
theorem Sm {l:List au} {g:au} : ∃b,qk l g=some b∧(b=true->l.length<=512∧(∀f∈l,F3 f)∧F3 g):=by
 obtain⟨r,h1,h2⟩:=QD (l:=l);unfold qk;rw[h1,Xe];cases r with
 | inr b=>simp only at h2 ⊢;exact⟨b,rfl,fun h=>by rw[h2]at h;cases h⟩
 | inl u =>
  simp only at h2 ⊢;rw[Td,Xe]
  by_cases U:(g.dQ.aa.length:Int)<=3∧(g.dN.aa.length:Int)<=3
  rotate_left
  ·rw[decide_eq_false U,if_neg (by simp)];exact⟨_,rfl,by simp⟩
  rw[decide_eq_true U,if_pos rfl];have O:F3 g:=⟨by omega,by omega⟩
  by_cases c1:(l.length:Int)<=32
  ·rw[if_pos (decide_eq_true c1)];exact⟨_,rfl,fun _=>⟨by omega,h2 (by omega),O⟩⟩
  rw[if_neg (by simpa using c1)]
  by_cases c2:(l.length:Int)>=250
  ·rw[if_pos (decide_eq_true c2)]
   by_cases X:(l.length:Int)<=260
   ·rw[if_pos (decide_eq_true X)];exact⟨_,rfl,fun _=>⟨by omega,h2 (by omega),O⟩⟩
   ·rw[if_neg (by simpa using X)];refine⟨_,rfl,fun h =>?_⟩;rw[beq_iff_eq]at h;exact⟨by omega,h2 (by omega),O⟩
  ·rw[if_neg (by simpa using c2)];refine⟨_,rfl,fun h =>?_⟩;rw[beq_iff_eq]at h;exact⟨by omega,h2 (by omega),O⟩
theorem contains_eq {l:List au} (U:l.length<=512) (h:∀f∈l,y8 f):aX l=some (!l.all okF):=by
 have key:∃r,aQ (bP l) 0=some r∧(match r with | .inl _=>∀f∈l,okF f=true | .inr x=>x>=0∧¬ ∀f∈l,okF f=true):=by
  refine bA (I:=fun i s=>s=(i:Int)∧∀f∈l.take i,okF f=true) l.length _ ⟨rfl,by simp⟩ (e6 (by omega)) ?_;rintro i s Z ⟨rfl,hh⟩;simp only[bP]
  by_cases O:i<l.length
  ·rw[if_pos (by simpa using O),bo O,Xe];unfold gx;rw[v7 (h _ (VS O)),Xe,Xe]
   by_cases hk:okF l[i]=true
   ·left;rw[hk,if_neg (by simp)];refine⟨O,_,rfl,by rw[fG (by omega)];omega,fun f U =>?_⟩;rw[XO,WV]at U;rcases U with U|U
    ·exact hh f U
    ·rw[VT O]at U;simp only[Option.toList_some,V3]at U;subst U;exact hk
   ·right;rw[show okF l[i]=false by simpa using hk,if_pos (show (!false)=true from rfl)];exact⟨_,rfl,by show (i:Int)>=0;omega,fun X=>hk (X _ (VS O))⟩
  ·right;rw[if_neg (by simpa using O)];refine⟨_,rfl,fun f U=>hh f ?_⟩;rw[W5 (by omega)];exact U
 obtain⟨r,h1,h2⟩:=key;unfold aX bB;rw[h1,Xe];cases r with
 | inl u=>simp only at h2 ⊢;rw[Option.bind_some,VR.2 h2];rfl
 | inr x =>
  simp only at h2 ⊢;rw[Xe,decide_eq_true h2.1];cases Y:l.all okF with
  | false=>rfl
  | true=>exact absurd (VR.1 Y) h2.2
def sN (qs:List Rat) (g:Rat) (s:Nat):Bool:=decide (Vq qs s<=g)
theorem J6 {a b:Rat} : (LU a b<=0)↔a<=b:=by
 unfold LU
 by_cases h1:a<b
 ·rw[if_pos h1];exact⟨fun _=>by grind,fun _=>by decide⟩
 ·rw[if_neg h1]
  by_cases h2:b<a
  ·rw[if_pos h2];exact⟨fun h=>absurd h (by decide),fun h=>by grind⟩
  ·rw[if_neg h2];exact⟨fun _=>by grind,fun _=>by decide⟩
theorem Qr {qs:List Rat} {g:Rat} (O:∀q∈qs,LF q<=20) (U:LF g<=20) {s:Nat} (hs:s<qs.length):∃c,fq (mr (Vq qs s)) (mr g)=some c∧decide (c<=0)=sN qs g s:=by
 refine⟨_,LM (by have:=Re O hs;unfold lK;omega),?_⟩;unfold sN;rw[decide_eq_decide];exact J6
theorem IX {qs:List Rat} {g:Rat} {n:Nat} (X:qs.length=2 ^ n) (O:∀q∈qs,LF q<=20) (U:LF g<=20):∀s:Nat,s<2 ^ n->bE (iH.mk (qs.map mr) (mr g)) (s:Int)=some (sN qs g s):=by
 intro s hs;obtain⟨c,h1,h2⟩:=Qr O U (s:=s) (by omega);unfold bE;rw[C8,Na (by omega),Xe,h1,Xe,h2]
theorem OG {σ ρ:Type} {body:σ->Option (σ⊕ρ)} {n:Nat} {s O:σ} (h:body s=some (.inl O)):kg body (n+1) s=kg body n O:=by simp only[kg,h]
theorem FN {σ ρ:Type} {body:σ->Option (σ⊕ρ)} {n:Nat} {s:σ} {r:ρ} (h:body s=some (.inr r)):kg body (n+1) s=some r:=by simp only[kg,h]
theorem fH {i:Nat} (h:i<4611686018427387904):IntKind.i64.wrap ((i:Int)+1)=((i+1:Nat):Int):=by rw[wrap64 (by omega) (by omega)];omega
theorem jE {α:Type} {l:List α} {i:Nat} {x:α} (h:l[i]? = some x):P.idx l (i:Int)=some x:=FG (by omega) (by simpa using h)
theorem gH {α:Type} {l:List α} {i:Nat} {x:α} (h:l[i]? = some x):i<l.length:=(V9.1 h).1
theorem drop_cons {α:Type} {l rest:List α} {i:Nat} {x:α} (h:l.drop i=x::rest):i<l.length∧l[i]? = some x∧l.drop (i+1)=rest:=by
 have O:i<l.length:=by
  rcases Wr i l.length with h1|h1
  ·exact h1
  ·rw[Xr h1]at h;cases h
 rw[XB O]at h;simp only[V4]at h;exact⟨O,by rw[VT O,h.1],h.2⟩
def gS {α ρ:Type} (st:Nat->α->Option ρ):Nat->List α->Option ρ
 | _,[]=>none
 | i,x::l=>match st i x with|some r=>some r|none=>gS st (i+1) l
theorem lW {α ρ:Type} {st:Nat->α->Option ρ} : ∀ {l:List α} {i:Nat},gS st i l=none↔∀(j:Nat) x,l[j]? = some x->st (i+j) x=none
 | [],i=>by simp[gS]
 | x::l,i=>by
  simp only[gS];constructor
  ·intro h j y O;cases hs:st i x with
   | some r=>rw[hs]at h;cases h
   | none =>
    rw[hs]at h;cases j with
    | zero=>simp only[List.getElem?_cons_zero,VP]at O;subst O;exact hs
    | succ j =>
     have:=lW.1 h j y (by simpa using O);rw[<- this];congr 1;omega
  ·intro h;have U:=h 0 x rfl;simp only[Nat.add_zero]at U;rw[U];refine lW.2 fun j y O =>?_;have:=h (j+1) y (by simpa using O);rw[<- this];congr 1;omega
theorem oR {α ρ:Type} {st:Nat->α->Option ρ} {r:ρ} : ∀ {l:List α} {i:Nat},gS st i l=some r->∃(j:Nat) (x:α),l[j]? = some x∧st (i+j) x=some r∧∀(k:Nat) y,k<j->l[k]? = some y->st (i+k) y=none
 | [],i,h=>by cases h
 | x::l,i,h=>by
  simp only[gS]at h;cases hs:st i x with
  | some r' =>
   rw[hs]at h;exact⟨0,x,rfl,by rw[Wf,hs];exact h,fun k y hk=>by omega⟩
  | none =>
   rw[hs]at h;obtain⟨j,y,h1,h2,h3⟩:=oR h;refine⟨j+1,y,by simpa using h1,by rw[<- h2];congr 1;omega,fun k z hk O =>?_⟩;cases k with
   | zero=>simp only[List.getElem?_cons_zero,VP]at O;subst O;exact hs
   | succ k =>
    have:=h3 k z (by omega) (by simpa using O);rw[<- this];congr 1;omega
theorem BU {α ρ:Type} (l:List α) {body:Int->Option (Int⊕(Unit⊕ρ))} (st:Nat->α->Option ρ) (hlen:l.length<4611686018427387904)
  (X:∀(i:Nat) x,l[i]? = some x->body (i:Int)=some (match st i x with|none =>.inl ((i+1:Nat):Int)|some r =>.inr (.inr r))) (he:body (l.length:Int)=some (.inr (.inl ()))) :
  aQ body 0=some (match gS st 0 l with|none =>.inl ()|some r =>.inr r):=by
 have key:∀(rest:List α) (i fuel:Nat),i<=l.length->l.drop i=rest->rest.length<fuel->kg body fuel (i:Int)=some (match gS st i rest with|none =>.inl ()|some r =>.inr r):=by
  intro rest
  induction rest with
  | nil =>
   intro i fuel Y U O;obtain⟨f,rfl⟩:∃f,fuel=f+1:=⟨fuel-1,by simp at O;omega⟩;have hle:l.length<=i:=by
    have:=congrArg List.length U;simp at this;omega
   have:i=l.length:=by omega
   subst this;rw[FN he];rfl
  | cons x rest Z =>
   intro i fuel Y U O;obtain⟨f,rfl⟩:∃f,fuel=f+1:=⟨fuel-1,by simp at O;omega⟩;obtain⟨h1,h2,h3⟩:=drop_cons U;have:=X i x h2;cases hs:st i x with
   | some r =>
    rw[hs]at this;rw[FN this];simp only[gS,hs]
   | none =>
    rw[hs]at this;rw[OG this,Z (i+1) f h1 h3 (by simp at O;omega)];simp only[gS,hs]
 exact key l 0 FU (VH _) rfl (by have:FU=1000000000000000000000000:=rfl;omega)
theorem UM {α σ ρ:Type} {body:Int×σ->Option ((Int×σ)⊕ρ)} (l:List α) (Z:l.length<=17592186044416) (inv:Nat->σ->Prop) (Q:ρ->Prop) {s0:σ} (h0:inv 0 s0)
  (O:∀(i:Nat) x s,l[i]? = some x->inv i s->∃X,body ((i:Int),s)=some (.inl (((i+1:Nat):Int),X))∧inv (i+1) X)
  (U:∀s,inv l.length s->∃r,body ((l.length:Int),s)=some (.inr r)∧Q r):∃r,aQ body ((0:Int),s0)=some r∧Q r:=by
 refine bA (fun i s=>s.1=(i:Int)∧inv i s.2) l.length Q ⟨rfl,h0⟩ (e6 Z) ?_;rintro i ⟨k,s⟩ hi ⟨rfl,Y⟩;rcases Wr i l.length with h|h
 ·obtain⟨X,h1,h2⟩:=O i _ s (VT h) Y;exact .inl ⟨h,_,h1,rfl,h2⟩
 ·have:i=l.length:=by omega
  subst this;exact .inr (U s Y)
theorem Bk (B:List Int):∀(a b:List Int) (k:Nat),a.length=b.length->B.drop k=b->gS (fun i x=>if x=B.getD i 0 then none else some (decide (x<B.getD i 0))) k a=if gV a b=0 then none else some (decide (gV a b<0))
 | [],[],k,_,_=>rfl
 | [],_::_,k,h,_=>by simp at h
 | _::_,[],k,h,_=>by simp at h
 | x::a,y::b,k,h,U=>by
  have X:B.getD k 0=y:=by
   have:(B.drop k)[0]? = some y:=by rw[U];rfl
   rw[VX,Wf]at this;rw[Wj,this];rfl
  have O:B.drop (k+1)=b:=by rw[<- Xs,U];rfl
  have Y:=Bk B a b (k+1) (by simpa using h) O;have e:gV (x::a) (y::b)=if x<y then -1 else if y<x then 1 else gV a b:=rfl
  simp only[gS];rw[X,e]
  by_cases h1:x<y
  ·rw[if_neg (by omega)];simp[h1]
  ·by_cases h2:y<x
   ·rw[if_neg (by omega)];simp[h1,h2]
   ·rw[if_pos (by omega)];simp only[h1,h2,if_false];exact Y
theorem wk {a b:List Int} (h:a.length<=1000∨b.length<=1000):gp a b=some (decide (eU a b<0)):=by
 unfold gp eU
 by_cases U:a.length=b.length
 ·rw[if_neg (by simp[U]),if_pos U];rw[BU a (fun i x=>if x=b.getD i 0 then none else some (decide (x<b.getD i 0))) (by omega) (fun i x Y =>?_) (by simp only[jS];rw[if_neg (by simp)])]
  ·rw[Bk b a b 0 U rfl]
   by_cases X:gV a b=0
   ·rw[if_pos X,X];rfl
   ·rw[if_neg X];rfl
  ·have Z:=gH Y;have hg:b[i]? = some (b.getD i 0):=by rw[Wj,VT (by omega)];rfl
   simp only[jS];rw[if_pos (by simpa using Z),jE Y,Xe,jE hg,Xe,fH (by omega)]
   by_cases O:x=b.getD i 0
   ·rw[if_neg (by simpa using O),if_pos O]
   ·rw[if_pos (by simpa using O),if_neg O]
 ·rw[if_pos (by rw[bne_iff_ne];omega),if_neg U];congr 1
  by_cases h1:a.length<b.length
  ·rw[decide_eq_true (by omega),decide_eq_true (by omega)]
  ·rw[decide_eq_false (by omega),decide_eq_false (by omega)]
structure LO (l:List (List Int)):Prop where
 len:l.length<=1000
 each:∀x∈l,x.length<=1000
theorem p8 {α:Type} [DecidableEq α] (B:List α) (z:α):∀(a b:List α) (k:Nat),a.length=b.length->B.drop k=b->gS (fun i x=>if x=B.getD i z then none else some false) k a=if a=b then none else some false
 | [],[],k,_,_=>rfl
 | [],_::_,k,h,_=>by simp at h
 | _::_,[],k,h,_=>by simp at h
 | x::a,y::b,k,h,U=>by
  have X:B.getD k z=y:=by
   have:(B.drop k)[0]? = some y:=by rw[U];rfl
   rw[VX,Wf]at this;rw[Wj,this];rfl
  have O:B.drop (k+1)=b:=by rw[<- Xs,U];rfl
  have Y:=p8 B z a b (k+1) (by simpa using h) O;simp only[gS];rw[X]
  by_cases h1:x=y
  ·rw[if_pos h1];simp only;rw[Y];simp[h1]
  ·rw[if_neg h1,if_neg (by simp[h1])]
theorem I2 {a b:List (List Int)} (h:LO a):gX a b=some (decide (a=b)):=by
 unfold gX
 by_cases hl:a.length=b.length
 ·rw[if_neg (by simp[hl])];have hb:=h.len;rw[BU a (fun i x=>if x=b.getD i [] then none else some false) (by omega) (fun i x X =>?_) (by simp only[l8];rw[if_neg (by simp)])]
  ·rw[p8 b [] a b 0 hl rfl]
   by_cases U:a=b
   ·rw[if_pos U,decide_eq_true U];rfl
   ·rw[if_neg U,decide_eq_false U];rfl
  ·have Y:=gH X;have O:=h.each x (V8 X);have Z:b[i]? = some (b.getD i []):=by rw[Wj,VT (by omega)];rfl
   simp only[l8];rw[if_pos (by simpa using Y),jE X,Xe,jE Z,Xe,wk (.inl O),Xe,wk (.inr O),Xe,fH (by omega)];have ha:=mD x (b.getD i [])
   by_cases hxb:x=b.getD i []
   ·have hz:eU x (b.getD i [])=0:=by rw[<- hxb]at ha ⊢;omega
    rw[if_pos hxb,if_neg (by rw[decide_eq_true_eq];omega),if_neg (by rw[decide_eq_true_eq];omega)]
   ·have hz:eU x (b.getD i [])≠0:=fun h=>hxb (tf h);rw[if_neg hxb]
    by_cases h1:eU x (b.getD i [])<0
    ·rw[if_pos (decide_eq_true h1)]
    ·rw[if_neg (by rw[decide_eq_true_eq];exact h1),if_pos (decide_eq_true (by omega))]
 ·rw[if_pos (by rw[bne_iff_ne];omega),decide_eq_false (fun h=>hl (by rw[h]))]
theorem QB {a b:List Int} (h:a.length<=1000):gM a b=some (decide (a=b)):=by
 unfold gM
 by_cases hl:a.length=b.length
 ·rw[if_neg (by simp[hl])];rw[BU a (fun i x=>if x=b.getD i 0 then none else some false) (by omega) (fun i x X =>?_) (by simp only[il];rw[if_neg (by simp)])]
  ·rw[p8 b 0 a b 0 hl rfl]
   by_cases U:a=b
   ·rw[if_pos U,decide_eq_true U];rfl
   ·rw[if_neg U,decide_eq_false U];rfl
  ·have Y:=gH X;have Z:b[i]? = some (b.getD i 0):=by rw[Wj,VT (by omega)];rfl
   simp only[il];rw[if_pos (by simpa using Y),jE X,Xe,jE Z,Xe,fH (by omega)]
   by_cases O:x=b.getD i 0
   ·rw[if_neg (by simpa using O),if_pos O]
   ·rw[if_pos (by simpa using O),if_neg O]
 ·rw[if_pos (by rw[bne_iff_ne];omega),decide_eq_false (fun h=>hl (by rw[h]))]
theorem On {a b:List (List Int)} (h:LO a):bm a b=some (decide (a=b)):=by
 unfold bm
 by_cases hl:a.length=b.length
 ·rw[if_neg (by simp[hl])];have hb:=h.len;rw[BU a (fun i x=>if x=b.getD i [] then none else some false) (by omega) (fun i x X =>?_) (by simp only[bZ];rw[if_neg (by simp)])]
  ·rw[p8 b [] a b 0 hl rfl]
   by_cases U:a=b
   ·rw[if_pos U,decide_eq_true U];rfl
   ·rw[if_neg U,decide_eq_false U];rfl
  ·have Z:=gH X;have Y:=h.each x (V8 X);have hg:b[i]? = some (b.getD i []):=by rw[Wj,VT (by omega)];rfl
   simp only[bZ];rw[if_pos (by simpa using Z),jE X,Xe,jE hg,Xe,QB Y,Xe,fH (by omega)]
   by_cases O:x=b.getD i []
   ·rw[decide_eq_true O,if_neg (by simp),if_pos O]
   ·rw[decide_eq_false O,if_pos (by simp),if_neg O]
 ·rw[if_pos (by rw[bne_iff_ne];omega),decide_eq_false (fun h=>hl (by rw[h]))]
def rq (x:List Int):List (List Int)->List (List Int)
 | []=>[x]
 | y::l=>if eU x y<0 then x::y::l else y::rq x l
theorem tF (x:List Int):∀l,(rq x l).Perm (x::l)
 | []=>XF _
 | y::l=>by
  unfold rq;split
  ·exact XF _
  ·exact ((tF x l).cons y).trans (List.Perm.swap x y l)
theorem uN (x:List Int):∀ {l:List (List Int)},l.Pairwise (fun x y=>eU x y<=0)->(rq x l).Pairwise (fun x y=>eU x y<=0)
 | [],_=>List.pairwise_singleton _ _
 | y::l,hs=>by
  unfold rq;obtain⟨h1,h2⟩:=Xi.1 hs;split
  ·rename_i U;refine Xi.2 ⟨fun z O =>?_,hs⟩;rcases VN.1 O with rfl|O
   ·omega
   ·exact vL.trans _ _ _ (by omega) (h1 z O)
  ·rename_i U;have X:=mD x y;refine Xi.2 ⟨fun z O =>?_,uN x h2⟩;rcases VN.1 ((tF x l).mem_iff.1 O) with rfl|O
   ·omega
   ·exact h1 z O
theorem ru (x:List Int):∀(l m:List (List Int)),(∀y∈l,¬eU x y<0)->rq x (l++m)=l++rq x m
 | [],_,_=>rfl
 | y::l,m,h=>by
  rw[Xy,rq,if_neg (h y Xb),ru x l m fun z O=>h z (Xc _ O)];rfl
def kb (l:List (List Int)):List (List Int):=l.foldl (fun a x=>rq x a) []
theorem uM (l:List (List Int)) (x:List Int):kb (l++[x])=rq x (kb l):=by unfold kb;rw[List.foldl_append];rfl
theorem tE (l:List (List Int)):(kb l).Perm l∧(kb l).Pairwise (fun x y=>eU x y<=0):=by
 have key:∀l:List (List Int),(kb l.reverse).Perm l.reverse∧(kb l.reverse).Pairwise (fun x y=>eU x y<=0):=by
  intro l
  induction l with
  | nil=>exact⟨XF _,List.Pairwise.nil⟩
  | cons x l O =>
   rw[List.reverse_cons,uM];exact⟨(tF x _).trans ((O.1.cons x).trans (List.perm_append_singleton _ _).symm),uN x O.2⟩
 have:=key l.reverse
 rwa [List.reverse_reverse]at this
theorem Mg (l:List (List Int)):kb l=js eU l:=by
 have h:=tE l;refine mw (c:=eU) (h.1.trans (lr eU l).symm) (fun x _ y _ h1 h2 =>?_) h.2 (kp vL l);have:=mD x y;exact tf (by omega)
theorem TB {l:List (List Int)} {x:List Int} (hl:LO l) (hx:x.length<=1000) (h5:l.length<=500):nL l x=some (rq x l):=by
 have hlen:=hl.len;unfold nL;obtain⟨q,h1,h2⟩:=bA (body:=lE l x)
  (fun i (s:Bool×Int×List (List Int))=>s.2.1=(i:Int)∧((s.1=false∧s.2.2=l.take i∧∀y∈l.take i,¬eU x y<0)∨(s.1=true∧s.2.2++l.drop i=rq x l∧s.2.2.length=i+1))) l.length
  (fun q=>(q.1=false∧q.2=l∧rq x l=l++[x])∨(q.1=true∧q.2=rq x l)) (s:=(false,0,[])) ⟨rfl,.inl ⟨rfl,rfl,fun y hy=>by simp at hy⟩⟩ (e6 (by omega)) (by
   rintro i ⟨d,j,out⟩ hi ⟨rfl,hinv⟩;simp only at hinv
   by_cases U:i<l.length
   ·left;refine⟨U,?_⟩;have hg:l[i]? = some l[i]:=VT U;have ad:=hl.each _ (VS U);have Z:l.drop i=l[i]::l.drop (i+1):=XB U;have aa:l.take (i+1)=l.take i++[l[i]]:=List.take_succ_eq_append_getElem U;have Y:(l.take i).length=i:=by rw[VZ];omega
    generalize l[i]=y at hg ad Z aa;simp only[lE];rw[if_pos (by simpa using U)];rcases hinv with⟨rfl,rfl,X⟩|⟨rfl,O,ab⟩
    ·rw[if_pos (by simp),jE hg,Xe,wk (.inl hx),Xe,Xe]
     by_cases hc:eU x y<0
     ·rw[if_pos (decide_eq_true hc),zJ (by rw[Y];simp;omega),Xe,Xe];simp only;rw[Xe,zJ (by rw[WN,Y];simp;omega),Xe,fH (by omega)];refine⟨_,rfl,rfl,.inr ⟨rfl,?_,by simp only[WN,Y,List.length_cons,List.length_nil]⟩⟩;simp only;have:=ru x (l.take i) (l.drop i) X;rw[Xt,Z]at this;rw[this,rq,if_pos hc];simp
     ·rw[if_neg (by rw[decide_eq_true_eq];exact hc),Xe];simp only;rw[Xe,zJ (by rw[Y];simp;omega),Xe,fH (by omega)];refine⟨_,rfl,rfl,.inl ⟨rfl,aa.symm,fun z hz =>?_⟩⟩;rw[aa]at hz;rcases WV.1 hz with h|h
      ·exact X z h
      ·rw[V3.1 h];exact hc
    ·rw[if_neg (by simp),Xe,if_neg (by simp),Xe];simp only;rw[jE hg,Xe,zJ (by rw[ab];simp;omega),Xe,fH (by omega)];refine⟨_,rfl,rfl,.inr ⟨rfl,?_,by simp[ab]⟩⟩;simp only;rw[W0,List.singleton_append,<- Z,O]
   ·right;have:i=l.length:=by omega
    subst this;refine⟨(d,out),by simp only[lE];rw[if_neg (by simp)],?_⟩;rcases hinv with⟨rfl,rfl,X⟩|⟨rfl,O,ab⟩
    ·left;rw[XI]at X ⊢;refine⟨rfl,rfl,?_⟩;have:=ru x l [] X;rw[Xx]at this;rw[this];rfl
    ·right;rw[List.drop_length,Xx]at O;exact⟨rfl,O⟩)
 rw[h1,Xe];obtain⟨d,out⟩:=q;simp only at h2 ⊢;rcases h2 with⟨rfl,rfl,h3⟩|⟨rfl,rfl⟩
 ·rw[if_pos (by simp),zJ (by simp;omega),Xe,h3]
 ·rw[if_neg (by simp)]
theorem HF:mK=some true:=by kernel_rfl
def SZ (len:Nat):Option Int:=(fK (IntKind.u64.wrap (len:Int))).bind fun O=>if decide ((IntKind.i64.wrap (O-1))<0) then some (-1) else if decide ((IntKind.i64.wrap (O-1))>8) then some (-1) else (mN .i64 1 (IntKind.i64.wrap (O-1))).bind fun U=>if ((len:Int) != U) then some (-1) else some (IntKind.i64.wrap (O-1))
def Up (len:Nat):Option Int:=(aQ (fv (List.replicate len (au.mk (aH.mk 0 []) (aH.mk 0 [])))) 0).bind fun s=>(mN .i64 1 s).bind fun x=>if (x != (len:Int)) then some (-1) else some s
theorem Sh:((List.range 513).all fun n=>SZ n==Up n&&(SZ n==some (-1)||(List.range 9).any fun k=>SZ n==some ((k:Nat):Int)&&n==2 ^ k))=true:=by decide +kernel
theorem Tb {n:Nat} (h:n<=512):∃e,SZ n=some e∧Up n=some e∧(e = -1∨∃k:Nat,k<=8∧e=k∧n=2 ^ k):=by
 have O:=Sh;simp only[VR,Xl,Wh,Xf,beq_iff_eq,List.any_eq_true]at O;obtain⟨h1,h2⟩:=O n (by omega);rcases h2 with h2|⟨k,hk,h3,h4⟩
 ·exact⟨-1,h2,by rw[<- h1,h2],.inl rfl⟩
 ·exact⟨k,h3,by rw[<- h1,h3],.inr ⟨k,by omega,rfl,h4⟩⟩
theorem Ik {l:List au} (X:l.length<=512) (h:∀f∈l,y8 f) {e:Int} (he:SZ l.length=some e):cm l=some (if e = -1 then -1 else if l.all okF=true then e else -1):=by
 unfold SZ at he;unfold cm;cases U:fK (IntKind.u64.wrap (l.length:Int)) with
 | none=>rw[U]at he;cases he
 | some O =>
  rw[U,Xe]at he;rw[Xe]
  by_cases h1:(IntKind.i64.wrap (O-1))<0
  ·rw[if_pos (decide_eq_true h1)]at he ⊢;cases he;rfl
  ·rw[if_neg (by rw[decide_eq_true_eq];exact h1)]at he ⊢
   by_cases h2:(IntKind.i64.wrap (O-1))>8
   ·rw[if_pos (decide_eq_true h2)]at he ⊢;cases he;rfl
   ·rw[if_neg (by rw[decide_eq_true_eq];exact h2)]at he ⊢;cases hs:mN .i64 1 (IntKind.i64.wrap (O-1)) with
    | none=>rw[hs]at he;cases he
    | some Y =>
     rw[hs,Xe]at he;rw[Xe]
     by_cases h3:(l.length:Int)=Y
     ·rw[if_neg (by simpa using h3)]at he ⊢;rw[contains_eq X h,Xe];cases he;rw[if_neg (show ¬IntKind.i64.wrap (O-1) = -1 by omega)];cases l.all okF with
      | false=>rfl
      | true=>rfl
     ·rw[if_pos (by simpa using h3)]at he ⊢;cases he;rfl
theorem L3 {l:List au} (hl:l.length<=512) (h:∀f∈l,y8 f) {e:Int} (he:Up l.length=some e) (h0:e = -1∨0<=e):e8 l=some (if e = -1 then -1 else if l.all okF=true then e else -1):=by
 have hL:fv (List.replicate l.length (au.mk (aH.mk 0 []) (aH.mk 0 [])))=fv l:=by
  funext s;simp only[fv,List.length_replicate]
 unfold Up at he;rw[hL]at he;unfold e8;cases Z:aQ (fv l) 0 with
 | none=>rw[Z]at he;cases he
 | some s =>
  rw[Z,Xe]at he;rw[Xe];cases hs:mN .i64 1 s with
  | none=>rw[hs]at he;cases he
  | some x =>
   rw[hs,Xe]at he;rw[Xe]
   by_cases h3:x=(l.length:Int)
   ·rw[if_neg (by simpa using h3)]at he ⊢;have U:s ≠ -1:=by
     intro h1;rw[h1]at hs;cases hs
    cases he;rw[if_neg U];rw[BU l (fun i x=>if okF x=true then none else some (-1)) (by omega) (fun i x X =>?_) (by simp only[kC];rw[if_neg (by simp)])]
    ·cases hf:gS (fun (i:Nat) (x:au)=>if okF x=true then none else some (-1:Int)) 0 l with
     | none =>
      have:l.all okF=true:=by
       refine VR.2 fun f Y =>?_;obtain⟨j,hj⟩:=V2 Y;have:=lW.1 hf j f hj;split at this
       ·assumption
       ·cases this
      rw[if_pos this];rfl
     | some q =>
      obtain⟨j,x,h1,h2,_⟩:=oR hf;split at h2
      ·cases h2
      ·rename_i hbad;cases h2;have:¬l.all okF=true:=fun O=>hbad (VR.1 O x (V8 h1));rw[if_neg this];rfl
    ·have hi:=gH X;simp only[kC];rw[if_pos (by simpa using hi),jE X,Xe,H0 (h x (V8 X)),Xe,fH (by omega)];cases okF x with
     | false=>rfl
     | true=>rfl
   ·rw[if_pos (by simpa using h3)]at he ⊢;cases he;rfl
theorem Sb {a b:Nat} (O:a<4611686018427387904) (U:b<4611686018427387904):gR .and .i64 (a:Int) (b:Int)=((a &&& b:Nat):Int):=by
 have hle:a &&& b<=a:=Nat.and_le_left;have e:∀n:Nat,n<4611686018427387904->(BitVec.ofInt 64 (n:Int)).toNat=n:=fun n X=>by
  rw[BitVec.ofInt_natCast,BitVec.toNat_ofNat];exact WB (by omega)
 show IntKind.i64.wrap (((BitVec.ofInt 64 (a:Int)) &&& (BitVec.ofInt 64 (b:Int))).toNat:Int)=_;rw[BitVec.toNat_and,e a O,e b U,fG (by omega)]
section
variable {qs:List Rat} {g:Rat} {n:Nat}
def KQ (n:Nat) (R:Nat->Bool):List (List Int):=((List.range (2 ^ n)).filter (mn R)).map bl
theorem H8 (s:Nat):(bl s).length<=8:=by
 unfold bl;rw[Wa];exact VI (X8 ..) (by simp)
theorem G0 (R:Nat->Bool) (i:Nat):(((List.range i).filter (mn R)).map bl).length<=i:=by
 rw[Wa];exact VI (X8 ..) (by simp)
theorem KR (O:n<=8) (R:Nat->Bool):(KQ n R).length<=256:=VI (G0 R _) (yr O).1
theorem Db (O:n<=8) (U:qs.length=2 ^ n) (X:∀q∈qs,LF q<=20) (Y:LF g<=20) (Z:cm (qs.map mr)=some (n:Int)) :
  bs (qs.map mr) (mr g)=some (if js eU (KQ n (sN qs g))=[] then ([],4) else (js eU (KQ n (sN qs g)),0)):=by
 have hlen:=KR O (sN qs g);have hf:bd (n:Int) (iH.mk (qs.map mr) (mr g))=some (js eU (KQ n (sN qs g))):=by
  unfold bd;rw[TO n (by omega),Xe,Iu O (IX U X Y),Xe];unfold a7 BZ;rw[if_pos (by unfold KQ at hlen;omega),Xe];rfl
 unfold bs;rw[Z,Xe,if_neg (by simp),v8 (by unfold lK;omega),Xe,Xe,if_neg (by simp),hf,Xe]
 by_cases h:js eU (KQ n (sN qs g))=[]
 ·rw[if_pos h,h];rfl
 ·rw[if_neg h,if_neg (by simpa using h)]
theorem BI (U:qs.length=2 ^ n) (O:∀q∈qs,LF q<=20) (X:LF g<=20) {s:Nat} (hs:s<2 ^ n):gu (qs.map mr) (mr g) (s:Int)=some (sN qs g s):=by
 have:=Re O (s:=s) (by omega);unfold gu;rw[C8,Na (by omega),Xe,MX (by unfold lK;omega),Xe];unfold sN;congr 1;rw[decide_eq_decide];exact J6
theorem Tp (R:Nat->Bool) (s:Nat):mn R s=(R s&&(List.range s).all fun t => !(t &&& s==t&&R t)):=by
 unfold mn;congr 1;rw[Bool.eq_iff_iff,VR,VR];constructor
 ·intro h t O
  by_cases U:t &&& s=t
  ·have:=h t (Gp.2 ⟨Xl.1 O,U⟩);simp[U];simpa using this
  ·simp[U]
 ·intro h t O;obtain⟨h1,h2⟩:=Gp.1 O;have:=h t (Xl.2 h1);simpa [h2] using this
theorem Mf (Z:n<=8) (hl:qs.length=2 ^ n) (hq:∀q∈qs,LF q<=20) (hg:LF g<=20) {s:Nat} (hs:s<2 ^ n):aQ (gr (qs.map mr) (mr g) (s:Int)) (sN qs g s,0)=some (mn (sN qs g) s):=by
 have hP:=(yr Z).1;obtain⟨q,h1,h2⟩:=bA (body:=gr (qs.map mr) (mr g) (s:Int)) (fun i st=>st=((sN qs g s&&(List.range i).all fun t => !(t &&& s==t&&sN qs g t)),(i:Int))) s (fun q=>q=mn (sN qs g) s) (s:=(sN qs g s,0)) (by simp) (e6 (by omega)) (by
  rintro i st hi rfl;simp only[gr]
  by_cases O:i<s
  ·left;refine⟨O,?_⟩;rw[if_pos (decide_eq_true (by omega)),Sb (by omega) (by omega),fH (by omega),List.range_succ,List.all_append]
   by_cases U:i &&& s=i
   ·rw[if_pos (by rw[U];simp),BI hl hq hg (by omega),Xe];cases Y:sN qs g i with
    | true=>exact⟨_,rfl,by simp[U,Y]⟩
    | false=>exact⟨_,rfl,by simp[Y]⟩
   ·have X:(i &&& s==i)=false:=beq_eq_false_iff_ne.2 U;rw[if_neg (by rw[beq_iff_eq];omega)];exact⟨_,rfl,by simp[X]⟩
  ·right;have:i=s:=by omega
   subst this;exact⟨_,by rw[if_neg (by simp)],(Tp _ _).symm⟩)
 rw[h1,h2]
theorem xI (l:List (List Int)):(kb l).length=l.length:=(tE l).1.length_eq
theorem Mw (U:n<=8) (X:qs.length=2 ^ n) (Y:∀q∈qs,LF q<=20) (Z:LF g<=20):aQ (gq (qs.map mr) (mr g) (n:Int)) ([],0)=some (js eU (KQ n (sN qs g))):=by
 have hP:=(yr U).1;rw[<- Mg];obtain⟨q,h1,h2⟩:=bA (body:=gq (qs.map mr) (mr g) (n:Int)) (fun i st=>st=(kb (((List.range i).filter (mn (sN qs g))).map bl),(i:Int))) (2 ^ n) (fun q=>q=kb (KQ n (sN qs g))) (s:=([],0)) rfl (e6 (by omega)) (by
  rintro i st hi rfl;simp only[gq];rw[TO n (by omega),Xe]
  by_cases O:i<2 ^ n
  ·left;refine⟨O,?_⟩;have aa:=G0 (sN qs g) i;rw[if_pos (decide_eq_true (by omega)),BI X Y Z O,Xe,Mf U X Y Z O,Xe,fH (by omega),List.range_succ,List.filter_append,List.map_append];cases hm:mn (sN qs g) i with
   | true =>
    have hb:=H8 i;have hle:pA (i:Int)=some (bl i):=KI (by omega);rw[if_pos rfl,hle,Xe,TB ⟨by rw[xI];omega,fun x hx =>?_⟩ (by omega) (by rw[xI];omega),Xe]
    ·refine⟨_,rfl,?_⟩;have:([i].filter (mn (sN qs g))).map bl=[bl i]:=by simp[hm]
     rw[this,uM]
    ·have:=(tE _).1.mem_iff.1 hx;obtain⟨t,_,rfl⟩:=VF.1 this;have:=H8 t;omega
   | false =>
    rw[if_neg (by simp)];exact⟨_,rfl,by simp[hm]⟩
  ·right;have:i=2 ^ n:=by omega
   subst this;exact⟨kb (KQ n (sN qs g)),by rw[if_neg (by simp)];rfl,rfl⟩)
 rw[h1,h2]
theorem Gq (O:n<=8) (U:qs.length=2 ^ n) (X:∀q∈qs,LF q<=20) (Y:LF g<=20) (Z:e8 (qs.map mr)=some (n:Int)) :
  dc (qs.map mr) (mr g)=some (if js eU (KQ n (sN qs g))=[] then ([],4) else (js eU (KQ n (sN qs g)),0)):=by
 unfold dc;rw[Z,Xe,if_neg (by simp),s8 (by unfold lK;omega),Xe,Xe,if_neg (by simp),Mw O U X Y,Xe]
 by_cases h:js eU (KQ n (sN qs g))=[]
 ·rw[if_pos h,h];rfl
 ·rw[if_neg h,if_neg (by simpa using h)]
end
structure M4 (L:List (List Int)) (e:Int):Prop where
 few:LO L
 asc:L.Pairwise fun x y=>x.length<=y.length
 bad:e≠0->L=[]
theorem Qq {x y:List Int} (h:eU x y<=0):x.length<=y.length:=by
 unfold eU at h;split at h<;>omega
theorem OQ {l:List au} {f:au} (hl:l.length<=512) (h3:∀x∈l,F3 x) (hf:F3 f):∃L e d,bs l f=some (L,e)∧dc l f=some (L,e)∧M4 L e∧cm l=some d∧e8 l=some d:=by
 have Z:∀x∈l,y8 x:=fun x Y=>by have:=h3 x Y;unfold F3 at this;exact⟨by unfold gC;omega,by unfold gC;omega⟩
 have O:y8 f:=by unfold F3 at hf;exact⟨by unfold gC;omega,by unfold gC;omega⟩
 obtain⟨e,e1,e2,e3⟩:=Tb hl;have U:=Ik hl Z e1;have X:=L3 hl Z e2 (by rcases e3 with h|⟨k,_,h,_⟩<;>omega);have aa:∀d:Int,d<0->cm l=some d->e8 l=some d->∃L e d,bs l f=some (L,e)∧dc l f=some (L,e)∧M4 L e∧cm l=some d∧e8 l=some d:=by
  intro d hd g1 g2;refine⟨[],1,d,?_,?_,⟨⟨by simp,fun x Y=>by cases Y⟩,List.Pairwise.nil,fun _=>rfl⟩,g1,g2⟩
  ·unfold bs;rw[g1,Xe,if_pos (decide_eq_true hd),Xe,if_pos rfl]
  ·unfold dc;rw[g2,Xe,if_pos (decide_eq_true hd),Xe,if_pos rfl]
 rcases e3 with rfl|⟨n,hn,rfl,hlen⟩
 ·exact aa (-1) (by decide) U X
 rw[if_neg (by omega)]at U X;cases ab:l.all okF with
 | false =>
  rw[ab]at U X;exact aa (-1) (by decide) U X
 | true =>
  rw[ab,if_pos rfl]at U X;cases ad:okF f with
  | false =>
   refine⟨[],1,n,?_,?_,⟨⟨by simp,fun x Y=>by cases Y⟩,List.Pairwise.nil,fun _=>rfl⟩,U,X⟩
   ·unfold bs;rw[U,Xe,if_neg (by simp),v7 O,ad,Xe,Xe,if_pos (show (!false)=true from rfl)]
   ·unfold dc;rw[X,Xe,if_neg (by simp),H0 O,ad,Xe,Xe,if_pos (show (!false)=true from rfl)]
  | true =>
   obtain⟨g,rfl⟩:=De.1 ad;obtain⟨qs,rfl⟩:=QP (VR.1 ab);have hq:∀q∈qs,LF q<=20:=fun q hq=>by
    have h:=h3 (mr q) (List.mem_map_of_mem hq);have:=Q7 (k:=3) h;omega
   have hg:LF g<=20:=by have:=Q7 (k:=3) hf;omega
   rw[Wa]at hlen;have m1:=Db hn hlen hq hg U;have m2:=Gq hn hlen hq hg X;have ae:=KR hn (sN qs g)
   by_cases h:js eU (KQ n (sN qs g))=[]
   ·rw[if_pos h]at m1 m2;exact⟨[],4,n,m1,m2,⟨⟨by simp,fun x Y=>by cases Y⟩,List.Pairwise.nil,fun _=>rfl⟩,U,X⟩
   ·rw[if_neg h]at m1 m2;refine⟨_,0,n,m1,m2,⟨⟨by rw[jF];omega,fun x Y =>?_⟩,?_,fun h=>absurd rfl h⟩,U,X⟩
    ·have:=(lr eU _).mem_iff.1 Y;unfold KQ at this;obtain⟨t,_,rfl⟩:=VF.1 this;have:=H8 t;omega
    ·exact (kp vL _).imp fun h=>Qq h
theorem R8 {α:Type} {l m:List α} (h:l.length+m.length<=2000):iX 24 l m=some (l++m):=by
 unfold iX;rw[if_pos (by have:maxLen=9223372036854775807:=rfl;omega)]
def RV (L:List (List Int)):List (List Int):=L.filter fun x=>decide (x.length=(L.headD []).length)
theorem zM {h:Nat} : ∀ {l:List (List Int)},l.Pairwise (fun x y=>x.length<=y.length)->(∀x∈l,h<=x.length)->l.takeWhile (fun x=>decide (x.length<=h))=l.filter fun x=>decide (x.length=h)
 | [],_,_=>rfl
 | x::l,X,hh=>by
  obtain⟨h1,h2⟩:=Xi.1 X;have Y:=hh x Xb
  by_cases U:x.length<=h
  ·rw[List.takeWhile_cons_of_pos (by simpa using U),List.filter_cons_of_pos (by simp;omega),zM h2 fun y O=>hh y (Xc _ O)]
  ·rw[List.takeWhile_cons_of_neg (by simpa using U),List.filter_cons_of_neg (by simp;omega)];refine (List.filter_eq_nil_iff.2 fun y O =>?_).symm;have:=h1 y O;simp;omega
theorem Pw {L:List (List Int)} {e:Int} (h:M4 L e):RV L=L.takeWhile fun x=>decide (x.length<=(L.headD []).length):=by
 unfold RV;refine (zM h.asc fun x O =>?_).symm;cases L with
 | nil=>cases O
 | cons y l =>
  rcases VN.1 O with rfl|O
  ·exact VG _
  ·exact (Xi.1 h.asc).1 x O
theorem Fy {L:List (List Int)} {i:Nat} (h:i<L.length):L[0]? = some (L.headD []):=by
 cases L with
 | nil=>simp at h
 | cons a l=>rfl
theorem MB {l:List au} {f:au} {L:List (List Int)} {e:Int} (h:M4 L e) (hm:bs l f=some (L,e)):ec l f=some (RV L,e):=by
 have hlen:=h.few.len;unfold ec;rw[hm,Xe];rw[BU L (fun i x=>if x.length<=(L.headD []).length then none else some (L.take i,e)) (by omega) (fun i x O =>?_) (by simp only[jn];rw[if_neg (by simp)])]
 ·rw[Xe,Pw h];cases hf:gS (fun (i:Nat) (x:List Int)=>if x.length<=(L.headD []).length then none else some (L.take i,e)) 0 L with
  | none =>
   have U:∀x∈L,x.length<=(L.headD []).length:=fun x O=>by
    obtain⟨j,Z⟩:=V2 O;have:=lW.1 hf j x Z;split at this
    ·assumption
    ·cases this
   have:=List.takeWhile_append_of_pos (p:=fun x:List Int=>decide (x.length<=(L.headD []).length)) (l₁:=L) (l₂:=[]) (fun x O=>decide_eq_true (U x O));rw[Xx]at this;rw[this];simp
  | some q =>
   obtain⟨j,x,h1,h2,h3⟩:=oR hf;rw[Wt]at h2;have Z:=gH h1;split at h2
   ·cases h2
   ·rename_i X;cases h2;have aa:L.takeWhile (fun x=>decide (x.length<=(L.headD []).length))=L.take j:=by
     have Y:∀y∈L.take j,decide (y.length<=(L.headD []).length)=true:=fun y hy=>by
      obtain⟨k,hk⟩:=V2 hy;have ab:=gH hk;rw[VZ]at ab;rw[List.getElem?_take_of_lt (by omega)]at hk;have:=h3 k y (by omega) hk;split at this
      ·rename_i hle;exact decide_eq_true hle
      ·cases this
     conv=>lhs;arg 2;rw[<- Xt j L]
     rw[List.takeWhile_append_of_pos Y,<- List.getElem_cons_drop Z,List.takeWhile_cons_of_neg (by
      rw[VT Z]at h1;rw[Option.some.inj h1];simpa using X),Xx]
    rw[aa]
 ·have hi:=gH O;simp only[jn];rw[if_pos (by simpa using hi),jE O,Xe,FH,Fy hi,Xe,fH (by omega)]
  by_cases hc:x.length<=(L.headD []).length
  ·rw[if_neg (fun h=>by rw[decide_eq_true_eq]at h;omega),if_pos hc]
  ·rw[if_pos (decide_eq_true (by omega)),if_neg hc,vQ (by omega),Xe]
theorem Pm {l:List au} {f:au} {L:List (List Int)} {e:Int} (h:M4 L e) (hm:dc l f=some (L,e)):lD l f=some (RV L,e):=by
 have hlen:=h.few.len;unfold lD;rw[hm,Xe]
 by_cases X:e=0
 ·subst X;rw[if_neg (by simp)];have key:=fun Y U=>UM (body:=j2 (L,0)) L (by omega) (fun i (s:List (List Int))=>s=(L.take i).filter fun x=>decide (x.length=(L.headD []).length)) (fun s=>s=RV L) (s0:=[]) rfl Y U;refine (key ?_ ?_).elim fun x O =>?_
  ·rintro i x _ O rfl;have hi:=gH O;have Z:L.take (i+1)=L.take i++[x]:=by
    obtain⟨aa,he⟩:=V9.1 O;rw[List.take_succ_eq_append_getElem aa,he]
   have ab:=X8 (fun x:List Int=>decide (x.length=(L.headD []).length)) (L.take i);rw[VZ]at ab;refine⟨_,?_,rfl⟩;simp only[j2];rw[if_pos (by simpa using hi),jE O,Xe,FH,Fy hi,Xe,fH (by omega),Z,List.filter_append]
   by_cases hc:x.length=(L.headD []).length
   ·rw[if_pos (by rw[beq_iff_eq];omega),R8 (by rw[V6,V7];omega),Xe,List.filter_cons_of_pos (by simpa using hc)];rfl
   ·rw[if_neg (by rw[beq_iff_eq];omega),List.filter_cons_of_neg (by simpa using hc)];simp
  ·rintro _ rfl;refine⟨_,?_,rfl⟩;simp only[j2];rw[if_neg (by simp),XI];rfl
  ·rw[O.1,O.2];rfl
 ·rw[if_pos (by simpa using X)];have:=h.bad X;subst this;rfl
theorem QZ {L:List (List Int)} (h:LO L):LO (RV L):=⟨VI (X8 ..) h.len,fun x O=>h.each x (Xh.1 O).1⟩
theorem I5 (l:List (List Int)):∃b,kJ l=some b:=by
 have key:∃r,aQ (kq l) 0=some r∧True:=by
  refine bA (fun i s=>s=(i:Int)) (min l.length 300) _ rfl (e6 (by omega)) ?_;rintro i s X rfl;simp only[kq]
  by_cases O:i<l.length∧i<300
  ·rw[if_pos (by simpa using O.1),decide_eq_true (show (i:Int)<300 by omega),Xe,if_pos rfl,bo O.1,Xe]
   by_cases U:(l[i].length:Int)>12
   ·right;rw[if_pos (decide_eq_true U)];exact⟨_,rfl,trivial⟩
   ·left;rw[if_neg (by rw[decide_eq_true_eq];exact U)];exact⟨by omega,_,rfl,by rw[fG (by omega)];omega⟩
  ·right;have:(if decide ((i:Int)<(l.length:Int))=true then some (decide ((i:Int)<300)) else some false)=some false:=by
    by_cases h1:i<l.length
    ·rw[if_pos (by simpa using h1),decide_eq_false (by omega)]
    ·rw[if_neg (by simpa using h1)]
   rw[this,Xe,if_neg (by simp)];exact⟨_,rfl,trivial⟩
 obtain⟨r,h1,_⟩:=key;unfold kJ;rw[h1,Xe];cases r with
 | inl u=>exact⟨_,rfl⟩
 | inr b=>exact⟨_,rfl⟩
theorem wa (a0:List au) (X:au) (a2:List (List Int)):dK a0 X a2=some true:=by
 obtain⟨b,e1,e2⟩:=Sm (l:=a0) (g:=X);unfold dK;rw[HF,Xe,e1,Xe];cases b with
 | false=>rfl
 | true =>
 obtain⟨s,s1⟩:=I5 a2;rw[if_neg (by simp),s1,Xe,Xe];cases s with
 | false=>rfl
 | true =>
 obtain⟨g1,g2,g3⟩:=e2 rfl;obtain⟨L,e,d,m1,m2,Y,d1,d2⟩:=OQ g1 g2 g3;have Z:=MB Y m1;have p2:=Pm Y m2;have U:=QZ Y.few;have c1:∀q:List (List Int),dW a0 X q=some (if e=0 then decide (RV L=q) else false):=fun q=>by
  unfold dW;rw[Z,Xe]
  by_cases O:e=0
  ·rw[if_pos (by simpa using O),if_pos O,On U];rfl
  ·rw[if_neg (by simpa using O),if_neg O]
 have c2:kL a0 X a2=some (if e=0 then decide (RV L=a2) else false):=by
  unfold kL;rw[p2,Xe]
  by_cases O:e=0
  ·rw[if_pos (by simpa using O),if_pos O,I2 U];rfl
  ·rw[if_neg (by simpa using O),if_neg O]
 rw[if_neg (by simp),Z,Xe,p2,Xe,m1,Xe,m2,Xe];simp only[beq_self_eq_true,if_true];rw[I2 U,decide_eq_true rfl,Xe,if_pos rfl,I2 Y.few,decide_eq_true rfl,Xe,if_pos rfl,d1,Xe,d2,Xe,Xe];simp only[beq_self_eq_true,if_true];rw[c1,Xe,c2,Xe];simp only[beq_self_eq_true,if_true];rw[c1,Xe]
 by_cases O:e=0
 ·rw[if_pos O,decide_eq_true rfl,O];rfl
 ·rw[if_neg O];congr 1;rw[beq_eq_false_iff_ne.2 O];rfl
end Go.Proofs.Ytgnoaanebhmegaa.P
