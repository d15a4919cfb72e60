import Derived.Test.YtobnihfgnbnncaaGreatLf
set_option linter.unusedSimpArgs false
set_option linter.unusedVariables false
set_option linter.defProp false
noncomputable section
open Go.Proofs.Tryz
namespace Go.Proofs.YtobnihfgnbnncaaGreat.P
open Go.RowKit
def yi{b:aF}:okB b=true↔∃x,b=eu x:=by
 obtain⟨s,l⟩:=b;unfold okB;simp only[anF,decide_eq_true_eq];constructor
 ·rintro⟨f,h⟩;cases g:l.getLast? with
  | none =>
   grind[List.getLast?_eq_none_iff,JC]
  | some d =>
   rw[g]at h;simp only[anF,Bool.or_eq_true,beq_iff_eq,bne_iff_ne]at h;have i:l≠[]:=by grind
   have a:∀h:l≠[],l.getLast h≠0:=by
    grind
   have e:=Hr f a;have j:(dv l).toNat≠0:=by
    grind[dB]
   have k:=dL f;refine⟨s*dv l,?_⟩;unfold eu;grind
 ·rintro⟨x,c⟩;unfold eu at c;simp only[aF.mk.injEq]at c;obtain⟨rfl,rfl⟩:=c;grind[cr,dB,zD,List.getLast?_eq_some_getLast,aaH]
def PU(x:Int):okB (eu x)=true:=yi.2 ⟨x,rfl⟩
def Ks{b:aF}(h:Fit b.aa):dX b=some (okB b):=by
 obtain⟨s,l⟩:=b;simp only[Fit]at h;have key:∃r,aO (tx ⟨s,l⟩) 0=some r∧(match r with | .inl _=>Dg l | .inr x=>x=false∧¬Dg l):=by
  refine dq (I:=fun i s=>s=(i:Int)∧Dg (l.take i)) l.length _ ⟨rfl,by simpa using Dg.nil⟩ (ky h) ?_;rintro i s k ⟨rfl,j⟩;simp only[tx]
  by_cases a:i<l.length
  ·rw[if_pos (by simpa using a),cW a,aoo]
   by_cases f:l[i]<0
   ·right;exact⟨.inr false,by simp_all,rfl,fun g=>by have:=g.get a;omega⟩
   ·by_cases c:l[i]>1048575
    ·right;exact⟨.inr false,by simp_all,rfl,fun g=>by have:=g.get a;omega⟩
    ·left;refine⟨a,_,by rw[if_neg (by simpa using f),if_neg (by simpa using c)],by rw[jQ (by omega)];omega,?_⟩;have e:l.take (i+1)=l.take i++[l[i]]:=by simp_all
     rw[e];exact j.append (Dg.mk (by omega) Dg.nil)
  ·right;have:i=l.length:=by omega
   simp_all
 obtain⟨r,f,c⟩:=key;unfold dX okB;rw[f,aoo];cases r with
 | inr x =>
  simp_all
 | inl u =>
  simp only at c ⊢;simp only[c,decide_true,aoU]
  by_cases d:l=[]
  ·subst d;simp
  ·have m:0<l.length:=aoH.2 d;have e:IntKind.i64.wrap ((l.length:Int)-1)=((l.length-1:Nat):Int):=by rw[jQ (by omega)];omega
   rw[if_neg (by simpa using d),e,cW (by omega),apm d,List.getLast_eq_getElem];grind
def kg{x:Int}(h:Ln x<=17592186044416):dX (eu x)=some true:=by
 rw[Ks (show Fit (eu x).aa from h),PU]
theorem xo{s:Int}{l:List Int}(x:Int)(a:Fit l)(b:Dg l)(c:dv l=x.natAbs)(d:x≠0->s=x.sign):ef s l=some (eu x):=by
 unfold ef;rw[HC a b c,aoo]
 by_cases h0:x=0
 ·grind[dB,JC]
 ·have:aU x.natAbs≠[]:=fun h=>h0 (by have:=zD.1 h;omega);rw[if_neg (by simpa using this),d h0];rfl
theorem pY(b:aF):fV true b=some (b,0):=rfl
theorem Ql(x:Int):x.sign = -1∨x.sign=0∨x.sign=1:=by
 grind
def VB{x:Int}(h:Ln x<=dh):tw (eu x)=some (eu (-x)):=by
 unfold tw;have b:dh=4398046511104:=rfl;rw[kg (by omega),aoo];simp only[aor,anD,if_false];have a:Fit (eu x).aa:=by unfold Fit;show Ln x<=_;omega
 rw[zA a,aoo,xo (-x) a (cr _) (by show dv (aU _)=_;rw[bt,Int.natAbs_neg]),aoo];intro c;show IntKind.i64.wrap (0-x.sign)=_;grind[jQ,Int.sign_neg,Int.zero_sub]
def ahG(s t:Int):zB [s,t]=some (if s≠0 then s else t):=by
 have key:∃r,aO (Be [s,t]) 0=some r∧(match r with | .inl _=>s=0∧t=0 | .inr x=>x=if s≠0 then s else t):=by
  refine dq (I:=fun i j=>j=(i:Int)∧(1<=i->s=0)∧(2<=i->t=0)) 2 _ ⟨rfl,by omega,by omega⟩ (by unfold FU;omega) ?_;rintro i j c ⟨rfl,a,d⟩;simp only[Be];rcases (show i=0∨i=1∨i=2 by omega) with rfl|rfl|rfl
  ·rw[if_pos (by simp)];show _∨∃r,((some s).bind _=_)∧_;rw[show P.idx [s,t] ((0:Nat):Int)=some s from rfl,aoo]
   by_cases b:s=0
   ·simp_all[if_neg,jQ]
   simp_all
  ·have b:=a (by omega);rw[if_pos (by simp),show P.idx [s,t] ((1:Nat):Int)=some t from rfl,aoo]
   by_cases e:t=0
   ·simp_all[if_neg,jQ]
   simp_all
  simp_all
 grind[zB]
theorem vf(x:Int):x.sign=1∧x=x.natAbs∧0<x∨x.sign = -1∧x = -x.natAbs∧x<0∨x.sign=0∧x=0:=by
 grind
theorem ua{x:Int}{s:Int}{n:Nat}(a:n=x.natAbs)(b:x≠0->s=x.sign)(c:n≠0->(aU n).length<=17592186044416):ef s (aU n)=some (eu x):=by
 grind[xo,cr,bt,dB]
def aiw{x y:Int}(k:Ln x<=dh)(l:Ln y<=dh):A7 (eu x) (eu y)=some (eu (x+y),0):=by
 have m:dh=4398046511104:=rfl;have f:=HK x y;unfold A7;rw[kg (by omega),aoo];simp only[aor,anD,if_false];rw[kg (by omega),aoo,aoo];simp only[aor,anD,if_false];show (if decide (IntKind.i64.wrap (x.sign*y.sign)>=0)=true then _ else _)=_;have a:(eu x).aa=aU x.natAbs:=rfl;have b:(eu y).aa=aU y.natAbs:=rfl;have c:(eu x).al=x.sign:=rfl;have d:(eu y).al=y.sign:=rfl;rw[a,b,c,d];have n:(aU x.natAbs).length<=4398046511104:=by show Ln x<=_;omega
 have o:(aU y.natAbs).length<=4398046511104:=by show Ln y<=_;omega
 have p:=vf x;have q:=vf y;have g:IntKind.i64.wrap (x.sign*y.sign)=x.sign*y.sign:=by
  apply jQ;grind
 rw[g]
 by_cases e:x.sign*y.sign>=0
 ·rw[if_pos (by simpa using e),ahG,aoo,add_eq (cr _) (cr _) (by omega) (by omega),aoo,bt,bt];have h:((x.natAbs:Int)+y.natAbs).toNat=(x+y).natAbs:=by
   grind
  rw[h,ua (x:=x+y) rfl ?_ (fun _=>by show Ln (x+y)<=_;omega),aoo,pY,aoo];grind
 ·rw[if_neg (by simpa using e),Cg (by unfold Fit;omega) (by unfold Fit;omega),aoo];have i:x.sign=1∧y.sign = -1∧0<x∧y<0∨x.sign = -1∧y.sign=1∧x<0∧0<y:=by
   grind
  by_cases j:x.natAbs<y.natAbs
  ·have:mY (x.natAbs:Int) y.natAbs<0:=by unfold mY;omega
   rw[if_pos (by simpa using this),sub_eq (cr _) (cr _) (by unfold Fit;omega) (cQ (by omega)) (by rw[bt,bt];omega),aoo,bt,bt];grind[Ln,ua,pY]
  ·have:¬mY (x.natAbs:Int) y.natAbs<0:=by unfold mY;omega
   rw[if_neg (by simpa using this),sub_eq (cr _) (cr _) (by unfold Fit;omega) (cQ (by omega)) (by rw[bt,bt];omega),aoo,bt,bt];grind[Ln,ua,pY]
theorem aix{x y:Int}(h:Ln x<=dh)(i:Ln y<=dh):A9 (eu x) (eu y)=some (eu (x*y),0):=by
 have j:dh=4398046511104:=rfl;have e:=jt x y;unfold A9;rw[kg (by omega),aoo];simp only[aor,anD,if_false];rw[kg (by omega),aoo,aoo];simp only[aor,anD,if_false];have a:(eu x).aa=aU x.natAbs:=rfl;have b:(eu y).aa=aU y.natAbs:=rfl;have c:(eu x).al=x.sign:=rfl;have d:(eu y).al=y.sign:=rfl;rw[a,b,c,d];have k:(aU x.natAbs).length<=4398046511104:=by show Ln x<=_;omega
 have l:(aU y.natAbs).length<=4398046511104:=by show Ln y<=_;omega
 have f:IntKind.i64.wrap (x.sign*y.sign)=(x*y).sign:=by
  grind[Int.sign_mul,jQ]
 rw[f,mul_eq (cr _) (cr _) (by omega),aoo,bt,bt];have g:((x.natAbs:Int)*y.natAbs).toNat=(x*y).natAbs:=by grind[Int.natAbs_mul,Int.natCast_mul]
 rw[g,ua (x:=x*y) rfl (fun _=>rfl) (fun _=>by show Ln (x*y)<=_;omega),aoo,pY,aoo]
theorem qA{x y:Int}(a:Ln x<=dh)(b:Ln y<=dh):df (eu x) (eu y)=some (eu (x*y)):=by
 grind[df,aix]
def aco{x y:Int}(n:Ln x<=dh)(o:Ln y<=dh)(g:0<y)(j:y∣x):tv (eu x) (eu y)=some (eu (x / y),eu 0,0):=by
 have p:dh=4398046511104:=rfl;unfold tv;rw[kg (by omega),aoo];simp only[aor,anD,if_false];rw[kg (by omega),aoo,aoo];simp only[aor,anD,if_false];have a:(eu x).aa=aU x.natAbs:=rfl;have b:(eu y).aa=aU y.natAbs:=rfl;have c:(eu x).al=x.sign:=rfl;have d:(eu y).al=1:=apn g;rw[a,b,c,d];have q:(aU x.natAbs).length<=4398046511104:=by show Ln x<=_;omega
 have r:(aU y.natAbs).length<=4398046511104:=by show Ln y<=_;omega
 have k:=cQ (Nat.div_le_self x.natAbs y.natAbs);obtain⟨z,rfl⟩:=j;have e:y*z / y=z:=Int.mul_ediv_cancel_left _ (by omega);have s:(y*z).natAbs=y.natAbs*z.natAbs:=apl _ _;have i:(y*z).natAbs / y.natAbs=z.natAbs:=by grind[Nat.mul_div_cancel_left]
 have l:(y*z).natAbs % y.natAbs=0:=by simp_all
 have f:(y*z).sign=z.sign:=by rw[Int.sign_mul,apn g,Int.one_mul]
 rw[if_neg (by decide),div_eq (by omega) (by omega) (by omega),aoo,Int.mul_one,f,jQ (x:=z.sign) (by grind),e,i,l,dB];rw[i]at k;have m:(if decide (z.sign<0)=true then some (decide ((([]:List Int).length:Int)>0)) else some false)=some false:=by split<;>rfl
 simp only[m,Option.bind_some,anD,if_false];rw[ua (x:=z) rfl (fun _=>rfl) (fun _=>by omega),aoo];have:ef z.sign []=some (eu 0):=xo 0 (by simp[Fit]) Dg.nil rfl (fun h=>absurd rfl h);simp_all
def lg(n:Nat):Nat:=if n=0 then 0 else n.log2+1
def aib{r x:Nat}(h:2*r<x):lg r<lg x:=by
 unfold lg;rw[if_neg (show x≠0 by omega)]
 by_cases a:r=0
 ·simp_all
 ·rw[if_neg a];have b:=Nat.log2_self_le a;have c:=@Nat.lt_log2_self x;have:2 ^ (r.log2+1)<2 ^ (x.log2+1):=by omega
  grind[Nat.pow_lt_pow_iff_right]
def Y7{n k:Nat}(h:(n:Int)<pw k):lg n<=20*k:=by
 unfold lg
 by_cases a:n=0
 ·simp_all
 ·rw[if_neg a];have:n<2 ^ (20*k):=by
   grind[pw,Nat.pow_mul,Int.natCast_pow]
  have:=(Nat.log2_lt a).2 this;omega
def ad5{a b:Nat}(g:(aU a).length<=ll)(i:(aU b).length<=ll):aO uq (aU a,aU b)=some (aU (Nat.gcd a b)):=by
 have o:ll=17592186043904:=rfl;have key:∃r,aO uq (aU a,aU b)=some r∧r=aU (Nat.gcd a b):=by
  have p:=Y7 (iO a);have q:=Y7 (iO b)
  let c:List Int->Nat:=fun l=>(dv l).toNat
  have e:∀n,c (aU n)=n:=fun n=>by grind[dv,aU,bt]
  refine uU (I:=fun (s:List Int×List Int)=>∃x y,s=(aU x,aU y)∧Nat.gcd x y=Nat.gcd a b∧(aU x).length<=ll∧(aU y).length<=ll)
   (μ:=fun (s:List Int×List Int)=>lg (c s.1)+lg (c s.2)+(if c s.1<c s.2 then 1 else 0)) _ ⟨a,b,rfl,rfl,g,i⟩ (by grind[FU]) ?_
  rintro _ ⟨x,y,rfl,t,u,j⟩;simp only[uq]
  by_cases h0:y=0
  ·simp_all[dB,if_neg]
  ·left;have f:0<(aU y).length:=aoH.2 (fun h=>h0 (zD.1 h));rw[if_pos (by simpa using f),div_eq h0 (by omega) (by omega),aoo];have k:=anT x (apo h0);refine⟨_,rfl,⟨y,x % y,rfl,?_,j,?_⟩,?_⟩
   ·grind[Nat.gcd_comm,Nat.gcd_rec]
   ·have:=cQ (Nat.mod_le x y);omega
   ·simp only[e];rw[if_neg (by omega)]
    by_cases d:x<y
    ·rw[if_pos d,anW d];omega
    ·rw[if_neg d];have:lg (x % y)<lg x:=by
      apply aib;have v:=ao2 x y;have m:1<=x / y:=(Nat.one_le_div_iff (by omega)).2 (by omega);have w:y*1<=y*(x / y):=Nat.mul_le_mul_left _ m;omega
     omega
 simp_all
def acr{x y:Int}(d:Ln x<=ll)(e:Ln y<=ll):vD (eu x) (eu y)=some (eu (Int.gcd x y),0):=by
 have f:ll=17592186043904:=rfl;unfold vD;rw[kg (by omega),aoo];simp only[aor,anD,if_false];rw[kg (by omega),aoo,aoo];simp only[aor,anD,if_false];have a:(eu x).aa=aU x.natAbs:=rfl;have b:(eu y).aa=aU y.natAbs:=rfl;rw[a,b];have g:(aU x.natAbs).length<=17592186043904:=by show Ln x<=_;omega
 have i:(aU y.natAbs).length<=17592186043904:=by show Ln y<=_;omega
 have j:(aU (Nat.gcd x.natAbs y.natAbs)).length<=17592186043904:=by
  by_cases h:y.natAbs=0
  ·simp_all
  ·have:=cQ (apq x.natAbs (apo h));omega
 rw[zA (by unfold Fit;omega),aoo,ad5 (by omega) (by omega),aoo,zA (by unfold Fit;omega),aoo];have c:Nat.gcd x.natAbs y.natAbs=((Int.gcd x y:Nat):Int).natAbs:=rfl;grind[Int.gcd,ua,pY]
theorem VA{x y:Int}(f:Ln x<=dh)(g:Ln y<=dh):po (eu x) (eu y)=some (mY x y):=by
 have i:dh=4398046511104:=rfl;unfold po;rw[kg (by omega),aoo];simp only[aor,anD,if_false];rw[kg (by omega),aoo,aoo];simp only[aor,anD,if_false];have a:(eu x).aa=aU x.natAbs:=rfl;have b:(eu y).aa=aU y.natAbs:=rfl;have d:(eu x).al=x.sign:=rfl;have e:(eu y).al=y.sign:=rfl;rw[a,b,d,e];have j:(aU x.natAbs).length<=4398046511104:=by show Ln x<=_;omega
 have k:(aU y.natAbs).length<=4398046511104:=by show Ln y<=_;omega
 by_cases h:x.sign=y.sign
 ·rw[if_neg (by simpa using h),Cg (by unfold Fit;omega) (by unfold Fit;omega),aoo];have l:∀s:Int,s = -1∨s=0∨s=1->∀c:Int,c = -1∨c=0∨c=1->IntKind.i64.wrap (s*c)=s*c:=by
   grind[jQ]
  grind[mY,Ql]
 ·rw[if_pos (by simpa using h),En,aoo];congr 1;unfold mY;grind
def aan(x:Int):IntKind.u64.wrap x=x % 18446744073709551616:=by
 simp_all[IntKind.wrap,IntKind.bits,IntKind.signed,Bool.false_and,anD,if_false]
def wu{x:Int}(h:0<=x∧x<18446744073709551616):IntKind.u64.wrap x=x:=by rw[aan];omega
def aay{x:Int}(h:0<=x∧x<18446744073709551616):nR .and .u64 x 1048575=x % 1048576:=by
 unfold nR;simp only;have a:(BitVec.ofInt IntKind.u64.bits x &&& BitVec.ofInt IntKind.u64.bits 1048575).toNat=((x % 18446744073709551616).toNat) % 1048576:=by
  rw[BitVec.toNat_and,BitVec.toNat_ofInt,BitVec.toNat_ofInt];have e:((1048575:Int) % ((2 ^ IntKind.u64.bits:Nat):Int)).toNat=2 ^ 20-1:=by decide
  rw[e,ao9];rfl
 rw[a,wu (by omega)];omega
def ajj(x:Int):CZ .u64 x 20=some (x / 1048576):=by
 unfold CZ;rw[if_neg (by decide)];have e:(2:Int) ^ (min (Int.toNat 20) IntKind.u64.bits)=1048576:=by decide
 grind
theorem pw4:pw 4=1208925819614629174706176:=by decide
def ag2{n:Nat}(k:n<18446744073709551616):∃l,aO Ba ((n:Int),[])=some l∧Dg l∧dv l=n∧l.length<=5:=by
 refine uU (I:=fun (s:Int×List Int)=>0<=s.1∧Dg s.2∧dv s.2+pw s.2.length*s.1=n∧s.2.length<=5∧(s.1=0∨s.2.length<5)) (μ:=fun (s:Int×List Int)=>s.1.toNat) _ ⟨by simp,Dg.nil,by simp[dv,sj],by simp,by simp⟩ (by grind[FU,Int.toNat_natCast]) ?_;rintro⟨u,l⟩ ⟨a,b,c,d,e⟩;simp only at a b c d e;have m:=rH l.length;have f:=dL b;have o:u<=n:=by
  have:1*u<=pw l.length*u:=apg (by omega) a;omega
 simp only[Ba]
 by_cases g:u>0
 ·left;have h:l.length<5:=by omega
  have i:l.length<4:=by
   grind[Nat.lt_or_ge,pw4]
  have j:IntKind.i64.wrap (u % 1048576)=u % 1048576:=jQ (by omega);rw[if_pos (by simpa using g),aay ⟨a,by omega⟩,j,y7 (by simp;omega),aoo,ajj,aoo];refine⟨_,rfl,⟨by simp only;omega,b.append (Dg.mk (by omega) Dg.nil),?_,by simp;omega,by right;simp;omega⟩,by simp only;omega⟩;simp only[iF,dv,an7,List.length_cons,List.length_nil,api,apj,an5];grind[yn]
 grind
theorem ahF{x:Int}(h : -9223372036854775808<=x∧x<9223372036854775808):xJ x=some (eu x):=by
 have b:(if decide (x<0)=true then some ((-1:Int),IntKind.u64.wrap (0-(IntKind.u64.wrap x))) else some (1,IntKind.u64.wrap x))=some (if x<0 then -1 else 1,((x.natAbs:Nat):Int)):=by
  by_cases a:x<0
  ·rw[if_pos (by simpa using a),if_pos a,aan,aan];congr 2;omega
  ·rw[if_neg (by simpa using a),if_neg a,aan];congr 2;omega
 obtain⟨l,c,d,e,f⟩:=ag2 (n:=x.natAbs) (by omega);unfold xJ;grind[qm,xo]
def amu{d:Int}{i:Nat}(a:i<=3)(b:0<=d∧d<1048576)(c:i=3->d<=8):LP .u64 (IntKind.u64.wrap d) (IntKind.i64.wrap (20*(i:Int)))=some (pw i*d):=by
 rw[wu (by omega),jQ (by omega)];unfold LP;rw[if_neg (by omega)];have e:(2:Int) ^ (min (20*(i:Int)).toNat IntKind.u64.bits)=pw i:=by
  have:∀i:Nat,i<=3->(2:Int) ^ (min (20*(i:Int)).toNat IntKind.u64.bits)=pw i:=by decide
  exact this i a
 rw[e,wu,Int.mul_comm];rcases (show i=0∨i=1∨i=2∨i=3 by omega) with rfl|rfl|rfl|rfl
 ·grind
 ·grind[pw]
 ·grind[pw]
 grind[pw]
theorem akH{u d:Int}{i:Nat}(a:i<=3)(j:0<=u∧u<pw i)(b:0<=d∧pw i*d<9223372036854775809):nR .or .u64 u (pw i*d)=u+pw i*d:=by
 have k:=rH i;have c:0<=pw i*d:=ape (by omega) b.1;have f:pw i=((2 ^ (20*i):Nat):Int):=by simp_all[pw,Nat.pow_mul,Int.natCast_pow]
 have g:pw i<=1152921504606846976:=by
  have:=vY a;grind[pw]
 unfold nR;simp only;have h:(BitVec.ofInt IntKind.u64.bits u ||| BitVec.ofInt IntKind.u64.bits (pw i*d)).toNat=(u+pw i*d).toNat:=by
  rw[BitVec.toNat_or,BitVec.toNat_ofInt,BitVec.toNat_ofInt];have e:((2 ^ IntKind.u64.bits:Nat):Int)=18446744073709551616:=by decide
  rw[e];have l:(u % 18446744073709551616).toNat=u.toNat:=by omega
  have m:((pw i*d) % 18446744073709551616).toNat=d.toNat <<< (20*i):=by
   grind[Nat.shiftLeft_eq,Int.emod_eq_of_lt]
  grind[Nat.shiftLeft_add_eq_or_of_lt,Nat.shiftLeft_eq]
 rw[h,wu (by omega)];omega
def ai8{g:Nat}(h:(aU g).length<=ll):xc (eu g)=some (decide (g=1)):=by
 have z:ll=17592186043904:=rfl;have b:(eu (g:Int)).aa=aU g:=rfl;have j:Ln (g:Int)=(aU g).length:=rfl;unfold xc;have e:g=1->(aU g).length<=4:=by
  rintro rfl;exact am8 (j8 (k:=1) (by decide)) (by decide)
 suffices A:∃r,A8 (eu g)=some r∧((if r.2=true then some (r.1==1) else some false)=some (decide (g=1))) by
  grind
 unfold A8;rw[kg (by rw[j];omega),aoo];simp only[aor,anD,if_false,Option.bind_some,b]
 by_cases B:(aU g).length>4
 ·rw[if_pos (by simp;omega)];grind
 rw[if_neg (by simp;omega)];have key:∃r,aO (xI (eu g)) (0,0)=some r∧(match r with | .inl u=>u=(g:Int) | .inr x=>x=(0,false)∧g≠1):=by
  refine dq (I:=fun i s=>s.2=(i:Int)∧s.1=dv ((aU g).take i)) (aU g).length _ ⟨rfl,rfl⟩ (ky (by omega)) ?_;rintro i ⟨u,s⟩ p ⟨f,c⟩;simp only at f c;subst f c;simp only[xI,b];have d:=(cr g).take i;have q:=dL d;have l:=td d;rw[ann,aoX p]at l
  by_cases a:i<(aU g).length
  ·have gd:=(cr g).get a;rw[if_pos (by simpa using a),cW a,aoo];have t:(if ((i:Int)==3)=true then some (decide ((aU g)[i]>8)) else some false)=some (decide (i=3∧(aU g)[i]>8)):=by
    by_cases v:i=3
    ·subst v;simp
    grind
   rw[t,aoo]
   by_cases o:i=3∧(aU g)[i]>8
   ·right;rw[if_pos (by simpa using o)];refine⟨.inr (0,false),rfl,rfl,?_⟩;rintro rfl;have:=j8 (n:=1) (k:=1) (by decide);omega
   ·left;rw[if_neg (by simpa using o),amu (by omega) gd (by omega),aoo];have C:pw i*(aU g)[i]<9223372036854775809:=by
     rcases (show i=0∨i=1∨i=2∨i=3 by omega) with h|h|h|h
     ·grind[pw]
     ·grind[pw]
     ·grind[pw]
     grind[pw]
    grind[akH,jQ,iT]
  ·right;have:i=(aU g).length:=by omega
   subst this;grind[dv,aU,List.take_length,bt]
 obtain⟨r,f,c⟩:=key;rw[f,aoo];cases r with
 | inr x=>simp_all
 | inl u =>
  simp only at c;subst c;have w:(eu (g:Int)).al=(g:Int).sign:=rfl;have y:¬(g:Int).sign<0:=by simp_all
  simp only[w];rw[if_neg (by simp),aoo,if_neg (by simp),if_pos (by simp)]
  by_cases m:(g:Int)<9223372036854775808
  ·rw[if_pos (by simpa using m)];refine⟨_,rfl,?_⟩;simp only[if_true];rw[wrap64 (by omega) m];congr 1;grind
  ·rw[if_neg (by simpa using m)]
   (simp_all;omega)
def b9(q:Rat):an:=an.mk (eu q.num) (eu q.den)
def LF(q:Rat):Nat:=max (Ln q.num) (Ln q.den)
theorem vR{p q:Rat}(h:b9 p=b9 q):p=q:=by
 grind[b9,an.mk.injEq,Zn,Rat.ext]
def okF(f:an):Bool:=okB f.bF&&okB f.bJ&&(f.bJ.al==1)&&decide (Nat.gcd (dv f.bF.aa).toNat (dv f.bJ.aa).toNat=1)
def sg{f:an}:okF f=true↔∃q,f=b9 q:=by
 obtain⟨p,q⟩:=f;unfold okF;simp only[anF,beq_iff_eq,decide_eq_true_eq];constructor
 ·rintro⟨⟨⟨e,g⟩,h⟩,d⟩;obtain⟨x,rfl⟩:=yi.1 e;obtain⟨y,rfl⟩:=yi.1 g;have i:0<y:=by
   have:y.sign=1:=h;simp_all
  have a:(dv (eu x).aa).toNat=x.natAbs:=by show (dv (aU _)).toNat=_;rw[bt];rfl
  have b:(dv (eu y).aa).toNat=y.natAbs:=by show (dv (aU _)).toNat=_;rw[bt];rfl
  rw[a,b]at d;refine⟨⟨x,y.natAbs,by omega,d⟩,?_⟩;unfold b9;grind
 ·rintro⟨q,c⟩;unfold b9 at c;simp only[an.mk.injEq]at c;obtain⟨rfl,rfl⟩:=c;have j:=q.den_pos;refine⟨⟨⟨PU _,PU _⟩,apn (by omega)⟩,?_⟩;have a:(dv (eu q.num).aa).toNat=q.num.natAbs:=by show (dv (aU _)).toNat=_;rw[bt];rfl
  have b:(dv (eu (q.den:Int)).aa).toNat=q.den:=by show (dv (aU _)).toNat=_;rw[bt];rfl
  rw[a,b];exact q.reduced
theorem Fk(q:Rat):okF (b9 q)=true:=sg.2 ⟨q,rfl⟩
def aat(f:an):Prop:=f.bF.aa.length<=ll∧f.bJ.aa.length<=ll
def XV{q:Rat}(h:LF q<=dh):aat (b9 q):=by
 unfold LF at h;exact⟨wX (show Ln q.num<=_ by omega),wX (show Ln q.den<=_ by omega)⟩
def zo{f:an}(a:aat f):de f=some (okF f):=by
 have i:ll=17592186043904:=rfl;obtain⟨p,q⟩:=f;simp only[aat]at a;unfold de okF;rw[Ks (show Fit p.aa by unfold Fit;omega),aoo]
 by_cases c:okB p=true
 ·simp only[c,aor,anD,if_false,aoU];rw[Ks (show Fit q.aa by unfold Fit;omega),aoo]
  by_cases d:okB q=true
  ·simp only[d,aor,anD,if_false,aoU,Option.bind_some]
   by_cases b:q.al=1
   ·rw[if_neg (by simp[b])];obtain⟨x,rfl⟩:=yi.1 c;obtain⟨y,rfl⟩:=yi.1 d;rw[acr a.1 a.2,aoo];simp only[beq_self_eq_true,if_true];have e:(dv (eu x).aa).toNat=x.natAbs:=by show (dv (aU _)).toNat=_;rw[bt];rfl
    have g:(dv (eu y).aa).toNat=y.natAbs:=by show (dv (aU _)).toNat=_;rw[bt];rfl
    rw[ai8,aoo,e,g]
    ·rw[b];rfl
    ·have h:0<y.natAbs:=by
      have:y.sign=1:=b;grind
     have:=cQ (apq x.natAbs h);have j:(aU y.natAbs).length<=ll:=a.2;show (aU (Nat.gcd x.natAbs y.natAbs)).length<=_;omega
   simp_all
  simp_all
 simp_all
def lF{q:Rat}(h:LF q<=dh):de (b9 q)=some true:=by rw[zo (XV h),Fk]
theorem OX{p q:Int}(f:Ln p<=dh)(e:Ln q<=dh)(i:q≠0):p8 (eu p) (eu q)=some (b9 (Rat.divInt p q),0):=by
 have n:dh=4398046511104:=rfl;have d:∀{p q:Int},Ln p<=dh->Ln q<=dh->0<q ->
   ((vD (eu p) (eu q)).bind fun j=>(tv (eu p) j.1).bind fun k=>(tv (eu q) j.1).bind fun l=>some ((an.mk k.1 l.1),(0:Int)))=some (b9 (Rat.divInt p q),0):=by
  intro p q f e i;have o:0<Int.gcd p q:=Int.gcd_pos_of_ne_zero_right _ (by omega);have g:Ln (Int.gcd p q:Int)<=dh:=by
   have:=cQ (apq p.natAbs (show 0<q.natAbs by omega));show (aU (Nat.gcd p.natAbs q.natAbs)).length<=_;have r:(aU q.natAbs).length<=dh:=e;omega
  rw[acr (wX f) (wX e),aoo];simp only;rw[aco f g (by omega) (Int.gcd_dvd_left ..),aoo,aco e g (by omega) (Int.gcd_dvd_right ..),aoo];have m:((q.natAbs / Int.gcd p q:Nat):Int)=q / (Int.gcd p q:Int):=by
   grind
  unfold b9;rw[Rat.num_divInt,Rat.den_divInt,if_neg (by omega),apn i,Int.one_mul,Int.gcd_comm q p,m]
 unfold p8;rw[kg (by omega),aoo];simp only[aor,anD,if_false];rw[kg (by omega),aoo,aoo];simp only[aor,anD,if_false];have h:(eu q).al=q.sign:=rfl;rw[h];rcases vf q with⟨a,b,c⟩|⟨a,b,c⟩|⟨a,b⟩
 ·rw[if_neg (by rw[a];decide),if_neg (by rw[a];decide),aoo];exact d f e c
 ·rw[if_neg (by rw[a];decide),if_pos (by rw[a];decide),VB f,aoo,VB e,aoo,aoo];have:=d (p := -p) (q := -q) (by rw[Ek];exact f) (by rw[Ek];exact e) (by omega);rw[Rat.neg_divInt_neg]at this;exact this
 omega
def kI(q:Rat):Ln q.num<=LF q:=by unfold LF;omega
def ma(q:Rat):Ln q.den<=LF q:=by unfold LF;omega
theorem wW{p q:Int}(a:q≠0):LF (Rat.divInt p q)<=max (Ln p) (Ln q):=by
 have d:0<Int.gcd q p:=Int.gcd_pos_of_ne_zero_left _ a;have e:Ln (Rat.divInt p q).num<=Ln p:=by
  apply X0;rw[Rat.num_divInt];obtain⟨z,b⟩:(Int.gcd q p:Int)∣q.sign*p:=Int.dvd_mul_of_dvd_right (Int.gcd_dvd_right ..);rw[b,Int.mul_ediv_cancel_left _ (by omega)];have c:(q.sign*p).natAbs=p.natAbs:=by
   grind
  rw[<- c,b,apl];simp_all[Nat.le_mul_of_pos_left]
 have c:Ln ((Rat.divInt p q).den:Int)<=Ln q:=by
  apply X0;rw[Rat.den_divInt,if_neg a];exact Nat.div_le_self _ _
 unfold LF;omega
theorem XS{a b:Rat}(h:LF a+LF b+1<=dh):oo (b9 a) (b9 b)=some (b9 (a+b),0):=by
 have d:=kI a;have e:=kI b;have d1:=ma a;have d2:=ma b;have f:=jt a.num b.den;have g:=jt b.num a.den;have i:=jt a.den b.den;have j:=HK (a.num*b.den) (b.num*a.den);unfold oo;rw[lF (by omega),aoo];simp only[aor,anD,if_false];rw[lF (by omega),aoo,aoo];simp only[aor,anD,if_false];show (df (eu a.num) (eu b.den)).bind _=_;rw[qA (by omega) (by omega),aoo];show (df (eu b.num) (eu a.den)).bind _=_;rw[qA (by omega) (by omega),aoo,aiw (by omega) (by omega),aoo];show (df (eu a.den) (eu b.den)).bind _=_;have c:(a.den:Int)*b.den≠0:=by
  rw[<- apk];have:=ao1 a.den_pos b.den_pos;omega
 rw[qA (by omega) (by omega),aoo,OX (by omega) (by omega) c,aoo];rw[Rat.add_def',<- apr,apk]
theorem xF(a b:Rat):LF (a+b)<=LF a+LF b+1:=by
 have d:=kI a;have e:=kI b;have d1:=ma a;have d2:=ma b;have f:=jt a.num b.den;have g:=jt b.num a.den;have h:=jt a.den b.den;have i:=HK (a.num*b.den) (b.num*a.den);have c:(a.den:Int)*b.den≠0:=by
  rw[<- apk];have:=ao1 a.den_pos b.den_pos;omega
 rw[Rat.add_def',<- apr,apk];grind[wW]
theorem acw(a:Rat):LF (-a)=LF a:=by simp_all[LF,Rat.neg_num,Rat.neg_den,Ek]
theorem OV(a b:Rat):LF (a-b)<=LF a+LF b+1:=by
 grind[Rat.sub_eq_add_neg,xF,acw]
def acH{a b:Rat}(h:LF a+LF b+1<=dh):sB (b9 a) (b9 b)=some (b9 (a-b),0):=by
 unfold sB;rw[lF (by omega),aoo];simp only[aor,anD,if_false];rw[lF (by omega),aoo,aoo];simp only[aor,anD,if_false];show (tw (eu b.num)).bind _=_;have c:=kI b;rw[VB (by omega),aoo];have e:an.mk (eu (-b.num)) (b9 b).bJ=b9 (-b):=by unfold b9;simp_all
 grind[XS,acw,Rat.sub_eq_add_neg]
theorem X1{a b:Rat}(h:LF a+LF b<=dh):p7 (b9 a) (b9 b)=some (b9 (a*b),0):=by
 have d:=kI a;have e:=kI b;have d1:=ma a;have d2:=ma b;have f:=jt a.num b.num;have g:=jt a.den b.den;unfold p7;rw[lF (by omega),aoo];simp only[aor,anD,if_false];rw[lF (by omega),aoo,aoo];simp only[aor,anD,if_false];show (df (eu a.num) (eu b.num)).bind _=_;rw[qA (by omega) (by omega),aoo];show (df (eu a.den) (eu b.den)).bind _=_;have c:(a.den:Int)*b.den≠0:=by
  rw[<- apk];have:=ao1 a.den_pos b.den_pos;omega
 rw[qA (by omega) (by omega),aoo,OX (by omega) (by omega) c,aoo];rw[Rat.mul_def',<- apr,apk]
theorem wv(a b:Rat):LF (a*b)<=LF a+LF b:=by
 have d:=kI a;have e:=kI b;have d1:=ma a;have d2:=ma b;have f:=jt a.num b.num;have g:=jt a.den b.den;have c:(a.den:Int)*b.den≠0:=by
  rw[<- apk];have:=ao1 a.den_pos b.den_pos;omega
 rw[Rat.mul_def',<- apr,apk];grind[wW]
theorem Ij(a b:Rat):a / b=Rat.divInt (a.num*b.den) (a.den*b.num):=by
 grind[Rat.div_def,Rat.inv_def,Rat.num_divInt_den,Rat.divInt_mul_divInt]
def ajV{a b:Rat}(h:LF a+LF b<=dh)(h0:b≠0):sA (b9 a) (b9 b)=some (b9 (a / b),0):=by
 have i:=kI a;have j:=kI b;have d1:=ma a;have d2:=ma b;have k:=jt a.num b.den;have l:=jt a.den b.num;have e:b.num≠0:=fun f=>h0 (Rat.num_eq_zero.1 f);unfold sA;rw[lF (by omega),aoo];simp only[aor,anD,if_false];rw[lF (by omega),aoo,aoo];simp only[aor,anD,if_false];have g:(b9 b).bF.al=b.num.sign:=rfl;have c:b.num.sign≠0:=by grind[vf]
 rw[g,if_neg (by simpa using c)];show (df (eu a.num) (eu b.den)).bind _=_;rw[qA (by omega) (by omega),aoo];show (df (eu a.den) (eu b.num)).bind _=_;have d:(a.den:Int)*b.num≠0:=Int.mul_ne_zero (by have:=a.den_pos;omega) e;grind[qA,OX,Ij]
theorem acv{a b:Rat}(h0:b≠0):LF (a / b)<=LF a+LF b:=by
 have f:=kI a;have g:=kI b;have d1:=ma a;have d2:=ma b;have h:=jt a.num b.den;have i:=jt a.den b.num;have d:b.num≠0:=fun e=>h0 (Rat.num_eq_zero.1 e);have c:(a.den:Int)*b.num≠0:=Int.mul_ne_zero (by have:=a.den_pos;omega) d;rw[Ij];grind[wW]
def acu{n:Int}(h : -9223372036854775808<=n∧n<9223372036854775808):iy n=some (b9 n):=by
 simp_all[iy,b9,ahF,aoo]
def Cb{n:Int}(h:n.natAbs<1048576):LF (n:Rat)<=1:=by
 grind[LF,Rat.num_intCast,Rat.den_intCast,Q0]
def Cc{a:Rat}(h:LF a<=dh):jk (b9 a)=some a.num.sign:=by
 unfold jk;rw[lF h,aoo];rfl
def Lf(a b:Rat):Int:=if a<b then -1 else if b<a then 1 else 0
theorem agq(a b:Rat):mY (a.num*b.den) (b.num*a.den)=Lf a b:=by
 grind[mY,Lf,Rat.lt_iff]
def LY{a b:Rat}(h:LF a+LF b<=dh):j9 (b9 a) (b9 b)=some (Lf a b):=by
 have c:=kI a;have d:=kI b;have d1:=ma a;have d2:=ma b;have e:=jt a.num b.den;have f:=jt b.num a.den;unfold j9;rw[lF (by omega),aoo];simp only[aor,anD,if_false];rw[lF (by omega),aoo,aoo];simp only[aor,anD,if_false];show (df (eu a.num) (eu b.den)).bind _=_;rw[qA (by omega) (by omega),aoo];show (df (eu b.num) (eu a.den)).bind _=_;grind[qA,VA,agq]
theorem Vj{l:List Int}(a:Fit l)(b:Dg l):kf l=some (aU (dv l).toNat):=by
 have h:=yG a b;obtain⟨r,c,k,rfl,d,_⟩:=OH a;unfold fF at h;unfold kf;have e:Az l=pq l:=rfl;grind[ZN,y7]
theorem KN{l:List Int}{n:Nat}(a:Fit l)(b:Dg l)(c:dv l=n):kf l=some (aU n):=by
 rw[Vj a b,c];rfl
theorem Ht{s:Int}{l:List Int}(x:Int)(a:Fit l)(b:Dg l)(c:dv l=x.natAbs)(d:x≠0->s=x.sign):gQ s l=some (eu x):=by
 have h:=xo x a b c d;grind[ef,gQ,yG,Vj]
theorem rB{x:Int}{s:Int}{n:Nat}(a:n=x.natAbs)(b:x≠0->s=x.sign)(c:n≠0->(aU n).length<=17592186044416):gQ s (aU n)=some (eu x):=by
 grind[Ht,cr,bt,dB]
def UC{s:Int}{l:List Int}(c:Fit l):∃r,aO (tN ⟨s,l⟩) 0=some r∧(match r with | .inl _=>Dg l | .inr x=>x=false∧¬Dg l):=by
 refine dq (I:=fun i s=>s=(i:Int)∧Dg (l.take i)) l.length _ ⟨rfl,by simpa using Dg.nil⟩ (ky c) ?_;unfold Fit at c;rintro i s h ⟨rfl,d⟩;simp only[tN]
 by_cases a:i<l.length
 ·rw[if_pos (by simpa using a),cW a,aoo]
  by_cases f:l[i]<0
  ·right;exact⟨.inr false,by simp_all,rfl,fun b=>by have:=b.get a;omega⟩
  ·by_cases g:l[i]>=1048576
   ·right;exact⟨.inr false,by simp_all,rfl,fun b=>by have:=b.get a;omega⟩
   ·left;refine⟨a,_,by rw[if_neg (by simpa using f),if_neg (by simpa using g)],by rw[jQ (by omega)];omega,?_⟩;have e:l.take (i+1)=l.take i++[l[i]]:=by simp_all
    rw[e];exact d.append (Dg.mk (by omega) Dg.nil)
 ·right;have:i=l.length:=by omega
  simp_all
def Xe{b:aF}(f:Fit b.aa):eG b=some (okB b):=by
 obtain⟨s,l⟩:=b;simp only[Fit]at f;obtain⟨r,h,g⟩:=UC (s:=s) (l:=l) f;unfold eG okB;rw[h,aoo];cases r with
 | inr x =>
  simp_all
 | inl u =>
  simp only at g ⊢;simp only[g,decide_true,aoU]
  by_cases a:l=[]
  ·grind
  ·have j:0<l.length:=aoH.2 a;have e:IntKind.i64.wrap ((l.length:Int)-1)=((l.length-1:Nat):Int):=by rw[jQ (by omega)];omega
   have c:((l.length:Int)==0)=false:=by simpa using a
   rw[e,cW (by omega),apm a,List.getLast_eq_getElem,c];simp only[Option.bind_some,anD,if_false]
   by_cases i:s < -1
   ·(simp_all;omega)
   ·rw[if_neg (by simpa using i)]
    by_cases d:s>1
    ·(simp_all;omega)
    ·rw[if_neg (by simpa using d)];rcases (show s = -1∨s=0∨s=1 by omega) with rfl|rfl|rfl<;>simp
def jn{x:Int}(h:Ln x<=17592186044416):eG (eu x)=some true:=by
 rw[Xe (show Fit (eu x).aa from h),PU]
def w9(l:List Int)(i:Nat):kV l (i:Int)=some (gd l i):=by
 unfold kV
 by_cases h:i<l.length
 ·simp_all[if_pos,cW,aoo,SG]
 simp_all[if_neg,I2]
def Vg{a b l0:List Int}{i n:Nat}(u:Dg a)(v:Dg b)(e:i<a.length)(w:Dg l0)(y:l0.length=n)(M:i+b.length<n)(N:n<=17592186044416)(hz:∀j (f:j<l0.length),i+b.length<=j->l0[j]=0) :
  ∃l,aO (tQ a b (i:Int)) (0,0,l0)=some l∧l.length=n∧Dg l∧(∀j (f:j<l.length),i+b.length<j->l[j]=0)∧dv l=dv l0+pw i*(a[i]*dv b):=by
 have z:=u.get e;refine dq (I:=fun k s=>s.2.1=(k:Int)∧s.2.2.length=n∧Dg s.2.2∧(0<=s.1∧s.1<1048576)∧(∀j (f:j<s.2.2.length),i+b.length<=j->i+k<=j->s.2.2[j]=0)∧(k=b.length+1->s.1=0)∧dv s.2.2+pw (i+k)*s.1=dv l0+pw i*(a[i]*dv (b.take k)))
  (b.length+1) _ ⟨rfl,y,w,by simp,fun j f h _=>hz j f h,by omega,by simp[dv]⟩ (ky (by omega)) ?_
 rintro k ⟨c,s,l⟩ O ⟨p,q,m,A,hz,g,B⟩;simp only at p q m A hz g B;subst p;simp only[tQ];have C:(if decide ((k:Int)<(b.length:Int))=true then some true else some (decide (c>0)))=some (decide (k<b.length∨c>0)):=by
  grind
 rw[C,aoo]
 by_cases o:k<b.length∨c>0
 ·left;have D:k<=b.length:=by
   omega
  have d:i+k<l.length:=by omega
  have E:IntKind.i64.wrap ((i:Int)+(k:Int))=((i+k:Nat):Int):=by rw[jQ (by omega)];omega
  have r:=Gt v k;have P:=m.get d;have F:0<=a[i]*gd b k:=ape z.1 r.1;have G:a[i]*gd b k<=1048575*1048575:=apf (by omega) (by omega) r.1 (by omega);rw[if_pos (by simpa using o),E,cW d,aoo,cW e,aoo,w9,aoo,jQ (x:=a[i]*gd b k) (by omega),jQ (x:=l[i+k]+a[i]*gd b k) (by omega),jQ (x:=l[i+k]+a[i]*gd b k+c) (by omega),agX (by omega) (by omega),aoo,adu (by omega) (by omega) (by omega),aoo];have H:IntKind.i64.wrap ((k:Int)+1)=((k+1:Nat):Int):=by rw[jQ (by omega)];omega
  refine⟨by omega,_,rfl,H,by simpa using q,m.set _ (by omega),by simp only;omega,fun j f J t =>?_,fun K =>?_,?_⟩
  ·grind
  ·have L:k=b.length:=by omega
   simp only;rw[I2 (by omega),api,hz _ d (by omega) (am6 _)];omega
  ·simp only[Int.toNat_natCast];rw[xU d,se];have Q:=yn (i+k) (l[i+k]+a[i]*gd b k+c);grind[pw,dv,gd,Int.mul_add,Kl]
 grind
def Xx{a b:List Int}(h:Dg a)(k:Dg b)(o:a.length+b.length<=17592186044416):nH a b=some (aU (dv a*dv b).toNat):=by
 have key:∃l,aO (tP a b) (0,List.replicate (a.length+b.length) 0)=some l∧l.length=a.length+b.length∧Dg l∧dv l=dv a*dv b:=by
  refine dq (I:=fun i s=>s.1=(i:Int)∧s.2.length=a.length+b.length∧Dg s.2∧(∀j (p:j<s.2.length),i+b.length<=j->s.2[j]=0)∧dv s.2=dv (a.take i)*dv b)
   a.length _ ⟨rfl,by simp,Dg.rep _,fun j p _=>by simp,by simp[dv,Et]⟩ (ky (by omega)) ?_
  rintro i ⟨s,l⟩ t ⟨d,e,f,g,q⟩;simp only at d e f g q;subst d;simp only[tP]
  by_cases c:i<a.length
  ·left;obtain⟨m,r,u,v,w,x⟩:=Vg (i:=i) (n:=a.length+b.length) h k c f e (by omega) o g;rw[if_pos (by simpa using c),r,aoo];grind[jQ,iT,Int.add_mul,Int.mul_assoc]
  grind
 obtain⟨l,d,y,z,A⟩:=key;unfold nH;grind[jQ,mk0,qm,Vj]
def MT(l:List Int)(i:Nat):dv l=dv (l.take i)+pw i*dv (l.drop i):=by
 grind[dv,lI,List.take_of_length_le,List.drop_eq_nil_of_le]
theorem Iv(l:List Int)(i:Nat):dv (l.drop i)=gd l i+1048576*dv (l.drop (i+1)):=by
 grind[dv,nc,SG,List.drop_eq_nil_of_le,I2]
def Iw{l:List Int}(h:Dg l)(i:Nat):0<=dv (l.take i)∧dv (l.take i)<pw i:=by
 have a:=td (h.take i);have b:=vY (show (l.take i).length<=i by grind);exact⟨dL (h.take i),by omega⟩
def adJ{a b:List Int}(c:Dg a)(d:Dg b){k:Nat}(h:dv (a.drop (k+1))=dv (b.drop (k+1)))(e:gd a k<gd b k):dv a<dv b:=by
 have f:=MT a k;have g:=MT b k;rw[Iv]at f g;have i:=Iw c k;have j:=Iw d k;have l:=rH k;have:pw k*(gd a k+1048576*dv (a.drop (k+1))+1)<=pw k*(gd b k+1048576*dv (b.drop (k+1))):=ao6 (by omega) (by omega);grind
def aex{a b:List Int}(g:Dg a)(j:Dg b)(c:Fit a)(d:Fit b):sM a b=some (decide (dv a<dv b)):=by
 unfold Fit at c d;generalize n:max a.length b.length=m;have em:(if (b.length:Int)>(a.length:Int) then (b.length:Int) else (a.length:Int))=(m:Int):=by split<;>omega
 have key:∃r,aO (v8 a b) ((m:Int)-1)=some r∧(match r with | .inl _=>¬dv a<dv b | .inr x=>x=decide (dv a<dv b)):=by
  refine dq (I:=fun i s=>s=((m-i:Nat):Int)-1∧dv (a.drop (m-i))=dv (b.drop (m-i))) m _ ⟨rfl,?_⟩ (ky (by omega)) ?_
  ·grind[List.drop_eq_nil_of_le]
  rintro i s o ⟨rfl,e⟩;generalize p:m-i=k at *;simp only[v8]
  by_cases q:0<k
  ·have l:((k:Int)-1)=((k-1:Nat):Int):=by omega
   rw[l,if_pos (by simp),w9,aoo,w9,aoo];rw[show k=k-1+1 by omega]at e
   by_cases f:gd a (k-1)=gd b (k-1)
   ·left;rw[if_neg (by simpa using f)];grind[jQ,Iv]
   ·right;rw[if_pos (by simpa using f)];refine⟨.inr (decide (gd a (k-1)<gd b (k-1))),rfl,?_⟩;rcases Int.lt_or_gt_of_ne f with h|h
    ·have:=adJ g j e h;simp[h,this]
    ·have:=adJ j g e.symm h;grind
  simp_all
 grind[sM,jQ]
def WN{a b:List Int}(o:Dg a)(p:Dg b)(q:Fit a)(h:b.length<=a.length)(r:dv b<=dv a):nG a b=some (aU (dv a-dv b).toNat):=by
 unfold Fit at q;have key:∃l,aO (tO a b) (0,0,[])=some l∧l.length=a.length∧Dg l∧dv l=dv a-dv b:=by
  refine dq (I:=fun i s=>s.2.1=(i:Int)∧s.2.2.length=i∧Dg s.2.2∧(0<=s.1∧s.1<=1)∧dv s.2.2+dv (b.take i)=dv (a.take i)+pw i*s.1)
   a.length _ ⟨rfl,rfl,Dg.nil,by simp,by simp[dv]⟩ (ky (by omega)) ?_
  rintro i ⟨c,s,l⟩ v ⟨f,e,g,t,k⟩;simp only at f e g t k;subst f;simp only[tO]
  by_cases d:i<a.length
  ·left;have w:=o.get d;have y:=Gt p i;rw[if_pos (by simpa using d),cW d,aoo,w9,aoo,jQ (x:=a[i]-gd b i) (by omega),jQ (x:=a[i]-gd b i-c) (by omega)];have m:IntKind.i64.wrap ((i:Int)+1)=((i+1:Nat):Int):=by rw[jQ (by omega)];omega
   by_cases n:a[i]-gd b i-c<0
   ·rw[if_pos (by simpa using n),jQ (by omega),y7 (by simp;omega),aoo];refine⟨d,_,rfl,m,by simp[e],g.append (Dg.mk (by omega) Dg.nil),by simp,?_⟩;simp only;rw[iF,se,iT d,e,ZG];simp only[dv,api,apj,Int.mul_one];grind
   ·rw[if_neg (by simpa using n),y7 (by simp;omega),aoo];refine⟨d,_,rfl,m,by simp[e],g.append (Dg.mk (by omega) Dg.nil),by simp,?_⟩;simp only;rw[iF,se,iT d,e];simp only[dv,api,apj];grind
  ·right;have j:i=a.length:=by omega
   subst j;refine⟨l,by simp_all,e,g,?_⟩;rw[CE h,aoY]at k;have f:=td g;rw[e]at f;have u:c=0:=by
    grind
   grind
 obtain⟨l,f,z,A,B⟩:=key;simp_all[nG,Fit,aoo,qm,Vj]
def akI{a b:List Int}(n:Dg a)(o:Dg b)(p:a.length<17592186044410)(q:b.length<17592186044410):sP a b=some (aU (dv a+dv b).toNat):=by
 generalize y:max a.length b.length=m;have key:∃l,aO (wb a b) (0,0,[])=some l∧l.length<=m+1∧Dg l∧dv l=dv a+dv b:=by
  refine dq (I:=fun i s=>s.2.1=(i:Int)∧s.2.2.length=i∧Dg s.2.2∧(0<=s.1∧s.1<=1)∧(i=m+1->s.1=0)∧dv s.2.2+pw i*s.1=dv (a.take i)+dv (b.take i))
   (m+1) _ ⟨rfl,rfl,Dg.nil,by simp,by omega,by simp[dv]⟩ (ky (by omega)) ?_
  rintro i ⟨c,s,l⟩ z ⟨e,f,g,r,d,k⟩;simp only at e f g r d k;subst e;simp only[wb];have t:(if decide ((i:Int)<(a.length:Int))=true then some true else if decide ((i:Int)<(b.length:Int))=true then some true else some (decide (c>0)))=some (decide (i<m∨c>0)):=by
   grind
  rw[t,aoo]
  by_cases h:i<m∨c>0
  ·left;have u:i<=m:=by
    omega
   have A:=Gt n i;have B:=Gt o i;rw[if_pos (by simpa using h),w9,aoo,w9,aoo,jQ (x:=gd a i+gd b i) (by omega),jQ (x:=gd a i+gd b i+c) (by omega),agX (by omega) (by omega),aoo,y7 (by simp;omega),aoo,adu (by omega) (by omega) (by omega),aoo];have v:IntKind.i64.wrap ((i:Int)+1)=((i+1:Nat):Int):=by rw[jQ (by omega)];omega
   refine⟨by omega,_,rfl,v,by simp[f],g.append (Dg.mk (by omega) Dg.nil),by simp only;omega,fun w =>?_,?_⟩
   ·grind[I2]
   ·simp only;rw[iF,se,se,f];simp only[dv,api,apj];have C:=yn i (gd a i+gd b i+c);grind
  ·right;refine⟨l,by grind,by omega,g,?_⟩;have j:c=0:=by omega
   subst j;rw[CE (by omega),CE (by omega),api]at k;omega
 obtain⟨l,e,D,E,F⟩:=key;unfold sP;grind[qm,Vj]
def Uo{n R:Nat}(l:n≠0)(d:(aU n).length<=17592186043904)(e:(aU R).length<=17592186043906)(f:R<1048576*n):aO (sO (aU n) (aU R)) (0,1048576)=some ((R / n:Nat):Int):=by
 have key:∃r,aO (sO (aU n) (aU R)) (0,1048576)=some r∧r=((R / n:Nat):Int):=by
  refine uU (I:=fun (s:Int×Int)=>∃b a:Nat,s=((b:Int),(a:Int))∧b<a∧a<=1048576∧b*n<=R∧R<a*n) (μ:=fun (s:Int×Int)=>(s.2-s.1).toNat) _ ⟨0,1048576,rfl,by omega,by omega,by omega,f⟩ (by simp only;unfold FU;omega) ?_;rintro _ ⟨b,a,rfl,m,o,g,h⟩;simp only[sO];rw[jQ (x:=(a:Int)-b) (by omega)]
  by_cases c:(a:Int)-b>1
  ·left;have em:((b:Int)+a) / 2=(((b+a) / 2:Nat):Int):=by omega
   have i:Dg [(((b+a) / 2:Nat):Int)]:=Dg.mk (by omega) Dg.nil;have j:dv (aU n)*dv [(((b+a) / 2:Nat):Int)]=((n*((b+a) / 2):Nat):Int):=by grind[dv,bt,Int.natCast_mul]
   rw[if_pos (by simpa using c),jQ (x:=(b:Int)+a) (by omega),adu (by omega) (by omega) (by omega),aoo,em,Xx (cr n) i (by simp;omega),aoo,j,anY];have k:(aU (n*((b+a) / 2))).length<=17592186043905:=by
    have:((n*((b+a) / 2):Nat):Int)<pw ((aU n).length+1):=by
     rw[mn,apk];have p:=iO n;have:(n:Int)*((b+a) / 2:Nat)<=n*1048576:=ao6 (by omega) (by omega);omega
    have:=j8 this;omega
   rw[aex (cr R) (cr _) (by unfold Fit;omega) (by unfold Fit;omega),aoo,bt,bt]
   by_cases q:R<n*((b+a) / 2)
   ·rw[if_pos (decide_eq_true (by omega))];refine⟨_,rfl,⟨b,(b+a) / 2,rfl,by omega,by omega,g,by grind⟩,by simp only;omega⟩
   ·rw[if_neg (by grind)];refine⟨_,rfl,⟨(b+a) / 2,a,rfl,by omega,by omega,by grind,h⟩,by simp only;omega⟩
  ·right;refine⟨_,by rw[if_neg (by simpa using c)],?_⟩;grind[Nat.div_eq_of_lt_le]
 simp_all
def ail{m n:Nat}(B:n≠0)(C:(aU m).length<=17592186043904)(h:(aU n).length<=17592186043904):u7 (aU m) (aU n)=some (aU (m / n),aU (m % n)):=by
 generalize z:aU m=a at *;have j:Dg a:=by rw[<- z];exact cr m
 have key:∃r,aO (wa a (aU n)) ([],(a.length:Int)-1,List.replicate a.length 0)=some r∧r.2.length=a.length∧Dg r.2∧∃R:Nat,r.1=aU R∧R<n∧dv a=n*dv r.2+R:=by
  refine dq (I:=fun i s=>s.2.1=((a.length-i:Nat):Int)-1∧s.2.2.length=a.length∧Dg s.2.2∧∃R:Nat,s.1=aU R∧R<n∧dv (a.drop (a.length-i))=n*dv (s.2.2.drop (a.length-i))+R)
   a.length _ ⟨rfl,by simp,Dg.rep _,0,dB.symm,by omega,by simp[dv]⟩ (ky (by omega)) ?_
  rintro i ⟨r,s,l⟩ S ⟨f,o,p,R,g,D,q⟩;simp only at f o p g q;subst f g;generalize T:a.length-i=k at *;simp only[wa]
  by_cases U:0<k
  ·left;have b:k-1<a.length:=by omega
   have d:k-1<l.length:=by omega
   have E:((k:Int)-1)=((k-1:Nat):Int):=by omega
   have F:=j.get b;have G:=cQ (show R<=n by omega);have t:Dg ([a[k-1]]++aU R):=(Dg.mk F Dg.nil).append (cr R);obtain⟨X,V⟩:∃X:Nat,a[k-1]+1048576*(R:Int)=X:=⟨(a[k-1]+1048576*(R:Int)).toNat,by omega⟩;have u:X<1048576*n:=by omega
   have v:(aU X).length<=17592186043906:=by
    have:(X:Int)<pw ((aU n).length+1):=by
     rw[mn];have W:=iO n;omega
    have:=j8 this;omega
   rw[E,if_pos (by simp),cW b,aoo,y7 (by simp;omega),aoo,KN (n:=X) (by grind) t (by grind[dv,pw,iF,bt,List.length_cons,List.length_nil]),aoo,Uo B h v u,aoo,cW d,aoo];have Y:X / n<1048576:=aoG (by omega);have H:(0:Int)<=((X / n:Nat):Int):=Int.natCast_nonneg _;rw[KN (n:=X / n) (by simp[Fit]) (Dg.mk (by omega) Dg.nil) (by simp[dv]),aoo];have J:(aU (X / n)).length<=1:=j8 (by rw[mn,sj];omega);have c:(dv (aU n)*dv (aU (X / n))).toNat=n*(X / n):=by grind[bt,Int.natCast_mul]
   rw[Xx (cr _) (cr _) (by omega),aoo,c];have w:n*(X / n)<=X:=Nat.mul_div_le X n;rw[WN (cr _) (cr _) (by unfold Fit;omega) (cQ w) (by rw[bt,bt];omega),aoo,bt,bt];have e:((X:Int)-(n*(X / n):Nat)).toNat=X % n:=by
    grind[Nat.div_add_mod]
   rw[e];have K:IntKind.i64.wrap (((k-1:Nat):Int)-1)=((k-1:Nat):Int)-1:=jQ (by omega);refine⟨by omega,_,rfl,by grind,by simpa using o,p.set _ (by omega),X % n,rfl,anT _ (by omega),?_⟩;simp only[Int.toNat_natCast];rw[show a.length-(i+1)=k-1 by omega,nc b,nc (l:=l.set (k-1) _) (i:=k-1) (by simpa using d),show k-1+1=k by omega,List.getElem_set_self,List.drop_set_of_lt (by omega),q,ao7,ao7];grind
  ·right;have:k=0:=by omega
   subst this;refine⟨(aU R,l),by simp_all,o,p,R,rfl,D,?_⟩;simpa using q
 obtain⟨⟨r,l⟩,f,g,A,R,L,M,y⟩:=key;simp only at g A L y;unfold u7;rw[mk0 (by omega),aoo,jQ (x:=(a.length:Int)-1) (by omega),f,aoo];simp only;rw[<- z,bt]at y;have N:=dL A;obtain⟨Q,O⟩:∃Q:Nat,dv l=Q:=⟨(dv l).toNat,by omega⟩;rw[O]at y;have P:m=n*Q+R:=by
  omega
 have K:m / n=Q:=by rw[P,Nat.mul_add_div (by omega),aph M,anE]
 grind[Nat.mul_add_mod,Nat.mod_eq_of_lt,KN]
theorem aa1{a b:Nat}(g:(aU a).length<=ll)(i:(aU b).length<=ll):aO u6 (aU a,aU b)=some (aU (Nat.gcd a b)):=by
 have o:ll=17592186043904:=rfl;have key:∃r,aO u6 (aU a,aU b)=some r∧r=aU (Nat.gcd a b):=by
  have p:=Y7 (iO a);have q:=Y7 (iO b)
  let c:List Int->Nat:=fun l=>(dv l).toNat
  have e:∀n,c (aU n)=n:=fun n=>by grind[dv,aU,bt]
  refine uU (I:=fun (s:List Int×List Int)=>∃x y,s=(aU x,aU y)∧Nat.gcd x y=Nat.gcd a b∧(aU x).length<=ll∧(aU y).length<=ll)
   (μ:=fun (s:List Int×List Int)=>lg (c s.1)+lg (c s.2)+(if c s.1<c s.2 then 1 else 0)) _ ⟨a,b,rfl,rfl,g,i⟩ (by grind[FU]) ?_
  rintro _ ⟨x,y,rfl,t,u,j⟩;simp only[u6]
  by_cases h0:y=0
  ·simp_all[dB,if_neg]
  ·left;have f:0<(aU y).length:=aoH.2 (fun h=>h0 (zD.1 h));rw[if_pos (by simpa using f),ail h0 (by omega) (by omega),aoo];have k:=anT x (apo h0);refine⟨_,rfl,⟨y,x % y,rfl,?_,j,?_⟩,?_⟩
   ·grind[Nat.gcd_comm,Nat.gcd_rec]
   ·have:=cQ (Nat.mod_le x y);omega
   ·simp only[e];rw[if_neg (by omega)]
    by_cases d:x<y
    ·rw[if_pos d,anW d];omega
    ·rw[if_neg d];have:lg (x % y)<lg x:=by
      apply aib;have v:=ao2 x y;have m:1<=x / y:=(Nat.one_le_div_iff (by omega)).2 (by omega);have w:y*1<=y*(x / y):=Nat.mul_le_mul_left _ m;omega
     omega
 simp_all
def ajX{x y:Int}(d:Ln x<=ll)(e:Ln y<=ll):v7 (eu x) (eu y)=some (eu (Int.gcd x y),0):=by
 have f:ll=17592186043904:=rfl;unfold v7;rw[jn (by omega),aoo];simp only[aor,anD,if_false];rw[jn (by omega),aoo,aoo];simp only[aor,anD,if_false];have a:(eu x).aa=aU x.natAbs:=rfl;have b:(eu y).aa=aU y.natAbs:=rfl;rw[a,b];have g:(aU x.natAbs).length<=17592186043904:=by show Ln x<=_;omega
 have i:(aU y.natAbs).length<=17592186043904:=by show Ln y<=_;omega
 have j:(aU (Nat.gcd x.natAbs y.natAbs)).length<=17592186043904:=by
  by_cases h:y.natAbs=0
  ·simp_all
  ·have:=cQ (apq x.natAbs (apo h));omega
 have c:Nat.gcd x.natAbs y.natAbs=((Int.gcd x y:Nat):Int).natAbs:=rfl;grind[Int.gcd,aa1,rB]
def ajU{x y:Int}(n:Ln x<=dh)(o:Ln y<=dh)(g:0<y)(j:y∣x):tM (eu x) (eu y)=some (eu (x / y),eu 0,0):=by
 have p:dh=4398046511104:=rfl;unfold tM;rw[jn (by omega),aoo];simp only[aor,anD,if_false];rw[jn (by omega),aoo,aoo];simp only[aor,anD,if_false];have a:(eu x).aa=aU x.natAbs:=rfl;have b:(eu y).aa=aU y.natAbs:=rfl;have c:(eu x).al=x.sign:=rfl;have d:(eu y).al=1:=apn g;rw[a,b,c,d];have q:(aU x.natAbs).length<=4398046511104:=by show Ln x<=_;omega
 have r:(aU y.natAbs).length<=4398046511104:=by show Ln y<=_;omega
 have k:=cQ (Nat.div_le_self x.natAbs y.natAbs);obtain⟨z,rfl⟩:=j;have e:y*z / y=z:=Int.mul_ediv_cancel_left _ (by omega);have s:(y*z).natAbs=y.natAbs*z.natAbs:=apl _ _;have i:(y*z).natAbs / y.natAbs=z.natAbs:=by grind[Nat.mul_div_cancel_left]
 have l:(y*z).natAbs % y.natAbs=0:=by simp_all
 have f:(y*z).sign=z.sign:=by rw[Int.sign_mul,apn g,Int.one_mul]
 rw[if_neg (by decide),ail (by omega) (by omega) (by omega),aoo,Int.mul_one,f,jQ (x:=z.sign) (by grind),e,i,l,dB];rw[i]at k;have m:(if decide (z.sign>=0)=true then some true else some ((([]:List Int).length:Int)==0))=some true:=by split<;>rfl
 simp only[m,Option.bind_some,if_true];rw[rB (x:=z) rfl (fun _=>rfl) (fun _=>by omega),aoo];have:gQ z.sign []=some (eu 0):=Ht 0 (by simp[Fit]) Dg.nil rfl (fun h=>absurd rfl h);simp_all
def aj0{x:Int}(h:Ln x<=dh):yo (eu x)=some (eu (-x)):=by
 unfold yo;have b:dh=4398046511104:=rfl;rw[jn (by omega),aoo];simp only[aor,anD,if_false];have a:Fit (eu x).aa:=by unfold Fit;show Ln x<=_;omega
 rw[Ht (-x) a (cr _) (by show dv (aU _)=_;rw[bt,Int.natAbs_neg]),aoo];intro c;show IntKind.i64.wrap (0-x.sign)=_;grind[jQ,Int.sign_neg,Int.zero_sub]
def aeU{x:Int}(p : -9223372036854775808<=x∧x<9223372036854775808):∃l,aO Bp (x,[])=some l∧Dg l∧dv l=x.natAbs∧l.length<=5:=by
 refine uU (I:=fun (s:Int×List Int)=>Dg s.2∧dv s.2+pw s.2.length*s.1.natAbs=x.natAbs∧s.2.length<=5∧(s.1=0∨s.2.length<5)) (μ:=fun (s:Int×List Int)=>s.1.natAbs) _ ⟨Dg.nil,by simp[dv,sj],by simp,by simp⟩ (by simp only;unfold FU;omega) ?_;rintro⟨u,l⟩ ⟨b,e,f,g⟩;simp only at b e f g;have q:=rH l.length;have h:=dL b;have r:(u.natAbs:Int)<=x.natAbs:=by
  have:1*(u.natAbs:Int)<=pw l.length*u.natAbs:=apg (by omega) (by omega);omega
 simp only[Bp]
 by_cases i:u≠0
 ·left;have j:l.length<4:=by
   grind[Nat.lt_or_ge,pw4]
  have k:JE .i64 u 1048576=some (u.tmod 1048576):=by unfold JE;simp_all
  have c:Ep .i64 u 1048576=some (u.tdiv 1048576):=by
   unfold Ep;have:(u.tdiv 1048576).natAbs=u.natAbs / 1048576:=Int.natAbs_tdiv u 1048576;rw[if_neg (by decide),jQ (by omega)]
  have t:(u.tmod 1048576).natAbs=u.natAbs % 1048576:=Int.natAbs_tmod u 1048576;have m:(u.tdiv 1048576).natAbs=u.natAbs / 1048576:=Int.natAbs_tdiv u 1048576;have n:=yn l.length (u.natAbs:Int);rw[if_pos (by simpa using i),k,aoo];have o:∀d:Int,d=((u.natAbs % 1048576:Nat):Int)->(Dg (l++[d])∧dv (l++[d])+pw (l++[d]).length*((u.tdiv 1048576).natAbs:Int)=x.natAbs∧(l++[d]).length<=5∧(u.tdiv 1048576=0∨(l++[d]).length<5))∧(u.tdiv 1048576).natAbs<u.natAbs:=by
   rintro d rfl;refine⟨⟨b.append (Dg.mk (by omega) Dg.nil),?_,by simp;omega,by right;simp;omega⟩,by omega⟩;rw[m];simp only[iF,dv,an7,List.length_cons,List.length_nil,api,apj,an5];grind
  by_cases a:u.tmod 1048576<0
  ·rw[if_pos (by simpa using a),jQ (x:=0-u.tmod 1048576) (by omega),y7 (by simp;omega),aoo,c,aoo];grind
  ·rw[if_neg (by simpa using a),y7 (by simp;omega),aoo,c,aoo];grind
 simp_all
theorem Of4{x:Int}(h : -9223372036854775808<=x∧x<9223372036854775808):Ax x=some (eu x):=by
 unfold Ax
 by_cases a:x=0
 ·subst a;rw[JC];rfl
 ·have b:(if decide (x<0)=true then some (-1:Int) else some 1)=some x.sign:=by
   grind
  obtain⟨l,c,d,e,f⟩:=aeU h;rw[if_neg (by simpa using a),b,aoo,c,aoo,qm,Ht x (by unfold Fit;omega) d e (fun _=>rfl)]
instance:DecidableEq aF:=fun a b=>decidable_of_iff (a.al=b.al∧a.aa=b.aa) (by cases a;cases b;simp)
instance:DecidableEq an:=fun a b=>decidable_of_iff (a.bF=b.bF∧a.bJ=b.bJ) (by cases a;cases b;simp)
theorem abJ{b c:aF}(d:Fit b.aa)(f:b.aa.length=c.aa.length):∃r,aO (qv b c) 0=some r∧(match r with | .inl _=>b.aa=c.aa | .inr x=>x=false∧b.aa≠c.aa):=by
 refine dq (I:=fun i s=>s=(i:Int)∧b.aa.take i=c.aa.take i) b.aa.length _ ⟨rfl,by simp⟩ (ky d) ?_;unfold Fit at d;rintro i s g ⟨rfl,h⟩;simp only[qv]
 by_cases a:i<b.aa.length
 ·rw[if_pos (by simpa using a),cW a,aoo,cW (by omega),aoo]
  by_cases e:b.aa[i]=c.aa[i]
  ·left;rw[if_neg (by simpa using e)];grind[jQ,List.take_add_one]
  ·right;rw[if_pos (by simpa using e)];grind
 ·right;have:i=b.aa.length:=by omega
  subst this;grind
def Qh{b c:aF}(e:Fit b.aa):mK b c=some (decide (b=c)):=by
 have a:b=c↔b.al=c.al∧b.aa=c.aa:=by cases b;cases c;simp
 unfold mK
 by_cases d:b.al=c.al
 ·rw[if_neg (by simpa using d),aoo]
  by_cases f:b.aa.length=c.aa.length
  ·rw[if_neg (by simp;omega)];grind[abJ]
  grind
 simp_all
def akR{b c:aF}(a:Fit b.aa):Ay b c=some (decide (b=c)):=Qh a
def akS{f g:an}(b:Fit f.bF.aa)(c:Fit f.bJ.aa):u9 f g=some (decide (f=g)):=by
 have a:f=g↔f.bF=g.bF∧f.bJ=g.bJ:=by cases f;cases g;simp
 unfold u9;rw[Qh b,aoo]
 by_cases h:f.bF=g.bF
 ·simp_all[if_pos,Qh,aoo]
 simp_all
def acn{x y:Int}(e:Ln x<=ll)(f:Ln y<=ll):pF (eu x) (eu y)=some (mY x y):=by
 have g:ll=17592186043904:=rfl;unfold pF;rw[jn (by omega),aoo];simp only[aor,anD,if_false];rw[jn (by omega),aoo];simp only[aor,anD,if_false];have i:(aU x.natAbs).length<=17592186043904:=by show Ln x<=_;omega
 have j:(aU y.natAbs).length<=17592186043904:=by show Ln y<=_;omega
 rw[akR (by unfold Fit;show Ln x<=_;omega),aoo,aoo];have a:(eu x).aa=aU x.natAbs:=rfl;have b:(eu y).aa=aU y.natAbs:=rfl;have c:(eu x).al=x.sign:=rfl;have d:(eu y).al=y.sign:=rfl
 by_cases he:x=y
 ·simp_all[mY,if_pos]
 ·rw[if_neg (by simp only[decide_eq_true_eq];exact fun h=>he (Zn h)),a,b,c,d]
  by_cases h:x.sign=y.sign
  ·rw[if_neg (by simpa using h),aex (cr _) (cr _) (by unfold Fit;omega) (by unfold Fit;omega),aoo,bt,bt];grind[mY]
  ·rw[if_pos (by simpa using h)];unfold mY;grind
def aiA{f:an}(a:aat f):lY f=some (okF f):=by
 have k:ll=17592186043904:=rfl;obtain⟨p,q⟩:=f;simp only[aat]at a;unfold lY okF;rw[Xe (show Fit p.aa by unfold Fit;omega),aoo]
 by_cases d:okB p=true
 ·simp only[d,aor,anD,if_false,aoU];rw[Xe (show Fit q.aa by unfold Fit;omega),aoo]
  by_cases e:okB q=true
  ·simp only[e,aor,anD,if_false,aoU,Option.bind_some];obtain⟨x,rfl⟩:=yi.1 d;obtain⟨y,rfl⟩:=yi.1 e;have b:(eu y).al=y.sign:=rfl
   by_cases g:y.sign=1
   ·rw[if_neg (by simp_all),ajX a.1 a.2,aoo,Of4 (by decide),aoo];have h:(dv (eu x).aa).toNat=x.natAbs:=by show (dv (aU _)).toNat=_;rw[bt];rfl
    have i:(dv (eu y).aa).toNat=y.natAbs:=by show (dv (aU _)).toNat=_;rw[bt];rfl
    have j:0<y.natAbs:=by grind
    have c:Ln (Int.gcd x y:Int)<=ll:=by
     have:=cQ (apq x.natAbs j);have l:(aU y.natAbs).length<=ll:=a.2;show (aU (Nat.gcd x.natAbs y.natAbs)).length<=_;omega
    simp only;rw[acn c (am8 (Q0 (by decide)) (by decide)),aoo,h,i,b,g];have m:Nat.gcd x.natAbs y.natAbs=Int.gcd x y:=rfl;congr 1;unfold mY;grind
   grind
  simp_all
 simp_all
theorem aiy{p q:Int}(f:Ln p<=dh)(e:Ln q<=dh)(i:q≠0):wc (eu p) (eu q)=some (b9 (Rat.divInt p q),0):=by
 have n:dh=4398046511104:=rfl;have d:∀{p q:Int},Ln p<=dh->Ln q<=dh->0<q ->
   ((v7 (eu p) (eu q)).bind fun j=>(tM (eu p) j.1).bind fun k=>(tM (eu q) j.1).bind fun l=>some ((an.mk k.1 l.1),(0:Int)))=some (b9 (Rat.divInt p q),0):=by
  intro p q f e i;have o:0<Int.gcd p q:=Int.gcd_pos_of_ne_zero_right _ (by omega);have g:Ln (Int.gcd p q:Int)<=dh:=by
   have:=cQ (apq p.natAbs (show 0<q.natAbs by omega));show (aU (Nat.gcd p.natAbs q.natAbs)).length<=_;have r:(aU q.natAbs).length<=dh:=e;omega
  rw[ajX (wX f) (wX e),aoo];simp only;rw[ajU f g (by omega) (Int.gcd_dvd_left ..),aoo,ajU e g (by omega) (Int.gcd_dvd_right ..),aoo];have m:((q.natAbs / Int.gcd p q:Nat):Int)=q / (Int.gcd p q:Int):=by
   grind
  unfold b9;rw[Rat.num_divInt,Rat.den_divInt,if_neg (by omega),apn i,Int.one_mul,Int.gcd_comm q p,m]
 unfold wc;rw[jn (by omega),aoo];simp only[aor,anD,if_false];rw[jn (by omega),aoo,aoo];simp only[aor,anD,if_false];have h:(eu q).al=q.sign:=rfl;rw[h];rcases vf q with⟨a,b,c⟩|⟨a,b,c⟩|⟨a,b⟩
 ·rw[if_neg (by rw[a];decide),if_neg (by rw[a];decide),aoo];exact d f e c
 ·rw[if_neg (by rw[a];decide),if_pos (by rw[a];decide),aj0 f,aoo,aj0 e,aoo,aoo];have:=d (p := -p) (q := -q) (by rw[Ek];exact f) (by rw[Ek];exact e) (by omega);rw[Rat.neg_divInt_neg]at this;exact this
 omega
theorem acA{x:Int}(h : -9223372036854775808<=x∧x<9223372036854775808):Ln x<=dh:=by
 have:Ln x<=4:=QZ (by rw[pw4];omega);have a:dh=4398046511104:=rfl;omega
def Of5{p q:Int}(a : -9223372036854775808<=p∧p<9223372036854775808)(b : -9223372036854775808<=q∧q<9223372036854775808)(c:q≠0):AA p q=some (b9 (Rat.divInt p q),0):=by
 grind[AA,Of4,aiy,acA]
def ame{n:Int}(h : -9223372036854775808<=n∧n<9223372036854775808):yt n=some (b9 n):=by
 unfold yt;rw[Of5 h (by decide) (by decide),aoo];simp only;congr 2;have:=Rat.num_divInt_den (n:Rat);simp_all
def aiT(f:an)(n:Int):yr f n=some (decide ((f.bF.aa.length:Int)<=n∧(f.bJ.aa.length:Int)<=n)):=by
 unfold yr;grind
def acB{x y:Int}(h:Ln x<=dh)(i:Ln y<=dh):lz (eu x) (eu y)=some (eu (x*y),0):=by
 have j:dh=4398046511104:=rfl;have e:=jt x y;unfold lz;rw[jn (by omega),aoo];simp only[aor,anD,if_false];rw[jn (by omega),aoo,aoo];simp only[aor,anD,if_false];have a:(eu x).aa=aU x.natAbs:=rfl;have b:(eu y).aa=aU y.natAbs:=rfl;have c:(eu x).al=x.sign:=rfl;have d:(eu y).al=y.sign:=rfl;rw[a,b,c,d];have k:(aU x.natAbs).length<=4398046511104:=by show Ln x<=_;omega
 have l:(aU y.natAbs).length<=4398046511104:=by show Ln y<=_;omega
 have f:IntKind.i64.wrap (x.sign*y.sign)=(x*y).sign:=by
  rw[Int.sign_mul];apply jQ;grind
 rw[f,Xx (cr _) (cr _) (by omega),aoo,bt,bt];have g:((x.natAbs:Int)*y.natAbs).toNat=(x*y).natAbs:=by rw[apl,<- apk];rfl
 rw[g,rB (x:=x*y) rfl (fun _=>rfl) (fun _=>by show Ln (x*y)<=_;omega),aoo]
def amc{x y:Int}(u:Ln x<=dh)(v:Ln y<=dh):Bn (eu x) (eu y)=some (eu (x+y),0):=by
 have w:dh=4398046511104:=rfl;have m:=HK x y;unfold Bn;rw[jn (by omega),aoo];simp only[aor,anD,if_false];rw[jn (by omega),aoo,aoo];simp only[aor,anD,if_false];have f:(eu x).aa=aU x.natAbs:=rfl;have i:(eu y).aa=aU y.natAbs:=rfl;have j:(eu x).al=x.sign:=rfl;have k:(eu y).al=y.sign:=rfl;rw[f,i,j,k];have z:(aU x.natAbs).length<=4398046511104:=by show Ln x<=_;omega
 have A:(aU y.natAbs).length<=4398046511104:=by show Ln y<=_;omega
 have n:=vf x;have o:=vf y;have p:(if (x.sign==0)=true then some true else if (y.sign==0)=true then some true else some (x.sign==y.sign))=some (decide (x.sign*y.sign>=0)):=by
  rcases Ql x with h|h|h<;>rcases Ql y with g|g|g<;>rw[h,g]<;>decide
 rw[p,aoo]
 by_cases d:x.sign*y.sign>=0
 ·rw[if_pos (by simpa using d),akI (cr _) (cr _) (by omega) (by omega),aoo,bt,bt];have q:((x.natAbs:Int)+y.natAbs).toNat=(x+y).natAbs:=by
   grind
  rw[q,rB (x:=x+y) rfl ?_ (fun _=>by show Ln (x+y)<=_;omega),aoo];intro B;rcases n with⟨a,b,c⟩|⟨a,b,c⟩|⟨a,b⟩<;>rcases o with⟨e,l,r⟩|⟨e,l,r⟩|⟨e,l⟩<;>(try (rw[a,e]at d;exact absurd d (by decide)))<;>rw[a,e]
  ·rw[apn (by omega)];decide
  ·rw[apn (by omega)];decide
  ·rw[aps (by omega)];decide
  ·rw[aps (by omega)];decide
  ·rw[apn (by omega)];decide
  ·rw[aps (by omega)];decide
  ·omega
 ·rw[if_neg (by simpa using d),aex (cr _) (cr _) (by unfold Fit;omega) (by unfold Fit;omega),aoo,bt,bt];have s:x.sign=1∧y.sign = -1∧0<x∧y<0∨x.sign = -1∧y.sign=1∧x<0∧0<y:=by
   grind
  by_cases t:x.natAbs<y.natAbs
  ·rw[if_pos (decide_eq_true (by omega)),WN (cr _) (cr _) (by unfold Fit;omega) (cQ (by omega)) (by rw[bt,bt];omega),aoo,bt,bt];rw[rB (x:=x+y) (by omega) ?_ (fun _=>by rw[show ((y.natAbs:Int)-x.natAbs).toNat=(x+y).natAbs by omega];show Ln (x+y)<=_;omega),aoo];grind
  ·rw[if_neg (by simp_all),WN (cr _) (cr _) (by unfold Fit;omega) (cQ (by omega)) (by rw[bt,bt];omega),aoo,bt,bt];rw[rB (x:=x+y) (by omega) ?_ (fun _=>by rw[show ((x.natAbs:Int)-y.natAbs).toNat=(x+y).natAbs by omega];show Ln (x+y)<=_;omega),aoo];grind
def A5{q:Rat}(h:LF q<=dh):lY (b9 q)=some true:=by rw[aiA (XV h),Fk]
def amd{a b:Rat}(h:LF a+LF b+1<=dh):yp (b9 a) (b9 b)=some (b9 (a+b),0):=by
 have d:=kI a;have e:=kI b;have d1:=ma a;have d2:=ma b;have f:=jt a.num b.den;have g:=jt b.num a.den;have i:=jt a.den b.den;have j:=HK (a.num*b.den) (b.num*a.den);unfold yp;rw[A5 (by omega),aoo];simp only[aor,anD,if_false];rw[A5 (by omega),aoo,aoo];simp only[aor,anD,if_false];show (lz (eu a.num) (eu b.den)).bind _=_;rw[acB (by omega) (by omega),aoo];show (lz (eu b.num) (eu a.den)).bind _=_;rw[acB (by omega) (by omega),aoo];show (lz (eu a.den) (eu b.den)).bind _=_;have c:(a.den:Int)*b.den≠0:=by
  rw[<- apk];have:=ao1 a.den_pos b.den_pos;omega
 rw[acB (by omega) (by omega),aoo,amc (by omega) (by omega),aoo,aiy (by omega) (by omega) c,aoo];rw[Rat.add_def',<- apr,apk]
theorem ajZ{a b:Rat}(h:LF a+LF b<=dh):yu (b9 a) (b9 b)=some (b9 (a*b),0):=by
 have d:=kI a;have e:=kI b;have d1:=ma a;have d2:=ma b;have f:=jt a.num b.num;have g:=jt a.den b.den;unfold yu;rw[A5 (by omega),aoo];simp only[aor,anD,if_false];rw[A5 (by omega),aoo,aoo];simp only[aor,anD,if_false];show (lz (eu a.num) (eu b.num)).bind _=_;rw[acB (by omega) (by omega),aoo];show (lz (eu a.den) (eu b.den)).bind _=_;have c:(a.den:Int)*b.den≠0:=by
  rw[<- apk];have:=ao1 a.den_pos b.den_pos;omega
 rw[acB (by omega) (by omega),aoo,aiy (by omega) (by omega) c,aoo];rw[Rat.mul_def',<- apr,apk]
theorem aej{σ ρ:Type}{a:σ->Option (σ⊕ρ)}{n:Nat}{s b:σ}(h:a s=some (.inl b)):uR a (n+1) s=uR a n b:=by simp only[uR,h]
theorem Ta{σ ρ:Type}{a:σ->Option (σ⊕ρ)}{n:Nat}{s:σ}{r:ρ}(h:a s=some (.inr r)):uR a (n+1) s=some r:=by simp only[uR,h]
def ba{i:Nat}(h:i<4611686018427387904):IntKind.i64.wrap ((i:Int)+1)=((i+1:Nat):Int):=by grind[wrap64]
theorem aS{α:Type}{l:List α}{i:Nat}{x:α}(h:l[i]? = some x):P.idx l (i:Int)=some x:=S4 (by omega) (by simpa using h)
theorem aQ{α:Type}{l:List α}{i:Nat}{x:α}(h:l[i]? = some x):i<l.length:=(anx.1 h).1
theorem drop_cons{α:Type}{l a:List α}{i:Nat}{x:α}(h:l.drop i=x::a):i<l.length∧l[i]? = some x∧l.drop (i+1)=a:=by
 grind[Nat.lt_or_ge,List.drop_eq_nil_of_le,List.drop_eq_getElem_cons]
def eU{α ρ:Type}(a:Nat->α->Option ρ):Nat->List α->Option ρ
 | _,[]=>none
 | i,x::l=>match a i x with|some r=>some r|none=>eU a (i+1) l
theorem cT{α ρ:Type}{st:Nat->α->Option ρ}:∀{l:List α}{i:Nat},eU st i l=none↔∀(j:Nat) x,l[j]? = some x->st (i+j) x=none
 | [],i=>by simp[eU]
 | x::l,i=>by
  simp only[eU];constructor
  ·intro h j y a;cases c:st i x with
   | some r=>simp_all
   | none =>
    rw[c]at h;cases j with
    | zero=>simp_all
    | succ j =>
     have:=cT.1 h j y (by simpa using a);grind
  ·intro h;have b:=h 0 x rfl;simp only[Nat.add_zero]at b;rw[b];refine cT.2 fun j y a =>?_;have:=h (j+1) y (by simpa using a);grind
theorem dj{α ρ:Type}{st:Nat->α->Option ρ}{r:ρ}:∀{l:List α}{i:Nat},eU st i l=some r->∃(j:Nat)(x:α),l[j]? = some x∧st (i+j) x=some r∧∀(k:Nat) y,k<j->l[k]? = some y->st (i+k) y=none
 | [],i,h=>by cases h
 | x::l,i,h=>by
  simp only[eU]at h;cases a:st i x with
  | some r' =>
   rw[a]at h;exact⟨0,x,rfl,by simp_all,fun k y b=>by omega⟩
  | none =>
   rw[a]at h;obtain⟨j,y,c,d,e⟩:=dj h;refine⟨j+1,y,by simpa using c,by grind,fun k z b f =>?_⟩;cases k with
   | zero=>simp_all
   | succ k =>
    grind
def oA{α ρ:Type}(l:List α){body:Int->Option (Int⊕(Unit⊕ρ))}(b:Nat->α->Option ρ)(d:l.length<4611686018427387904)
  (k:∀(i:Nat) x,l[i]? = some x->body (i:Int)=some (match b i x with|none =>.inl ((i+1:Nat):Int)|some r =>.inr (.inr r))) (e:body (l.length:Int)=some (.inr (.inl ()))) :
  aO body 0=some (match eU b 0 l with|none =>.inl ()|some r =>.inr r):=by
 have key:∀(rest:List α)(i a:Nat),i<=l.length->l.drop i=rest->rest.length<a->uR body a (i:Int)=some (match eU b i rest with|none =>.inl ()|some r =>.inr r):=by
  intro rest
  induction rest with
  | nil =>
   intro i a g h c;obtain⟨f,rfl⟩:∃f,a=f+1:=⟨a-1,by simp at c;omega⟩;have j:l.length<=i:=by
    simp_all
   have:i=l.length:=by omega
   subst this;rw[Ta e];rfl
  | cons x rest m =>
   intro i a g h c;obtain⟨f,rfl⟩:∃f,a=f+1:=⟨a-1,by simp at c;omega⟩;grind[eU,drop_cons,Ta,aej]
 exact key l 0 FU (am7 _) rfl (by have:FU=1000000000000000000000000:=rfl;omega)
def oU{α σ ρ:Type}{body:Int×σ->Option ((Int×σ)⊕ρ)}(l:List α)(d:l.length<=17592186044416)(inv:Nat->σ->Prop)(Q:ρ->Prop){s0:σ}(e:inv 0 s0)
  (a:∀(i:Nat) x s,l[i]? = some x->inv i s->∃b,body ((i:Int),s)=some (.inl (((i+1:Nat):Int),b))∧inv (i+1) b)
  (c:∀s,inv l.length s->∃r,body ((l.length:Int),s)=some (.inr r)∧Q r):∃r,aO body ((0:Int),s0)=some r∧Q r:=by
 refine dq (fun i s=>s.1=(i:Int)∧inv i s.2) l.length Q ⟨rfl,e⟩ (ky d) ?_;rintro i ⟨k,s⟩ g ⟨rfl,f⟩;rcases anL i l.length with h|h
 ·obtain⟨b,j,m⟩:=a i _ s (anj h) f;simp_all
 grind
def dC{α:Type}{N j:Nat}(f:Nat->α)(h:j<N):((List.range N).map f)[j]? = some (f j):=by simp[h]
def xn{α:Type}{N:Nat}(f:Nat->α):((List.range N).map f).length=N:=by simp
theorem gZ{α:Type}{l:List α}{N:Nat}{f:Nat->α}(a:l.length=N)(h:∀j,j<N->l[j]? = some (f j)):l=(List.range N).map f:=by
 apply aoZ;grind
def gJ{α:Type}{N i:Nat}(f:Nat->α)(v:α):((List.range N).map f).set i v=(List.range N).map fun j=>if j=i then v else f j:=by
 refine gZ (by simp) fun j a =>?_;grind
def CG{α β:Type}{mk:β->α}{R:β->Prop}:∀{l:List α},(∀x∈l,∃y,x=mk y∧R y)->∃a:List β,l=a.map mk∧∀y∈a,R y
 | [],_=>⟨[],rfl,fun _ h=>by cases h⟩
 | x::l,h=>by
  obtain⟨y,c,d⟩:=h x (aoi ..);obtain⟨a,e,f⟩:=CG (l:=l) fun z b=>h z (aoj _ b);refine⟨y::a,by simp_all,fun z b =>?_⟩;grind
def P8{α:Type}{R:α->α->Prop}(g:∀a b c,R a b->R b c->R a c){l:List α}(h:∀(i:Nat) a b,l[i]? = some a->l[i+1]? = some b->R a b):l.Pairwise R:=by
 rw[ao4];intro i j k f e;obtain⟨d,rfl⟩:∃d,j=i+1+d:=⟨j-(i+1),by omega⟩;clear e
 induction d with
 | zero=>exact h i _ _ (anj k) (anj f)
 | succ d m=>exact g _ _ _ (m (by omega)) (h (i+1+d) _ _ (anj (by omega)) (anj f))
abbrev Tk:=Nat×Nat×Rat
def An(t:Tk):cN:=cN.mk (t.1:Int) (t.2.1:Int) (b9 t.2.2)
def qK(N:Nat)(tk:List Tk):gK:=gK.mk (N:Int) (tk.map An)
theorem Zq{a b:Tk}(h:An a=An b):a=b:=by
 grind[An,Prod.ext,vR]
def PQ{N M:Nat}{a b:List Tk}(h:qK N a=qK M b):N=M∧a=b:=by
 grind[qK,An,List.map_inj_right,Zq]
def xk:List Tk->Nat->Rat
 | [],_=>0
 | t::l,p=>(if t.1=p then t.2.2 else 0)+xk l p
theorem Un(a b:List Tk)(p:Nat):xk (a++b) p=xk a p+xk b p:=by
 induction a with
 | nil=>rw[aoy,xk,Rat.zero_add]
 | cons t a c=>grind[xk]
def iz(tk:List Tk)(p:Nat):Rat:=1-xk tk p
theorem Jp{tk:List Tk}{i:Nat}{t:Tk}(h:tk[i]? = some t)(p:Nat):iz (tk.take (i+1)) p=iz (tk.take i) p-(if t.1=p then t.2.2 else 0):=by
 grind[iz,xk,List.getElem?_eq_some_iff,List.take_succ_eq_append_getElem,Un]
def OT{tk:List Tk}{K:Nat}(a:∀t∈tk,LF t.2.2<=K)(p:Nat):∀i,i<=tk.length->LF (iz (tk.take i) p)<=1+i*(K+1)
 | 0,_=>by
  have:iz (tk.take 0) p=((1:Int):Rat):=by grind[iz,xk]
  rw[this];exact am8 (Cb (n:=1) (by decide)) (by omega)
 | i+1,h=>by
  have b:=OT a p i (by omega);have c:tk[i]? = some tk[i]:=anj (by omega);grind[iz,Jp,List.getElem_mem,Nat.succ_mul,OV]
def QX{tk:List Tk}{K:Nat}(a:∀t∈tk,LF t.2.2<=K)(p:Nat):LF (iz tk p)<=1+tk.length*(K+1):=by
 have:=OT a p tk.length (am6 _);simp_all
theorem DS{α:Type}{N B:Nat}(z:α)(h:N*B<=140737488355328)(a:N<=2000):Ha B (N:Int) (N:Int) z=some (List.replicate N z):=by
 grind[Ha,maxLen]
def agJ:iy 1=some (b9 1):=acu (n:=1) (by decide)
def Tl{N K:Nat}{tk:List Tk}(m:N<=2000)(e:tk.length<=8000)(n:∀t∈tk,t.1<N)(w:K<=1000000)(g:∀t∈tk,LF t.2.2<=K) :
  rG (qK N tk)=some ((List.range N).map fun p=>b9 (iz tk p)):=by
 unfold rG qK;simp only;rw[DS _ (by omega) m,aoo];have a:∃r,aO (qh (List.replicate N (an.mk (aF.mk 0 []) (aF.mk 0 [])))) ((0:Int),List.replicate N (an.mk (aF.mk 0 []) (aF.mk 0 [])))=some r∧r=(List.range N).map fun p=>b9 (iz (tk.take 0) p):=by
  refine oU (List.replicate N (an.mk (aF.mk 0 []) (aF.mk 0 []))) (by simp;omega) (fun i l=>l.length=N∧∀j,j<i->l[j]? = some (b9 1)) _ ⟨by simp,fun j o=>by omega⟩ ?_ ?_
  ·rintro i x l y ⟨q,z⟩;have s:i<N:=by grind
   have b:l[i]? = some l[i]:=anj (by omega);refine⟨l.set i (b9 1),?_,by simpa using q,fun j o =>?_⟩
   ·simp only[qh];rw[if_pos (by simp;omega),agJ,aoo,aS b,aoo,ba (by omega),anY]
   grind
  grind[qh,iz,xk,List.length_replicate,gZ]
 obtain⟨r,a,rfl⟩:=a;rw[a,aoo];have A:∃r,aO (qk (gK.mk (N:Int) (tk.map An))) ((0:Int),(List.range N).map fun p=>b9 (iz (tk.take 0) p))=some r∧r=(List.range N).map fun p=>b9 (iz tk p):=by
  refine oU tk (by omega) (fun i l=>l=(List.range N).map fun p=>b9 (iz (tk.take i) p)) _ rfl ?_ ?_
  ·rintro i t _ c rfl;have s:=aQ c;have h:=anv c;have d:=n t h;have b:(tk.map An)[i]? = some (An t):=by simp_all
   refine⟨_,?_,rfl⟩;simp only[qk];have u:=OT g t.1 i (by omega);have v:=g t h;have k:i*(K+1)<=8000*1000001:=apx (by omega) (by omega);rw[if_pos (by simp;omega),aS b,aoo];simp only[An];rw[aS (dC _ d),aoo,acH (by unfold dh;omega),aoo,ba (by omega),anY,gJ];congr 3;refine congrArg (fun f=>(List.range N).map f) (funext fun p =>?_);rw[Jp c];grind
  ·rintro _ rfl;refine⟨_,?_,rfl⟩;grind[qk]
 simp_all
def Zj(a b:Tk):Prop:=a.1<b.1∨(a.1=b.1∧a.2.1<b.2.1)
def abo(a b c:Tk)(h:Zj a b)(k:Zj b c):Zj a c:=by unfold Zj at *;omega
structure mw(N:Nat)(tk:List Tk):Prop where
 ports:N<=2000
 takes:tk.length<=8000
 ok:∀t∈tk,t.1<N∧t.2.1<N∧0<t.2.2
 sorted:tk.Pairwise Zj
 leak:∀p,p<N->0<=iz tk p
def nM(a b c:Int):fP a b c=some (decide (b<=a∧a<=c)):=by
 unfold fP;grind
def aaC(a b:cN):∃c,rD a b=some c∧(c<0↔(a.dG<b.dG∨(a.dG=b.dG∧a.mf<b.mf))):=by
 unfold rD;rw[En,aoo,En,aoo,ahG,aoo];refine⟨_,rfl,?_⟩;unfold mY;omega
def wh{q:Rat}:q.num.sign<0↔q<0:=by
 rw[Int.sign_neg_iff,<- Rat.not_le,<- Rat.num_nonneg];omega
def afd{q:Rat}:q.num.sign=0↔q=0:=by
 simp_all
def Hw{q:Rat}:0<q.num.sign↔0<q:=by
 constructor
 ·intro h;have b:¬q<0:=fun a=>by have:=wh.2 a;omega
  have c:q≠0:=fun a=>by simp_all
  grind
 ·intro h;have b:¬q.num.sign<0:=fun a=>by have:=wh.1 a;grind
  have c:q.num.sign≠0:=fun a=>by simp_all
  omega
def tr{q:Rat}{k:Nat}(a:(b9 q).bF.aa.length<=k)(b:(b9 q).bJ.aa.length<=k):LF q<=k:=by
 unfold LF Ln;exact Nat.max_le.2 ⟨a,b⟩
def Dm{q:Rat}{k:Nat}(h:LF q<=k):(b9 q).bF.aa.length<=k∧(b9 q).bJ.aa.length<=k:=by
 unfold LF Ln at h;exact Nat.max_le.1 h
def Ig{l:List Rat}(f:l.length<=17592186044416)(c:∀q∈l,LF q<=dh):cU (l.map b9)=some (decide (∃q∈l,q<0)):=by
 unfold cU ew;rw[oA l (fun i q=>if q<0 then some (i:Int) else none) (by omega) (fun i q a =>?_) (by grind[eR])]
 ·rw[aoo];cases d:eU (fun i (q:Rat)=>if q<0 then some (i:Int) else none) 0 l with
  | none =>
   grind[decide_eq_false,List.getElem?_of_mem,cT]
  | some r =>
   obtain⟨j,q,e,b,_⟩:=dj d
   by_cases hn:q<0
   ·rw[if_pos hn]at b;cases b;simp only;rw[aoo,decide_eq_true (by omega),decide_eq_true ⟨q,anv e,hn⟩]
   simp_all
 ·have g:=aQ a;simp only[eR,sJ];rw[if_pos (by simp;omega),aS (x:=b9 q) (by simp_all),aoo,Cc (c q (anv a)),aoo,aoo]
  by_cases hn:q<0
  ·rw[decide_eq_true (wh.2 hn),if_pos hn];rfl
  ·rw[decide_eq_false (fun h=>hn (wh.1 h)),if_neg hn,ba (by omega)];rfl
def abw(N:Nat)(x:cN):Bool:=decide (0<=x.dG∧x.dG<=(N:Int)-1)&&decide (0<=x.mf∧x.mf<=(N:Int)-1)&&okF x.gN&&decide (0<x.gN.bF.al)
def aaB(a b:cN):Prop:=a.dG<b.dG∨(a.dG=b.dG∧a.mf<b.mf)
instance (a b:cN):Decidable (aaB a b):=by unfold aaB;infer_instance
def DK(N:Nat)(l:List cN)(i:Nat)(x:cN):Bool:=abw N x&&(decide (i=0)||(match l[i-1]? with|some y=>decide (aaB y x)|none=>false))
def T7{N:Nat}{x:cN}:abw N x=true↔∃t:Tk,x=An t∧t.1<N∧t.2.1<N∧0<t.2.2:=by
 unfold abw;simp only[anF,decide_eq_true_eq];constructor
 ·rintro⟨⟨⟨c,d⟩,a⟩,b⟩;obtain⟨q,e⟩:=sg.1 a;refine⟨(x.dG.toNat,x.mf.toNat,q),?_,by simp only;omega,by simp only;omega,?_⟩
  ·unfold An;cases x;grind
  ·rw[e]at b;exact Hw.1 b
 ·rintro⟨t,rfl,c,d,a⟩;exact⟨⟨⟨by simp only[An];omega,by simp only[An];omega⟩,Fk _⟩,Hw.2 a⟩
def Yg{a b:Tk}:aaB (An a) (An b)↔Zj a b:=by
 grind[aaB,Zj,An]
def ad8{n:gK}{N j:Nat}{x:cN}(b:n.aC=(N:Int))(c:n.bf[j]? = some x)(a:¬DK N n.bf j x=true):¬ ∃M tk,n=qK M tk∧mw M tk:=by
 rintro⟨M,tk,rfl,e⟩;apply a;simp only[qK]at c b ⊢;obtain rfl:M=N:=by omega
 rw[am3,am4]at c;obtain⟨t,f,rfl⟩:=c;have g:=anv f;unfold DK;rw[T7.2 ⟨t,rfl,e.ok t g⟩,aoU];cases j with
 | zero=>simp
 | succ j =>
  have d:=aQ f;have h:tk[j]? = some tk[j]:=anj (by omega);rw[aoA,am3,h];simp only[Option.map_some];rw[decide_eq_true (Yg.2 ?_),Bool.or_true];have:=ao4.1 e.sorted j (j+1) (by omega) d (by omega);simp_all
def ad7{n:gK}{N K:Nat}(d:n.aC=(N:Int))(p:n.bf.length<=8000)(h:∀t∈n.bf,t.gN.bF.aa.length<=K∧t.gN.bJ.aa.length<=K)(c:∀(j:Nat) x,n.bf[j]? = some x->DK N n.bf j x=true) :
  ∃tk,n=qK N tk∧(∀t∈tk,t.1<N∧t.2.1<N∧0<t.2.2)∧tk.Pairwise Zj∧(∀t∈tk,LF t.2.2<=K)∧tk.length=n.bf.length:=by
 obtain⟨tk,e,g⟩:=CG (mk:=An) (R:=fun t=>t.1<N∧t.2.1<N∧0<t.2.2) (l:=n.bf) fun x k=>by
  obtain⟨j,m⟩:=anq k;have:=c j x m;simp_all[DK,anF,T7]
 have q:n=qK N tk:=by
  unfold qK;rw[<- d,<- e]
 have f:tk.Pairwise Zj:=P8 abo fun i a b r s=>by
  have:=c (i+1) (An b) (by simp_all);simp_all[DK,anF,aoA,am3,Yg]
 have o:∀t∈tk,LF t.2.2<=K:=fun t u=>by
  have:=h (An t) (by grind);exact tr this.1 this.2
 grind
def FA{n:gK}{K:Nat}(L:K<=1000000)(O:∀t∈n.bf,t.gN.bF.aa.length<=K∧t.gN.bJ.aa.length<=K) :
  ∃b,pA n=some b∧(b=true↔∃N tk,n=qK N tk∧mw N tk):=by
 unfold pA;rw[nM,aoo]
 by_cases D:0<=n.aC∧n.aC<=2000
 rotate_left
 ·rw[decide_eq_false D];refine⟨false,by simp,?_⟩;simp only[anD,false_iff];rintro⟨N,tk,rfl,h⟩;have:=h.ports;simp only[qK]at D;omega
 rw[decide_eq_true D];simp only[aor,anD,if_false,Option.bind_some]
 by_cases P:(n.bf.length:Int)>8000
 ·rw[decide_eq_true P];refine⟨false,by simp,?_⟩;simp only[anD,false_iff];rintro⟨N,tk,rfl,h⟩;have:=h.takes;grind[qK,List.length_map]
 rw[decide_eq_false P];simp only[anD,if_false];obtain⟨N,o⟩:∃N:Nat,n.aC=(N:Int):=⟨n.aC.toNat,by omega⟩;have E:IntKind.i64.wrap (n.aC-1)=(N:Int)-1:=by grind[wrap64]
 have T:K<=ll:=am8 L (by unfold ll;omega);have e:=oA n.bf (body:=qg n) (fun i x=>if DK N n.bf i x=true then none else some false) (by omega) (fun i x F=>by
  have hi:=aQ F;obtain⟨s,u⟩:=O x (anv F);simp only[qg];rw[if_pos (by simp;omega),aS F,aoo,nM,aoo,E];have f:(if (!decide (0<=x.dG∧x.dG<=(N:Int)-1))=true then some true
   else (fP x.mf 0 ((N:Int)-1)).bind fun G =>
    if (!G)=true then some true
    else (de x.gN).bind fun H=>if (!H)=true then some true else (jk x.gN).bind fun I=>some (decide (I<=0)))=some (!abw N x):=by
   unfold abw
   by_cases U:0<=x.dG∧x.dG<=(N:Int)-1
   rotate_left
   ·grind
   rw[decide_eq_true U,nM,aoo]
   by_cases V:0<=x.mf∧x.mf<=(N:Int)-1
   rotate_left
   ·grind
   rw[decide_eq_true V,zo ⟨by omega,by omega⟩,aoo];cases g:okF x.gN with
   | false=>simp
   | true =>
    obtain⟨q,g⟩:=sg.1 g;rw[g]at s u ⊢;have k:=tr s u;rw[Cc (by unfold dh;omega),aoo];have:(b9 q).bF.al=q.num.sign:=rfl;rw[this]
    by_cases c3:q.num.sign<=0
    ·simp_all
    simp_all
  rw[f,aoo];unfold DK;cases W:abw N x with
  | false=>simp
  | true =>
   simp only[aor,anD,if_false,aoU];cases i with
   | zero=>rw[if_neg (by simp),ba (by omega)];simp
   | succ i =>
    rw[if_pos (by simp)];have Q:n.bf[i]? = some n.bf[i]:=anj (by omega);have X:IntKind.i64.wrap (((i+1:Nat):Int)-1)=(i:Int):=by grind[wrap64]
    obtain⟨c,J,v⟩:=aaC n.bf[i] x;rw[X,aS Q,aoo,J,aoo,aoA,Q];simp only[Nat.add_eq_zero_iff,aoV,and_false,decide_false,an1]
    by_cases hb:aaB n.bf[i] x
    ·rw[if_neg (by simp;exact v.2 hb),decide_eq_true hb,ba (by omega)];rfl
    ·rw[if_pos (by simp only[decide_eq_true_eq];have:¬c<0:=fun h=>hb (v.1 h);omega),decide_eq_false hb];rfl) (by
  unfold qg;simp_all)
 rw[e,aoo];cases w:eU (fun i x=>if DK N n.bf i x=true then none else some false) 0 n.bf with
 | some r =>
  obtain⟨j,x,Y,y,_⟩:=dj w;simp only[an5]at y;split at y
  ·cases y
  rename_i z;cases y;refine⟨false,rfl,?_⟩;simp only[anD,false_iff];exact ad8 o Y z
 | none =>
  have A:=cT.1 w;simp only[an5]at A;have l:∀(j:Nat) x,n.bf[j]? = some x->DK N n.bf j x=true:=fun j x hj=>by
   simp_all
  obtain⟨tk,Z,d,m,k,aa⟩:=ad7 o (by omega) O l;have a:tk.length<=8000:=by omega
  have B:N<=2000:=by omega
  simp only;rw[Z,Tl B a (fun t ht=>(d t ht).1) L k,aoo];have C:((List.range N).map fun p=>b9 (iz tk p))=((List.range N).map fun p=>iz tk p).map b9:=by simp_all
  rw[C,Ig (by simp;omega) (fun q g=>by
   obtain⟨p,_,rfl⟩:=am5.1 g;have:=QX k p;have y:tk.length*(K+1)<=8000*1000001:=apx a (by omega);unfold dh;omega),aoo]
  refine⟨_,rfl,?_⟩;simp only[Bool.not_eq_true',decide_eq_false_iff_not];constructor
  ·intro ab;refine⟨N,tk,rfl,⟨B,a,d,m,fun p R =>?_⟩⟩
   by_cases h0:iz tk p<0
   ·simp_all
   ·grind
  ·rintro⟨M,ad,he,hR⟩ ⟨q,g,S⟩;obtain⟨rfl,rfl⟩:=PQ he;obtain⟨p,R,rfl⟩:=am5.1 g;have:=hR.leak p (aos.1 R);grind
def DU:∀(N:Nat)(l:List Nat),l.Nodup->(∀x∈l,x<N)->l.length<=N
 | 0,l,_,h=>by
  cases l with
  | nil=>simp
  | cons x l=>exact absurd (h x (aoi ..)) (by omega)
 | N+1,l,a,h=>by
  have b:=DU N (l.erase N) (a.erase N) fun x c=>by
   grind
  grind
def nh(l:List Nat):List Int:=l.map fun (p:Nat)=>(p:Int)
def aeR{l:List Nat}{i p:Nat}(h:l[i]? = some p):(nh l)[i]? = some (p:Int):=by unfold nh;simp_all
def sH(l:List Nat):(nh l).length=l.length:=anz ..
def oc(tk:List Tk)(p:Nat):List Nat:=(tk.filter fun t=>decide (t.2.1=p)).map fun t=>t.1
def NB{tk:List Tk}{p q:Nat}:q∈oc tk p↔∃t∈tk,t.1=q∧t.2.1=p:=by
 unfold oc;simp_all
def Mc(tk:List Tk)(p:Nat):(oc tk p).length<=tk.length:=by
 unfold oc;grind
def VK{tk:List Tk}{i:Nat}{t:Tk}(h:tk[i]? = some t)(p:Nat):oc (tk.take (i+1)) p=if t.2.1=p then oc (tk.take i) p++[t.1] else oc (tk.take i) p:=by
 obtain⟨a,b⟩:=anx.1 h;unfold oc;rw[apw a,apy,aof,b];grind
structure uk(N:Nat)(tk:List Tk)(r:Nat->Int):Prop where
 ge:∀p,p<N -> -1<=r p
 zero:∀p,p<N->(r p=0↔0<iz tk p)
 down:∀p,p<N->0<r p->∃t∈tk,t.1=p∧r t.2.1=r p-1
 near:∀t∈tk,0<=r t.2.1->0<=r t.1∧r t.1<=r t.2.1+1
 le:∀p,p<N->r p<=2000
structure BF(N:Nat)(tk:List Tk)(r:Nat->Int)(D Q:List Nat)(h m:Int):Prop where
 nodup:(D++Q).Nodup
 lt:∀p∈D++Q,p<N
 rk:∀p,p<N->(0<=r p↔p∈D++Q)
 ge:∀p,p<N -> -1<=r p
 zero:∀p,p<N->(r p=0↔0<iz tk p)
 down:∀p,p<N->0<r p->∃t∈tk,t.1=p∧r t.2.1=r p-1
 near:∀t∈tk,t.2.1∈D->0<=r t.1∧r t.1<=r t.2.1+1
 mono:Q.Pairwise fun a b=>r a<=r b
 top:∀p∈D++Q,r p<=h+1
 low:∀q∈Q,h<=r q
 bnd:∀p,p<N->r p<=m
def ab4(r:Nat->Int)(q:Nat)(v:Int):Nat->Int:=fun x=>if x=q then v else r x
def nL(r:Nat->Int)(q:Nat)(v:Int):ab4 r q v q=v:=if_pos rfl
def kG{r:Nat->Int}{q x:Nat}(v:Int)(h:x≠q):ab4 r q v x=r x:=if_neg h
def BF.pop{N:Nat}{tk:List Tk}{r:Nat->Int}{D Q:List Nat}{p:Nat}{h m:Int}(a:BF N tk r D (p::Q) h m):BF N tk r D (p::Q) (r p) (m+1)∧0<=r p∧p<N∧r p<=m where
 left:={
  nodup:=a.nodup,lt:=a.lt,rk:=a.rk,ge:=a.ge,zero:=a.zero,down:=a.down,near:=a.near,mono:=a.mono
  top:=fun x b=>by
   have f:=a.top x b;have g:=a.low p (aoi ..);omega
  low:=fun q c=>by
   rcases anc.1 c with rfl|c
   ·exact Int.le_refl _
   ·exact (aoq.1 a.mono).1 q c
  bnd:=fun x b=>by have:=a.bnd x b;omega }
 right:=by
  have e:p∈D++p::Q:=anl _ (aoi ..);have d:=a.lt p e;exact⟨(a.rk p d).2 e,d,a.bnd p d⟩
def BF.push{N:Nat}{tk:List Tk}{r:Nat->Int}{D Q:List Nat}{p q:Nat}{m:Int}(d:BF N tk r D (p::Q) (r p) m)(z:0<=r p)(A:r p+1<=m)(v:q<N)(F:r q = -1)(B:∃t∈tk,t.1=q∧t.2.1=p) :
  BF N tk (ab4 r q (r p+1)) D (p::(Q++[q])) (r p) m∧ab4 r q (r p+1) p=r p:=by
 have hqn:q∉D++p::Q:=fun h=>by have:=(d.rk q v).2 h;omega
 have i:∀x,x∈D++p::(Q++[q])↔x∈D++p::Q∨x=q:=fun x=>by
  grind
 have f:∀x,x∈D++p::Q->x≠q:=fun x c e=>hqn (e ▸ c);have o:p∈D++p::Q:=anl _ (aoi ..);have j:p≠q:=f p o;refine⟨?_,kG _ j⟩;constructor
 ·have:D++p::(Q++[q])=(D++p::Q)++[q]:=by simp
  rw[this,List.nodup_append];refine⟨d.nodup,by simp,fun a k b l =>?_⟩;grind
 ·intro x c;rcases (i x).1 c with h|rfl
  ·exact d.lt x h
  ·exact v
 ·intro x c;rw[i]
  by_cases h:x=q
  ·subst h;rw[nL];omega
  ·rw[kG _ h,d.rk x c];simp_all
 ·intro x c
  by_cases h:x=q
  ·subst h;rw[nL];omega
  ·rw[kG _ h];exact d.ge x c
 ·intro x c
  by_cases h:x=q
  ·subst h;rw[nL];have:=d.zero x c;grind
  ·rw[kG _ h];exact d.zero x c
 ·intro x c w
  by_cases h:x=q
  ·subst h;obtain⟨t,g,n,s⟩:=B;refine⟨t,g,n,?_⟩;rw[s,kG _ j,nL];omega
  ·rw[kG _ h]at w ⊢;obtain⟨t,g,n,s⟩:=d.down x c w;refine⟨t,g,n,?_⟩;rw[kG _ (fun e=>by grind)];exact s
 ·intro t u y;obtain⟨g,n⟩:=d.near t u y;have C:t.2.1≠q:=f _ (ank _ y);have E:t.1≠q:=fun e=>by rw[e]at g;omega
  rw[kG _ C,kG _ E];exact⟨g,n⟩
 ·have g:=d.mono;have:p::(Q++[q])=(p::Q)++[q]:=by simp
  rw[this,List.pairwise_append];refine⟨g.imp_of_mem fun {a b} k l h =>?_,by simp,fun a k b l =>?_⟩
  ·rw[kG _ (f a (anl _ k)),kG _ (f b (anl _ l))];exact h
  ·simp only[anc,List.mem_nil_iff,or_false]at l;subst l;rw[kG _ (f a (anl _ k)),nL];exact d.top a (anl _ k)
 ·intro x c;rcases (i x).1 c with h|rfl
  ·rw[kG _ (f x h)];exact d.top x h
  ·rw[nL];exact Int.le_refl _
 ·intro x c
  by_cases h:x=q
  ·subst h;rw[nL];omega
  ·rw[kG _ h];apply d.low x;simp_all
 ·intro x c
  by_cases h:x=q
  ·subst h;rw[nL];exact A
  ·rw[kG _ h];exact d.bnd x c
def BF.finish{N:Nat}{tk:List Tk}{r:Nat->Int}{D Q:List Nat}{p:Nat}{h m:Int}(hB:BF N tk r D (p::Q) h m)(b:∀q∈oc tk p,0<=r q∧r q<=r p+1):BF N tk r (D++[p]) Q h m:=by
 have e:(D++[p])++Q=D++p::Q:=by simp
 exact {
  nodup:=by rw[e];exact hB.nodup
  lt:=by rw[e];exact hB.lt
  rk:=by rw[e];exact hB.rk
  ge:=hB.ge,zero:=hB.zero,down:=hB.down
  near:=fun t a c=>by
   rcases aoh.1 c with h1|h1
   ·exact hB.near t a h1
   ·simp only[anc,List.mem_nil_iff,or_false]at h1;rw[h1];exact b t.1 (NB.2 ⟨t,a,rfl,h1⟩)
  mono:=(aoq.1 hB.mono).2
  top:=by rw[e];exact hB.top
  low:=fun q d=>hB.low q (aoj _ d)
  bnd:=hB.bnd }
def BF.ain{N:Nat}{tk:List Tk}{r:Nat->Int}{D:List Nat}{h m:Int}(a:BF N tk r D [] h m)(b:∀t∈tk,t.1<N∧t.2.1<N)(d:m<=2000):uk N tk r where
 ge:=a.ge
 zero:=a.zero
 down:=a.down
 near t h1 h2:=a.near t h1 (by have:=(a.rk t.2.1 (b t h1).2).1 h2;simpa using this)
 le p c:=by have:=a.bnd p c;omega
def afj{α:Type}(a:α)(l:List α):Hj (a::l) 1 ((a::l).length:Int)=some l:=by
 unfold Hj;grind
variable {N:Nat} {tk:List Tk}
def Xa{r:Nat->Int}{D Q:List Nat}{p:Nat}{m:Int}(C:BF N tk r D (p::Q) (r p) m)(E:p<N)(F:0<=r p)(P:r p+1<=m)(G:m<=2001)(H:∀t∈tk,t.1<N∧t.2.1<N)(A:tk.length<=8000)(R:N<=2000) :
  ∃a c,aO (nB (p:Int) (nh (oc tk p))) ((0:Int),(List.range N).map r,nh Q)=some ((List.range N).map a,nh c)∧BF N tk a (D++[p]) c (r p) m:=by
 have I:=Mc tk p;have key:=fun J K=>oU (body:=nB (p:Int) (nh (oc tk p))) (oc tk p) (by omega) (fun i (s:List Int×List Int)=>∃a c,s=((List.range N).map a,nh c)∧BF N tk a D (p::c) (r p) m∧a p=r p∧∀q∈(oc tk p).take i,0<=a q∧a q<=r p+1)
  (fun x=>∃a c,x=((List.range N).map a,nh c)∧BF N tk a (D++[p]) c (r p) m) (s0:=((List.range N).map r,nh Q)) ⟨r,Q,rfl,C,rfl,fun q j=>by simp at j⟩ J K
 refine (key ?_ ?_).elim fun x ⟨k,a,c,d,n⟩=>⟨a,c,d ▸ k,n⟩
 ·rintro i q _ j ⟨a,c,rfl,b,f,e⟩;have L:=aQ j;have o:=anv j;obtain⟨t,u,v,w⟩:=NB.1 o;have h:q<N:=by grind
  have g:(oc tk p).take (i+1)=(oc tk p).take i++[q]:=by
   rw[apw L,(anx.1 j).2]
  have M:c.length<=N:=by
   have k:=DU N (D++p::c) b.nodup b.lt;grind
  simp only[nB];rw[if_pos (by rw[sH];simp;omega),aS (aeR j),aoo,aS (dC a h),aoo]
  by_cases y:a q = -1
  ·rw[if_pos (by rw[y];rfl),aS (dC a E),aoo,f,y7 (by rw[sH];simp;omega),aoo,ba (by omega),anY,gJ];have O:IntKind.i64.wrap (r p+1)=r p+1:=wrap64 (by omega) (by omega);rw[O];have l:=b;rw[<- f]at l;obtain⟨k,n⟩:=l.push (by omega) (by omega) h y ⟨t,u,v,w⟩;rw[f]at k n;refine⟨_,rfl,ab4 a q (r p+1),c++[q],?_,k,n,fun x d =>?_⟩
   ·unfold nh ab4;simp
   ·rw[g]at d;rcases aoh.1 d with d|d
    ·have:=e x d
     by_cases z:x=q
     ·grind
     ·rw[kG _ z];exact this
    ·simp only[anc,List.mem_nil_iff,or_false]at d;subst d;rw[nL];omega
  ·rw[if_neg (by simpa using y),ba (by omega)];refine⟨_,rfl,a,c,rfl,b,f,fun x d =>?_⟩;rw[g]at d;rcases aoh.1 d with d|d
   ·exact e x d
   ·simp only[anc,List.mem_nil_iff,or_false]at d;subst d;have B:0<=a x:=by have:=b.ge x h;omega
    exact⟨B,b.top x ((b.rk x h).1 B)⟩
 ·rintro _ ⟨a,c,rfl,b,f,e⟩;refine⟨_,?_,a,c,rfl,b.finish fun q j =>?_⟩
  ·simp only[nB];rw[if_neg (by rw[sH];simp)]
  grind
def Xb{r:Nat->Int}{Q:List Nat}(v:BF N tk r [] Q 0 0)(e:∀t∈tk,t.1<N∧t.2.1<N)(f:tk.length<=8000)(w:N<=2000) :
  ∃b,aO (nA ((List.range N).map fun p=>nh (oc tk p))) ((List.range N).map r,nh Q)=some ((List.range N).map b)∧uk N tk b:=by
 have key:=fun y=>dq (body:=nA ((List.range N).map fun p=>nh (oc tk p))) (fun i (s:List Int×List Int)=>∃b D d h,s=((List.range N).map b,nh d)∧D.length=i∧BF N tk b D d h (i:Int)) N
  (fun x=>∃b,x=(List.range N).map b∧uk N tk b) (s:=((List.range N).map r,nh Q)) ⟨r,[],Q,0,rfl,rfl,v⟩ (ky (by omega)) y
 refine (key ?_).elim fun x ⟨g,b,z,j⟩=>⟨b,z ▸ g,j⟩
 ·rintro i _ E ⟨b,D,d,h,rfl,A,c⟩;cases d with
  | nil =>
   refine .inr ⟨_,?_,b,rfl,c.ain e (by omega)⟩;simp only[nA,nh,anP];grind
  | cons p d =>
   obtain⟨k,m,o,B⟩:=c.pop;have n:i<N:=by
    have g:=DU N (D++p::d) c.nodup c.lt;grind
   obtain⟨q,u,g,j⟩:=Xa k o m (by omega) (by omega) e f w;refine .inl ⟨n,((List.range N).map q,nh u),?_,q,D++[p],u,b p,rfl,by simp[A],by simpa using j⟩;simp only[nA];have C:nh (p::d)=(p:Int)::nh d:=rfl;rw[C,if_pos (by simp),idx_zero' ,aoo,afj,aoo,aS (dC (fun p=>nh (oc tk p)) o),aoo,g,aoo]
where
 idx_zero':∀{α:Type}{a:α}{l:List α},P.idx (a::l) 0=some a:=fun {_ a l}=>aS (l:=a::l) (i:=0) rfl
def aaA{L:Nat}(a:∀t∈tk,t.1<N∧t.2.1<N)(e:tk.length<=8000) :
  aO (ny (qK N tk)) ((0:Int),List.replicate N ([]:List Int))=some ((List.range N).map fun p=>nh (oc tk p)):=by
 unfold qK;have key:=fun g k=>oU (body:=ny (gK.mk (N:Int) (tk.map An))) tk (by omega) (fun i l=>l=(List.range N).map fun p=>nh (oc (tk.take i) p)) (fun l=>l=(List.range N).map fun p=>nh (oc tk p)) (s0:=List.replicate N ([]:List Int))
  (gZ (by simp) fun j m=>by rw[List.getElem?_replicate,if_pos m,List.take_zero];rfl) g k
 refine (key ?_ ?_).elim fun x ⟨n,hx⟩=>hx ▸ n
 ·rintro i t _ b rfl;have q:=aQ b;have c:=(a t (anv b)).2;have o:(tk.map An)[i]? = some (An t):=by simp_all
  have d:=Mc (tk.take i) t.2.1;rw[ann]at d;refine⟨_,?_,rfl⟩;simp only[ny];rw[if_pos (by simp;omega),aS o,aoo];simp only[An];rw[aS (dC _ c),aoo,y7 (by rw[sH];simp;omega),aoo,ba (by omega),anY,gJ];congr 3;refine congrArg (fun f=>(List.range N).map f) (funext fun p =>?_);rw[VK b]
  by_cases h:p=t.2.1
  ·subst h;rw[if_pos rfl,if_pos rfl];unfold nh;simp
  grind
 ·rintro _ rfl;refine⟨_,?_,rfl⟩;simp only[ny];simp_all
def GI(tk:List Tk)(p:Nat):Int:=if 0<iz tk p then 0 else -1
def qu(tk:List Tk)(n:Nat):List Nat:=(List.range n).filter fun p=>decide (0<iz tk p)
def Uw(tk:List Tk)(n:Nat):qu tk (n+1)=if 0<iz tk n then qu tk n++[n] else qu tk n:=by
 unfold qu;rw[apz,apy];grind
def aa9{K:Nat}(l:N<=2000)(a:tk.length<=8000)(m:K<=1000000)(b:∀t∈tk,LF t.2.2<=K) :
  aO (nz ((List.range N).map fun p=>b9 (iz tk p))) ((0:Int),List.replicate N (0:Int),([]:List Int))=some ((List.range N).map (GI tk),nh (qu tk N)):=by
 have key:=fun b d=>oU (body:=nz ((List.range N).map fun p=>b9 (iz tk p))) (List.range N) (by simp;omega) (fun i (s:List Int×List Int)=>s=((List.range N).map (fun p=>if p<i then GI tk p else 0),nh (qu tk i))) (fun s=>s=((List.range N).map (GI tk),nh (qu tk N))) (s0:=(List.replicate N (0:Int),([]:List Int)))
  (by rw[show qu tk 0=[] from rfl];refine Prod.ext ?_ rfl;exact gZ (by simp) fun j o=>by simp_all) b d
 refine (key ?_ ?_).elim fun x ⟨e,hx⟩=>hx ▸ e
 ·rintro i x _ hx rfl;have c:i<N:=by grind
  have g:=QX b i;have q:tk.length*(K+1)<=8000*1000001:=apx a (by omega);have k:(qu tk i).length<=i:=by unfold qu;grind
  refine⟨_,?_,rfl⟩;simp only[nz];rw[if_pos (by simp;omega),aS (dC (fun p=>b9 (iz tk p)) c),aoo,aS (dC _ c),aoo,Cc (by unfold dh;omega),aoo,anY,gJ,gJ,ba (by omega),Uw]
  by_cases hl:0<iz tk i
  ·rw[if_pos (by simpa using Hw.2 hl),aS (dC _ c),aoo,y7 (by rw[sH];simp;omega),aoo,if_pos hl];refine congrArg some (congrArg Sum.inl (congrArg (Prod.mk _) (Prod.ext ?_ ?_)))
   ·refine congrArg (fun f=>(List.range N).map f) (funext fun p =>?_)
    by_cases h:p=i
    ·subst h;rw[if_pos rfl,if_pos (by omega)];unfold GI;rw[if_pos hl]
    omega
   ·unfold nh;simp
  ·rw[if_neg (by simpa using fun h=>hl (Hw.1 h)),if_neg hl];refine congrArg some (congrArg Sum.inl (congrArg (Prod.mk _) (Prod.ext ?_ rfl)));refine congrArg (fun f=>(List.range N).map f) (funext fun p =>?_)
   by_cases h:p=i
   ·subst h;rw[if_pos rfl,if_pos (by omega)];unfold GI;rw[if_neg hl]
   omega
 ·rintro _ rfl;refine⟨_,?_,rfl⟩;simp only[nz];simp_all
def agF(N:Nat)(tk:List Tk):BF N tk (GI tk) [] (qu tk N) 0 0:=by
 have c:∀p,p∈qu tk N↔p<N∧0<iz tk p:=fun p=>by unfold qu;simp_all
 have d:∀p,0<iz tk p->GI tk p=0:=fun p h=>if_pos h;have e:∀p,¬0<iz tk p->GI tk p = -1:=fun p h=>if_neg h;constructor
 ·rw[aoy];unfold qu;exact List.nodup_range.filter _
 ·simp_all
 ·grind
 ·grind
 ·grind
 ·grind
 ·simp_all
 ·refine List.Pairwise.imp_of_mem (R:=fun _ _=>True) (fun {a b} f g _ =>?_) (List.pairwise_of_forall (fun _ _=>trivial));simp_all
 ·simp_all
 ·simp_all
 grind
def ae7{K:Nat}(e:mw N tk)(g:K<=1000000)(h:∀t∈tk,LF t.2.2<=K):∃r,kS (qK N tk)=some ((List.range N).map r)∧uk N tk r:=by
 have f:=e.ports;have a:=e.takes;have c:∀t∈tk,t.1<N∧t.2.1<N:=fun t d=>⟨(e.ok t d).1,(e.ok t d).2.1⟩;obtain⟨b,i,j⟩:=FA (n:=qK N tk) g (fun t d=>by
  simp only[qK,am5]at d;obtain⟨l,k,rfl⟩:=d;exact Dm (h l k))
 obtain rfl:b=true:=j.2 ⟨N,tk,rfl,e⟩;obtain⟨m,k,o⟩:=Xb (agF N tk) c a f;refine⟨m,?_,o⟩;unfold kS;rw[i,aoo];simp only[aor,anD,if_false];have p:(qK N tk).aC=(N:Int):=rfl;rw[p,DS _ (by omega) f,aoo,aaA (L:=0) c a,aoo,DS _ (by omega) f,aoo,Tl f a (fun t d=>(c t d).1) g h,aoo,aa9 f a g h,aoo];simp_all
def qB(N:Nat)(r:Nat->Int):List Nat:=(List.range N).filter fun p=>decide (r p = -1)
def XA(n:Nat)(r:Nat->Int):qB (n+1) r=if r n = -1 then qB n r++[n] else qB n r:=by
 unfold qB;rw[apz,apy];grind
def XB{r:Nat->Int}(g:N<=2000)(h:kS (qK N tk)=some ((List.range N).map r)):mF (qK N tk)=some (nh (qB N r)):=by
 unfold mF;rw[h,aoo];have key:=fun b c=>oU (body:=kT ((List.range N).map r)) (List.range N) (by simp;omega) (fun i l=>l=nh (qB i r)) (fun l=>l=nh (qB N r)) (s0:=([]:List Int)) rfl b c;have j:aO (kT ((List.range N).map r)) ((0:Int),[])=some (nh (qB N r)):=by
  refine (key ?_ ?_).elim fun x ⟨d,hx⟩=>hx ▸ d
  ·rintro i x _ hx rfl;have e:i<N:=by grind
   have f:(qB i r).length<=i:=by unfold qB;grind
   refine⟨_,?_,rfl⟩;simp only[kT];rw[if_pos (by simp;omega),aS (dC r e),aoo,ba (by omega),XA]
   by_cases a:r i = -1
   ·rw[if_pos (by rw[a];rfl),y7 (by rw[sH];simp;omega),aoo,if_pos a];unfold nh;simp
   simp_all
  ·rintro _ rfl;refine⟨_,?_,rfl⟩;simp only[kT];simp_all
 simp_all
end Go.Proofs.YtobnihfgnbnncaaGreat.P
namespace Go.Proofs.YtobnihfgnbnncaaGreat.P
open Go.RowKit
def sm:Nat->(Nat->Rat)->Rat
 | 0,_=>0
 | n+1,f=>sm n f+f n
theorem KC{n:Nat}{f g:Nat->Rat}(h:∀i,i<n->f i=g i):sm n f=sm n g:=by
 induction n with
 | zero=>rfl
 | succ n a=>grind[sm]
def afk(n:Nat)(f g:Nat->Rat):sm n (fun i=>f i+g i)=sm n f+sm n g:=by
 induction n with
 | zero=>simp only[sm];grind
 | succ n a=>simp only[sm];rw[a];grind
def afl(n:Nat)(f g:Nat->Rat):sm n (fun i=>f i-g i)=sm n f-sm n g:=by
 induction n with
 | zero=>simp only[sm];grind
 | succ n a=>simp only[sm];rw[a];grind
theorem FE{n:Nat}{f:Nat->Rat}(h:∀i,i<n->0<=f i):0<=sm n f:=by
 induction n with
 | zero=>simp only[sm];grind
 | succ n a =>
  grind[sm]
def ZO{n:Nat}{f:Nat->Rat}(h:∀i,i<n->0<=f i)(a:sm n f<=0):∀i,i<n->f i=0:=by
 induction n with
 | zero=>intro i b;omega
 | succ n c =>
  grind[sm,FE]
def aho(n:Nat):sm n (fun _=>0)=0:=by
 induction n with
 | zero=>rfl
 | succ n a=>simp only[sm];rw[a];grind
def Ol{n t:Nat}(v:Rat)(h:t<n):sm n (fun p=>if t=p then v else 0)=v:=by
 induction n with
 | zero=>omega
 | succ n b =>
  simp only[sm]
  by_cases a:t=n
  ·subst a;rw[KC (g:=fun _=>0) fun i c=>if_neg (by omega),aho,if_pos rfl];grind
  grind
def wO:List Tk->(Nat->Rat)->Nat->Rat
 | [],_,_=>0
 | t::l,x,p=>(if t.2.1=p then t.2.2*x t.1 else 0)+wO l x p
def agE(l:List Tk)(c:Rat)(x:Nat->Rat)(p:Nat):wO l (fun j=>c*x j) p=c*wO l x p:=by
 induction l with
 | nil=>simp only[wO];grind
 | cons t l a=>simp only[wO];grind
def S5{x y:Nat->Rat}{p:Nat}:∀{l:List Tk},(∀t∈l,0<=t.2.2)->(∀t∈l,t.2.1=p->x t.1<=y t.1)->wO l x p<=wO l y p
 | [],_,_=>by simp only[wO];grind
 | t::l,h0,h=>by
  simp only[wO];have c:=S5 (l:=l) (fun t a=>h0 t (aoj _ a)) fun t a=>h t (aoj _ a);have a:=h0 t (aoi ..)
  by_cases b:t.2.1=p
  ·rw[if_pos b,if_pos b];have:=Rat.mul_le_mul_of_nonneg_left (h t (aoi ..) b) a;grind
  grind
def WE{x:Nat->Rat}{p:Nat}{l:List Tk}(a:∀t∈l,0<=t.2.2)(h:∀t∈l,t.2.1=p->0<=x t.1):0<=wO l x p:=by
 have:=S5 (x:=fun _=>0) (y:=x) (p:=p) a h;have b:wO l (fun _=>0) p=0:=by
  have:=agE l 0 (fun _=>0) p;simp_all
 grind
def aee{x:Nat->Rat}{p:Nat}:∀{l:List Tk},(∀t∈l,0<=t.2.2)->(∀t∈l,t.2.1=p->0<=x t.1)->∀t∈l,t.2.1=p->t.2.2*x t.1<=wO l x p
 | [],_,_,t,a,_=>by cases a
 | t::l,h0,h,u,hu,c=>by
  simp only[wO];have d:=WE (x:=x) (p:=p) (l:=l) (fun t a=>h0 t (aoj _ a)) fun t a=>h t (aoj _ a);rcases anc.1 hu with rfl|hu
  ·grind
  ·have e:=aee (x:=x) (p:=p) (l:=l) (fun t a=>h0 t (aoj _ a)) (fun t a=>h t (aoj _ a)) u hu c
   by_cases b:t.2.1=p
   ·rw[if_pos b];have:=apA (h0 t (aoi ..)) (h t (aoi ..) b);grind
   grind
def YU{N:Nat}(x:Nat->Rat):∀{l:List Tk},(∀t∈l,t.1<N∧t.2.1<N)->sm N (fun p=>wO l x p)=sm N (fun q=>xk l q*x q)
 | [],_=>by simp only[wO,xk];simp_all
 | t::l,h=>by
  simp only[wO,xk];obtain⟨a,b⟩:=h t (aoi ..);rw[afk,Ol _ b,YU x fun t c=>h t (aoj _ c)];have:sm N (fun q=>((if t.1=q then t.2.2 else 0)+xk l q)*x q)=sm N (fun q=>(if t.1=q then t.2.2*x t.1 else 0)+xk l q*x q):=KC fun q _=>by
   grind
  rw[this,afk,Ol _ a]
variable {N:Nat} {tk:List Tk} {r:Nat->Int}
def mw.pos(a:mw N tk):∀t∈tk,0<=t.2.2:=fun t b=>by have:=(a.ok t b).2.2;grind
def mw.rng(a:mw N tk):∀t∈tk,t.1<N∧t.2.1<N:=fun t b=>⟨(a.ok t b).1,(a.ok t b).2.1⟩
def XR(b:mw N tk)(i:uk N tk r)(m:∀p,p<N->0<=r p){y:Nat->Rat}(hy:∀p,p<N->0<=y p)(n:∀p,p<N->y p<=wO tk y p):∀p,p<N->y p=0:=by
 have o:=YU y b.rng;have c:∀p,p<N->0<=iz tk p*y p:=fun p a=>apA (b.leak p a) (hy p a);have d:∀p,p<N->0<=wO tk y p-y p:=fun p a=>by grind
 have B:sm N (fun p=>iz tk p*y p)=sm N y-sm N (fun q=>xk tk q*y q):=by
  rw[<- afl];grind[iz,KC]
 have C:sm N (fun p=>wO tk y p-y p)=sm N (fun q=>xk tk q*y q)-sm N y:=by rw[afl,o]
 have D:=FE c;have E:=FE d;have F:=ZO c (by grind);have s:=ZO d (by grind);have key:∀(k:Nat) p,p<N->r p=(k:Int)->y p=0:=by
  intro k
  induction k with
  | zero =>
   intro p a j;have G:=(i.zero p a).1 j;grind
  | succ k v =>
   intro p a j;obtain⟨t,g,rfl,w⟩:=i.down p a (by omega);have f:=(b.rng t g).2;have H:=v t.2.1 f (by omega);have e:=s t.2.1 f;have z:=aee (x:=y) (p:=t.2.1) b.pos (fun u A _=>hy _ (b.rng u A).1) t g rfl;have l:=(b.ok t g).2.2;have h:=hy t.1 a;have I:t.2.2*y t.1<=0:=by grind
   have J:=apA (show 0<=t.2.2 by grind) h;grind[Rat.mul_eq_zero]
 intro p a;have:=m p a;exact key (r p).toNat p a (by omega)
def aga(N:Nat)(tk:List Tk)(d x:Nat->Rat):Prop:=∀p,p<N->x p=d p+wO tk x p
end Go.Proofs.YtobnihfgnbnncaaGreat.P
namespace Go.Proofs.YtobnihfgnbnncaaGreat.P
open Go.RowKit
abbrev Tm:=Nat×Rat
def kE(t:Tm):gu:=gu.mk (t.1:Int) (b9 t.2)
structure QE where
 D:Rat
 T:List Tm
def mkEq(e:QE):aJ:=aJ.mk (b9 e.D) (e.T.map kE)
def dW:List Tm->(Nat->Rat)->Rat
 | [],_=>0
 | t::l,x=>t.2*x t.1+dW l x
theorem Ah(a b:List Tm)(x:Nat->Rat):dW (a++b) x=dW a x+dW b x:=by
 induction a with
 | nil=>grind[dW]
 | cons t a c=>grind[dW]
abbrev k9(T:List Tm):Prop:=T.Pairwise fun a b=>a.1<b.1
def rA(T:List Tm)(k:Nat):List Tm:=T.filter fun t=>decide (t.1<k)
def Hs(T:List Tm)(k:Nat):List Tm:=T.filter fun t=>decide (k<t.1)
def gC:List Tm->Nat->Option Rat
 | [],_=>none
 | t::l,k=>if t.1=k then some t.2 else gC l k
theorem WK{T:List Tm}{k:Nat}{t:Tm}:t∈rA T k↔t∈T∧t.1<k:=by unfold rA;simp_all
theorem JB{T:List Tm}{k:Nat}{t:Tm}:t∈Hs T k↔t∈T∧k<t.1:=by unfold Hs;simp_all
theorem WJ{T:List Tm}{k:Nat}(h:∀t∈T,k<=t.1):rA T k=[]:=by
 grind[rA,List.filter_eq_nil_iff]
theorem aea{T:List Tm}{k:Nat}(h:∀t∈T,k<t.1):Hs T k=T:=by
 grind[Hs,List.filter_eq_self]
theorem aaG{T:List Tm}{k:Nat}(h:∀t∈T,t.1≠k):gC T k=none:=by
 induction T with
 | nil=>rfl
 | cons t T a=>simp_all[gC,if_neg,aoi,aoj]
def Bz{k:Nat}:∀{T:List Tm},k9 T->(gC T k=none∧T=rA T k++Hs T k)∨∃c,gC T k=some c∧T=rA T k++(k,c)::Hs T k
 | [],_ =>.inl ⟨rfl,rfl⟩
 | t::T,h=>by
  obtain⟨d,e⟩:=aoq.1 h;rcases Nat.lt_trichotomy t.1 k with hk|hk|hk
  ·have a:rA (t::T) k=t::rA T k:=apB (by simpa using hk);have b:Hs (t::T) k=Hs T k:=List.filter_cons_of_neg (by simp;omega);have f:gC (t::T) k=gC T k:=by rw[gC,if_neg (by omega)]
   rw[a,b,f];rcases Bz (k:=k) e with⟨g,i⟩|⟨c,g,i⟩
   ·grind
   grind
  ·subst hk;have a:rA (t::T) t.1=[]:=WJ fun u j=>by
    grind
   have b:Hs (t::T) t.1=T:=by
    rw[show Hs (t::T) t.1=Hs T t.1 from List.filter_cons_of_neg (by simp),aea d]
   refine .inr ⟨t.2,by rw[gC,if_pos rfl],?_⟩;rw[a,b];rfl
  grind[rA,Hs,WJ,aea,aaG]
def pc(T:List Tm)(k:Nat):List Tm:=rA T k++Hs T k
def PH(T:List Tm)(k:Nat)(a:Rat):List Tm:=rA T k++(k,a)::Hs T k
def HR(T:List Tm)(k:Nat)(v:Rat):List Tm:=PH T k ((gC T k).getD 0+v)
theorem lu{T:List Tm}{k:Nat}{t:Tm}:t∈pc T k↔t∈T∧t.1≠k:=by
 grind[pc,WK,JB]
def PN{T:List Tm}{k:Nat}{a:Rat}{t:Tm}:t∈PH T k a↔t=(k,a)∨t∈pc T k:=by
 unfold PH pc;grind
theorem KE{T:List Tm}(h:k9 T)(k:Nat):k9 (pc T k):=by
 unfold pc;rw[k9,List.pairwise_append];refine⟨h.filter _,h.filter _,fun a c b d =>?_⟩;grind[WK,JB]
def afp{T:List Tm}(h:k9 T)(k:Nat)(a:Rat):k9 (PH T k a):=by
 unfold PH;rw[k9,List.pairwise_append,aoq];refine⟨h.filter _,⟨fun b c=>(JB.1 c).2,h.filter _⟩,fun x d b c =>?_⟩;grind[WK,JB]
theorem Bk{T:List Tm}(h:k9 T)(k:Nat)(x:Nat->Rat):dW T x=dW (pc T k) x+(gC T k).getD 0*x k:=by
 rcases Bz (k:=k) h with⟨a,b⟩|⟨c,a,b⟩
 ·rw[a];unfold pc;grind
 grind[dW,rA,Hs,pc,Ah]
theorem agO{T:List Tm}(k:Nat)(a:Rat)(x:Nat->Rat):dW (PH T k a) x=dW (pc T k) x+a*x k:=by
 grind[PH,pc,dW,Ah]
def agM{T:List Tm}(h:k9 T)(k:Nat)(v:Rat)(x:Nat->Rat):dW (HR T k v) x=dW T x+v*x k:=by
 grind[HR,agO,Bk]
def sr{T:List Tm}{k:Nat}{c:Rat}(h:gC T k=some c):(k,c)∈T:=by
 induction T with
 | nil=>cases h
 | cons t T a =>
  rw[gC]at h;grind
def Nw{x y:Nat->Rat}:∀{T:List Tm},(∀t∈T,x t.1=y t.1)->dW T x=dW T y
 | [],_=>rfl
 | t::T,h=>by rw[dW,dW,h t (aoi ..),Nw fun u a=>h u (aoj _ a)]
theorem yg{x:Nat->Rat}:∀{T:List Tm},(∀t∈T,0<=t.2)->(∀t∈T,0<=x t.1)->0<=dW T x
 | [],_,_=>by simp only[dW];grind
 | t::T,h,hx=>by
  have b:=apA (h t (aoi ..)) (hx t (aoi ..));have c:=yg (T:=T) (fun u a=>h u (aoj _ a)) fun u a=>hx u (aoj _ a);simp only[dW];grind
theorem agN(T:List Tm)(c:Rat)(x:Nat->Rat):dW (T.map fun t=>(t.1,t.2 / c)) x=dW T x / c:=by
 induction T with
 | nil=>grind[dW]
 | cons t T a=>grind[dW]
structure X7(N K:Nat)(T:List Tm):Prop where
 sorted:k9 T
 lt:∀t∈T,t.1<N
 sz:∀t∈T,LF t.2<=K
def X7.len{N K:Nat}{T:List Tm}(h:X7 N K T):T.length<=N:=by
 have a:=DU N (T.map (·.1)) (by
  rw[List.Nodup,ao3];exact h.sorted.imp fun h=>by omega) (fun x b=>by
  obtain⟨t,c,rfl⟩:=am5.1 b;exact h.lt t c)
 simpa using a
def X7.rem{N K:Nat}{T:List Tm}(h:X7 N K T)(k:Nat):X7 N K (pc T k):=⟨KE h.sorted k,fun t a=>h.lt t (lu.1 a).1,fun t a=>h.sz t (lu.1 a).1⟩
def X7.mono{N K a:Nat}{T:List Tm}(h:X7 N K T)(b:K<=a):X7 N a T:=⟨h.sorted,h.lt,fun t c=>am8 (h.sz t c) b⟩
def ak6(x:Int):CZ .u64 x 1=some (x / 2):=by
 unfold CZ;rw[if_neg (by decide)];have e:(2:Int) ^ (min (Int.toNat 1) IntKind.u64.bits)=2:=by decide
 grind
def aie{k:Nat}:∀{T:List Tm},k9 T->∀(i:Nat) t,T[i]? = some t->(t.1<k↔i<(rA T k).length)
 | [],_,i,t,h=>by simp at h
 | a::T,hs,i,t,h=>by
  obtain⟨e,b⟩:=aoq.1 hs
  by_cases c:a.1<k
  ·have d:rA (a::T) k=a::rA T k:=apB (by simpa using c);rw[d,anO];cases i with
   | zero=>simp_all
   | succ i =>
    have:=aie (k:=k) b i t (by simpa using h);omega
  grind[rA,WJ]
def IT(t:Tm)(k:Nat):eH (kE t) (k:Int)=some (mY (t.1:Int) (k:Int)):=by
 unfold eH;rw[En];rfl
theorem RI{a b:Int}:mY a b<0↔a<b:=by unfold mY;omega
theorem Mw{a b:Int}:mY a b=0↔a=b:=by unfold mY;omega
theorem VM{T:List Tm}(m:k9 T)(x:T.length<=2000)(k:Nat) :
  bP (T.map kE) (k:Int)=some (((rA T k).length:Int),(gC T k).isSome):=by
 have f:(rA T k).length<=T.length:=apC ..;have key:=fun g=>uU (body:=cB (T.map kE) (k:Int)) (I:=fun (s:Int×Int)=>∃b a:Nat,s=((b:Int),(a:Int))∧b<=(rA T k).length∧(rA T k).length<=a∧a<=T.length) (μ:=fun (s:Int×Int)=>(s.2-s.1).toNat)
  (fun r=>r=((rA T k).length:Int)) (s:=(0,((T.map kE).length:Int))) ⟨0,T.length,by simp,by omega,f,am6 _⟩ (by grind[FU,List.length_map]) g
 obtain⟨r,i,rfl⟩:=key (by
  rintro _ ⟨b,a,rfl,i,n,o⟩;simp only[cB]
  by_cases p:b<a
  ·have q:(b+a) / 2<T.length:=by omega
   have e:(T.map kE)[(b+a) / 2]? = some (kE T[(b+a) / 2]):=by simp_all
   have d:=aie (k:=k) m ((b+a) / 2) _ (anj q);have t:IntKind.i64.wrap ((b:Int)+a)=(b:Int)+a:=wrap64 (by omega) (by omega);have u:IntKind.u64.wrap ((b:Int)+a)=(b:Int)+a:=wu (by omega);have v:IntKind.i64.wrap (((b:Int)+a) / 2)=(((b+a) / 2:Nat):Int):=by grind[wrap64]
   rw[if_pos (by simpa using p),t,u,ak6,aoo,v,aS e,aoo,IT,aoo];refine .inl ?_
   by_cases y:T[(b+a) / 2].1<k
   ·rw[if_pos (by simp only[decide_eq_true_eq];exact RI.2 (by omega)),ba (by omega)];refine⟨_,rfl,⟨(b+a) / 2+1,a,rfl,by omega,n,o⟩,?_⟩;simp only;omega
   ·rw[if_neg (by simp only[decide_eq_true_eq];grind[RI])];refine⟨_,rfl,⟨b,(b+a) / 2,rfl,i,by omega,by omega⟩,?_⟩;simp only;omega
  grind)
 unfold bP;rw[i,aoo];rcases Bz (k:=k) m with⟨j,w⟩|⟨c,j,w⟩
 ·rw[j]
  by_cases d:(rA T k).length<T.length
  ·have e:(T.map kE)[(rA T k).length]? = some (kE T[(rA T k).length]):=by grind
   rw[if_pos (by simpa using d),aS e,aoo,IT,aoo];have hne:T[(rA T k).length].1≠k:=by
    grind[rA,Hs,JB]
   have:mY (T[(rA T k).length].1:Int) (k:Int)≠0:=fun h=>hne (by have:=Mw.1 h;omega);simp[this]
  grind
 ·rw[j];have l:T[(rA T k).length]? = some (k,c):=by
   grind
  have d:=aQ l;have e:(T.map kE)[(rA T k).length]? = some (kE (k,c)):=by grind
  rw[if_pos (by simpa using d),aS e,aoo,IT,aoo];grind[Mw]
def find_eq{e:QE}(a:k9 e.T)(b:e.T.length<=2000)(k:Nat):dK (mkEq e) (k:Int)=some (mkEq e,((rA e.T k).length:Int),(gC e.T k).isSome):=by
 grind[dK,mkEq,VM]
def Fv{a x y:Rat}(h:LF a+(LF x+LF y)+1<=dh):jF (b9 a) (b9 x) (b9 y)=some (b9 (a+x*y)):=by
 grind[jF,wv,X1,XS]
def aiX:iy 0=some (b9 0):=acu (n:=0) (by decide)
def OU:LF 1<=1:=Cb (n:=1) (by decide)
def acx:LF 0<=1:=Cb (n:=0) (by decide)
def aj7(e:QE)(k:Nat)(v:Rat):QE:=⟨e.D,HR e.T k v⟩
def aj9{N K:Nat}{e:QE}(d:X7 N K e.T)(q:N<=2000){k:Nat}{v:Rat}(h:K+LF v+10<=dh):fQ (mkEq e) (k:Int) (b9 v)=some (mkEq (aj7 e k v),()):=by
 have r:=d.len;unfold fQ;rw[find_eq d.sorted (by omega),aoo];simp only;have g:=OU;rcases Bz (k:=k) d.sorted with⟨a,i⟩|⟨c,a,i⟩
 ·rw[a];simp only[Option.isSome_none,anD,if_false];have j:(rA e.T k).length<=e.T.length:=apC ..;have b:aeg 72 (mkEq e).ct ((rA e.T k).length:Int) [gu.mk (k:Int) (b9 v)]=some ((HR e.T k v).map kE):=by
   unfold aeg mkEq;simp only[anz,List.length_cons,List.length_nil,Int.toNat_natCast];rw[if_pos ⟨by omega,by omega,by omega,by omega⟩];congr 1;have f:e.T.map kE=(rA e.T k).map kE++(Hs e.T k).map kE:=by grind
   unfold HR PH;rw[a,f,List.take_left' (by simp),List.drop_left' (by simp),aof,anb];grind[kE]
  rw[b];rfl
 ·rw[a];simp only[Option.isSome_some,if_true];have l:e.T[(rA e.T k).length]? = some (k,c):=by
   grind
  have m:(e.T.map kE)[(rA e.T k).length]? = some (kE (k,c)):=by grind
  have n:LF c<=K:=d.sz (k,c) (sr a);have o:(mkEq e).ct=e.T.map kE:=rfl;rw[o,aS m,aoo,agJ,aoo];simp only[kE];rw[Fv (by omega),aoo,anY];unfold aj7 HR PH mkEq;rw[a];simp only[Option.getD_some];have f:e.T.map kE=(rA e.T k).map kE++kE (k,c)::(Hs e.T k).map kE:=by grind
  have p:((e.T.map fun t=>gu.mk (t.1:Int) (b9 t.2)).set (rA e.T k).length (gu.mk (k:Int) (b9 (c+v*1))))=(rA e.T k++(k,c+v)::Hs e.T k).map kE:=by
   show (e.T.map kE).set (rA e.T k).length _=_;rw[f,List.set_append_right _ _ (by simp),anz,aoa,List.set_cons_zero,aof,anb];unfold kE;grind
  rw[<- p];rfl
def kR(e:QE)(p:Nat):QE:=match gC e.T p with|none=>e|some c=>⟨e.D / (1-c),(pc e.T p).map fun t=>(t.1,t.2 / (1-c))⟩
theorem ado{T:List Tm}{k:Nat}{c:Rat}(e:T.length<=2000)(g:T=rA T k++(k,c)::Hs T k):adn (T.map kE) ((rA T k).length:Int) (IntKind.i64.wrap (((rA T k).length:Int)+1))=some ((pc T k).map kE):=by
 have a:T.length=(rA T k).length+1+(Hs T k).length:=by
  grind
 rw[ba (by omega)];unfold adn;have:(2000:Nat)<=maxLen:=by decide
 rw[if_pos ⟨by omega,by omega,by simp;omega,by simp;omega⟩,anY,anY];have b:T.map kE=(rA T k).map kE++kE (k,c)::(Hs T k).map kE:=by grind
 rw[b,List.take_left' (by simp)];have d:((rA T k).map kE++kE (k,c)::(Hs T k).map kE).drop ((rA T k).length+1)=(Hs T k).map kE:=by
  rw[aow,aox (by simp)];simp
 rw[d];unfold pc;grind
def ahS{a b:Rat}(h:LF a+LF b<=dh)(c:b≠0):sA (b9 a) (b9 b)=some (b9 (a / b),0):=ajV h c
def agQ{N K:Nat}{e:QE}(a:X7 N K e.T)(G:LF e.D<=K)(H:N<=2000)(I:2*K+10<=dh){p:Nat}(q:∀c,gC e.T p=some c->1-c≠0):eV (mkEq e) (p:Int)=some (mkEq (kR e p),()):=by
 have J:=a.len;unfold eV;rw[find_eq a.sorted (by omega),aoo];simp only;have m:=OU;unfold kR;rcases Bz (k:=p) a.sorted with⟨b,s⟩|⟨c,b,s⟩
 ·rw[b];rfl
 ·rw[b];simp only[Option.isSome_some,aor,anD,if_false];have v:e.T[(rA e.T p).length]? = some (p,c):=by
   grind
  have w:(e.T.map kE)[(rA e.T p).length]? = some (kE (p,c)):=by grind
  have x:LF c<=K:=a.sz (p,c) (sr b);have n:=q c b;have y:(mkEq e).ct=e.T.map kE:=rfl;have z:(mkEq e).bG=b9 e.D:=rfl;rw[agJ,aoo,y,aS w,aoo];simp only[kE];have A:=OV 1 c;rw[acH (by omega),aoo];have B:jh (e.T.map kE) ((rA e.T p).length:Int) (IntKind.i64.wrap (((rA e.T p).length:Int)+1))=some ((pc e.T p).map kE):=by grind[jh,ado]
  rw[B,aoo,z];simp only;rw[ahS (by omega) n,aoo];have C:=(a.rem p).len;have key:=fun D d=>oU (body:=fX (b9 (1-c),0) ((pc e.T p).map kE)) (pc e.T p) (by omega) (fun i (l:List gu)=>l.length=(pc e.T p).length∧∀(j:Nat) t,(pc e.T p)[j]? = some t->l[j]? = some (if j<i then kE (t.1,t.2 / (1-c)) else kE t)) (fun l=>l=((pc e.T p).map fun t=>(t.1,t.2 / (1-c))).map kE) (s0:=(pc e.T p).map kE)
   ⟨by simp,fun j t h=>by grind⟩ D d
  obtain⟨r,E,rfl⟩:=key (by
   rintro i t l h ⟨f,o⟩;have M:=aQ h;have g:=o i t h;rw[if_neg (by omega)]at g;have F:=a.sz t (lu.1 (anv h)).1;refine⟨l.set i (kE (t.1,t.2 / (1-c))),?_,by simpa using f,fun j u O =>?_⟩
   ·simp only[fX];rw[if_pos (by simp;omega),aS g,aoo];simp only[kE];rw[ahS (by omega) n,aoo,ba (by omega),anY]
   ·rw[List.getElem?_set];grind) (by
   rintro l ⟨f,o⟩;refine⟨l,?_,?_⟩
   ·grind[fX]
   ·apply aoZ;grind)
  rw[E,aoo];rfl
def ml(c:Rat):List Tm->List Tm->List Tm
 | [],T=>T
 | b::B,T=>ml c B (HR T b.1 (c*b.2))
def Fx(e:QE)(p:Nat)(b:QE):QE:=match gC e.T p with|none=>e|some c=>⟨e.D+c*b.D,ml c b.T (pc e.T p)⟩
def xV(c:Rat):∀(A B T:List Tm),ml c (A++B) T=ml c B (ml c A T)
 | [],_,_=>rfl
 | a::A,B,T=>by rw[aoJ,ml,ml,xV c A B]
def L2{T:List Tm}(h:k9 T)(k:Nat)(v:Rat):k9 (HR T k v):=afp h k _
def IV(c:Rat):∀(B:List Tm){T:List Tm},k9 T->k9 (ml c B T)
 | [],_,h=>h
 | b::B,_,h=>IV c B (L2 h _ _)
theorem Tn(c:Rat)(x:Nat->Rat):∀(B:List Tm){T:List Tm},k9 T->dW (ml c B T) x=dW T x+c*dW B x
 | [],T,_=>by simp only[ml,dW];grind
 | b::B,T,h=>by
  rw[ml,Tn c x B (L2 h _ _),agM h,dW];grind
def Cl(c:Rat){R:Nat->Prop}:∀(B:List Tm){T:List Tm},(∀t∈T,R t.1)->(∀b∈B,R b.1)->∀t∈ml c B T,R t.1
 | [],_,h,_=>h
 | b::B,T,h,hB=>Cl c B (T:=HR T b.1 (c*b.2)) (fun t a=>by
   rcases PN.1 a with rfl|a
   ·simp_all
   ·exact h t (lu.1 a).1) fun u d=>hB u (aoj _ d)
def SD{c:Rat}(f:0<=c):∀(B:List Tm){T:List Tm},(∀t∈T,0<=t.2)->(∀b∈B,0<=b.2)->∀t∈ml c B T,0<=t.2
 | [],_,h,_=>h
 | b::B,T,h,hB=>SD f B (T:=HR T b.1 (c*b.2)) (fun t d=>by
   rcases PN.1 d with rfl|d
   ·have i:=apA f (hB b (aoi ..));simp only;cases e:gC T b.1 with
    | none=>grind
    | some a=>have:=h _ (sr e);grind
   ·exact h t (lu.1 d).1) fun u g=>hB u (aoj _ g)
def YO{K1 K2:Nat}{c:Rat}(n:LF c<=K1):∀(A B:List Tm){T:List Tm},k9 (A++B)->(∀b∈A++B,LF b.2<=K2)->(∀t∈T,LF t.2<=K1)->∀t∈ml c A T,LF t.2<=2*K1+K2+1∧((∀a∈A,a.1≠t.1)->LF t.2<=K1)
 | [],_,_,_,_,h,t,d=>⟨by have:=h t d;omega,fun _=>h t d⟩
 | a::A,B,T,hs,g,h,t,d=>by
  obtain⟨e,z,f⟩:∃e z,a::A=e++[z]:=⟨(a::A).dropLast,(a::A).getLast (by simp),(List.dropLast_concat_getLast (by simp)).symm⟩;have j:e.length<(a::A).length:=by rw[f];simp
  rw[f,xV]at d;simp only[ml]at d;rw[f,aoK]at hs g;have k:=YO n e ([z]++B) (T:=T) hs g h;have o:=g z (anl _ (ank _ (aoi ..)));rw[f];rcases PN.1 d with rfl|d
  ·refine⟨?_,fun hn=>absurd rfl (hn z (anl _ (aoi ..)))⟩;simp only;have p:=wv c z.2;cases i:gC (ml c e T) z.1 with
   | none=>grind
   | some y =>
    have l:=(k _ (sr i)).2 fun u m=>by
     grind
    grind[xF]
  ·obtain⟨l,h2⟩:=k t (lu.1 d).1;exact⟨l,fun hn=>h2 fun u m=>hn u (ank _ m)⟩
 termination_by A=>A.length
structure X6(N K:Nat)(e:QE):Prop where
 t:X7 N K e.T
 d:LF e.D<=K
def X6.mono{N K a:Nat}{e:QE}(h:X6 N K e)(b:K<=a):X6 N a e:=⟨h.t.mono b,am8 h.d b⟩
def aaZ(c:Rat){B:List Tm}{i:Nat}{b:Tm}(h:B[i]? = some b)(T:List Tm):ml c (B.take (i+1)) T=HR (ml c (B.take i) T) b.1 (c*b.2):=by
 obtain⟨a,d⟩:=anx.1 h;rw[apw a,xV,d];rfl
def SB{N a d:Nat}{c:Rat}(f:LF c<=a){B T:List Tm}(hB:X7 N d B)(e:X7 N a T)(i:Nat):X7 N (2*a+d+1) (ml c (B.take i) T) where
 sorted:=IV c _ e.sorted
 lt:=Cl c (R:=fun p=>p<N) _ e.lt fun b g=>hB.lt b (anK g)
 sz t h:=(YO (K1:=a) (K2:=d) f (B.take i) (B.drop i) (by rw[aoC];exact hB.sorted) (by rw[aoC];exact hB.sz) e.sz t h).1
def ag6{N d g:Nat}{e b:QE}(a:X6 N d e)(h:X6 N g b)(p:Nat):X6 N (2*d+g+1) (Fx e p b):=by
 unfold Fx;cases f:gC e.T p with
 | none=>exact a.mono (by omega)
 | some c =>
  have j:LF c<=d:=a.t.sz _ (sr f);have i:=SB j h.t (a.t.rem p) b.T.length;rw[aoY]at i;refine⟨i,?_⟩;have k:=xF e.D (c*b.D);have l:=wv c b.D;have:=a.d;have:=h.d;simp only;omega
def Nz{N K:Nat}{e:QE}(a:X6 N K e)(p:Nat)(g:∀c,gC e.T p=some c->1-c≠0):X6 N (2*K+2) (kR e p):=by
 unfold kR;cases b:gC e.T p with
 | none=>exact a.mono (by omega)
 | some c =>
  have h:LF c<=K:=a.t.sz _ (sr b);have i:=OV 1 c;have j:=OU;have k:=g c b;refine⟨⟨?_,?_,?_⟩,?_⟩
  ·simp only;rw[k9,ao3];exact (KE a.t.sorted p)
  ·intro t d;simp only[am5]at d;obtain⟨u,f,rfl⟩:=d;exact a.t.lt u (lu.1 f).1
  ·intro t d;simp only[am5]at d;obtain⟨u,f,rfl⟩:=d;have:=a.t.sz u (lu.1 f).1;grind[acv]
  ·have:=a.d;grind[acv]
def akJ{N h q:Nat}{e b:QE}(a:X6 N h e)(f:X6 N q b)(v:N<=2000)(O:4*h+3*q+20<=dh)(p:Nat):fR (mkEq e) (p:Int) (mkEq b)=some (mkEq (Fx e p b),()):=by
 have P:=a.t.len;unfold fR;rw[find_eq a.t.sorted (by omega),aoo];simp only;unfold Fx;rcases Bz (k:=p) a.t.sorted with⟨g,w⟩|⟨c,g,w⟩
 ·rw[g];rfl
 ·rw[g];simp only[Option.isSome_some,aor,anD,if_false];have x:e.T[(rA e.T p).length]? = some (p,c):=by
   grind
  have y:(e.T.map kE)[(rA e.T p).length]? = some (kE (p,c)):=by grind
  have j:LF c<=h:=a.t.sz (p,c) (sr g);have z:=a.d;have A:=f.d;have B:=f.t.len;have C:(mkEq e).ct=e.T.map kE:=rfl;have D:(mkEq b).ct=b.T.map kE:=rfl;have E:(mkEq b).bG=b9 b.D:=rfl;have F:(mkEq e).bG=b9 e.D:=rfl;have G:jh (e.T.map kE) ((rA e.T p).length:Int) (IntKind.i64.wrap (((rA e.T p).length:Int)+1))=some ((pc e.T p).map kE):=by grind[jh,ado]
  rw[C,aS y,aoo,G,aoo,F,E];have u:(kE (p,c)).iU=b9 c:=rfl;rw[u,Fv (by omega),aoo];have key:=fun H d=>oU (body:=gR (mkEq b) (kE (p,c))) b.T (by omega) (fun i (s:Int×List Int×Int×List Int×List gu)=>s=((b9 (e.D+c*b.D)).bF.al,(b9 (e.D+c*b.D)).bF.aa,(b9 (e.D+c*b.D)).bJ.al,(b9 (e.D+c*b.D)).bJ.aa,(ml c (b.T.take i) (pc e.T p)).map kE))
   (fun s=>s=((b9 (e.D+c*b.D)).bF.al,(b9 (e.D+c*b.D)).bF.aa,(b9 (e.D+c*b.D)).bJ.al,(b9 (e.D+c*b.D)).bJ.aa,(ml c b.T (pc e.T p)).map kE)) (s0:=((b9 (e.D+c*b.D)).bF.al,(b9 (e.D+c*b.D)).bF.aa,(b9 (e.D+c*b.D)).bJ.al,(b9 (e.D+c*b.D)).bJ.aa,(pc e.T p).map kE)) rfl H d
  obtain⟨r,I,rfl⟩:=key (by
   rintro i t _ l rfl;have Q:=aQ l;have m:=anv l;have J:=f.t.sz t m;have n:=SB j f.t (a.t.rem p) i;have R:=wv c t.2;have o:(b.T.map kE)[i]? = some (kE t):=by grind
   have S:=acx;refine⟨_,?_,rfl⟩;simp only[gR];rw[if_pos (by grind),D,aS o,aoo,aiX,aoo];have K:(kE t).iU=b9 t.2:=rfl;have L:(kE t).oS=(t.1:Int):=rfl;rw[u,K,Fv (by omega),aoo,Rat.zero_add,L];have M:aJ.mk (an.mk (aF.mk (b9 (e.D+c*b.D)).bF.al (b9 (e.D+c*b.D)).bF.aa) (aF.mk (b9 (e.D+c*b.D)).bJ.al (b9 (e.D+c*b.D)).bJ.aa)) ((ml c (b.T.take i) (pc e.T p)).map kE)=mkEq ⟨e.D+c*b.D,ml c (b.T.take i) (pc e.T p)⟩:=rfl;rw[M,aj9 (e:=⟨e.D+c*b.D,ml c (b.T.take i) (pc e.T p)⟩) n v (by omega),aoo,ba (by omega),aaZ c l];rfl) (by
   rintro _ rfl;refine⟨_,?_,rfl⟩;grind[gR])
  rw[I,aoo];rfl
theorem Yt{T:List Tm}{k:Nat}(h:gC T k=none):∀t∈T,t.1≠k:=by
 induction T with
 | nil=>simp_all
 | cons u T a =>
  rw[gC]at h;grind
def abn{e:QE}(a:k9 e.T){p:Nat}(b:∀c,gC e.T p=some c->1-c≠0)(s:Rat)(x:Nat->Rat):(1-(gC e.T p).getD 0)*(s*(kR e p).D+dW (kR e p).T x)=s*e.D+dW e.T x-(gC e.T p).getD 0*x p:=by
 grind[kR,gC,Bk,agN]
def ag8{e b:QE}(a:k9 e.T)(p:Nat)(s:Rat)(x:Nat->Rat):s*(Fx e p b).D+dW (Fx e p b).T x=s*e.D+dW e.T x+(gC e.T p).getD 0*(s*b.D+dW b.T x-x p):=by
 grind[Fx,gC,Bk,Tn,KE]
def jd(E0:Nat->QE):Nat->Nat->QE
 | 0,k=>E0 k
 | p+1,k=>if k<p then jd E0 p k else if k=p then kR (jd E0 p p) p else Fx (jd E0 p k) p (kR (jd E0 p p) p)
def Vd(K0:Nat):Nat->Nat
 | 0=>K0
 | p+1=>4*Vd K0 p+3
def Xn(a:Nat):∀p,Vd a p+1=4 ^ p*(a+1)
 | 0=>by simp[Vd]
 | p+1=>by
  have b:=Xn a p;grind[Vd,Nat.pow_succ]
def ajK(x:Nat->Rat)(p:Nat)(v:Rat):Nat->Rat:=fun j=>if j=p then v else x j
def HX(E:Nat->QE)(s:Rat):∀(p:Nat),(∀k,k<p->∀t∈(E k).T,k<t.1)->∀z:Nat->Rat,∃x:Nat->Rat,(∀j,p<=j->x j=z j)∧(∀k,k<p->x k=s*(E k).D+dW (E k).T x)∧(s=0->(∀j,0<=z j)->(∀k,k<p->∀t∈(E k).T,0<=t.2)->∀j,0<=x j)
 | 0,_,z=>⟨z,fun _ _=>rfl,fun k c=>by omega,fun _ h _=>h⟩
 | p+1,hp,z=>by
  obtain⟨x,a,f,g⟩:=HX E s p (fun k c=>hp k (by omega)) (ajK z p (s*(E p).D+dW (E p).T z));refine⟨x,fun j i =>?_,fun k c =>?_,fun l m d =>?_⟩
  ·rw[a j (by omega)];exact if_neg (by omega)
  ·by_cases b:k=p
   ·subst b;rw[a k (am6 _),show ajK z k (s*(E k).D+dW (E k).T z) k=s*(E k).D+dW (E k).T z from if_pos rfl];congr 1;refine Nw fun t e =>?_;have:=hp k (by omega) t e;rw[a t.1 (by omega)];exact (if_neg (by omega)).symm
   grind
  grind[ajK,yg]
theorem aiL{a b:Rat}(c:0<=a)(d:0<b):0<=a / b:=by
 have e:a / b*b=a:=Rat.div_mul_cancel (by grind)
 by_cases h:0<=a / b
 ·exact h
 ·exfalso;have f:0 <= -(a / b)*b:=apA (by grind) (by grind);grind[Rat.mul_eq_zero]
variable {N:Nat} {tk:List Tk} {r:Nat->Int}
structure xu(N:Nat)(tk:List Tk)(d:Nat->Rat)(K0:Nat)(E:Nat->QE)(p:Nat):Prop where
 sz:∀k,k<N->p<=k->X6 N (Vd K0 p) (E k)
 szd:∀k,k<p->X6 N (2*Vd K0 k+2) (E k)
 up:∀k,k<p->∀t∈(E k).T,k<t.1
 ge:∀k,k<N->p<=k->∀t∈(E k).T,p<=t.1
 pos:∀k,k<N->∀t∈(E k).T,0<=t.2
 sem:∀(s:Rat)(x:Nat->Rat),(∀q,q<p->x q=s*(E q).D+dW (E q).T x)->(∀k,k<p->x k=s*d k+wO tk x k)∧∀k,k<N->p<=k->s*(E k).D+dW (E k).T x=s*d k+wO tk x k
def N3(g:mw N tk)(i:uk N tk r)(l:∀p,p<N->0<=r p){d:Nat->Rat}{m:Nat}{E:Nat->QE}{p:Nat}(hE:xu N tk d m E p)(n:p<N):∀c,gC (E p).T p=some c->c<1:=by
 intro c o
 by_cases b:c<1
 ·exact b
 exfalso;obtain⟨x,C,s,u⟩:=HX E 0 p hE.up (fun j=>if j=p then 1 else 0);have hx:=u rfl (fun j=>by split<;>grind) fun k D=>hE.pos k (by omega);obtain⟨F,f⟩:=hE.sem 0 x s;have e:x p=1:=by simp_all
 have v:∀j,p<j->x j=0:=fun j G=>by grind
 have:=XR g i l (y:=x) (fun q _=>hx q) (fun q a=>by
  rcases Nat.lt_trichotomy q p with h|h|h
  ·grind
  ·subst h;have w:=f q a (am6 _);have z:=Bk (hE.sz q a (am6 _)).t.sorted q x;rw[o,e]at z;have A:0<=dW (pc (E q).T q) x:=yg (fun t B=>hE.pos q a t (lu.1 B).1) fun t _=>hx t.1;grind
  ·have w:=f q a (by omega);have A:0<=dW (E q).T x:=yg (hE.pos q a) fun t _=>hx t.1;grind) p n
 grind
def aaT(G:mw N tk)(H:uk N tk r)(I:∀p,p<N->0<=r p){d:Nat->Rat}{D:Nat}{i:Nat->QE}{p:Nat}(hE:xu N tk d D (jd i p) p)(m:p<N):xu N tk d D (jd i (p+1)) (p+1):=by
 have F:=N3 G H I hE m;generalize y:jd i p=E at *;have J:∀k,jd i (p+1) k=if k<p then E k else if k=p then kR (E p) p else Fx (E k) p (kR (E p) p):=fun k=>by rw[jd,y]
 have j:∀k,k<p->jd i (p+1) k=E k:=fun k b=>by rw[J,if_pos b]
 have z:jd i (p+1) p=kR (E p) p:=by simp_all
 have f:∀k,p<k->jd i (p+1) k=Fx (E k) p (kR (E p) p):=fun k b=>by grind
 have n:∀c,gC (E p).T p=some c->1-c≠0:=fun c P=>by grind
 have g:=hE.sz p m (am6 _);have K:=Nz g p n;have A:∀t∈(kR (E p) p).T,p<t.1:=by
  intro t a;unfold kR at a;cases e:gC (E p).T p with
  | none =>
   rw[e]at a;have o:=hE.ge p m (am6 _) t a;grind[Yt]
  | some c =>
   rw[e]at a;simp only[am5]at a;obtain⟨u,B,rfl⟩:=a;have o:=hE.ge p m (am6 _) u (lu.1 B).1;grind[lu]
 have l:∀t∈(kR (E p) p).T,0<=t.2:=by
  intro t a;unfold kR at a;cases e:gC (E p).T p with
  | none=>rw[e]at a;exact hE.pos p m t a
  | some c =>
   rw[e]at a;simp only[am5]at a;obtain⟨u,B,rfl⟩:=a;have o:=hE.pos p m u (lu.1 B).1;grind[aiL]
 constructor
 ·intro k b v;rw[f k (by omega)];have:=ag6 (hE.sz k b (by omega)) K p;grind[Vd]
 ·intro k b
  by_cases C:k=p
  ·simp_all
  ·rw[j k (by omega)];exact hE.szd k (by omega)
 ·intro k b
  by_cases C:k=p
  ·grind
  ·rw[j k (by omega)];exact hE.up k (by omega)
 ·intro k b v;rw[f k (by omega)];unfold Fx;cases e:gC (E k).T p with
  | none =>
   intro t a;have o:=hE.ge k b (by omega) t a;grind[Yt]
  | some c =>
   refine Cl c (R:=fun q=>p+1<=q) _ (fun t a =>?_) A;have o:=hE.ge k b (by omega) t (lu.1 a).1;grind[lu]
 ·intro k b;rcases Nat.lt_trichotomy k p with h|h|h
  ·rw[j k h];exact hE.pos k b
  ·grind
  ·rw[f k h];unfold Fx;cases e:gC (E k).T p with
   | none=>exact hE.pos k b
   | some c=>exact SD (hE.pos k b _ (sr e)) _ (fun t a=>hE.pos k b t (lu.1 a).1) l
 ·intro s x L;have w:=L p (by omega);rw[z]at w;obtain⟨Q,M⟩:=hE.sem s x fun q S=>by grind
  have O:x p=s*(E p).D+dW (E p).T x:=by
   have o:=abn g.t.sorted n s x;grind
  refine⟨fun k b =>?_,fun k b v =>?_⟩
  ·grind
  ·rw[f k (by omega),ag8 (hE.sz k b (by omega)).t.sorted,<- w,M k b (by omega)];grind
def Si(a:mw N tk)(b:uk N tk r)(c:∀p,p<N->0<=r p){d:Nat->Rat}{e:Nat}{f:Nat->QE}(hE:xu N tk d e f 0):∀p,p<=N->xu N tk d e (jd f p) p
 | 0,_=>hE
 | p+1,h=>aaT a b c (Si a b c hE p (by omega)) (by omega)
end Go.Proofs.YtobnihfgnbnncaaGreat.P
namespace Go.Proofs.YtobnihfgnbnncaaGreat.P
open Go.RowKit
def Hk:List Tm->(Nat->Rat)->Nat
 | [],_=>0
 | t::l,x=>LF t.2+LF (x t.1)+1+Hk l x
def yE(a b:List Tm)(x:Nat->Rat):Hk (a++b) x=Hk a x+Hk b x:=by
 induction a with
 | nil=>simp[Hk]
 | cons t a c=>grind[Hk]
def afy(T:List Tm)(i:Nat)(x:Nat->Rat):Hk (T.take i) x<=Hk T x:=by
 have:=yE (T.take i) (T.drop i) x;simp_all
def Js{T:List Tm}{i:Nat}{t:Tm}(h:T[i]? = some t)(x:Nat->Rat):dW (T.take (i+1)) x=dW (T.take i) x+t.2*x t.1:=by
 grind[dW,List.getElem?_eq_some_iff,List.take_succ_eq_append_getElem,Ah]
def HJ(a:Rat)(x:Nat->Rat){T:List Tm}:∀i,i<=T.length->LF (a+dW (T.take i) x)<=LF a+Hk (T.take i) x
 | 0,_=>by
  grind[dW,Hk]
 | i+1,h=>by
  have c:=HJ a x (T:=T) i (by omega);have b:T[i]? = some T[i]:=anj (by omega);rw[Js b,<- Rat.add_assoc,apw (by omega),yE];grind[dW,Hk,xF,wv]
def aev:∀{T:List Tm}{a N:Nat},k9 T->(∀t∈T,a<=t.1∧t.1<N)->T.length<=N-a
 | [],_,_,_,_=>by simp
 | t::T,a,N,hs,h=>by
  obtain⟨c,d⟩:=aoq.1 hs;have e:=h t (aoi ..);have:=aev (a:=t.1+1) (N:=N) d fun u b=>⟨c u b,(h u (aoj _ b)).2⟩;grind
def afx{K Q:Nat}{x:Nat->Rat}:∀{T:List Tm}{a N:Nat},k9 T->(∀t∈T,a<=t.1∧t.1<N)->(∀t∈T,LF t.2<=K)->(∀j,a<=j->j<N->LF (x j)<=2 ^ (N-1-j)*Q)->Hk T x+Q<=T.length*(K+1)+2 ^ (N-a)*Q
 | [],a,N,_,_,_,_=>by
  simp_all[Hk,an8,aoD,an5,Nat.le_mul_of_pos_left,Nat.pow_pos]
 | t::T,a,N,hs,h,hk,hx=>by
  obtain⟨e,f⟩:=aoq.1 hs;have d:=h t (aoi ..);have g:=afx (K:=K) (Q:=Q) (x:=x) (T:=T) (a:=t.1+1) (N:=N) f (fun u b=>⟨e u b,(h u (aoj _ b)).2⟩) (fun u b=>hk u (aoj _ b)) fun j m c=>hx j (by omega) c;have i:=hk t (aoi ..);have k:=hx t.1 d.1 d.2;simp only[Hk,List.length_cons];rw[aoz];have l:N-(t.1+1)=N-1-t.1:=by omega
  rw[l]at g;have n:2 ^ (N-t.1)=2 ^ (N-1-t.1)*2:=by rw[<- Nat.pow_succ];congr 1;omega
  have o:2 ^ (N-t.1)*Q<=2 ^ (N-a)*Q:=anM _ (apD (by decide) (by omega));have p:2 ^ (N-t.1)*Q=2 ^ (N-1-t.1)*Q+2 ^ (N-1-t.1)*Q:=by grind
  omega
def OG:∀m:Nat,3*m<=4 ^ m
 | 0=>by decide
 | m+1=>by
  have:=OG m;grind
variable {N:Nat} {tk:List Tk} {r:Nat->Int}
def afm{d:Nat->Rat}{a:Nat}{E:Nat->QE}(h:xu N tk d a E N){x:Nat->Rat}(q:∀k,k<N->x k=1*(E k).D+dW (E k).T x) :
  ∀k,k<N->LF (E k).D+Hk (E k).T x+1<=2 ^ (N-1-k)*(4 ^ N*(a+1))∧LF (x k)<=2 ^ (N-1-k)*(4 ^ N*(a+1)):=by
 have key:∀m k,k+m=N-1->k<N->LF (E k).D+Hk (E k).T x+1<=2 ^ (N-1-k)*(4 ^ N*(a+1))∧LF (x k)<=2 ^ (N-1-k)*(4 ^ N*(a+1)):=by
  intro m
  induction m using Nat.strongRecOn with
  | ind m l =>
   intro k n e;have c:=h.szd k e;have f:=h.up k e;have b:∀t∈(E k).T,k+1<=t.1∧t.1<N:=fun t i=>⟨f t i,c.t.lt t i⟩;have o:=afx (K:=2*Vd a k+2) (Q:=4 ^ N*(a+1)) (x:=x) c.t.sorted b c.t.sz fun j r g=>(l (N-1-j) (by omega) j (by omega) g).2;have s:=aev c.t.sorted b;have u:=c.d;have v:=Xn a k;have w:(N-k)*(2*Vd a k+3)<=4 ^ N*(a+1):=by
    have y:(N-k)*(2*Vd a k+3)<=(N-k)*(3*(4 ^ k*(a+1))):=Nat.mul_le_mul_left _ (by
     omega)
    have z:(N-k)*(3*(4 ^ k*(a+1)))=3*(N-k)*(4 ^ k*(a+1)):=by grind
    have A:3*(N-k)*(4 ^ k*(a+1))<=4 ^ (N-k)*(4 ^ k*(a+1)):=anM _ (OG _);have B:4 ^ (N-k)*(4 ^ k*(a+1))=4 ^ N*(a+1):=by rw[<- Nat.mul_assoc,<- Nat.pow_add];congr 2;omega
    omega
   have C:(E k).T.length*(2*Vd a k+3)<=(N-1-k)*(2*Vd a k+3):=anM _ (by omega);have D:(N-k)*(2*Vd a k+3)=(N-1-k)*(2*Vd a k+3)+(2*Vd a k+3):=by
    rw[<- aoz];congr 1;omega
   have p:N-(k+1)=N-1-k:=by omega
   rw[p]at o;have F:=HJ (E k).D x (T:=(E k).T) (E k).T.length (am6 _);grind
 intro k e;exact key (N-1-k) k (by omega) e
def cu(tk:List Tk)(p:Nat):List Tm:=(tk.filter fun t=>decide (t.2.1=p)).map fun t=>(t.1,t.2.2)
def xf{p:Nat}{u:Tm}:u∈cu tk p↔∃t∈tk,t.2.1=p∧u=(t.1,t.2.2):=by
 unfold cu;simp only[am5,aop,decide_eq_true_eq];grind
def Xw{i:Nat}{t:Tk}(h:tk[i]? = some t)(p:Nat):cu (tk.take (i+1)) p=if t.2.1=p then cu (tk.take i) p++[(t.1,t.2.2)] else cu (tk.take i) p:=by
 grind[cu,List.getElem?_eq_some_iff,List.take_succ_eq_append_getElem]
def Fc(x:Nat->Rat)(p:Nat):∀l:List Tk,dW (cu l p) x=wO l x p
 | []=>rfl
 | t::l=>by
  have a:=Fc x p l;unfold cu at a ⊢;simp only[wO]
  by_cases b:t.2.1=p
  ·simp_all[dW,if_pos,apB,anb]
  grind
def Xl(c:tk.Pairwise Zj)(p:Nat):k9 (cu tk p):=by
 unfold cu;rw[k9,ao3];refine (c.filter _).imp_of_mem fun {a b} d e h =>?_;grind[Zj]
def OF(p:Nat):(cu tk p).length<=tk.length:=by
 unfold cu;grind
def QU(d:Nat->Rat)(tk:List Tk)(p:Nat):QE:=⟨d p,cu tk p⟩
def bR(N:Nat)(x:Nat->Rat):List an:=(List.range N).map fun p=>b9 (x p)
theorem cZ(x:Nat->Rat):(bR N x).length=N:=xn _
theorem fw(x:Nat->Rat){p:Nat}(h:p<N):(bR N x)[p]? = some (b9 (x p)):=dC _ h
abbrev zF:an:=an.mk (aF.mk 0 []) (aF.mk 0 [])
def DG(b:mw N tk)(d:Nat->Rat):eX (qK N tk) (bR N d)=some ((List.range N).map fun p=>mkEq (QU d tk p)):=by
 have r:=b.ports;have q:=b.takes;unfold eX qK;simp only;rw[DS _ (by omega) r,aoo];have s:=fun c e=>oU (body:=jD (bR N d) (List.replicate N (aJ.mk zF []))) (List.range N) (by simp;omega) (fun i (l:List aJ)=>l=(List.range N).map fun p=>aJ.mk (if p<i then b9 (d p) else zF) []) (fun l=>l=(List.range N).map fun p=>mkEq (QU d (tk.take 0) p)) (s0:=List.replicate N (aJ.mk zF []))
  (gZ (by simp) fun j g=>by simp_all) c e
 obtain⟨A,v,rfl⟩:=s (by
  rintro i x _ B rfl;have k:i<N:=by grind
  refine⟨_,?_,rfl⟩;simp only[jD];rw[if_pos (by simp;omega),aS (fw d k),aoo,aS (dC _ k),aoo,ba (by omega),anY,gJ];grind) (by
  rintro _ rfl;refine⟨(List.range N).map fun p=>aJ.mk (if p<(List.range N).length then b9 (d p) else zF) [],?_,?_⟩
  ·grind[jD]
  ·refine gZ (by simp) fun j g =>?_;rw[dC _ g,anA,if_pos g,aoP];rfl)
 rw[v,aoo];have w:=fun c e=>oU (body:=jE (gK.mk (N:Int) (tk.map An))) tk (by omega) (fun i (l:List aJ)=>l=(List.range N).map fun p=>mkEq (QU d (tk.take i) p)) (fun l=>l=(List.range N).map fun p=>mkEq (QU d tk p)) (s0:=(List.range N).map fun p=>mkEq (QU d (tk.take 0) p)) rfl c e;obtain⟨C,D,rfl⟩:=w (by
  rintro i t _ m rfl;have k:=aQ m;have n:=(b.rng t (anv m)).2;have y:(tk.map An)[i]? = some (An t):=by simp_all
  have o:=OF (tk:=tk.take i) t.2.1;rw[ann]at o;refine⟨_,?_,rfl⟩;simp only[jE];have a:me 72 (mkEq (QU d (tk.take i) t.2.1)).ct [gu.mk (An t).dG (An t).gN]=some ((cu (tk.take i) t.2.1++[(t.1,t.2.2)]).map kE):=by
   unfold me mkEq QU;have:(17592186044416:Nat)<=maxLen:=by decide
   rw[if_pos ⟨by simp;omega,by simp;omega⟩,aof];rfl
  have z:(An t).mf=(t.2.1:Int):=rfl;rw[if_pos (by simp;omega),aS y,aoo,z,aS (dC _ n),aoo,a,aoo,ba (by omega),anY,gJ];congr 3;refine congrArg (fun f=>(List.range N).map f) (funext fun p =>?_);unfold QU;rw[Xw m]
  by_cases h:p=t.2.1
  ·subst h;rw[if_pos rfl,if_pos rfl];rfl
  grind) (by
  rintro _ rfl;refine⟨_,?_,rfl⟩;simp_all[jE])
 simp_all
def elim0(e:mw N tk){f:Nat}{d:Nat->Rat}(h:∀p,p<N->LF (d p)<=f)(i:∀t∈tk,LF t.2.2<=f):xu N tk d f (QU d tk) 0 where
 sz k a _:=⟨⟨Xl e.sorted k,fun t b=>by obtain⟨u,c,g,rfl⟩:=xf.1 b;exact (e.rng u c).1,fun t b=>by obtain⟨u,c,g,rfl⟩:=xf.1 b;exact i u c⟩,h k a⟩
 szd k a:=by omega
 up k a:=by omega
 ge k a _ t _:=am7 _
 pos k a t b:=by obtain⟨u,c,g,rfl⟩:=xf.1 b;exact e.pos u c
 sem s x _:=⟨fun k a=>by omega,fun k _ _=>by unfold QU;rw[Fc]⟩
def QV(a:Nat->QE)(N p:Nat):List (Bool×aJ):=(List.range N).map fun k=>(decide (k<p),mkEq (jd a p k))
def BK(E:Nat->QE)(N p:Nat)(L:QE)(k:Nat):List (Bool×aJ):=(List.range N).map fun j=>if j<p then (true,mkEq (E j)) else if j=p then (true,mkEq L) else if j<k then (false,mkEq (Fx (E j) p L)) else (false,mkEq (E j))
def V8{E:Nat->QE}{L:QE}{p K:Nat}(b:N<=2000)(o:p<N)(c:∀k,k<N->p<=k->X6 N K (E k))(d:X6 N (2*K+2) L)(q:10*K+50<=dh) :
  aO (pI (p:Int)) (((p+1:Nat):Int),BK E N p L (p+1))=some (BK E N p L N):=by
 have key:=fun e=>dq (body:=pI (p:Int)) (fun i (s:Int×List (Bool×aJ))=>s=(((p+1+i:Nat):Int),BK E N p L (p+1+i))) (N-(p+1)) (fun l=>l=BK E N p L N) (s:=(((p+1:Nat):Int),BK E N p L (p+1))) rfl (ky (by omega)) e;refine (key ?_).elim fun x ⟨f,hx⟩=>hx ▸ f;rintro i _ r rfl;have a:(BK E N p L (p+1+i)).length=N:=xn _
 by_cases g:p+1+i<N
 ·refine .inl ⟨by omega,_,?_,rfl⟩;simp only[pI];have h:(BK E N p L (p+1+i))[p+1+i]? = some (false,mkEq (E (p+1+i))):=by
   unfold BK;grind
  have j:(BK E N p L (p+1+i))[p]? = some (true,mkEq L):=by
   unfold BK;simp_all
  have m:UX (true,mkEq L)=some (mkEq L):=rfl;have n:Uj (false,mkEq (E (p+1+i)))=some (mkEq (E (p+1+i))):=rfl;rw[if_pos (by grind),aS h,aoo,aS j,aoo,m,aoo,n,aoo,akJ (c _ g (by omega)) d b (by omega),aoo,ba (by omega),anY];refine congrArg some (congrArg Sum.inl (Prod.ext (by simp only;omega) ?_));simp only;unfold BK;rw[gJ];grind
 grind[BK,pI]
def aaS{a:Nat->QE}{n:Nat}{d:Nat->Rat}(o:N<=2000)(r:∀p,p<=N->xu N tk d n (jd a p) p)(q:∀p,p<N->∀c,gC (jd a p p).T p=some c->c<1)(t:∀p,p<N->10*Vd n p+50<=dh){f:List aJ}(D:f.length=N) :
  aO (mQ f) ((0:Int),QV a N 0)=some (QV a N N):=by
 have key:=fun u=>dq (body:=mQ f) (fun i (s:Int×List (Bool×aJ))=>s=((i:Int),QV a N i)) N (fun l=>l=QV a N N) (s:=((0:Int),QV a N 0)) rfl (ky (by omega)) u;refine (key ?_).elim fun x ⟨v,hx⟩=>hx ▸ v;rintro p _ E rfl
 by_cases e:p<N
 ·refine .inl ⟨e,_,?_,rfl⟩;have hEp:=r p (by omega);have b:∀c,gC (jd a p p).T p=some c->1-c≠0:=fun c h=>by grind
  have g:=hEp.sz p e (am6 _);have j:=t p e;have w:=Nz g p b;simp only[mQ];have y:(QV a N p)[p]? = some (false,mkEq (jd a p p)):=by
   unfold QV;simp_all
  have z:Uj (false,mkEq (jd a p p))=some (mkEq (jd a p p)):=rfl;have A:(QV a N p).set p (true,mkEq (kR (jd a p p) p))=BK (jd a p) N p (kR (jd a p p) p) (p+1):=by
   unfold QV BK;rw[gJ];grind
  have B:BK (jd a p) N p (kR (jd a p p) p) N=QV a N (p+1):=by
   unfold QV BK;grind[jd,List.map_congr_left,Nat.lt_trichotomy]
  rw[if_pos (by simp;omega),aS y,aoo,z,aoo,agQ g.t g.d o (by omega) b,aoo,ba (by omega),anY,A,V8 o e (fun k C m=>hEp.sz k C m) w j,aoo,B]
 ·have:p=N:=by omega
  subst this;refine .inr ⟨_,?_,rfl⟩;grind[mQ]
def Ft(x:Nat->Rat)(N i:Nat):List an:=(List.range N).map fun j=>if N<=j+i then b9 (x j) else zF
def VL{b:Nat->QE}{h:Nat}{d x:Nat->Rat}(hN:N<=2000)(m:xu N tk d h (jd b N) N)(hx:∀k,k<N->x k=1*(jd b N k).D+dW (jd b N k).T x)(B:2*(2 ^ N*(4 ^ N*(h+1)))+100<=dh) :
  aO (mR (QV b N N)) ((N:Int)-1,Ft x N 0)=some (bR N x):=by
 have n:=afm m hx;have key:=fun n=>dq (body:=mR (QV b N N)) (fun i (s:Int×List an)=>s=((N:Int)-1-i,Ft x N i)) N (fun l=>l=bR N x) (s:=((N:Int)-1,Ft x N 0)) (by simp) (ky (by omega)) n;refine (key ?_).elim fun x ⟨C,hx⟩=>hx ▸ C;rintro i _ hi rfl
 by_cases D:i<N
 ·refine .inl ⟨D,_,?_,rfl⟩;obtain⟨p,hp⟩:∃p,p+i+1=N:=⟨N-1-i,by omega⟩;have a:p<N:=by omega
  have E:(N:Int)-1-(i:Int)=(p:Int):=by omega
  obtain⟨F,G⟩:=n p a;have y:=m.szd p a;have o:=m.up p a;have H:2 ^ (N-1-p)*(4 ^ N*(h+1))<=2 ^ N*(4 ^ N*(h+1)):=anM _ (apD (by decide) (by omega));have I:=hx p a;generalize J:jd b N p=e at *;simp only[mR];have K:(QV b N N)[p]? = some (true,mkEq e):=by
   unfold QV;simp_all
  have L:UX (true,mkEq e)=some (mkEq e):=rfl;have M:(mkEq e).bG=b9 e.D:=rfl;have O:(mkEq e).ct=e.T.map kE:=rfl;have hn:=acx;rw[E,if_pos (by simp),aS K,aoo,L,aoo,aiX,aoo,M,Fv (by omega),aoo];have P:e.D+0*0=e.D:=by grind
  rw[P];have Q:=y.t.len;have R:=fun q c=>oU (body:=sQ (Ft x N i) (mkEq e)) e.T (by omega) (fun j (s:Int×List Int×Int×List Int)=>s=((b9 (e.D+dW (e.T.take j) x)).bF.al,(b9 (e.D+dW (e.T.take j) x)).bF.aa,(b9 (e.D+dW (e.T.take j) x)).bJ.al,(b9 (e.D+dW (e.T.take j) x)).bJ.aa))
   (fun s=>s=((b9 (x p)).bF.al,(b9 (x p)).bF.aa,(b9 (x p)).bJ.al,(b9 (x p)).bJ.aa)) (s0:=((b9 e.D).bF.al,(b9 e.D).bF.aa,(b9 e.D).bJ.al,(b9 e.D).bJ.aa)) (by simp_all[dW]) q c
  obtain⟨r7,S,rfl⟩:=R (by
   rintro j t _ r rfl;have U:=aQ r;have g:=anv r;have u:=y.t.lt t g;have V:=o t g;have W:(e.T.map kE)[j]? = some (kE t):=by simp_all
   have v:(Ft x N i)[t.1]? = some (b9 (x t.1)):=by
    unfold Ft;rw[dC _ u,if_pos (by omega)]
   have X:=HJ e.D x (T:=e.T) j (by omega);have z:=afy e.T j x;have A:LF t.2+LF (x t.1)+1<=Hk e.T x:=by
    have:=yE (e.T.take j) (e.T.drop j) x;rw[aoC,aoO U]at this;grind[Hk]
   refine⟨_,?_,rfl⟩;simp only[sQ];have Y:(kE t).iU=b9 t.2:=rfl;have Z:(kE t).oS=(t.1:Int):=rfl;have e7:an.mk (aF.mk (b9 (e.D+dW (e.T.take j) x)).bF.al (b9 (e.D+dW (e.T.take j) x)).bF.aa) (aF.mk (b9 (e.D+dW (e.T.take j) x)).bJ.al (b9 (e.D+dW (e.T.take j) x)).bJ.aa)=b9 (e.D+dW (e.T.take j) x):=rfl;rw[if_pos (by simp_all),O,aS W,aoo,Z,aS v,aoo,Y,e7,Fv (by omega),aoo,ba (by omega),Js r,<- Rat.add_assoc]) (by
   rintro _ rfl;grind[b9,dW,sQ])
  rw[S,aoo];have w:(Ft x N i)[p]? = some zF:=by
   unfold Ft;grind
  simp only;rw[aS w,aoo,anY];have hw:IntKind.i64.wrap ((p:Int)-1)=(N:Int)-1-((i+1:Nat):Int):=by grind[wrap64]
  rw[hw];refine congrArg some (congrArg Sum.inl (congrArg (Prod.mk _) ?_));show (Ft x N i).set p (b9 (x p))=Ft x N (i+1);unfold Ft;rw[gJ];refine congrArg (fun f=>(List.range N).map f) (funext fun j =>?_);grind
 ·have:i=N:=by omega
  subst this;refine .inr ⟨_,?_,rfl⟩;simp only[mR];rw[if_neg (by simp;omega)];grind[Ft,bR]
end Go.Proofs.YtobnihfgnbnncaaGreat.P
namespace Go.Proofs.YtobnihfgnbnncaaGreat.P
open Go.RowKit
def Cd{l:List an}(n:Int)(g:l.length<=17592186044416)(d:∀f∈l,aat f):ji l n=some (decide ((l.length:Int)=n)&&l.all okF):=by
 unfold ji
 by_cases c:(l.length:Int)=n
 rotate_left
 ·simp_all
 rw[if_pos (by simpa using c),decide_eq_true c,aoU];unfold cX du;rw[oA l (fun i x=>if okF x=true then none else some (i:Int)) (by omega) (fun i x a =>?_) (by simp only[dV];simp_all)]
 ·rw[aoo];cases b:eU (fun i x=>if okF x=true then none else some (i:Int)) 0 l with
  | none =>
   simp only;rw[aoo,decide_eq_false (by decide),aoo];have:l.all okF=true:=anh.2 fun x a=>by
    obtain⟨j,e⟩:=anq a;have:=cT.1 b j x e;simp_all
   rw[this];rfl
  | some r =>
   obtain⟨j,x,h,k,_⟩:=dj b;grind
 ·have m:=aQ a;simp only[dV,lO];rw[if_pos (by simp;omega),aS a,aoo,zo (d x (anv a)),aoo,aoo];cases okF x with
  | true=>rw[ba (by omega)];rfl
  | false=>rfl
def aeA{l:List an}{N:Nat}(a:l.length=N)(h:l.all okF=true):∃d:Nat->Rat,l=bR N d:=by
 obtain⟨qs,b,_⟩:=CG (mk:=b9) (R:=fun _=>True) (l:=l) fun x c=>by
  obtain⟨q,b⟩:=sg.1 (anh.1 h x c);grind
 refine⟨fun p=>qs.getD p 0,?_⟩;subst b;rw[anz]at a;refine gZ (by simpa using a) fun j e =>?_;simp_all
def Fe(N:Nat)(d:Nat->Rat):(bR N d).all okF=true:=anh.2 fun x a=>by
 unfold bR at a;obtain⟨p,_,rfl⟩:=am5.1 a;exact Fk _
def abl{N M:Nat}{d e:Nat->Rat}(h:bR N d=bR M e):N=M∧∀p,p<N->d p=e p:=by
 have a:=congrArg List.length h;rw[cZ,cZ]at a;subst a;refine⟨rfl,fun p b =>?_⟩;have c:=fw (N:=N) d b;rw[h,fw e b]at c;exact (vR (ao0 c)).symm
def vO{N:Nat}{d e:Nat->Rat}(h:∀p,p<N->d p=e p):bR N d=bR N e:=aom fun p a=>by simp_all
def aez{N K:Nat}{d:Nat->Rat}(h:∀f∈bR N d,f.bF.aa.length<=K∧f.bJ.aa.length<=K):∀p,p<N->LF (d p)<=K:=fun p a=>by
 have:=h _ (anv (fw d a));exact tr this.1 this.2
def Ff{N K:Nat}{d:Nat->Rat}(h:∀p,p<N->LF (d p)<=K):∀f∈bR N d,f.bF.aa.length<=K∧f.bJ.aa.length<=K:=fun f a=>by
 unfold bR at a;obtain⟨p,b,rfl⟩:=am5.1 a;exact Dm (h p (aos.1 b))
def VG(n:gK)(l:List an):Prop:=∃N tk d,n=qK N tk∧mw N tk∧l=bR N d
abbrev SzN(n:gK)(K:Nat):Prop:=∀t∈n.bf,t.gN.bF.aa.length<=K∧t.gN.bJ.aa.length<=K
abbrev SzL(l:List an)(K:Nat):Prop:=∀f∈l,f.bF.aa.length<=K∧f.bJ.aa.length<=K
def acI{N K:Nat}{tk:List Tk}(h:∀t∈tk,LF t.2.2<=K):SzN (qK N tk) K:=fun t a=>by
 simp only[qK,am5]at a;obtain⟨u,b,rfl⟩:=a;exact Dm (h u b)
def ai5{N K:Nat}{tk:List Tk}(h:SzN (qK N tk) K):∀t∈tk,LF t.2.2<=K:=fun t a=>by
 have:=h (An t) (by simp only[qK];grind);exact tr this.1 this.2
def afL{N:Nat}{tk:List Tk}{r:Nat->Int}(b:uk N tk r)(h:qB N r=[]):∀p,p<N->0<=r p:=by
 intro p a;have c:=b.ge p a;have d:r p ≠ -1:=fun e=>by
  have:p∈qB N r:=aop.2 ⟨aos.2 a,by simpa using e⟩;simp_all
 omega
def acC{n:gK}{l:List an}{K M:Nat}(C:K <= 1000000)(O:SzN n K)(D:SzL l K)(i:l.length <= 17592186044416)(Y:n.aC <= (M:Int) ∨ 2000 < n.aC)(hS:2 * (2 ^ M * (4 ^ M * (K + 1))) + 100 <= dh) :
    (¬ VG n l ∧ lN n l = some ([], 1)) ∨
    ∃ N tk d r, n = qK N tk ∧ mw N tk ∧ l = bR N d ∧ N <= M ∧ (∀ t ∈ tk, LF t.2.2 <= K) ∧ (∀ p, p < N -> LF (d p) <= K) ∧ kS n = some ((List.range N).map r) ∧ uk N tk r ∧
      ((qB N r ≠ [] ∧ lN n l = some ([], 24)) ∨
       (qB N r = [] ∧ ∃ x, aga N tk d x ∧ lN n l = some (bR N x, 0) ∧ ∀ p, p < N -> LF (x p) <= 2 ^ (N - 1 - p) * (4 ^ N * (K + 1)))):=by
  have k:K <= ll:=am8 C (by unfold ll; omega);obtain ⟨b, m, o⟩:=FA C O;have s:=Cd n.aC i fun f P => ⟨am8 (D f P).1 k, am8 (D f P).2 k⟩;have Q:¬ VG n l -> lN n l = some ([], 1):=by
    intro E;unfold lN;rw [m, aoo, s, aoo];cases b with
    | false => simp
    | true =>
      obtain ⟨N, tk, rfl, c⟩:=o.1 rfl;have:(decide ((l.length:Int) = (qK N tk).aC) && l.all okF) = false:=by
        by_cases R:(l.length:Int) = (qK N tk).aC
        · cases S:l.all okF with
          | false => rw [Bool.and_false]
          | true =>
            have T:l.length = N:=by simp only [qK] at R; omega
            obtain ⟨d, A⟩:=aeA T S;exact absurd ⟨N, tk, d, rfl, c, A⟩ E
        simp_all
      rw [this]; simp
  by_cases E:VG n l
  rotate_left
  · simp_all
  obtain ⟨N, tk, d, rfl, c, rfl⟩:=E;obtain rfl:b = true:=o.2 ⟨N, tk, rfl, c⟩;have B:=c.ports;have g:N <= M:=by simp only [qK] at Y; omega
  have F:=ai5 O;have A:=aez D;obtain ⟨r, u, e⟩:=ae7 c C F;have G:=XB B u;refine .inr ⟨N, tk, d, r, rfl, c, rfl, g, F, A, u, e, ?_⟩;have v:∀(q:List Int), mF (qK N tk) = some q -> lN (qK N tk) (bR N d) = if decide ((q.length:Int) > 0) = true then some ([], 24) else
      (eX (qK N tk) (bR N d)).bind fun U =>
      (aO (mQ U) (0, (Nh U))).bind fun a =>
      (Ha 64 (qK N tk).aC (qK N tk).aC (an.mk (aF.mk 0 ([])) (aF.mk 0 ([])))).bind fun H =>
      (aO (mR a) (IntKind.i64.wrap (((a).length:Int) - 1), H)).bind fun w =>
      some (w, 0):=by
    intro q Z;unfold lN;rw [m, aoo, s, aoo, Z];rw [decide_eq_true (show ((bR N d).length:Int) = (qK N tk).aC by rw [cZ]; rfl), Fe];simp_all
  rw [v _ G]
  by_cases y:qB N r = []
  rotate_left
  · refine .inl ⟨y, ?_⟩
    have:0 < (qB N r).length:=aoH.2 y;rw [if_pos (by rw [sH]; simp; omega)]
  refine .inr ⟨y, ?_⟩;have V:=afL e y;rw [if_neg (by rw [sH, y]; simp)];have h:=Si c e V (elim0 c A F);have W:2 ^ N * (4 ^ N * (K + 1)) <= 2 ^ M * (4 ^ M * (K + 1)):=apx (apD (by decide) g) (anM _ (apD (by decide) g));obtain ⟨x, _, I, _⟩:=HX (jd (QU d tk) N) 1 N (h N (am6 _)).up (fun _ => 0);have X:=((h N (am6 _)).sem 1 x I).1;have J:=afm (h N (am6 _)) I;refine ⟨x, fun p z => by simp_all, ?_, fun p z => (J p z).2⟩;rw [DG c, aoo];have e1:Nh ((List.range N).map fun p => mkEq (QU d tk p)) = QV (QU d tk) N 0:=by
    unfold Nh QV;rw [List.map_map];exact aom fun p _ => by simp [jd]
  have L:∀ p, p < N -> 10 * Vd K p + 50 <= dh:=fun p z => by
    have R:=Xn K p;have S:4 ^ p * (K + 1) * 4 <= 4 ^ N * (K + 1):=by
      rw [Nat.mul_right_comm, <- Nat.pow_succ];exact anM _ (apD (by decide) (by omega))
    have T:2 * (4 ^ N * (K + 1)) <= 2 ^ N * (4 ^ N * (K + 1)):=anM _ (by
      have:2 ^ 1 <= 2 ^ N:=apD (by decide) (by omega);omega)
    omega
  rw [e1, aaS B h (fun p z => N3 c e V (h p (by omega)) z) L (by simp), aoo];have e2:(qK N tk).aC = (N:Int):=rfl;have e3:(QV (QU d tk) N N).length = N:=xn _;have e4:List.replicate N zF = Ft x N 0:=by
    refine gZ (by simp) fun j hj => ?_;grind
  rw [e2, DS _ (by omega) B, aoo, e3, wrap64 (by omega) (by omega), e4, VL B (h N (am6 _)) I (by omega), aoo]
def YT(a:Rat)(x:Nat->Rat)(tk:List Tk)(p:Nat):a+dW (cu tk p) x=a+wO tk x p:=by rw[Fc]
def acm{N K:Nat}{tk:List Tk}{d x:Nat->Rat}(c:mw N tk)(O:K<=1000000)(S:∀t∈tk,LF t.2.2<=K)(U:∀p,p<N->LF (d p)<=K)(V:∀p,p<N->LF (x p)<=dh)(v:∀p,p<N->LF (d p)+Hk (cu tk p) x+LF (x p)+10<=dh) :
  ∃b,mN (qK N tk) (bR N d) (bR N x)=some b∧(b=true↔aga N tk d x):=by
 have hN:=c.ports;have e:K<=ll:=am8 O (by unfold ll;omega);obtain⟨b,w,z⟩:=FA (n:=qK N tk) O (acI S);obtain rfl:b=true:=z.2 ⟨N,tk,rfl,c⟩;have g:=Cd (l:=bR N d) (qK N tk).aC (by rw[cZ];omega) fun f A=>by
  have:=Ff U f A;exact⟨am8 this.1 e,am8 this.2 e⟩
 have h:=Cd (l:=bR N x) (qK N tk).aC (by rw[cZ];omega) fun f A=>by
  have:=Ff V f A;exact⟨am8 this.1 (by decide),am8 this.2 (by decide)⟩
 have W:(qK N tk).aC=(N:Int):=rfl;unfold mN;rw[w,aoo,g,aoo,h,aoo,cZ,cZ,Fe,Fe,W];simp only[aor,anD,if_false,Bool.and_self,decide_true,Option.bind_some];rw[DG c,aoo];have a:=oA (List.range N) (body:=mO (bR N x) ((List.range N).map fun p=>mkEq (QU d tk p))) (fun i _=>if d i+wO tk x i=x i then none else some false) (by simp;omega) (fun i p P=>by
  have B:i<N:=by grind
  simp only[mO];have X:(mkEq (QU d tk i)).ct=(cu tk i).map kE:=rfl;have Y:(mkEq (QU d tk i)).bG=b9 (d i):=rfl;have Z:=v i B;have aa:=OF (tk:=tk) i;have Q:=c.takes;have k4:=fun C k=>oU (body:=mP (bR N x) (mkEq (QU d tk i))) (cu tk i) (by omega) (fun j (s:Int×List Int×Int×List Int)=>s=((b9 (d i+dW ((cu tk i).take j) x)).bF.al,(b9 (d i+dW ((cu tk i).take j) x)).bF.aa,(b9 (d i+dW ((cu tk i).take j) x)).bJ.al,(b9 (d i+dW ((cu tk i).take j) x)).bJ.aa))
   (fun s=>s=((b9 (d i+wO tk x i)).bF.al,(b9 (d i+wO tk x i)).bF.aa,(b9 (d i+wO tk x i)).bJ.al,(b9 (d i+wO tk x i)).bJ.aa)) (s0:=((b9 (d i)).bF.al,(b9 (d i)).bF.aa,(b9 (d i)).bJ.al,(b9 (d i)).bJ.aa)) (by rw[aoP,dW,Rat.add_zero]) C k
  obtain⟨r4,h4,rfl⟩:=k4 (by
   rintro j t _ D rfl;have E:=aQ D;have F:=anv D;obtain⟨u,G,ab,H⟩:=xf.1 F;have I:t.1<N:=by rw[H];exact (c.rng u G).1
   have hg:((cu tk i).map kE)[j]? = some (kE t):=by simp_all
   have ad:=HJ (d i) x (T:=cu tk i) j (by omega);have R:Hk ((cu tk i).take j) x+(LF t.2+LF (x t.1)+1)<=Hk (cu tk i) x:=by
    have:=yE ((cu tk i).take j) ((cu tk i).drop j) x;rw[aoC,aoO E]at this;simp only[Hk]at this;grind
   refine⟨_,?_,rfl⟩;simp only[mP];have e5:(kE t).iU=b9 t.2:=rfl;have e6:(kE t).oS=(t.1:Int):=rfl;have J:an.mk (aF.mk (b9 (d i+dW ((cu tk i).take j) x)).bF.al (b9 (d i+dW ((cu tk i).take j) x)).bF.aa) (aF.mk (b9 (d i+dW ((cu tk i).take j) x)).bJ.al (b9 (d i+dW ((cu tk i).take j) x)).bJ.aa)=b9 (d i+dW ((cu tk i).take j) x):=rfl;rw[if_pos (by simp_all),X,aS hg,aoo,e6,aS (fw x I),aoo,e5,J,Fv (by omega),aoo,ba (by omega),Js D,<- Rat.add_assoc]) (by
   rintro _ rfl;refine⟨((b9 (d i+dW ((cu tk i).take (cu tk i).length) x)).bF.al,(b9 (d i+dW ((cu tk i).take (cu tk i).length) x)).bF.aa,(b9 (d i+dW ((cu tk i).take (cu tk i).length) x)).bJ.al,(b9 (d i+dW ((cu tk i).take (cu tk i).length) x)).bJ.aa),?_,?_⟩
   ·simp only[mP];simp_all
   ·rw[aoY,YT])
  have L:=HJ (d i) x (T:=cu tk i) (cu tk i).length (am6 _);rw[aoY,YT]at L;rw[if_pos (by simp;omega),aS (dC _ B),aoo,Y,h4,aoo];simp only;rw[aS (fw x B),aoo];have J:an.mk (aF.mk (b9 (d i+wO tk x i)).bF.al (b9 (d i+wO tk x i)).bF.aa) (aF.mk (b9 (d i+wO tk x i)).bJ.al (b9 (d i+wO tk x i)).bJ.aa)=b9 (d i+wO tk x i):=rfl;rw[J,LY (by omega),aoo]
  by_cases he:d i+wO tk x i=x i
  ·have:Lf (d i+wO tk x i) (x i)=0:=by unfold Lf;simp_all
   rw[this,if_pos he,ba (by omega)];rfl
  ·have:Lf (d i+wO tk x i) (x i)≠0:=by unfold Lf;grind
   simp_all) (by
  simp only[mO];simp_all)
 rw[a,aoo];cases m:eU (fun i _=>if d i+wO tk x i=x i then none else some false) 0 (List.range N) with
 | none =>
  refine⟨true,rfl,?_⟩;simp only[true_iff];intro p P;have:=cT.1 m p p (by simp[P]);simp_all
 | some r =>
  obtain⟨j,y,h1,q,_⟩:=dj m;simp only[an5]at q;split at q
  ·cases q
  ·rename_i M;cases q;refine⟨false,rfl,?_⟩;simp only[anD,false_iff];intro o;have E:j<N:=by grind
   exact M (o j E).symm
set_option maxRecDepth 100000
def SzL.mono{l:List an}{K a:Nat}(h:SzL l K)(b:K<=a):SzL l a:=fun f c=>⟨am8 (h f c).1 b,am8 (h f c).2 b⟩
def SzN.mono{n:gK}{K a:Nat}(h:SzN n K)(b:K<=a):SzN n a:=fun f c=>⟨am8 (h f c).1 b,am8 (h f c).2 b⟩
def akm:yt 0=some (b9 0):=ame (n:=0) (by decide)
section
variable {N:Nat} {tk:List Tk} {r:Nat->Int}
end
def rL:List Rat->Rat
 | []=>0
 | q::l=>q+rL l
theorem Vc(a b:List Rat):rL (a++b)=rL a+rL b:=by
 induction a with
 | nil=>rw[aoy,rL,Rat.zero_add]
 | cons q a c=>grind[rL]
def XY{K:Nat}{l:List Rat}(h:∀q∈l,LF q<=K):LF (rL l)<=1+l.length*(K+1):=by
 induction l with
 | nil=>simp only[rL];exact am8 (Cb (n:=0) (by decide)) (by omega)
 | cons q l a =>
  have c:=h q (aoi ..);have d:=a fun x b=>h x (aoj _ b);have e:=xF q (rL l);simp only[rL,List.length_cons];grind
def aaF{a b:Rat}:Lf a b=0↔a=b:=by
 unfold Lf;grind
def El(l:List an):Prop:=∃a:List Rat,l=a.map b9∧(∀q∈a,0<=q)∧rL a=1
def ahO{a b:Rat}(h:LF a+LF b+1<=dh):tI (b9 a) (b9 b)=some (b9 (a+b)):=by
 unfold tI;rw[XS h];rfl
def afV{l:List an}(y:l.length<=100)(z:∀f∈l,f.bF.aa.length<=6∧f.bJ.aa.length<=6):∃b,tX l=some b∧(b=true↔El l):=by
 have A:dh=4398046511104:=rfl;have d:iy 0=some (b9 0):=acu (n:=0) (by decide);unfold tX;rw[d,aoo];obtain⟨q,m,v⟩:=dq (body:=tJ l)
  (fun i B=>∃a:List Rat,l.take i=a.map b9∧(∀q∈a,0<=q∧LF q<=6)∧B=((i:Int),(b9 (rL a)).bF.al,(b9 (rL a)).bF.aa,(b9 (rL a)).bJ.al,(b9 (rL a)).bJ.aa)) l.length
  (fun q=>(q=.inr false∧¬El l)∨∃a:List Rat,l=a.map b9∧(∀q∈a,0<=q∧LF q<=6)∧q=.inl ((b9 (rL a)).bF.al,(b9 (rL a)).bF.aa,(b9 (rL a)).bJ.al,(b9 (rL a)).bJ.aa))
  (s:=(0,(b9 0).bF.al,(b9 0).bF.aa,(b9 0).bJ.al,(b9 0).bJ.aa)) ⟨[],rfl,fun q g=>by simp at g,rfl⟩ (ky (by omega)) (by
   rintro i _ J ⟨a,C,g,rfl⟩;simp only[tJ];have D:a.length=i:=by
    have:=congrArg List.length C;grind
   by_cases c:i<l.length
   ·have w:l[i]? = some l[i]:=anj c;have o:=z _ (ani c);have p:l.take (i+1)=l.take i++[l[i]]:=apw c;have j:l[i]∈l:=ani c;generalize l[i]=f at w o p j;rw[if_pos (by simpa using c),aS w,aoo,zo ⟨by unfold ll;omega,by unfold ll;omega⟩,aoo];cases r:okF f with
    | false =>
     right;refine⟨_,rfl,.inl ⟨rfl,?_⟩⟩;rintro⟨k,m,_,_⟩;grind[Fk]
    | true =>
     obtain⟨q,rfl⟩:=sg.1 r;have E:LF q<=6:=tr o.1 o.2;simp only[aor,anD,if_false];rw[Cc (by omega),aoo]
     by_cases hneg:q<0
     ·right;refine⟨_,by rw[if_pos (decide_eq_true (wh.2 hneg))],.inl ⟨rfl,?_⟩⟩;rintro⟨k,m,v,_⟩;grind[vR]
     ·left;refine⟨c,?_⟩;have t:=XY (K:=6) (l:=a) fun x u=>(g x u).2;have F:tI (b9 (rL a)) (b9 q)=some (b9 (rL a+q)):=ahO (by omega);rw[if_neg (by rw[decide_eq_true_eq];exact fun h=>hneg (wh.1 h)),ba (by omega)];refine⟨_,by erw [F];rfl,a++[q],?_,?_,?_⟩
      ·simp_all
      ·grind
      grind[rL,Vc]
   grind)
 erw [m];rw[aoo];rcases v with⟨rfl,G⟩|⟨a,rfl,g,rfl⟩
 ·simp_all
 ·have e:iy 1=some (b9 1):=agJ;simp only[anz]at y;have t:=XY (K:=6) (l:=a) fun x u=>(g x u).2;have H:LF (1:Rat)<=1:=Cb (n:=1) (by decide);have I:j9 (b9 (rL a)) (b9 1)=some (Lf (rL a) 1):=LY (by omega);simp only;rw[e,aoo];refine⟨_,by erw [I];rfl,?_⟩;rw[beq_iff_eq,aaF];constructor
  ·intro h;exact⟨a,rfl,fun q h=>(g q h).1,h⟩
  ·rintro⟨k,L,_,h⟩;grind[List.map_inj_right,vR]
def Eo(f:eL)(i:Nat):List an:=f.aM.map fun l=>(l[i]?).getD (an.mk (aF.mk 0 ([])) (aF.mk 0 ([])))
structure HH(f:eL):Prop where
 srcs:f.aw.length<=100
 outs:f.aN.length<=100
 rows:f.aM.length=f.aN.length
 out:∀x∈f.aN,0<=x.bj∧x.bj<=3∧0<=x.aY
 row:∀l∈f.aM,l.length=f.aw.length
 src:∀x∈f.aw,0<=x.bj∧x.bj<=2∧0<=x.aY
 col:∀i,i<f.aw.length->El (Eo f i)
structure s9(f:eL):Prop where
 srcs:f.aw.length<=5
 outs:f.aN.length<=5
 rows:f.aM.length<=8
 row:∀l∈f.aM,l.length<=8∧∀x∈l,x.bF.aa.length<=4∧x.bJ.aa.length<=4
def adi{f:eL}{i:Nat}(r:i<f.aw.length)(s:f.aM.length=f.aN.length)(a:∀l∈f.aM,l.length=f.aw.length)(t:f.aN.length<=100) :
  ∃c:List an,aO (jm f (i:Int)) ((0:Int),List.replicate f.aN.length (an.mk (aF.mk 0 ([])) (aF.mk 0 ([]))))=some c∧f.aM.map (fun l=>l[i]?)=c.map some:=by
 have key:=fun e b=>oU (body:=jm f (i:Int)) f.aN (by omega)
  (fun k (c:List an)=>c.length=f.aN.length∧∀j,j<k->(f.aM.map (fun l=>l[i]?))[j]? = some c[j]?) (fun c=>f.aM.map (fun l=>l[i]?)=c.map some) (s0:=List.replicate f.aN.length (an.mk (aF.mk 0 ([])) (aF.mk 0 ([]))))
  ⟨by simp,fun j u=>by omega⟩ e b
 refine (key ?_ ?_)
 ·rintro k x c n ⟨d,o⟩;have p:=aQ n;have g:f.aM[k]? = some (f.aM[k]'(by omega)):=anj _;have q:=a _ (anv g);generalize f.aM[k]'(by omega)=l at g q;have h:l[i]? = some (l[i]'(by omega)):=anj _;have m:c[k]? = some (c[k]'(by omega)):=anj _;refine⟨c.set k (l[i]'(by omega)),?_,?_,?_⟩;rotate_left
  ·simpa using d
  ·grind
  ·simp only[jm];rw[if_pos (by simpa using p),aS g,aoo,aS h,aoo,aS m,aoo,anY,ba (by omega)]
 ·rintro c ⟨d,o⟩;refine⟨_,by simp only[jm];rw[if_neg (by simp)],?_⟩;apply aoZ;grind
def aiJ{f:eL}{i:Nat}{c:List an}(h:f.aM.map (fun l=>l[i]?)=c.map some):c=Eo f i:=by
 have:=congrArg (List.map fun x:Option an=>x.getD (an.mk (aF.mk 0 ([])) (aF.mk 0 ([])))) h;rw[List.map_map,List.map_map]at this;have a:c.map ((fun x:Option an=>x.getD (an.mk (aF.mk 0 ([])) (aF.mk 0 ([])))) ∘ some)=c:=by
  rw[show ((fun x:Option an=>x.getD (an.mk (aF.mk 0 ([])) (aF.mk 0 ([])))) ∘ some)=id from rfl,List.map_id]
 rw[a]at this;exact this.symm
def Qe{f:eL}(t:s9 f):∃b,lW f=some b∧(b=true↔HH f):=by
 open Classical in
 have D:=t.srcs;have E:=t.outs;unfold lW;rw[if_neg (by simp;omega),if_neg (by simp;omega),aoo]
 by_cases hr:f.aM.length=f.aN.length
 rotate_left
 ·rw[if_pos (by grind)];exact⟨false,rfl,by simp only[anD,false_iff];exact fun h=>hr h.rows⟩
 rw[if_neg (by simp[hr])];rw[oA f.aN (fun i x=>if (0<=x.bj∧x.bj<=3)∧0<=x.aY∧(f.aM.getD i []).length=f.aw.length then none else some false) (by omega) (fun i x k =>?_) (by grind[nC])];rotate_left
 ·have s:=aQ k;have u:f.aM[i]? = some (f.aM.getD i []):=by simp_all
  simp only[nC];rw[if_pos (by simpa using s),aS k,aoo,nM,aoo,ba (by omega)]
  by_cases e:0<=x.bj∧x.bj<=3
  ·rw[decide_eq_true e,if_neg (by simp)]
   by_cases a:x.aY<0
   ·grind
   ·rw[if_neg (by simpa using a),aS u,aoo];grind
  grind
 rw[aoo];cases v:eU (fun (i:Nat) (x:um)=>if (0<=x.bj∧x.bj<=3)∧0<=x.aY∧(f.aM.getD i []).length=f.aw.length then none else some false) 0 f.aN with
 | some q =>
  obtain⟨j,x,e,a,_⟩:=dj v;rw[an5]at a;have n:=aQ e;split at a
  ·cases a
  ·rename_i d;cases a;refine⟨false,rfl,?_⟩;simp only[anD,false_iff];intro o;have m:=o.out x (anv e);have u:f.aM[j]? = some (f.aM.getD j []):=by simp_all
   exact d ⟨⟨m.1,m.2.1⟩,m.2.2,o.row _ (anv u)⟩
 | none =>
  have p:∀(j:Nat) x,f.aN[j]? = some x->(0<=x.bj∧x.bj<=3)∧0<=x.aY∧(f.aM.getD j []).length=f.aw.length:=fun j x h=>by
   grind[cT]
  have g:∀l∈f.aM,l.length=f.aw.length:=fun l w=>by
   obtain⟨j,n,rfl⟩:=ao5 w;have h:=(p j _ (anj (by omega))).2.2;grind
  simp only;rw[oA f.aw (fun i x=>if (0<=x.bj∧x.bj<=2)∧0<=x.aY∧El (Eo f i) then none else some false) (by omega) (fun i x k =>?_) (by grind[nD])];rotate_left
  ·have s:=aQ k;obtain⟨c,B,C⟩:=adi s hr g (by omega);obtain rfl:=aiJ C;obtain⟨b,F,G⟩:=afV (l:=Eo f i) (by unfold Eo;grind) (fun y A=>by
    unfold Eo at A;obtain⟨l,w,rfl⟩:=am5.1 A;have e:=(t.row l w).2;grind)
   simp only[nD];rw[if_pos (by simpa using s),aS k,aoo,DS _ (by omega) (by omega),aoo,B,aoo,nM,aoo,ba (by omega)];grind
  rw[aoo];cases z:eU (fun (i:Nat) (x:ie)=>if (0<=x.bj∧x.bj<=2)∧0<=x.aY∧El (Eo f i) then none else some false) 0 f.aw with
  | some q =>
   obtain⟨j,x,e,a,_⟩:=dj z;rw[an5]at a;have n:=aQ e;split at a
   ·cases a
   ·rename_i d;cases a;refine⟨false,rfl,?_⟩;simp only[anD,false_iff];intro o;have m:=o.src x (anv e);exact d ⟨⟨m.1,m.2.1⟩,m.2.2,o.col j n⟩
  | none =>
   have r:∀(j:Nat) x,f.aw[j]? = some x->(0<=x.bj∧x.bj<=2)∧0<=x.aY∧El (Eo f j):=fun j x h=>by
    grind[cT]
   refine⟨true,rfl,?_⟩;simp only[true_iff];exact⟨by omega,by omega,hr,fun x k=>by
    grind[List.getElem?_of_mem],g,fun x k=>by
    grind[List.getElem?_of_mem],fun j n=>(r j _ (anj n)).2.2⟩
def yH(n:Nat):List Int:=(List.range n).map fun (i:Nat)=>(i:Int)
theorem Vn{n i:Nat}(h:i<n):(yH n)[i]? = some (i:Int):=dC (fun (i:Nat)=>(i:Int)) h
theorem KV(n:Nat):(yH n).length=n:=xn _
def Vo(n:Nat):(yH n).Pairwise (fun x y=>x<=y):=by
 grind[yH,List.pairwise_lt_range]
def KD(l:List Int):(vk l).Perm l:=List.mergeSort_perm l _
def Qn(l:List Int):(vk l).Pairwise (fun x y=>x<=y):=by
 have:=List.pairwise_mergeSort (le:=fun x y:Int=>decide (x<=y)) (fun a b c d e=>by grind) (fun a b=>by grind) l;exact this.imp fun h=>by simpa using h
def abQ:∀{l m:List Int},l.Perm m->l.Pairwise (fun x y=>x<=y)->m.Pairwise (fun x y=>x<=y)->l=m:=fun e c d=>List.Perm.eq_of_pairwise (le:=fun x y:Int=>x<=y) (fun a b _ _ c d=>by omega) c d e
def JN{l:List Int}(o:l.length<=100)(n:Nat):∃b,mG l (n:Int)=some b∧(b=true↔l.Perm (yH n)):=by
 unfold mG sk dD QI HB;rw[aoo,if_pos (by omega),aoo];have g:=tZ l;have a:l.Perm (yH n)↔vk l=yH n:=⟨fun h=>abQ ((KD l).trans h) (Qn l) (Vo n),fun h=>h ▸ (KD l).symm⟩;rw[a];rw[oA (vk l) (fun i x=>if (i:Int)=x then none else some false) (by omega) (fun i x d =>?_) (by grind[ql])];rotate_left
 ·have k:=aQ d;simp only[ql];rw[if_pos (by simpa using k),aS d,aoo,ba (by omega)];grind
 rw[aoo];cases m:eU (fun (i:Nat) (x:Int)=>if (i:Int)=x then none else some false) 0 (vk l) with
 | some q =>
  obtain⟨j,x,p,c,_⟩:=dj m;rw[an5]at c;split at c
  ·cases c
  ·rename_i e;cases c;refine⟨false,rfl,?_⟩;simp only[anD,false_iff];grind[aQ,KV,Vn]
 | none =>
  have f:∀(j:Nat) x,(vk l)[j]? = some x->(j:Int)=x:=fun j x h=>by
   grind[cT]
  refine⟨_,rfl,?_⟩;rw[beq_iff_eq];constructor
  ·intro h;apply aoZ;grind[vk,List.getElem?_eq_getElem,Vn,List.getElem?_eq_none,KV]
  ·intro h;rw[h,KV]
structure zl(m:bl)(ports:Nat):Prop where
 flow:HH m.ax
 takes:((m.ax.aw.filter fun x=>x.bj==1).map (·.aY)).Perm (yH m.aX.length)
 gives:((m.ax.aN.filter fun x=>x.bj==0).map (·.aY)).Perm (yH m.aC.length)
 uses:∀u∈m.aX,(0<=u.bg∧u.bg<ports)∧1<=u.aR∧u.aR<=1099511627776
 ports:∀p∈m.aC,0<=p∧p<(ports:Int)
def Vf{m:bl}(h:m.ax.aw.length<=100):aO (pB m) ((0:Int),[])=some ((m.ax.aw.filter fun x=>x.bj==1).map (·.aY)):=by
 have key:=fun b a=>oU (body:=pB m) m.ax.aw (by omega) (fun i (l:List Int)=>l=((m.ax.aw.take i).filter fun x=>x.bj==1).map (·.aY)) (fun l=>l=(m.ax.aw.filter fun x=>x.bj==1).map (·.aY)) (s0:=[]) rfl b a;refine (key ?_ ?_).elim fun x ⟨f,hx⟩=>hx ▸ f
 ·rintro i x _ hx rfl;have g:=aQ hx;have c:m.ax.aw.take (i+1)=m.ax.aw.take i++[x]:=by
   grind[List.getElem?_eq_some_iff,List.take_succ_eq_append_getElem]
  have d:=apC (fun x:ie=>x.bj==1) (m.ax.aw.take i);rw[ann]at d;refine⟨_,?_,rfl⟩;simp only[pB];rw[if_pos (by simpa using g),aS hx,aoo,ba (by omega),c,apy]
  by_cases e:x.bj=1
  ·rw[if_pos (by simpa using e),y7 (by grind),aoo,apB (by simpa using e),aof];rfl
  simp_all
 ·rintro _ rfl;refine⟨_,?_,rfl⟩;grind[pB]
def S1{m:bl}(h:m.ax.aN.length<=100):aO (pC m) ((0:Int),[])=some ((m.ax.aN.filter fun x=>x.bj==0).map (·.aY)):=by
 have key:=fun b a=>oU (body:=pC m) m.ax.aN (by omega) (fun i (l:List Int)=>l=((m.ax.aN.take i).filter fun x=>x.bj==0).map (·.aY)) (fun l=>l=(m.ax.aN.filter fun x=>x.bj==0).map (·.aY)) (s0:=[]) rfl b a;refine (key ?_ ?_).elim fun x ⟨f,hx⟩=>hx ▸ f
 ·rintro i x _ hx rfl;have g:=aQ hx;have c:m.ax.aN.take (i+1)=m.ax.aN.take i++[x]:=by
   grind[List.getElem?_eq_some_iff,List.take_succ_eq_append_getElem]
  have d:=apC (fun x:um=>x.bj==0) (m.ax.aN.take i);rw[ann]at d;refine⟨_,?_,rfl⟩;simp only[pC];rw[if_pos (by simpa using g),aS hx,aoo,ba (by omega),c,apy]
  by_cases e:x.bj=0
  ·rw[if_pos (by simpa using e),y7 (by grind),aoo,apB (by simpa using e),aof];rfl
  simp_all
 ·rintro _ rfl;refine⟨_,?_,rfl⟩;grind[pC]
def ai7(u:fE){a:Nat}(d:a<=2000):∃b,rE u (a:Int)=some b∧(b=false↔(0<=u.bg∧u.bg<a)∧1<=u.aR∧u.aR<=1099511627776):=by
 unfold rE;rw[nM,aoo,jQ (by omega)]
 by_cases c:0<=u.bg∧u.bg<=(a:Int)-1
 ·rw[decide_eq_true c,if_neg (by simp),nM,aoo];grind
 ·rw[decide_eq_false c,if_pos (by simp)];grind
def aiS(p:Int){a:Nat}(c:a<=2000):∃b,rF p (a:Int)=some b∧(b=false↔0<=p∧p<a):=by
 unfold rF;rw[nM,aoo,jQ (by omega)];grind
def ag1{l:List fE}(r:l.length<=100){a:Nat}(g:a<=2000):∃b,cG l (a:Int)=some b∧(b=false↔∀u∈l,(0<=u.bg∧u.bg<a)∧1<=u.aR∧u.aR<=1099511627776):=by
 unfold cG dE;rw[oA l (fun i u=>if (0<=u.bg∧u.bg<a)∧1<=u.aR∧u.aR<=1099511627776 then none else some (i:Int)) (by omega) (fun i x e =>?_) (by simp only[eh];rw[if_neg (by simp)])];rotate_left
 ·have k:=aQ e;obtain⟨b,m,c⟩:=ai7 x g;simp only[eh];rw[if_pos (by simpa using k),aS e,aoo,m,aoo,ba (by omega)];cases b with
  | false=>rw[if_pos (c.1 rfl)];rfl
  | true =>
   simp only[apE,false_iff]at c;simp only[if_true];rw[if_neg c]
 cases f:eU (fun (i:Nat) (u:fE)=>if (0<=u.bg∧u.bg<a)∧1<=u.aR∧u.aR<=1099511627776 then none else some (i:Int)) 0 l with
 | none =>
  refine⟨false,rfl,?_⟩;simp only[true_iff];intro u n;obtain⟨j,o⟩:=anq n;have:=cT.1 f j u o;split at this
  ·assumption
  ·cases this
 | some q =>
  obtain⟨j,x,p,d,_⟩:=dj f;split at d
  ·cases d
  ·rename_i hbad;cases d;refine⟨true,by simp,?_⟩;simp only[apE,false_iff];exact fun h=>hbad (h x (anv p))
def agA{l:List Int}(s:l.length<=100){a:Nat}(g:a<=2000):∃b,cH l (a:Int)=some b∧(b=false↔∀p∈l,0<=p∧p<(a:Int)):=by
 unfold cH dF;rw[oA l (fun i p=>if 0<=p∧p<(a:Int) then none else some (i:Int)) (by omega) (fun i x e =>?_) (by simp only[ej];rw[if_neg (by simp)])];rotate_left
 ·have k:=aQ e;obtain⟨b,m,c⟩:=aiS x g;simp only[ej];rw[if_pos (by simpa using k),aS e,aoo,m,aoo,ba (by omega)];cases b with
  | false=>rw[if_pos (c.1 rfl)];rfl
  | true =>
   simp only[apE,false_iff]at c;simp only[if_true];rw[if_neg c]
 cases f:eU (fun (i:Nat) (p:Int)=>if 0<=p∧p<(a:Int) then none else some (i:Int)) 0 l with
 | none =>
  refine⟨false,rfl,?_⟩;simp only[true_iff];intro u n;obtain⟨j,o⟩:=anq n;have:=cT.1 f j u o;split at this
  ·assumption
  ·cases this
 | some q =>
  obtain⟨j,x,r,d,_⟩:=dj f;split at d
  ·cases d
  ·rename_i hbad;cases d;refine⟨true,by simp,?_⟩;simp only[apE,false_iff];exact fun h=>hbad (h x (anv r))
def agB{m:bl}{ports:Nat}(c:ports<=2000)(a:s9 m.ax)(A:m.aX.length<=6)(j:m.aC.length<=6):∃b,xg m (ports:Int)=some b∧(b=true↔zl m ports):=by
 have B:=a.srcs;have C:=a.outs;obtain⟨k,n,d⟩:=Qe a;unfold xg;rw[n,aoo];cases k with
 | false=>exact⟨false,rfl,by simp only[anD,false_iff];exact fun h=>by have:=d.2 h.flow;cases this⟩
 | true =>
 have o:=d.1 rfl;have p:=apC (fun x:ie=>x.bj==1) m.ax.aw;have q:=apC (fun x:um=>x.bj==0) m.ax.aN;obtain⟨r,s,e⟩:=JN (l:=(m.ax.aw.filter fun x=>x.bj==1).map (·.aY)) (by grind) m.aX.length;obtain⟨t,u,f⟩:=JN (l:=(m.ax.aN.filter fun x=>x.bj==0).map (·.aY)) (by grind) m.aC.length;obtain⟨v,w,g⟩:=ag1 (l:=m.aX) (by omega) c;obtain⟨y,z,i⟩:=agA (l:=m.aC) (by omega) c;simp only[aor,anD,if_false];rw[Vf (by omega),aoo,S1 (by omega),aoo,s,aoo];cases r with
 | false=>exact⟨false,rfl,by simp only[anD,false_iff];exact fun h=>by have:=e.2 h.takes;cases this⟩
 | true =>
 simp only[if_true];rw[u,aoo];cases t with
 | false=>exact⟨false,rfl,by simp only[anD,false_iff];exact fun h=>by have:=f.2 h.gives;cases this⟩
 | true =>
 simp only[if_true];rw[w,aoo];cases v with
 | true=>exact⟨false,rfl,by simp only[anD,false_iff];exact fun h=>by have:=g.2 h.uses;cases this⟩
 | false =>
 simp only[Bool.not_false,if_true];rw[z,aoo];refine⟨_,rfl,?_⟩;cases y with
 | true=>simp only[aor,anD,false_iff];exact fun h=>by have:=i.2 h.ports;cases this
 | false=>simp only[Bool.not_false,true_iff];exact⟨o,e.1 rfl,f.1 rfl,g.1 rfl,i.1 rfl⟩
def aiU{l:List an}(d:l.length<=8):(aO (fK l) 0=some (.inl ())∧∀x∈l,x.bF.aa.length<=4∧x.bJ.aa.length<=4)∨aO (fK l) 0=some (.inr false):=by
 have a:=oA l (body:=fK l) (fun (i:Nat) (x:an)=>if (x.bF.aa.length:Int)<=4∧(x.bJ.aa.length:Int)<=4 then none else some false) (by omega) (fun i x b=>by
  have c:=aQ b;simp only[fK];rw[if_pos (by simpa using c),aS b,aoo,aiT,aoo,ba (by omega)];grind) (by grind[fK])
 rw[a];cases e:eU (fun (i:Nat) (x:an)=>if (x.bF.aa.length:Int)<=4∧(x.bJ.aa.length:Int)<=4 then none else some false) 0 l with
 | none =>
  grind[List.getElem?_of_mem,cT]
 | some q =>
  grind[dj]
def aaW(f:eL):∃b,mL f=some b∧(b=true->s9 f):=by
 unfold mL
 by_cases j:f.aw.length<=5
 rotate_left
 ·exact⟨false,by grind,fun h=>by cases h⟩
 by_cases k:f.aN.length<=5
 rotate_left
 ·exact⟨false,by grind,fun h=>by cases h⟩
 by_cases m:f.aM.length<=8
 rotate_left
 ·exact⟨false,by grind,fun h=>by cases h⟩
 rw[if_neg (by simp;omega),if_neg (by simp;omega),decide_eq_false (by omega),aoo,if_neg (by simp)]
 open Classical in
 rw[oA f.aM (fun i l=>if l.length<=8∧∀x∈l,x.bF.aa.length<=4∧x.bJ.aa.length<=4 then none else some false) (by omega) (fun i l c =>?_) (by grind[qw])];rotate_left
 ·have d:=aQ c;simp only[qw];rw[if_pos (by simpa using d),aS c,aoo,ba (by omega)]
  by_cases h:l.length<=8
  ·rw[if_neg (by simp;omega)];rcases aiU h with⟨e,p⟩|e
   ·simp_all
   ·rw[e]
    by_cases n:∀x∈l,x.bF.aa.length<=4∧x.bJ.aa.length<=4
    ·exfalso;have g:=oA l (body:=fK l) (fun (i:Nat) (x:an)=>(none:Option Bool)) (by omega) (fun i x c=>by
      have d:=aQ c;have:=n x (anv c);simp only[fK];rw[if_pos (by simpa using d),aS c,aoo,aiT,aoo,ba (by omega),decide_eq_true (by omega),if_neg (by simp)]) (by grind[fK])
     rw[e]at g;have o:∀(l:List an) i,eU (fun _ _=>(none:Option Bool)) i l=none:=by
      intro l
      induction l with
      | nil=>intro i;rfl
      | cons a l r=>grind[eU]
     simp_all
    grind
  grind
 rw[aoo];cases s:eU (fun (i:Nat) (l:List an)=>if l.length<=8∧∀x∈l,x.bF.aa.length<=4∧x.bJ.aa.length<=4 then none else some false) 0 f.aM with
 | none =>
  refine⟨true,rfl,fun _=>⟨j,k,m,fun l t =>?_⟩⟩;grind[List.getElem?_of_mem,cT]
 | some q =>
  grind[dj]
structure n5(w:aT):Prop where
 given:w.ak.length<=6
 mills:w.au.length<=5
 mill:∀m∈w.au,s9 m.ax∧m.aX.length<=6∧m.aC.length<=6
def adX(w:aT):∃b,Bq w=some b∧(b=true->n5 w):=by
 unfold Bq
 by_cases d:w.ak.length<=6
 rotate_left
 ·exact⟨false,by grind,fun h=>by cases h⟩
 by_cases e:w.au.length<=5
 rotate_left
 ·exact⟨false,by grind,fun h=>by cases h⟩
 rw[if_neg (by simp;omega),decide_eq_false (by omega),aoo,if_neg (by simp)];have a:∀m:bl,∃b,mL m.ax=some b∧(b=true->s9 m.ax):=fun m=>aaW m.ax;obtain⟨B,a⟩:=Classical.axiomOfChoice a;rw[oA w.au (fun i m=>if B m=true∧m.aX.length<=6∧m.aC.length<=6 then none else some false) (by omega) (fun i m c =>?_) (by simp only[yv];simp_all)];rotate_left
 ·have f:=aQ c;simp only[yv];rw[if_pos (by simpa using f),aS c,aoo,(a m).1,aoo,ba (by omega)];grind
 rw[aoo];cases g:eU (fun (i:Nat) (m:bl)=>if B m=true∧m.aX.length<=6∧m.aC.length<=6 then none else some false) 0 w.au with
 | none =>
  refine⟨true,rfl,fun _=>⟨d,e,fun m j =>?_⟩⟩;grind[List.getElem?_of_mem,cT]
 | some q =>
  grind[dj]
def agx(w:aT):Option (Int×Int):=eU (fun (i:Nat) (n:Int)=>if 1<=n∧n<=1099511627776 then none else some ((3:Int),(i:Int))) 0 w.ak
def WB{w:aT}(h:w.ak.length<=2000):aO (nk w) 0=some (match agx w with|none =>.inl ()|some r =>.inr r):=by
 refine Eq.trans (oA w.ak (body:=nk w) (fun (i:Nat) (n:Int)=>if 1<=n∧n<=1099511627776 then none else some ((3:Int),(i:Int))) (by omega) (fun i x a =>?_) ?_) ?_
 ·have b:=aQ a;simp only[nk];rw[if_pos (by simpa using b),aS a,aoo,nM,aoo,ba (by omega)];grind
 ·simp only[nk];simp_all
 ·unfold agx;grind
def Xy{m:bl}{N:Nat}(v:N<=2000)(w:m.aC.length<=6)(g:∀p∈m.aC,0<=p∧p<(N:Int))(t:Nat->Int)(h:∀q,q<N->0<=t q∧t q<=1000000) :
  aO (np m) ((0:Int),(List.range N).map t)=some ((List.range N).map fun q=>t q+(m.aC.count (q:Int):Int)):=by
 have key:=fun b a=>oU (body:=np m) m.aC (by omega) (fun i (l:List Int)=>l=(List.range N).map fun q=>t q+((m.aC.take i).count (q:Int):Int)) (fun l=>l=(List.range N).map fun q=>t q+(m.aC.count (q:Int):Int)) (s0:=(List.range N).map t)
  (aom fun q _=>by simp) b a
 refine (key ?_ ?_).elim fun x ⟨e,hx⟩=>hx ▸ e
 ·rintro i p _ hx rfl;have n:=aQ hx;obtain⟨e,y⟩:=g p (anv hx);obtain⟨k,rfl⟩:∃k:Nat,p=k:=⟨p.toNat,by omega⟩;have f:k<N:=by omega
  have o:∀q:Nat,(m.aC.take i).count (q:Int)<=6:=fun q=>am8 (List.count_le_length ..) (by grind);have r:=o k;have c:m.aC.take (i+1)=m.aC.take i++[(k:Int)]:=by
   obtain⟨d,s⟩:=anx.1 hx;rw[apw d,s]
  have z:=h k f;refine⟨_,?_,rfl⟩;simp only[np];rw[if_pos (by simpa using n),aS hx,aoo,aS (dC _ f),aoo,anY,gJ,ba (by omega),jQ (by omega),c];have:(fun j=>if j=k then t k+((m.aC.take i).count (k:Int):Int)+1 else t j+((m.aC.take i).count (j:Int):Int))=fun q=>t q+((m.aC.take i++[(k:Int)]).count (q:Int):Int):=funext fun q=>by
   rw[List.count_append]
   by_cases u:q=k
   ·grind
   ·rw[if_neg u,List.count_cons_of_ne (by omega)];simp
  rw[this]
 ·rintro _ rfl;refine⟨_,?_,rfl⟩;simp only[np];simp_all
def LV(q:Nat)(x:Int)(u:fE):Int:=if u.bg=(q:Int) then (if 1099511627777<x+u.aR then 1099511627777 else x+u.aR) else x
def qC(q:Nat)(l:List fE)(x:Int):Int:=l.foldl (LV q) x
def KW{q:Nat}{x:Int}{u:fE}(a:0<=x∧x<=1099511627777)(b:1<=u.aR∧u.aR<=1099511627776):0<=LV q x u∧LV q x u<=1099511627777:=by
 unfold LV;omega
def wo{q:Nat}:∀{l:List fE}{x:Int},(0<=x∧x<=1099511627777)->(∀u∈l,1<=u.aR∧u.aR<=1099511627776)->0<=qC q l x∧qC q l x<=1099511627777
 | [],_,hx,_=>hx
 | u::l,x,hx,h=>wo (l:=l) (x:=LV q x u) (KW hx (h u (aoi ..))) fun v a=>h v (aoj _ a)
def ab8{m:bl}{N:Nat}(w:N<=2000)(y:m.aX.length<=6)(f:∀u∈m.aX,(0<=u.bg∧u.bg<(N:Int))∧1<=u.aR∧u.aR<=1099511627776)(t:Nat->Int)(o:∀q,q<N->0<=t q∧t q<=1099511627777) :
  aO (ns m) ((0:Int),(List.range N).map t)=some ((List.range N).map fun q=>qC q m.aX (t q)):=by
 have key:=fun c a=>oU (body:=ns m) m.aX (by omega) (fun i (l:List Int)=>l=(List.range N).map fun q=>qC q (m.aX.take i) (t q)) (fun l=>l=(List.range N).map fun q=>qC q m.aX (t q)) (s0:=(List.range N).map t)
  (aom fun q _=>by simp[qC]) c a
 refine (key ?_ ?_).elim fun x ⟨g,hx⟩=>hx ▸ g
 ·rintro i u _ hx rfl;have p:=aQ hx;obtain⟨⟨g,z⟩,A⟩:=f u (anv hx);obtain⟨k,b⟩:∃k:Nat,u.bg=k:=⟨u.bg.toNat,by omega⟩;have h:k<N:=by omega
  have d:m.aX.take (i+1)=m.aX.take i++[u]:=by
   obtain⟨e,r⟩:=anx.1 hx;rw[apw e,r]
  have B:=wo (q:=k) (l:=m.aX.take i) (o k h) fun v s=>(f v (anK s)).2;refine⟨_,?_,rfl⟩;simp only[ns];rw[if_pos (by simpa using p),aS hx,aoo,b,aS (dC _ h),aoo,anY,gJ,ba (by omega),jQ (by omega),d];have:(fun j=>if j=k then (if 1099511627777<qC k (m.aX.take i) (t k)+u.aR then 1099511627777 else qC k (m.aX.take i) (t k)+u.aR) else qC j (m.aX.take i) (t j))=fun q=>qC q (m.aX.take i++[u]) (t q):=funext fun q=>by
   unfold qC;rw[List.foldl_append];simp only[List.foldl_cons,List.foldl_nil]
   by_cases n:q=k
   ·subst n;rw[if_pos rfl]
    conv=>rhs;rw[LV]
    rw[if_pos b]
   ·rw[if_neg n]
    conv=>rhs;rw[LV]
    omega
  rw[this]
 ·rintro _ rfl;refine⟨_,?_,rfl⟩;simp only[ns];simp_all
def Nd{α ρ:Type}{st:Nat->α->Option ρ}{r:ρ}:∀{l:List α}{k i:Nat}{x:α},l[i]? = some x->st (k+i) x=some r->(∀j y,j<i->l[j]? = some y->st (k+j) y=none)->eU st k l=some r
 | [],_,_,_,h,_,_=>by simp at h
 | a::l,k,0,x,h,hs,_=>by
  simp only[List.getElem?_cons_zero,anf]at h;subst h;rw[anE]at hs;simp only[eU,hs]
 | a::l,k,i+1,x,h,hs,c=>by
  have b:=c 0 a (by omega) rfl;rw[anE]at b;simp only[eU,b];refine Nd (k:=k+1) (i:=i) (x:=x) (by simpa using h) (by grind) fun j y d e =>?_;grind
open Classical in
def V9(N:Nat)(a:List bl):Option (Int×Int):=eU (fun (i:Nat) (m:bl)=>if zl m N then none else some ((1:Int),(i:Int))) 0 a
def K7(a:List bl)(q:Nat):Int:=a.foldl (fun x m=>x+(m.aC.count (q:Int):Int)) 0
def usF(a:List bl)(q:Nat):Int:=a.foldl (fun x m=>qC q m.aX x) 0
def WM{w:aT}(g:n5 w) :
  (∃r,V9 w.ak.length w.au=some r∧aO (lv w) ((0:Int),List.replicate w.ak.length 0,List.replicate w.ak.length 0)=some (.inr r)) ∨
  (V9 w.ak.length w.au=none∧(∀m∈w.au,zl m w.ak.length)∧aO (lv w) ((0:Int),List.replicate w.ak.length 0,List.replicate w.ak.length 0)=some (.inl ((List.range w.ak.length).map (K7 w.au),(List.range w.ak.length).map (usF w.au)))):=by
 have E:=g.given;have n:=g.mills;have f:List.replicate w.ak.length (0:Int)=(List.range w.ak.length).map fun _=>0:=gZ (by simp) fun j t=>by simp_all
 obtain⟨q,F,G⟩:=dq (body:=lv w)
  (fun i st=>st=((i:Int),(List.range w.ak.length).map (K7 (w.au.take i)),(List.range w.ak.length).map (usF (w.au.take i)))∧(∀m∈w.au.take i,zl m w.ak.length)∧∀q,(0<=K7 (w.au.take i) q∧K7 (w.au.take i) q<=6*i)∧0<=usF (w.au.take i) q∧usF (w.au.take i) q<=1099511627777) w.au.length
  (fun q=>(∃r,V9 w.ak.length w.au=some r∧q=.inr r)∨(V9 w.ak.length w.au=none∧(∀m∈w.au,zl m w.ak.length)∧q=.inl ((List.range w.ak.length).map (K7 w.au),(List.range w.ak.length).map (usF w.au))))
  (s:=((0:Int),List.replicate w.ak.length 0,List.replicate w.ak.length 0)) ⟨by rw[f];rfl,fun m n=>by simp at n,fun q=>by simp[K7,usF]⟩ (ky (by omega)) (by
   rintro i _ H ⟨rfl,a,h⟩
   by_cases c:i<w.au.length
   ·have d:w.au[i]? = some w.au[i]:=anj c;have e:w.au.take (i+1)=w.au.take i++[w.au[i]]:=apw c;generalize w.au[i]=m at d e;obtain⟨v,o,k⟩:=g.mill m (anv d);obtain⟨b,z,A⟩:=agB (m:=m) (ports:=w.ak.length) (by omega) v o k;simp only[lv];rw[if_pos (by simpa using c),aS d,aoo,z,aoo];cases b with
    | false =>
     right;refine⟨_,rfl,.inl ⟨_,?_,rfl⟩⟩;unfold V9;refine Nd (i:=i) (x:=m) d ?_ fun j y t p =>?_
     ·simp_all
     ·rw[if_pos (a y (anv (i:=j) (by grind)))]
    | true =>
     have l:=A.1 rfl;left;refine⟨c,?_⟩;have B:∀q,K7 (w.au.take (i+1)) q=K7 (w.au.take i) q+(m.aC.count (q:Int):Int):=fun q=>by rw[e];unfold K7;simp_all
     have C:∀q,usF (w.au.take (i+1)) q=qC q m.aX (usF (w.au.take i) q):=fun q=>by rw[e];unfold usF;simp_all
     simp only[aor,anD,if_false];rw[Xy (by omega) k l.ports _ (fun q _=>by grind),aoo,ab8 (by omega) o l.uses _ (fun q _=>(h q).2),aoo,ba (by omega)];refine⟨_,rfl,?_,fun y p =>?_,fun q =>?_⟩
     ·simp_all
     ·grind
     ·have I:m.aC.count (q:Int)<=6:=am8 (List.count_le_length ..) k;have J:=(h q).1;rw[B,C];exact⟨by omega,wo (h q).2 fun u D=>(l.uses u D).2⟩
   ·right;have:i=w.au.length:=by omega
    subst this;rw[aoY]at a ⊢;refine⟨_,by simp only[lv];simp_all,.inr ⟨?_,a,rfl⟩⟩;unfold V9;refine cT.2 fun j y p =>?_;grind)
 simp_all
def agy(l:List Int):Option (Int×Int):=eU (fun (i:Nat) (x:Int)=>if x=0 then some ((21:Int),(i:Int)) else if 1<x then some (5,(i:Int)) else none) 0 l
def aiR(w:aT)(l:List Int):Option (Int×Int):=eU (fun (i:Nat) (x:Int)=>if w.ak.getD i 0<x then some ((25:Int),(i:Int)) else none) 0 l
def Xz{l:List Int}(h:l.length<=2000):aO (nt l) 0=some (match agy l with|none =>.inl ()|some r =>.inr r):=by
 refine Eq.trans (oA l (body:=nt l) (fun (i:Nat) (x:Int)=>if x=0 then some ((21:Int),(i:Int)) else if 1<x then some (5,(i:Int)) else none) (by omega) (fun i x a =>?_) ?_) ?_
 ·have b:=aQ a;simp only[nt];rw[if_pos (by simpa using b),aS a,aoo,ba (by omega)];grind
 ·simp only[nt];simp_all
 ·unfold agy;grind
def ab9{w:aT}{l:List Int}(h:l.length<=2000)(d:l.length=w.ak.length):aO (nw w l) 0=some (match aiR w l with|none =>.inl ()|some r =>.inr r):=by
 refine Eq.trans (oA l (body:=nw w l) (fun (i:Nat) (x:Int)=>if w.ak.getD i 0<x then some ((25:Int),(i:Int)) else none) (by omega) (fun i x a =>?_) ?_) ?_
 ·have b:=aQ a;have c:w.ak[i]? = some (w.ak.getD i 0):=by simp_all
  simp only[nw];rw[if_pos (by simpa using b),aS a,aoo,aS c,aoo,ba (by omega)];grind
 ·simp only[nw];simp_all
 ·unfold aiR;grind
def BG(w:aT):Option (Int×Int):=(((agx w).or (V9 w.ak.length w.au)).or (agy ((List.range w.ak.length).map (K7 w.au)))).or (aiR w ((List.range w.ak.length).map (usF w.au)))
def uz{w:aT}(a:n5 w):pz w=some ((BG w).getD (0,0)):=by
 have d:=a.given;have e:=a.mills;unfold pz BG;rw[if_neg (by simp;omega),decide_eq_false (by omega),aoo,if_neg (by simp),WB (by omega),aoo];cases agx w with
 | some r=>rfl
 | none =>
 simp only[Option.none_or];rw[DS _ (by omega) (by omega),aoo];rcases WM a with⟨r,b,c⟩|⟨b,_,c⟩
 ·rw[c,b];rfl
 rw[c,b,aoo];simp only[Option.none_or];rw[Xz (by simp;omega),aoo];cases agy ((List.range w.ak.length).map (K7 w.au)) with
 | some r=>rfl
 | none =>
 simp only[Option.none_or];rw[ab9 (by simp;omega) (by simp),aoo];grind
section
variable {κ α:Type} [DecidableEq κ]
theorem Ad{n:κ}:∀{m:List (κ×α)},qG m n=true↔n∈m.map (·.1)
 | []=>by simp[qG]
 | (k,v)::m=>by
  simp only[qG,anb,anc]
  by_cases h:k=n
  ·subst h;simp
  ·have:=Ad (n:=n) (m:=m);grind
def Fw{n:κ}{x:α}:∀{m:List (κ×α)},(u4 m n x).map (·.1)=if qG m n=true then m.map (·.1) else m.map (·.1)++[n]
 | []=>by simp[u4,qG]
 | (k,v)::m=>by
  have a:=Fw (n:=n) (x:=x) (m:=m);simp only[u4,qG];grind
def W8{n:κ}{x:α}{m:List (κ×α)}(h:(m.map (·.1)).Nodup):((u4 m n x).map (·.1)).Nodup:=by
 rw[Fw];split
 ·exact h
 ·rename_i hn;have hn:n∉m.map (·.1):=fun a=>hn (Ad.2 a);grind
def N5{z x:α}{n k:κ}:∀{m:List (κ×α)},ib z (u4 m n x) k=if k=n then x else ib z m k
 | []=>by
  simp only[u4,ib];grind
 | (a,v)::m=>by
  have b:=N5 (z:=z) (x:=x) (n:=n) (k:=k) (m:=m);simp only[u4]
  by_cases h:a=n
  ·rw[if_pos h];simp only[ib];grind
  ·rw[if_neg h];simp only[ib];grind
def TA{z:α}{k:κ}{v:α}:∀{m:List (κ×α)},(m.map (·.1)).Nodup->((k,v)∈m↔qG m k=true∧ib z m k=v)
 | [],_=>by simp[qG]
 | (a,x)::m,h=>by
  rw[anb,List.nodup_cons]at h;have b:=TA (z:=z) (k:=k) (v:=v) (m:=m) h.2;simp only[qG,ib,anc,Prod.mk.injEq];grind
end
abbrev MQ:=List ((Int×Int)×Rat)
def mq(m:MQ):List ((Int×Int)×an):=m.map fun p=>(p.1,b9 p.2)
theorem Jw(m:MQ):(mq m).length=m.length:=anz ..
theorem abp(m:MQ):(mq m).map (·.1)=m.map (·.1):=by unfold mq;simp_all
theorem TE(m:MQ)(k:Int×Int):qG (mq m) k=qG m k:=by
 induction m with
 | nil=>rfl
 | cons p m b =>
  obtain⟨a,v⟩:=p;rw[show mq ((a,v)::m)=(a,b9 v)::mq m from rfl];simp only[qG,b]
def abq{z:an}{m:MQ}{k:Int×Int}(h:qG m k=true):ib z (mq m) k=b9 (ib 0 m k):=by
 induction m with
 | nil=>cases h
 | cons p m c =>
  obtain⟨a,v⟩:=p;show (if a=k then b9 v else ib z (mq m) k)=b9 (if a=k then v else ib 0 m k)
  by_cases b:a=k
  ·simp_all
  ·rw[if_neg b,if_neg b];exact c (by simpa [qG,b] using h)
theorem TF(m:MQ)(k:Int×Int)(q:Rat):u4 (mq m) k (b9 q)=mq (u4 m k q):=by
 induction m with
 | nil=>rfl
 | cons p m c =>
  obtain⟨a,v⟩:=p;show (if a=k then (a,b9 q)::mq m else (a,b9 v)::u4 (mq m) k (b9 q))=mq (if a=k then (a,q)::m else (a,v)::u4 m k q)
  by_cases b:a=k
  ·rw[if_pos b,if_pos b];rfl
  ·rw[if_neg b,if_neg b,c];rfl
theorem agP{m:MQ}{k:Int×Int}(h:qG m k=false):ib 0 m k=0:=by
 induction m with
 | nil=>rfl
 | cons p m b =>
  obtain⟨a,v⟩:=p;simp only[qG,Bool.or_eq_false_iff,beq_eq_false_iff_ne]at h;simp only[ib];simp_all
def mW(m:MQ)(c:(Int×Int)×Rat):MQ:=u4 m c.1 (ib 0 m c.1+c.2)
def aax(m:MQ)(c:(Int×Int)×Rat)(k:Int×Int):ib 0 (mW m c) k=ib 0 m k+(if k=c.1 then c.2 else 0):=by
 unfold mW;rw[N5];grind
def yD(k:Int×Int):List ((Int×Int)×Rat)->Rat
 | []=>0
 | c::l=>(if k=c.1 then c.2 else 0)+yD k l
def Ey:∀(l:List ((Int×Int)×Rat))(m:MQ)(k:Int×Int),ib 0 (l.foldl mW m) k=ib 0 m k+yD k l
 | [],m,k=>by simp only[List.foldl_nil,yD];grind
 | c::l,m,k=>by
  rw[anN,Ey l,aax];simp only[yD];grind
theorem Ck:∀(l:List ((Int×Int)×Rat))(m:MQ),(m.map (·.1)).Nodup->((l.foldl mW m).map (·.1)).Nodup
 | [],_,h=>h
 | c::l,m,h=>Ck l (mW m c) (W8 h)
theorem aj2{p q:Int}(a : -9223372036854775808<=p∧p<9223372036854775808)(b : -9223372036854775808<=q∧q<9223372036854775808)(c:q≠0):vK p q=some (b9 (Rat.divInt p q),0):=by
 grind[vK,ahF,OX,acA]
open Classical in
def Xc(f:an):Rat:=if h:∃q,f=b9 q then Classical.choose h else 0
theorem Bu(q:Rat):Xc (b9 q)=q:=by
 have h:∃p,b9 q=b9 p:=⟨q,rfl⟩;unfold Xc;rw[dif_pos h];grind[vR,Classical.choose_spec]
def CX(f:eL)(k i:Nat):Rat:=Xc ((f.aM.getD k []).getD i (an.mk (aF.mk 0 ([])) (aF.mk 0 ([]))))
theorem qz{f:eL}(o:s9 f)(g:HH f){k i:Nat}(p:k<f.aN.length)(r:i<f.aw.length) :
  ∃a,f.aM[k]? = some a∧a[i]? = some (b9 (CX f k i))∧0<=CX f k i∧LF (CX f k i)<=4:=by
 have d:k<f.aM.length:=by rw[g.rows];exact p
 have m:f.aM[k]? = some (f.aM[k]):=anj d;have h:=ani d;have s:f.aM.getD k []=f.aM[k]:=by simp_all
 have t:=g.row _ h;have n:=(o.row _ h).2;unfold CX;rw[s];have b:(Eo f i)[k]? = some ((f.aM[k][i]?).getD (an.mk (aF.mk 0 ([])) (aF.mk 0 ([])))):=by
  unfold Eo;simp_all
 generalize f.aM[k]=a at m h t n b ⊢;have c:a[i]? = some (a[i]'(by omega)):=anj _;have j:=n _ (anv c);have l:a.getD i (an.mk (aF.mk 0 ([])) (aF.mk 0 ([])))=a[i]'(by omega):=by simp_all
 rw[c]at b;rw[l];obtain⟨w,u,x,_⟩:=g.col i r;rw[u]at b;rw[am3]at b;obtain⟨q,v,e⟩:=am4.1 b;simp only[Option.getD_some]at e;rw[<- e]at c j ⊢;refine⟨a,m,?_,?_,?_⟩
 ·rw[Bu];exact c
 ·rw[Bu];grind
 ·rw[Bu];exact tr j.1 j.2
def abN{f:eL}(e:s9 f)(b:HH f){i:Nat}(c:i<f.aw.length):rL ((List.range f.aN.length).map fun k=>CX f k i)=1:=by
 obtain⟨d,g,_,m⟩:=b.col i c;have:d=(List.range f.aN.length).map fun k=>CX f k i:=by
  have a:d.length=f.aN.length:=by
   have:=congrArg List.length g;unfold Eo at this;simp only[anz]at this;rw[<- b.rows];exact this.symm
  refine gZ a fun j h =>?_;obtain⟨l,n,o,_,_⟩:=qz e b h c;have p:(Eo f i)[j]? = some (b9 (CX f j i)):=by
   unfold Eo;simp_all
  grind[Option.map_eq_some_iff,vR]
 simp_all
abbrev Ei:=(Int×Int)×Rat
def zr(m:bl)(i:Nat)(u:fE)(r:Rat)(k:Nat):List Ei :=
 match m.ax.aN[k]? with
 | some y=>if y.bj=0∧CX m.ax k i≠0 then [((u.bg,m.aC.getD y.aY.toNat 0),r*CX m.ax k i)] else []
 | none=>[]
def GY(g:List Int)(u:fE):Rat:=Rat.divInt u.aR (g.getD u.bg.toNat 0)
def sS(m:bl)(n:Int):fE:=m.aX.getD n.toNat (fE.mk 0 0)
def Df(g:List Int)(m:bl)(i:Nat):List Ei :=
 match m.ax.aw[i]? with
 | some x=>if x.bj=1 then (List.range m.ax.aN.length).flatMap (zr m i (sS m x.aY) (GY g (sS m x.aY))) else []
 | none=>[]
def pr(g:List Int)(m:bl):List Ei:=(List.range m.ax.aw.length).flatMap (Df g m)
def qE(w:aT):List Ei:=w.au.flatMap (pr w.ak)
theorem A3:LF 0<=1:=Cb (n:=0) (by decide)
def OW{K:Nat}{k:Int×Int}:∀{l:List Ei},(∀c∈l,LF c.2<=K)->LF (yD k l)<=1+l.length*(K+1)
 | [],_=>by grind[yD,A3]
 | c::l,h=>by
  have b:=OW (k:=k) (l:=l) fun x a=>h x (aoj _ a);have d:=h c (aoi ..);simp only[yD,List.length_cons];grind[yD,xF]
def ag7{z:an}{M:MQ}{k:Int×Int}{v:Rat}{K:Nat}(h:LF (ib 0 M k)<=K)(c:LF v<=K)(d:K<=1000000000) :
  (qG (mq M) k=true->tI (ib z (mq M) k) (b9 v)=some (b9 (ib 0 M k+v))∧u4 (mq M) k (b9 (ib 0 M k+v))=mq (mW M (k,v)))∧(qG (mq M) k=false->u4 (mq M) k (b9 v)=mq (mW M (k,v))):=by
 have b:dh=4398046511104:=rfl;constructor
 ·intro a;rw[TE]at a;rw[abq a,ahO (by omega),TF];exact⟨rfl,rfl⟩
 grind[mW,TE,TF,agP]
def Jg{m:bl}{N:Nat}(a:zl m N){y:um}(b:y∈m.ax.aN)(c:y.bj=0):∃j:Nat,y.aY=j∧j<m.aC.length:=by
 have:y.aY∈yH m.aC.length:=a.gives.mem_iff.1 (am5.2 ⟨y,aop.2 ⟨b,by simpa using c⟩,rfl⟩);unfold yH at this;grind
theorem afI{m:bl}{N:Nat}(a:zl m N){x:ie}(b:x∈m.ax.aw)(c:x.bj=1):∃j:Nat,x.aY=j∧j<m.aX.length:=by
 have:x.aY∈yH m.aX.length:=a.takes.mem_iff.1 (am5.2 ⟨x,aop.2 ⟨b,by simpa using c⟩,rfl⟩);unfold yH at this;grind
structure K9(n:Nat)(h:List Ei):Prop where
 len:h.length<=n
 sz:∀c∈h,LF c.2<=20
def K9.look{n:Nat}{h:List Ei}(H:K9 n h)(k:Int×Int):LF (ib 0 (h.foldl mW []) k)<=1+n*21:=by
 rw[Ey,show ib 0 ([]:MQ) k=0 from rfl,show (0:Rat)+yD k h=yD k h by grind];have a:=OW (k:=k) H.sz;have b:=H.len;omega
def K9.app{n a:Nat}{h l:List Ei}(H:K9 n h)(e:l.length<=a)(b:∀c∈l,LF c.2<=20):K9 (n+a) (h++l) :=
 ⟨by rw[an7];have:=H.len;omega,fun c d=>(aoh.1 d).elim (H.sz c) (b c)⟩
def Ra(m:bl)(i:Nat)(u:fE)(r:Rat)(k:Nat):(zr m i u r k).length<=1:=by
 unfold zr;grind
def sw{α:Type}{f:Nat->List α}{b:Nat}(h:∀i,(f i).length<=b):∀n,((List.range n).flatMap f).length<=n*b
 | 0=>by simp
 | n+1=>by
  have:=sw h n;grind[List.range_succ,List.length_append,Nat.succ_mul]
def Nl{α:Type}{f:Nat->List α}(n:Nat):(List.range (n+1)).flatMap f=(List.range n).flatMap f++f n:=by
 grind[List.range_succ]
theorem agm{m:bl}{i:Nat}{u:fE}{r:Rat}{k:Nat}(a:s9 m.ax)(b:HH m.ax)(d:i<m.ax.aw.length)(e:LF r<=10):∀c∈zr m i u r k,LF c.2<=20:=by
 grind[zr,CX,List.mem_singleton,qz,aQ,wv]
def Zz{m:bl}{i:Nat}{u:fE}{r:Rat}{n:Nat}(a:s9 m.ax)(b:HH m.ax)(d:i<m.ax.aw.length)(e:LF r<=10):∀c∈(List.range n).flatMap (zr m i u r),LF c.2<=20:=by
 intro c f;grind[agm]
theorem abA{m:bl}{N i n:Nat}{u:fE}{r:Rat}{h:List Ei}(d:s9 m.ax)(e:zl m N)(o:i<m.ax.aw.length)(w:LF r<=10)(H:K9 n h)(L:n<=1000) :
  aO (jl m (i:Int) u (b9 r,0)) ((0:Int),mq (h.foldl mW []))=some (mq ((h++(List.range m.ax.aN.length).flatMap (zr m i u r)).foldl mW [])):=by
 have y:dh=4398046511104:=rfl;have O:=d.outs;have key:=fun f b=>oU (body:=jl m (i:Int) u (b9 r,0)) m.ax.aN (by omega)
  (fun k (c:List ((Int×Int)×an))=>c=mq ((h++(List.range k).flatMap (zr m i u r)).foldl mW [])) (fun c=>c=mq ((h++(List.range m.ax.aN.length).flatMap (zr m i u r)).foldl mW [])) (s0:=mq (h.foldl mW [])) (by simp) f b
 refine (key ?_ ?_).elim fun x ⟨A,hx⟩=>hx ▸ A
 ·rintro k x _ hx rfl;have p:=aQ hx;have Q:=sw (fun k=>Ra m i u r k) k;have q:=H.app (a:=k) (by omega) (Zz (u:=u) (n:=k) d e.flow o w);obtain⟨B,C,s,R,S⟩:=qz d e.flow p o;rw[Nl,<- aoK];generalize h++(List.range k).flatMap (zr m i u r)=D at q;have g:=q.look;have E:zr m i u r k=if x.bj=0∧CX m.ax k i≠0 then [((u.bg,m.aC.getD x.aY.toNat 0),r*CX m.ax k i)] else []:=by unfold zr;rw[hx]
  refine⟨_,?_,rfl⟩;simp only[jl];rw[if_pos (by simpa using p),aS hx,aoo,ba (by omega),E]
  by_cases l:x.bj=0
  ·rw[if_neg (by simp[l]),aS C,aoo,aS s,aoo,Cc (by omega),aoo,aoo]
   by_cases F:CX m.ax k i=0
   ·simp_all
   ·obtain⟨j,G,T⟩:=Jg e (anv hx) l;have t:m.aC[j]? = some (m.aC.getD x.aY.toNat 0):=by simp_all
    have I:=wv r (CX m.ax k i);rw[if_neg (by simp_all),if_pos ⟨l,F⟩];rw[show P.idx m.aC x.aY=some (m.aC.getD x.aY.toNat 0) by rw[G]at t ⊢;exact aS t];rw[aoo,aoo,aS s,aoo,X1 (by omega),aoo];have J:=ag7 (z:=an.mk (aF.mk 0 ([])) (aF.mk 0 ([]))) (M:=D.foldl mW []) (k:=(u.bg,m.aC.getD x.aY.toNat 0)) (v:=r*CX m.ax k i) (K:=20+(n+k)*21) (am8 (g _) (by omega)) (by omega) (by omega);simp_all
  simp_all
 ·rintro _ rfl;refine⟨_,?_,rfl⟩;grind[jl]
theorem acz{x:Int}(a:1<=x)(b:x<=1099511627776):Ln x<=3:=QZ (by grind[mn,sj])
def Ca(g:List Int):Prop:=∀x∈g,1<=x∧x<=1099511627776
def uP{g:List Int}(b:Ca g){p:Int}(h:0<=p∧p<(g.length:Int)):∃j:Nat,p=j∧j<g.length∧g[j]? = some (g.getD p.toNat 0)∧1<=g.getD p.toNat 0∧g.getD p.toNat 0<=1099511627776:=by
 obtain⟨j,rfl⟩:∃j:Nat,p=j:=⟨p.toNat,by omega⟩;have c:j<g.length:=by omega
 have a:g[j]? = some (g.getD (j:Int).toNat 0):=by simp_all
 exact⟨j,rfl,c,a,b _ (anv a)⟩
def FL{m:bl}{N:Nat}(a:zl m N){x:ie}(b:x∈m.ax.aw)(c:x.bj=1):P.idx m.aX x.aY=some (sS m x.aY)∧sS m x.aY∈m.aX:=by
 grind[sS,afI,aS,List.mem_of_getElem?]
def O0{g:List Int}{m:bl}(b:Ca g)(c:zl m g.length){u:fE}(d:u∈m.aX):LF (GY g u)<=10∧0<GY g u:=by
 obtain⟨e,a⟩:=c.uses u d;obtain⟨j,i,k,l,f,h⟩:=uP b e;have n:=acz a.1 a.2;have o:=acz f h;unfold GY;have r:=wW (p:=u.aR) (q:=g.getD u.bg.toNat 0) (by omega);refine⟨by omega,?_⟩;rw[apF,Rat.div_def];exact Rat.mul_pos (by exact_mod_cast (show (0:Int)<u.aR by omega)) (Rat.inv_pos.2 (by exact_mod_cast (show (0:Int)<g.getD u.bg.toNat 0 by omega)))
theorem Yk{g:List Int}{m:bl}(e:Ca g)(b:s9 m.ax)(a:zl m g.length)(i:Nat):(Df g m i).length<=5∧∀c∈Df g m i,LF c.2<=20:=by
 unfold Df;split
 ·rename_i x d;split
  ·rename_i f;have h:=b.outs;have j:=sw (fun k=>Ra m i (sS m x.aY) (GY g (sS m x.aY)) k) m.ax.aN.length;refine⟨by omega,Zz b a.flow (aQ d) (O0 e a (FL a (anv d) f).2).1⟩
  simp_all
 simp_all
def ZP{g:List Int}{m:bl}(a:Ca g)(b:s9 m.ax)(d:zl m g.length)(n:Nat):((List.range n).flatMap (Df g m)).length<=n*5∧∀c∈(List.range n).flatMap (Df g m),LF c.2<=20:=by
 refine⟨sw (fun i=>(Yk a b d i).1) n,fun c e =>?_⟩;grind[Yk]
def VP{g:List Int}{m:bl}{n:Nat}{h:List Ei}(l:Ca g)(q:s9 m.ax)(e:zl m g.length)(H:K9 n h)(D:n<=900) :
  kx (mq (h.foldl mW [])) g m=some (mq ((h++pr g m).foldl mW []),()):=by
 have u:dh=4398046511104:=rfl;have E:=q.srcs;have key:=fun o b=>oU (body:=kU g m) m.ax.aw (by omega)
  (fun k (c:List ((Int×Int)×an))=>c=mq ((h++(List.range k).flatMap (Df g m)).foldl mW [])) (fun c=>c=mq ((h++pr g m).foldl mW [])) (s0:=mq (h.foldl mW [])) (by simp) o b
 unfold kx;refine (key ?_ ?_).elim fun c r =>?_
 ·rintro i x _ f rfl;have v:=aQ f;obtain⟨w,y⟩:=ZP l q e i;have z:=H.app (a:=i*5) w y;rw[Nl,<- aoK];generalize h++(List.range i).flatMap (Df g m)=F at z;have r:Df g m i=if x.bj=1 then (List.range m.ax.aN.length).flatMap (zr m i (sS m x.aY) (GY g (sS m x.aY))) else []:=by unfold Df;rw[f]
  refine⟨_,?_,rfl⟩;simp only[kU];rw[if_pos (by simpa using v),aS f,aoo,ba (by omega),r]
  by_cases p:x.bj=1
  ·obtain⟨A,s⟩:=FL e (anv f) p;have G:=O0 l e s;obtain⟨B,I⟩:=e.uses _ s;obtain⟨j,C,J,t,K,L⟩:=uP l B;have d:P.idx g (sS m x.aY).bg=some (g.getD (sS m x.aY).bg.toNat 0):=by
    rw[C]at t ⊢;exact aS t
   rw[if_neg (by simp[p]),A,aoo,d,aoo,aj2 (by omega) (by omega) (by omega),aoo,if_pos p];grind[sS,GY,abA]
  simp_all
 ·rintro _ rfl;refine⟨_,?_,rfl⟩;simp only[kU];rw[if_neg (by simp)];rfl
 simp_all
def ac5{g:List Int}{m:bl}(b:Ca g)(a:s9 m.ax)(d:zl m g.length):(pr g m).length<=25∧∀c∈pr g m,LF c.2<=20:=by
 have:=ZP b a d m.ax.aw.length;have e:=a.srcs;grind[pr]
def acM{m:MQ}{c:Ei}{k:Int×Int}:qG (mW m c) k=true↔qG m k=true∨c.1=k:=by
 unfold mW;rw[Ad,Fw];split
 ·grind[Ad]
 ·rw[aoh,anr,eq_comm (a:=k),Ad]
def SC:∀(l:List Ei)(m:MQ)(k:Int×Int),qG (l.foldl mW m) k=true↔qG m k=true∨∃c∈l,c.1=k
 | [],m,k=>by simp
 | c::l,m,k=>by
  rw[anN,SC l,acM];grind
def AI{k:Int×Int}:∀{l:List Ei},(∀c∈l,0<c.2)->0<=yD k l∧(0<yD k l↔∃c∈l,c.1=k)
 | [],_=>⟨by simp only[yD];grind,by simp only[yD];simp⟩
 | c::l,h=>by
  obtain⟨b,d⟩:=AI (k:=k) (l:=l) fun x a=>h x (aoj _ a);have e:=h c (aoi ..);simp only[yD,anc,exists_eq_or_imp];grind
def ki(N:Nat)(S:Nat->Nat->Rat):List Tk:=(List.range N).flatMap fun a=>((List.range N).filter fun b=>decide (0<S a b)).map fun b=>(a,b,S a b)
def DR{N:Nat}{S:Nat->Nat->Rat}{t:Tk}:t∈ki N S↔t.1<N∧t.2.1<N∧0<S t.1 t.2.1∧t.2.2=S t.1 t.2.1:=by
 unfold ki;simp only[aog,am5,aop,aos,decide_eq_true_eq];grind
theorem QD(N:Nat)(S:Nat->Nat->Rat):(ki N S).Pairwise Zj:=by
 unfold ki;rw[List.pairwise_flatMap];constructor
 ·intro a _;rw[ao3];exact (List.Pairwise.filter _ (aot (n:=N))).imp fun h =>.inr ⟨rfl,h⟩
 ·refine (aot (n:=N)).imp fun {a b} h x c y d =>?_;obtain⟨_,_,rfl⟩:=am5.1 c;obtain⟨_,_,rfl⟩:=am5.1 d;exact .inl h
theorem Vh(N:Nat)(S:Nat->Nat->Rat):(ki N S).length<=N*N:=by
 unfold ki;refine sw (fun a =>?_) N;grind
def kz(L:List Ei)(a b:Nat):Rat:=yD ((a:Int),(b:Int)) L
structure aar(N:Nat)(L:List Ei):Prop where
 pos:∀c∈L,0<c.2
 from_:∀c∈L,0<=c.1.1∧c.1.1<(N:Int)
 to_:∀c∈L,0<=c.1.2∧c.1.2<(N:Int)
def OD{N:Nat}{L:List Ei}(H:aar N L) :
  te (mo cN.dG cN.mf) ((mq (L.foldl mW [])).map fun q=>cN.mk q.1.1 q.1.2 q.2)=(ki N (kz L)).map An:=by
 have f:((L.foldl mW []).map (·.1)).Nodup:=Ck L [] (by simp);have m:((mq (L.foldl mW [])).map fun q=>cN.mk q.1.1 q.1.2 q.2)=(L.foldl mW []).map fun p=>cN.mk p.1.1 p.1.2 (b9 p.2):=by unfold mq;simp_all
 rw[m];have a:∀p:Ei,p∈L.foldl mW []↔(∃c∈L,c.1=p.1)∧yD p.1 L=p.2:=by
  rintro⟨k,v⟩;rw[TA (z:=0) f,SC,Ey];simp only[qG,ib,anD,false_or];grind
 have b:((L.foldl mW []).map fun p:Ei=>cN.mk p.1.1 p.1.2 (b9 p.2)).Nodup:=by
  grind
 have d:((ki N (kz L)).map An).Nodup:=by
  grind[List.Nodup,kz,Zj,QD,Zq]
 have e:∀x,x∈((L.foldl mW []).map fun p:Ei=>cN.mk p.1.1 p.1.2 (b9 p.2))↔x∈(ki N (kz L)).map An:=by
  intro x;rw[am5,am5];constructor
  ·rintro⟨p,n,rfl⟩;obtain⟨h,i⟩:=(a p).1 n;obtain⟨c,g,j⟩:=h;have f1:=H.from_ c g;have f2:=H.to_ c g;rw[j]at f1 f2;have u:((p.1.1.toNat:Nat):Int)=p.1.1:=by omega
   have w:((p.1.2.toNat:Nat):Int)=p.1.2:=by omega
   have l:kz L p.1.1.toNat p.1.2.toNat=p.2:=by unfold kz;simp_all
   refine⟨(p.1.1.toNat,p.1.2.toNat,p.2),DR.2 ⟨by simp only;omega,by simp only;omega,?_,l.symm⟩,?_⟩
   ·simp only;rw[l,<- i];exact (AI H.pos).2.2 ⟨c,g,j⟩
   ·unfold An;simp_all
  ·rintro⟨t,o,rfl⟩;obtain⟨h,i,r,s⟩:=DR.1 o;refine⟨(((t.1:Int),(t.2.1:Int)),t.2.2),(a _).2 ⟨(AI H.pos).2.1 r,s.symm⟩,rfl⟩
 refine sn (c:=mo cN.dG cN.mf) ((lr _ _).trans ((List.perm_ext_iff_of_nodup b d).2 e)) ?_ (qe (AK _ _) _) ?_
 ·grind[lr,AJ]
 grind[kz,An,Zj,QD,AJ]
def Pn{w:aT}{r:Int×Int}(h:BG w=some r):r.1≠0:=by
 unfold BG at h;simp only[Option.or_eq_some_iff]at h;rcases h with ((h|⟨_,h⟩)|⟨_,h⟩)|⟨_,h⟩
 ·obtain⟨j,x,_,a,_⟩:=dj h;grind
 ·obtain⟨j,x,_,a,_⟩:=dj h;grind
 ·obtain⟨j,x,_,a,_⟩:=dj h;grind
 ·obtain⟨j,x,_,a,_⟩:=dj h;grind
structure gL(w:aT):Prop where
 given:Ca w.ak
 fit:∀m∈w.au,zl m w.ak.length
 once:∀q,q<w.ak.length->K7 w.au q=1∨K7 w.au q<0
 used:∀q,q<w.ak.length->usF w.au q<=w.ak.getD q 0
def Jh{w:aT}(h:BG w=none):gL w:=by
 unfold BG at h;simp only[Option.or_eq_none_iff]at h;obtain⟨⟨⟨c,d⟩,e⟩,f⟩:=h;refine⟨fun x g =>?_,fun m i =>?_,fun q a =>?_,fun q a =>?_⟩
 ·obtain⟨j,b⟩:=anq g;have:=cT.1 c j x b;simp_all
 ·obtain⟨j,b⟩:=anq i;have:=cT.1 d j m b;simp_all
 ·have:=cT.1 e q _ (dC _ a);grind
 ·have:=cT.1 f q _ (dC _ a);simp_all
def aiK{w:aT}(n:n5 w)(d:gL w):aar w.ak.length (qE w):=by
 have key:∀c∈qE w,0<c.2∧(0<=c.1.1∧c.1.1<(w.ak.length:Int))∧0<=c.1.2∧c.1.2<(w.ak.length:Int):=by
  intro c a;unfold qE at a;obtain⟨m,e,a⟩:=aog.1 a;have o:=(n.mill m e).1;have b:=d.fit m e;unfold pr at a;obtain⟨i,f,a⟩:=aog.1 a;rw[aos]at f;unfold Df at a;split at a
  ·rename_i x p;split at a
   ·rename_i q;obtain⟨k,g,a⟩:=aog.1 a;rw[aos]at g;unfold zr at a;split at a
    ·rename_i y r;split at a
     ·rename_i s;rw[anr.1 a];obtain⟨_,l⟩:=FL b (anv p) q;obtain⟨j,u,v⟩:=Jg b (anv r) s.1;obtain⟨_,_,_,z,_⟩:=qz o b.flow g f;have t:m.aC.getD y.aY.toNat 0∈m.aC:=by
       simp_all
      refine⟨Rat.mul_pos (O0 d.given b l).2 ?_,(b.uses _ l).1,b.ports _ t⟩;grind
     ·cases a
    ·cases a
   ·cases a
  ·cases a
 exact⟨fun c h=>(key c h).1,fun c h=>(key c h).2.1,fun c h=>(key c h).2.2⟩
def DX{w:aT}(f:n5 w)(e:gL w):aO (tW w) ((0:Int),[])=some (mq ((qE w).foldl mW []))∧K9 125 (qE w):=by
 have g:=f.mills;have i:∀k,((w.au.take k).flatMap (pr w.ak)).length<=k*25∧∀c∈(w.au.take k).flatMap (pr w.ak),LF c.2<=20:=by
  intro k;have o:∀m∈w.au.take k,(pr w.ak m).length<=25∧∀c∈pr w.ak m,LF c.2<=20:=fun m h=>by
   have g:=anK h;exact ac5 e.given (f.mill m g).1 (e.fit m g)
  have r:(w.au.take k).length<=k:=by grind
  refine⟨?_,fun c s =>?_⟩
  ·have p:∀l:List bl,(∀m∈l,(pr w.ak m).length<=25)->(l.flatMap (pr w.ak)).length<=l.length*25:=by
    intro l
    induction l with
    | nil=>intro _;simp
    | cons a l t =>
     grind
   grind
  grind
 have key:=fun j d=>oU (body:=tW w) w.au (by omega)
  (fun k (c:List ((Int×Int)×an))=>c=mq (((w.au.take k).flatMap (pr w.ak)).foldl mW [])) (fun c=>c=mq ((qE w).foldl mW [])) (s0:=[]) rfl j d
 constructor
 ·refine (key ?_ ?_).elim fun x ⟨o,hx⟩=>hx ▸ o
  ·rintro k m _ hx rfl;have q:=aQ hx;have n:w.au.take (k+1)=w.au.take k++[m]:=by
    grind[List.getElem?_eq_some_iff,List.take_succ_eq_append_getElem]
   have b:=anv hx;have H:K9 (k*25) ((w.au.take k).flatMap (pr w.ak)):=⟨(i k).1,(i k).2⟩;refine⟨_,?_,rfl⟩;simp only[tW];rw[if_pos (by simpa using q),aS hx,aoo,VP e.given (f.mill m b).1 (e.fit m b) H (by omega),aoo,ba (by omega),n,List.flatMap_append];simp
  ·rintro _ rfl;refine⟨_,?_,rfl⟩;simp only[tW];rw[if_neg (by simp),aoY];rfl
 ·have:=i w.au.length;rw[aoY]at this;exact⟨by have:=this.1;unfold qE;omega,this.2⟩
def ad0{N:Nat}{L:List Ei}(H:aar N L):(L.foldl mW []).length<=N*N:=by
 have h:=OD H;have:=congrArg List.length h;grind[kz,rz,List.length_map,Jw,Vh]
def WQ(w:aT)(L:List Ei):gK:=qK w.ak.length (ki w.ak.length (kz L))
def of_eq{w:aT}(a:n5 w):CL w=some (match BG w with|some r=>(gK.mk 0 [],r.1)|none=>(WQ w (qE w),0)):=by
 have b:=a.given;unfold CL;rw[uz a,aoo];cases c:BG w with
 | some r =>
  have:=Pn c;simp_all
 | none =>
  have d:=Jh c;obtain⟨g,_⟩:=DX a d;have e:=aiK a d;have f:=ad0 e;have h:w.ak.length*w.ak.length<=6*6:=apx b b;rw[if_neg (by simp),g,aoo,if_neg (by rw[decide_eq_true_eq,Jw];omega)];unfold Hu;rw[if_pos ⟨by rw[Jw];omega,by grind[abp,Ck]⟩,OD e];rfl
def abH{a b:Rat}(h:LF a<=dh):u9 (b9 a) (b9 b)=some (decide (a=b)):=by
 have:=Dm h;rw[akS (by unfold Fit dh at *;omega) (by unfold Fit dh at *;omega)];congr 1
 by_cases hab:a=b
 ·simp_all
 ·rw[decide_eq_false (fun h=>hab (vR h)),decide_eq_false hab]
def JJ{α ρ:Type}:∀(l:List α)(i:Nat),eU (fun _ _=>(none:Option ρ)) i l=none
 | [],_=>rfl
 | _::l,i=>by simp only[eU];exact JJ l _
def PS{N:Nat}{L:List Ei}(a:N<=6)(H:K9 125 L):(ki N (kz L)).length<=36∧∀t∈ki N (kz L),LF t.2.2<=2700:=by
 have d:=Vh N (kz L);have e:N*N<=6*6:=apx a a;refine⟨by omega,fun t b =>?_⟩;obtain⟨_,_,_,c⟩:=DR.1 b;rw[c];unfold kz;have f:=OW (k:=((t.1:Int),(t.2.1:Int))) H.sz;have g:=anM 21 H.len;omega
def qJ(q:Nat)(l:List fE):Int:=l.foldl (fun x u=>x+if u.bg=(q:Int) then u.aR else 0) 0
def py{α:Type}(f:α->Int):∀(l:List α)(x:Int),l.foldl (fun x u=>x+f u) x=x+l.foldl (fun x u=>x+f u) 0
 | [],x=>by simp
 | a::l,x=>by rw[anN,anN,py f l (x+f a),py f l (0+f a)];omega
def Vq{q:Nat}:∀{l:List fE}{x:Int},(0<=x∧x<=1099511627777)->(∀u∈l,1<=u.aR∧u.aR<=1099511627776)->qC q l x=min 1099511627777 (x+qJ q l)∧0<=qJ q l
 | [],x,a,_=>by simp only[qC,qJ,List.foldl_nil];omega
 | u::l,x,a,h=>by
  have c:=h u (aoi ..);have b:=KW (q:=q) a c;obtain⟨d,i⟩:=Vq (q:=q) (l:=l) (x:=LV q x u) b fun v f=>h v (aoj _ f);have e:qJ q (u::l)=(if u.bg=(q:Int) then u.aR else 0)+qJ q l:=by
   unfold qJ;rw[anN,py (fun u:fE=>if u.bg=(q:Int) then u.aR else 0)];omega
  have g:qC q (u::l) x=qC q l (LV q x u):=rfl;rw[g,d,e];unfold LV at b ⊢;omega
def lB(q:Nat)(a:List bl):Int:=a.foldl (fun x m=>x+qJ q m.aX) 0
def ahw{q:Nat}{ms:List bl}(h:∀m∈ms,∀u∈m.aX,1<=u.aR∧u.aR<=1099511627776):usF ms q=min 1099511627777 (lB q ms)∧0<=lB q ms:=by
 have key:∀(ms:List bl)(x:Int),(0<=x∧x<=1099511627777)->(∀m∈ms,∀u∈m.aX,1<=u.aR∧u.aR<=1099511627776)->ms.foldl (fun x m=>qC q m.aX x) x=min 1099511627777 (x+lB q ms)∧0<=lB q ms:=by
  intro ms
  induction ms with
  | nil=>intro x a _;simp only[List.foldl_nil,lB];omega
  | cons m ms b =>
   intro x a h;obtain⟨d,f⟩:=Vq (q:=q) a (h m (aoi ..));obtain⟨g,i⟩:=b (qC q m.aX x) (wo a (h m (aoi ..))) fun m c=>h m (aoj _ c);have e:lB q (m::ms)=qJ q m.aX+lB q ms:=by
    unfold lB;rw[anN,py (fun m:bl=>qJ q m.aX)];omega
   grind
 have:=key ms 0 (by omega) h;unfold usF;omega
section
variable {α β:Type}
def bW:List α->(α->Rat)->Rat
 | [],_=>0
 | a::l,f=>f a+bW l f
theorem lh(f:α->Rat)(b:List α):∀a:List α,bW (a++b) f=bW a f+bW b f
 | []=>by simp only[List.nil_append,bW];grind
 | x::a=>by simp only[List.cons_append,bW,lh f b a];grind
def abX{f:α->Rat}{a b:List α}(h:a.Perm b):bW a f=bW b f:=by
 induction h with
 | nil=>rfl
 | cons x _ c=>simp only[bW];rw[c]
 | swap x y l=>simp only[bW];grind
 | trans _ _ h1 h2=>exact h1.trans h2
theorem bx{f g:α->Rat}:∀{l:List α},(∀a∈l,f a=g a)->bW l f=bW l g
 | [],_=>rfl
 | a::l,h=>by
  simp only[bW];rw[h a (aoi ..),bx fun x b=>h x (aoj _ b)]
def D7(f g:α->Rat):∀l:List α,bW l (fun a=>f a+g a)=bW l f+bW l g
 | []=>by simp only[bW];grind
 | a::l=>by simp only[bW,D7 f g l];grind
def KH(f g:α->Rat):∀l:List α,bW l (fun a=>f a-g a)=bW l f-bW l g
 | []=>by simp only[bW];grind
 | a::l=>by simp only[bW,KH f g l];grind
theorem kX:∀l:List α,bW l (fun _=>0)=0
 | []=>rfl
 | a::l=>by simp only[bW,kX l];grind
theorem vl(c:Rat)(f:α->Rat):∀l:List α,bW l (fun a=>c*f a)=c*bW l f
 | []=>by simp only[bW];grind
 | a::l=>by simp only[bW,vl c f l];grind
def ZZ{f g:α->Rat}:∀{l:List α},(∀a∈l,f a<=g a)->bW l f<=bW l g
 | [],_=>by simp only[bW];grind
 | a::l,h=>by
  have c:=h a (aoi ..);have d:=ZZ (l:=l) fun x b=>h x (aoj _ b);simp only[bW];grind
def AH(h:β->α)(f:α->Rat):∀l:List β,bW (l.map h) f=bW l fun a=>f (h a)
 | []=>rfl
 | a::l=>by simp only[anb,bW,AH h f l]
def nK(h:β->List α)(f:α->Rat):∀l:List β,bW (l.flatMap h) f=bW l fun a=>bW (h a) f
 | []=>rfl
 | a::l=>by rw[List.flatMap_cons,lh];simp only[bW,nK h f l]
def wm(p:α->Bool)(f:α->Rat):∀l:List α,bW (l.filter p) f=bW l fun a=>if p a=true then f a else 0
 | []=>rfl
 | a::l=>by
  rw[List.filter_cons];have b:=wm p f l;split
  ·rename_i h;simp only[bW,b,h,if_true]
  ·rename_i h;simp only[bW,b,h,if_false];grind
def ub(f:α->β->Rat)(m:List β):∀l:List α,bW l (fun a=>bW m (f a))=bW m fun b=>bW l fun a=>f a b
 | []=>by simp only[bW];exact (kX m).symm
 | a::l=>by simp only[bW,ub f m l];rw[<- D7]
def afv{N p:Nat}(b:N<=p)(F:Nat->Rat):bW (List.range N) (fun a=>if a=p then F a else 0)=0:=by
 rw[bx (g:=fun _=>0) fun a c=>if_neg (by grind),kX]
def mS{N p:Nat}(b:p<N)(F:Nat->Rat):bW (List.range N) (fun a=>if a=p then F a else 0)=F p:=by
 induction N with
 | zero=>omega
 | succ N c =>
  rw[apz,lh];simp only[bW]
  by_cases h:p=N
  ·subst h;rw[afv (am6 _),if_pos rfl];grind
  grind
def C0(l:List α)(f:α->Rat):bW (List.range l.length) (fun i=>(l[i]?).elim 0 f)=bW l f:=by
 have key:∀l:List α,bW (List.range l.reverse.length) (fun i=>(l.reverse[i]?).elim 0 f)=bW l.reverse f:=by
  intro l
  induction l with
  | nil=>rfl
  | cons a l b =>
   rw[List.reverse_cons,an7,List.length_singleton,apz,lh,lh];congr 1
   ·rw[<- b];exact bx fun i c=>by grind
   ·simp only[bW];simp_all
 have:=key l.reverse;simp_all
def D8{f:α->Rat}{l:List α}(h:∀a∈l,0<=f a):0<=bW l f:=by
 rw[<- kX l];exact ZZ h
def Hn{K:Nat}{f:α->Rat}:∀{l:List α},(∀a∈l,LF (f a)<=K)->LF (bW l f)<=1+l.length*(K+1)
 | [],_=>by simp only[bW];have:=A3;omega
 | a::l,h=>by
  have c:=h a (aoi ..);have d:=Hn (l:=l) fun x b=>h x (aoj _ b);have e:=xF (f a) (bW l f);simp only[bW,List.length_cons];grind
end
theorem Qs(k:Int×Int):∀L:List Ei,yD k L=bW L fun c=>if k=c.1 then c.2 else 0
 | []=>rfl
 | c::L=>by simp only[yD,bW,Qs k L]
def Zy(p:Nat):∀tk:List Tk,xk tk p=bW tk fun t=>if t.1=p then t.2.2 else 0
 | []=>rfl
 | t::tk=>by simp only[xk,bW,Zy p tk]
def Z0{α:Type}(f:α->Rat):∀l:List α,rL (l.map f)=bW l f
 | []=>rfl
 | a::l=>by simp only[anb,rL,bW,Z0 f l]
def aby{N p:Nat}{S:Nat->Nat->Rat}(c:p<N)(d:∀b,0<=S p b):xk (ki N S) p=bW (List.range N) (S p):=by
 rw[Zy];unfold ki;rw[nK,bx (g:=fun a=>if a=p then bW (List.range N) (S a) else 0) fun a _ =>?_,mS c fun a=>bW (List.range N) (S a)];rw[AH,wm]
 by_cases h:a=p
 ·subst h;rw[if_pos rfl];refine bx fun b _ =>?_;grind
 ·rw[if_neg h];refine Eq.trans (bx (g:=fun _=>0) fun b _ =>?_) (kX _);simp[h]
def B1(p:Nat)(L:List Ei):Rat:=bW L fun c=>if c.1.1=(p:Int) then c.2 else 0
def afw{N p:Nat}{L:List Ei}(H:aar N L):bW (List.range N) (kz L p)=B1 p L:=by
 refine Eq.trans (bx (l:=List.range N) (g:=fun b:Nat=>bW L fun c=>if ((p:Int),(b:Int))=c.1 then c.2 else 0) fun b _=>by unfold kz;exact Qs _ _) ?_;rw[ub];unfold B1;refine bx fun c a =>?_;obtain⟨d,f⟩:=H.to_ c a;obtain⟨j,h⟩:∃j:Nat,c.1.2=j:=⟨c.1.2.toNat,by omega⟩
 by_cases hp:c.1.1=(p:Int)
 ·rw[if_pos hp,bx (g:=fun b=>if b=j then c.2 else 0) fun b _ =>?_,mS (by omega) fun _=>c.2];grind
 ·rw[if_neg hp];exact Eq.trans (bx (g:=fun _=>0) fun b _=>if_neg (fun e=>hp (by rw[<- e]))) (kX _)
def abk{N p:Nat}{L:List Ei}(H:aar N L)(a:p<N):iz (ki N (kz L)) p=1-B1 p L:=by
 unfold iz;rw[aby a fun b=>(AI H.pos).1,afw H]
def gk(m:bl)(k:Nat):Bool:=match m.ax.aN[k]? with|some y=>y.bj==0|none=>false
def gv(m:bl)(i:Nat):Rat:=bW (List.range m.ax.aN.length) fun k=>if gk m k=true then CX m.ax k i else 0
def ls(m:bl)(i:Nat):Rat:=bW (List.range m.ax.aN.length) fun k=>if gk m k=true then 0 else CX m.ax k i
def ahY{m:bl}{i:Nat}(b:s9 m.ax)(c:HH m.ax)(d:i<m.ax.aw.length):gv m i+ls m i=1∧0<=gv m i∧0<=ls m i:=by
 have f:∀k∈List.range m.ax.aN.length,0<=CX m.ax k i:=fun k a=>by
  obtain⟨_,_,_,h,_⟩:=qz b c (aos.1 a) d;exact h
 refine⟨?_,D8 fun k a =>?_,D8 fun k a =>?_⟩
 ·have e:=abN b c d;rw[Z0]at e;rw[<- e];unfold gv ls;rw[<- D7];grind
 ·grind
 grind
def GN(m:bl)(i:Nat)(F:fE->Rat):Rat:=(m.ax.aw[i]?).elim 0 fun x=>if x.bj=1 then F (sS m x.aY) else 0
def qt(p:Nat)(u:fE)(q:Rat):Rat:=if u.bg=(p:Int) then q else 0
def aa0(g:List Int)(m:bl)(p:Nat):B1 p (pr g m)=bW (List.range m.ax.aw.length) fun i=>GN m i fun u=>qt p u (GY g u*gv m i):=by
 unfold B1 pr;rw[nK];refine bx fun i _ =>?_;unfold Df GN;cases d:m.ax.aw[i]? with
 | none=>rfl
 | some x =>
  simp only[Option.elim_some]
  by_cases a:x.bj=1
  ·rw[if_pos a,if_pos a,nK];generalize sS m x.aY=u;have hk:∀k,bW (zr m i u (GY g u) k) (fun c=>if c.1.1=(p:Int) then c.2 else 0)=qt p u (GY g u*if gk m k=true then CX m.ax k i else 0):=by
    intro k;unfold zr gk qt;cases m.ax.aN[k]? with
    | none=>show bW [] _=_;simp[bW]
    | some y =>
     simp only
     by_cases h0:y.bj=0
     ·by_cases b:CX m.ax k i=0
      ·rw[if_neg (fun h=>h.2 b),b];show (0:Rat)=_;split<;>simp
      ·rw[if_pos ⟨h0,b⟩];simp only[bW,h0];grind
     ·rw[if_neg (fun h=>h0 h.1)];show (0:Rat)=_;split<;>simp[h0]
   rw[bx fun k _=>hk k];unfold qt gv;split
   ·rw[vl]
   ·exact kX _
  ·rw[if_neg a,if_neg a];rfl
def afT{m:bl}{N:Nat}(a:zl m N)(F:fE->Rat):bW (List.range m.ax.aw.length) (fun i=>GN m i F)=bW m.aX F:=by
 unfold GN;refine Eq.trans (C0 m.ax.aw fun x=>if x.bj=1 then F (sS m x.aY) else 0) ?_;rw[bx (g:=fun x=>if (x.bj==1)=true then F (sS m x.aY) else 0) fun x _=>by simp_all,<- wm (fun x:ie=>x.bj==1) fun x=>F (sS m x.aY)];rw[<- AH (fun x:ie=>x.aY) fun n=>F (sS m n),abX a.takes];unfold yH;rw[AH];refine Eq.trans (bx fun j b =>?_) (C0 m.aX F);unfold sS;simp_all
def ad2(w:aT)(p:Nat):B1 p (qE w)=bW w.au fun m=>B1 p (pr w.ak m):=by
 unfold qE B1;exact nK ..
def ab7(p:Nat)(m:bl):Rat:=bW m.aX fun u=>qt p u (u.aR:Rat)
def Z1(p:Nat):∀l:List fE,bW l (fun u=>qt p u (u.aR:Rat))=((qJ p l:Int):Rat)
 | []=>by simp[bW,qJ]
 | u::l=>by
  have e:qJ p (u::l)=(if u.bg=(p:Int) then u.aR else 0)+qJ p l:=by
   unfold qJ;rw[anN,py (fun u:fE=>if u.bg=(p:Int) then u.aR else 0)];omega
  simp only[bW];rw[Z1 p l,e,Rat.intCast_add];congr 1;unfold qt;split<;>simp
def KI(p:Nat):∀a:List bl,bW a (ab7 p)=((lB p a:Int):Rat)
 | []=>by simp[bW,lB]
 | m::a=>by
  have e:lB p (m::a)=qJ p m.aX+lB p a:=by
   unfold lB;rw[anN,py (fun m:bl=>qJ p m.aX)];omega
  simp only[bW];rw[KI p a,e,Rat.intCast_add];congr 1;exact Z1 p _
def akf{g:List Int}{p:Nat}{u:fE}(h:u.bg=(p:Int))(a:1<=g.getD p 0):GY g u*((g.getD p 0:Int):Rat)=(u.aR:Rat):=by
 unfold GY;rw[h,anY,apF];have:((g.getD p 0:Int):Rat)≠0:=by exact_mod_cast (show g.getD p 0≠0 by omega)
 grind
def Wb{w:aT}(d:n5 w)(a:gL w){p:Nat}(j:p<w.ak.length) :
  B1 p (qE w)*((w.ak.getD p 0:Int):Rat)=((lB p w.au:Int):Rat)-bW w.au fun m=>bW (List.range m.ax.aw.length) fun i=>GN m i fun u=>qt p u ((u.aR:Rat)*ls m i):=by
 have e:=a.given (w.ak.getD p 0) (by simp_all);rw[ad2,Rat.mul_comm,<- vl,<- KI,<- KH];refine bx fun m b =>?_;have f:=(d.mill m b).1;have c:=a.fit m b;rw[aa0,<- vl];unfold ab7;rw[<- afT c,<- KH];refine bx fun i g =>?_;obtain⟨k,_,_⟩:=ahY f c.flow (aos.1 g);unfold GN;cases m.ax.aw[i]? with
 | none=>grind
 | some x =>
  simp only[Option.elim_some];split
  ·unfold qt;split
   ·rename_i h;have:=akf h e.1;grind
   ·grind
  ·grind
def KX{w:aT}(a:gL w){p:Nat}(b:p<w.ak.length):0<=lB p w.au∧lB p w.au<=w.ak.getD p 0:=by
 have e:=a.given (w.ak.getD p 0) (by simp_all);have f:=a.used p b;have g:=ahw (q:=p) (ms:=w.au) fun m c u d=>((a.fit m c).uses u d).2;omega
def agR{w:aT}(c:n5 w)(d:gL w)(p:Nat):0<=bW w.au fun m=>bW (List.range m.ax.aw.length) fun i=>GN m i fun u=>qt p u ((u.aR:Rat)*ls m i):=by
 refine D8 fun m b=>D8 fun i e =>?_;have a:=d.fit m b;obtain⟨_,_,f⟩:=ahY (c.mill m b).1 a.flow (aos.1 e);unfold GN;cases g:m.ax.aw[i]? with
 | none=>simp
 | some x =>
  simp only[Option.elim_some];split
  ·rename_i h;have j:=(a.uses _ (FL a (anv g) h).2).2;unfold qt;split
   ·exact apA (by exact_mod_cast (show (0:Int)<=(sS m x.aY).aR by omega)) f
   ·simp
  ·simp
def agC{w:aT}(b:n5 w)(a:gL w){p:Nat}(c:p<w.ak.length):B1 p (qE w)<=1:=by
 have f:=a.given (w.ak.getD p 0) (by simp_all);have d:=Wb b a c;have g:=agR b a p;have h:((lB p w.au:Int):Rat)<=((w.ak.getD p 0:Int):Rat):=by exact_mod_cast (KX a c).2
 have e:(0:Rat)<((w.ak.getD p 0:Int):Rat):=by exact_mod_cast (show (0:Int)<w.ak.getD p 0 by omega)
 refine Rat.le_of_mul_le_mul_right ?_ e;rw[d];grind
def JH{w:aT}(a:n5 w)(b:gL w):mw w.ak.length (ki w.ak.length (kz (qE w))) where
 ports:=by have:=a.given;omega
 takes:=by have:=(PS a.given (DX a b).2).1;omega
 ok t d:=by
  obtain⟨e,f,g,h⟩:=DR.1 d;simp_all
 sorted:=QD _ _
 leak p c:=by
  rw[abk (aiK a b) c];have:=agC a b c;grind
section
variable {w:aT} {p:Nat} {d:Int}
end
def U0(q:Rat):Int×List Int×Int×List Int:=((b9 q).bF.al,(b9 q).bF.aa,(b9 q).bJ.al,(b9 q).bJ.aa)
theorem abY(f:Nat->Rat)(n:Nat):bW (List.range (n+1)) f=bW (List.range n) f+f n:=by
 rw[apz,lh];simp only[bW];grind
def QY{K n:Nat}{f:Nat->Rat}(h:∀i,i<n->LF (f i)<=K):LF (bW (List.range n) f)<=1+n*(K+1):=by
 have:=Hn (f:=f) (l:=List.range n) fun a b=>h a (aos.1 b);simp_all
section
variable {m:bl} {N:Nat}
end
section
variable {w:aT}
end
def ak7:2*(2 ^ 6*(4 ^ 6*(2700+1)))+100<=dh:=by decide
def XsW{N p x:Nat}(a:N<=6)(h:x<=2 ^ (N-1-p)*(4 ^ N*(2700+1))):x<=1000000000:=by
 have b:2 ^ (N-1-p)<=2 ^ 6:=apD (by decide) (by omega);have c:4 ^ N<=4 ^ 6:=apD (by decide) a;have d:=apx b (anM (2700+1) c);omega
open Classical in
def Qi{α ρ:Type}(l:List α)(Q:Nat->α->Prop)(v:ρ){body:Int->Option (Int⊕(Unit⊕ρ))}(k:l.length<=2000)(f:∀(i:Nat) x,l[i]? = some x->body (i:Int)=if Q i x then some (.inl ((i+1:Nat):Int)) else some (.inr (.inr v)))(g:body (l.length:Int)=some (.inr (.inl ()))) :
  (aO body 0=some (.inl ())∧∀(i:Nat) x,l[i]? = some x->Q i x)∨(aO body 0=some (.inr v)∧∃(i:Nat)(x:α),l[i]? = some x∧¬Q i x):=by
 have b:=oA l (fun i x=>if Q i x then none else some v) (by omega) (fun i x e=>by rw[f i x e];split<;>rfl) g;cases c:eU (fun (i:Nat) (x:α)=>if Q i x then none else some v) 0 l with
 | none =>
  left;rw[c]at b;refine⟨b,fun i x e =>?_⟩;have:=cT.1 c i x e;rw[an5]at this;split at this
  ·assumption
  ·cases this
 | some q =>
  right;rw[c]at b;obtain⟨j,x,h,d,_⟩:=dj c;rw[an5]at d;split at d
  ·cases d
  ·rename_i a;cases d;exact⟨b,j,x,h,a⟩
open Classical in
def UR{α:Type}(l:List α)(Q:Nat->α->Prop){body:Int->Option (Int⊕(Unit⊕Bool))}(a:l.length<=2000)(b:∀(i:Nat) x,l[i]? = some x->body (i:Int)=if Q i x then some (.inl ((i+1:Nat):Int)) else some (.inr (.inr false)))(c:body (l.length:Int)=some (.inr (.inl ()))) :
  (aO body 0=some (.inl ())∧∀(i:Nat) x,l[i]? = some x->Q i x)∨(aO body 0=some (.inr false)∧∃(i:Nat)(x:α),l[i]? = some x∧¬Q i x):=Qi l Q false a b c
def aiz{α:Type}(l:List α)(p:α->Bool)(i:Nat):Prop:=(∃x,l[i]? = some x∧p x=true)∧∀(j:Nat) y,l[j]? = some y->p y=true->j=i
def XF(n:Nat):(yH n).Nodup:=by
 unfold yH List.Nodup;rw[ao3];exact (aot (n:=n)).imp fun h=>by omega
def aeE{n:Nat}{x:Int}:x∈yH n↔∃j:Nat,j<n∧x=j:=by
 unfold yH;grind
section
variable {α:Type} {l:List α} {p:α->Bool} {g:α->Int} {n:Nat}
def P7(h:((l.filter p).map g).Perm (yH n)){j:Nat}(o:j<n):∃i,aiz l (fun x=>p x&&g x==(j:Int)) i:=by
 have q:(j:Int)∈(l.filter p).map g:=h.mem_iff.2 (aeE.2 ⟨j,o,rfl⟩);obtain⟨x,r,d⟩:=am5.1 q;obtain⟨e,f⟩:=aop.1 r;obtain⟨i,s⟩:=anq e;refine⟨i,⟨x,s,by simp[f,d]⟩,fun k y A t =>?_⟩;simp only[anF,beq_iff_eq]at t;have c:((l.filter p).map g).Nodup:=h.nodup_iff.2 (XF n);unfold List.Nodup at c;rw[ao3,List.pairwise_filter]at c;have key:∀(a b:Nat)(u v:α),a<b->l[a]? = some u->l[b]? = some v->p u=true->p v=true->g u≠g v:=fun a b u v m w z B C=>by
  have D:=ao4.1 c a b (aQ w) (aQ z) m;grind
 grind
end
def aj8{ρ:Type}(g:(Int×List Int×Int×List Int)->ρ)(n:Nat)(F:Nat->Rat){K:Nat}{body:Int×(Int×List Int×Int×List Int)->Option ((Int×(Int×List Int×Int×List Int))⊕ρ)}{A:Rat}(e:n<=2000)(hF:∀i,i<n->LF (F i)<=K)
  (h:∀(i:Nat)(s:Rat),i<n->LF s<=LF A+i*(K+1)+2->body ((i:Int),U0 s)=some (.inl (((i+1:Nat):Int),U0 (s+F i))))
  (k:∀s,body ((n:Int),U0 s)=some (.inr (g (U0 s)))):aO body (0,U0 A)=some (g (U0 (A+bW (List.range n) F))):=by
 have a:A=A+bW (List.range 0) F:=by grind[bW]
 obtain⟨q,b,c⟩:=dq (body:=body) (fun i st=>st=((i:Int),U0 (A+bW (List.range i) F))) n (fun q=>q=g (U0 (A+bW (List.range n) F))) (s:=(0,U0 A)) (by rw[<- a];rfl) (ky (by omega)) (by
  rintro i _ l rfl
  by_cases d:i<n
  ·left;have m:=QY (n:=i) (f:=F) fun j o=>hF j (by omega);grind[bW,List.range,xF,abY]
  grind)
 rw[b,c]
def abO{row:List an}{n:Nat}{c a:Nat->Rat}{K:Nat}(k:n<=100)(g:∀i,i<n->row[i]? = some (b9 (c i))∧LF (c i)<=4)(h:∀i,i<n->LF (a i)<=K)(l:K<=10000000000) :
  jY row (bR n a)=some (b9 (bW (List.range n) fun i=>c i*a i))∧LF (bW (List.range n) fun i=>c i*a i)<=1+n*(K+5):=by
 have j:dh=4398046511104:=rfl;have d:∀i,i<n->LF (c i*a i)<=K+4:=fun i b=>by
  grind[wv]
 refine⟨?_,QY (K:=K+4) (f:=fun i=>c i*a i) d⟩;have m:=A3;have key:aO (lG row (bR n a)) (0,U0 0)=some (U0 (0+bW (List.range n) fun i=>c i*a i)):=by
  refine aj8 id n (fun i=>c i*a i) (by omega) d (fun i s b o =>?_) (fun s=>by
   simp_all[lG,U0,cZ,if_neg])
  have p:i*(K+4+1)<=100*10000000005:=apx (by omega) (by omega);have q:=d i b;have r:=(g i b).2;have t:=h i b;have e:oo (an.mk (aF.mk (b9 s).bF.al (b9 s).bF.aa) (aF.mk (b9 s).bJ.al (b9 s).bJ.aa)) (b9 (c i*a i))=some (b9 (s+c i*a i),0):=XS (by omega);simp only[lG,U0];rw[cZ,if_pos (by simpa using b),aS (fw a b),aoo,aS (g i b).1,aoo,X1 (by omega),aoo,e,aoo,ba (by omega)]
 unfold jY;rw[aiX,aoo];erw [key];rw[show (0:Rat)+(bW (List.range n) fun i=>c i*a i)=bW (List.range n) fun i=>c i*a i by grind];rfl
structure ajW(l:List (List an)):Prop where
 len:l.length<=8
 row:∀r∈l,r.length<=8∧∀f∈r,f.bF.aa.length<=3∧f.bJ.aa.length<=3
def akj(l:List (List an)):∃b,Br l=some b∧(b=true->ajW l):=by
 have d:(l.take 9).length=min 9 l.length:=ann;have f:∀r:List an,r.length<=8->(aO (rJ r) 0=some (.inl ())∧∀(i:Nat) x,r[i]? = some x->(x.bF.aa.length:Int)<=3∧(x.bJ.aa.length:Int)<=3)∨(aO (rJ r) 0=some (.inr false)∧∃(i:Nat)(x:an),r[i]? = some x∧¬((x.bF.aa.length:Int)<=3∧(x.bJ.aa.length:Int)<=3)):=fun r m =>
  UR r (fun _ x=>(x.bF.aa.length:Int)<=3∧(x.bJ.aa.length:Int)<=3) (by omega) (fun i x a=>by
   have c:=aQ a;simp only[rJ];rw[if_pos (by simpa using c),aS a,aoo,aiT,aoo,ba (by omega)];grind) (by simp only[rJ];simp_all)
 have g:=UR (l.take 9) (fun _ r=>r.length<=8∧∀(i:Nat) x,r[i]? = some x->(x.bF.aa.length:Int)<=3∧(x.bJ.aa.length:Int)<=3) (body:=va l) (by omega) (fun i r a=>by
  have c:=aQ a;rw[d]at c;rw[anw,if_pos (by omega)]at a;simp only[va];rw[if_pos (by simp;omega),aoo,if_pos (by simp;omega),aS a,aoo]
  by_cases k:r.length<=8
  ·rw[if_neg (by simp;omega)];rcases f r k with⟨e,h⟩|⟨e,j,x,n,o⟩
   ·rw[e,if_pos ⟨k,h⟩,ba (by omega)];rfl
   grind
  grind) (by
  simp only[va];grind)
 unfold Br;rcases g with⟨e,h⟩|⟨e,_⟩
 ·rw[e,aoo];refine⟨_,rfl,fun p =>?_⟩;have k:=of_decide_eq_true p;refine⟨by omega,fun r m =>?_⟩;obtain⟨i,c⟩:=anq m;obtain⟨n,o⟩:=h i r (by grind);grind[List.getElem?_of_mem]
 simp_all
theorem Mz{l:List Int}{q:Int}{j:Nat}(h:l[j]? = some q):0<l.count q:=List.count_pos_iff.2 (anv h)
theorem My{q:Int}:∀{l:List Int}{i j:Nat},l.count q=1->l[i]? = some q->l[j]? = some q->i=j
 | [],_,_,h,_,_=>by simp at h
 | x::l,0,0,_,_,_=>rfl
 | x::l,0,j+1,h,h1,h2=>by
  grind
 | x::l,i+1,0,h,h1,h2=>by
  grind
 | x::l,i+1,j+1,h,h1,h2=>by
  have a:l[i]? = some q:=by simpa using h1
  have b:l[j]? = some q:=by simpa using h2
  have:=Mz a;have c:l.count q=1:=by
   grind
  rw[My c a b]
def D9(m:bl)(a:List bl)(q:Nat):K7 (m::a) q=(m.aC.count (q:Int):Int)+K7 a q:=by
 unfold K7;rw[anN,py (fun m:bl=>(m.aC.count (q:Int):Int)) a (0+_)];omega
def QF(q:Nat):∀a:List bl,0<=K7 a q
 | []=>by simp[K7]
 | m::a=>by have:=QF q a;rw[D9];omega
def aag{q:Nat}:∀{ms:List bl}{i:Nat}{m:bl},ms[i]? = some m->(m.aC.count (q:Int):Int)<=K7 ms q
 | [],_,_,h=>by simp at h
 | a::ms,0,m,h=>by
  simp only[List.getElem?_cons_zero,anf]at h;subst h;have:=QF q ms;rw[D9];omega
 | a::ms,i+1,m,h=>by
  have:=aag (q:=q) (ms:=ms) (i:=i) (m:=m) (by simpa using h);rw[D9];omega
def aah{q:Nat}:∀{ms:List bl},K7 ms q=1->∃(i:Nat)(m:bl),ms[i]? = some m∧m.aC.count (q:Int)=1∧∀(k:Nat)(n:bl),ms[k]? = some n->0<n.aC.count (q:Int)->k=i
 | [],h=>by simp[K7]at h
 | a::ms,h=>by
  have f:=QF q ms;rw[D9]at h
  by_cases g:a.aC.count (q:Int)=0
  ·obtain⟨i,m,c,d,j⟩:=aah (q:=q) (ms:=ms) (by omega);refine⟨i+1,m,by simpa using c,d,fun k n b e =>?_⟩;grind
  ·refine⟨0,a,rfl,by omega,fun k n b e =>?_⟩;cases k with
   | zero=>rfl
   | succ k =>
    have:=aag (q:=q) (ms:=ms) (i:=k) (m:=n) (by simpa using b);omega
def pU(w:aT)(p i k:Nat):Prop:=∃m y,w.au[i]? = some m∧m.ax.aN[k]? = some y∧y.bj=0∧m.aC.getD y.aY.toNat 0=(p:Int)
def S0{m:bl}{N:Nat}(a:zl m N){k:Nat}{y:um}(b:m.ax.aN[k]? = some y)(c:y.bj=0):∃j:Nat,y.aY=j∧m.aC[j]? = some (m.aC.getD y.aY.toNat 0):=by
 obtain⟨j,d,e⟩:=Jg a (anv b) c;grind
def E9{w:aT}(b:gL w){p:Nat}(l:p<w.ak.length):∃i k,pU w p i k∧∀i' c,pU w p i' c->i'=i∧c=k:=by
 have n:K7 w.au p=1:=by
  have:=b.once p l;have:=QF p w.au;omega
 obtain⟨i,m,h,u,v⟩:=aah n;have o:=b.fit m (anv h);obtain⟨j,q⟩:=anq (List.count_pos_iff.1 (show 0<m.aC.count (p:Int) by omega));obtain⟨k,⟨y,r,a⟩,x⟩:=P7 o.gives (aQ q);simp only[anF,beq_iff_eq]at a;refine⟨i,k,⟨m,y,h,r,a.1,?_⟩,?_⟩
 ·grind
 ·rintro i' c ⟨s,z,d,e,f,t⟩;have g:=b.fit s (anv d);obtain⟨A,B,C⟩:=S0 g e f;grind[Mz,Option.some.inj,My]
def YQ(w:aT)(p:Nat)(F:Nat->Nat->Rat):Rat:=bW (List.range w.au.length) fun i=>(w.au[i]?).elim 0 fun m=>bW (List.range m.ax.aN.length) fun k=>(m.ax.aN[k]?).elim 0 fun y=>if y.bj=0∧m.aC.getD y.aY.toNat 0=(p:Int) then F i k else 0
theorem DJ{w:aT}(q:gL w){p:Nat}(r:p<w.ak.length){i k:Nat}(h:pU w p i k)(F:Nat->Nat->Rat):YQ w p F=F i k:=by
 obtain⟨u,v,x,l⟩:=E9 q r;obtain⟨rfl,rfl⟩:=l i k h;obtain⟨m,y,o,s,A,B⟩:=h;unfold YQ;rw[bx (g:=fun a=>if a=i then F i k else 0) fun a f =>?_,mS (aQ o)];have f:=aos.1 f;have c:w.au[a]? = some w.au[a]:=anj f;generalize w.au[a]=n at c;rw[c,Option.elim_some];rw[bx (g:=fun b=>if b=k then (if a=i then F i k else 0) else 0) fun b j =>?_]
 ·by_cases e:a=i
  ·subst e;rw[o]at c;obtain rfl:=ao0 c;rw[mS (aQ s)]
  ·rw[if_neg e];exact Eq.trans (bx (g:=fun _=>0) fun b _=>by split<;>rfl) (kX _)
 ·have j:=aos.1 j;have d:n.ax.aN[b]? = some n.ax.aN[b]:=anj j;generalize n.ax.aN[b]=z at d;rw[d,Option.elim_some]
  by_cases t:z.bj=0∧n.aC.getD z.aY.toNat 0=(p:Int)
  ·obtain⟨rfl,rfl⟩:=l a b ⟨n,z,c,d,t⟩;simp_all
  grind
structure OkS(w:aT)(S:List (List an))(s:Nat->Nat->Rat):Prop where
 len:S.length=w.au.length
 row:∀(i:Nat) m,w.au[i]? = some m->S[i]? = some (bR m.ax.aw.length (s i))
 nn:∀(i:Nat) m,w.au[i]? = some m->∀k,k<m.ax.aw.length->0<=s i k∧LF (s i k)<=100
 tk:∀(i:Nat) m,w.au[i]? = some m->∀(k:Nat) x,m.ax.aw[k]? = some x->x.bj=1->s i k=0
def ahX(f:eL)(k:Nat)(x:an):Prop:=okF x=true∧∀y,f.aw[k]? = some y->y.bj=1->x.bF.al=0
def acq(f:eL)(l:List an):Prop:=l.length=f.aw.length∧∀(k:Nat) x,l[k]? = some x->ahX f k x
def SzA(K:Nat)(S:List (List an)):Prop:=∀r∈S,∀f∈r,f.bF.aa.length<=K∧f.bJ.aa.length<=K
def Le{f:eL}{l:List an}(u:f.aw.length<=100)(p:∀x∈l,x.bF.aa.length<=100∧x.bJ.aa.length<=100):∃b,q9 f l=some b∧(b=true↔acq f l):=by
 have r:dh=4398046511104:=rfl;unfold q9 acq
 by_cases c:l.length=f.aw.length
 rotate_left
 ·(simp_all;omega)
 rw[if_neg (by simp[c])];rcases Qi l (ahX f) false (body:=og f l) (by omega) (fun i x d=>by
  have s:=aQ d;have n:=p x (anv d);have g:f.aw[i]? = some (f.aw[i]'(by omega)):=anj _;generalize f.aw[i]'(by omega)=y at g;simp only[og];rw[if_pos (by simpa using s),aS d,aoo,zo ⟨by unfold ll;omega,by unfold ll;omega⟩,aoo,ba (by omega)];cases a:okF x with
  | false=>rw[if_pos (by simp),if_neg (fun h=>by have:=h.1;simp_all)]
  | true =>
   rw[if_neg (by simp),aS g,aoo]
   by_cases j:y.bj=1
   ·obtain⟨q,rfl⟩:=sg.1 a;rw[if_pos (by simpa using j),Cc (by have:=tr n.1 n.2;omega),aoo]
    by_cases h2:q.num.sign=0
    ·rw[if_neg (by simp[h2]),if_pos ⟨a,fun t k _=>h2⟩]
    ·rw[if_pos (by simpa using h2),if_neg (fun h=>h2 (h.2 y g j))]
   ·rw[if_neg (by simpa using j),if_pos ⟨a,fun t k v=>by simp_all⟩]) (by grind[og]) with⟨e,h⟩|⟨e,i,x,d,o⟩
 ·simp_all
 ·rw[e];exact⟨false,rfl,by grind⟩
def TO{l:List an}(f:l.length<=2000)(k:∀x∈l,okF x=true∧x.bF.aa.length<=100∧x.bJ.aa.length<=100):∃b,cK l=some b∧(b=false↔∀x∈l,0<=x.bF.al):=by
 have m:dh=4398046511104:=rfl;unfold cK dO;rw[oA l (fun i x=>if 0<=x.bF.al then none else some (i:Int)) (by omega) (fun i x a =>?_) (by grind[eC])]
 ·cases n:eU (fun (i:Nat) (x:an)=>if 0<=x.bF.al then none else some (i:Int)) 0 l with
  | none =>
   refine⟨false,rfl,?_⟩;simp only[true_iff];grind[List.getElem?_of_mem,cT]
  | some q =>
   obtain⟨j,x,p,c,_⟩:=dj n;split at c
   ·cases c
   ·rename_i g;cases c;refine⟨true,by simp,?_⟩;grind
 ·have o:=aQ a;obtain⟨d,h⟩:=k x (anv a);obtain⟨q,rfl⟩:=sg.1 d;have e:(b9 q).bF.al=q.num.sign:=rfl;simp only[eC,oe];rw[if_pos (by simpa using o),aS a,aoo,Cc (by have:=tr h.1 h.2;omega),aoo,aoo,ba (by omega),e];grind
def F4{w:aT}(W:w.au.length<=5)(P:∀m∈w.au,s9 m.ax){S:List (List an)}(H:SzA 100 S) :
  ∃e,my w S=some e∧(e=0↔∃s,OkS w S s)∧(e=0∨e=1∨e=3∧∃r∈S,∃x∈r,x.bF.al<0):=by
 have C:∀{s:Nat->Nat->Rat},OkS w S s->∀(i:Nat) m,w.au[i]? = some m->∃r,S[i]? = some r∧acq m.ax r:=fun {s} h i m c=>by
  refine⟨_,h.row i m c,cZ _,fun k x a =>?_⟩;have t:k<m.ax.aw.length:=by grind[aQ,cZ]
  rw[fw _ t]at a;obtain rfl:=ao0 a;refine⟨Fk _,fun y Q u =>?_⟩;rw[h.tk i m c k y Q u];rfl
 unfold my
 by_cases g:S.length=w.au.length
 rotate_left
 ·exact⟨1,by grind,⟨fun h=>by simp at h,fun⟨s,h⟩=>absurd h.len g⟩,.inr (.inl rfl)⟩
 rw[if_neg (by simp[g])];rcases Qi w.au (fun i m=>∃r,S[i]? = some r∧acq m.ax r) (1:Int) (body:=mz w S) (by omega) (fun i m a=>by
  have c:=aQ a;have v:S[i]? = some (S[i]'(by omega)):=anj _;have d:=ani (show i<S.length by omega);generalize S[i]'(by omega)=r at v d;have R:=P m (anv a);obtain⟨b,I,T⟩:=Le (f:=m.ax) (l:=r) (by have:=R.srcs;omega) (H r d);simp only[mz];rw[if_pos (by simpa using c),aS a,aoo,aS v,aoo,I,aoo,ba (by omega)];cases b with
  | true=>simp_all
  | false=>simp_all) (by grind[mz]) with⟨e,n⟩|⟨e,i,m,a,o⟩
 rotate_left
 ·rw[e];exact⟨1,rfl,⟨fun h=>by simp at h,fun⟨s,h⟩=>absurd (C h i m a) o⟩,.inr (.inl rfl)⟩
 rw[e,aoo];simp only;have z:∀r∈S,∃m∈w.au,acq m.ax r:=fun r v=>by
  obtain⟨j,X,rfl⟩:=ao5 v;have p:w.au[j]? = some (w.au[j]'(by omega)):=anj _;grind
 have J:∀r∈S,r.length<=100∧∀x∈r,okF x=true∧x.bF.aa.length<=100∧x.bJ.aa.length<=100:=fun r v=>by
  obtain⟨m,K,u,A⟩:=z r v;have:=(P m K).srcs;refine⟨by omega,fun x a =>?_⟩;obtain⟨k,t⟩:=anq a;exact⟨(A k x t).1,H r v x a⟩
 rcases Qi S (fun _ r=>∀x∈r,0<=x.bF.al) (3:Int) (body:=mA S) (by omega) (fun i r a=>by
  have c:=aQ a;obtain⟨Y,U⟩:=J r (anv a);obtain⟨b,I,T⟩:=TO (l:=r) (by omega) U;simp only[mA];rw[if_pos (by simpa using c),aS a,aoo,I,aoo,ba (by omega)];grind) (by grind[mA]) with⟨e,L⟩|⟨e,i,r,a,o⟩
 ·rw[e];refine⟨0,rfl,⟨fun _ =>?_,fun _=>rfl⟩,.inl rfl⟩;refine⟨fun i k=>Xc ((S.getD i []).getD k zF),g,fun i m c =>?_,fun i m c k t =>?_,fun i m c k x t u =>?_⟩
  ·obtain⟨r,u,A,B⟩:=n i m c;have M:S.getD i []=r:=by simp_all
   rw[u,M];refine congrArg some (gZ A fun k t =>?_);show r[k]? = some (b9 (Xc (r.getD k zF)));have p:r[k]? = some (r[k]'(by omega)):=anj _;obtain⟨q,F⟩:=sg.1 (B k _ p).1;grind[Bu]
  ·obtain⟨r,u,A,B⟩:=n i m c;have M:S.getD i []=r:=by simp_all
   have p:r[k]? = some (r[k]'(by omega)):=anj _;have d:=anv u;have a:=anv p;obtain⟨q,F⟩:=sg.1 (B k _ p).1;have G:=L i r u _ a;have N:=H r d _ a;rw[F]at G N;have O:Xc ((S.getD i []).getD k zF)=q:=by grind[Bu]
   rw[O];have Z:¬q<0:=fun h=>by have:=wh.2 h;have e:(b9 q).bF.al=q.num.sign:=rfl;omega
   exact⟨by grind,tr N.1 N.2⟩
  ·obtain⟨r,g1,A,B⟩:=n i m c;have M:S.getD i []=r:=by simp_all
   have V:=aQ t;have p:r[k]? = some (r[k]'(by omega)):=anj _;obtain⟨q,F⟩:=sg.1 (B k _ p).1;have G:=(B k _ p).2 x t u;rw[F]at G;have O:Xc ((S.getD i []).getD k zF)=q:=by grind[Bu]
   exact O.trans (afd.1 G)
 ·rw[e];refine⟨3,rfl,⟨fun h=>by simp at h,fun⟨s,h⟩ =>?_⟩,.inr (.inr ⟨rfl,r,anv a,?_⟩)⟩
  ·refine absurd (fun x E =>?_) o;have c:i<w.au.length:=by grind
   have p:w.au[i]? = some (w.au[i]):=anj c;have:=h.row i _ p;rw[a]at this;rw[ao0 this]at E;obtain⟨k,t,rfl⟩:=am5.1 E;have u:=(h.nn i _ p k (aos.1 t)).1;have A:¬s i k<0:=by grind
   have B:=mt wh.1 A;have e:(b9 (s i k)).bF.al=(s i k).num.sign:=rfl;omega
  simp_all
end Go.Proofs.YtobnihfgnbnncaaGreat.P
