import Derived.Test.YtoioidmblipblaaGreatJf
set_option linter.unusedSimpArgs false
set_option linter.unusedVariables false
noncomputable section
open Go.Proofs.Tryz
namespace Go.Proofs.YtoioidmblipblaaGreat.P
open Go.RowKit
theorem Rj {x y:Int} (O:0<=x) (h:x<8796093022208) (U:0<=y∧y<1048576):j0 .or .i64 (1048576*x) y=1048576*x+y:=by
 unfold j0;simp only;have e1:(BitVec.ofInt IntKind.i64.bits (1048576*x) ||| BitVec.ofInt IntKind.i64.bits y).toNat=1048576*x.toNat+y.toNat:=by
  rw[BitVec.toNat_or,BitVec.toNat_ofInt,BitVec.toNat_ofInt];have e:((2 ^ IntKind.i64.bits:Nat):Int)=18446744073709551616:=by decide
  rw[e];have e2:((1048576*x) % 18446744073709551616).toNat=x.toNat <<< 20:=by rw[Nat.shiftLeft_eq];omega
  have e3:(y % 18446744073709551616).toNat=y.toNat:=by omega
  rw[e2,e3,<- Nat.shiftLeft_add_eq_or_of_lt (by omega),Nat.shiftLeft_eq];omega
 rw[e1,wrap64 (by omega) (by omega)];omega
theorem mk0 {n:Nat} (h:n<=17592186044416):HX 8 (n:Int) (n:Int) (0:Int)=some (List.replicate n 0):=by
 unfold HX;rw[if_pos]
 ·simp
 ·have:(17592186044416:Int)<=maxLen:=by decide
  refine⟨by omega,by omega,by omega,?_⟩;simp only[Int.toNat_natCast];omega
theorem wg {l m:List Int} (h:l.length+m.length<=17592186044416):lf 8 l m=some (l++m):=by
 unfold lf;have:(17592186044416:Nat)<=maxLen:=by decide
 rw[if_pos ⟨by omega,by omega⟩]
theorem dh {σ ρ:Type} {body:σ->Option (σ⊕ρ)} (I:Nat->σ->Prop) (n:Nat) (Q:ρ->Prop) {s:σ} (X:I 0 s) (hn:n+1<FU)
  (O:∀i s,i<=n->I i s->(i<n∧∃U,body s=some (.inl U)∧I (i+1) U)∨(∃r,body s=some (.inr r)∧Q r)):∃r,aS body s=some r∧Q r:=by
 have key:∀(k i:Nat) (s:σ),i<=n->n-i<k->I i s->∃r,nM body k s=some r∧Q r:=by
  intro k
  induction k with
  | zero=>intro i s _ h;omega
  | succ k Y =>
   intro i s Z hk X;rcases O i s Z X with⟨aa,U,h1,h2⟩|⟨r,h1,h2⟩
   ·obtain⟨r,h3,h4⟩:=Y (i+1) U (by omega) (by omega) h2;exact⟨r,by simp only[nM,h1];exact h3,h4⟩
   ·exact⟨r,by simp only[nM,h1],h2⟩
 exact key FU 0 s (agQ _) (by omega) X
theorem T4 (i:Nat) (x:Int):pw (i+1)*x=pw i*(1048576*x):=by rw[ij,ai6 1048576 (pw i),aja]
theorem uf (i:Nat) (t:Int):pw i*(t % 1048576)+pw (i+1)*(t / 1048576)=pw i*t:=by
 rw[T4,<- ai9];congr 1;omega
theorem jq {n:Nat} (h:n<=17592186044416):n+1<FU:=by unfold FU;omega
abbrev Fit (l:List Int):Prop:=l.length<=17592186044416
theorem gq {x:Int} (h : -4611686018427387904<=x∧x<=4611686018427387904):IntKind.i64.wrap x=x:=wrap64 (by omega) (by omega)
theorem ng {α:Type} (o:Option α):(o.bind fun r=>some r)=o:=by cases o<;>rfl
theorem Ja {l:List Int} (Z:Fit l):∃r,aS (kP l) (l.length:Int)=some r∧∃k:Nat,r=k∧k<=l.length∧(∀j (O:j<l.length),k<=j->l[j]=0)∧(∀h:0<k,∀hk:k-1<l.length,l[k-1]≠0):=by
 unfold Fit at Z;refine dh (I:=fun i s=>s=((l.length-i:Nat):Int)∧(∀j (O:j<l.length),l.length-i<=j->l[j]=0)) l.length _ ⟨rfl,fun j O h=>by omega⟩ (jq Z) ?_;rintro i s hi ⟨rfl,U⟩;generalize hk:l.length-i=k at *;simp only[kP]
 by_cases h0:0<k
 ·have X:k-1<l.length:=by omega
  have e:IntKind.i64.wrap ((k:Int)-1)=((k-1:Nat):Int):=by rw[gq (by omega)];omega
  rw[if_pos (by simp;omega),e,cj X,aiv]
  by_cases hx:l[k-1]=0
  ·left;refine⟨by omega,_,by rw[if_pos (by simpa using hx)],by rw[show l.length-(i+1)=k-1 by omega],fun j O h =>?_⟩
   by_cases Y:j=k-1
   ·subst Y;exact hx
   ·exact U j O (by omega)
  ·right;exact⟨_,by rw[if_neg (by simpa using hx)],k,rfl,by omega,U,fun _ _=>hx⟩
 ·right;exact⟨_,by rw[if_neg (by simp;omega)],k,rfl,by omega,U,fun h=>absurd h h0⟩
theorem XS {l:List Int} {k:Nat} (O:∀j (X:j<l.length),k<=j->l[j]=0):dv (l.drop k)=0:=by
 have:l.drop k=List.replicate (l.drop k).length 0:=by
  refine List.eq_replicate_of_mem fun x U =>?_;obtain⟨i,Y,rfl⟩:=List.mem_iff_getElem.1 U;rw[List.getElem_drop];exact O _ _ (by omega)
 rw[this,yS]
theorem sA {l:List Int} (Y:Fit l) (Z:Dg l):dZ l=some (aO (dv l).toNat):=by
 obtain⟨r,h1,k,rfl,hk,hz,O⟩:=Ja Y;unfold dZ;rw[h1,aiv,Kv hk,aiv];congr 1;have h2:dv l=dv (l.take k):=by rw[iO l hk,XS hz];omega
 rw[h2];refine (BG (Z.take k) fun U =>?_).symm;have X:0<k:=by
  rcases ag7 k with h|h
  ·subst h;simp at U
  ·exact h
 have:=O X (by omega);rw[List.getLast_eq_getElem];simp only[ag8,List.getElem_take,ah4 hk];exact this
theorem BX {l:List Int} {n:Nat} (O:Fit l) (U:Dg l) (X:dv l=n):dZ l=some (aO n):=by
 rw[sA O U,X];rfl
def gd (l:List Int) (i:Nat):Int:=if h:i<l.length then l[i] else 0
theorem HD {l:List Int} (h:Dg l) (i:Nat):0<=gd l i∧gd l i<1048576:=by
 unfold gd;split
 ·exact h.get _
 ·omega
theorem pW {l:List Int} (i:Nat):dv (l.take (i+1))=dv (l.take i)+pw i*gd l i:=by
 unfold gd;split
 ·exact fT _
 ·rw[aij (by omega),aij (by omega)];simp
theorem wQ {l:List Int} {i:Nat} (h:l.length<=i):dv (l.take i)=dv l:=by rw[aij h]
theorem WN {a b:List Int} (ha:Dg a) (hb:Dg b) (hf:a.length<17592186044416) (Y:b.length<=a.length) :
  ∃r,aS (oQ a b) (0,0,List.replicate (a.length+1) 0)=some r∧r.2.length=a.length+1∧Dg r.2∧(∀j (X:j<r.2.length),a.length<=j->r.2[j]=0)∧(0<=r.1∧r.1<=1)∧dv r.2+pw a.length*r.1=dv a+dv b:=by
 refine dh (I:=fun i s=>s.2.1=(i:Int)∧s.2.2.length=a.length+1∧Dg s.2.2∧(∀j (X:j<s.2.2.length),i<=j->s.2.2[j]=0)∧(0<=s.1∧s.1<=1)∧dv s.2.2+pw i*s.1=dv (a.take i)+dv (b.take i))
  a.length _ ⟨rfl,by simp,Dg.rep _,fun j X _=>by simp,by simp,by simp[yS,dv]⟩ (jq (by omega)) ?_
 rintro i ⟨c,s,l⟩ hi ⟨h1,Z,hd,hz,hc,he⟩;simp only at h1 Z hd hz hc he;subst h1;simp only[oQ]
 by_cases O:i<a.length
 ·left;rw[if_pos (by simpa using O),cj O,aiv];have ga:=ha.get O;have gb:=HD hb i;have hT:(if decide ((i:Int)<(b.length:Int))=true then (P.idx b (i:Int)).bind fun aa=>some (IntKind.i64.wrap ((IntKind.i64.wrap (c+a[i]))+aa)) else some (IntKind.i64.wrap (c+a[i])))=some (c+a[i]+gd b i):=by
   by_cases U:i<b.length
   ·rw[if_pos (by simpa using U),cj U,aiv];have:gd b i=b[i]:=by unfold gd;rw[dif_pos U]
    rw[this]at gb ⊢;rw[gq (x:=c+a[i]) (by omega),gq (by omega)]
   ·rw[if_neg (by simpa using U)];have:gd b i=0:=by unfold gd;rw[dif_neg U]
    rw[this,gq (by omega)];simp
  rw[hT,aiv,cj (by omega),aiv,Pb,aiv,s8 (by omega) (by omega)];have ab:l[i]=0:=hz i (by omega) (agP _);have e1:IntKind.i64.wrap ((i:Int)+1)=((i+1:Nat):Int):=by rw[gq (by omega)];omega
  refine⟨O,_,rfl,e1,by simpa using Z,hd.set _ (by omega),fun j X ag =>?_,by simp only;omega,?_⟩
  ·simp only[Int.toNat_natCast]at X ⊢;rw[ajd (by omega)];exact hz j (by simpa using X) (by omega)
  ·simp only[Int.toNat_natCast];rw[rV (by omega),ab,pW,pW];have ad:gd a i=a[i]:=by unfold gd;rw[dif_pos O]
   rw[ad];have hp:=uf i (c+a[i]+gd b i);rw[ai9,ai9]at hp;rw[Int.sub_zero];omega
 ·right;have ae:i=a.length:=by omega
  subst ae;refine⟨_,by rw[if_neg (by simp)],Z,hd,fun j X h=>hz j X h,hc,?_⟩;rw[he,wQ (agP _),wQ Y]
theorem add_eq {a b:List Int} (Z:Dg a) (hb:Dg b) (U:a.length<17592186044416) (aa:b.length<17592186044416):pS a b=some (aO (dv a+dv b).toNat):=by
 have main:∀ {a b:List Int},Dg a->Dg b->a.length<17592186044416->b.length<=a.length ->
   ((HX 8 (IntKind.i64.wrap ((a.length:Int)+1)) (IntKind.i64.wrap ((a.length:Int)+1)) 0).bind fun x2 =>
    (aS (oQ a b) (0,0,x2)).bind fun q=>match q with
    | (Y,O) =>
     (P.idx O (a.length:Int)).bind fun ae =>
     (dZ (O.set ((a.length:Int)).toNat Y)).bind fun ab =>
     some ab)=some (aO (dv a+dv b).toNat):=by
  intro a b Z hb U ad;have e:IntKind.i64.wrap ((a.length:Int)+1)=((a.length+1:Nat):Int):=by rw[gq (by omega)];omega
  rw[e,mk0 (by omega),aiv];obtain⟨⟨c,l⟩,h1,h2,h3,h4,h5,h6⟩:=WN Z hb U ad;rw[h1];simp only[Option.bind_some]at h2 h3 h4 h5 h6 ⊢;have X:a.length<l.length:=by omega
  rw[cj X,aiv,ahR,ng];have hv:dv (l.set a.length c)=dv a+dv b:=by
   rw[rV X,h4 _ X (agP _),Int.sub_zero,h6]
  rw[sA (by simp[Fit];omega) (h3.set _ (by omega)),hv]
 unfold pS
 by_cases h:a.length<b.length
 ·rw[if_pos (by simpa using h),aiv,Int.add_comm];exact main hb Z aa (by omega)
 ·rw[if_neg (by simpa using h),aiv];exact main Z hb U (by omega)
theorem tp {l:List Int} (h:Fit l):da l=some l:=by
 unfold da;rw[wg (by simpa using h),aiF]
theorem MF {l:List Int} {i:Nat} (h:i<l.length):gd l i=l[i]:=by unfold gd;rw[dif_pos h]
theorem HE {l:List Int} {i:Nat} (h:l.length<=i):gd l i=0:=by unfold gd;rw[dif_neg (by omega)]
theorem ZA {a b:List Int} (ha:Dg a) (hb:Dg b) (hf:Fit a) (aa:b.length<=a.length) (hle:dv b<=dv a) :
  ∃l,aS (rR b a) (0,0,a)=some l∧l.length=a.length∧Dg l∧dv l=dv a-dv b:=by
 unfold Fit at hf;refine dh (I:=fun i s=>s.2.1=(i:Int)∧s.2.2.length=a.length∧Dg s.2.2∧(∀j (Z:j<s.2.2.length) (Y:j<a.length),i<=j->s.2.2[j]=a[j])∧(0<=s.1∧s.1<=1)∧dv s.2.2+dv (b.take i)=dv a+pw i*s.1)
  a.length _ ⟨rfl,rfl,ha,fun j Z _ _=>rfl,by simp,by simp[dv]⟩ (jq (by omega)) ?_
 rintro i ⟨c,s,l⟩ hi ⟨h1,hl,hd,hz,hc,he⟩;simp only at h1 hl hd hz hc he;subst h1;simp only[rR]
 by_cases O:i<a.length
 ·left;have U:i<l.length:=by omega
  rw[if_pos (by simpa using O),cj U,aiv,hz i U O (agP _)];have ga:=ha.get O;have gb:=HD hb i;have hT:(if decide ((i:Int)<(b.length:Int))=true then (P.idx b (i:Int)).bind fun ab=>some (IntKind.i64.wrap ((IntKind.i64.wrap (a[i]-c))-ab)) else some (IntKind.i64.wrap (a[i]-c)))=some (a[i]-c-gd b i):=by
   by_cases X:i<b.length
   ·rw[if_pos (by simpa using X),cj X,aiv];rw[MF X]at gb ⊢;rw[gq (x:=a[i]-c) (by omega),gq (by omega)]
   ·rw[if_neg (by simpa using X),HE (by omega),gq (by omega)];simp
  rw[hT,aiv,Pb,aiv,s8 (by omega) (by omega),aaB (by omega) (by omega)];have e1:IntKind.i64.wrap ((i:Int)+1)=((i+1:Nat):Int):=by rw[gq (by omega)];omega
  refine⟨O,_,rfl,e1,by simpa using hl,hd.set _ (by omega),fun j Z Y ah =>?_,by simp only;omega,?_⟩
  ·simp only[Int.toNat_natCast]at Z ⊢;rw[ajd (by omega)];exact hz j (by simpa using Z) Y (by omega)
  ·simp only[Int.toNat_natCast];rw[rV U,hz i U O (agP _),pW];have hp:=uf i (a[i]-c-gd b i);have ad:(a[i]-c-gd b i) / 1048576 % 2 = - ((a[i]-c-gd b i) / 1048576):=by omega
   rw[ad,Int.mul_neg];rw[aje,aje]at hp;rw[aje];omega
 ·right;have ae:i=a.length:=by omega
  subst ae;refine⟨l,by rw[if_neg (by simp)],hl,hd,?_⟩;rw[wQ aa]at he;have h1:=nK hd;rw[hl]at h1;have ag:c=0:=by
   rcases (show c=0∨c=1 by omega) with h|h
   ·exact h
   ·subst h;omega
  subst ag;omega
theorem sub_eq {a b:List Int} (X:Dg a) (Y:Dg b) (U:Fit a) (O:b.length<=a.length) (hle:dv b<=dv a):pT a b=some (aO (dv a-dv b).toNat):=by
 obtain⟨l,h1,h2,h3,h4⟩:=ZA X Y U O hle;unfold pT;rw[tp U,aiv,h1,aiv,ng,sA (by unfold Fit at *;omega) h3,h4]
theorem jC {l:List Int} {i:Nat} (h:i<l.length):dv (l.drop i)=l[i]+1048576*dv (l.drop (i+1)):=by
 rw[aiT h,dv]
theorem aaP {x d:Int} (h:0<=x) (O:0<d) (U:x<4611686018427387904):yP .i64 x d=some (x / d):=by
 unfold yP;rw[if_neg (by omega),Int.tdiv_eq_ediv_of_nonneg h,gq];have:=ajf h (Int.le_of_lt O);have:=Int.ediv_le_self d h;omega
theorem adh {x d:Int} (h:0<=x) (O:0<d):xY .i64 x d=some (x % d):=by
 unfold xY;rw[if_neg (by omega),Int.tmod_eq_emod_of_nonneg h]
theorem Rs {a:List Int} {d:Int} (ha:Dg a) (X:0<d∧d<=1048576) (hf:Fit a) :
  ∃r,aS (nW a d) (0,IntKind.i64.wrap ((a.length:Int)-1),List.replicate a.length 0)=some r∧r.2.length=a.length∧Dg r.2∧(0<=r.1∧r.1<d)∧dv a=d*dv r.2+r.1:=by
 unfold Fit at hf;have e0:IntKind.i64.wrap ((a.length:Int)-1)=(a.length:Int)-1:=gq (by omega);rw[e0];refine dh (I:=fun i s=>s.2.1=((a.length-i:Nat):Int)-1∧s.2.2.length=a.length∧Dg s.2.2∧(0<=s.1∧s.1<d)∧dv (a.drop (a.length-i))=d*dv (s.2.2.drop (a.length-i))+s.1)
  a.length _ ⟨rfl,by simp,Dg.rep _,by simp;omega,by simp[dv]⟩ (jq (by omega)) ?_
 rintro i ⟨r,s,l⟩ hi ⟨h1,Y,Z,hr,he⟩;simp only at h1 Y Z hr he;subst h1;generalize hk:a.length-i=k at *;simp only[nW]
 by_cases h0:0<k
 ·left;have O:k-1<a.length:=by omega
  have U:k-1<l.length:=by omega
  have ek:((k:Int)-1)=((k-1:Nat):Int):=by omega
  have ga:=ha.get O;rw[ek,if_pos (by simp),Zj (by omega) (by omega),aiv,cj O,aiv,Rj (by omega) (by omega) ga,aaP (by omega) X.1 (by omega),aiv,cj U,aiv,adh (by omega) X.1,aiv];have e1:IntKind.i64.wrap (((k-1:Nat):Int)-1)=((k-1:Nat):Int)-1:=gq (by omega);have aa:0<=1048576*r+a[k-1]:=by omega
  have ab:0<=(1048576*r+a[k-1]) / d:=ajf aa (by omega);have ad:(1048576*r+a[k-1]) / d<1048576:=by
   apply ajg X.1;have:1048576*r<=1048576*(d-1):=ai8 (by omega) (by omega);omega
  have ae:=Int.emod_nonneg (1048576*r+a[k-1]) (show d≠0 by omega);have ag:=ajh (1048576*r+a[k-1]) X.1;refine⟨by omega,_,rfl,by rw[e1,show a.length-(i+1)=k-1 by omega],by simpa using Y,Z.set _ ⟨ab,ad⟩,⟨ae,ag⟩,?_⟩;simp only[Int.toNat_natCast];rw[show a.length-(i+1)=k-1 by omega,jC O,jC (l:=l.set (k-1) _) (i:=k-1) (by simpa using U),show k-1+1=k by omega,List.getElem_set_self,List.drop_set_of_lt (by omega),he];have:=aji (1048576*r+a[k-1]) d;rw[ai9,ai9];have e3:d*(1048576*dv (l.drop k))=1048576*(d*dv (l.drop k)):=by rw[<- aja,ai6 d,aja]
  rw[e3];omega
 ·right;have:k=0:=by omega
  subst this;refine⟨(r,l),by rw[if_neg (by simp)],Y,Z,hr,?_⟩;simpa using he
theorem O9 {a:List Int} {d:Int} (U:Dg a) (X:0<d∧d<=1048576) (O:Fit a):mi a d=some (aO (dv a / d).toNat,dv a % d):=by
 obtain⟨⟨r,l⟩,h1,h2,h3,h4,h5⟩:=Rs U X O;unfold mi;rw[mk0 O,aiv,h1,aiv];simp only at h2 h3 h4 h5 ⊢;rw[sA (by unfold Fit at *;omega) h3,aiv];have e1:dv a / d=dv l:=by
  rw[h5,ai6,Int.add_comm,Int.add_mul_ediv_right _ _ (by omega),Int.ediv_eq_zero_of_lt h4.1 h4.2];omega
 have e2:dv a % d=r:=by
  rw[h5,ai6,Int.add_comm,Int.add_mul_emod_self_right];exact Int.emod_eq_of_lt h4.1 h4.2
 rw[e1,e2]
theorem VN {b l0:List Int} {x:Int} {i n:Nat} (hb:Dg b) (hx:0<=x∧x<1048576) (h0:Dg l0) (hn:l0.length=n) (hi:i+b.length<n) (hf:n<=17592186044416) (X:∀j (Y:j<l0.length),i+b.length<=j->l0[j]=0) :
  ∃r,aS (rQ b (i:Int) x) (0,0,l0)=some r∧r.2.length=n∧Dg r.2∧(0<=r.1∧r.1<1048576)∧(∀j (Y:j<r.2.length),i+b.length<=j->r.2[j]=0)∧dv r.2+pw (i+b.length)*r.1=dv l0+pw i*(x*dv b):=by
 refine dh (I:=fun k s=>s.2.1=(k:Int)∧s.2.2.length=n∧Dg s.2.2∧(0<=s.1∧s.1<1048576)∧(∀j (Y:j<s.2.2.length),i+b.length<=j->s.2.2[j]=0)∧dv s.2.2+pw (i+k)*s.1=dv l0+pw i*(x*dv (b.take k)))
  b.length _ ⟨rfl,hn,h0,by simp,X,by simp[dv]⟩ (jq (by omega)) ?_
 rintro k ⟨c,s,l⟩ hk ⟨h1,hl,Z,hc,X,he⟩;simp only at h1 hl Z hc X he;subst h1;simp only[rQ]
 by_cases O:k<b.length
 ·left;have U:i+k<l.length:=by omega
  have ei:IntKind.i64.wrap ((i:Int)+(k:Int))=((i+k:Nat):Int):=by rw[gq (by omega)];omega
  have gb:=hb.get O;have gl:=Z.get U;have ad:0<=x*b[k]:=ajj hx.1 gb.1;have ae:x*b[k]<=1048575*1048575:=ajk (by omega) (by omega) gb.1 (by omega);rw[if_pos (by simpa using O),cj O,aiv,ei,cj U,aiv,gq (x:=x*b[k]) (by omega),gq (x:=l[i+k]+x*b[k]) (by omega),gq (x:=l[i+k]+x*b[k]+c) (by omega),Pb,aiv,s8 (by omega) (by omega)];have e1:IntKind.i64.wrap ((k:Int)+1)=((k+1:Nat):Int):=by rw[gq (by omega)];omega
  refine⟨O,_,rfl,e1,by simpa using hl,Z.set _ (by omega),by simp only;omega,fun j Y aa =>?_,?_⟩
  ·simp only[Int.toNat_natCast]at Y ⊢;rw[ajd (by omega)];exact X j (by simpa using Y) aa
  ·simp only[Int.toNat_natCast];rw[rV U,fT O];have hp:=uf (i+k) (l[i+k]+x*b[k]+c);rw[ai9 (pw (i+k)),ai9 (pw (i+k))]at hp;have e2:pw i*(x*(dv (b.take k)+pw k*b[k]))=pw i*(x*dv (b.take k))+pw (i+k)*(x*b[k]):=by
    rw[ai9,ai9,EG];congr 1;rw[ajl x,<- aja]
   rw[e2,aje,show i+(k+1)=i+k+1 by omega];omega
 ·right;have ab:k=b.length:=by omega
  subst ab;refine⟨(c,l),by rw[if_neg (by simp)],hl,Z,hc,X,?_⟩;rw[he,aiZ]
theorem VM {a b:List Int} (ha:Dg a) (hb:Dg b) (hf:a.length+b.length<=17592186044416) :
  ∃l,aS (rP a b) (0,List.replicate (a.length+b.length) 0)=some l∧l.length=a.length+b.length∧Dg l∧dv l=dv a*dv b:=by
 refine dh (I:=fun i s=>s.1=(i:Int)∧s.2.length=a.length+b.length∧Dg s.2∧(∀j (X:j<s.2.length),i+b.length<=j->s.2[j]=0)∧dv s.2=dv (a.take i)*dv b)
  a.length _ ⟨rfl,by simp,Dg.rep _,fun j X _=>by simp,by simp[dv,yS]⟩ (jq (by omega)) ?_
 rintro i ⟨s,l⟩ hi ⟨h1,Y,Z,hz,he⟩;simp only at h1 Y Z hz he;subst h1;simp only[rP]
 by_cases O:i<a.length
 ·left;have ga:=ha.get O;obtain⟨⟨c,m⟩,g1,g2,g3,g4,g5,g6⟩:=VN (i:=i) (n:=a.length+b.length) hb ga Z Y (by omega) hf hz;rw[if_pos (by simpa using O),cj O,aiv,g1,aiv];simp only at g2 g3 g4 g5 g6 ⊢;have ei:IntKind.i64.wrap ((i:Int)+(b.length:Int))=((i+b.length:Nat):Int):=by rw[gq (by omega)];omega
  have U:i+b.length<m.length:=by omega
  rw[ei,cj U,aiv,g5 _ U (agP _),Int.zero_add,gq (x:=c) (by omega)];have e1:IntKind.i64.wrap ((i:Int)+1)=((i+1:Nat):Int):=by rw[gq (by omega)];omega
  refine⟨O,_,rfl,e1,by simpa using g2,g3.set _ g4,fun j X ab =>?_,?_⟩
  ·simp only[Int.toNat_natCast]at X ⊢;rw[ajd (by omega)];exact g5 j (by simpa using X) (by omega)
  ·simp only[Int.toNat_natCast];rw[rV U,g5 _ U (agP _),Int.sub_zero,g6,he,fT O,ajm,aja]
 ·right;have aa:i=a.length:=by omega
  subst aa;refine⟨l,by rw[if_neg (by simp)],Y,Z,?_⟩;rw[he,aiZ]
theorem mul_eq {a b:List Int} (U:Dg a) (X:Dg b) (O:a.length+b.length<=17592186044416):nV a b=some (aO (dv a*dv b).toNat):=by
 obtain⟨l,h1,h2,h3,h4⟩:=VM U X O;unfold nV;have e:IntKind.i64.wrap ((a.length:Int)+(b.length:Int))=((a.length+b.length:Nat):Int):=by rw[gq (by omega)];omega
 rw[e,mk0 O,aiv,h1,aiv,ng,sA (by unfold Fit;omega) h3,h4]
def mj (x y:Int):Int:=if x<y then -1 else if y<x then 1 else 0
theorem CC (x y:Int):gi x y=some (mj x y):=by
 unfold gi oA mj;simp only[bne_self_eq_false,Option.bind_some,ahp,if_false,decide_eq_true_eq];split
 ·rfl
 ·split<;>rfl
theorem LW {a b:List Int} (X:Dg a) (Y:Dg b) (Z:Fit a) (hl:a.length=b.length):gh a b=some (mj (dv a) (dv b)):=by
 unfold Fit at Z;unfold gh;rw[if_neg (by simp;omega)];have e0:IntKind.i64.wrap ((a.length:Int)-1)=(a.length:Int)-1:=gq (by omega);rw[e0];have key:∃r,aS (lq a b) ((a.length:Int)-1)=some r∧(match r with | .inl _=>mj (dv a) (dv b)=0 | .inr x=>x=mj (dv a) (dv b)):=by
  refine dh (I:=fun i s=>s=((a.length-i:Nat):Int)-1∧a.drop (a.length-i)=b.drop (a.length-i)) a.length _ ⟨rfl,?_⟩ (jq Z) ?_
  ·rw[aiI (by omega),aiI (by omega)]
  rintro i s hi ⟨rfl,he⟩;generalize hk:a.length-i=k at *;simp only[lq]
  by_cases h0:0<k
  ·have h1:k-1<a.length:=by omega
   have h2:k-1<b.length:=by omega
   have ek:((k:Int)-1)=((k-1:Nat):Int):=by omega
   rw[ek,if_pos (by simp),cj h1,aiv,cj h2,aiv]
   by_cases U:a[k-1]=b[k-1]
   ·left;rw[if_neg (by simpa using U)];refine⟨by omega,_,rfl,by rw[gq (by omega)];omega,?_⟩;rw[show a.length-(i+1)=k-1 by omega,aiT h1,aiT h2,U,show k-1+1=k by omega,he]
   ·right;rw[if_pos (by simpa using U),CC,aiv];refine⟨_,rfl,?_⟩;simp only;have ea:=iO a (i:=k) (by omega);have eb:=iO b (i:=k) (by omega);have ta:=fT h1;have tb:=fT h2;rw[show k-1+1=k by omega]at ta tb;have la:=nK (X.take (k-1));have lb:=nK (Y.take (k-1));rw[ag8,ah4 (by omega)]at la lb;have na:=cN (X.take (k-1));have nb:=cN (Y.take (k-1));have hp:=mz (k-1);rw[ta]at ea;rw[tb]at eb;rw[he]at ea;unfold mj;rcases Int.lt_or_gt_of_ne U with O|O
    ·have:pw (k-1)*a[k-1]+pw (k-1)<=pw (k-1)*b[k-1]:=by
      have:pw (k-1)*(a[k-1]+1)<=pw (k-1)*b[k-1]:=ai8 (by omega) (by omega)
      rwa [ai9,ai7]at this
     rw[if_pos O,if_pos (by omega)]
    ·have:pw (k-1)*b[k-1]+pw (k-1)<=pw (k-1)*a[k-1]:=by
      have:pw (k-1)*(b[k-1]+1)<=pw (k-1)*a[k-1]:=ai8 (by omega) (by omega)
      rwa [ai9,ai7]at this
     rw[if_neg (by omega),if_pos O,if_neg (by omega),if_pos (by omega)]
  ·right;have:k=0:=by omega
   subst this;refine⟨.inl (),by rw[if_neg (by simp)],?_⟩;simp only[aik]at he;simp[he,mj]
 obtain⟨r,h1,h2⟩:=key;rw[h1,aiv];cases r with
 | inl u=>simp only at h2 ⊢;rw[h2]
 | inr x=>simp only at h2 ⊢;rw[h2]
theorem tr {m n:Nat} (h:(aO m).length<(aO n).length):m<n:=by
 have h1:=fO m;have O:n≠0:=fun U=>by subst U;rw[cF]at h;simp at h
 have h2:=xw O;have h3:=p8 (i:=(aO m).length) (j:=(aO n).length-1) (by omega);omega
theorem cz {m n:Nat} (h:m<=n):(aO m).length<=(aO n).length:=by
 rcases ahA (aO n).length (aO m).length with h1|h1
 ·have:=tr h1;omega
 ·exact h1
theorem wk {m n:Nat} (hm:Fit (aO m)) (U:Fit (aO n)):gh (aO m) (aO n)=some (mj m n):=by
 by_cases O:(aO m).length=(aO n).length
 ·rw[LW (cy m) (cy n) hm O,bx,bx]
 ·unfold gh;rw[if_pos (by simp;omega),CC,ng];unfold mj;rcases Nat.lt_or_gt_of_ne O with h|h
  ·have:=tr h;rw[if_pos (by omega),if_pos (by omega)]
  ·have:=tr h;rw[if_neg (by omega),if_pos (by omega),if_neg (by omega),if_pos (by omega)]
theorem Ks {u v:List Int} {g:Int} (hu:Dg u) (hv:Dg v) (hg:0<=g∧g<=1048576) (hf:Fit u) (hl:v.length<=u.length) :
  ∃r,aS (kn u v g) (0,0,u)=some r∧r.2.length=u.length∧Dg r.2∧(0<=r.1∧r.1<=1048576)∧dv r.2+g*dv v=dv u+pw u.length*r.1:=by
 unfold Fit at hf;refine dh (I:=fun i s=>s.2.1=(i:Int)∧s.2.2.length=u.length∧Dg s.2.2∧(∀j (hj:j<s.2.2.length) (Z:j<u.length),i<=j->s.2.2[j]=u[j])∧(0<=s.1∧s.1<=1048576)∧dv s.2.2+g*dv (v.take i)=dv u+pw i*s.1)
  u.length _ ⟨rfl,rfl,hu,fun j hj _ _=>rfl,by simp,by simp[dv]⟩ (jq (by omega)) ?_
 rintro i ⟨c,s,l⟩ hi ⟨h1,Y,hd,hz,hc,he⟩;simp only at h1 Y hd hz hc he;subst h1;simp only[kn]
 by_cases O:i<u.length
 ·left;have U:i<l.length:=by omega
  rw[if_pos (by simpa using O),cj U,aiv,hz i U O (agP _)];have ga:=hu.get O;have gb:=HD hv i;have aa:0<=g*gd v i:=ajj hg.1 gb.1;have ab:g*gd v i<=1048576*1048575:=ajk (by omega) (by omega) gb.1 (by omega);have hT:(if decide ((i:Int)<(v.length:Int))=true then (P.idx v (i:Int)).bind fun ad=>some (IntKind.i64.wrap ((IntKind.i64.wrap (u[i]-c))-(IntKind.i64.wrap (g*ad)))) else some (IntKind.i64.wrap (u[i]-c)))=some (u[i]-c-g*gd v i):=by
   by_cases X:i<v.length
   ·rw[if_pos (by simpa using X),cj X,aiv];rw[MF X]at gb aa ab ⊢;rw[gq (x:=u[i]-c) (by omega),gq (x:=g*v[i]) (by omega),gq (by omega)]
   ·rw[if_neg (by simpa using X),HE (by omega),gq (by omega)];simp
  rw[hT,aiv,Pb,aiv,s8 (by omega) (by omega),gq (x:=0-_) (by omega)];have e1:IntKind.i64.wrap ((i:Int)+1)=((i+1:Nat):Int):=by rw[gq (by omega)];omega
  refine⟨O,_,rfl,e1,by simpa using Y,hd.set _ (by omega),fun j hj Z ag =>?_,by simp only;omega,?_⟩
  ·simp only[Int.toNat_natCast]at hj ⊢;rw[ajd (by omega)];exact hz j (by simpa using hj) Z (by omega)
  ·simp only[Int.toNat_natCast];rw[rV U,hz i U O (agP _),pW];have hp:=uf i (u[i]-c-g*gd v i);rw[aje (pw i),aje (pw i)]at hp;have e2:g*(dv (v.take i)+pw i*gd v i)=g*dv (v.take i)+pw i*(g*gd v i):=by rw[ai9,ajl]
   rw[e2,aje (pw i),aje (pw (i+1)),ajn];omega
 ·right;have ae:i=u.length:=by omega
  subst ae;refine⟨(c,l),by rw[if_neg (by simp)],Y,hd,hc,?_⟩;rw[wQ hl]at he;exact he
theorem Ku {u v:List Int} (hu:Dg u) (hv:Dg v) (hf:Fit u) (hl:v.length<=u.length) :
  ∃l,aS (ko v u) (0,0,u)=some l∧l.length=u.length∧Dg l∧∃c,0<=c∧dv l+pw u.length*c=dv u+dv v:=by
 unfold Fit at hf;refine dh (I:=fun i s=>s.2.1=(i:Int)∧s.2.2.length=u.length∧Dg s.2.2∧(∀j (hj:j<s.2.2.length) (Z:j<u.length),i<=j->s.2.2[j]=u[j])∧(0<=s.1∧s.1<=1)∧dv s.2.2+pw i*s.1=dv u+dv (v.take i))
  u.length _ ⟨rfl,rfl,hu,fun j hj _ _=>rfl,by simp,by simp[dv]⟩ (jq (by omega)) ?_
 rintro i ⟨c,s,l⟩ hi ⟨h1,Y,hd,hz,hc,he⟩;simp only at h1 Y hd hz hc he;subst h1;simp only[ko]
 by_cases O:i<u.length
 ·left;have U:i<l.length:=by omega
  rw[if_pos (by simpa using O),cj U,aiv,hz i U O (agP _)];have ga:=hu.get O;have gb:=HD hv i;have hT:(if decide ((i:Int)<(v.length:Int))=true then (P.idx v (i:Int)).bind fun aa=>some (IntKind.i64.wrap ((IntKind.i64.wrap (c+u[i]))+aa)) else some (IntKind.i64.wrap (c+u[i])))=some (c+u[i]+gd v i):=by
   by_cases X:i<v.length
   ·rw[if_pos (by simpa using X),cj X,aiv];rw[MF X]at gb ⊢;rw[gq (x:=c+u[i]) (by omega),gq (by omega)]
   ·rw[if_neg (by simpa using X),HE (by omega),gq (by omega)];simp
  rw[hT,aiv,Pb,aiv,s8 (by omega) (by omega)];have e1:IntKind.i64.wrap ((i:Int)+1)=((i+1:Nat):Int):=by rw[gq (by omega)];omega
  refine⟨O,_,rfl,e1,by simpa using Y,hd.set _ (by omega),fun j hj Z ad =>?_,by simp only;omega,?_⟩
  ·simp only[Int.toNat_natCast]at hj ⊢;rw[ajd (by omega)];exact hz j (by simpa using hj) Z (by omega)
  ·simp only[Int.toNat_natCast];rw[rV U,hz i U O (agP _),pW];have hp:=uf i (c+u[i]+gd v i);rw[ai9 (pw i),ai9 (pw i)]at hp;rw[aje (pw i)];omega
 ·right;have ab:i=u.length:=by omega
  subst ab;refine⟨l,by rw[if_neg (by simp)],Y,hd,c,hc.1,?_⟩;rw[wQ hl]at he;exact he
theorem V1 {u v:List Int} {g:Int} (hu:Dg u) (X:Dg v) (hf:Fit u) (hl:v.length<=u.length) (hV:0<dv v) (ag:dv u / dv v<=g) (ah:g<=dv u / dv v+1) (Y:g<=1048576) :
  ∃l,fS u v g=some (l,dv u / dv v)∧l.length=u.length∧Dg l∧dv l=dv u % dv v:=by
 have ai:0<=dv u / dv v:=ajf (cN hu) (by omega);obtain⟨⟨c,l⟩,h1,h2,h3,h4,h5⟩:=Ks hu X ⟨by omega,Y⟩ hf hl;simp only at h2 h3 h4 h5;have hm:=aji (dv u) (dv v);have aj:=Int.emod_nonneg (dv u) (show dv v≠0 by omega);have ak:=ajh (dv u) hV;have Z:=nK h3;have al:=cN h3;rw[h2]at Z;have hp:=mz u.length;have an:dv v<pw u.length:=Int.lt_of_lt_of_le (nK X) (p8 hl);unfold fS oR;rw[h1,aiv];simp only;rcases (show g=dv u / dv v∨g=dv u / dv v+1 by omega) with U|U
 ·have aa:g*dv v=dv v*(dv u / dv v):=by rw[U,ai6]
  have O:c=0:=by
   rcases (show c=0∨1<=c by omega) with h|h
   ·exact h
   ·have:pw u.length*1<=pw u.length*c:=ai8 h (by omega);omega
  subst O;rw[if_pos (by simp),aiv,if_pos (by simpa using h2)];exact⟨l,by rw[U],h2,h3,by rw[ajn]at h5;omega⟩
 ·have aa:g*dv v=dv v*(dv u / dv v)+dv v:=by rw[U,ajm,ajo,ai6]
  have O:c≠0:=by
   intro h;subst h;rw[ajn]at h5;omega
  obtain⟨m,g1,g2,g3,d,g4,g5⟩:=Ku h3 X (by unfold Fit at *;omega) (by omega);rw[if_neg (by simpa using O),g1,aiv,aiv,if_pos (by simp;omega)];refine⟨m,by rw[gq (by omega),U];simp,by omega,g3,?_⟩;rw[h2]at g5;have ab:=nK g3;have ae:=cN g3;rw[g2,h2]at ab;have ad:c=d:=by
   rcases ai1 c d with h|h|h
   ·have:pw u.length*(c+1)<=pw u.length*d:=ai8 (by omega) (by omega);rw[ai9,ai7]at this;omega
   ·exact h
   ·have:pw u.length*(d+1)<=pw u.length*c:=ai8 (by omega) (by omega);rw[ai9,ai7]at this;omega
  subst ad;omega
theorem QW {v u:List Int} {s13:Int} {v1 v2 O T V W:Int} {n:Nat} (hn:2<=n) (hlen:v.length=n) (aq:n<=17592186044416) (i:Nat) (hs:s13=i) (ar:i+n<=17592186044416)
  (ab:P.idx v (((n-2:Nat)):Int)=some v2) (ad:P.idx u (((i+n-2:Nat)):Int)=some O)
  (b1:524288<=v1∧v1<1048576) (b2:0<=v2∧v2<1048576) (bw:0<=O∧O<1048576) (ae:0<=T) (au:T<1048576*1048576)
  (hV:pw (n-2)*(v1*1048576+v2)<=V∧V<pw (n-2)*(v1*1048576+v2+1)) (hW:pw (n-2)*(T*1048576+O)<=W∧W<pw (n-2)*(T*1048576+O+1)) (ag:W<1048576*V) :
  ∃g,aS (rO v s13 u v1) (T / v1,T % v1)=some g∧W / V<=g∧g<=W / V+1∧g<=1048576:=by
 subst hs;have hp:=mz (n-2);have X:0<V:=by
  have:pw (n-2)*1<=pw (n-2)*(v1*1048576+v2):=ai8 (by omega) (by omega);omega
 have ah:0<=W:=by
  have:0<=pw (n-2)*(T*1048576+O):=ajj (by omega) (by omega);omega
 have av:0<=W / V:=ajf ah (by omega);have aw:W / V<1048576:=ajg X ag;have hm:=aji T v1;have ai:=Int.emod_nonneg T (show v1≠0 by omega);have ax:=ajh T (show 0<v1 by omega);have ay:0<=T / v1:=ajf ae (by omega);have aj:T / v1<=2097152:=by
  have:T / v1<2097153:=ajg (by omega) (by
   have:2097153*524288<=2097153*v1:=ai8 b1.1 (by omega);omega)
  omega
 have ak:∀g r:Int,g*v1+r=T->W / V<=g->g*v2>r*1048576+O->W / V<=g-1:=by
  intro g r h1 h2 h3;have h4:W<g*V:=by
   have e1:g*(v1*1048576+v2)>=T*1048576+O+1:=by
    rw[<- h1];have:g*(v1*1048576+v2)=g*v1*1048576+g*v2:=by rw[ai9,aja]
    rw[this,ajm];omega
   have e2:pw (n-2)*(T*1048576+O+1)<=pw (n-2)*(g*(v1*1048576+v2)):=ai8 e1 (by omega);have e3:g*(pw (n-2)*(v1*1048576+v2))<=g*V:=ai8 hV.1 (by omega);have e4:pw (n-2)*(g*(v1*1048576+v2))=g*(pw (n-2)*(v1*1048576+v2)):=ajl _ _ _;omega
  have:=ajg X h4;omega
 have hle:∀g r:Int,g*v1+r=T->0<=g->g<=1048576->g*v2<=r*1048576+O->g<=W / V+1:=by
  intro g r h1 h0 hB h3;have e1:g*(v1*1048576+v2)<=T*1048576+O:=by
   rw[<- h1];have:g*(v1*1048576+v2)=g*v1*1048576+g*v2:=by rw[ai9,aja]
   rw[this,ajm];omega
  have e2:g*V<=W+V:=by
   have f1:g*V<=g*(pw (n-2)*(v1*1048576+v2+1)):=ai8 (by omega) h0;have f2:g*(pw (n-2)*(v1*1048576+v2+1))=pw (n-2)*(g*(v1*1048576+v2))+pw (n-2)*g:=by
    rw[ajl,ai9 g,ai7,ai9]
   have f3:pw (n-2)*(g*(v1*1048576+v2))<=pw (n-2)*(T*1048576+O):=ai8 e1 (by omega);have f4:pw (n-2)*g<=pw (n-2)*(v1*1048576+v2):=ai8 (by omega) (by omega);omega
  have e3:(g-1)*V<=W:=by rw[Int.sub_mul,ajo];omega
  have:=Int.le_ediv_of_mul_le X e3;omega
 have Y:W / V<=T / v1:=by
  have e1:W<(T / v1+1)*V:=by
   have f1:T+1<=(T / v1+1)*v1:=by
    have:(T / v1+1)*v1=v1*(T / v1)+v1:=by rw[ajm,ajo,ai6]
    omega
   have f2:T*1048576+O+1<=(T / v1+1)*(v1*1048576+v2):=by
    have g1:(T+1)*1048576<=(T / v1+1)*v1*1048576:=ajp f1 (by omega);have g2:0<=(T / v1+1)*v2:=ajj (by omega) b2.1;rw[ai9,<- aja];omega
   have f3:pw (n-2)*(T*1048576+O+1)<=pw (n-2)*((T / v1+1)*(v1*1048576+v2)):=ai8 f2 (by omega);have f4:(T / v1+1)*(pw (n-2)*(v1*1048576+v2))<=(T / v1+1)*V:=ai8 hV.1 (by omega);have f5:pw (n-2)*((T / v1+1)*(v1*1048576+v2))=(T / v1+1)*(pw (n-2)*(v1*1048576+v2)):=ajl _ _ _;omega
  have:=ajg X e1;omega
 refine qW (I:=fun (s:Int×Int)=>s.1*v1+s.2=T∧W / V<=s.1∧s.1<=2097152∧0<=s.2) (μ:=fun (s:Int×Int)=>s.1.toNat) _ ⟨?_,Y,aj,ai⟩ (by unfold FU;omega) ?_
 ·show T / v1*v1+T % v1=T;rw[ai6];exact hm
 rintro⟨g,r⟩ ⟨h1,h2,h3,h4⟩;simp only at h1 h2 h3 h4;have az:0<=g*v1:=ajj (by omega) (by omega);simp only[rO];have el:IntKind.i64.wrap ((v.length:Int)-2)=((n-2:Nat):Int):=by rw[hlen,gq (by omega)];omega
 have ei:IntKind.i64.wrap ((IntKind.i64.wrap ((i:Int)+(v.length:Int)))-2)=((i+n-2:Nat):Int):=by rw[hlen,gq (x:=(i:Int)+n) (by omega),gq (by omega)];omega
 rw[el,ei];have U:W / V<=g-1->∃Z:Int×Int,(some (Sum.inl (IntKind.i64.wrap (g-1),IntKind.i64.wrap (r+v1))):Option ((Int×Int)⊕Int))=some (.inl Z)∧(Z.1*v1+Z.2=T∧W / V<=Z.1∧Z.1<=2097152∧0<=Z.2)∧Z.1.toNat<g.toNat:=by
  intro al;refine⟨_,rfl,?_⟩;rw[gq (x:=g-1) (by omega),gq (x:=r+v1) (by omega)];simp only;refine⟨⟨by rw[Int.sub_mul,ajo];omega,al,by omega,by omega⟩,by omega⟩
 by_cases aa:g>=1048576
 ·rw[if_pos (by simpa using aa),aiv,if_pos rfl];exact .inl (U (by omega))
 ·rw[if_neg (by simpa using aa)]
  by_cases hr:r<1048576
  ·have ao:0<=g*v2:=ajj (by omega) b2.1;have an:g*v2<=1048576*1048576:=ajk (by omega) (by omega) b2.1 (by omega);rw[if_pos (by simpa using hr),ab,aiv,Zj h4 (by omega),aiv,ad,aiv,gq (x:=g*v2) (by omega),Rj h4 (by omega) bw,aiv]
   by_cases ht:g*v2>1048576*r+O
   ·rw[if_pos (by simpa using ht)];exact .inl (U (ak g r h1 h2 (by omega)))
   ·rw[if_neg (by simpa using ht)];exact .inr ⟨g,rfl,h2,hle g r h1 (by omega) (by omega) (by omega),by omega⟩
  ·rw[if_neg (by simpa using hr),aiv,if_neg (by simp)];refine .inr ⟨g,rfl,h2,hle g r h1 (by omega) (by omega) ?_,by omega⟩;have:g*v2<=1048575*1048575:=ajk (by omega) (by omega) b2.1 (by omega);have:1048576*1048576<=r*1048576:=ajp (by omega) (by omega);omega
theorem adw {α:Type} {l:List α} {a b:Nat} (h:a<=b) (O:b<=l.length):BA l (a:Int) (b:Int)=some ((l.drop a).take (b-a)):=by
 unfold BA;rw[if_pos ⟨by omega,by omega,by omega⟩];simp
theorem aaR {l:List Int} {n:Nat} (U:l.length=n) (X:2<=n) (O:Dg l) :
  pw (n-2)*((l[n-1]'(by omega))*1048576+l[n-2]'(by omega))<=dv l∧dv l<pw (n-2)*((l[n-1]'(by omega))*1048576+l[n-2]'(by omega)+1):=by
 have e:=iO l (i:=n-2) (by omega);rw[jC (by omega),jC (i:=n-2+1) (by omega),aiI (by omega)]at e;have e1:l[n-2+1]'(by omega)=l[n-1]'(by omega):=by congr 1;omega
 rw[e1]at e;have h1:=cN (O.take (n-2));have h2:=nK (O.take (n-2));rw[ag8,ah4 (by omega)]at h2;simp only[dv]at e;have e2:l[n-2]'(by omega)+1048576*(l[n-1]'(by omega)+1048576*0)=(l[n-1]'(by omega))*1048576+l[n-2]'(by omega):=by omega
 rw[e2]at e;rw[ai9 (pw (n-2)) _ 1,ai7];omega
theorem aaS {l:List Int} {n:Nat} (U:l.length=n+1) (X:2<=n) (O:Dg l) :
  pw (n-2)*((1048576*(l[n]'(by omega))+l[n-1]'(by omega))*1048576+l[n-2]'(by omega))<=dv l∧dv l<pw (n-2)*((1048576*(l[n]'(by omega))+l[n-1]'(by omega))*1048576+l[n-2]'(by omega)+1):=by
 have e:=iO l (i:=n-2) (by omega);rw[jC (by omega),jC (i:=n-2+1) (by omega),jC (i:=n-2+1+1) (by omega),aiI (by omega)]at e;have e1:l[n-2+1]'(by omega)=l[n-1]'(by omega):=by congr 1;omega
 have e3:l[n-2+1+1]'(by omega)=l[n]'(by omega):=by congr 1;omega
 rw[e1,e3]at e;have h1:=cN (O.take (n-2));have h2:=nK (O.take (n-2));rw[ag8,ah4 (by omega)]at h2;simp only[dv]at e;have e2:l[n-2]'(by omega)+1048576*(l[n-1]'(by omega)+1048576*(l[n]'(by omega)+1048576*0))=(1048576*(l[n]'(by omega))+l[n-1]'(by omega))*1048576+l[n-2]'(by omega):=by omega
 rw[e2]at e;rw[ai9 (pw (n-2)) _ 1,ai7];omega
theorem XC {v u0:List Int} {n m:Nat} (hv:Dg v) (O:v.length=n) (hn:2<=n) (al:524288<=v[n-1]'(by omega)) (hu:Dg u0) (an:u0.length=m+n) (hf:m+n<=17592186044416) (X:dv (u0.drop m)<dv v) :
  ∃r,aS (rN v) ((m:Int)-1,u0,List.replicate m 0)=some r∧r.1.length=m+n∧Dg r.1∧r.2.length=m∧Dg r.2∧dv r.1+dv v*dv r.2=dv u0∧dv r.1<dv v:=by
 have ao:=nK hv;rw[O]at ao;refine dh (I:=fun i s=>s.1=((m-i:Nat):Int)-1∧s.2.1.length=m+n∧Dg s.2.1∧s.2.2.length=m∧Dg s.2.2∧(∀j (hj:j<s.2.2.length),j<m-i->s.2.2[j]=0)∧dv s.2.1+dv v*dv s.2.2=dv u0∧dv (s.2.1.drop (m-i))<dv v)
  m _ ⟨rfl,an,hu,by simp,Dg.rep _,fun j hj _=>by simp,by simp[yS],X⟩ (jq (by omega)) ?_
 rintro i ⟨s,u,q⟩ hi ⟨h1,hl,U,Z,aa,hz,he,X⟩;simp only at h1 hl U Z aa hz he X;subst h1;generalize hk:m-i=k at *;simp only[rN]
 by_cases h0:0<k
 ·left;have ek:((k:Int)-1)=((k-1:Nat):Int):=by omega
  rw[ek,if_pos (by simp)];have e1:IntKind.i64.wrap (((k-1:Nat):Int)+(v.length:Int))=((k-1+n:Nat):Int):=by rw[O,gq (by omega)];omega
  have e2:IntKind.i64.wrap (((k-1+n:Nat):Int)-1)=((k-1+n-1:Nat):Int):=by rw[gq (by omega)];omega
  have e3:IntKind.i64.wrap ((v.length:Int)-1)=((n-1:Nat):Int):=by rw[O,gq (by omega)];omega
  have e4:IntKind.i64.wrap (((k-1+n:Nat):Int)+1)=((k-1+n+1:Nat):Int):=by rw[gq (by omega)];omega
  have e5:IntKind.i64.wrap (((k-1:Nat):Int)-1)=((k-1:Nat):Int)-1:=gq (by omega);rw[e1,e2,e3,e4,e5];have i1:k-1+n<u.length:=by omega
  have i2:k-1+n-1<u.length:=by omega
  have i3:k-1+n-2<u.length:=by omega
  have iv:n-1<v.length:=by omega
  have ae:n-2<v.length:=by omega
  have g1:=U.get i1;have g2:=U.get i2;have g3:=U.get i3;have gv:=hv.get iv;have aq:=hv.get ae;rw[cj i1,aiv,Zj g1.1 (by omega),aiv,cj i2,aiv,cj iv,aiv,Rj g1.1 (by omega) g2,aaP (by omega) (by omega) (by omega),aiv,adh (by omega) (by omega),aiv,adw (by omega) (by omega),show k-1+n+1-(k-1)=n+1 by omega];generalize hw:(u.drop (k-1)).take (n+1)=w;have ar:w.length=n+1:=by rw[<- hw,ag8,ag9];omega
  have Y:Dg w:=by rw[<- hw];exact (U.drop _).take _
  have ab:∀j (hj:j<n+1),w[j]'(by omega)=u[k-1+j]'(by omega):=by
   intro j hj;subst hw;rw[List.getElem_take,List.getElem_drop]
  have ag:dv (u.drop (k+n))=0:=by
   have s1:=iO (u.drop k) (i:=n) (by rw[ag9];omega);rw[aiK]at s1;have n1:=cN ((U.drop k).take n);have n2:=cN (U.drop (k+n));have hp:=mz n;rcases (show dv (u.drop (k+n))=0∨1<=dv (u.drop (k+n)) by omega) with h|h
   ·exact h
   ·have:pw n*1<=pw n*dv (u.drop (k+n)):=ai8 h (by omega);omega
  have hW:dv w=dv (u.drop (k-1)):=by
   have s1:=iO (u.drop (k-1)) (i:=n+1) (by rw[ag9];omega);rw[aiK,show k-1+(n+1)=k+n by omega,ag,hw]at s1;omega
  have ax:dv w=u[k-1]+1048576*dv (u.drop k):=by
   rw[hW,jC (by omega),show k-1+1=k by omega]
  have gk:=U.get (show k-1<u.length by omega);have ah:dv w<1048576*dv v:=by omega
  have t2:=aaR O hn hv;have t3:=aaS ar hn Y;rw[ab n (by omega),ab (n-1) (by omega),ab (n-2) (by omega)]at t3;have a1:u[k-1+(n-1)]'(by omega)=u[k-1+n-1]'(by omega):=by congr 1;omega
  have a2:u[k-1+(n-2)]'(by omega)=u[k-1+n-2]'(by omega):=by congr 1;omega
  rw[a1,a2]at t3;obtain⟨g,q1,q2,q3,q4⟩:=QW (s13:=((k-1:Nat):Int)) hn O (by omega) (k-1) rfl (by omega) (cj ae) (cj i3) ⟨al,gv.2⟩ aq g3 (T:=1048576*u[k-1+n]+u[k-1+n-1]) (by omega) (by omega) t2 t3 ah;rw[q1,aiv,aiv];have ad:0<dv v:=by
   have:=cN Y;omega
  obtain⟨l,r1,r2,r3,r4⟩:=V1 Y hv (by unfold Fit;omega) (by omega) ad q2 q3 q4;have iq:k-1<q.length:=by omega
  rw[r1,aiv,cj iq,aiv];simp only;have au:0<=dv w / dv v:=ajf (cN Y) (by omega);have av:dv w / dv v<1048576:=ajg ad ah;have ai:=ajh (dv w) ad;simp only[Int.toNat_natCast];have aj:dv (l++u.drop (k-1+n+1))=dv w % dv v:=by
   rw[gj,show k-1+n+1=k+n by omega,ag,r4];omega
  have ak:(u.take (k-1)).length=k-1:=by rw[ag8];omega
  have aw:dv (u.take (k-1)++(l++u.drop (k-1+n+1)))=dv (u.take (k-1))+pw (k-1)*(dv w % dv v):=by rw[gj,ak,aj]
  refine⟨by omega,_,rfl,by rw[show m-(i+1)=k-1 by omega],?_,(U.take _).append (r3.append (U.drop _)),by simpa using Z,aa.set _ ⟨au,av⟩,fun j hj ay =>?_,?_,?_⟩
  ·simp only[ah1,ag8,ag9];omega
  ·rw[ajd (by omega)];exact hz j (by simpa using hj) (by omega)
  ·rw[aw,rV iq,hz _ iq (by omega),Int.sub_zero,ai9];have s2:=iO u (i:=k-1) (by omega);rw[<- hW]at s2;have hm:=aji (dv w) (dv v);have:pw (k-1)*dv w=dv v*(pw (k-1)*(dv w / dv v))+pw (k-1)*(dv w % dv v):=by
    rw[ajl,<- ai9,hm]
   omega
  ·rw[show m-(i+1)=k-1 by omega,aiH,ak,ah3,aik,aiI (by omega),aiF,aj];exact ai
 ·right;have:k=0:=by omega
  subst this;refine⟨(u,q),by rw[if_neg (by simp)],hl,U,Z,aa,he,?_⟩;simpa using X
theorem Rr {v:List Int} {t:Int} {n:Nat} (U:v.length=n) (hn:0<n) (hf:n<=17592186044416) (X:v[n-1]'(by omega)=t) (h1:1<=t) (h2:t<1048576) :
  ∃s,aS (rM v) 1=some s∧∃j:Nat,s=2 ^ j∧j<=19∧524288<=t*s∧t*s<1048576:=by
 refine dh (I:=fun i s=>s=2 ^ i∧t*s<1048576) 20 _ ⟨rfl,by omega⟩ (by unfold FU;omega) ?_;rintro i s hi ⟨rfl,Y⟩;have hp:(0:Int)<2 ^ i:=Int.pow_pos (by decide);have Z:(2:Int) ^ i<=t*2 ^ i:=by
  have:1*(2:Int) ^ i<=t*2 ^ i:=ajp h1 (by omega);omega
 have O:i<=19:=by
  rcases ahA 19 i with h|h
  ·have hx:i=20:=by omega
   subst hx;omega
  ·exact h
 simp only[rM];have e:IntKind.i64.wrap ((v.length:Int)-1)=((n-1:Nat):Int):=by rw[U,gq (by omega)];omega
 rw[e,cj (by omega),aiv,X,gq (x:=t*2 ^ i) (by omega)]
 by_cases h:t*2 ^ i<524288
 ·left;rw[if_pos (by simpa using h)];refine⟨by omega,_,rfl,by rw[gq (by omega),Int.pow_succ],?_⟩;rw[gq (by omega),<- aja];omega
 ·right;rw[if_neg (by simpa using h)];exact⟨_,rfl,i,rfl,O,by omega,Y⟩
theorem div_eq {m n:Nat} (hn:n≠0) (aQ:(aO m).length<=17592186043904) (aR:(aO n).length<=17592186043904):rL (aO m) (aO n)=some (aO (m / n),aO (m % n)):=by
 unfold rL;rw[wk (by unfold Fit;omega) (by unfold Fit;omega),aiv]
 by_cases ah:m<n
 ·have:mj (m:Int) n<0:=by unfold mj;rw[if_pos (by omega)];decide
  rw[if_pos (by simpa using this),tp (by unfold Fit;omega),aiv,ajq ah,ahN ah,cF]
 have:¬mj (m:Int) n<0:=by unfold mj;rw[if_neg (by omega)];split<;>decide
 rw[if_neg (by simpa using this)];obtain⟨aS,aT⟩:=xw hn;have ai:=fO n
 by_cases h1:(aO n).length=1
 ·rw[if_pos (by simp;omega)];have aU:(n:Int)<1048576:=by rw[h1]at ai;simpa [pw] using ai
  have e:aO n=[(n:Int)]:=by
   rw[mU hn,ajq (by omega),cF,ahN (by omega)]
  have ei:P.idx (aO n) 0=some (n:Int):=by rw[e];rfl
  rw[ei,aiv,O9 (cy m) ⟨by omega,by omega⟩ (by unfold Fit;omega),aiv,bx];have ar:(m:Int) % n=((m % n:Nat):Int):=(Int.natCast_emod m n).symm;have au:((m:Int) / n).toNat=m / n:=by
   rw[<- Int.natCast_ediv];rfl
  have aV:m % n<n:=ahL _ (by omega);simp only[ar,au];rw[BX (n:=m % n) (by simp[Fit]) (Dg.mk (by omega) Dg.nil) (by simp[dv]),aiv]
 ·rw[if_neg (by simp;omega)];generalize hN:(aO n).length=N at *;have av:2<=N:=by omega
  have ad:=cy n;have gt:=ad.get (show N-1<(aO n).length by omega);generalize ht:(aO n)[N-1]'(by omega)=t at gt;have O:=iO (aO n) (i:=N-1) (by omega);rw[bx,jC (by omega),aiI (by omega),ht]at O;simp only[dv,ajn,ajr]at O;have aw:=cN (ad.take (N-1));have ax:=nK (ad.take (N-1));rw[ag8,ah4 (by omega)]at ax;have aW:=mz (N-1);have ay:1<=t:=by
   rcases (show t=0∨1<=t by omega) with h|h
   ·subst h;omega
   ·exact h
  obtain⟨s,az,j,aj,hj,aA,ae⟩:=Rr hN (by omega) (by omega) ht ay gt.2;have aB:(2:Int) ^ j<=524288:=by
   have:∀j:Nat,j<=19->(2:Int) ^ j<=524288:=by decide
   exact this j hj
  have aC:(0:Int)<2 ^ j:=Int.pow_pos (by decide);have aD:(t+1)*s<=1048576:=by
   have aE:(1048576:Int)=2 ^ (20-j)*2 ^ j:=by rw[<- Int.pow_add,Nat.sub_add_cancel (by omega)];rfl
   rw[aE]at ae ⊢;rw[aj]at ae ⊢;have:t<2 ^ (20-j):=Int.lt_of_mul_lt_mul_right ae (by omega);exact ajp (by omega) (by omega)
  rw[<- aj]at aC aB;obtain⟨S,rfl⟩:∃S:Nat,s=S:=⟨s.toNat,by omega⟩;have ak:Dg [(S:Int)]:=Dg.mk (by omega) Dg.nil;have Y:dv [(S:Int)]=S:=by simp[dv]
  rw[az,aiv,mul_eq (cy m) ak (by simp;omega),aiv,bx,Y];have em:((m:Int)*S).toNat=m*S:=by rw[<- ahQ];rfl
  have en:((n:Int)*S).toNat=n*S:=by rw[<- ahQ];rfl
  rw[em];have aX:(aO (m*S)).length<=(aO m).length+1:=by
   apply gI;rw[ij,ahQ];have X:=fO m;have:(m:Int)*S<=m*1048576:=ai8 (by omega) (by omega);omega
  have hU:∃u,((if ((((aO (m*S)++[0]).length:Int))==((aO m).length:Int))=true then (lf 8 (aO (m*S)++[0]) [0]).bind fun aF=>some aF else some (aO (m*S)++[0]))=some u)∧Dg u∧dv u=(m*S:Nat)∧dv u<pw (u.length-1)∧(aO (m*S)).length+1<=u.length∧u.length<=(aO m).length+3:=by
   have d1:Dg (aO (m*S)++[0]):=(cy _).append (Dg.mk (by omega) Dg.nil);have v1:dv (aO (m*S)++[0])=(m*S:Nat):=by rw[gj,bx];simp[dv]
   have v2:=fO (m*S);split
   ·rw[wg (by simp;omega),aiv];refine⟨_,rfl,d1.append (Dg.mk (by omega) Dg.nil),by rw[gj,v1];simp[dv],?_,by simp,by simp;omega⟩;rw[gj,v1];simp only[dv,ah1,List.length_cons,List.length_nil];have:=p8 (i:=(aO (m*S)).length) (j:=(aO (m*S)).length+1) (by omega);rw[show (aO (m*S)).length+(0+1)+(0+1)-1=(aO (m*S)).length+1 by omega];omega
   ·refine⟨_,rfl,d1,v1,?_,by simp,by simp;omega⟩;rw[v1];simpa using v2
  obtain⟨u,aG,al,aH,aY,aZ,a6⟩:=hU;rw[wg (by simp;omega),aiv,mul_eq (cy n) ak (by simp;omega),aiv,bx,Y,en,aG,aiv];have aP:524288*pw (N-1)<=((n*S:Nat):Int):=by
   rw[ahQ,O,ajm];have X:0<=dv ((aO n).take (N-1))*S:=ajj aw (by omega);have a2:pw (N-1)*524288<=pw (N-1)*(t*S):=ai8 aA (by omega);rw[aja];omega
  have an:((n*S:Nat):Int)<pw N:=by
   have a0:pw N=1048576*pw (N-1):=by rw[<- ij];congr 1;omega
   rw[a0,ahQ,O];have X:(dv ((aO n).take (N-1))+pw (N-1)*t+1)*S<=(pw (N-1)*(t+1))*S:=ajp (by rw[ai9];omega) (by omega);have a2:pw (N-1)*((t+1)*S)<=pw (N-1)*1048576:=ai8 aD (by omega);rw[aja]at X;rw[ajm _ 1,ajo]at X;omega
  have ao:(aO (n*S)).length=N:=by
   have X:=gI an;rcases ahA (aO (n*S)).length N with h|h
   ·have a2:=fO (n*S);have a3:=p8 (i:=(aO (n*S)).length) (j:=N-1) (by omega);omega
   ·omega
  have aI:524288<=(aO (n*S))[N-1]'(by omega):=by
   have X:=iO (aO (n*S)) (i:=N-1) (by omega);rw[bx,jC (by omega),aiI (by omega)]at X;simp only[dv,ajn,ajr]at X;have a2:=nK ((cy (n*S)).take (N-1));rw[ag8,ah4 (by omega)]at a2;have a3:pw (N-1)*524288<pw (N-1)*((aO (n*S))[N-1]'(by omega)+1):=by rw[ai9];omega
   have:=Int.lt_of_mul_lt_mul_left a3 (by omega);omega
  have hlen:N+1<=u.length:=by
   have:n*S<=m*S:=ahC _ (by omega);have:=cz this;omega
  obtain⟨M,hM⟩:∃M,u.length=M+N:=⟨u.length-N,by omega⟩;have e1:IntKind.i64.wrap ((u.length:Int)-((aO (n*S)).length:Int))=(M:Int):=by rw[ao,hM,gq (by omega)];omega
  rw[e1,mk0 (by omega),aiv,List.length_replicate,gq (x:=(M:Int)-1) (by omega)];have aJ:dv (u.drop M)<dv (aO (n*S)):=by
   rw[bx];have X:=iO u (i:=M) (by omega);have a2:=cN (al.take M);have a3:pw M*dv (u.drop M)<pw M*pw (N-1):=by
    rw[<- EG,show M+(N-1)=u.length-1 by omega];omega
   have:=Int.lt_of_mul_lt_mul_left a3 (by have:=mz M;omega);omega
  obtain⟨⟨U,Q⟩,r1,r2,r3,r4,r5,r6,r7⟩:=XC (cy (n*S)) ao av aI al hM (by omega) aJ;simp only at r2 r3 r4 r5 r6 r7;rw[r1,aiv];simp only;rw[bx,aH]at r6;rw[bx]at r7;have a7:=cN r3;have a8:=cN r5;have hS:0<S:=by omega
  have aK:0<n*S:=Nat.mul_pos (by omega) hS;obtain⟨Z,ag⟩:∃k:Nat,dv U=k:=⟨(dv U).toNat,by omega⟩;obtain⟨Q',aq⟩:∃k:Nat,dv Q=k:=⟨(dv Q).toNat,by omega⟩;rw[ag,aq]at r6;rw[ag]at r7;have aa:Z+n*S*Q'=m*S:=by
   have:((Z+n*S*Q':Nat):Int)=((m*S:Nat):Int):=by rw[Int.natCast_add,ahQ (n*S) Q'];exact r6
   omega
  have ab:Z<n*S:=by omega
  have aL:Q'=m / n:=by
   have:m*S / (n*S)=Q':=by
    rw[<- aa,Nat.add_mul_div_left _ _ aK,ajq ab,ahE]
   rw[<- this,Nat.mul_div_mul_right _ _ hS]
  have aM:Z=(m % n)*S:=by
   have:m*S % (n*S)=Z:=by rw[<- aa,Nat.add_mul_mod_self_left,ahN ab]
   rw[<- this,Nat.mul_mod_mul_right]
  rw[BX (n:=Z) (by unfold Fit;omega) r3 ag,aiv];have aN:(aO Z).length<=N:=gI (by omega);rw[O9 (cy Z) ⟨by omega,by omega⟩ (by unfold Fit;omega),aiv,BX (n:=Q') (by unfold Fit;omega) r5 aq,aiv,bx,aL,aM];have:((((m % n)*S:Nat):Int) / (S:Int)).toNat=m % n:=by
   rw[ahQ,Int.mul_ediv_cancel _ (by omega)];rfl
  rw[this]
def eV (x:Int):aB:=aB.mk x.sign (aO x.natAbs)
def Ln (x:Int):Nat:=(aO x.natAbs).length
def eQ:Nat:=4398046511104
def me:Nat:=17592186043904
theorem qL {n:Nat} (h:n<=eQ):n<=me:=agR h (by decide)
theorem DZ:eV 0=aB.mk 0 []:=by unfold eV;rw[show (0:Int).natAbs=0 from rfl,cF];rfl
theorem TL {x y:Int} (h:eV x=eV y):x=y:=by
 unfold eV at h;simp only[aB.mk.injEq]at h;have:=XA h.2;have h1:=Int.sign_mul_natAbs x;have h2:=Int.sign_mul_natAbs y;rw[<- h1,<- h2,h.1,this]
theorem KW {x:Int} {k:Nat} (h:(x.natAbs:Int)<pw k):Ln x<=k:=gI h
theorem TI (x:Int):(x.natAbs:Int)<pw (Ln x):=fO _
theorem Sh {x y:Int} (h:x.natAbs<=y.natAbs):Ln x<=Ln y:=cz h
theorem B2 (x:Int):Ln (-x)=Ln x:=by unfold Ln;rw[Int.natAbs_neg]
theorem P0 (x y:Int):Ln (x+y)<=max (Ln x) (Ln y)+1:=by
 apply KW;have h1:=TI x;have h2:=TI y;have h3:=p8 (i:=Ln x) (j:=max (Ln x) (Ln y)) (by omega);have h4:=p8 (i:=Ln y) (j:=max (Ln x) (Ln y)) (by omega);have h5:=Int.natAbs_add_le x y;rw[ij];omega
theorem mf (x y:Int):Ln (x*y)<=Ln x+Ln y:=by
 apply KW;have h1:=TI x;have h2:=TI y;rw[ajs,ahQ,EG];have O:=mz (Ln x)
 calc (x.natAbs:Int)*y.natAbs<=pw (Ln x)*y.natAbs:=ajp (by omega) (by omega)
  _<pw (Ln x)*pw (Ln y):=Int.mul_lt_mul_of_pos_left h2 O
theorem KX {x:Int} (h:x.natAbs<1048576):Ln x<=1:=KW (by rw[ij,mP];omega)
instance (l:List Int):Decidable (Dg l):=by unfold Dg;infer_instance
def okB (b:aB):Bool:=decide (Dg b.aa)&&(match b.aa.getLast? with|none=>b.aj==0|some d=>(b.aj==1||b.aj == -1)&&d != 0)
theorem yd {b:aB} : okB b=true↔∃x,b=eV x:=by
 obtain⟨s,l⟩:=b;unfold okB;simp only[ahq,decide_eq_true_eq];constructor
 ·rintro⟨Z,h⟩;cases X:l.getLast? with
  | none =>
   rw[X]at h;have:l=[]:=List.getLast?_eq_none_iff.1 X;subst this;exact⟨0,by rw[DZ];simpa using h⟩
  | some d =>
   rw[X]at h;simp only[ahq,aiw,beq_iff_eq,bne_iff_ne]at h;have O:l≠[]:=by intro h0;subst h0;simp at X
   have U:∀h:l≠[],l.getLast h≠0:=by
    intro h';rw[ajt h']at X;cases X;exact h.2
   have e:=BG Z U;have h0:(dv l).toNat≠0:=by
    intro h0;rw[h0,cF]at e;exact O e.symm
   have hn:=cN Z;refine⟨s*dv l,?_⟩;unfold eV;rcases h.1 with rfl|rfl
   ·rw[ajo,aju (by omega)];have:(dv l).natAbs=(dv l).toNat:=by omega
    rw[this,e]
   ·rw[Int.neg_mul,ajo,Int.sign_neg,aju (by omega)];have:(-dv l).natAbs=(dv l).toNat:=by omega
    rw[this,e]
 ·rintro⟨x,Y⟩;unfold eV at Y;simp only[aB.mk.injEq]at Y;obtain⟨rfl,rfl⟩:=Y;refine⟨cy _,?_⟩
  by_cases h0:x=0
  ·subst h0;simp[cF]
  ·have O:aO x.natAbs≠[]:=fun h=>h0 (by have:=qQ.1 h;omega);rw[ajt O];have h1:=U7 _ O;simp only[ahq,aiw,beq_iff_eq,bne_iff_ne];refine⟨?_,h1⟩;rcases ai1 x 0 with h|h|h
   ·right;exact ajv h
   ·exact absurd h h0
   ·left;exact aju h
theorem J9 (x:Int):okB (eV x)=true:=yd.2 ⟨x,rfl⟩
theorem ER {b:aB} (hf:Fit b.aa):cV b=some (okB b):=by
 obtain⟨s,l⟩:=b;simp only[Fit]at hf;have key:∃r,aS (nU ⟨s,l⟩) 0=some r∧(match r with | .inl _=>Dg l | .inr x=>x=false∧¬Dg l):=by
  refine dh (I:=fun i s=>s=(i:Int)∧Dg (l.take i)) l.length _ ⟨rfl,by simpa using Dg.nil⟩ (jq hf) ?_;rintro i s hi ⟨rfl,Y⟩;simp only[nU]
  by_cases O:i<l.length
  ·rw[if_pos (by simpa using O),cj O,aiv]
   by_cases h1:l[i]<0
   ·right;exact⟨.inr false,by rw[if_pos (by simpa using h1)],rfl,fun Z=>by have:=Z.get O;omega⟩
   ·by_cases h2:l[i]>1048575
    ·right;exact⟨.inr false,by rw[if_neg (by simpa using h1),if_pos (by simpa using h2)],rfl,fun Z=>by have:=Z.get O;omega⟩
    ·left;refine⟨O,_,by rw[if_neg (by simpa using h1),if_neg (by simpa using h2)],by rw[gq (by omega)];omega,?_⟩;have e:l.take (i+1)=l.take i++[l[i]]:=by rw[ajb];simp[O]
     rw[e];exact Y.append (Dg.mk (by omega) Dg.nil)
  ·right;have:i=l.length:=by omega
   subst this;rw[aiZ]at Y;exact⟨.inl (),by rw[if_neg (by simp)],Y⟩
 obtain⟨r,h1,h2⟩:=key;unfold cV okB;rw[h1,aiv];cases r with
 | inr x =>
  obtain⟨rfl,h⟩:=h2;simp[h]
 | inl u =>
  simp only at h2 ⊢;simp only[h2,decide_true,aim]
  by_cases X:l=[]
  ·subst X;simp
  ·have hp:0<l.length:=aiO.2 X;have e:IntKind.i64.wrap ((l.length:Int)-1)=((l.length-1:Nat):Int):=by rw[gq (by omega)];omega
   rw[if_neg (by simpa using X),e,cj (by omega),ajt X,List.getLast_eq_getElem];simp only[Option.bind_some]
   by_cases hs:s=1
   ·subst hs;simp
   ·rw[if_neg (by simpa using hs)]
    by_cases U:s = -1
    ·subst U;simp
    ·rw[if_neg (by simpa using U)];simp[hs,U]
theorem gM {x:Int} (h:Ln x<=17592186044416):cV (eV x)=some true:=by
 rw[ER (show Fit (eV x).aa from h),J9]
theorem rj {s:Int} {l:List Int} (x:Int) (O:Fit l) (U:Dg l) (X:dv l=x.natAbs) (hs:x≠0->s=x.sign):cY s l=some (eV x):=by
 unfold cY;rw[BX O U X,aiv]
 by_cases h0:x=0
 ·subst h0;rw[show (0:Int).natAbs=0 from rfl,cF,DZ];rfl
 ·have:aO x.natAbs≠[]:=fun h=>h0 (by have:=qQ.1 h;omega);rw[if_neg (by simpa using this),hs h0];rfl
theorem lu (b:aB):eC true b=some (b,0):=rfl
theorem ov (x:Int):x.sign = -1∨x.sign=0∨x.sign=1:=by
 rcases ai1 x 0 with h|h|h
 ·left;exact ajv h
 ·subst h;right;left;rfl
 ·right;right;exact aju h
theorem P3 {x:Int} (h:Ln x<=eQ):nT (eV x)=some (eV (-x)):=by
 unfold nT;have U:eQ=4398046511104:=rfl;rw[gM (by omega),aiv];simp only[ail,ahp,if_false];have O:Fit (eV x).aa:=by unfold Fit;show Ln x<=_;omega
 rw[tp O,aiv,rj (-x) O (cy _) (by show dv (aO _)=_;rw[bx,Int.natAbs_neg]),aiv];intro X;show IntKind.i64.wrap (0-x.sign)=_;rw[gq (by have:=ov x;omega),Int.sign_neg,Int.zero_sub]
theorem abJ (s t:Int):tq [s,t]=some (if s≠0 then s else t):=by
 have key:∃r,aS (uY [s,t]) 0=some r∧(match r with | .inl _=>s=0∧t=0 | .inr x=>x=if s≠0 then s else t):=by
  refine dh (I:=fun i j=>j=(i:Int)∧(1<=i->s=0)∧(2<=i->t=0)) 2 _ ⟨rfl,by omega,by omega⟩ (by unfold FU;omega) ?_;rintro i j O ⟨rfl,h1,h2⟩;simp only[uY];rcases (show i=0∨i=1∨i=2 by omega) with rfl|rfl|rfl
  ·rw[if_pos (by simp)];show _∨∃r,((some s).bind _=_)∧_;rw[show P.idx [s,t] ((0:Nat):Int)=some s from rfl,aiv]
   by_cases hs:s=0
   ·left;exact⟨by omega,_,by rw[if_neg (by simpa using hs)],by rw[gq (by omega)];rfl,fun _=>hs,by omega⟩
   ·right;exact⟨_,by rw[if_pos (by simpa using hs)],by simp[hs]⟩
  ·have hs:=h1 (by omega);rw[if_pos (by simp),show P.idx [s,t] ((1:Nat):Int)=some t from rfl,aiv]
   by_cases ht:t=0
   ·left;exact⟨by omega,_,by rw[if_neg (by simpa using ht)],by rw[gq (by omega)];rfl,fun _=>hs,fun _=>ht⟩
   ·right;exact⟨_,by rw[if_pos (by simpa using ht)],by simp[hs]⟩
  ·right;exact⟨.inl (),by rw[if_neg (by simp)],h1 (by omega),h2 (by omega)⟩
 obtain⟨r,h1,h2⟩:=key;unfold tq;rw[h1,aiv];cases r with
 | inl u=>simp only at h2 ⊢;rw[if_neg (by simp[h2.1]),h2.2]
 | inr x=>simp only at h2 ⊢;rw[h2]
theorem iz (x:Int):x.sign=1∧x=x.natAbs∧0<x∨x.sign = -1∧x = -x.natAbs∧x<0∨x.sign=0∧x=0:=by
 rcases ai1 x 0 with h|h|h
 ·right;left;exact⟨ajv h,by omega,h⟩
 ·subst h;right;right;exact⟨rfl,rfl⟩
 ·left;exact⟨aju h,by omega,h⟩
theorem oH {x:Int} {s:Int} {n:Nat} (O:n=x.natAbs) (hs:x≠0->s=x.sign) (U:n≠0->(aO n).length<=17592186044416):cY s (aO n)=some (eV x):=by
 subst O;refine rj x ?_ (cy _) (bx _) hs;unfold Fit
 by_cases h:x.natAbs=0
 ·rw[h,cF];simp
 ·exact U h
theorem acF {x y:Int} (hx:Ln x<=eQ) (hy:Ln y<=eQ):uS (eV x) (eV y)=some (eV (x+y),0):=by
 have hL:eQ=4398046511104:=rfl;have ag:=P0 x y;unfold uS;rw[gM (by omega),aiv];simp only[ail,ahp,if_false];rw[gM (by omega),aiv,aiv];simp only[ail,ahp,if_false];show (if decide (IntKind.i64.wrap (x.sign*y.sign)>=0)=true then _ else _)=_;have Z:(eV x).aa=aO x.natAbs:=rfl;have ab:(eV y).aa=aO y.natAbs:=rfl;have ad:(eV x).aj=x.sign:=rfl;have ae:(eV y).aj=y.sign:=rfl;rw[Z,ab,ad,ae];have fx:(aO x.natAbs).length<=4398046511104:=by show Ln x<=_;omega
 have fy:(aO y.natAbs).length<=4398046511104:=by show Ln y<=_;omega
 have sx:=iz x;have sy:=iz y;have hw:IntKind.i64.wrap (x.sign*y.sign)=x.sign*y.sign:=by
  apply gq;rcases ov x with h|h|h<;>rcases ov y with g|g|g<;>rw[h,g]<;>decide
 rw[hw]
 by_cases hs:x.sign*y.sign>=0
 ·rw[if_pos (by simpa using hs),abJ,aiv,add_eq (cy _) (cy _) (by omega) (by omega),aiv,bx,bx];have hn:((x.natAbs:Int)+y.natAbs).toNat=(x+y).natAbs:=by
   rcases sx with⟨a,b,c⟩|⟨a,b,c⟩|⟨a,b⟩<;>rcases sy with⟨O,U,X⟩|⟨O,U,X⟩|⟨O,U⟩<;>first|omega|(rw[a,O]at hs;exact absurd hs (by decide))
  rw[hn,oH (x:=x+y) rfl ?_ (fun _=>by show Ln (x+y)<=_;omega),aiv,lu,aiv];intro h0;rcases sx with⟨a,b,c⟩|⟨a,b,c⟩|⟨a,b⟩<;>rcases sy with⟨O,U,X⟩|⟨O,U,X⟩|⟨O,U⟩<;>(try (rw[a,O]at hs;exact absurd hs (by decide)))<;>rw[a,O]
  ·rw[if_pos (by decide),aju (by omega)]
  ·rw[if_pos (by decide),aju (by omega)]
  ·rw[if_pos (by decide),ajv (by omega)]
  ·rw[if_pos (by decide),ajv (by omega)]
  ·rw[if_neg (by decide),aju (by omega)]
  ·rw[if_neg (by decide),ajv (by omega)]
  ·omega
 ·rw[if_neg (by simpa using hs),wk (by unfold Fit;omega) (by unfold Fit;omega),aiv];have Y:x.sign=1∧y.sign = -1∧0<x∧y<0∨x.sign = -1∧y.sign=1∧x<0∧0<y:=by
   rcases sx with⟨a,b,c⟩|⟨a,b,c⟩|⟨a,b⟩<;>rcases sy with⟨O,U,X⟩|⟨O,U,X⟩|⟨O,U⟩<;>first|exact .inl ⟨a,O,c,X⟩|exact .inr ⟨a,O,c,X⟩|(rw[a,O]at hs;exact absurd (by decide) hs)
  by_cases ah:x.natAbs<y.natAbs
  ·have:mj (x.natAbs:Int) y.natAbs<0:=by unfold mj;rw[if_pos (by omega)];decide
   rw[if_pos (by simpa using this),sub_eq (cy _) (cy _) (by unfold Fit;omega) (cz (by omega)) (by rw[bx,bx];omega),aiv,bx,bx];rw[oH (x:=x+y) (by omega) ?_ (fun _=>by rw[show ((y.natAbs:Int)-x.natAbs).toNat=(x+y).natAbs by omega];show Ln (x+y)<=_;omega),aiv,lu,aiv];intro h0;rcases Y with⟨a,O,b,U⟩|⟨a,O,b,U⟩
   ·rw[O,ajv (by omega)]
   ·rw[O,aju (by omega)]
  ·have:¬mj (x.natAbs:Int) y.natAbs<0:=by unfold mj;rw[if_neg (by omega)];split<;>decide
   rw[if_neg (by simpa using this),sub_eq (cy _) (cy _) (by unfold Fit;omega) (cz (by omega)) (by rw[bx,bx];omega),aiv,bx,bx];rw[oH (x:=x+y) (by omega) ?_ (fun _=>by rw[show ((x.natAbs:Int)-y.natAbs).toNat=(x+y).natAbs by omega];show Ln (x+y)<=_;omega),aiv,lu,aiv];intro h0;rcases Y with⟨a,O,b,U⟩|⟨a,O,b,U⟩
   ·rw[a,aju (by omega)]
   ·rw[a,ajv (by omega)]
theorem acJ {x y:Int} (hx:Ln x<=eQ) (hy:Ln y<=eQ):uU (eV x) (eV y)=some (eV (x*y),0):=by
 have hL:eQ=4398046511104:=rfl;have Z:=mf x y;unfold uU;rw[gM (by omega),aiv];simp only[ail,ahp,if_false];rw[gM (by omega),aiv,aiv];simp only[ail,ahp,if_false];have O:(eV x).aa=aO x.natAbs:=rfl;have U:(eV y).aa=aO y.natAbs:=rfl;have X:(eV x).aj=x.sign:=rfl;have Y:(eV y).aj=y.sign:=rfl;rw[O,U,X,Y];have fx:(aO x.natAbs).length<=4398046511104:=by show Ln x<=_;omega
 have fy:(aO y.natAbs).length<=4398046511104:=by show Ln y<=_;omega
 have hw:IntKind.i64.wrap (x.sign*y.sign)=(x*y).sign:=by
  rw[Int.sign_mul];apply gq;rcases ov x with h|h|h<;>rcases ov y with g|g|g<;>rw[h,g]<;>decide
 rw[hw,mul_eq (cy _) (cy _) (by omega),aiv,bx,bx];have hn:((x.natAbs:Int)*y.natAbs).toNat=(x*y).natAbs:=by rw[ajs,<- ahQ];rfl
 rw[hn,oH (x:=x*y) rfl (fun _=>rfl) (fun _=>by show Ln (x*y)<=_;omega),aiv,lu,aiv]
theorem pF {x y:Int} (O:Ln x<=eQ) (U:Ln y<=eQ):cZ (eV x) (eV y)=some (eV (x*y)):=by
 unfold cZ;rw[acJ O U];rfl
theorem Ww {x y:Int} (hx:Ln x<=eQ) (hy:Ln y<=eQ) (h0:0<y) (hd:y∣x):nS (eV x) (eV y)=some (eV (x / y),eV 0,0):=by
 have hL:eQ=4398046511104:=rfl;unfold nS;rw[gM (by omega),aiv];simp only[ail,ahp,if_false];rw[gM (by omega),aiv,aiv];simp only[ail,ahp,if_false];have O:(eV x).aa=aO x.natAbs:=rfl;have U:(eV y).aa=aO y.natAbs:=rfl;have X:(eV x).aj=x.sign:=rfl;have Y:(eV y).aj=1:=aju h0;rw[O,U,X,Y];have fx:(aO x.natAbs).length<=4398046511104:=by show Ln x<=_;omega
 have fy:(aO y.natAbs).length<=4398046511104:=by show Ln y<=_;omega
 have fq:=cz (Nat.div_le_self x.natAbs y.natAbs);obtain⟨z,rfl⟩:=hd;have Z:y*z / y=z:=Int.mul_ediv_cancel_left _ (by omega);have hn:(y*z).natAbs=y.natAbs*z.natAbs:=ajs _ _;have hq:(y*z).natAbs / y.natAbs=z.natAbs:=by rw[hn,Nat.mul_div_cancel_left _ (by omega)]
 have hr:(y*z).natAbs % y.natAbs=0:=by rw[hn,Nat.mul_mod_right]
 have ab:(y*z).sign=z.sign:=by rw[Int.sign_mul,aju h0,ajo]
 rw[if_neg (by decide),div_eq (by omega) (by omega) (by omega),aiv,ai7,ab,gq (x:=z.sign) (by have:=ov z;omega),Z,hq,hr,cF];rw[hq]at fq;have hT:(if decide (z.sign<0)=true then some (decide ((([]:List Int).length:Int)>0)) else some false)=some false:=by split<;>rfl
 simp only[hT,Option.bind_some,ahp,if_false];rw[oH (x:=z) rfl (fun _=>rfl) (fun _=>by omega),aiv];have:cY z.sign []=some (eV 0):=rj 0 (by simp[Fit]) Dg.nil rfl (fun h=>absurd rfl h);rw[this,aiv]
def lg (n:Nat):Nat:=if n=0 then 0 else n.log2+1
theorem ack {r x:Nat} (h:2*r<x):lg r<lg x:=by
 unfold lg;rw[if_neg (show x≠0 by omega)]
 by_cases O:r=0
 ·rw[if_pos O];omega
 ·rw[if_neg O];have h1:=Nat.log2_self_le O;have h2:=@Nat.lt_log2_self x;have:2 ^ (r.log2+1)<2 ^ (x.log2+1):=by rw[Nat.pow_succ];omega
  have:=(Nat.pow_lt_pow_iff_right (by decide:1<2)).1 this;omega
theorem TD {n k:Nat} (h:(n:Int)<pw k):lg n<=20*k:=by
 unfold lg
 by_cases O:n=0
 ·rw[if_pos O];omega
 ·rw[if_neg O];have:n<2 ^ (20*k):=by
   have:pw k=((2 ^ (20*k):Nat):Int):=by
    unfold pw;rw[Nat.pow_mul,Int.natCast_pow];rfl
   omega
  have:=(Nat.log2_lt O).2 this;omega
theorem Ye {a b:Nat} (Z:(aO a).length<=me) (hb:(aO b).length<=me):aS oP (aO a,aO b)=some (aO (Nat.gcd a b)):=by
 have hL:me=17592186043904:=rfl;have key:∃r,aS oP (aO a,aO b)=some r∧r=aO (Nat.gcd a b):=by
  have la:=TD (fO a);have lb:=TD (fO b)
  let val:List Int->Nat:=fun l=>(dv l).toNat
  have O:∀n,val (aO n)=n:=fun n=>by show (dv (aO n)).toNat=n;rw[bx];rfl
  refine qW (I:=fun (s:List Int×List Int)=>∃x y,s=(aO x,aO y)∧Nat.gcd x y=Nat.gcd a b∧(aO x).length<=me∧(aO y).length<=me)
   (μ:=fun (s:List Int×List Int)=>lg (val s.1)+lg (val s.2)+(if val s.1<val s.2 then 1 else 0)) _ ⟨a,b,rfl,rfl,Z,hb⟩ (by simp only[O];unfold FU;split<;>omega) ?_
  rintro _ ⟨x,y,rfl,Y,hx,hy⟩;simp only[oP]
  by_cases h0:y=0
  ·right;subst h0;refine⟨_,by rw[cF,if_neg (by simp)],?_⟩;rw[<- Y,ajw]
  ·left;have X:0<(aO y).length:=aiO.2 (fun h=>h0 (qQ.1 h));rw[if_pos (by simpa using X),div_eq h0 (by omega) (by omega),aiv];have aa:=ahL x (ajx h0);refine⟨_,rfl,⟨y,x % y,rfl,?_,hy,?_⟩,?_⟩
   ·rw[<- Y,Nat.gcd_comm y,<- Nat.gcd_rec,Nat.gcd_comm]
   ·have:=cz (Nat.mod_le x y);omega
   ·simp only[O];rw[if_neg (by omega)]
    by_cases U:x<y
    ·rw[if_pos U,ahN U];omega
    ·rw[if_neg U];have:lg (x % y)<lg x:=by
      apply ack;have h1:=ai3 x y;have h2:1<=x / y:=(Nat.one_le_div_iff (by omega)).2 (by omega);have h3:y*1<=y*(x / y):=Nat.mul_le_mul_left _ h2;omega
     omega
 obtain⟨r,h1,rfl⟩:=key;exact h1
theorem Wy {x y:Int} (Z:Ln x<=me) (hy:Ln y<=me):pR (eV x) (eV y)=some (eV (Int.gcd x y),0):=by
 have hL:me=17592186043904:=rfl;unfold pR;rw[gM (by omega),aiv];simp only[ail,ahp,if_false];rw[gM (by omega),aiv,aiv];simp only[ail,ahp,if_false];have O:(eV x).aa=aO x.natAbs:=rfl;have U:(eV y).aa=aO y.natAbs:=rfl;rw[O,U];have Y:(aO x.natAbs).length<=17592186043904:=by show Ln x<=_;omega
 have fy:(aO y.natAbs).length<=17592186043904:=by show Ln y<=_;omega
 have fg:(aO (Nat.gcd x.natAbs y.natAbs)).length<=17592186043904:=by
  by_cases h:y.natAbs=0
  ·rw[h,ajw];exact Y
  ·have:=cz (ajy x.natAbs (ajx h));omega
 rw[tp (by unfold Fit;omega),aiv,Ye (by omega) (by omega),aiv,tp (by unfold Fit;omega),aiv];have X:Nat.gcd x.natAbs y.natAbs=((Int.gcd x y:Nat):Int).natAbs:=rfl;rw[oH (x:=(Int.gcd x y:Int)) X ?_ (fun _=>by omega),aiv,lu,aiv];intro h;rw[aju (by omega)]
theorem PY {x y:Int} (hx:Ln x<=eQ) (hy:Ln y<=eQ):kO (eV x) (eV y)=some (mj x y):=by
 have hL:eQ=4398046511104:=rfl;unfold kO;rw[gM (by omega),aiv];simp only[ail,ahp,if_false];rw[gM (by omega),aiv,aiv];simp only[ail,ahp,if_false];have X:(eV x).aa=aO x.natAbs:=rfl;have Y:(eV y).aa=aO y.natAbs:=rfl;have Z:(eV x).aj=x.sign:=rfl;have ab:(eV y).aj=y.sign:=rfl;rw[X,Y,Z,ab];have fx:(aO x.natAbs).length<=4398046511104:=by show Ln x<=_;omega
 have fy:(aO y.natAbs).length<=4398046511104:=by show Ln y<=_;omega
 by_cases h:x.sign=y.sign
 ·rw[if_neg (by simpa using h),wk (by unfold Fit;omega) (by unfold Fit;omega),aiv];have hc:∀s:Int,s = -1∨s=0∨s=1->∀c:Int,c = -1∨c=0∨c=1->IntKind.i64.wrap (s*c)=s*c:=by
   rintro s (rfl|rfl|rfl) c (rfl|rfl|rfl)<;>exact gq (by decide)
  have ad:∀a b:Int,mj a b = -1∨mj a b=0∨mj a b=1:=by
   intro a b;unfold mj;split
   ·simp
   ·split<;>simp
  rw[hc _ (ov x) _ (ad _ _)];congr 1;unfold mj;rcases iz x with⟨a,b,c⟩|⟨a,b,c⟩|⟨a,b⟩<;>rcases iz y with⟨O,U,c'⟩|⟨O,U,c'⟩|⟨O,U⟩<;>(try (rw[a,O]at h;exact absurd h (by decide)))<;>rw[a]<;>split<;>(try split)<;>(try split)<;>(try split)<;>omega
 ·rw[if_pos (by simpa using h),CC,aiv];congr 1;unfold mj;rcases iz x with⟨a,b,c⟩|⟨a,b,c⟩|⟨a,b⟩<;>rcases iz y with⟨O,U,c'⟩|⟨O,U,c'⟩|⟨O,U⟩<;>(try (exact absurd (a.trans O.symm) h))<;>rw[a,O]<;>split<;>(try split)<;>(try split)<;>(try split)<;>omega
theorem UN (x:Int):IntKind.u64.wrap x=x % 18446744073709551616:=by
 unfold IntKind.wrap;simp only[IntKind.bits,IntKind.signed,aiV,ahp,if_false];rfl
theorem wu {x:Int} (h:0<=x∧x<18446744073709551616):IntKind.u64.wrap x=x:=by rw[UN];omega
theorem UZ {x:Int} (h:0<=x∧x<18446744073709551616):j0 .and .u64 x 1048575=x % 1048576:=by
 unfold j0;simp only;have e1:(BitVec.ofInt IntKind.u64.bits x &&& BitVec.ofInt IntKind.u64.bits 1048575).toNat=((x % 18446744073709551616).toNat) % 1048576:=by
  rw[BitVec.toNat_and,BitVec.toNat_ofInt,BitVec.toNat_ofInt];have e:((1048575:Int) % ((2 ^ IntKind.u64.bits:Nat):Int)).toNat=2 ^ 20-1:=by decide
  rw[e,ajc];rfl
 rw[e1,wu (by omega)];omega
theorem adu (x:Int):By .u64 x 20=some (x / 1048576):=by
 unfold By;rw[if_neg (by decide)];have e:(2:Int) ^ (min (Int.toNat 20) IntKind.u64.bits)=1048576:=by decide
 rw[e,Int.fdiv_eq_ediv_of_nonneg _ (by decide)]
theorem pw4:pw 4=1208925819614629174706176:=by decide
theorem abe {n:Nat} (hn:n<18446744073709551616):∃l,aS uV ((n:Int),[])=some l∧Dg l∧dv l=n∧l.length<=5:=by
 refine qW (I:=fun (s:Int×List Int)=>0<=s.1∧Dg s.2∧dv s.2+pw s.2.length*s.1=n∧s.2.length<=5∧(s.1=0∨s.2.length<5)) (μ:=fun (s:Int×List Int)=>s.1.toNat) _ ⟨by simp,Dg.nil,by simp[dv,mP],by simp,by simp⟩ (by simp only[Int.toNat_natCast];unfold FU;omega) ?_;rintro⟨u,l⟩ ⟨h1,O,h2,h3,h5⟩;simp only at h1 O h2 h3 h5;have hp:=mz l.length;have U:=cN O;have hu:u<=n:=by
  have:1*u<=pw l.length*u:=ajp (by omega) h1;omega
 simp only[uV]
 by_cases X:u>0
 ·left;have Y:l.length<5:=by omega
  have Z:l.length<4:=by
   rcases ahA l.length 4 with h|h
   ·exact h
   ·have h4:l.length=4:=by omega
    rw[h4,pw4]at h2;omega
  have hw:IntKind.i64.wrap (u % 1048576)=u % 1048576:=gq (by omega);rw[if_pos (by simpa using X),UZ ⟨h1,by omega⟩,hw,wg (by simp;omega),aiv,adu,aiv];refine⟨_,rfl,⟨by simp only;omega,O.append (Dg.mk (by omega) Dg.nil),?_,by simp;omega,by right;simp;omega⟩,by simp only;omega⟩;simp only[gj,dv,ah1,List.length_cons,List.length_nil,ajn,ajr,ahE];have:=uf l.length u;omega
 ·right;have:u=0:=by omega
  subst this;refine⟨l,by rw[if_neg (by simp)],O,?_,h3⟩;rw[ajn]at h2;omega
theorem Si {x:Int} (h : -9223372036854775808<=x∧x<9223372036854775808):rK x=some (eV x):=by
 have U:(if decide (x<0)=true then some ((-1:Int),IntKind.u64.wrap (0-(IntKind.u64.wrap x))) else some (1,IntKind.u64.wrap x))=some (if x<0 then -1 else 1,((x.natAbs:Nat):Int)):=by
  by_cases O:x<0
  ·rw[if_pos (by simpa using O),if_pos O,UN,UN];congr 2;omega
  ·rw[if_neg (by simpa using O),if_neg O,UN];congr 2;omega
 obtain⟨l,h1,h2,h3,h4⟩:=abe (n:=x.natAbs) (by omega);unfold rK;rw[U,aiv];simp only;rw[h1,aiv,ng];refine rj x (by unfold Fit;omega) h2 h3 (fun X =>?_);split
 ·rw[ajv (by omega)]
 ·rw[aju (by omega)]
theorem af9 {d:Int} {i:Nat} (O:i<=3) (U:0<=d∧d<1048576) (h8:i=3->d<=8):FY .u64 (IntKind.u64.wrap d) (IntKind.i64.wrap (20*(i:Int)))=some (pw i*d):=by
 rw[wu (by omega),gq (by omega)];unfold FY;rw[if_neg (by omega)];have e:(2:Int) ^ (min (20*(i:Int)).toNat IntKind.u64.bits)=pw i:=by
  have:∀i:Nat,i<=3->(2:Int) ^ (min (20*(i:Int)).toNat IntKind.u64.bits)=pw i:=by decide
  exact this i O
 rw[e,wu,ai6];rcases (show i=0∨i=1∨i=2∨i=3 by omega) with rfl|rfl|rfl|rfl
 ·rw[show pw 0=1 by decide];omega
 ·rw[show pw 1=1048576 by decide];omega
 ·rw[show pw 2=1099511627776 by decide];omega
 ·rw[show pw 3=1152921504606846976 by decide];have:=h8 rfl;omega
theorem aey {u d:Int} {i:Nat} (X:i<=3) (hu:0<=u∧u<pw i) (Y:0<=d∧pw i*d<9223372036854775809):j0 .or .u64 u (pw i*d)=u+pw i*d:=by
 have hp:=mz i;have U:0<=pw i*d:=ajj (by omega) Y.1;have O:pw i=((2 ^ (20*i):Nat):Int):=by unfold pw;rw[Nat.pow_mul,Int.natCast_pow];rfl
 have Z:pw i<=1152921504606846976:=by
  have:=p8 X
  rwa [show pw 3=1152921504606846976 by decide]at this
 unfold j0;simp only;have e1:(BitVec.ofInt IntKind.u64.bits u ||| BitVec.ofInt IntKind.u64.bits (pw i*d)).toNat=(u+pw i*d).toNat:=by
  rw[BitVec.toNat_or,BitVec.toNat_ofInt,BitVec.toNat_ofInt];have e:((2 ^ IntKind.u64.bits:Nat):Int)=18446744073709551616:=by decide
  rw[e];have e2:(u % 18446744073709551616).toNat=u.toNat:=by omega
  have e3:((pw i*d) % 18446744073709551616).toNat=d.toNat <<< (20*i):=by
   rw[Nat.shiftLeft_eq,Int.emod_eq_of_lt U (by omega),O];have:d=(d.toNat:Int):=by omega
   rw[this,<- ahQ,ahR,ahR,ahP]
  rw[e2,e3,Nat.or_comm,<- Nat.shiftLeft_add_eq_or_of_lt (by omega),Nat.shiftLeft_eq];have:pw i*d=((d.toNat*2 ^ (20*i):Nat):Int):=by
   rw[O,ahQ,ai6];congr 1;omega
  omega
 rw[e1,wu (by omega)];omega
theorem adk {g:Nat} (h:(aO g).length<=me):qU (eV g)=some (decide (g=1)):=by
 have hL:me=17592186043904:=rfl;have X:(eV (g:Int)).aa=aO g:=rfl;have ab:Ln (g:Int)=(aO g).length:=rfl;unfold qU;have U:g=1->(aO g).length<=4:=by
  rintro rfl;exact agR (gI (k:=1) (by decide)) (by decide)
 suffices hI:∃r,uT (eV g)=some r∧((if r.2=true then some (r.1==1) else some false)=some (decide (g=1))) by
  obtain⟨r,h1,h2⟩:=hI;rw[h1,aiv,h2]
 unfold uT;rw[gM (by rw[ab];omega),aiv];simp only[ail,ahp,if_false,Option.bind_some,X]
 by_cases h4:(aO g).length>4
 ·rw[if_pos (by simp;omega)];refine⟨_,rfl,?_⟩;have:g≠1:=fun hh=>by have:=U hh;omega
  simp[this]
 rw[if_neg (by simp;omega)];have key:∃r,aS (rJ (eV g)) (0,0)=some r∧(match r with | .inl u=>u=(g:Int) | .inr x=>x=(0,false)∧g≠1):=by
  refine dh (I:=fun i s=>s.2=(i:Int)∧s.1=dv ((aO g).take i)) (aO g).length _ ⟨rfl,rfl⟩ (jq (by omega)) ?_;rintro i ⟨u,s⟩ hi ⟨h1,h2⟩;simp only at h1 h2;subst h1 h2;simp only[rJ,X];have Y:=(cy g).take i;have ad:=cN Y;have Z:=nK Y;rw[ag8,ah4 hi]at Z
  by_cases O:i<(aO g).length
  ·have gd:=(cy g).get O;rw[if_pos (by simpa using O),cj O,aiv];have hT:(if ((i:Int)==3)=true then some (decide ((aO g)[i]>8)) else some false)=some (decide (i=3∧(aO g)[i]>8)):=by
    by_cases h3:i=3
    ·subst h3;simp
    ·rw[if_neg (by simp;omega)];simp[h3]
   rw[hT,aiv]
   by_cases h8:i=3∧(aO g)[i]>8
   ·right;rw[if_pos (by simpa using h8)];refine⟨.inr (0,false),rfl,rfl,?_⟩;rintro rfl;have:=gI (n:=1) (k:=1) (by decide);omega
   ·left;rw[if_neg (by simpa using h8),af9 (by omega) gd (by omega),aiv];have hb:pw i*(aO g)[i]<9223372036854775809:=by
     rcases (show i=0∨i=1∨i=2∨i=3 by omega) with h|h|h|h
     ·have:pw i=1:=by rw[h];decide
      rw[this];omega
     ·have:pw i=1048576:=by rw[h];decide
      rw[this];omega
     ·have:pw i=1099511627776:=by rw[h];decide
      rw[this];omega
     ·have:pw i=1152921504606846976:=by rw[h];decide
      rw[this];omega
    rw[aey (by omega) ⟨ad,Z⟩ ⟨gd.1,hb⟩];exact⟨O,_,rfl,by rw[gq (by omega)];omega,by rw[fT O]⟩
  ·right;have:i=(aO g).length:=by omega
   subst this;exact⟨.inl (dv ((aO g).take (aO g).length)),by rw[if_neg (by simp)],by rw[aiZ,bx]⟩
 obtain⟨r,h1,h2⟩:=key;rw[h1,aiv];cases r with
 | inr x=>obtain⟨rfl,h⟩:=h2;exact⟨_,rfl,by simp[h]⟩
 | inl u =>
  simp only at h2;subst h2;have hs:(eV (g:Int)).aj=(g:Int).sign:=rfl;have ae:¬(g:Int).sign<0:=by have:=iz (g:Int);omega
  simp only[hs];rw[if_neg (by simp),aiv,if_neg (by simp),if_pos (by simp)]
  by_cases hg:(g:Int)<9223372036854775808
  ·rw[if_pos (by simpa using hg)];refine⟨_,rfl,?_⟩;simp only[if_true];rw[wrap64 (by omega) hg];congr 1
   by_cases h:g=1
   ·subst h;rfl
   ·have:¬((g:Int)=1):=by omega
    simp[h,this]
  ·rw[if_neg (by simpa using hg)];have:g≠1:=by omega
   exact⟨_,rfl,by simp[this]⟩
def fh (q:Rat):aw:=aw.mk (eV q.num) (eV q.den)
def LF (q:Rat):Nat:=max (Ln q.num) (Ln q.den)
theorem va {p q:Rat} (h:fh p=fh q):p=q:=by
 unfold fh at h;simp only[aw.mk.injEq]at h;have h1:=TL h.1;have h2:=TL h.2;exact Rat.ext h1 (by omega)
def okF (f:aw):Bool:=okB f.cv&&okB f.cu&&(f.cu.aj==1)&&decide (Nat.gcd (dv f.cv.aa).toNat (dv f.cu.aa).toNat=1)
theorem BL {f:aw} : okF f=true↔∃q,f=fh q:=by
 obtain⟨p,q⟩:=f;unfold okF;simp only[ahq,beq_iff_eq,decide_eq_true_eq];constructor
 ·rintro⟨⟨⟨h1,h2⟩,h3⟩,h4⟩;obtain⟨x,rfl⟩:=yd.1 h1;obtain⟨y,rfl⟩:=yd.1 h2;have U:0<y:=by
   have:y.sign=1:=h3;rcases iz y with⟨a,b,c⟩|⟨a,b,c⟩|⟨a,b⟩<;>omega
  have h5:(dv (eV x).aa).toNat=x.natAbs:=by show (dv (aO _)).toNat=_;rw[bx];rfl
  have h6:(dv (eV y).aa).toNat=y.natAbs:=by show (dv (aO _)).toNat=_;rw[bx];rfl
  rw[h5,h6]at h4;refine⟨⟨x,y.natAbs,by omega,h4⟩,?_⟩;unfold fh;simp only;congr 2;omega
 ·rintro⟨q,O⟩;unfold fh at O;simp only[aw.mk.injEq]at O;obtain⟨rfl,rfl⟩:=O;have X:=q.den_pos;refine⟨⟨⟨J9 _,J9 _⟩,aju (by omega)⟩,?_⟩;have h5:(dv (eV q.num).aa).toNat=q.num.natAbs:=by show (dv (aO _)).toNat=_;rw[bx];rfl
  have h6:(dv (eV (q.den:Int)).aa).toNat=q.den:=by show (dv (aO _)).toNat=_;rw[bx];rfl
  rw[h5,h6];exact q.reduced
theorem Q4 (q:Rat):okF (fh q)=true:=BL.2 ⟨q,rfl⟩
def acG (f:aw):Prop:=f.cv.aa.length<=me∧f.cu.aa.length<=me
theorem aax {q:Rat} (h:LF q<=eQ):acG (fh q):=by
 unfold LF at h;exact⟨qL (show Ln q.num<=_ by omega),qL (show Ln q.den<=_ by omega)⟩
theorem B9 {f:aw} (O:acG f):dx f=some (okF f):=by
 have X:me=17592186043904:=rfl;obtain⟨p,q⟩:=f;simp only[acG]at O;unfold dx okF;rw[ER (show Fit p.aa by unfold Fit;omega),aiv]
 by_cases h1:okB p=true
 ·simp only[h1,ail,ahp,if_false,aim];rw[ER (show Fit q.aa by unfold Fit;omega),aiv]
  by_cases h2:okB q=true
  ·simp only[h2,ail,ahp,if_false,aim,Option.bind_some]
   by_cases h3:q.aj=1
   ·rw[if_neg (by simp[h3])];obtain⟨x,rfl⟩:=yd.1 h1;obtain⟨y,rfl⟩:=yd.1 h2;rw[Wy O.1 O.2,aiv];simp only[beq_self_eq_true,if_true];have h5:(dv (eV x).aa).toNat=x.natAbs:=by show (dv (aO _)).toNat=_;rw[bx];rfl
    have h6:(dv (eV y).aa).toNat=y.natAbs:=by show (dv (aO _)).toNat=_;rw[bx];rfl
    rw[adk,aiv,h5,h6]
    ·rw[h3];rfl
    ·have U:0<y.natAbs:=by
      have:y.sign=1:=h3;rcases iz y with⟨a,b,c⟩|⟨a,b,c⟩|⟨a,b⟩<;>omega
     have:=cz (ajy x.natAbs U);have h7:(aO y.natAbs).length<=me:=O.2;show (aO (Nat.gcd x.natAbs y.natAbs)).length<=_;omega
   ·rw[if_pos (by simpa using h3)];simp[h3]
  ·simp only[h2,aiW,if_true,Option.bind_some,aiV]
 ·simp only[h1,aiW,if_true,Option.bind_some,aiV]
theorem lp {q:Rat} (h:LF q<=eQ):dx (fh q)=some true:=by rw[B9 (aax h),Q4]
theorem P5 {p q:Int} (U:Ln p<=eQ) (O:Ln q<=eQ) (Y:q≠0):mX (eV p) (eV q)=some (fh (Rat.divInt p q),0):=by
 have hL:eQ=4398046511104:=rfl;have main:∀ {p q:Int},Ln p<=eQ->Ln q<=eQ->0<q ->
   ((pR (eV p) (eV q)).bind fun r6=>(nS (eV p) r6.1).bind fun r7=>(nS (eV q) r6.1).bind fun r8=>some ((aw.mk r7.1 r8.1),(0:Int)))=some (fh (Rat.divInt p q),0):=by
  intro p q U O Y;have hg:0<Int.gcd p q:=Int.gcd_pos_of_ne_zero_right _ (by omega);have X:Ln (Int.gcd p q:Int)<=eQ:=by
   have:=cz (ajy p.natAbs (show 0<q.natAbs by omega));show (aO (Nat.gcd p.natAbs q.natAbs)).length<=_;have h7:(aO q.natAbs).length<=eQ:=O;omega
  rw[Wy (qL U) (qL O),aiv];simp only;rw[Ww U X (by omega) (Int.gcd_dvd_left ..),aiv,Ww O X (by omega) (Int.gcd_dvd_right ..),aiv];have hd:((q.natAbs / Int.gcd p q:Nat):Int)=q / (Int.gcd p q:Int):=by
   rw[Int.natCast_ediv];congr 1;omega
  unfold fh;rw[Rat.num_divInt,Rat.den_divInt,if_neg (by omega),aju Y,ajo,Int.gcd_comm q p,hd]
 unfold mX;rw[gM (by omega),aiv];simp only[ail,ahp,if_false];rw[gM (by omega),aiv,aiv];simp only[ail,ahp,if_false];have Z:(eV q).aj=q.sign:=rfl;rw[Z];rcases iz q with⟨a,b,c⟩|⟨a,b,c⟩|⟨a,b⟩
 ·rw[if_neg (by rw[a];decide),if_neg (by rw[a];decide),aiv];exact main U O c
 ·rw[if_neg (by rw[a];decide),if_pos (by rw[a];decide),P3 U,aiv,P3 O,aiv,aiv];have:=main (p := -p) (q := -q) (by rw[B2];exact U) (by rw[B2];exact O) (by omega);rw[Rat.neg_divInt_neg]at this;exact this
 ·exact absurd b Y
theorem oN (q:Rat):Ln q.num<=LF q:=by unfold LF;omega
theorem qo (q:Rat):Ln q.den<=LF q:=by unfold LF;omega
theorem uP {p q:Int} (O:q≠0):LF (Rat.divInt p q)<=max (Ln p) (Ln q):=by
 have X:0<Int.gcd q p:=Int.gcd_pos_of_ne_zero_left _ O;have h1:Ln (Rat.divInt p q).num<=Ln p:=by
  apply Sh;rw[Rat.num_divInt];obtain⟨z,U⟩:(Int.gcd q p:Int)∣q.sign*p:=Int.dvd_mul_of_dvd_right (Int.gcd_dvd_right ..);rw[U,Int.mul_ediv_cancel_left _ (by omega)];have h2:(q.sign*p).natAbs=p.natAbs:=by
   rw[ajs];have:q.sign.natAbs=1:=by
    rcases iz q with⟨a,b,c⟩|⟨a,b,c⟩|⟨a,b⟩
    ·rw[a];rfl
    ·rw[a];rfl
    ·exact absurd b O
   rw[this,Nat.one_mul]
  rw[<- h2,U,ajs];exact Nat.le_mul_of_pos_left _ (by omega)
 have h2:Ln ((Rat.divInt p q).den:Int)<=Ln q:=by
  apply Sh;rw[Rat.den_divInt,if_neg O];exact Nat.div_le_self _ _
 unfold LF;omega
theorem abE {a b:Rat} (h:LF a+LF b+1<=eQ):pf (fh a) (fh b)=some (fh (a+b),0):=by
 have U:=oN a;have X:=oN b;have d1:=qo a;have d2:=qo b;have m1:=mf a.num b.den;have m2:=mf b.num a.den;have m3:=mf a.den b.den;have m4:=P0 (a.num*b.den) (b.num*a.den);unfold pf;rw[lp (by omega),aiv];simp only[ail,ahp,if_false];rw[lp (by omega),aiv,aiv];simp only[ail,ahp,if_false];show (cZ (eV a.num) (eV b.den)).bind _=_;rw[pF (by omega) (by omega),aiv];show (cZ (eV b.num) (eV a.den)).bind _=_;rw[pF (by omega) (by omega),aiv,acF (by omega) (by omega),aiv];show (cZ (eV a.den) (eV b.den)).bind _=_;have O:(a.den:Int)*b.den≠0:=by
  rw[<- ahQ];have:=Nat.mul_pos a.den_pos b.den_pos;omega
 rw[pF (by omega) (by omega),aiv,P5 (by omega) (by omega) O,aiv];rw[Rat.add_def',<- Rat.divInt_ofNat,ahQ]
theorem Jo (a b:Rat):LF (a+b)<=LF a+LF b+1:=by
 have U:=oN a;have X:=oN b;have d1:=qo a;have d2:=qo b;have m1:=mf a.num b.den;have m2:=mf b.num a.den;have m3:=mf a.den b.den;have m4:=P0 (a.num*b.den) (b.num*a.den);have O:(a.den:Int)*b.den≠0:=by
  rw[<- ahQ];have:=Nat.mul_pos a.den_pos b.den_pos;omega
 rw[Rat.add_def',<- Rat.divInt_ofNat,ahQ];have:=uP (p:=a.num*b.den+b.num*a.den) O;omega
theorem WA (a:Rat):LF (-a)=LF a:=by unfold LF;rw[Rat.neg_num,Rat.neg_den,B2]
theorem acI (a b:Rat):LF (a-b)<=LF a+LF b+1:=by
 rw[Rat.sub_eq_add_neg];have:=Jo a (-b);rw[WA]at this;exact this
theorem adW {a b:Rat} (h:LF a+LF b+1<=eQ):qT (fh a) (fh b)=some (fh (a-b),0):=by
 unfold qT;rw[lp (by omega),aiv];simp only[ail,ahp,if_false];rw[lp (by omega),aiv,aiv];simp only[ail,ahp,if_false];show (nT (eV b.num)).bind _=_;have O:=oN b;rw[P3 (by omega),aiv];have e:aw.mk (eV (-b.num)) (fh b).cu=fh (-b):=by unfold fh;rw[Rat.neg_num,Rat.neg_den]
 rw[e,abE (by rw[WA];exact h),aiv,Rat.sub_eq_add_neg]
theorem abH {a b:Rat} (h:LF a+LF b<=eQ):pg (fh a) (fh b)=some (fh (a*b),0):=by
 have U:=oN a;have X:=oN b;have d1:=qo a;have d2:=qo b;have m1:=mf a.num b.num;have m3:=mf a.den b.den;unfold pg;rw[lp (by omega),aiv];simp only[ail,ahp,if_false];rw[lp (by omega),aiv,aiv];simp only[ail,ahp,if_false];show (cZ (eV a.num) (eV b.num)).bind _=_;rw[pF (by omega) (by omega),aiv];show (cZ (eV a.den) (eV b.den)).bind _=_;have O:(a.den:Int)*b.den≠0:=by
  rw[<- ahQ];have:=Nat.mul_pos a.den_pos b.den_pos;omega
 rw[pF (by omega) (by omega),aiv,P5 (by omega) (by omega) O,aiv];rw[Rat.mul_def',<- Rat.divInt_ofNat,ahQ]
theorem PZ (a b:Rat):LF (a*b)<=LF a+LF b:=by
 have U:=oN a;have X:=oN b;have d1:=qo a;have d2:=qo b;have m1:=mf a.num b.num;have m3:=mf a.den b.den;have O:(a.den:Int)*b.den≠0:=by
  rw[<- ahQ];have:=Nat.mul_pos a.den_pos b.den_pos;omega
 rw[Rat.mul_def',<- Rat.divInt_ofNat,ahQ];have:=uP (p:=a.num*b.num) O;omega
theorem abG {n:Int} (h : -9223372036854775808<=n∧n<9223372036854775808):jm n=some (fh n):=by
 unfold jm;rw[Si h,aiv,Si (by decide),aiv];unfold fh;rw[Rat.num_intCast,Rat.den_intCast];rfl
theorem Jp {n:Int} (h:n.natAbs<1048576):LF (n:Rat)<=1:=by
 unfold LF;rw[Rat.num_intCast,Rat.den_intCast];have h1:=KX h;have h2:=KX (x:=((1:Nat):Int)) (by decide);omega
theorem Ca {a:Rat} (h:LF a<=eQ):ir (fh a)=some a.num.sign:=by
 unfold ir;rw[lp h,aiv];rfl
def U5 (a b:Rat):Int:=if a<b then -1 else if b<a then 1 else 0
theorem aaN (a b:Rat):mj (a.num*b.den) (b.num*a.den)=U5 a b:=by
 unfold mj U5;simp only[Rat.lt_iff]
theorem UT {a b:Rat} (h:LF a+LF b<=eQ):iI (fh a) (fh b)=some (U5 a b):=by
 have O:=oN a;have U:=oN b;have d1:=qo a;have d2:=qo b;have m1:=mf a.num b.den;have m2:=mf b.num a.den;unfold iI;rw[lp (by omega),aiv];simp only[ail,ahp,if_false];rw[lp (by omega),aiv,aiv];simp only[ail,ahp,if_false];show (cZ (eV a.num) (eV b.den)).bind _=_;rw[pF (by omega) (by omega),aiv];show (cZ (eV b.num) (eV a.den)).bind _=_;rw[pF (by omega) (by omega),aiv,PY (by omega) (by omega),aiv,aaN]
theorem UG {l:List Int} (O:Fit l) (U:Dg l):gL l=some (aO (dv l).toNat):=by
 have h:=sA O U;obtain⟨r,h1,k,rfl,hk,_⟩:=Ja O;unfold dZ at h;unfold gL;have e:ui l=kP l:=rfl;rw[h1,aiv,Kv hk,aiv]at h;rw[e,h1,aiv,Kv hk,aiv,wg (by unfold Fit at O;simp;omega),aiv];exact h
theorem Fe {l:List Int} {n:Nat} (O:Fit l) (U:Dg l) (X:dv l=n):gL l=some (aO n):=by
 rw[UG O U,X];rfl
theorem BJ {s:Int} {l:List Int} (x:Int) (O:Fit l) (U:Dg l) (X:dv l=x.natAbs) (hs:x≠0->s=x.sign):fb s l=some (eV x):=by
 have h:=rj x O U X hs;unfold cY at h;rw[sA O U]at h;unfold fb;rw[UG O U];exact h
theorem DU {x:Int} {s:Int} {n:Nat} (O:n=x.natAbs) (hs:x≠0->s=x.sign) (U:n≠0->(aO n).length<=17592186044416):fb s (aO n)=some (eV x):=by
 subst O;refine BJ x ?_ (cy _) (bx _) hs;unfold Fit
 by_cases h:x.natAbs=0
 ·rw[h,cF];simp
 ·exact U h
theorem OW {s:Int} {l:List Int} (Y:Fit l):∃r,aS (oh ⟨s,l⟩) 0=some r∧(match r with | .inl _=>Dg l | .inr x=>x=false∧¬Dg l):=by
 refine dh (I:=fun i s=>s=(i:Int)∧Dg (l.take i)) l.length _ ⟨rfl,by simpa using Dg.nil⟩ (jq Y) ?_;unfold Fit at Y;rintro i s Z ⟨rfl,U⟩;simp only[oh]
 by_cases O:i<l.length
 ·rw[if_pos (by simpa using O),cj O,aiv]
  by_cases h1:l[i]<0
  ·right;exact⟨.inr false,by rw[if_pos (by simpa using h1)],rfl,fun X=>by have:=X.get O;omega⟩
  ·by_cases h2:l[i]>=1048576
   ·right;exact⟨.inr false,by rw[if_neg (by simpa using h1),if_pos (by simpa using h2)],rfl,fun X=>by have:=X.get O;omega⟩
   ·left;refine⟨O,_,by rw[if_neg (by simpa using h1),if_neg (by simpa using h2)],by rw[gq (by omega)];omega,?_⟩;have e:l.take (i+1)=l.take i++[l[i]]:=by rw[ajb];simp[O]
    rw[e];exact U.append (Dg.mk (by omega) Dg.nil)
 ·right;have:i=l.length:=by omega
  subst this;rw[aiZ]at U;exact⟨.inl (),by rw[if_neg (by simp)],U⟩
theorem ads {b:aB} (Z:Fit b.aa):cW b=some (okB b):=by
 obtain⟨s,l⟩:=b;simp only[Fit]at Z;obtain⟨r,h1,h2⟩:=OW (s:=s) (l:=l) Z;unfold cW okB;rw[h1,aiv];cases r with
 | inr x =>
  obtain⟨rfl,h⟩:=h2;simp[h]
 | inl u =>
  simp only at h2 ⊢;simp only[h2,decide_true,aim]
  by_cases X:l=[]
  ·subst X
   by_cases O:s=0
   ·subst O;simp
   ·have:(s==0)=false:=by simpa using O
    simp only[List.length_nil,List.getLast?_nil,this];split<;>(try split)<;>simp
  ·have hp:0<l.length:=aiO.2 X;have e:IntKind.i64.wrap ((l.length:Int)-1)=((l.length-1:Nat):Int):=by rw[gq (by omega)];omega
   have Y:((l.length:Int)==0)=false:=by simpa using X
   rw[e,cj (by omega),ajt X,List.getLast_eq_getElem,Y];simp only[Option.bind_some,ahp,if_false]
   by_cases hs:s < -1
   ·rw[if_pos (by simpa using hs)];have h1:(s==1)=false:=by simp;omega
    have h2:(s == -1)=false:=by simp;omega
    simp[h1,h2]
   ·rw[if_neg (by simpa using hs)]
    by_cases U:s>1
    ·rw[if_pos (by simpa using U)];have h1:(s==1)=false:=by simp;omega
     have h2:(s == -1)=false:=by simp;omega
     simp[h1,h2]
    ·rw[if_neg (by simpa using U)];rcases (show s = -1∨s=0∨s=1 by omega) with rfl|rfl|rfl<;>simp
theorem mD {x:Int} (h:Ln x<=17592186044416):cW (eV x)=some true:=by
 rw[ads (show Fit (eV x).aa from h),J9]
theorem xv (l:List Int) (i:Nat):iw l (i:Int)=some (gd l i):=by
 unfold iw
 by_cases h:i<l.length
 ·rw[if_pos (by simpa using h),cj h,aiv,MF h]
 ·rw[if_neg (by simpa using h),HE (by omega)]
theorem PA {a b l0:List Int} {i n:Nat} (ha:Dg a) (hb:Dg b) (Z:i<a.length) (h0:Dg l0) (hn:l0.length=n) (hi:i+b.length<n) (hf:n<=17592186044416) (hz:∀j (O:j<l0.length),i+b.length<=j->l0[j]=0) :
  ∃l,aS (ou a b (i:Int)) (0,0,l0)=some l∧l.length=n∧Dg l∧(∀j (O:j<l.length),i+b.length<j->l[j]=0)∧dv l=dv l0+pw i*(a[i]*dv b):=by
 have hx:=ha.get Z;refine dh (I:=fun k s=>s.2.1=(k:Int)∧s.2.2.length=n∧Dg s.2.2∧(0<=s.1∧s.1<1048576)∧(∀j (O:j<s.2.2.length),i+b.length<=j->i+k<=j->s.2.2[j]=0)∧(k=b.length+1->s.1=0)∧dv s.2.2+pw (i+k)*s.1=dv l0+pw i*(a[i]*dv (b.take k)))
  (b.length+1) _ ⟨rfl,hn,h0,by simp,fun j O h _=>hz j O h,by omega,by simp[dv]⟩ (jq (by omega)) ?_
 rintro k ⟨c,s,l⟩ hk ⟨h1,hl,hd,hc,hz,X,he⟩;simp only at h1 hl hd hc hz X he;subst h1;simp only[ou];have hT:(if decide ((k:Int)<(b.length:Int))=true then some true else some (decide (c>0)))=some (decide (k<b.length∨c>0)):=by
  by_cases h:k<b.length
  ·rw[if_pos (by simpa using h)];simp[h]
  ·rw[if_neg (by simpa using h)];simp[h]
 rw[hT,aiv]
 by_cases Y:k<b.length∨c>0
 ·left;have aa:k<=b.length:=by
   rcases Y with h|h
   ·omega
   ·rcases ahA b.length k with h'|h'
    ·have:=X (by omega);omega
    ·exact h'
  have U:i+k<l.length:=by omega
  have ei:IntKind.i64.wrap ((i:Int)+(k:Int))=((i+k:Nat):Int):=by rw[gq (by omega)];omega
  have gb:=HD hb k;have gl:=hd.get U;have ag:0<=a[i]*gd b k:=ajj hx.1 gb.1;have ah:a[i]*gd b k<=1048575*1048575:=ajk (by omega) (by omega) gb.1 (by omega);rw[if_pos (by simpa using Y),ei,cj U,aiv,cj Z,aiv,xv,aiv,gq (x:=a[i]*gd b k) (by omega),gq (x:=l[i+k]+a[i]*gd b k) (by omega),gq (x:=l[i+k]+a[i]*gd b k+c) (by omega),adh (by omega) (by omega),aiv,aaP (by omega) (by omega) (by omega),aiv];have e1:IntKind.i64.wrap ((k:Int)+1)=((k+1:Nat):Int):=by rw[gq (by omega)];omega
  refine⟨by omega,_,rfl,e1,by simpa using hl,hd.set _ (by omega),by simp only;omega,fun j O ab ae =>?_,fun ai =>?_,?_⟩
  ·simp only[Int.toNat_natCast]at O ⊢;rw[ajd (by omega)];exact hz j (by simpa using O) ab (by omega)
  ·have aj:k=b.length:=by omega
   simp only;rw[HE (by omega),ajn,hz _ U (by omega) (agP _)];omega
  ·simp only[Int.toNat_natCast];rw[rV U,pW];have hp:=uf (i+k) (l[i+k]+a[i]*gd b k+c);rw[ai9 (pw (i+k)),ai9 (pw (i+k))]at hp;have e2:pw i*(a[i]*(dv (b.take k)+pw k*gd b k))=pw i*(a[i]*dv (b.take k))+pw (i+k)*(a[i]*gd b k):=by
    rw[ai9,ai9,EG];congr 1;rw[ajl a[i],<- aja]
   rw[e2,aje,show i+(k+1)=i+k+1 by omega];omega
 ·right;have aa:b.length<=k:=by omega
  have ad:c=0:=by omega
  subst ad;refine⟨l,by rw[if_neg (by simpa using Y)],hl,hd,fun j O h=>hz j O (by omega) (by omega),?_⟩;rw[wQ aa,ajn]at he;omega
theorem aab {a b:List Int} (ha:Dg a) (hb:Dg b) (hf:a.length+b.length<=17592186044416):jR a b=some (aO (dv a*dv b).toNat):=by
 have key:∃l,aS (ot a b) (0,List.replicate (a.length+b.length) 0)=some l∧l.length=a.length+b.length∧Dg l∧dv l=dv a*dv b:=by
  refine dh (I:=fun i s=>s.1=(i:Int)∧s.2.length=a.length+b.length∧Dg s.2∧(∀j (U:j<s.2.length),i+b.length<=j->s.2[j]=0)∧dv s.2=dv (a.take i)*dv b)
   a.length _ ⟨rfl,by simp,Dg.rep _,fun j U _=>by simp,by simp[dv,yS]⟩ (jq (by omega)) ?_
  rintro i ⟨s,l⟩ hi ⟨h1,X,Y,hz,he⟩;simp only at h1 X Y hz he;subst h1;simp only[ot]
  by_cases O:i<a.length
  ·left;obtain⟨m,g1,g2,g3,g4,g5⟩:=PA (i:=i) (n:=a.length+b.length) ha hb O Y X (by omega) hf hz;rw[if_pos (by simpa using O),g1,aiv];have e1:IntKind.i64.wrap ((i:Int)+1)=((i+1:Nat):Int):=by rw[gq (by omega)];omega
   refine⟨O,_,rfl,e1,g2,g3,fun j U aa=>g4 j U (by omega),?_⟩;rw[g5,he,fT O,ajm,aja]
  ·right;have Z:i=a.length:=by omega
   subst Z;refine⟨l,by rw[if_neg (by simp)],X,Y,?_⟩;rw[he,aiZ]
 obtain⟨l,h1,h2,h3,h4⟩:=key;unfold jR;have e:IntKind.i64.wrap ((a.length:Int)+(b.length:Int))=((a.length+b.length:Nat):Int):=by rw[gq (by omega)];omega
 rw[e,mk0 hf,aiv,h1,aiv,ng,UG (by unfold Fit;omega) h3,h4]
theorem G8 (l:List Int) (i:Nat):dv l=dv (l.take i)+pw i*dv (l.drop i):=by
 by_cases h:i<=l.length
 ·exact iO l h
 ·rw[aij (by omega),aiI (by omega)];simp[dv]
theorem wo (l:List Int) (i:Nat):dv (l.drop i)=gd l i+1048576*dv (l.drop (i+1)):=by
 by_cases h:i<l.length
 ·rw[jC h,MF h]
 ·rw[aiI (by omega),aiI (by omega),HE (by omega)];simp[dv]
theorem CT {l:List Int} (h:Dg l) (i:Nat):0<=dv (l.take i)∧dv (l.take i)<pw i:=by
 have h1:=nK (h.take i);have h2:=p8 (show (l.take i).length<=i by rw[ag8];omega);exact⟨cN (h.take i),by omega⟩
theorem XR {a b:List Int} (O:Dg a) (U:Dg b) {k:Nat} (he:dv (a.drop (k+1))=dv (b.drop (k+1))) (X:gd a k<gd b k):dv a<dv b:=by
 have Y:=G8 a k;have Z:=G8 b k;rw[wo]at Y Z;have la:=CT O k;have lb:=CT U k;have hp:=mz k;have:pw k*(gd a k+1048576*dv (a.drop (k+1))+1)<=pw k*(gd b k+1048576*dv (b.drop (k+1))):=ai8 (by omega) (by omega);rw[ai9 _ _ 1,ai7]at this;omega
theorem aee {a b:List Int} (Y:Dg a) (Z:Dg b) (U:Fit a) (X:Fit b):nn a b=some (decide (dv a<dv b)):=by
 unfold Fit at U X;generalize hm:max a.length b.length=m;have em:(if (b.length:Int)>(a.length:Int) then (b.length:Int) else (a.length:Int))=(m:Int):=by split<;>omega
 have key:∃r,aS (qg a b) ((m:Int)-1)=some r∧(match r with | .inl _=>¬dv a<dv b | .inr x=>x=decide (dv a<dv b)):=by
  refine dh (I:=fun i s=>s=((m-i:Nat):Int)-1∧dv (a.drop (m-i))=dv (b.drop (m-i))) m _ ⟨rfl,?_⟩ (jq (by omega)) ?_
  ·rw[aiI (by omega),aiI (by omega)]
  rintro i s hi ⟨rfl,he⟩;generalize hk:m-i=k at *;simp only[qg]
  by_cases h0:0<k
  ·have ek:((k:Int)-1)=((k-1:Nat):Int):=by omega
   rw[ek,if_pos (by simp),xv,aiv,xv,aiv];rw[show k=k-1+1 by omega]at he
   by_cases O:gd a (k-1)=gd b (k-1)
   ·left;rw[if_neg (by simpa using O)];refine⟨by omega,_,rfl,by rw[gq (by omega)];omega,?_⟩;rw[show m-(i+1)=k-1 by omega,wo,wo b,O,he]
   ·right;rw[if_pos (by simpa using O)];refine⟨.inr (decide (gd a (k-1)<gd b (k-1))),rfl,?_⟩;rcases Int.lt_or_gt_of_ne O with h|h
    ·have:=XR Y Z he h;simp[h,this]
    ·have:=XR Z Y he.symm h;have h1:¬gd a (k-1)<gd b (k-1):=by omega
     have h2:¬dv a<dv b:=by omega
     simp[h1,h2]
  ·right;have:k=0:=by omega
   subst this;refine⟨.inl (),by rw[if_neg (by simp)],?_⟩;simp only[aik]at he;omega
 obtain⟨r,h1,h2⟩:=key;unfold nn;rw[em,gq (x:=(m:Int)-1) (by omega),h1,aiv];cases r with
 | inl u=>simp only at h2 ⊢;simp[h2]
 | inr x=>simp only at h2 ⊢;rw[h2]
theorem ada {a b:List Int} (ha:Dg a) (hb:Dg b) (hf:Fit a) (Y:b.length<=a.length) (hle:dv b<=dv a):jQ a b=some (aO (dv a-dv b).toNat):=by
 unfold Fit at hf;have key:∃l,aS (oo a b) (0,0,[])=some l∧l.length=a.length∧Dg l∧dv l=dv a-dv b:=by
  refine dh (I:=fun i s=>s.2.1=(i:Int)∧s.2.2.length=i∧Dg s.2.2∧(0<=s.1∧s.1<=1)∧dv s.2.2+dv (b.take i)=dv (a.take i)+pw i*s.1)
   a.length _ ⟨rfl,rfl,Dg.nil,by simp,by simp[dv]⟩ (jq (by omega)) ?_
  rintro i ⟨c,s,l⟩ hi ⟨h1,U,X,hc,he⟩;simp only at h1 U X hc he;subst h1;simp only[oo]
  by_cases O:i<a.length
  ·left;have ga:=ha.get O;have gb:=HD hb i;rw[if_pos (by simpa using O),cj O,aiv,xv,aiv,gq (x:=a[i]-gd b i) (by omega),gq (x:=a[i]-gd b i-c) (by omega)];have e1:IntKind.i64.wrap ((i:Int)+1)=((i+1:Nat):Int):=by rw[gq (by omega)];omega
   by_cases hn:a[i]-gd b i-c<0
   ·rw[if_pos (by simpa using hn),gq (by omega),wg (by simp;omega),aiv];refine⟨O,_,rfl,e1,by simp[U],X.append (Dg.mk (by omega) Dg.nil),by simp,?_⟩;simp only;rw[gj,pW,fT O,U,T4];simp only[dv,ajn,ajr,ai7];rw[ai9,aje,aje];omega
   ·rw[if_neg (by simpa using hn),wg (by simp;omega),aiv];refine⟨O,_,rfl,e1,by simp[U],X.append (Dg.mk (by omega) Dg.nil),by simp,?_⟩;simp only;rw[gj,pW,fT O,U];simp only[dv,ajn,ajr];rw[aje,aje];omega
  ·right;have Z:i=a.length:=by omega
   subst Z;refine⟨l,by rw[if_neg (by simp)],U,X,?_⟩;rw[wQ Y,aiZ]at he;have h1:=nK X;rw[U]at h1;have aa:c=0:=by
    rcases (show c=0∨c=1 by omega) with h|h
    ·exact h
    ·subst h;omega
   subst aa;omega
 obtain⟨l,h1,h2,h3,h4⟩:=key;unfold jQ;rw[h1,aiv,ng,UG (by unfold Fit;omega) h3,h4]
theorem OL {n R:Nat} (hn:n≠0) (Y:(aO n).length<=17592186043904) (Z:(aO R).length<=17592186043906) (hR:R<1048576*n):aS (np (aO n) (aO R)) (0,1048576)=some ((R / n:Nat):Int):=by
 have key:∃r,aS (np (aO n) (aO R)) (0,1048576)=some r∧r=((R / n:Nat):Int):=by
  refine qW (I:=fun (s:Int×Int)=>∃O U:Nat,s=((O:Int),(U:Int))∧O<U∧U<=1048576∧O*n<=R∧R<U*n) (μ:=fun (s:Int×Int)=>(s.2-s.1).toNat) _ ⟨0,1048576,rfl,by omega,by omega,by omega,hR⟩ (by simp only;unfold FU;omega) ?_;rintro _ ⟨O,U,rfl,h1,h2,h3,h4⟩;simp only[np];rw[gq (x:=(U:Int)-O) (by omega)]
  by_cases X:(U:Int)-O>1
  ·left;have em:((O:Int)+U) / 2=(((O+U) / 2:Nat):Int):=by omega
   have hd:Dg [(((O+U) / 2:Nat):Int)]:=Dg.mk (by omega) Dg.nil;have ed:dv (aO n)*dv [(((O+U) / 2:Nat):Int)]=((n*((O+U) / 2):Nat):Int):=by rw[bx,ahQ];simp[dv]
   rw[if_pos (by simpa using X),gq (x:=(O:Int)+U) (by omega),aaP (by omega) (by omega) (by omega),aiv,em,aab (cy n) hd (by simp;omega),aiv,ed,ahR];have aa:(aO (n*((O+U) / 2))).length<=17592186043905:=by
    have:((n*((O+U) / 2):Nat):Int)<pw ((aO n).length+1):=by
     rw[ij,ahQ];have a1:=fO n;have:(n:Int)*((O+U) / 2:Nat)<=n*1048576:=ai8 (by omega) (by omega);omega
    have:=gI this;omega
   rw[aee (cy R) (cy _) (by unfold Fit;omega) (by unfold Fit;omega),aiv,bx,bx]
   by_cases hc:R<n*((O+U) / 2)
   ·rw[if_pos (decide_eq_true (by omega))];refine⟨_,rfl,⟨O,(O+U) / 2,rfl,by omega,by omega,h3,by rw[ahP];exact hc⟩,by simp only;omega⟩
   ·rw[if_neg (by rw[decide_eq_true_eq];omega)];refine⟨_,rfl,⟨(O+U) / 2,U,rfl,by omega,by omega,by rw[ahP];omega,h4⟩,by simp only;omega⟩
  ·right;refine⟨_,by rw[if_neg (by simpa using X)],?_⟩;have:U=O+1:=by omega
   subst this;congr 1;have:R / n=O:=by
    apply Nat.div_eq_of_lt_le
    ·exact h3
    ·exact h4
   exact this.symm
 obtain⟨r,h1,rfl⟩:=key;exact h1
theorem acx {m n:Nat} (hn:n≠0) (ah:(aO m).length<=17592186043904) (ab:(aO n).length<=17592186043904):pB (aO m) (aO n)=some (aO (m / n),aO (m % n)):=by
 generalize ha:aO m=a at *;have ad:Dg a:=by rw[<- ha];exact cy m
 have key:∃r,aS (qh a (aO n)) ([],(a.length:Int)-1,List.replicate a.length 0)=some r∧r.2.length=a.length∧Dg r.2∧∃R:Nat,r.1=aO R∧R<n∧dv a=n*dv r.2+R:=by
  refine dh (I:=fun i s=>s.2.1=((a.length-i:Nat):Int)-1∧s.2.2.length=a.length∧Dg s.2.2∧∃R:Nat,s.1=aO R∧R<n∧dv (a.drop (a.length-i))=n*dv (s.2.2.drop (a.length-i))+R)
   a.length _ ⟨rfl,by simp,Dg.rep _,0,cF.symm,by omega,by simp[dv]⟩ (jq (by omega)) ?_
  rintro i ⟨r,s,l⟩ hi ⟨h1,hl,hg,R,h2,hR,he⟩;simp only at h1 hl hg h2 he;subst h1 h2;generalize hk:a.length-i=k at *;simp only[qh]
  by_cases h0:0<k
  ·left;have O:k-1<a.length:=by omega
   have Y:k-1<l.length:=by omega
   have ek:((k:Int)-1)=((k-1:Nat):Int):=by omega
   have ga:=ad.get O;have ai:=cz (show R<=n by omega);have ae:Dg ([a[k-1]]++aO R):=(Dg.mk ga Dg.nil).append (cy R);obtain⟨X,hX⟩:∃X:Nat,a[k-1]+1048576*(R:Int)=X:=⟨(a[k-1]+1048576*(R:Int)).toNat,by omega⟩;have Z:X<1048576*n:=by omega
   have ag:(aO X).length<=17592186043906:=by
    have:(X:Int)<pw ((aO n).length+1):=by
     rw[ij];have a1:=fO n;omega
    have:=gI this;omega
   rw[ek,if_pos (by simp),cj O,aiv,wg (by simp;omega),aiv,Fe (n:=X) (by unfold Fit;simp;omega) ae (by rw[gj,bx];simp only[dv,List.length_cons,List.length_nil];rw[show pw (0+1)=1048576 by decide];omega),aiv,OL hn ab ag Z,aiv,cj Y,aiv];have hq:X / n<1048576:=aiN (by rw[ahP];exact Z);have aj:(0:Int)<=((X / n:Nat):Int):=Int.natCast_nonneg _;rw[Fe (n:=X / n) (by simp[Fit]) (Dg.mk (by omega) Dg.nil) (by simp[dv]),aiv];have ak:(aO (X / n)).length<=1:=gI (by rw[ij,mP];omega);have U:(dv (aO n)*dv (aO (X / n))).toNat=n*(X / n):=by rw[bx,bx,<- ahQ];rfl
   rw[aab (cy _) (cy _) (by omega),aiv,U];have hle:n*(X / n)<=X:=Nat.mul_div_le X n;rw[ada (cy _) (cy _) (by unfold Fit;omega) (cz hle) (by rw[bx,bx];omega),aiv,bx,bx];have aa:((X:Int)-(n*(X / n):Nat)).toNat=X % n:=by
    have:=ai3 X n;omega
   rw[aa];have e1:IntKind.i64.wrap (((k-1:Nat):Int)-1)=((k-1:Nat):Int)-1:=gq (by omega);refine⟨by omega,_,rfl,by rw[e1,show a.length-(i+1)=k-1 by omega],by simpa using hl,hg.set _ (by omega),X % n,rfl,ahL _ (by omega),?_⟩;simp only[Int.toNat_natCast];rw[show a.length-(i+1)=k-1 by omega,jC O,jC (l:=l.set (k-1) _) (i:=k-1) (by simpa using Y),show k-1+1=k by omega,List.getElem_set_self,List.drop_set_of_lt (by omega),he,ai9,ai9];have h3:=ai3 X n;have e3:(n:Int)*(1048576*dv (l.drop k))=1048576*(n*dv (l.drop k)):=ajl _ _ _;rw[e3,<- ahQ n (X / n)];omega
  ·right;have:k=0:=by omega
   subst this;refine⟨(aO R,l),by rw[if_neg (by simp)],hl,hg,R,rfl,hR,?_⟩;simpa using he
 obtain⟨⟨r,l⟩,h1,h2,h3,R,h4,h5,h6⟩:=key;simp only at h2 h3 h4 h6;unfold pB;rw[mk0 (by omega),aiv,gq (x:=(a.length:Int)-1) (by omega),h1,aiv];simp only;rw[<- ha,bx]at h6;have al:=cN h3;obtain⟨Q,hQ⟩:∃Q:Nat,dv l=Q:=⟨(dv l).toNat,by omega⟩;rw[hQ]at h6;have hm:m=n*Q+R:=by
  have:((m:Nat):Int)=((n*Q+R:Nat):Int):=by rw[Int.natCast_add,ahQ];exact h6
  omega
 have e1:m / n=Q:=by rw[hm,Nat.mul_add_div (by omega),ajq h5,aho]
 have e2:m % n=R:=by rw[hm,Nat.mul_add_mod,ahN h5]
 rw[Fe (n:=Q) (by unfold Fit;omega) h3 hQ,aiv,h4,e1,e2]
theorem Vo {a b:Nat} (Z:(aO a).length<=me) (hb:(aO b).length<=me):aS pA (aO a,aO b)=some (aO (Nat.gcd a b)):=by
 have hL:me=17592186043904:=rfl;have key:∃r,aS pA (aO a,aO b)=some r∧r=aO (Nat.gcd a b):=by
  have la:=TD (fO a);have lb:=TD (fO b)
  let val:List Int->Nat:=fun l=>(dv l).toNat
  have O:∀n,val (aO n)=n:=fun n=>by show (dv (aO n)).toNat=n;rw[bx];rfl
  refine qW (I:=fun (s:List Int×List Int)=>∃x y,s=(aO x,aO y)∧Nat.gcd x y=Nat.gcd a b∧(aO x).length<=me∧(aO y).length<=me)
   (μ:=fun (s:List Int×List Int)=>lg (val s.1)+lg (val s.2)+(if val s.1<val s.2 then 1 else 0)) _ ⟨a,b,rfl,rfl,Z,hb⟩ (by simp only[O];unfold FU;split<;>omega) ?_
  rintro _ ⟨x,y,rfl,Y,hx,hy⟩;simp only[pA]
  by_cases h0:y=0
  ·right;subst h0;refine⟨_,by rw[cF,if_neg (by simp)],?_⟩;rw[<- Y,ajw]
  ·left;have X:0<(aO y).length:=aiO.2 (fun h=>h0 (qQ.1 h));rw[if_pos (by simpa using X),acx h0 (by omega) (by omega),aiv];have aa:=ahL x (ajx h0);refine⟨_,rfl,⟨y,x % y,rfl,?_,hy,?_⟩,?_⟩
   ·rw[<- Y,Nat.gcd_comm y,<- Nat.gcd_rec,Nat.gcd_comm]
   ·have:=cz (Nat.mod_le x y);omega
   ·simp only[O];rw[if_neg (by omega)]
    by_cases U:x<y
    ·rw[if_pos U,ahN U];omega
    ·rw[if_neg U];have:lg (x % y)<lg x:=by
      apply ack;have h1:=ai3 x y;have h2:1<=x / y:=(Nat.one_le_div_iff (by omega)).2 (by omega);have h3:y*1<=y*(x / y):=Nat.mul_le_mul_left _ h2;omega
     omega
 obtain⟨r,h1,rfl⟩:=key;exact h1
theorem afP {x y:Int} (Z:Ln x<=me) (hy:Ln y<=me):qe (eV x) (eV y)=some (eV (Int.gcd x y),0):=by
 have hL:me=17592186043904:=rfl;unfold qe;rw[mD (by omega),aiv];simp only[ail,ahp,if_false];rw[mD (by omega),aiv,aiv];simp only[ail,ahp,if_false];have O:(eV x).aa=aO x.natAbs:=rfl;have U:(eV y).aa=aO y.natAbs:=rfl;rw[O,U];have Y:(aO x.natAbs).length<=17592186043904:=by show Ln x<=_;omega
 have fy:(aO y.natAbs).length<=17592186043904:=by show Ln y<=_;omega
 have fg:(aO (Nat.gcd x.natAbs y.natAbs)).length<=17592186043904:=by
  by_cases h:y.natAbs=0
  ·rw[h,ajw];exact Y
  ·have:=cz (ajy x.natAbs (ajx h));omega
 have X:Nat.gcd x.natAbs y.natAbs=((Int.gcd x y:Nat):Int).natAbs:=rfl;rw[Vo (by omega) (by omega),aiv,DU (x:=(Int.gcd x y:Int)) X ?_ (fun _=>by omega),aiv];intro h;rw[aju (by omega)]
theorem adR {x y:Int} (hx:Ln x<=eQ) (hy:Ln y<=eQ) (h0:0<y) (hd:y∣x):og (eV x) (eV y)=some (eV (x / y),eV 0,0):=by
 have hL:eQ=4398046511104:=rfl;unfold og;rw[mD (by omega),aiv];simp only[ail,ahp,if_false];rw[mD (by omega),aiv,aiv];simp only[ail,ahp,if_false];have O:(eV x).aa=aO x.natAbs:=rfl;have U:(eV y).aa=aO y.natAbs:=rfl;have X:(eV x).aj=x.sign:=rfl;have Y:(eV y).aj=1:=aju h0;rw[O,U,X,Y];have fx:(aO x.natAbs).length<=4398046511104:=by show Ln x<=_;omega
 have fy:(aO y.natAbs).length<=4398046511104:=by show Ln y<=_;omega
 have fq:=cz (Nat.div_le_self x.natAbs y.natAbs);obtain⟨z,rfl⟩:=hd;have Z:y*z / y=z:=Int.mul_ediv_cancel_left _ (by omega);have hn:(y*z).natAbs=y.natAbs*z.natAbs:=ajs _ _;have hq:(y*z).natAbs / y.natAbs=z.natAbs:=by rw[hn,Nat.mul_div_cancel_left _ (by omega)]
 have hr:(y*z).natAbs % y.natAbs=0:=by rw[hn,Nat.mul_mod_right]
 have ab:(y*z).sign=z.sign:=by rw[Int.sign_mul,aju h0,ajo]
 rw[if_neg (by decide),acx (by omega) (by omega) (by omega),aiv,ai7,ab,gq (x:=z.sign) (by have:=ov z;omega),Z,hq,hr,cF];rw[hq]at fq;have hT:(if decide (z.sign>=0)=true then some true else some ((([]:List Int).length:Int)==0))=some true:=by split<;>rfl
 simp only[hT,Option.bind_some,if_true];rw[DU (x:=z) rfl (fun _=>rfl) (fun _=>by omega),aiv];have:fb z.sign []=some (eV 0):=BJ 0 (by simp[Fit]) Dg.nil rfl (fun h=>absurd rfl h);rw[this,aiv]
theorem adT {x:Int} (h:Ln x<=eQ):qf (eV x)=some (eV (-x)):=by
 unfold qf;have U:eQ=4398046511104:=rfl;rw[mD (by omega),aiv];simp only[ail,ahp,if_false];have O:Fit (eV x).aa:=by unfold Fit;show Ln x<=_;omega
 rw[BJ (-x) O (cy _) (by show dv (aO _)=_;rw[bx,Int.natAbs_neg]),aiv];intro X;show IntKind.i64.wrap (0-x.sign)=_;rw[gq (by have:=ov x;omega),Int.sign_neg,Int.zero_sub]
theorem YK {x:Int} (hx : -9223372036854775808<=x∧x<9223372036854775808):∃l,aS vg (x,[])=some l∧Dg l∧dv l=x.natAbs∧l.length<=5:=by
 refine qW (I:=fun (s:Int×List Int)=>Dg s.2∧dv s.2+pw s.2.length*s.1.natAbs=x.natAbs∧s.2.length<=5∧(s.1=0∨s.2.length<5)) (μ:=fun (s:Int×List Int)=>s.1.natAbs) _ ⟨Dg.nil,by simp[dv,mP],by simp,by simp⟩ (by simp only;unfold FU;omega) ?_;rintro⟨u,l⟩ ⟨U,h2,h3,h5⟩;simp only at U h2 h3 h5;have hp:=mz l.length;have Y:=cN U;have hu:(u.natAbs:Int)<=x.natAbs:=by
  have:1*(u.natAbs:Int)<=pw l.length*u.natAbs:=ajp (by omega) (by omega);omega
 simp only[vg]
 by_cases Z:u≠0
 ·left;have aa:l.length<4:=by
   rcases ahA l.length 4 with h|h
   ·exact h
   ·have h4:l.length=4:=by omega
    rw[h4,pw4]at h2;omega
  have hm:xY .i64 u 1048576=some (u.tmod 1048576):=by unfold xY;rw[if_neg (by decide)]
  have X:yP .i64 u 1048576=some (u.tdiv 1048576):=by
   unfold yP;have:(u.tdiv 1048576).natAbs=u.natAbs / 1048576:=Int.natAbs_tdiv u 1048576;rw[if_neg (by decide),gq (by omega)]
  have ha:(u.tmod 1048576).natAbs=u.natAbs % 1048576:=Int.natAbs_tmod u 1048576;have hb:(u.tdiv 1048576).natAbs=u.natAbs / 1048576:=Int.natAbs_tdiv u 1048576;have ab:=uf l.length (u.natAbs:Int);rw[if_pos (by simpa using Z),hm,aiv];have fin:∀d:Int,d=((u.natAbs % 1048576:Nat):Int)->(Dg (l++[d])∧dv (l++[d])+pw (l++[d]).length*((u.tdiv 1048576).natAbs:Int)=x.natAbs∧(l++[d]).length<=5∧(u.tdiv 1048576=0∨(l++[d]).length<5))∧(u.tdiv 1048576).natAbs<u.natAbs:=by
   rintro d rfl;refine⟨⟨U.append (Dg.mk (by omega) Dg.nil),?_,by simp;omega,by right;simp;omega⟩,by omega⟩;rw[hb];simp only[gj,dv,ah1,List.length_cons,List.length_nil,ajn,ajr,ahE];rw[Int.natCast_emod,Int.natCast_ediv];have:((1048576:Nat):Int)=1048576:=rfl;rw[this];omega
  by_cases O:u.tmod 1048576<0
  ·rw[if_pos (by simpa using O),gq (x:=0-u.tmod 1048576) (by omega),wg (by simp;omega),aiv,X,aiv];have:=fin (0-u.tmod 1048576) (by omega);exact⟨_,rfl,this.1,this.2⟩
  ·rw[if_neg (by simpa using O),wg (by simp;omega),aiv,X,aiv];have:=fin (u.tmod 1048576) (by omega);exact⟨_,rfl,this.1,this.2⟩
 ·right;have:u=0:=by omega
  subst this;refine⟨l,by rw[if_neg (by simp)],U,?_,h3⟩;simp at h2;omega
theorem Of4 {x:Int} (h : -9223372036854775808<=x∧x<9223372036854775808):uh x=some (eV x):=by
 unfold uh
 by_cases O:x=0
 ·subst O;rw[DZ];rfl
 ·have U:(if decide (x<0)=true then some (-1:Int) else some 1)=some x.sign:=by
   rcases iz x with⟨a,b,c⟩|⟨a,b,c⟩|⟨a,b⟩
   ·rw[if_neg (by simp;omega),a]
   ·rw[if_pos (by simp;omega),a]
   ·exact absurd b O
  obtain⟨l,h1,h2,h3,h4⟩:=YK h;rw[if_neg (by simpa using O),U,aiv,h1,aiv,ng,BJ x (by unfold Fit;omega) h2 h3 (fun _=>rfl)]
instance:DecidableEq aB:=fun a b=>decidable_of_iff (a.aj=b.aj∧a.aa=b.aa) (by cases a;cases b;simp)
instance:DecidableEq aw:=fun a b=>decidable_of_iff (a.cv=b.cv∧a.cu=b.cu) (by cases a;cases b;simp)
theorem V0 {b c:aB} (U:Fit b.aa) (X:b.aa.length=c.aa.length):∃r,aS (lK b c) 0=some r∧(match r with | .inl _=>b.aa=c.aa | .inr x=>x=false∧b.aa≠c.aa):=by
 refine dh (I:=fun i s=>s=(i:Int)∧b.aa.take i=c.aa.take i) b.aa.length _ ⟨rfl,by simp⟩ (jq U) ?_;unfold Fit at U;rintro i s Y ⟨rfl,he⟩;simp only[lK]
 by_cases O:i<b.aa.length
 ·rw[if_pos (by simpa using O),cj O,aiv,cj (by omega),aiv]
  by_cases hx:b.aa[i]=c.aa[i]
  ·left;rw[if_neg (by simpa using hx)];refine⟨O,_,rfl,by rw[gq (by omega)];omega,?_⟩;rw[ajb,ajb,he];simp[O,show i<c.aa.length by omega,hx]
  ·right;rw[if_pos (by simpa using hx)];refine⟨.inr false,rfl,rfl,fun h=>hx ?_⟩;simp[h]
 ·right;have:i=b.aa.length:=by omega
  subst this;refine⟨.inl (),by rw[if_neg (by simp)],?_⟩;rw[aiZ,aij (by omega)]at he;exact he
theorem T9 {b c:aB} (U:Fit b.aa):jw b c=some (decide (b=c)):=by
 have O:b=c↔b.aj=c.aj∧b.aa=c.aa:=by cases b;cases c;simp
 unfold jw
 by_cases h1:b.aj=c.aj
 ·rw[if_neg (by simpa using h1),aiv]
  by_cases h2:b.aa.length=c.aa.length
  ·rw[if_neg (by simp;omega)];obtain⟨r,h3,h4⟩:=V0 U h2;rw[h3,aiv];cases r with
   | inl u=>simp only at h4 ⊢;simp[O,h1,h4]
   | inr x=>simp only at h4 ⊢;simp[O,h1,h4.1,h4.2]
  ·rw[if_pos (by simp;omega)];have:b≠c:=fun h=>h2 (by rw[h]);simp[this]
 ·rw[if_pos (by simpa using h1),aiv,if_pos rfl];have:b≠c:=fun h=>h1 (by rw[h]);simp[this]
theorem aeB {f g:aw} (U:Fit f.cv.aa) (X:Fit f.cu.aa):lJ f g=some (decide (f=g)):=by
 have O:f=g↔f.cv=g.cv∧f.cu=g.cu:=by cases f;cases g;simp
 unfold lJ;rw[T9 U,aiv]
 by_cases h:f.cv=g.cv
 ·rw[if_pos (by simpa using h),T9 X,aiv];simp[O,h]
 ·rw[if_neg (by simpa using h)];simp[O,h]
theorem afR {p q:Int} (U:Ln p<=eQ) (O:Ln q<=eQ) (Y:q≠0):sj (eV p) (eV q)=some (fh (Rat.divInt p q),0):=by
 have hL:eQ=4398046511104:=rfl;have main:∀ {p q:Int},Ln p<=eQ->Ln q<=eQ->0<q ->
   ((qe (eV p) (eV q)).bind fun r6=>(og (eV p) r6.1).bind fun r7=>(og (eV q) r6.1).bind fun r8=>some ((aw.mk r7.1 r8.1),(0:Int)))=some (fh (Rat.divInt p q),0):=by
  intro p q U O Y;have hg:0<Int.gcd p q:=Int.gcd_pos_of_ne_zero_right _ (by omega);have X:Ln (Int.gcd p q:Int)<=eQ:=by
   have:=cz (ajy p.natAbs (show 0<q.natAbs by omega));show (aO (Nat.gcd p.natAbs q.natAbs)).length<=_;have h7:(aO q.natAbs).length<=eQ:=O;omega
  rw[afP (qL U) (qL O),aiv];simp only;rw[adR U X (by omega) (Int.gcd_dvd_left ..),aiv,adR O X (by omega) (Int.gcd_dvd_right ..),aiv];have hd:((q.natAbs / Int.gcd p q:Nat):Int)=q / (Int.gcd p q:Int):=by
   rw[Int.natCast_ediv];congr 1;omega
  unfold fh;rw[Rat.num_divInt,Rat.den_divInt,if_neg (by omega),aju Y,ajo,Int.gcd_comm q p,hd]
 unfold sj;rw[mD (by omega),aiv];simp only[ail,ahp,if_false];rw[mD (by omega),aiv,aiv];simp only[ail,ahp,if_false];have Z:(eV q).aj=q.sign:=rfl;rw[Z];rcases iz q with⟨a,b,c⟩|⟨a,b,c⟩|⟨a,b⟩
 ·rw[if_neg (by rw[a];decide),if_neg (by rw[a];decide),aiv];exact main U O c
 ·rw[if_neg (by rw[a];decide),if_pos (by rw[a];decide),adT U,aiv,adT O,aiv,aiv];have:=main (p := -p) (q := -q) (by rw[B2];exact U) (by rw[B2];exact O) (by omega);rw[Rat.neg_divInt_neg]at this;exact this
 ·exact absurd b Y
theorem Js {x:Int} (h : -9223372036854775808<=x∧x<9223372036854775808):Ln x<=eQ:=by
 have:Ln x<=4:=KW (by rw[pw4];omega);have O:eQ=4398046511104:=rfl;omega
theorem Of5 {p q:Int} (O : -9223372036854775808<=p∧p<9223372036854775808) (U : -9223372036854775808<=q∧q<9223372036854775808) (X:q≠0):uj p q=some (fh (Rat.divInt p q),0):=by
 unfold uj;rw[Of4 O,aiv,Of4 U,aiv,afR (Js O) (Js U) X,aiv]
theorem ad4 (f:aw) (n:Int):vk f n=some (decide ((f.cv.aa.length:Int)<=n∧(f.cu.aa.length:Int)<=n)):=by
 unfold vk
 by_cases h:(f.cv.aa.length:Int)<=n
 ·rw[if_pos (by simpa using h)];simp[h]
 ·rw[if_neg (by simpa using h)];simp[h]
theorem Yl {σ ρ:Type} {body:σ->Option (σ⊕ρ)} {n:Nat} {s O:σ} (h:body s=some (.inl O)):nM body (n+1) s=nM body n O:=by simp only[nM,h]
theorem Nl {σ ρ:Type} {body:σ->Option (σ⊕ρ)} {n:Nat} {s:σ} {r:ρ} (h:body s=some (.inr r)):nM body (n+1) s=some r:=by simp only[nM,h]
theorem ck {i:Nat} (h:i<4611686018427387904):IntKind.i64.wrap ((i:Int)+1)=((i+1:Nat):Int):=by rw[wrap64 (by omega) (by omega)];omega
theorem bP {α:Type} {l:List α} {i:Nat} {x:α} (h:l[i]? = some x):P.idx l (i:Int)=some x:=Nf (by omega) (by simpa using h)
theorem bo {α:Type} {l:List α} {i:Nat} {x:α} (h:l[i]? = some x):i<l.length:=(ahi.1 h).1
theorem drop_cons {α:Type} {l rest:List α} {i:Nat} {x:α} (h:l.drop i=x::rest):i<l.length∧l[i]? = some x∧l.drop (i+1)=rest:=by
 have O:i<l.length:=by
  rcases ahA i l.length with h1|h1
  ·exact h1
  ·rw[aiI h1]at h;cases h
 rw[aiT O]at h;simp only[ahd]at h;exact⟨O,by rw[ag2 O,h.1],h.2⟩
def dP {α ρ:Type} (st:Nat->α->Option ρ):Nat->List α->Option ρ
 | _,[]=>none
 | i,x::l=>match st i x with|some r=>some r|none=>dP st (i+1) l
theorem b7 {α ρ:Type} {st:Nat->α->Option ρ} : ∀ {l:List α} {i:Nat},dP st i l=none↔∀(j:Nat) x,l[j]? = some x->st (i+j) x=none
 | [],i=>by simp[dP]
 | x::l,i=>by
  simp only[dP];constructor
  ·intro h j y O;cases hs:st i x with
   | some r=>rw[hs]at h;cases h
   | none =>
    rw[hs]at h;cases j with
    | zero=>simp only[List.getElem?_cons_zero,agY]at O;subst O;exact hs
    | succ j =>
     have:=b7.1 h j y (by simpa using O);rw[<- this];congr 1;omega
  ·intro h;have U:=h 0 x rfl;simp only[Nat.add_zero]at U;rw[U];refine b7.2 fun j y O =>?_;have:=h (j+1) y (by simpa using O);rw[<- this];congr 1;omega
theorem dG {α ρ:Type} {st:Nat->α->Option ρ} {r:ρ} : ∀ {l:List α} {i:Nat},dP st i l=some r->∃(j:Nat) (x:α),l[j]? = some x∧st (i+j) x=some r∧∀(k:Nat) y,k<j->l[k]? = some y->st (i+k) y=none
 | [],i,h=>by cases h
 | x::l,i,h=>by
  simp only[dP]at h;cases hs:st i x with
  | some r' =>
   rw[hs]at h;exact⟨0,x,rfl,by rw[aho,hs];exact h,fun k y hk=>by omega⟩
  | none =>
   rw[hs]at h;obtain⟨j,y,h1,h2,h3⟩:=dG h;refine⟨j+1,y,by simpa using h1,by rw[<- h2];congr 1;omega,fun k z hk O =>?_⟩;cases k with
   | zero=>simp only[List.getElem?_cons_zero,agY]at O;subst O;exact hs
   | succ k =>
    have:=h3 k z (by omega) (by simpa using O);rw[<- this];congr 1;omega
theorem pD {α ρ:Type} (l:List α) {body:Int->Option (Int⊕(Unit⊕ρ))} (st:Nat->α->Option ρ) (hlen:l.length<4611686018427387904)
  (X:∀(i:Nat) x,l[i]? = some x->body (i:Int)=some (match st i x with|none =>.inl ((i+1:Nat):Int)|some r =>.inr (.inr r))) (he:body (l.length:Int)=some (.inr (.inl ()))) :
  aS body 0=some (match dP st 0 l with|none =>.inl ()|some r =>.inr r):=by
 have key:∀(rest:List α) (i fuel:Nat),i<=l.length->l.drop i=rest->rest.length<fuel->nM body fuel (i:Int)=some (match dP st i rest with|none =>.inl ()|some r =>.inr r):=by
  intro rest
  induction rest with
  | nil =>
   intro i fuel Y U O;obtain⟨f,rfl⟩:∃f,fuel=f+1:=⟨fuel-1,by simp at O;omega⟩;have hle:l.length<=i:=by
    have:=congrArg List.length U;simp at this;omega
   have:i=l.length:=by omega
   subst this;rw[Nl he];rfl
  | cons x rest Z =>
   intro i fuel Y U O;obtain⟨f,rfl⟩:∃f,fuel=f+1:=⟨fuel-1,by simp at O;omega⟩;obtain⟨h1,h2,h3⟩:=drop_cons U;have:=X i x h2;cases hs:st i x with
   | some r =>
    rw[hs]at this;rw[Nl this];simp only[dP,hs]
   | none =>
    rw[hs]at this;rw[Yl this,Z (i+1) f h1 h3 (by simp at O;omega)];simp only[dP,hs]
 exact key l 0 FU (agQ _) rfl (by have:FU=1000000000000000000000000:=rfl;omega)
theorem yW {α σ ρ:Type} {body:Int×σ->Option ((Int×σ)⊕ρ)} (l:List α) (Z:l.length<=17592186044416) (inv:Nat->σ->Prop) (Q:ρ->Prop) {s0:σ} (h0:inv 0 s0)
  (O:∀(i:Nat) x s,l[i]? = some x->inv i s->∃X,body ((i:Int),s)=some (.inl (((i+1:Nat):Int),X))∧inv (i+1) X)
  (U:∀s,inv l.length s->∃r,body ((l.length:Int),s)=some (.inr r)∧Q r):∃r,aS body ((0:Int),s0)=some r∧Q r:=by
 refine dh (fun i s=>s.1=(i:Int)∧inv i s.2) l.length Q ⟨rfl,h0⟩ (jq Z) ?_;rintro i ⟨k,s⟩ hi ⟨rfl,Y⟩;rcases ahA i l.length with h|h
 ·obtain⟨X,h1,h2⟩:=O i _ s (ag2 h) Y;exact .inl ⟨h,_,h1,rfl,h2⟩
 ·have:i=l.length:=by omega
  subst this;exact .inr (U s Y)
theorem dQ {α:Type} {N j:Nat} (f:Nat->α) (h:j<N):((List.range N).map f)[j]? = some (f j):=by simp[h]
theorem VV {α:Type} {N:Nat} (f:Nat->α):((List.range N).map f).length=N:=by simp
theorem kF {α:Type} {l:List α} {N:Nat} {f:Nat->α} (U:l.length=N) (h:∀j,j<N->l[j]? = some (f j)):l=(List.range N).map f:=by
 apply ai2;intro j
 by_cases O:j<N
 ·rw[h j O,dQ f O]
 ·rw[aix (by omega),aix (by simp;omega)]
theorem mB {α:Type} {N i:Nat} (f:Nat->α) (v:α):((List.range N).map f).set i v=(List.range N).map fun j=>if j=i then v else f j:=by
 refine kF (by simp) fun j O =>?_;rw[List.getElem?_set]
 by_cases h:i=j
 ·subst h;rw[if_pos rfl,if_pos (by simpa using O)];simp
 ·rw[if_neg h,dQ f O,if_neg (fun e=>h e.symm)]
theorem DQ {α β:Type} {mk:β->α} {R:β->Prop} : ∀ {l:List α},(∀x∈l,∃y,x=mk y∧R y)->∃U:List β,l=U.map mk∧∀y∈U,R y
 | [],_=>⟨[],rfl,fun _ h=>by cases h⟩
 | x::l,h=>by
  obtain⟨y,h1,h2⟩:=h x (air ..);obtain⟨U,h3,h4⟩:=DQ (l:=l) fun z O=>h z (ais _ O);refine⟨y::U,by rw[agV,<- h1,<- h3],fun z O =>?_⟩;rcases agW.1 O with rfl|O
  ·exact h2
  ·exact h4 z O
theorem Ki {α:Type} {R:α->α->Prop} (X:∀a b c,R a b->R b c->R a c) {l:List α} (h:∀(i:Nat) a b,l[i]? = some a->l[i+1]? = some b->R a b):l.Pairwise R:=by
 rw[ai5];intro i j Y U O;obtain⟨d,rfl⟩:∃d,j=i+1+d:=⟨j-(i+1),by omega⟩;clear O
 induction d with
 | zero=>exact h i _ _ (ag2 Y) (ag2 U)
 | succ d Z=>exact X _ _ _ (Z (by omega)) (h (i+1+d) _ _ (ag2 (by omega)) (ag2 U))
abbrev Tk:=Nat×Nat×Rat
def tY (t:Tk):bJ:=bJ.mk (t.1:Int) (t.2.1:Int) (fh t.2.2)
def sK (N:Nat) (tk:List Tk):fA:=fA.mk (N:Int) (tk.map tY)
theorem TM {a b:Tk} (h:tY a=tY b):a=b:=by
 unfold tY at h;injection h with h1 h2 h3;exact Prod.ext (by omega) (Prod.ext (by omega) (va h3))
theorem aa6 {N M:Nat} {a b:List Tk} (h:sK N a=sK M b):N=M∧a=b:=by
 unfold sK at h;injection h with h1 h2;refine⟨by omega,?_⟩;exact List.map_inj_right (f:=tY) (fun x y h=>TM h) |>.1 h2
def yi:List Tk->Nat->Rat
 | [],_=>0
 | t::l,p=>(if t.1=p then t.2.2 else 0)+yi l p
theorem OK (a b:List Tk) (p:Nat):yi (a++b) p=yi a p+yi b p:=by
 induction a with
 | nil=>rw[aiF,yi,Rat.zero_add]
 | cons t a O=>rw[aiQ,yi,yi,O];grind
def eM (tk:List Tk) (p:Nat):Rat:=1-yi tk p
theorem DN {tk:List Tk} {i:Nat} {t:Tk} (h:tk[i]? = some t) (p:Nat):eM (tk.take (i+1)) p=eM (tk.take i) p-(if t.1=p then t.2.2 else 0):=by
 obtain⟨O,he⟩:=ahi.1 h;unfold eM;rw[ajE O,OK,he];simp only[yi];grind
theorem Jq {tk:List Tk} {K:Nat} (hs:∀t∈tk,LF t.2.2<=K) (p:Nat):∀i,i<=tk.length->LF (eM (tk.take i) p)<=1+i*(K+1)
 | 0,_=>by
  have:eM (tk.take 0) p=((1:Int):Rat):=by unfold eM;rw[aiU,yi];grind
  rw[this];exact agR (Jp (n:=1) (by decide)) (by omega)
 | i+1,h=>by
  have U:=Jq hs p i (by omega);have O:tk[i]? = some tk[i]:=ag2 (by omega);rw[DN O];have hk:=hs _ (ag1 (show i<tk.length by omega));rw[ahO];split
  ·have:=acI (eM (tk.take i) p) tk[i].2.2;omega
  ·rw[show ∀x:Rat,x-0=x by intro x;grind];omega
theorem KV {tk:List Tk} {K:Nat} (hs:∀t∈tk,LF t.2.2<=K) (p:Nat):LF (eM tk p)<=1+tk.length*(K+1):=by
 have:=Jq hs p tk.length (agP _)
 rwa [aiZ]at this
theorem N4 {α:Type} {N B:Nat} (z:α) (h:N*B<=140737488355328) (h2:N<=2000):HX B (N:Int) (N:Int) z=some (List.replicate N z):=by
 unfold HX;have:(2000:Nat)<=maxLen:=by decide
 rw[if_pos ⟨by omega,by omega,by omega,by simpa using h⟩];simp
theorem ad7:jm 1=some (fh 1):=abG (n:=1) (by decide)
theorem ND {N K:Nat} {tk:List Tk} (hN:N<=2000) (hlen:tk.length<=8000) (hf:∀t∈tk,t.1<N) (hK:K<=1000000) (hs:∀t∈tk,LF t.2.2<=K) :
  kV (sK N tk)=some ((List.range N).map fun p=>fh (eM tk p)):=by
 unfold kV sK;simp only;rw[N4 _ (by omega) hN,aiv];have h1:∃r,aS (lD (List.replicate N (aw.mk (aB.mk 0 []) (aB.mk 0 [])))) ((0:Int),List.replicate N (aw.mk (aB.mk 0 []) (aB.mk 0 [])))=some r∧r=(List.range N).map fun p=>fh (eM (tk.take 0) p):=by
  refine yW (List.replicate N (aw.mk (aB.mk 0 []) (aB.mk 0 []))) (by simp;omega) (fun i l=>l.length=N∧∀j,j<i->l[j]? = some (fh 1)) _ ⟨by simp,fun j X=>by omega⟩ ?_ ?_
  ·rintro i x l hx ⟨Y,O⟩;have hi:i<N:=by have:=bo hx;simpa using this
   have Z:l[i]? = some l[i]:=ag2 (by omega);refine⟨l.set i (fh 1),?_,by simpa using Y,fun j X =>?_⟩
   ·simp only[lD];rw[if_pos (by simp;omega),ad7,aiv,bP Z,aiv,ck (by omega),ahR]
   ·rw[List.getElem?_set]
    by_cases h:i=j
    ·rw[if_pos h,if_pos (by omega)]
    ·rw[if_neg h];exact O j (by omega)
  ·rintro l ⟨Y,O⟩;refine⟨l,?_,?_⟩
   ·simp only[lD];rw[if_neg (by simp)]
   ·rw[List.length_replicate]at O;refine kF Y fun j X =>?_;rw[O j X,aiU];congr 2;unfold eM yi;grind
 obtain⟨r,h1,rfl⟩:=h1;rw[h1,aiv];have h2:∃r,aS (lE (fA.mk (N:Int) (tk.map tY))) ((0:Int),(List.range N).map fun p=>fh (eM (tk.take 0) p))=some r∧r=(List.range N).map fun p=>fh (eM tk p):=by
  refine yW tk (by omega) (fun i l=>l=(List.range N).map fun p=>fh (eM (tk.take i) p)) _ rfl ?_ ?_
  ·rintro i t _ U rfl;have hi:=bo U;have hm:=ahh U;have aa:=hf t hm;have Z:(tk.map tY)[i]? = some (tY t):=by rw[agM,U];rfl
   refine⟨_,?_,rfl⟩;simp only[lE];have ab:=Jq hs t.1 i (by omega);have ad:=hs t hm;have hmul:i*(K+1)<=8000*1000001:=ajF (by omega) (by omega);rw[if_pos (by simp;omega),bP Z,aiv];simp only[tY];rw[bP (dQ _ aa),aiv,adW (by unfold eQ;omega),aiv,ck (by omega),ahR,mB];congr 3;refine congrArg (fun f=>(List.range N).map f) (funext fun p =>?_);rw[DN U]
   by_cases h:p=t.1
   ·subst h;rw[if_pos rfl,if_pos rfl]
   ·rw[if_neg h,if_neg (fun e=>h e.symm)];congr 1;grind
  ·rintro _ rfl;refine⟨_,?_,rfl⟩;simp only[lE];rw[if_neg (by simp),aiZ]
 obtain⟨r,h2,rfl⟩:=h2;rw[h2,aiv]
def Yt (a b:Tk):Prop:=a.1<b.1∨(a.1=b.1∧a.2.1<b.2.1)
theorem VG (a b c:Tk) (h:Yt a b) (k:Yt b c):Yt a c:=by unfold Yt at *;omega
structure P7 (N:Nat) (tk:List Tk):Prop where
 ports:N<=2000
 takes:tk.length<=8000
 ok:∀t∈tk,t.1<N∧t.2.1<N∧0<t.2.2
 sorted:tk.Pairwise Yt
 leak:∀p,p<N->0<=eM tk p
theorem jU (a b c:Int):dR a b c=some (decide (b<=a∧a<=c)):=by
 unfold dR
 by_cases h1:a>=b<;>by_cases h2:a<=c<;>simp[h1,h2]
theorem U2 (a b:bJ):∃c,mv a b=some c∧(c<0↔(a.cq<b.cq∨(a.cq=b.cq∧a.iH<b.iH))):=by
 unfold mv;rw[CC,aiv,CC,aiv,abJ,aiv];refine⟨_,rfl,?_⟩;unfold mj;split<;>split<;>(try split)<;>(try split)<;>simp at *<;>omega
theorem vu {q:Rat} : q.num.sign<0↔q<0:=by
 rw[Int.sign_neg_iff,<- Rat.not_le,<- Rat.num_nonneg];omega
theorem yt {q:Rat} : q.num.sign=0↔q=0:=by
 rw[Int.sign_eq_zero_iff_zero,Rat.num_eq_zero]
theorem BQ {q:Rat} : 0<q.num.sign↔0<q:=by
 constructor
 ·intro h;have h1:¬q<0:=fun h'=>by have:=vu.2 h';omega
  have h2:q≠0:=fun h'=>by have:=yt.2 h';omega
  grind
 ·intro h;have h1:¬q.num.sign<0:=fun h'=>by have:=vu.1 h';grind
  have h2:q.num.sign≠0:=fun h'=>by have:=yt.1 h';grind
  omega
theorem BB {q:Rat} {k:Nat} (h1:(fh q).cv.aa.length<=k) (h2:(fh q).cu.aa.length<=k):LF q<=k:=by
 unfold LF Ln;exact Nat.max_le.2 ⟨h1,h2⟩
theorem S2 {q:Rat} {k:Nat} (h:LF q<=k):(fh q).cv.aa.length<=k∧(fh q).cu.aa.length<=k:=by
 unfold LF Ln at h;exact Nat.max_le.1 h
theorem CD {l:List Rat} (Y:l.length<=17592186044416) (hs:∀q∈l,LF q<=eQ):cd (l.map fh)=some (decide (∃q∈l,q<0)):=by
 unfold cd di;rw[pD l (fun i q=>if q<0 then some (i:Int) else none) (by omega) (fun i q O =>?_) (by simp only[dD];rw[if_neg (by simp)])]
 ·rw[aiv];cases U:dP (fun i (q:Rat)=>if q<0 then some (i:Int) else none) 0 l with
  | none =>
   simp only;rw[aiv,decide_eq_false (by decide),decide_eq_false];rintro⟨q,O,hn⟩;obtain⟨j,X⟩:=ahb O;have:=b7.1 U j q X;rw[if_pos hn]at this;cases this
  | some r =>
   obtain⟨j,q,h1,h2,_⟩:=dG U
   by_cases hn:q<0
   ·rw[if_pos hn]at h2;cases h2;simp only;rw[aiv,decide_eq_true (by omega),decide_eq_true ⟨q,ahh h1,hn⟩]
   ·rw[if_neg hn]at h2;cases h2
 ·have Z:=bo O;simp only[dD,nf];rw[if_pos (by simp;omega),bP (x:=fh q) (by rw[agM,O];rfl),aiv,Ca (hs q (ahh O)),aiv,aiv]
  by_cases hn:q<0
  ·rw[decide_eq_true (vu.2 hn),if_pos hn];rfl
  ·rw[decide_eq_false (fun h=>hn (vu.1 h)),if_neg hn,ck (by omega)];rfl
def VQ (N:Nat) (x:bJ):Bool:=decide (0<=x.cq∧x.cq<=(N:Int)-1)&&decide (0<=x.iH∧x.iH<=(N:Int)-1)&&okF x.ef&&decide (0<x.ef.cv.aj)
def U1 (a b:bJ):Prop:=a.cq<b.cq∨(a.cq=b.cq∧a.iH<b.iH)
instance (a b:bJ):Decidable (U1 a b):=by unfold U1;infer_instance
def DB (N:Nat) (l:List bJ) (i:Nat) (x:bJ):Bool:=VQ N x&&(decide (i=0)||(match l[i-1]? with|some y=>decide (U1 y x)|none=>false))
theorem Ov {N:Nat} {x:bJ} : VQ N x=true↔∃t:Tk,x=tY t∧t.1<N∧t.2.1<N∧0<t.2.2:=by
 unfold VQ;simp only[ahq,decide_eq_true_eq];constructor
 ·rintro⟨⟨⟨h1,h2⟩,h3⟩,h4⟩;obtain⟨q,O⟩:=BL.1 h3;refine⟨(x.cq.toNat,x.iH.toNat,q),?_,by simp only;omega,by simp only;omega,?_⟩
  ·unfold tY;cases x;simp only at *;rw[<- O,Int.toNat_of_nonneg h1.1,Int.toNat_of_nonneg h2.1]
  ·rw[O]at h4;exact BQ.1 h4
 ·rintro⟨t,rfl,h1,h2,h3⟩;exact⟨⟨⟨by simp only[tY];omega,by simp only[tY];omega⟩,Q4 _⟩,BQ.2 h3⟩
theorem SH {a b:Tk} : U1 (tY a) (tY b)↔Yt a b:=by
 unfold U1 Yt tY;simp only;omega
theorem VX {n:fA} {K:Nat} (hK:K<=1000000) (hs:∀t∈n.aK,t.ef.cv.aa.length<=K∧t.ef.cu.aa.length<=K) :
  ∃b,kS n=some b∧(b=true↔∃N tk,n=sK N tk∧P7 N tk):=by
 unfold kS;rw[jU,aiv]
 by_cases hN:0<=n.aA∧n.aA<=2000
 rotate_left
 ·rw[decide_eq_false hN];refine⟨false,by simp,?_⟩;simp only[ahp,false_iff];rintro⟨N,tk,rfl,h⟩;have:=h.ports;simp only[sK]at hN;omega
 rw[decide_eq_true hN];simp only[ail,ahp,if_false,Option.bind_some]
 by_cases hL:(n.aK.length:Int)>8000
 ·rw[decide_eq_true hL];refine⟨false,by simp,?_⟩;simp only[ahp,false_iff];rintro⟨N,tk,rfl,h⟩;have:=h.takes;simp only[sK,ahj]at hL;omega
 rw[decide_eq_false hL];simp only[ahp,if_false];obtain⟨N,Z⟩:∃N:Nat,n.aA=(N:Int):=⟨n.aA.toNat,by omega⟩;have ar:IntKind.i64.wrap (n.aA-1)=(N:Int)-1:=by rw[Z,wrap64 (by omega) (by omega)]
 have aC:K<=me:=agR hK (by unfold me;omega);have ab:=pD n.aK (body:=lC n) (fun i x=>if DB N n.aK i x=true then none else some false) (by omega) (fun i x hx=>by
  have hi:=bo hx;obtain⟨ah,ai⟩:=hs x (ahh hx);simp only[lC];rw[if_pos (by simp;omega),bP hx,aiv,jU,aiv,ar];have ad:(if (!decide (0<=x.cq∧x.cq<=(N:Int)-1))=true then some true
   else (dR x.iH 0 ((N:Int)-1)).bind fun au =>
    if (!au)=true then some true
    else (dx x.ef).bind fun av=>if (!av)=true then some true else (ir x.ef).bind fun aw=>some (decide (aw<=0)))=some (!VQ N x):=by
   unfold VQ
   by_cases c1:0<=x.cq∧x.cq<=(N:Int)-1
   rotate_left
   ·rw[decide_eq_false c1];simp
   rw[decide_eq_true c1,jU,aiv]
   by_cases c2:0<=x.iH∧x.iH<=(N:Int)-1
   rotate_left
   ·rw[decide_eq_false c2];simp
   rw[decide_eq_true c2,B9 ⟨by omega,by omega⟩,aiv];cases hq:okF x.ef with
   | false=>simp
   | true =>
    obtain⟨q,hq⟩:=BL.1 hq;rw[hq]at ah ai ⊢;have ae:=BB ah ai;rw[Ca (by unfold eQ;omega),aiv];have:(fh q).cv.aj=q.num.sign:=rfl;rw[this]
    by_cases c3:q.num.sign<=0
    ·rw[decide_eq_true c3,decide_eq_false (show ¬0<q.num.sign by omega)];simp
    ·rw[decide_eq_false c3,decide_eq_true (show 0<q.num.sign by omega)];simp
  rw[ad,aiv];unfold DB;cases aD:VQ N x with
  | false=>simp
  | true =>
   simp only[ail,ahp,if_false,aim];cases i with
   | zero=>rw[if_neg (by simp),ck (by omega)];simp
   | succ i =>
    rw[if_pos (by simp)];have hg:n.aK[i]? = some n.aK[i]:=ag2 (by omega);have e1:IntKind.i64.wrap (((i+1:Nat):Int)-1)=(i:Int):=by rw[wrap64 (by omega) (by omega)];omega
    obtain⟨c,ax,ak⟩:=U2 n.aK[i] x;rw[e1,bP hg,aiv,ax,aiv,aiJ,hg];simp only[Nat.add_eq_zero_iff,aiX,and_false,decide_false,ahU]
    by_cases hb:U1 n.aK[i] x
    ·rw[if_neg (by simp;exact ak.2 hb),decide_eq_true hb,ck (by omega)];rfl
    ·rw[if_pos (by simp only[decide_eq_true_eq];have:¬c<0:=fun h=>hb (ak.1 h);omega),decide_eq_false hb];rfl) (by
  unfold lC;rw[if_neg (by simp)])
 rw[ab,aiv];cases al:dP (fun i x=>if DB N n.aK i x=true then none else some false) 0 n.aK with
 | some r =>
  obtain⟨j,x,h1,h2,_⟩:=dG al;simp only[ahE]at h2;split at h2
  ·cases h2
  rename_i an;cases h2;refine⟨false,rfl,?_⟩;simp only[ahp,false_iff];rintro⟨M,tk,rfl,hR⟩;apply an;simp only[sK]at h1 Z ⊢;obtain rfl:M=N:=by omega
  rw[agM,agN]at h1;obtain⟨t,ht,rfl⟩:=h1;have hm:=ahh ht;unfold DB;rw[Ov.2 ⟨t,rfl,hR.ok t hm⟩,aim];cases j with
  | zero=>simp
  | succ j =>
   have ay:=bo ht;have hg:tk[j]? = some tk[j]:=ag2 (by omega);rw[aiJ,agM,hg];simp only[Option.map_some];rw[decide_eq_true (SH.2 ?_),Bool.or_true];have:=ai5.1 hR.sorted j (j+1) (by omega) ay (by omega)
   rwa [(ahi.1 ht).2]at this
 | none =>
  have X:=b7.1 al;simp only[ahE]at X;have O:∀(j:Nat) x,n.aK[j]? = some x->DB N n.aK j x=true:=fun j x hj=>by
   have:=X j x hj;split at this
   ·assumption
   ·cases this
  obtain⟨tk,U,Y⟩:=DQ (mk:=tY) (R:=fun t=>t.1<N∧t.2.1<N∧0<t.2.2) (l:=n.aK) fun x hx=>by
   obtain⟨j,hj⟩:=ahb hx;have:=O j x hj;unfold DB at this;rw[ahq]at this;exact Ov.1 this.1
  have hn:n=sK N tk:=by
   unfold sK;rw[<- Z,<- U]
  have ag:tk.Pairwise Yt:=Ki VG fun i a b ha hb=>by
   have:=O (i+1) (tY b) (by rw[U,agM,hb];rfl);unfold DB at this;rw[ahq,aiJ,U,agM,ha]at this;simpa [SH] using this.2
  have ae:∀t∈tk,LF t.2.2<=K:=fun t ht=>by
   have:=hs (tY t) (by rw[U];exact List.mem_map_of_mem ht);exact BB this.1 this.2
  have hlen:tk.length<=8000:=by
   have:=congrArg List.length U;rw[ahj]at this;omega
  have ao:N<=2000:=by omega
  simp only;rw[hn,ND ao hlen (fun t ht=>(Y t ht).1) hK ae,aiv];have aq:((List.range N).map fun p=>fh (eM tk p))=((List.range N).map fun p=>eM tk p).map fh:=by rw[ajG];rfl
  rw[aq,CD (by simp;omega) (fun q hq=>by
   obtain⟨p,_,rfl⟩:=agO.1 hq;have:=KV ae p;have h2:tk.length*(K+1)<=8000*1000001:=ajF hlen (by omega);unfold eQ;omega),aiv]
  refine⟨_,rfl,?_⟩;simp only[ahr,decide_eq_false_iff_not];constructor
  ·intro az;refine⟨N,tk,rfl,⟨ao,hlen,Y,ag,fun p hp =>?_⟩⟩
   by_cases h0:eM tk p<0
   ·exact absurd ⟨_,agO.2 ⟨p,aiB.2 hp,rfl⟩,h0⟩ az
   ·grind
  ·rintro⟨M,aE,he,hR⟩ ⟨q,hq,aB⟩;obtain⟨rfl,rfl⟩:=aa6 he;obtain⟨p,hp,rfl⟩:=agO.1 hq;have:=hR.leak p (aiB.1 hp);grind
theorem D5:∀(N:Nat) (l:List Nat),l.Nodup->(∀x∈l,x<N)->l.length<=N
 | 0,l,_,h=>by
  cases l with
  | nil=>simp
  | cons x l=>exact absurd (h x (air ..)) (by omega)
 | N+1,l,O,h=>by
  have h1:=D5 N (l.erase N) (O.erase N) fun x U=>by
   have h2:=h x (List.mem_of_mem_erase U);have h3:x≠N:=fun e=>by subst e;exact (List.Nodup.mem_erase_iff O).1 U |>.1 rfl
   omega
  rw[List.length_erase]at h1;split at h1<;>omega
def lB (l:List Nat):List Int:=l.map fun (p:Nat)=>(p:Int)
theorem YF {l:List Nat} {i p:Nat} (h:l[i]? = some p):(lB l)[i]? = some (p:Int):=by unfold lB;rw[agM,h];rfl
theorem tZ (l:List Nat):(lB l).length=l.length:=ahj ..
def kg (tk:List Tk) (p:Nat):List Nat:=(tk.filter fun t=>decide (t.2.1=p)).map fun t=>t.1
theorem HW {tk:List Tk} {p q:Nat} : q∈kg tk p↔∃t∈tk,t.1=q∧t.2.1=p:=by
 unfold kg;simp only[agO,aiy,decide_eq_true_eq];constructor
 ·rintro⟨t,⟨h1,h2⟩,h3⟩;exact⟨t,h1,h3,h2⟩
 ·rintro⟨t,h1,h3,h2⟩;exact⟨t,⟨h1,h2⟩,h3⟩
theorem Gk (tk:List Tk) (p:Nat):(kg tk p).length<=tk.length:=by
 unfold kg;rw[ahj];exact ajH ..
theorem Qd {tk:List Tk} {i:Nat} {t:Tk} (h:tk[i]? = some t) (p:Nat):kg (tk.take (i+1)) p=if t.2.1=p then kg (tk.take i) p++[t.1] else kg (tk.take i) p:=by
 obtain⟨U,he⟩:=ahi.1 h;unfold kg;rw[ajE U,ajI,ain,he]
 by_cases O:t.2.1=p
 ·rw[if_pos O,ajJ (by simpa using O)];rfl
 ·rw[if_neg O,ajK (by simpa using O)];simp
structure Jt (N:Nat) (tk:List Tk) (r:Nat->Int):Prop where
 ge:∀p,p<N -> -1<=r p
 zero:∀p,p<N->(r p=0↔0<eM tk p)
 down:∀p,p<N->0<r p->∃t∈tk,t.1=p∧r t.2.1=r p-1
 near:∀t∈tk,0<=r t.2.1->0<=r t.1∧r t.1<=r t.2.1+1
 le:∀p,p<N->r p<=2000
structure BF (N:Nat) (tk:List Tk) (r:Nat->Int) (D Q:List Nat) (h m:Int):Prop where
 nodup:(D++Q).Nodup
 lt:∀p∈D++Q,p<N
 rk:∀p,p<N->(0<=r p↔p∈D++Q)
 ge:∀p,p<N -> -1<=r p
 zero:∀p,p<N->(r p=0↔0<eM tk p)
 down:∀p,p<N->0<r p->∃t∈tk,t.1=p∧r t.2.1=r p-1
 near:∀t∈tk,t.2.1∈D->0<=r t.1∧r t.1<=r t.2.1+1
 mono:Q.Pairwise fun a b=>r a<=r b
 top:∀p∈D++Q,r p<=h+1
 low:∀q∈Q,h<=r q
 bnd:∀p,p<N->r p<=m
def Wi (r:Nat->Int) (q:Nat) (v:Int):Nat->Int:=fun x=>if x=q then v else r x
theorem jT (r:Nat->Int) (q:Nat) (v:Int):Wi r q v q=v:=if_pos rfl
theorem ik {r:Nat->Int} {q x:Nat} (v:Int) (h:x≠q):Wi r q v x=r x:=if_neg h
theorem BF.pop {N:Nat} {tk:List Tk} {r:Nat->Int} {D Q:List Nat} {p:Nat} {h m:Int} (O:BF N tk r D (p::Q) h m):BF N tk r D (p::Q) (r p) (m+1)∧0<=r p∧p<N∧r p<=m where
 left:={
  nodup:=O.nodup,lt:=O.lt,rk:=O.rk,ge:=O.ge,zero:=O.zero,down:=O.down,near:=O.near,mono:=O.mono
  top:=fun x U=>by
   have h1:=O.top x U;have h2:=O.low p (air ..);omega
  low:=fun q X=>by
   rcases agW.1 X with rfl|X
   ·exact Int.le_refl _
   ·exact (aiz.1 O.mono).1 q X
  bnd:=fun x U=>by have:=O.bnd x U;omega }
 right:=by
  have hm:p∈D++p::Q:=ag4 _ (air ..);have Y:=O.lt p hm;exact⟨(O.rk p Y).2 hm,Y,O.bnd p Y⟩
theorem BF.push {N:Nat} {tk:List Tk} {r:Nat->Int} {D Q:List Nat} {p q:Nat} {m:Int} (X:BF N tk r D (p::Q) (r p) m) (ae:0<=r p) (hm:r p+1<=m) (hq:q<N) (hr:r q = -1) (ht:∃t∈tk,t.1=q∧t.2.1=p) :
  BF N tk (Wi r q (r p+1)) D (p::(Q++[q])) (r p) m∧Wi r q (r p+1) p=r p:=by
 have hqn:q∉D++p::Q:=fun h=>by have:=(X.rk q hq).2 h;omega
 have Y:∀x,x∈D++p::(Q++[q])↔x∈D++p::Q∨x=q:=fun x=>by
  simp only[ah7,agW,ajL,or_false];constructor
  ·rintro (h|h|h|h)<;>simp[h]
  ·rintro ((h|h|h)|h)<;>simp[h]
 have U:∀x,x∈D++p::Q->x≠q:=fun x O e=>hqn (e ▸ O);have ab:p∈D++p::Q:=ag4 _ (air ..);have aa:p≠q:=U p ab;refine⟨?_,ik _ aa⟩;constructor
 ·have:D++p::(Q++[q])=(D++p::Q)++[q]:=by simp
  rw[this,List.nodup_append];refine⟨X.nodup,by simp,fun a ha b Z =>?_⟩;simp only[agW,ajL,or_false]at Z;subst Z;exact U a ha
 ·intro x O;rcases (Y x).1 O with h|rfl
  ·exact X.lt x h
  ·exact hq
 ·intro x O;rw[Y]
  by_cases h:x=q
  ·subst h;rw[jT];exact⟨fun _ =>.inr rfl,fun _=>by omega⟩
  ·rw[ik _ h,X.rk x O];exact⟨.inl,fun k=>k.elim id fun e=>absurd e h⟩
 ·intro x O
  by_cases h:x=q
  ·subst h;rw[jT];omega
  ·rw[ik _ h];exact X.ge x O
 ·intro x O
  by_cases h:x=q
  ·subst h;rw[jT];have:=X.zero x O;constructor
   ·intro h;omega
   ·intro h;have:=this.2 h;omega
  ·rw[ik _ h];exact X.zero x O
 ·intro x O h0
  by_cases h:x=q
  ·subst h;obtain⟨t,h1,h2,h3⟩:=ht;refine⟨t,h1,h2,?_⟩;rw[h3,ik _ aa,jT];omega
  ·rw[ik _ h]at h0 ⊢;obtain⟨t,h1,h2,h3⟩:=X.down x O h0;refine⟨t,h1,h2,?_⟩;rw[ik _ (fun e=>by rw[e,hr]at h3;omega)];exact h3
 ·intro t ad hD;obtain⟨h1,h2⟩:=X.near t ad hD;have e1:t.2.1≠q:=U _ (ag3 _ hD);have e2:t.1≠q:=fun e=>by rw[e]at h1;omega
  rw[ik _ e1,ik _ e2];exact⟨h1,h2⟩
 ·have h1:=X.mono;have:p::(Q++[q])=(p::Q)++[q]:=by simp
  rw[this,List.pairwise_append];refine⟨h1.imp_of_mem fun {a b} ha Z h =>?_,by simp,fun a ha b Z =>?_⟩
  ·rw[ik _ (U a (ag4 _ ha)),ik _ (U b (ag4 _ Z))];exact h
  ·simp only[agW,ajL,or_false]at Z;subst Z;rw[ik _ (U a (ag4 _ ha)),jT];exact X.top a (ag4 _ ha)
 ·intro x O;rcases (Y x).1 O with h|rfl
  ·rw[ik _ (U x h)];exact X.top x h
  ·rw[jT];exact Int.le_refl _
 ·intro x O
  by_cases h:x=q
  ·subst h;rw[jT];omega
  ·rw[ik _ h];apply X.low x;simp only[agW,ah7,ajL,or_false]at O ⊢;rcases O with h1|h1|h1
   ·exact .inl h1
   ·exact .inr h1
   ·exact absurd h1 h
 ·intro x O
  by_cases h:x=q
  ·subst h;rw[jT];exact hm
  ·rw[ik _ h];exact X.bnd x O
theorem BF.finish {N:Nat} {tk:List Tk} {r:Nat->Int} {D Q:List Nat} {p:Nat} {h m:Int} (hB:BF N tk r D (p::Q) h m) (U:∀q∈kg tk p,0<=r q∧r q<=r p+1):BF N tk r (D++[p]) Q h m:=by
 have e:(D++[p])++Q=D++p::Q:=by simp
 exact {
  nodup:=by rw[e];exact hB.nodup
  lt:=by rw[e];exact hB.lt
  rk:=by rw[e];exact hB.rk
  ge:=hB.ge,zero:=hB.zero,down:=hB.down
  near:=fun t O X=>by
   rcases ah7.1 X with h1|h1
   ·exact hB.near t O h1
   ·simp only[agW,ajL,or_false]at h1;rw[h1];exact U t.1 (HW.2 ⟨t,O,rfl,h1⟩)
  mono:=(aiz.1 hB.mono).2
  top:=by rw[e];exact hB.top
  low:=fun q Y=>hB.low q (ais _ Y)
  bnd:=hB.bnd }
theorem BF.aez {N:Nat} {tk:List Tk} {r:Nat->Int} {D:List Nat} {h m:Int} (O:BF N tk r D [] h m) (U:∀t∈tk,t.1<N∧t.2.1<N) (hm:m<=2000):Jt N tk r where
 ge:=O.ge
 zero:=O.zero
 down:=O.down
 near t h1 h2:=O.near t h1 (by have:=(O.rk t.2.1 (U t h1).2).1 h2;simpa using this)
 le p X:=by have:=O.bnd p X;omega
theorem Zo {α:Type} (a:α) (l:List α):BA (a::l) 1 ((a::l).length:Int)=some l:=by
 unfold BA;rw[if_pos ⟨by omega,by simp;omega,by omega⟩];simp
variable {N:Nat} {tk:List Tk}
theorem Rm {r:Nat->Int} {D Q:List Nat} {p:Nat} {m:Int} (hB:BF N tk r D (p::Q) (r p) m) (hp:p<N) (ak:0<=r p) (hm:r p+1<=m) (al:m<=2001) (ah:∀t∈tk,t.1<N∧t.2.1<N) (hlen:tk.length<=8000) (hN:N<=2000) :
  ∃r' Q',aS (jN (p:Int) (lB (kg tk p))) ((0:Int),(List.range N).map r,lB Q)=some ((List.range N).map r',lB Q')∧BF N tk r' (D++[p]) Q' (r p) m:=by
 have an:=Gk tk p;have key:=fun hs he=>yW (body:=jN (p:Int) (lB (kg tk p))) (kg tk p) (by omega) (fun i (s:List Int×List Int)=>∃r' Q',s=((List.range N).map r',lB Q')∧BF N tk r' D (p::Q') (r p) m∧r' p=r p∧∀q∈(kg tk p).take i,0<=r' q∧r' q<=r p+1)
  (fun x=>∃r' Q',x=((List.range N).map r',lB Q')∧BF N tk r' (D++[p]) Q' (r p) m) (s0:=((List.range N).map r,lB Q)) ⟨r,Q,rfl,hB,rfl,fun q hq=>by simp at hq⟩ hs he
 refine (key ?_ ?_).elim fun x ⟨h1,r',Q',X,h2⟩=>⟨r',Q',X ▸ h1,h2⟩
 ·rintro i q _ hq ⟨r',Q',rfl,U,Y,O⟩;have hi:=bo hq;have ai:=ahh hq;obtain⟨t,ab,ad,aj⟩:=HW.1 ai;have aa:q<N:=by rw[<- ad];exact (ah t ab).1
  have Z:(kg tk p).take (i+1)=(kg tk p).take i++[q]:=by
   rw[ajE hi,(ahi.1 hq).2]
  have ao:Q'.length<=N:=by
   have h1:=D5 N (D++p::Q') U.nodup U.lt;simp only[ah1,List.length_cons]at h1;omega
  simp only[jN];rw[if_pos (by rw[tZ];simp;omega),bP (YF hq),aiv,bP (dQ r' aa),aiv]
  by_cases hc:r' q = -1
  ·rw[if_pos (by rw[hc];rfl),bP (dQ r' hp),aiv,Y,wg (by rw[tZ];simp;omega),aiv,ck (by omega),ahR,mB];have hw:IntKind.i64.wrap (r p+1)=r p+1:=wrap64 (by omega) (by omega);rw[hw];have ae:=U;rw[<- Y]at ae;obtain⟨h1,h2⟩:=ae.push (by omega) (by omega) aa hc ⟨t,ab,ad,aj⟩;rw[Y]at h1 h2;refine⟨_,rfl,Wi r' q (r p+1),Q'++[q],?_,h1,h2,fun x X =>?_⟩
   ·unfold lB Wi;simp
   ·rw[Z]at X;rcases ah7.1 X with X|X
    ·have:=O x X
     by_cases ag:x=q
     ·subst ag;rw[hc]at this;omega
     ·rw[ik _ ag];exact this
    ·simp only[agW,ajL,or_false]at X;subst X;rw[jT];omega
  ·rw[if_neg (by simpa using hc),ck (by omega)];refine⟨_,rfl,r',Q',rfl,U,Y,fun x X =>?_⟩;rw[Z]at X;rcases ah7.1 X with X|X
   ·exact O x X
   ·simp only[agW,ajL,or_false]at X;subst X;have h0:0<=r' x:=by have:=U.ge x aa;omega
    exact⟨h0,U.top x ((U.rk x aa).1 h0)⟩
 ·rintro _ ⟨r',Q',rfl,U,Y,O⟩;refine⟨_,?_,r',Q',rfl,U.finish fun q hq =>?_⟩
  ·simp only[jN];rw[if_neg (by rw[tZ];simp)]
  ·rw[aiZ]at O;rw[Y];exact O q hq
theorem Rn {r:Nat->Int} {Q:List Nat} (hB:BF N tk r [] Q 0 0) (U:∀t∈tk,t.1<N∧t.2.1<N) (hlen:tk.length<=8000) (hN:N<=2000) :
  ∃r',aS (jM ((List.range N).map fun p=>lB (kg tk p))) ((List.range N).map r,lB Q)=some ((List.range N).map r')∧Jt N tk r':=by
 have key:=fun hs=>dh (body:=jM ((List.range N).map fun p=>lB (kg tk p))) (fun i (s:List Int×List Int)=>∃r' D Q' h,s=((List.range N).map r',lB Q')∧D.length=i∧BF N tk r' D Q' h (i:Int)) N
  (fun x=>∃r',x=(List.range N).map r'∧Jt N tk r') (s:=((List.range N).map r,lB Q)) ⟨r,[],Q,0,rfl,rfl,hB⟩ (jq (by omega)) hs
 refine (key ?_).elim fun x ⟨h1,r',hx,h2⟩=>⟨r',hx ▸ h1,h2⟩
 ·rintro i _ hi ⟨r',D,Q',h,rfl,hD,O⟩;cases Q' with
  | nil =>
   refine .inr ⟨_,?_,r',rfl,O.aez U (by omega)⟩;simp only[jM,lB,ahF];rw[if_neg (by simp)]
  | cons p Q' =>
   obtain⟨X,Y,hp,aa⟩:=O.pop;have Z:i<N:=by
    have h1:=D5 N (D++p::Q') O.nodup O.lt;simp only[ah1,List.length_cons]at h1;omega
   obtain⟨r2,Q2,h1,h2⟩:=Rm X hp Y (by omega) (by omega) U hlen hN;refine .inl ⟨Z,((List.range N).map r2,lB Q2),?_,r2,D++[p],Q2,r' p,rfl,by simp[hD],by simpa using h2⟩;simp only[jM];have e1:lB (p::Q')=(p:Int)::lB Q':=rfl;rw[e1,if_pos (by simp),idx_zero' ,aiv,Zo,aiv,bP (dQ (fun p=>lB (kg tk p)) hp),aiv,h1,aiv]
where
 idx_zero':∀ {α:Type} {a:α} {l:List α},P.idx (a::l) 0=some a:=fun {_ a l}=>bP (l:=a::l) (i:=0) rfl
theorem U0 {L:Nat} (U:∀t∈tk,t.1<N∧t.2.1<N) (hlen:tk.length<=8000) :
  aS (jK (sK N tk)) ((0:Int),List.replicate N ([]:List Int))=some ((List.range N).map fun p=>lB (kg tk p)):=by
 unfold sK;have key:=fun hs he=>yW (body:=jK (fA.mk (N:Int) (tk.map tY))) tk (by omega) (fun i l=>l=(List.range N).map fun p=>lB (kg (tk.take i) p)) (fun l=>l=(List.range N).map fun p=>lB (kg tk p)) (s0:=List.replicate N ([]:List Int))
  (kF (by simp) fun j Z=>by rw[List.getElem?_replicate,if_pos Z,List.take_zero];rfl) hs he
 refine (key ?_ ?_).elim fun x ⟨h1,hx⟩=>hx ▸ h1
 ·rintro i t _ O rfl;have hi:=bo O;have X:=(U t (ahh O)).2;have hg:(tk.map tY)[i]? = some (tY t):=by rw[agM,O];rfl
  have Y:=Gk (tk.take i) t.2.1;rw[ag8]at Y;refine⟨_,?_,rfl⟩;simp only[jK];rw[if_pos (by simp;omega),bP hg,aiv];simp only[tY];rw[bP (dQ _ X),aiv,wg (by rw[tZ];simp;omega),aiv,ck (by omega),ahR,mB];congr 3;refine congrArg (fun f=>(List.range N).map f) (funext fun p =>?_);rw[Qd O]
  by_cases h:p=t.2.1
  ·subst h;rw[if_pos rfl,if_pos rfl];unfold lB;simp
  ·rw[if_neg h,if_neg (fun e=>h e.symm)]
 ·rintro _ rfl;refine⟨_,?_,rfl⟩;simp only[jK];rw[if_neg (by simp),aiZ]
def AY (tk:List Tk) (p:Nat):Int:=if 0<eM tk p then 0 else -1
def lI (tk:List Tk) (n:Nat):List Nat:=(List.range n).filter fun p=>decide (0<eM tk p)
theorem OQ (tk:List Tk) (n:Nat):lI tk (n+1)=if 0<eM tk n then lI tk n++[n] else lI tk n:=by
 unfold lI;rw[ajM,ajI]
 by_cases h:0<eM tk n
 ·rw[if_pos h,ajJ (by simpa using h)];rfl
 ·rw[if_neg h,ajK (by simpa using h)];simp
theorem Vt {K:Nat} (Z:N<=2000) (hlen:tk.length<=8000) (hK:K<=1000000) (hs:∀t∈tk,LF t.2.2<=K) :
  aS (jL ((List.range N).map fun p=>fh (eM tk p))) ((0:Int),List.replicate N (0:Int),([]:List Int))=some ((List.range N).map (AY tk),lB (lI tk N)):=by
 have key:=fun hs he=>yW (body:=jL ((List.range N).map fun p=>fh (eM tk p))) (List.range N) (by simp;omega) (fun i (s:List Int×List Int)=>s=((List.range N).map (fun p=>if p<i then AY tk p else 0),lB (lI tk i))) (fun s=>s=((List.range N).map (AY tk),lB (lI tk N))) (s0:=(List.replicate N (0:Int),([]:List Int)))
  (by rw[show lI tk 0=[] from rfl];refine Prod.ext ?_ rfl;exact kF (by simp) fun j O=>by rw[List.getElem?_replicate,if_pos O,if_neg (by omega)]) hs he
 refine (key ?_ ?_).elim fun x ⟨h1,hx⟩=>hx ▸ h1
 ·rintro i x _ hx rfl;have U:i<N:=by have:=bo hx;simpa using this
  have X:=KV hs i;have h2:tk.length*(K+1)<=8000*1000001:=ajF hlen (by omega);have Y:(lI tk i).length<=i:=by unfold lI;have:=ajH (fun p=>decide (0<eM tk p)) (List.range i);simpa using this
  refine⟨_,?_,rfl⟩;simp only[jL];rw[if_pos (by simp;omega),bP (dQ (fun p=>fh (eM tk p)) U),aiv,bP (dQ _ U),aiv,Ca (by unfold eQ;omega),aiv,ahR,mB,mB,ck (by omega),OQ]
  by_cases hl:0<eM tk i
  ·rw[if_pos (by simpa using BQ.2 hl),bP (dQ _ U),aiv,wg (by rw[tZ];simp;omega),aiv,if_pos hl];refine congrArg some (congrArg Sum.inl (congrArg (Prod.mk _) (Prod.ext ?_ ?_)))
   ·refine congrArg (fun f=>(List.range N).map f) (funext fun p =>?_)
    by_cases h:p=i
    ·subst h;rw[if_pos rfl,if_pos (by omega)];unfold AY;rw[if_pos hl]
    ·rw[if_neg h,if_neg h]
     by_cases h3:p<i
     ·rw[if_pos h3,if_pos (by omega)]
     ·rw[if_neg h3,if_neg (by omega)]
   ·unfold lB;simp
  ·rw[if_neg (by simpa using fun h=>hl (BQ.1 h)),if_neg hl];refine congrArg some (congrArg Sum.inl (congrArg (Prod.mk _) (Prod.ext ?_ rfl)));refine congrArg (fun f=>(List.range N).map f) (funext fun p =>?_)
   by_cases h:p=i
   ·subst h;rw[if_pos rfl,if_pos (by omega)];unfold AY;rw[if_neg hl]
   ·rw[if_neg h]
    by_cases h3:p<i
    ·rw[if_pos h3,if_pos (by omega)]
    ·rw[if_neg h3,if_neg (by omega)]
 ·rintro _ rfl;refine⟨_,?_,rfl⟩;simp only[jL];rw[if_neg (by simp),ahk];refine congrArg some (congrArg Sum.inr (Prod.ext ?_ rfl));refine kF (by simp) fun j O =>?_;rw[dQ _ O,if_pos O]
theorem aa2 (N:Nat) (tk:List Tk):BF N tk (AY tk) [] (lI tk N) 0 0:=by
 have hm:∀p,p∈lI tk N↔p<N∧0<eM tk p:=fun p=>by unfold lI;simp[aiy]
 have U:∀p,0<eM tk p->AY tk p=0:=fun p h=>if_pos h;have h1:∀p,¬0<eM tk p->AY tk p = -1:=fun p h=>if_neg h;constructor
 ·rw[aiF];unfold lI;exact List.nodup_range.filter _
 ·intro p O;rw[aiF]at O;exact ((hm p).1 O).1
 ·intro p O;rw[aiF,hm]
  by_cases h:0<eM tk p
  ·rw[U p h];simp[O,h]
  ·rw[h1 p h];simp[h]
 ·intro p O
  by_cases h:0<eM tk p
  ·rw[U p h];omega
  ·rw[h1 p h];omega
 ·intro p O
  by_cases h:0<eM tk p
  ·rw[U p h];simp[h]
  ·rw[h1 p h];simp[h]
 ·intro p O X
  by_cases h:0<eM tk p
  ·rw[U p h]at X;omega
  ·rw[h1 p h]at X;omega
 ·intro t _ h;simp at h
 ·refine List.Pairwise.imp_of_mem (R:=fun _ _=>True) (fun {a b} Y Z _ =>?_) (List.pairwise_of_forall (fun _ _=>trivial));rw[U a ((hm a).1 Y).2,U b ((hm b).1 Z).2];exact Int.le_refl _
 ·intro p O;rw[aiF]at O;rw[U p ((hm p).1 O).2];omega
 ·intro q hq;rw[U q ((hm q).1 hq).2];omega
 ·intro p O
  by_cases h:0<eM tk p
  ·rw[U p h];omega
  ·rw[h1 p h];omega
theorem Y2 {K:Nat} (X:P7 N tk) (Z:K<=1000000) (hs:∀t∈tk,LF t.2.2<=K):∃r,iT (sK N tk)=some ((List.range N).map r)∧Jt N tk r:=by
 have Y:=X.ports;have hlen:=X.takes;have O:∀t∈tk,t.1<N∧t.2.1<N:=fun t U=>⟨(X.ok t U).1,(X.ok t U).2.1⟩;obtain⟨b,aa,ab⟩:=VX (n:=sK N tk) Z (fun t U=>by
  simp only[sK,agO]at U;obtain⟨t',h1,rfl⟩:=U;exact S2 (hs t' h1))
 obtain rfl:b=true:=ab.2 ⟨N,tk,rfl,X⟩;obtain⟨r',h1,h2⟩:=Rn (aa2 N tk) O hlen Y;refine⟨r',?_,h2⟩;unfold iT;rw[aa,aiv];simp only[ail,ahp,if_false];have e1:(sK N tk).aA=(N:Int):=rfl;rw[e1,N4 _ (by omega) Y,aiv,U0 (L:=0) O hlen,aiv,N4 _ (by omega) Y,aiv,ND Y hlen (fun t U=>(O t U).1) Z hs,aiv,Vt Y hlen Z hs,aiv];simp only;rw[h1,aiv]
end Go.Proofs.YtoioidmblipblaaGreat.P
namespace Go.Proofs.YtoioidmblipblaaGreat.P
open Go.RowKit
set_option maxRecDepth 100000
theorem adt:tV=some true:=by kernel_rfl
section
variable {N:Nat} {tk:List Tk} {r:Nat->Int}
end
def lj:List Rat->Rat
 | []=>0
 | q::l=>q+lj l
theorem Px (a b:List Rat):lj (a++b)=lj a+lj b:=by
 induction a with
 | nil=>rw[aiF,lj,Rat.zero_add]
 | cons q a O=>rw[aiQ,lj,lj,O];grind
theorem Se {K:Nat} {l:List Rat} (h:∀q∈l,LF q<=K):LF (lj l)<=1+l.length*(K+1):=by
 induction l with
 | nil=>simp only[lj];exact agR (Jp (n:=0) (by decide)) (by omega)
 | cons q l O =>
  have h1:=h q (air ..);have h2:=O fun x U=>h x (ais _ U);have h3:=Jo q (lj l);simp only[lj,List.length_cons];rw[ahO];omega
theorem U6 {a b:Rat} : U5 a b=0↔a=b:=by
 unfold U5
 by_cases h1:a<b
 ·rw[if_pos h1];constructor
  ·intro h;cases h
  ·intro h;grind
 ·rw[if_neg h1]
  by_cases h2:b<a
  ·rw[if_pos h2];constructor
   ·intro h;cases h
   ·intro h;grind
  ·rw[if_neg h2];constructor
   ·intro _;grind
   ·intro _;rfl
def we (l:List aw):Prop:=∃O:List Rat,l=O.map fh∧(∀q∈O,0<=q)∧lj O=1
theorem abS {a b:Rat} (h:LF a+LF b+1<=eQ):oc (fh a) (fh b)=some (fh (a+b)):=by
 unfold oc;rw[abE h];rfl
theorem aal {l:List aw} (hl:l.length<=100) (hs:∀f∈l,f.cv.aa.length<=6∧f.cu.aa.length<=6):∃b,oF l=some b∧(b=true↔we l):=by
 have an:eQ=4398046511104:=rfl;have Z:jm 0=some (fh 0):=abG (n:=0) (by decide);unfold oF;rw[Z,aiv];obtain⟨q,h1,h2⟩:=dh (body:=od l)
  (fun i st=>∃O:List Rat,l.take i=O.map fh∧(∀q∈O,0<=q∧LF q<=6)∧st=((i:Int),(fh (lj O)).cv.aj,(fh (lj O)).cv.aa,(fh (lj O)).cu.aj,(fh (lj O)).cu.aa)) l.length
  (fun q=>(q=.inr false∧¬we l)∨∃O:List Rat,l=O.map fh∧(∀q∈O,0<=q∧LF q<=6)∧q=.inl ((fh (lj O)).cv.aj,(fh (lj O)).cv.aa,(fh (lj O)).cu.aj,(fh (lj O)).cu.aa))
  (s:=(0,(fh 0).cv.aj,(fh 0).cv.aa,(fh 0).cu.aj,(fh 0).cu.aa)) ⟨[],rfl,fun q Y=>by simp at Y,rfl⟩ (jq (by omega)) (by
   rintro i _ hi ⟨O,ht,Y,rfl⟩;simp only[od];have ao:O.length=i:=by
    have:=congrArg List.length ht;simp only[ag8,ahj]at this;omega
   by_cases X:i<l.length
   ·have hg:l[i]? = some l[i]:=ag2 X;have hf:=hs _ (ag1 X);have ae:l.take (i+1)=l.take i++[l[i]]:=ajE X;have U:l[i]∈l:=ag1 X;generalize l[i]=f at hg hf ae U;rw[if_pos (by simpa using X),bP hg,aiv,B9 ⟨by unfold me;omega,by unfold me;omega⟩,aiv];cases ab:okF f with
    | false =>
     right;refine⟨_,rfl,.inl ⟨rfl,?_⟩⟩;rintro⟨ag,h1,_,_⟩;rw[h1]at U;obtain⟨q,_,rfl⟩:=agO.1 U;rw[Q4]at ab;cases ab
    | true =>
     obtain⟨q,rfl⟩:=BL.1 ab;have ah:LF q<=6:=BB hf.1 hf.2;simp only[ail,ahp,if_false];rw[Ca (by omega),aiv]
     by_cases hneg:q<0
     ·right;refine⟨_,by rw[if_pos (decide_eq_true (vu.2 hneg))],.inl ⟨rfl,?_⟩⟩;rintro⟨ag,h1,h2,_⟩;rw[h1]at U;obtain⟨q',ai,he⟩:=agO.1 U;have:=h2 q' ai;rw[va he]at this;grind
     ·left;refine⟨X,?_⟩;have ak:=Se (K:=6) (l:=O) fun x hx=>(Y x hx).2;have ha:oc (fh (lj O)) (fh q)=some (fh (lj O+q)):=abS (by omega);rw[if_neg (by rw[decide_eq_true_eq];exact fun h=>hneg (vu.1 h)),ck (by omega)];refine⟨_,by erw [ha];rfl,O++[q],?_,?_,?_⟩
      ·rw[ae,ht,ain];rfl
      ·intro x hx;rcases ah7.1 hx with h|h
       ·exact Y x h
       ·rw[ahc.1 h];exact⟨by grind,ah⟩
      ·have:lj (O++[q])=lj O+q:=by rw[Px];simp only[lj];grind
       rw[this]
   ·right;have:i=l.length:=by omega
    subst this;rw[aiZ]at ht;exact⟨_,by rw[if_neg (by simp)],.inr ⟨O,ht,Y,rfl⟩⟩)
 erw [h1];rw[aiv];rcases h2 with⟨rfl,al⟩|⟨O,rfl,Y,rfl⟩
 ·exact⟨false,rfl,by simp[al]⟩
 ·have ad:jm 1=some (fh 1):=ad7;simp only[ahj]at hl;have ak:=Se (K:=6) (l:=O) fun x hx=>(Y x hx).2;have aq:LF (1:Rat)<=1:=Jp (n:=1) (by decide);have hc:iI (fh (lj O)) (fh 1)=some (U5 (lj O) 1):=UT (by omega);simp only;rw[ad,aiv];refine⟨_,by erw [hc];rfl,?_⟩;rw[beq_iff_eq,U6];constructor
  ·intro h;exact⟨O,rfl,fun q h=>(Y q h).1,h⟩
  ·rintro⟨ag,he,_,h⟩;rw[(List.map_inj_right fun a b=>va).1 he];exact h
def xq (f:fH) (i:Nat):List aw:=f.aD.map fun l=>(l[i]?).getD (aw.mk (aB.mk 0 ([])) (aB.mk 0 ([])))
structure B0 (f:fH):Prop where
 srcs:f.al.length<=100
 outs:f.aJ.length<=100
 rows:f.aD.length=f.aJ.length
 out:∀x∈f.aJ,0<=x.bl∧x.bl<=3∧0<=x.aQ
 row:∀l∈f.aD,l.length=f.al.length
 src:∀x∈f.al,0<=x.bl∧x.bl<=2∧0<=x.aQ
 col:∀i,i<f.al.length->we (xq f i)
structure oI (f:fH):Prop where
 srcs:f.al.length<=5
 outs:f.aJ.length<=5
 rows:f.aD.length<=8
 row:∀l∈f.aD,l.length<=8∧∀x∈l,x.cv.aa.length<=4∧x.cu.aa.length<=4
theorem Xu {f:fH} {i:Nat} (hi:i<f.al.length) (hr:f.aD.length=f.aJ.length) (hrow:∀l∈f.aD,l.length=f.al.length) (ho:f.aJ.length<=100) :
  ∃c:List aw,aS (gp f (i:Int)) ((0:Int),List.replicate f.aJ.length (aw.mk (aB.mk 0 ([])) (aB.mk 0 ([]))))=some c∧f.aD.map (fun l=>l[i]?)=c.map some:=by
 have key:=fun Z O=>yW (body:=gp f (i:Int)) f.aJ (by omega)
  (fun k (c:List aw)=>c.length=f.aJ.length∧∀j,j<k->(f.aD.map (fun l=>l[i]?))[j]? = some c[j]?) (fun c=>f.aD.map (fun l=>l[i]?)=c.map some) (s0:=List.replicate f.aJ.length (aw.mk (aB.mk 0 ([])) (aB.mk 0 ([]))))
  ⟨by simp,fun j hj=>by omega⟩ Z O
 refine (key ?_ ?_)
 ·rintro k x c hx ⟨U,hc⟩;have hk:=bo hx;have Y:f.aD[k]? = some (f.aD[k]'(by omega)):=ag2 _;have hl:=hrow _ (ahh Y);generalize f.aD[k]'(by omega)=l at Y hl;have X:l[i]? = some (l[i]'(by omega)):=ag2 _;have aa:c[k]? = some (c[k]'(by omega)):=ag2 _;refine⟨c.set k (l[i]'(by omega)),?_,?_,?_⟩;rotate_left
  ·simpa using U
  ·intro j hj
   by_cases ab:j=k
   ·subst ab;rw[agM,Y,ajC (by omega)];exact congrArg some X
   ·rw[hc j (by omega),ajD (by omega)]
  ·simp only[gp];rw[if_pos (by simpa using hk),bP Y,aiv,bP X,aiv,bP aa,aiv,ahR,ck (by omega)]
 ·rintro c ⟨U,hc⟩;refine⟨_,by simp only[gp];rw[if_neg (by simp)],?_⟩;apply ai2;intro j
  by_cases hj:j<f.aJ.length
  ·rw[hc j hj,agM,ag2 (by omega)];rfl
  ·rw[aix (by simp;omega),aix (by simp;omega)]
theorem acS {f:fH} {i:Nat} {c:List aw} (h:f.aD.map (fun l=>l[i]?)=c.map some):c=xq f i:=by
 have:=congrArg (List.map fun x:Option aw=>x.getD (aw.mk (aB.mk 0 ([])) (aB.mk 0 ([])))) h;rw[ajG,ajG]at this;have h2:c.map ((fun x:Option aw=>x.getD (aw.mk (aB.mk 0 ([])) (aB.mk 0 ([])))) ∘ some)=c:=by
  rw[show ((fun x:Option aw=>x.getD (aw.mk (aB.mk 0 ([])) (aB.mk 0 ([])))) ∘ some)=id from rfl,List.map_id]
 rw[h2]at this;exact this.symm
theorem Kp {f:fH} (hF:oI f):∃b,iU f=some b∧(b=true↔B0 f):=by
 open Classical in
 have hs:=hF.srcs;have ho:=hF.outs;unfold iU;rw[if_neg (by simp;omega),if_neg (by simp;omega),aiv]
 by_cases hr:f.aD.length=f.aJ.length
 rotate_left
 ·rw[if_pos (by simpa using fun h=>hr (by omega))];exact⟨false,rfl,by simp only[ahp,false_iff];exact fun h=>hr h.rows⟩
 rw[if_neg (by simp[hr])];rw[pD f.aJ (fun i x=>if (0<=x.bl∧x.bl<=3)∧0<=x.aQ∧(f.aD.getD i []).length=f.al.length then none else some false) (by omega) (fun i x X =>?_) (by simp only[jO];rw[if_neg (by simp)])];rotate_left
 ·have hi:=bo X;have hg:f.aD[i]? = some (f.aD.getD i []):=by rw[ahs,ag2 (by omega)];rfl
  simp only[jO];rw[if_pos (by simpa using hi),bP X,aiv,jU,aiv,ck (by omega)]
  by_cases h1:0<=x.bl∧x.bl<=3
  ·rw[decide_eq_true h1,if_neg (by simp)]
   by_cases h2:x.aQ<0
   ·rw[if_pos (by simpa using h2),if_neg (by omega)]
   ·rw[if_neg (by simpa using h2),bP hg,aiv]
    by_cases h3:(f.aD.getD i []).length=f.al.length
    ·rw[if_neg (by rw[h3];simp),if_pos ⟨h1,by omega,h3⟩]
    ·rw[if_pos (by rw[bne_iff_ne];intro h;exact h3 (by omega)),if_neg (fun h=>h3 h.2.2)]
  ·rw[decide_eq_false h1,if_pos (by simp),if_neg (by omega)]
 rw[aiv];cases aa:dP (fun (i:Nat) (x:s7)=>if (0<=x.bl∧x.bl<=3)∧0<=x.aQ∧(f.aD.getD i []).length=f.al.length then none else some false) 0 f.aJ with
 | some q =>
  obtain⟨j,x,h1,h2,_⟩:=dG aa;rw[ahE]at h2;have U:=bo h1;split at h2
  ·cases h2
  ·rename_i O;cases h2;refine⟨false,rfl,?_⟩;simp only[ahp,false_iff];intro hQ;have a1:=hQ.out x (ahh h1);have hg:f.aD[j]? = some (f.aD.getD j []):=by rw[ahs,ag2 (by omega)];rfl
   exact O ⟨⟨a1.1,a1.2.1⟩,a1.2.2,hQ.row _ (ahh hg)⟩
 | none =>
  have Y:∀(j:Nat) x,f.aJ[j]? = some x->(0<=x.bl∧x.bl<=3)∧0<=x.aQ∧(f.aD.getD j []).length=f.al.length:=fun j x h=>by
   have:=b7.1 aa j x h;rw[ahE]at this;split at this
   ·assumption
   ·cases this
  have hrow:∀l∈f.aD,l.length=f.al.length:=fun l hl=>by
   obtain⟨j,U,rfl⟩:=List.getElem_of_mem hl;have h:=(Y j _ (ag2 (by omega))).2.2;rw[ahs,ag2 U]at h;exact h
  simp only;rw[pD f.al (fun i x=>if (0<=x.bl∧x.bl<=2)∧0<=x.aQ∧we (xq f i) then none else some false) (by omega) (fun i x X =>?_) (by simp only[jP];rw[if_neg (by simp)])];rotate_left
  ·have hi:=bo X;obtain⟨c,c1,c2⟩:=Xu hi hr hrow (by omega);obtain rfl:=acS c2;obtain⟨b,b1,b2⟩:=aal (l:=xq f i) (by unfold xq;rw[ahj];omega) (fun y hy=>by
    unfold xq at hy;obtain⟨l,hl,rfl⟩:=agO.1 hy;have h1:=(hF.row l hl).2;cases hg:l[i]? with
    | none=>simp
    | some z =>
     have:=h1 z (ahh hg);simp only[Option.getD_some];omega)
   simp only[jP];rw[if_pos (by simpa using hi),bP X,aiv,N4 _ (by omega) (by omega),aiv,c1,aiv,jU,aiv,ck (by omega)]
   by_cases h1:0<=x.bl∧x.bl<=2
   ·rw[decide_eq_true h1,if_neg (by simp)]
    by_cases h2:x.aQ<0
    ·rw[if_pos (by simpa using h2),if_neg (by omega)]
    ·rw[if_neg (by simpa using h2),b1,aiv]
     by_cases h3:we (xq f i)
     ·rw[b2.2 h3,if_neg (by simp),if_pos ⟨h1,by omega,h3⟩]
     ·have:b=false:=by cases b with
       | false=>rfl
       | true=>exact absurd (b2.1 rfl) h3
      rw[this,if_pos (by simp),if_neg (fun h=>h3 h.2.2)]
   ·rw[decide_eq_false h1,if_pos (by simp),if_neg (fun h=>h1 h.1)]
  rw[aiv];cases ab:dP (fun (i:Nat) (x:fI)=>if (0<=x.bl∧x.bl<=2)∧0<=x.aQ∧we (xq f i) then none else some false) 0 f.al with
  | some q =>
   obtain⟨j,x,h1,h2,_⟩:=dG ab;rw[ahE]at h2;have U:=bo h1;split at h2
   ·cases h2
   ·rename_i O;cases h2;refine⟨false,rfl,?_⟩;simp only[ahp,false_iff];intro hQ;have a1:=hQ.src x (ahh h1);exact O ⟨⟨a1.1,a1.2.1⟩,a1.2.2,hQ.col j U⟩
  | none =>
   have Z:∀(j:Nat) x,f.al[j]? = some x->(0<=x.bl∧x.bl<=2)∧0<=x.aQ∧we (xq f j):=fun j x h=>by
    have:=b7.1 ab j x h;rw[ahE]at this;split at this
    ·assumption
    ·cases this
   refine⟨true,rfl,?_⟩;simp only[true_iff];exact⟨by omega,by omega,hr,fun x X=>by
    obtain⟨j,U⟩:=ahb X;have:=Y j x U;exact⟨this.1.1,this.1.2,this.2.1⟩,hrow,fun x X=>by
    obtain⟨j,U⟩:=ahb X;have:=Z j x U;exact⟨this.1.1,this.1.2,this.2.1⟩,fun j U=>(Z j _ (ag2 U)).2.2⟩
def yC (n:Nat):List Int:=(List.range n).map fun (i:Nat)=>(i:Int)
theorem PE {n i:Nat} (h:i<n):(yC n)[i]? = some (i:Int):=dQ (fun (i:Nat)=>(i:Int)) h
theorem Fl (n:Nat):(yC n).length=n:=VV _
theorem PF (n:Nat):(yC n).Pairwise (fun x y=>x<=y):=by
 unfold yC;rw[ai4];exact (aiC (n:=n)).imp fun h=>by omega
theorem E1 (l:List Int):(nN l).Perm l:=List.mergeSort_perm l _
theorem Kx (l:List Int):(nN l).Pairwise (fun x y=>x<=y):=by
 have:=List.pairwise_mergeSort (le:=fun x y:Int=>decide (x<=y)) (fun a b c h1 h2=>by simp only[decide_eq_true_eq]at *;omega) (fun a b=>by simp only[aiw,decide_eq_true_eq];omega) l;exact this.imp fun h=>by simpa using h
theorem V5:∀ {l m:List Int},l.Perm m->l.Pairwise (fun x y=>x<=y)->m.Pairwise (fun x y=>x<=y)->l=m:=fun O h1 h2=>List.Perm.eq_of_pairwise (le:=fun x y:Int=>x<=y) (fun a b _ _ h1 h2=>by omega) h1 h2 O
theorem D9 {l:List Int} (hl:l.length<=100) (n:Nat):∃b,jt l (n:Int)=some b∧(b=true↔l.Perm (yC n)):=by
 unfold jt mQ cG KL BV;rw[aiv,if_pos (by omega),aiv];have aa:=oG l;have O:l.Perm (yC n)↔nN l=yC n:=⟨fun h=>V5 ((E1 l).trans h) (Kx l) (PF n),fun h=>h ▸ (E1 l).symm⟩;rw[O];rw[pD (nN l) (fun i x=>if (i:Int)=x then none else some false) (by omega) (fun i x Z =>?_) (by simp only[lF];rw[if_neg (by simp)])];rotate_left
 ·have hi:=bo Z;simp only[lF];rw[if_pos (by simpa using hi),bP Z,aiv,ck (by omega)]
  by_cases h:(i:Int)=x
  ·rw[if_neg (by simp[h]),if_pos h]
  ·rw[if_pos (by simpa using h),if_neg h]
 rw[aiv];cases hf:dP (fun (i:Nat) (x:Int)=>if (i:Int)=x then none else some false) 0 (nN l) with
 | some q =>
  obtain⟨j,x,h1,h2,_⟩:=dG hf;rw[ahE]at h2;split at h2
  ·cases h2
  ·rename_i U;cases h2;refine⟨false,rfl,?_⟩;simp only[ahp,false_iff];intro he;rw[he]at h1;have Y:=bo h1;rw[Fl]at Y;rw[PE Y]at h1;exact U (Option.some.inj h1)
 | none =>
  have X:∀(j:Nat) x,(nN l)[j]? = some x->(j:Int)=x:=fun j x h=>by
   have:=b7.1 hf j x h;rw[ahE]at this;split at this
   ·assumption
   ·cases this
  refine⟨_,rfl,?_⟩;rw[beq_iff_eq];constructor
  ·intro h;apply ai2;intro j
   by_cases Y:j<n
   ·have hg:(nN l)[j]? = some ((nN l)[j]'(by omega)):=ag2 _;rw[PE Y,hg,<- X j _ hg]
   ·rw[aix (by omega),aix (by rw[Fl];omega)]
  ·intro h;rw[h,Fl]
structure s5 (m:bY) (ports:Nat):Prop where
 flow:B0 m.ao
 takes:((m.ao.al.filter fun x=>x.bl==1).map (·.aQ)).Perm (yC m.a7.length)
 gives:((m.ao.aJ.filter fun x=>x.bl==0).map (·.aQ)).Perm (yC m.aA.length)
 uses:∀u∈m.a7,(0<=u.bT∧u.bT<ports)∧1<=u.aN∧u.aN<=1099511627776
 ports:∀p∈m.aA,0<=p∧p<(ports:Int)
theorem Pz {m:bY} (h:m.ao.al.length<=100):aS (kT m) ((0:Int),[])=some ((m.ao.al.filter fun x=>x.bl==1).map (·.aQ)):=by
 have key:=fun U O=>yW (body:=kT m) m.ao.al (by omega) (fun i (l:List Int)=>l=((m.ao.al.take i).filter fun x=>x.bl==1).map (·.aQ)) (fun l=>l=(m.ao.al.filter fun x=>x.bl==1).map (·.aQ)) (s0:=[]) rfl U O;refine (key ?_ ?_).elim fun x ⟨h1,hx⟩=>hx ▸ h1
 ·rintro i x _ hx rfl;have hi:=bo hx;have X:m.ao.al.take (i+1)=m.ao.al.take i++[x]:=by
   obtain⟨Y,he⟩:=ahi.1 hx;rw[ajE Y,he]
  have Z:=ajH (fun x:fI=>x.bl==1) (m.ao.al.take i);rw[ag8]at Z;refine⟨_,?_,rfl⟩;simp only[kT];rw[if_pos (by simpa using hi),bP hx,aiv,ck (by omega),X,ajI]
  by_cases hk:x.bl=1
  ·rw[if_pos (by simpa using hk),wg (by rw[ahj];simp only[List.length_cons,List.length_nil];omega),aiv,ajJ (by simpa using hk),ain];rfl
  ·rw[if_neg (by simpa using hk),ajK (by simpa using hk)];simp
 ·rintro _ rfl;refine⟨_,?_,rfl⟩;simp only[kT];rw[if_neg (by simp),aiZ]
theorem MZ {m:bY} (h:m.ao.aJ.length<=100):aS (kU m) ((0:Int),[])=some ((m.ao.aJ.filter fun x=>x.bl==0).map (·.aQ)):=by
 have key:=fun U O=>yW (body:=kU m) m.ao.aJ (by omega) (fun i (l:List Int)=>l=((m.ao.aJ.take i).filter fun x=>x.bl==0).map (·.aQ)) (fun l=>l=(m.ao.aJ.filter fun x=>x.bl==0).map (·.aQ)) (s0:=[]) rfl U O;refine (key ?_ ?_).elim fun x ⟨h1,hx⟩=>hx ▸ h1
 ·rintro i x _ hx rfl;have hi:=bo hx;have X:m.ao.aJ.take (i+1)=m.ao.aJ.take i++[x]:=by
   obtain⟨Y,he⟩:=ahi.1 hx;rw[ajE Y,he]
  have Z:=ajH (fun x:s7=>x.bl==0) (m.ao.aJ.take i);rw[ag8]at Z;refine⟨_,?_,rfl⟩;simp only[kU];rw[if_pos (by simpa using hi),bP hx,aiv,ck (by omega),X,ajI]
  by_cases hk:x.bl=0
  ·rw[if_pos (by simpa using hk),wg (by rw[ahj];simp only[List.length_cons,List.length_nil];omega),aiv,ajJ (by simpa using hk),ain];rfl
  ·rw[if_neg (by simpa using hk),ajK (by simpa using hk)];simp
 ·rintro _ rfl;refine⟨_,?_,rfl⟩;simp only[kU];rw[if_neg (by simp),aiZ]
theorem adj (u:fQ) {ports:Nat} (O:ports<=2000):∃b,mw u (ports:Int)=some b∧(b=false↔(0<=u.bT∧u.bT<ports)∧1<=u.aN∧u.aN<=1099511627776):=by
 unfold mw;rw[jU,aiv,gq (by omega)]
 by_cases h1:0<=u.bT∧u.bT<=(ports:Int)-1
 ·rw[decide_eq_true h1,if_neg (by simp),jU,aiv];refine⟨_,rfl,?_⟩
  by_cases h2:1<=u.aN∧u.aN<=1099511627776
  ·rw[decide_eq_true h2];simp;omega
  ·rw[decide_eq_false h2];simp;omega
 ·rw[decide_eq_false h1,if_pos (by simp)];exact⟨true,rfl,by simp;omega⟩
theorem acZ (p:Int) {ports:Nat} (O:ports<=2000):∃b,my p (ports:Int)=some b∧(b=false↔0<=p∧p<ports):=by
 unfold my;rw[jU,aiv,gq (by omega)];refine⟨_,rfl,?_⟩
 by_cases h1:0<=p∧p<=(ports:Int)-1
 ·rw[decide_eq_true h1];simp;omega
 ·rw[decide_eq_false h1];simp;omega
theorem abd {l:List fQ} (hl:l.length<=100) {ports:Nat} (Y:ports<=2000):∃b,bV l (ports:Int)=some b∧(b=false↔∀u∈l,(0<=u.bT∧u.bT<ports)∧1<=u.aN∧u.aN<=1099511627776):=by
 unfold bV cK;rw[pD l (fun i u=>if (0<=u.bT∧u.bT<ports)∧1<=u.aN∧u.aN<=1099511627776 then none else some (i:Int)) (by omega) (fun i x U =>?_) (by simp only[db];rw[if_neg (by simp)])];rotate_left
 ·have Z:=bo U;obtain⟨b,b1,O⟩:=adj x Y;simp only[db];rw[if_pos (by simpa using Z),bP U,aiv,b1,aiv,ck (by omega)];cases b with
  | false=>rw[if_pos (O.1 rfl)];rfl
  | true =>
   simp only[ajN,false_iff]at O;simp only[if_true];rw[if_neg O]
 cases X:dP (fun (i:Nat) (u:fQ)=>if (0<=u.bT∧u.bT<ports)∧1<=u.aN∧u.aN<=1099511627776 then none else some (i:Int)) 0 l with
 | none =>
  refine⟨false,rfl,?_⟩;simp only[true_iff];intro u hu;obtain⟨j,hj⟩:=ahb hu;have:=b7.1 X j u hj;split at this
  ·assumption
  ·cases this
 | some q =>
  obtain⟨j,x,h1,h2,_⟩:=dG X;split at h2
  ·cases h2
  ·rename_i hbad;cases h2;refine⟨true,by simp,?_⟩;simp only[ajN,false_iff];exact fun h=>hbad (h x (ahh h1))
theorem aaZ {l:List Int} (hl:l.length<=100) {ports:Nat} (Y:ports<=2000):∃b,bW l (ports:Int)=some b∧(b=false↔∀p∈l,0<=p∧p<(ports:Int)):=by
 unfold bW cL;rw[pD l (fun i p=>if 0<=p∧p<(ports:Int) then none else some (i:Int)) (by omega) (fun i x U =>?_) (by simp only[dc];rw[if_neg (by simp)])];rotate_left
 ·have Z:=bo U;obtain⟨b,b1,O⟩:=acZ x Y;simp only[dc];rw[if_pos (by simpa using Z),bP U,aiv,b1,aiv,ck (by omega)];cases b with
  | false=>rw[if_pos (O.1 rfl)];rfl
  | true =>
   simp only[ajN,false_iff]at O;simp only[if_true];rw[if_neg O]
 cases X:dP (fun (i:Nat) (p:Int)=>if 0<=p∧p<(ports:Int) then none else some (i:Int)) 0 l with
 | none =>
  refine⟨false,rfl,?_⟩;simp only[true_iff];intro u hu;obtain⟨j,hj⟩:=ahb hu;have:=b7.1 X j u hj;split at this
  ·assumption
  ·cases this
 | some q =>
  obtain⟨j,x,h1,h2,_⟩:=dG X;split at h2
  ·cases h2
  ·rename_i hbad;cases h2;refine⟨true,by simp,?_⟩;simp only[ajN,false_iff];exact fun h=>hbad (h x (ahh h1))
theorem aa0 {m:bY} {ports:Nat} (U:ports<=2000) (O:oI m.ao) (hu:m.a7.length<=6) (aa:m.aA.length<=6):∃b,qZ m (ports:Int)=some b∧(b=true↔s5 m ports):=by
 have hs:=O.srcs;have ho:=O.outs;obtain⟨b1,a1,c1⟩:=Kp O;unfold qZ;rw[a1,aiv];cases b1 with
 | false=>exact⟨false,rfl,by simp only[ahp,false_iff];exact fun h=>by have:=c1.2 h.flow;cases this⟩
 | true =>
 have hQ:=c1.1 rfl;have ab:=ajH (fun x:fI=>x.bl==1) m.ao.al;have ad:=ajH (fun x:s7=>x.bl==0) m.ao.aJ;obtain⟨b2,a2,c2⟩:=D9 (l:=(m.ao.al.filter fun x=>x.bl==1).map (·.aQ)) (by rw[ahj];omega) m.a7.length;obtain⟨b3,a3,X⟩:=D9 (l:=(m.ao.aJ.filter fun x=>x.bl==0).map (·.aQ)) (by rw[ahj];omega) m.aA.length;obtain⟨b4,a4,Y⟩:=abd (l:=m.a7) (by omega) U;obtain⟨b5,a5,Z⟩:=aaZ (l:=m.aA) (by omega) U;simp only[ail,ahp,if_false];rw[Pz (by omega),aiv,MZ (by omega),aiv,a2,aiv];cases b2 with
 | false=>exact⟨false,rfl,by simp only[ahp,false_iff];exact fun h=>by have:=c2.2 h.takes;cases this⟩
 | true =>
 simp only[if_true];rw[a3,aiv];cases b3 with
 | false=>exact⟨false,rfl,by simp only[ahp,false_iff];exact fun h=>by have:=X.2 h.gives;cases this⟩
 | true =>
 simp only[if_true];rw[a4,aiv];cases b4 with
 | true=>exact⟨false,rfl,by simp only[ahp,false_iff];exact fun h=>by have:=Y.2 h.uses;cases this⟩
 | false =>
 simp only[aiW,if_true];rw[a5,aiv];refine⟨_,rfl,?_⟩;cases b5 with
 | true=>simp only[ail,ahp,false_iff];exact fun h=>by have:=Z.2 h.ports;cases this
 | false=>simp only[aiW,true_iff];exact⟨hQ,c2.1 rfl,X.1 rfl,Y.1 rfl,Z.1 rfl⟩
theorem ac0 {l:List aw} (hl:l.length<=8):(aS (eo l) 0=some (.inl ())∧∀x∈l,x.cv.aa.length<=4∧x.cu.aa.length<=4)∨aS (eo l) 0=some (.inr false):=by
 have U:=pD l (body:=eo l) (fun (i:Nat) (x:aw)=>if (x.cv.aa.length:Int)<=4∧(x.cu.aa.length:Int)<=4 then none else some false) (by omega) (fun i x O=>by
  have Y:=bo O;simp only[eo];rw[if_pos (by simpa using Y),bP O,aiv,ad4,aiv,ck (by omega)]
  by_cases h:(x.cv.aa.length:Int)<=4∧(x.cu.aa.length:Int)<=4
  ·rw[decide_eq_true h,if_neg (by simp),if_pos h]
  ·rw[decide_eq_false h,if_pos (by simp),if_neg h]) (by simp only[eo];rw[if_neg (by simp)])
 rw[U];cases X:dP (fun (i:Nat) (x:aw)=>if (x.cv.aa.length:Int)<=4∧(x.cu.aa.length:Int)<=4 then none else some false) 0 l with
 | none =>
  refine .inl ⟨rfl,fun x O =>?_⟩;obtain⟨j,Z⟩:=ahb O;have:=b7.1 X j x Z;split at this
  ·omega
  ·cases this
 | some q =>
  obtain⟨j,x,_,h2,_⟩:=dG X;split at h2
  ·cases h2
  ·cases h2;exact .inr rfl
theorem Vl (f:fH):∃b,jx f=some b∧(b=true->oI f):=by
 unfold jx
 by_cases h1:f.al.length<=5
 rotate_left
 ·exact⟨false,by rw[if_pos (by simp;omega)];rfl,fun h=>by cases h⟩
 by_cases h2:f.aJ.length<=5
 rotate_left
 ·exact⟨false,by rw[if_neg (by simp;omega),if_pos (by simp;omega)];rfl,fun h=>by cases h⟩
 by_cases h3:f.aD.length<=8
 rotate_left
 ·exact⟨false,by rw[if_neg (by simp;omega),if_neg (by simp;omega),decide_eq_true (by omega)];rfl,fun h=>by cases h⟩
 rw[if_neg (by simp;omega),if_neg (by simp;omega),decide_eq_false (by omega),aiv,if_neg (by simp)]
 open Classical in
 rw[pD f.aD (fun i l=>if l.length<=8∧∀x∈l,x.cv.aa.length<=4∧x.cu.aa.length<=4 then none else some false) (by omega) (fun i l U =>?_) (by simp only[lL];rw[if_neg (by simp)])];rotate_left
 ·have Y:=bo U;simp only[lL];rw[if_pos (by simpa using Y),bP U,aiv,ck (by omega)]
  by_cases h:l.length<=8
  ·rw[if_neg (by simp;omega)];rcases ac0 h with⟨X,q2⟩|X
   ·rw[X,if_pos ⟨h,q2⟩];rfl
   ·rw[X]
    by_cases hs:∀x∈l,x.cv.aa.length<=4∧x.cu.aa.length<=4
    ·exfalso;have O:=pD l (body:=eo l) (fun (i:Nat) (x:aw)=>(none:Option Bool)) (by omega) (fun i x U=>by
      have Y:=bo U;have:=hs x (ahh U);simp only[eo];rw[if_pos (by simpa using Y),bP U,aiv,ad4,aiv,ck (by omega),decide_eq_true (by omega),if_neg (by simp)]) (by simp only[eo];rw[if_neg (by simp)])
     rw[X]at O;have Z:∀(l:List aw) i,dP (fun _ _=>(none:Option Bool)) i l=none:=by
      intro l
      induction l with
      | nil=>intro i;rfl
      | cons a l ih=>intro i;simp only[dP];exact ih _
     rw[Z]at O;cases O
    ·rw[if_neg (fun h=>hs h.2)];rfl
  ·rw[if_pos (by simp;omega),if_neg (fun h'=>h h'.1)]
 rw[aiv];cases hf:dP (fun (i:Nat) (l:List aw)=>if l.length<=8∧∀x∈l,x.cv.aa.length<=4∧x.cu.aa.length<=4 then none else some false) 0 f.aD with
 | none =>
  refine⟨true,rfl,fun _=>⟨h1,h2,h3,fun l hl =>?_⟩⟩;obtain⟨j,hj⟩:=ahb hl;have:=b7.1 hf j l hj;split at this
  ·assumption
  ·cases this
 | some q =>
  obtain⟨j,x,_,h2,_⟩:=dG hf;split at h2
  ·cases h2
  ·cases h2;exact⟨false,rfl,fun h=>by cases h⟩
structure yK (w:bC):Prop where
 given:w.ah.length<=6
 mills:w.au.length<=5
 mill:∀m∈w.au,oI m.ao∧m.a7.length<=6∧m.aA.length<=6
theorem X4 (w:bC):∃b,vl w=some b∧(b=true->yK w):=by
 unfold vl
 by_cases h1:w.ah.length<=6
 rotate_left
 ·exact⟨false,by rw[if_pos (by simp;omega)];rfl,fun h=>by cases h⟩
 by_cases h2:w.au.length<=5
 rotate_left
 ·exact⟨false,by rw[if_neg (by simp;omega),decide_eq_true (by omega)];rfl,fun h=>by cases h⟩
 rw[if_neg (by simp;omega),decide_eq_false (by omega),aiv,if_neg (by simp)];have O:∀m:bY,∃b,jx m.ao=some b∧(b=true->oI m.ao):=fun m=>Vl m.ao;obtain⟨B,O⟩:=Classical.axiomOfChoice O;rw[pD w.au (fun i m=>if B m=true∧m.a7.length<=6∧m.aA.length<=6 then none else some false) (by omega) (fun i m U =>?_) (by simp only[sk];rw[if_neg (by simp)])];rotate_left
 ·have Y:=bo U;simp only[sk];rw[if_pos (by simpa using Y),bP U,aiv,(O m).1,aiv,ck (by omega)];cases hb:B m with
  | false=>rfl
  | true =>
   simp only[ail,ahp,if_false,true_and]
   by_cases q1:m.a7.length<=6
   ·rw[if_neg (by simp;omega)]
    by_cases q2:m.aA.length<=6
    ·rw[if_neg (by simp;omega),if_pos ⟨q1,q2⟩]
    ·rw[if_pos (by simp;omega),if_neg (fun h=>q2 h.2)]
   ·rw[if_pos (by simp;omega),if_neg (fun h=>q1 h.1)]
 rw[aiv];cases X:dP (fun (i:Nat) (m:bY)=>if B m=true∧m.a7.length<=6∧m.aA.length<=6 then none else some false) 0 w.au with
 | none =>
  refine⟨true,rfl,fun _=>⟨h1,h2,fun m hm =>?_⟩⟩;obtain⟨j,Z⟩:=ahb hm;have:=b7.1 X j m Z;split at this
  ·rename_i h;exact⟨(O m).2 h.1,h.2⟩
  ·cases this
 | some q =>
  obtain⟨j,x,_,h2,_⟩:=dG X;split at h2
  ·cases h2
  ·cases h2;exact⟨false,rfl,fun h=>by cases h⟩
def aaV (w:bC):Option (Int×Int):=dP (fun (i:Nat) (n:Int)=>if 1<=n∧n<=1099511627776 then none else some ((3:Int),(i:Int))) 0 w.ah
theorem QV {w:bC} (h:w.ah.length<=2000):aS (jF w) 0=some (match aaV w with|none =>.inl ()|some r =>.inr r):=by
 refine Eq.trans (pD w.ah (body:=jF w) (fun (i:Nat) (n:Int)=>if 1<=n∧n<=1099511627776 then none else some ((3:Int),(i:Int))) (by omega) (fun i x O =>?_) ?_) ?_
 ·have U:=bo O;simp only[jF];rw[if_pos (by simpa using U),bP O,aiv,jU,aiv,ck (by omega)]
  by_cases h:1<=x∧x<=1099511627776
  ·rw[decide_eq_true h,if_neg (by simp),if_pos h]
  ·rw[decide_eq_false h,if_pos (by simp),if_neg h]
 ·simp only[jF];rw[if_neg (by simp)]
 ·unfold aaV;cases dP (fun (i:Nat) (n:Int)=>if 1<=n∧n<=1099511627776 then none else some ((3:Int),(i:Int))) 0 w.ah<;>rfl
theorem RR {m:bY} {N:Nat} (hN:N<=2000) (hp:m.aA.length<=6) (Z:∀p∈m.aA,0<=p∧p<(N:Int)) (t:Nat->Int) (ht:∀q,q<N->0<=t q∧t q<=1000000) :
  aS (jG m) ((0:Int),(List.range N).map t)=some ((List.range N).map fun q=>t q+(m.aA.count (q:Int):Int)):=by
 have key:=fun U O=>yW (body:=jG m) m.aA (by omega) (fun i (l:List Int)=>l=(List.range N).map fun q=>t q+((m.aA.take i).count (q:Int):Int)) (fun l=>l=(List.range N).map fun q=>t q+(m.aA.count (q:Int):Int)) (s0:=(List.range N).map t)
  (aip fun q _=>by simp) U O
 refine (key ?_ ?_).elim fun x ⟨h1,hx⟩=>hx ▸ h1
 ·rintro i p _ hx rfl;have hi:=bo hx;obtain⟨h1,h2⟩:=Z p (ahh hx);obtain⟨k,rfl⟩:∃k:Nat,p=k:=⟨p.toNat,by omega⟩;have hk:k<N:=by omega
  have hc:∀q:Nat,(m.aA.take i).count (q:Int)<=6:=fun q=>agR (List.count_le_length ..) (by rw[ag8];omega);have aa:=hc k;have X:m.aA.take (i+1)=m.aA.take i++[(k:Int)]:=by
   obtain⟨Y,he⟩:=ahi.1 hx;rw[ajE Y,he]
  have hb:=ht k hk;refine⟨_,?_,rfl⟩;simp only[jG];rw[if_pos (by simpa using hi),bP hx,aiv,bP (dQ _ hk),aiv,ahR,mB,ck (by omega),gq (by omega),X];have:(fun j=>if j=k then t k+((m.aA.take i).count (k:Int):Int)+1 else t j+((m.aA.take i).count (j:Int):Int))=fun q=>t q+((m.aA.take i++[(k:Int)]).count (q:Int):Int):=funext fun q=>by
   rw[List.count_append]
   by_cases hq:q=k
   ·subst hq;rw[if_pos rfl];simp;omega
   ·rw[if_neg hq,List.count_cons_of_ne (by simpa using fun h=>hq (by omega))];simp
  rw[this]
 ·rintro _ rfl;refine⟨_,?_,rfl⟩;simp only[jG];rw[if_neg (by simp),aiZ]
def F4 (q:Nat) (x:Int) (u:fQ):Int:=if u.bT=(q:Int) then (if 1099511627777<x+u.aN then 1099511627777 else x+u.aN) else x
def k9 (q:Nat) (l:List fQ) (x:Int):Int:=l.foldl (F4 q) x
theorem Fm {q:Nat} {x:Int} {u:fQ} (O:0<=x∧x<=1099511627777) (hu:1<=u.aN∧u.aN<=1099511627776):0<=F4 q x u∧F4 q x u<=1099511627777:=by
 unfold F4
 repeat' split
 all_goals omega
theorem qm {q:Nat} : ∀ {l:List fQ} {x:Int},(0<=x∧x<=1099511627777)->(∀u∈l,1<=u.aN∧u.aN<=1099511627776)->0<=k9 q l x∧k9 q l x<=1099511627777
 | [],_,hx,_=>hx
 | u::l,x,hx,h=>qm (l:=l) (x:=F4 q x u) (Fm hx (h u (air ..))) fun v O=>h v (ais _ O)
theorem Wk {m:bY} {N:Nat} (hN:N<=2000) (hp:m.a7.length<=6) (hr:∀u∈m.a7,(0<=u.bT∧u.bT<(N:Int))∧1<=u.aN∧u.aN<=1099511627776) (t:Nat->Int) (ht:∀q,q<N->0<=t q∧t q<=1099511627777) :
  aS (jH m) ((0:Int),(List.range N).map t)=some ((List.range N).map fun q=>k9 q m.a7 (t q)):=by
 have key:=fun X U=>yW (body:=jH m) m.a7 (by omega) (fun i (l:List Int)=>l=(List.range N).map fun q=>k9 q (m.a7.take i) (t q)) (fun l=>l=(List.range N).map fun q=>k9 q m.a7 (t q)) (s0:=(List.range N).map t)
  (aip fun q _=>by simp[k9]) X U
 refine (key ?_ ?_).elim fun x ⟨h1,hx⟩=>hx ▸ h1
 ·rintro i u _ hx rfl;have hi:=bo hx;obtain⟨⟨h1,h2⟩,h3⟩:=hr u (ahh hx);obtain⟨k,O⟩:∃k:Nat,u.bT=k:=⟨u.bT.toNat,by omega⟩;have hk:k<N:=by omega
  have Y:m.a7.take (i+1)=m.a7.take i++[u]:=by
   obtain⟨Z,he⟩:=ahi.1 hx;rw[ajE Z,he]
  have hb:=qm (q:=k) (l:=m.a7.take i) (ht k hk) fun v hv=>(hr v (ahz hv)).2;refine⟨_,?_,rfl⟩;simp only[jH];rw[if_pos (by simpa using hi),bP hx,aiv,O,bP (dQ _ hk),aiv,ahR,mB,ck (by omega),gq (by omega),Y];have:(fun j=>if j=k then (if 1099511627777<k9 k (m.a7.take i) (t k)+u.aN then 1099511627777 else k9 k (m.a7.take i) (t k)+u.aN) else k9 j (m.a7.take i) (t j))=fun q=>k9 q (m.a7.take i++[u]) (t q):=funext fun q=>by
   unfold k9;rw[ajO];simp only[List.foldl_cons,List.foldl_nil]
   by_cases hq:q=k
   ·subst hq;rw[if_pos rfl]
    conv=>rhs;rw[F4]
    rw[if_pos O]
   ·rw[if_neg hq]
    conv=>rhs;rw[F4]
    rw[if_neg (by rw[O];omega)]
  rw[this]
 ·rintro _ rfl;refine⟨_,?_,rfl⟩;simp only[jH];rw[if_neg (by simp),aiZ]
theorem Hr {α ρ:Type} {st:Nat->α->Option ρ} {r:ρ} : ∀ {l:List α} {k i:Nat} {x:α},l[i]? = some x->st (k+i) x=some r->(∀j y,j<i->l[j]? = some y->st (k+j) y=none)->dP st k l=some r
 | [],_,_,_,h,_,_=>by simp at h
 | a::l,k,0,x,h,hs,_=>by
  simp only[List.getElem?_cons_zero,agY]at h;subst h;rw[aho]at hs;simp only[dP,hs]
 | a::l,k,i+1,x,h,hs,O=>by
  have U:=O 0 a (by omega) rfl;rw[aho]at U;simp only[dP,U];refine Hr (k:=k+1) (i:=i) (x:=x) (by simpa using h) (by rw[<- hs];congr 1;omega) fun j y Y X =>?_;have:=O (j+1) y (by omega) (by simpa using X);rw[<- this];congr 1;omega
open Classical in
def JO (N:Nat) (ms:List bY):Option (Int×Int):=dP (fun (i:Nat) (m:bY)=>if s5 m N then none else some ((1:Int),(i:Int))) 0 ms
def RV (ms:List bY) (q:Nat):Int:=ms.foldl (fun x m=>x+(m.aA.count (q:Int):Int)) 0
def PH (ms:List bY) (q:Nat):Int:=ms.foldl (fun x m=>k9 q m.a7 x) 0
theorem Q1 {w:bC} (hW:yK w) :
  (∃r,JO w.ah.length w.au=some r∧aS (iJ w) ((0:Int),List.replicate w.ah.length 0,List.replicate w.ah.length 0)=some (.inr r)) ∨
  (JO w.ah.length w.au=none∧(∀m∈w.au,s5 m w.ah.length)∧aS (iJ w) ((0:Int),List.replicate w.ah.length 0,List.replicate w.ah.length 0)=some (.inl ((List.range w.ah.length).map (RV w.au),(List.range w.ah.length).map (PH w.au)))):=by
 have hg:=hW.given;have hm:=hW.mills;have aa:List.replicate w.ah.length (0:Int)=(List.range w.ah.length).map fun _=>0:=kF (by simp) fun j hj=>by rw[List.getElem?_replicate,if_pos hj]
 obtain⟨q,h1,h2⟩:=dh (body:=iJ w)
  (fun i st=>st=((i:Int),(List.range w.ah.length).map (RV (w.au.take i)),(List.range w.ah.length).map (PH (w.au.take i)))∧(∀m∈w.au.take i,s5 m w.ah.length)∧∀q,(0<=RV (w.au.take i) q∧RV (w.au.take i) q<=6*i)∧0<=PH (w.au.take i) q∧PH (w.au.take i) q<=1099511627777) w.au.length
  (fun q=>(∃r,JO w.ah.length w.au=some r∧q=.inr r)∨(JO w.ah.length w.au=none∧(∀m∈w.au,s5 m w.ah.length)∧q=.inl ((List.range w.ah.length).map (RV w.au),(List.range w.ah.length).map (PH w.au))))
  (s:=((0:Int),List.replicate w.ah.length 0,List.replicate w.ah.length 0)) ⟨by rw[aa];rfl,fun m hm=>by simp at hm,fun q=>by simp[RV,PH]⟩ (jq (by omega)) (by
   rintro i _ hi ⟨rfl,O,hb⟩
   by_cases U:i<w.au.length
   ·have X:w.au[i]? = some w.au[i]:=ag2 U;have Y:w.au.take (i+1)=w.au.take i++[w.au[i]]:=ajE U;generalize w.au[i]=m at X Y;obtain⟨m1,m2,m3⟩:=hW.mill m (ahh X);obtain⟨b,b1,b2⟩:=aa0 (m:=m) (ports:=w.ah.length) (by omega) m1 m2 m3;simp only[iJ];rw[if_pos (by simpa using U),bP X,aiv,b1,aiv];cases b with
    | false =>
     right;refine⟨_,rfl,.inl ⟨_,?_,rfl⟩⟩;unfold JO;refine Hr (i:=i) (x:=m) X ?_ fun j y hj Z =>?_
     ·rw[if_neg (fun h=>by have:=b2.2 h;cases this),ahE]
     ·rw[if_pos (O y (ahh (i:=j) (by rw[List.getElem?_take_of_lt hj];exact Z)))]
    | true =>
     have hQ:=b2.1 rfl;left;refine⟨U,?_⟩;have e1:∀q,RV (w.au.take (i+1)) q=RV (w.au.take i) q+(m.aA.count (q:Int):Int):=fun q=>by rw[Y];unfold RV;rw[ajO];rfl
     have e2:∀q,PH (w.au.take (i+1)) q=k9 q m.a7 (PH (w.au.take i) q):=fun q=>by rw[Y];unfold PH;rw[ajO];rfl
     simp only[ail,ahp,if_false];rw[RR (by omega) m3 hQ.ports _ (fun q _=>by have:=(hb q).1;omega),aiv,Wk (by omega) m2 hQ.uses _ (fun q _=>(hb q).2),aiv,ck (by omega)];refine⟨_,rfl,?_,fun y Z =>?_,fun q =>?_⟩
     ·rw[show RV (w.au.take (i+1))=fun q=>RV (w.au.take i) q+(m.aA.count (q:Int):Int) from funext e1,show PH (w.au.take (i+1))=fun q=>k9 q m.a7 (PH (w.au.take i) q) from funext e2]
     ·rw[Y]at Z;rcases ah7.1 Z with h|h
      ·exact O y h
      ·rw[ahc.1 h];exact hQ
     ·have hc:m.aA.count (q:Int)<=6:=agR (List.count_le_length ..) m3;have h3:=(hb q).1;rw[e1,e2];exact⟨by omega,qm (hb q).2 fun u hu=>(hQ.uses u hu).2⟩
   ·right;have:i=w.au.length:=by omega
    subst this;rw[aiZ]at O ⊢;refine⟨_,by simp only[iJ];rw[if_neg (by simp)],.inr ⟨?_,O,rfl⟩⟩;unfold JO;refine b7.2 fun j y Z =>?_;rw[if_pos (O y (ahh Z))])
 rcases h2 with⟨r,h3,rfl⟩|⟨h3,h4,rfl⟩
 ·exact .inl ⟨r,h3,h1⟩
 ·exact .inr ⟨h3,h4,h1⟩
def aaW (l:List Int):Option (Int×Int):=dP (fun (i:Nat) (x:Int)=>if x=0 then some ((21:Int),(i:Int)) else if 1<x then some (5,(i:Int)) else none) 0 l
def aaX (w:bC) (l:List Int):Option (Int×Int):=dP (fun (i:Nat) (x:Int)=>if w.ah.getD i 0<x then some ((25:Int),(i:Int)) else none) 0 l
theorem RS {l:List Int} (h:l.length<=2000):aS (jI l) 0=some (match aaW l with|none =>.inl ()|some r =>.inr r):=by
 refine Eq.trans (pD l (body:=jI l) (fun (i:Nat) (x:Int)=>if x=0 then some ((21:Int),(i:Int)) else if 1<x then some (5,(i:Int)) else none) (by omega) (fun i x U =>?_) ?_) ?_
 ·have X:=bo U;simp only[jI];rw[if_pos (by simpa using X),bP U,aiv,ck (by omega)]
  by_cases O:x=0
  ·rw[if_pos (by simpa using O),if_pos O]
  ·rw[if_neg (by simpa using O),if_neg O]
   by_cases h1:1<x
   ·rw[if_pos (by simpa using h1),if_pos h1]
   ·rw[if_neg (by simpa using h1),if_neg h1]
 ·simp only[jI];rw[if_neg (by simp)]
 ·unfold aaW;cases dP (fun (i:Nat) (x:Int)=>if x=0 then some ((21:Int),(i:Int)) else if 1<x then some (5,(i:Int)) else none) 0 l<;>rfl
theorem Wl {w:bC} {l:List Int} (h:l.length<=2000) (Z:l.length=w.ah.length):aS (jJ w l) 0=some (match aaX w l with|none =>.inl ()|some r =>.inr r):=by
 refine Eq.trans (pD l (body:=jJ w l) (fun (i:Nat) (x:Int)=>if w.ah.getD i 0<x then some ((25:Int),(i:Int)) else none) (by omega) (fun i x U =>?_) ?_) ?_
 ·have X:=bo U;have Y:w.ah[i]? = some (w.ah.getD i 0):=by rw[ahs,ag2 (by omega)];rfl
  simp only[jJ];rw[if_pos (by simpa using X),bP U,aiv,bP Y,aiv,ck (by omega)]
  by_cases O:w.ah.getD i 0<x
  ·rw[if_pos (decide_eq_true O),if_pos O]
  ·rw[if_neg (by rw[decide_eq_true_eq];exact O),if_neg O]
 ·simp only[jJ];rw[if_neg (by simp)]
 ·unfold aaX;cases dP (fun (i:Nat) (x:Int)=>if w.ah.getD i 0<x then some ((25:Int),(i:Int)) else none) 0 l<;>rfl
def Dd (w:bC):Option (Int×Int):=(((aaV w).or (JO w.ah.length w.au)).or (aaW ((List.range w.ah.length).map (RV w.au)))).or (aaX w ((List.range w.ah.length).map (PH w.au)))
theorem Xr {w:bC} (O:yK w):mu w=some ((Dd w).getD (0,0)):=by
 have U:=O.given;have hm:=O.mills;unfold mu Dd;rw[if_neg (by simp;omega),decide_eq_false (by omega),aiv,if_neg (by simp),QV (by omega),aiv];cases aaV w with
 | some r=>rfl
 | none =>
 simp only[Option.none_or];rw[N4 _ (by omega) (by omega),aiv];rcases Q1 O with⟨r,h1,h2⟩|⟨h1,_,h2⟩
 ·rw[h2,h1];rfl
 rw[h2,h1,aiv];simp only[Option.none_or];rw[RS (by simp;omega),aiv];cases aaW ((List.range w.ah.length).map (RV w.au)) with
 | some r=>rfl
 | none =>
 simp only[Option.none_or];rw[Wl (by simp;omega) (by simp),aiv];cases aaX w ((List.range w.ah.length).map (PH w.au))<;>rfl
section
variable {κ α:Type} [DecidableEq κ]
theorem pk {n:κ} : ∀ {m:List (κ×α)},lh m n=true↔n∈m.map (·.1)
 | []=>by simp[lh]
 | (k,v)::m=>by
  simp only[lh,agV,agW]
  by_cases h:k=n
  ·subst h;simp
  ·have:=pk (n:=n) (m:=m);simp[h,this,Ne.symm h]
theorem zG {n:κ} {x:α} : ∀ {m:List (κ×α)},(pz m n x).map (·.1)=if lh m n=true then m.map (·.1) else m.map (·.1)++[n]
 | []=>by simp[pz,lh]
 | (k,v)::m=>by
  have O:=zG (n:=n) (x:=x) (m:=m);simp only[pz,lh]
  by_cases h:k=n
  ·subst h;simp
  ·simp only[if_neg h,agV];rw[O];split<;>simp_all
theorem Rl {n:κ} {x:α} {m:List (κ×α)} (h:(m.map (·.1)).Nodup):((pz m n x).map (·.1)).Nodup:=by
 rw[zG];split
 ·exact h
 ·rename_i hn;have hn:n∉m.map (·.1):=fun O=>hn (pk.2 O);rw[List.nodup_append];exact⟨h,by simp,fun a U b X=>by
   rw[ahc.1 X];intro e;subst e;exact hn U⟩
theorem Ir {z x:α} {n k:κ} : ∀ {m:List (κ×α)},fl z (pz m n x) k=if k=n then x else fl z m k
 | []=>by
  simp only[pz,fl]
  by_cases h:n=k
  ·rw[if_pos h,if_pos h.symm]
  ·rw[if_neg h,if_neg (fun e=>h e.symm)]
 | (a,v)::m=>by
  have O:=Ir (z:=z) (x:=x) (n:=n) (k:=k) (m:=m);simp only[pz]
  by_cases h:a=n
  ·rw[if_pos h];simp only[fl]
   by_cases hk:a=k
   ·rw[if_pos hk,if_pos (by rw[<- hk,h])]
   ·rw[if_neg hk,if_neg (fun e=>hk (by rw[e,h])),if_neg hk]
  ·rw[if_neg h];simp only[fl]
   by_cases hk:a=k
   ·rw[if_pos hk,if_neg (fun e=>h (by rw[hk,e])),if_pos hk]
   ·rw[if_neg hk,O,if_neg hk]
theorem NT {z:α} {k:κ} {v:α} : ∀ {m:List (κ×α)},(m.map (·.1)).Nodup->((k,v)∈m↔lh m k=true∧fl z m k=v)
 | [],_=>by simp[lh]
 | (a,x)::m,h=>by
  rw[agV,aiA]at h;have O:=NT (z:=z) (k:=k) (v:=v) (m:=m) h.2;simp only[lh,fl,agW,Prod.mk.injEq]
  by_cases hk:a=k
  ·subst hk;have U:(a,v)∉m:=fun hm=>h.1 (agO.2 ⟨_,hm,rfl⟩);simp[U,eq_comm]
  ·simp[hk,O,Ne.symm hk]
end
abbrev MQ:=List ((Int×Int)×Rat)
def jd (m:MQ):List ((Int×Int)×aw):=m.map fun p=>(p.1,fh p.2)
theorem DV (m:MQ):(jd m).length=m.length:=ahj ..
theorem VH (m:MQ):(jd m).map (·.1)=m.map (·.1):=by unfold jd;rw[ajG];rfl
theorem NY (m:MQ) (k:Int×Int):lh (jd m) k=lh m k:=by
 induction m with
 | nil=>rfl
 | cons p m O =>
  obtain⟨a,v⟩:=p;rw[show jd ((a,v)::m)=(a,fh v)::jd m from rfl];simp only[lh,O]
theorem VI {z:aw} {m:MQ} {k:Int×Int} (h:lh m k=true):fl z (jd m) k=fh (fl 0 m k):=by
 induction m with
 | nil=>cases h
 | cons p m O =>
  obtain⟨a,v⟩:=p;show (if a=k then fh v else fl z (jd m) k)=fh (if a=k then v else fl 0 m k)
  by_cases hk:a=k
  ·rw[if_pos hk,if_pos hk]
  ·rw[if_neg hk,if_neg hk];exact O (by simpa [lh,hk] using h)
theorem NZ (m:MQ) (k:Int×Int) (q:Rat):pz (jd m) k (fh q)=jd (pz m k q):=by
 induction m with
 | nil=>rfl
 | cons p m O =>
  obtain⟨a,v⟩:=p;show (if a=k then (a,fh q)::jd m else (a,fh v)::pz (jd m) k (fh q))=jd (if a=k then (a,q)::m else (a,v)::pz m k q)
  by_cases hk:a=k
  ·rw[if_pos hk,if_pos hk];rfl
  ·rw[if_neg hk,if_neg hk,O];rfl
theorem aa3 {m:MQ} {k:Int×Int} (h:lh m k=false):fl 0 m k=0:=by
 induction m with
 | nil=>rfl
 | cons p m O =>
  obtain⟨a,v⟩:=p;simp only[lh,Bool.or_eq_false_iff,beq_eq_false_iff_ne]at h;simp only[fl];rw[if_neg h.1,O h.2]
def jj (m:MQ) (c:(Int×Int)×Rat):MQ:=pz m c.1 (fl 0 m c.1+c.2)
theorem UY (m:MQ) (c:(Int×Int)×Rat) (k:Int×Int):fl 0 (jj m c) k=fl 0 m k+(if k=c.1 then c.2 else 0):=by
 unfold jj;rw[Ir]
 by_cases h:k=c.1
 ·rw[if_pos h,if_pos h,h]
 ·rw[if_neg h,if_neg h];grind
def kL (k:Int×Int):List ((Int×Int)×Rat)->Rat
 | []=>0
 | c::l=>(if k=c.1 then c.2 else 0)+kL k l
theorem yV:∀(l:List ((Int×Int)×Rat)) (m:MQ) (k:Int×Int),fl 0 (l.foldl jj m) k=fl 0 m k+kL k l
 | [],m,k=>by simp only[List.foldl_nil,kL];grind
 | c::l,m,k=>by
  rw[ahD,yV l,UY];simp only[kL];grind
theorem wy:∀(l:List ((Int×Int)×Rat)) (m:MQ),(m.map (·.1)).Nodup->((l.foldl jj m).map (·.1)).Nodup
 | [],_,h=>h
 | c::l,m,h=>wy l (jj m c) (Rl h)
theorem afS {p q:Int} (O : -9223372036854775808<=p∧p<9223372036854775808) (U : -9223372036854775808<=q∧q<9223372036854775808) (X:q≠0):u9 p q=some (fh (Rat.divInt p q),0):=by
 unfold u9;rw[Si O,aiv,Si U,aiv,P5 (Js O) (Js U) X,aiv]
open Classical in
def adp (f:aw):Rat:=if h:∃q,f=fh q then Classical.choose h else 0
theorem Ko (q:Rat):adp (fh q)=q:=by
 have h:∃p,fh q=fh p:=⟨q,rfl⟩;unfold adp;rw[dif_pos h];exact (va (Classical.choose_spec h)).symm
def II (f:fH) (k i:Nat):Rat:=adp ((f.aD.getD k []).getD i (aw.mk (aB.mk 0 ([])) (aB.mk 0 ([]))))
theorem uq {f:fH} (hF:oI f) (hQ:B0 f) {k i:Nat} (hk:k<f.aJ.length) (hi:i<f.al.length) :
  ∃row,f.aD[k]? = some row∧row[i]? = some (fh (II f k i))∧0<=II f k i∧LF (II f k i)<=4:=by
 have X:k<f.aD.length:=by rw[hQ.rows];exact hk
 have Z:f.aD[k]? = some (f.aD[k]):=ag2 X;have hm:=ag1 X;have hd:f.aD.getD k []=f.aD[k]:=by rw[ahs,Z];rfl
 have hl:=hQ.row _ hm;have hs:=(hF.row _ hm).2;unfold II;rw[hd];have O:(xq f i)[k]? = some ((f.aD[k][i]?).getD (aw.mk (aB.mk 0 ([])) (aB.mk 0 ([])))):=by
  unfold xq;rw[agM,Z];rfl
 generalize f.aD[k]=row at Z hm hl hs O ⊢;have U:row[i]? = some (row[i]'(by omega)):=ag2 _;have hx:=hs _ (ahh U);have aa:row.getD i (aw.mk (aB.mk 0 ([])) (aB.mk 0 ([])))=row[i]'(by omega):=by rw[ahs,U];rfl
 rw[U]at O;rw[aa];obtain⟨qs,h1,h2,_⟩:=hQ.col i hi;rw[h1]at O;rw[agM]at O;obtain⟨q,ab,Y⟩:=agN.1 O;simp only[Option.getD_some]at Y;rw[<- Y]at U hx ⊢;refine⟨row,Z,?_,?_,?_⟩
 ·rw[Ko];exact U
 ·rw[Ko];exact h2 q (ahh ab)
 ·rw[Ko];exact BB hx.1 hx.2
theorem V3 {f:fH} (hF:oI f) (O:B0 f) {i:Nat} (Y:i<f.al.length):lj ((List.range f.aJ.length).map fun k=>II f k i)=1:=by
 obtain⟨Z,h1,_,h3⟩:=O.col i Y;have:Z=(List.range f.aJ.length).map fun k=>II f k i:=by
  have hlen:Z.length=f.aJ.length:=by
   have:=congrArg List.length h1;unfold xq at this;simp only[ahj]at this;rw[<- O.rows];exact this.symm
  refine kF hlen fun j hj =>?_;obtain⟨row,r1,r2,_,_⟩:=uq hF O hj Y;have hc:(xq f i)[j]? = some (fh (II f j i)):=by
   unfold xq;rw[agM,r1,agX,r2];rfl
  rw[h1,agM]at hc;obtain⟨q,U,X⟩:=agN.1 hc;rw[U,va X]
 rw[<- this];exact h3
abbrev xh:=(Int×Int)×Rat
def te (m:bY) (i:Nat) (u:fQ) (r:Rat) (k:Nat):List xh :=
 match m.ao.aJ[k]? with
 | some y=>if y.bl=0∧II m.ao k i≠0 then [((u.bT,m.aA.getD y.aQ.toNat 0),r*II m.ao k i)] else []
 | none=>[]
def La (g:List Int) (u:fQ):Rat:=Rat.divInt u.aN (g.getD u.bT.toNat 0)
def nI (m:bY) (n:Int):fQ:=m.a7.getD n.toNat (fQ.mk 0 0)
def yO (g:List Int) (m:bY) (i:Nat):List xh :=
 match m.ao.al[i]? with
 | some x=>if x.bl=1 then (List.range m.ao.aJ.length).flatMap (te m i (nI m x.aQ) (La g (nI m x.aQ))) else []
 | none=>[]
def lr (g:List Int) (m:bY):List xh:=(List.range m.ao.al.length).flatMap (yO g m)
def pJ (w:bC):List xh:=w.au.flatMap (lr w.ah)
theorem Sf:LF 0<=1:=Jp (n:=0) (by decide)
theorem Jr {K:Nat} {k:Int×Int} : ∀ {l:List xh},(∀c∈l,LF c.2<=K)->LF (kL k l)<=1+l.length*(K+1)
 | [],_=>by simp only[kL];have:=Sf;simp;omega
 | c::l,h=>by
  have U:=Jr (k:=k) (l:=l) fun x O=>h x (ais _ O);have h1:=h c (air ..);simp only[kL,List.length_cons];have h2:=Jo (if k=c.1 then c.2 else 0) (kL k l);have h3:LF (if k=c.1 then c.2 else 0)<=max K 1:=by
   split
   ·omega
   ·have:=Sf;omega
  have h4:=Jo 0 (kL k l);rw[ahO]
  by_cases hk:k=c.1
  ·rw[if_pos hk]at h2 ⊢;omega
  ·rw[if_neg hk,show (0:Rat)+kL k l=kL k l by grind];omega
theorem abi {z:aw} {M:MQ} {k:Int×Int} {v:Rat} {K:Nat} (h:LF (fl 0 M k)<=K) (X:LF v<=K) (Y:K<=1000000000) :
  (lh (jd M) k=true->oc (fl z (jd M) k) (fh v)=some (fh (fl 0 M k+v))∧pz (jd M) k (fh (fl 0 M k+v))=jd (jj M (k,v)))∧(lh (jd M) k=false->pz (jd M) k (fh v)=jd (jj M (k,v))):=by
 have U:eQ=4398046511104:=rfl;constructor
 ·intro O;rw[NY]at O;rw[VI O,abS (by omega),NZ];exact⟨rfl,rfl⟩
 ·intro O;rw[NY]at O;rw[NZ];unfold jj;rw[aa3 O,show (0:Rat)+v=v by grind]
theorem MY {m:bY} {N:Nat} (O:s5 m N) {y:s7} (U:y∈m.ao.aJ) (X:y.bl=0):∃j:Nat,y.aQ=j∧j<m.aA.length:=by
 have:y.aQ∈yC m.aA.length:=O.gives.mem_iff.1 (agO.2 ⟨y,aiy.2 ⟨U,by simpa using X⟩,rfl⟩);unfold yC at this;obtain⟨j,h1,h2⟩:=agO.1 this;exact⟨j,h2.symm,aiB.1 h1⟩
theorem aaa {m:bY} {N:Nat} (O:s5 m N) {x:fI} (U:x∈m.ao.al) (h1:x.bl=1):∃j:Nat,x.aQ=j∧j<m.a7.length:=by
 have:x.aQ∈yC m.a7.length:=O.takes.mem_iff.1 (agO.2 ⟨x,aiy.2 ⟨U,by simpa using h1⟩,rfl⟩);unfold yC at this;obtain⟨j,h1,h2⟩:=agO.1 this;exact⟨j,h2.symm,aiB.1 h1⟩
structure Fx (n:Nat) (h:List xh):Prop where
 len:h.length<=n
 sz:∀c∈h,LF c.2<=20
theorem Fx.look {n:Nat} {h:List xh} (H:Fx n h) (k:Int×Int):LF (fl 0 (h.foldl jj []) k)<=1+n*21:=by
 rw[yV,show fl 0 ([]:MQ) k=0 from rfl,show (0:Rat)+kL k h=kL k h by grind];have h1:=Jr (k:=k) H.sz;have h2:=H.len;have h3:=ahC 21 h2;omega
theorem Fx.app {n a:Nat} {h l:List xh} (H:Fx n h) (U:l.length<=a) (hs:∀c∈l,LF c.2<=20):Fx (n+a) (h++l) :=
 ⟨by rw[ah1];have:=H.len;omega,fun c O=>(ah7.1 O).elim (H.sz c) (hs c)⟩
theorem Lb (m:bY) (i:Nat) (u:fQ) (r:Rat) (k:Nat):(te m i u r k).length<=1:=by
 unfold te;split
 ·split<;>simp
 ·simp
theorem mW {α:Type} {f:Nat->List α} {b:Nat} (h:∀i,(f i).length<=b):∀n,((List.range n).flatMap f).length<=n*b
 | 0=>by simp
 | n+1=>by
  have:=mW h n;have h2:=h n;rw[ajM,List.flatMap_append,ah1,ahO];simp only[aiq,List.flatMap_nil,aiP];omega
theorem Hy {α:Type} {f:Nat->List α} (n:Nat):(List.range (n+1)).flatMap f=(List.range n).flatMap f++f n:=by
 rw[ajM,List.flatMap_append];simp
theorem aaI {m:bY} {i:Nat} {u:fQ} {r:Rat} {k:Nat} (U:oI m.ao) (X:B0 m.ao) (Y:i<m.ao.al.length) (hr:LF r<=10):∀c∈te m i u r k,LF c.2<=20:=by
 intro c O;unfold te at O;split at O
 ·rename_i y Z;split at O
  ·rw[ahc.1 O];obtain⟨_,_,_,_,h4⟩:=uq U X (bo Z) Y;have:=PZ r (II m.ao k i);simp only;omega
  ·cases O
 ·cases O
theorem T1 {m:bY} {i:Nat} {u:fQ} {r:Rat} {n:Nat} (O:oI m.ao) (U:B0 m.ao) (X:i<m.ao.al.length) (Y:LF r<=10):∀c∈(List.range n).flatMap (te m i u r),LF c.2<=20:=by
 intro c Z;obtain⟨k,_,hk⟩:=aio.1 Z;exact aaI O U X Y c hk
theorem VT {m:bY} {N i n:Nat} {u:fQ} {r:Rat} {h:List xh} (X:oI m.ao) (Y:s5 m N) (hi:i<m.ao.al.length) (hr:LF r<=10) (H:Fx n h) (hn:n<=1000) :
  aS (gn m (i:Int) u (fh r,0)) ((0:Int),jd (h.foldl jj []))=some (jd ((h++(List.range m.ao.aJ.length).flatMap (te m i u r)).foldl jj [])):=by
 have ab:eQ=4398046511104:=rfl;have ho:=X.outs;have key:=fun Z O=>yW (body:=gn m (i:Int) u (fh r,0)) m.ao.aJ (by omega)
  (fun k (c:List ((Int×Int)×aw))=>c=jd ((h++(List.range k).flatMap (te m i u r)).foldl jj [])) (fun c=>c=jd ((h++(List.range m.ao.aJ.length).flatMap (te m i u r)).foldl jj [])) (s0:=jd (h.foldl jj [])) (by simp) Z O
 refine (key ?_ ?_).elim fun x ⟨h1,hx⟩=>hx ▸ h1
 ·rintro k x _ hx rfl;have hk:=bo hx;have hl:=mW (fun k=>Lb m i u r k) k;have H2:=H.app (a:=k) (by omega) (T1 (u:=u) (n:=k) X Y.flow hi hr);obtain⟨row,r1,r2,r3,r4⟩:=uq X Y.flow hk hi;rw[Hy,<- aid];generalize h++(List.range k).flatMap (te m i u r)=h2 at H2;have aa:=H2.look;have hc:te m i u r k=if x.bl=0∧II m.ao k i≠0 then [((u.bT,m.aA.getD x.aQ.toNat 0),r*II m.ao k i)] else []:=by unfold te;rw[hx]
  refine⟨_,?_,rfl⟩;simp only[gn];rw[if_pos (by simpa using hk),bP hx,aiv,ck (by omega),hc]
  by_cases h0:x.bl=0
  ·rw[if_neg (by simp[h0]),bP r1,aiv,bP r2,aiv,Ca (by omega),aiv,aiv]
   by_cases hz:II m.ao k i=0
   ·rw[if_pos (by rw[beq_iff_eq];exact yt.2 hz),if_neg (fun hh=>hh.2 hz),aiP]
   ·obtain⟨j,j1,j2⟩:=MY Y (ahh hx) h0;have hp:m.aA[j]? = some (m.aA.getD x.aQ.toNat 0):=by rw[j1,ahR,ahs,ag2 j2];rfl
    have ad:=PZ r (II m.ao k i);rw[if_neg (by rw[beq_iff_eq];exact fun hh=>hz (yt.1 hh)),if_pos ⟨h0,hz⟩];rw[show P.idx m.aA x.aQ=some (m.aA.getD x.aQ.toNat 0) by rw[j1]at hp ⊢;exact bP hp];rw[aiv,aiv,bP r2,aiv,abH (by omega),aiv];have U:=abi (z:=aw.mk (aB.mk 0 ([])) (aB.mk 0 ([]))) (M:=h2.foldl jj []) (k:=(u.bT,m.aA.getD x.aQ.toNat 0)) (v:=r*II m.ao k i) (K:=20+(n+k)*21) (agR (aa _) (by omega)) (by omega) (by omega);cases hh:lh (jd (h2.foldl jj [])) (u.bT,m.aA.getD x.aQ.toNat 0) with
    | false =>
     rw[if_neg (by simp),U.2 hh,ajO];rfl
    | true =>
     have h5:=U.1 hh;rw[if_pos rfl];erw [h5.1];rw[aiv,h5.2,ajO];rfl
  ·rw[if_pos (by simpa using h0),aiv,if_pos rfl,if_neg (fun hh=>h0 hh.1),aiP]
 ·rintro _ rfl;refine⟨_,?_,rfl⟩;simp only[gn];rw[if_neg (by simp)]
theorem aay {x:Int} (h1:1<=x) (h2:x<=1099511627776):Ln x<=3:=KW (by rw[ij,ij,ij,mP];omega)
def wc (g:List Int):Prop:=∀x∈g,1<=x∧x<=1099511627776
theorem MX {g:List Int} (U:wc g) {p:Int} (h:0<=p∧p<(g.length:Int)):∃j:Nat,p=j∧j<g.length∧g[j]? = some (g.getD p.toNat 0)∧1<=g.getD p.toNat 0∧g.getD p.toNat 0<=1099511627776:=by
 obtain⟨j,rfl⟩:∃j:Nat,p=j:=⟨p.toNat,by omega⟩;have O:j<g.length:=by omega
 have h1:g[j]? = some (g.getD (j:Int).toNat 0):=by rw[ahR,ahs,ag2 O];rfl
 exact⟨j,rfl,O,h1,U _ (ahh h1)⟩
theorem KJ {m:bY} {N:Nat} (X:s5 m N) {x:fI} (Y:x∈m.ao.al) (h1:x.bl=1):P.idx m.a7 x.aQ=some (nI m x.aQ)∧nI m x.aQ∈m.a7:=by
 obtain⟨j,U,Z⟩:=aaa X Y h1;have O:m.a7[j]? = some (nI m x.aQ):=by unfold nI;rw[U,ahR,ahs,ag2 Z];rfl
 exact⟨by rw[U]at O ⊢;exact bP O,ahh O⟩
theorem Qe {g:List Int} {m:bY} (O:wc g) (U:s5 m g.length) {u:fQ} (hu:u∈m.a7):LF (La g u)<=10∧0<La g u:=by
 obtain⟨h1,h2⟩:=U.uses u hu;obtain⟨j,Z,j2,j3,X,Y⟩:=MX O h1;have a1:=aay h2.1 h2.2;have a2:=aay X Y;unfold La;have a3:=uP (p:=u.aN) (q:=g.getD u.bT.toNat 0) (by omega);refine⟨by omega,?_⟩;rw[ajP,Rat.div_def];exact Rat.mul_pos (by exact_mod_cast (show (0:Int)<u.aN by omega)) (Rat.inv_pos.2 (by exact_mod_cast (show (0:Int)<g.getD u.bT.toNat 0 by omega)))
theorem SK {g:List Int} {m:bY} (Z:wc g) (X:oI m.ao) (O:s5 m g.length) (i:Nat):(yO g m i).length<=5∧∀c∈yO g m i,LF c.2<=20:=by
 unfold yO;split
 ·rename_i x Y;split
  ·rename_i h1;have ho:=X.outs;have hl:=mW (fun k=>Lb m i (nI m x.aQ) (La g (nI m x.aQ)) k) m.ao.aJ.length;refine⟨by omega,T1 X O.flow (bo Y) (Qe Z O (KJ O (ahh Y) h1).2).1⟩
  ·exact⟨by simp,fun c U=>by cases U⟩
 ·exact⟨by simp,fun c U=>by cases U⟩
theorem Ue {g:List Int} {m:bY} (O:wc g) (U:oI m.ao) (X:s5 m g.length) (n:Nat):((List.range n).flatMap (yO g m)).length<=n*5∧∀c∈(List.range n).flatMap (yO g m),LF c.2<=20:=by
 refine⟨mW (fun i=>(SK O U X i).1) n,fun c Y =>?_⟩;obtain⟨k,_,hk⟩:=aio.1 Y;exact (SK O U X k).2 c hk
theorem Qg {g:List Int} {m:bY} {n:Nat} {h:List xh} (hg:wc g) (hF:oI m.ao) (O:s5 m g.length) (H:Fx n h) (hn:n<=900) :
  gX (jd (h.foldl jj [])) g m=some (jd ((h++lr g m).foldl jj []),()):=by
 have ab:eQ=4398046511104:=rfl;have hs:=hF.srcs;have key:=fun aa U=>yW (body:=iu g m) m.ao.al (by omega)
  (fun k (c:List ((Int×Int)×aw))=>c=jd ((h++(List.range k).flatMap (yO g m)).foldl jj [])) (fun c=>c=jd ((h++lr g m).foldl jj [])) (s0:=jd (h.foldl jj [])) (by simp) aa U
 unfold gX;refine (key ?_ ?_).elim fun c Z =>?_
 ·rintro i x _ hx rfl;have hi:=bo hx;obtain⟨hl,hz⟩:=Ue hg hF O i;have H2:=H.app (a:=i*5) hl hz;rw[Hy,<- aid];generalize h++(List.range i).flatMap (yO g m)=h2 at H2;have Z:yO g m i=if x.bl=1 then (List.range m.ao.aJ.length).flatMap (te m i (nI m x.aQ) (La g (nI m x.aQ))) else []:=by unfold yO;rw[hx]
  refine⟨_,?_,rfl⟩;simp only[iu];rw[if_pos (by simpa using hi),bP hx,aiv,ck (by omega),Z]
  by_cases h1:x.bl=1
  ·obtain⟨u1,u2⟩:=KJ O (ahh hx) h1;have hb:=Qe hg O u2;obtain⟨p1,p2⟩:=O.uses _ u2;obtain⟨j,j1,j2,j3,j4,j5⟩:=MX hg p1;have X:P.idx g (nI m x.aQ).bT=some (g.getD (nI m x.aQ).bT.toNat 0):=by
    rw[j1]at j3 ⊢;exact bP j3
   rw[if_neg (by simp[h1]),u1,aiv,X,aiv,afS (by omega) (by omega) (by omega),aiv,if_pos h1];have Y:=VT (u:=nI m x.aQ) (r:=La g (nI m x.aQ)) hF O hi hb.1 H2 (by omega);unfold La at Y ⊢;erw [Y];rfl
  ·rw[if_pos (by simpa using h1),if_neg h1,aiP]
 ·rintro _ rfl;refine⟨_,?_,rfl⟩;simp only[iu];rw[if_neg (by simp)];rfl
 ·rw[Z.1,Z.2];rfl
theorem Xe {g:List Int} {m:bY} (U:wc g) (O:oI m.ao) (X:s5 m g.length):(lr g m).length<=25∧∀c∈lr g m,LF c.2<=20:=by
 have:=Ue U O X m.ao.al.length;have hs:=O.srcs;exact⟨by have:=this.1;unfold lr;omega,this.2⟩
theorem WM {m:MQ} {c:xh} {k:Int×Int} : lh (jj m c) k=true↔lh m k=true∨c.1=k:=by
 unfold jj;rw[pk,zG];split
 ·rename_i h;constructor
  ·exact fun h1 =>.inl (pk.2 h1)
  ·rintro (h1|rfl)
   ·exact pk.1 h1
   ·exact pk.1 h
 ·rw[ah7,ahc,eq_comm (a:=k),pk]
theorem MC:∀(l:List xh) (m:MQ) (k:Int×Int),lh (l.foldl jj m) k=true↔lh m k=true∨∃c∈l,c.1=k
 | [],m,k=>by simp
 | c::l,m,k=>by
  rw[ahD,MC l,WM];simp only[agW,exists_eq_or_imp];exact or_assoc
theorem yy {k:Int×Int} : ∀ {l:List xh},(∀c∈l,0<c.2)->0<=kL k l∧(0<kL k l↔∃c∈l,c.1=k)
 | [],_=>⟨by simp only[kL];grind,by simp only[kL];simp⟩
 | c::l,h=>by
  obtain⟨h1,h2⟩:=yy (k:=k) (l:=l) fun x O=>h x (ais _ O);have h3:=h c (air ..);simp only[kL,agW,exists_eq_or_imp]
  by_cases hk:k=c.1
  ·rw[if_pos hk];exact⟨by grind,⟨fun _ =>.inl hk.symm,fun _=>by grind⟩⟩
  ·rw[if_neg hk,show (0:Rat)+kL k l=kL k l by grind,h2];exact⟨h1,⟨.inr,fun h=>h.resolve_left fun e=>hk e.symm⟩⟩
def gZ (N:Nat) (S:Nat->Nat->Rat):List Tk:=(List.range N).flatMap fun a=>((List.range N).filter fun b=>decide (0<S a b)).map fun b=>(a,b,S a b)
theorem xX {N:Nat} {S:Nat->Nat->Rat} {t:Tk} : t∈gZ N S↔t.1<N∧t.2.1<N∧0<S t.1 t.2.1∧t.2.2=S t.1 t.2.1:=by
 unfold gZ;simp only[aio,agO,aiy,aiB,decide_eq_true_eq];constructor
 ·rintro⟨a,O,b,⟨U,hs⟩,rfl⟩;exact⟨O,U,hs,rfl⟩
 ·rintro⟨h1,h2,h3,h4⟩;exact⟨t.1,h1,t.2.1,⟨h2,h3⟩,by rw[<- h4]⟩
theorem KH (N:Nat) (S:Nat->Nat->Rat):(gZ N S).Pairwise Yt:=by
 unfold gZ;rw[List.pairwise_flatMap];constructor
 ·intro a _;rw[ai4];exact (List.Pairwise.filter _ (aiC (n:=N))).imp fun h =>.inr ⟨rfl,h⟩
 ·refine (aiC (n:=N)).imp fun {a b} h x O y U =>?_;obtain⟨_,_,rfl⟩:=agO.1 O;obtain⟨_,_,rfl⟩:=agO.1 U;exact .inl h
theorem PB (N:Nat) (S:Nat->Nat->Rat):(gZ N S).length<=N*N:=by
 unfold gZ;refine mW (fun a =>?_) N;rw[ahj];exact agR (ajH ..) (by simp)
theorem RU {N:Nat} {S U:Nat->Nat->Rat} (h:∀a b,a<N->b<N->S a b=U a b):gZ N S=gZ N U:=by
 unfold gZ;rw[aiu,aiu];congr 1;refine aip fun a O =>?_;have O:=aiB.1 O;rw[List.filter_congr (q:=fun b=>decide (0<U a b)) fun b X=>by rw[h a b O (aiB.1 X)]];refine aip fun b X =>?_;rw[h a b O (aiB.1 (aiy.1 X).1)]
def kX (L:List xh) (a b:Nat):Rat:=kL ((a:Int),(b:Int)) L
structure Wv (N:Nat) (L:List xh):Prop where
 pos:∀c∈L,0<c.2
 from_:∀c∈L,0<=c.1.1∧c.1.1<(N:Int)
 to_:∀c∈L,0<=c.1.2∧c.1.2<(N:Int)
theorem I8 {N:Nat} {L:List xh} (H:Wv N L) :
  nL (jg bJ.cq bJ.iH) ((jd (L.foldl jj [])).map fun q=>bJ.mk q.1.1 q.1.2 q.2)=(gZ N (kX L)).map tY:=by
 have O:((L.foldl jj []).map (·.1)).Nodup:=wy L [] (by simp);have hK:((jd (L.foldl jj [])).map fun q=>bJ.mk q.1.1 q.1.2 q.2)=(L.foldl jj []).map fun p=>bJ.mk p.1.1 p.1.2 (fh p.2):=by unfold jd;rw[ajG];rfl
 rw[hK];have U:∀p:xh,p∈L.foldl jj []↔(∃c∈L,c.1=p.1)∧kL p.1 L=p.2:=by
  rintro⟨k,v⟩;rw[NT (z:=0) O,MC,yV];simp only[lh,fl,ahp,false_or];rw[show (0:Rat)+kL k L=kL k L by grind]
 have X:((L.foldl jj []).map fun p:xh=>bJ.mk p.1.1 p.1.2 (fh p.2)).Nodup:=by
  unfold List.Nodup at O ⊢;rw[ai4]at O ⊢;refine O.imp fun {a b} h e=>h ?_;simp only[bJ.mk.injEq]at e;exact Prod.ext e.1 e.2.1
 have Y:((gZ N (kX L)).map tY).Nodup:=by
  unfold List.Nodup;rw[ai4];refine (KH N (kX L)).imp fun {a b} h e =>?_;have:=TM e;subst this;unfold Yt at h;omega
 have Z:∀x,x∈((L.foldl jj []).map fun p:xh=>bJ.mk p.1.1 p.1.2 (fh p.2))↔x∈(gZ N (kX L)).map tY:=by
  intro x;rw[agO,agO];constructor
  ·rintro⟨p,hp,rfl⟩;obtain⟨h1,h2⟩:=(U p).1 hp;obtain⟨c,c1,c2⟩:=h1;have f1:=H.from_ c c1;have f2:=H.to_ c c1;rw[c2]at f1 f2;have e1:((p.1.1.toNat:Nat):Int)=p.1.1:=by omega
   have e2:((p.1.2.toNat:Nat):Int)=p.1.2:=by omega
   have e3:kX L p.1.1.toNat p.1.2.toNat=p.2:=by unfold kX;rw[e1,e2];exact h2
   refine⟨(p.1.1.toNat,p.1.2.toNat,p.2),xX.2 ⟨by simp only;omega,by simp only;omega,?_,e3.symm⟩,?_⟩
   ·simp only;rw[e3,<- h2];exact (yy H.pos).2.2 ⟨c,c1,c2⟩
   ·unfold tY;simp only;rw[e1,e2]
  ·rintro⟨t,ht,rfl⟩;obtain⟨h1,h2,h3,h4⟩:=xX.1 ht;refine⟨(((t.1:Int),(t.2.1:Int)),t.2.2),(U _).2 ⟨(yy H.pos).2.1 h3,h4.symm⟩,rfl⟩
 refine mR (c:=jg bJ.cq bJ.iH) ((gV _ _).trans ((List.perm_ext_iff_of_nodup X Y).2 Z)) ?_ (ly (rm _ _) _) ?_
 ·intro x hx y hy h1 h2;have hx:=(gV _ _).mem_iff.1 hx;have hy:=(gV _ _).mem_iff.1 hy;obtain⟨p,p1,rfl⟩:=agO.1 hx;obtain⟨q,q1,rfl⟩:=agO.1 hy;rw[uv]at h1 h2;simp only at h1 h2;have e:p.1=q.1:=Prod.ext (by omega) (by omega);have:p.2=q.2:=by rw[<- ((U p).1 p1).2,<- ((U q).1 q1).2,e]
  rw[e,this]
 ·rw[ai4];refine (KH N (kX L)).imp fun {a b} h =>?_;rw[uv];simp only[tY];unfold Yt at h;omega
theorem Tg {w:bC} {r:Int×Int} (h:Dd w=some r):r.1≠0:=by
 unfold Dd at h;simp only[Option.or_eq_some_iff]at h;rcases h with ((h|⟨_,h⟩)|⟨_,h⟩)|⟨_,h⟩
 ·obtain⟨j,x,_,h2,_⟩:=dG h;split at h2
  ·cases h2
  ·cases h2;simp
 ·obtain⟨j,x,_,h2,_⟩:=dG h;split at h2
  ·cases h2
  ·cases h2;simp
 ·obtain⟨j,x,_,h2,_⟩:=dG h;split at h2
  ·cases h2;simp
  ·split at h2
   ·cases h2;simp
   ·cases h2
 ·obtain⟨j,x,_,h2,_⟩:=dG h;split at h2
  ·cases h2;simp
  ·cases h2
structure nJ (w:bC):Prop where
 given:wc w.ah
 fit:∀m∈w.au,s5 m w.ah.length
 once:∀q,q<w.ah.length->RV w.au q=1∨RV w.au q<0
 used:∀q,q<w.ah.length->PH w.au q<=w.ah.getD q 0
theorem ab0 {w:bC} (h:Dd w=none):nJ w:=by
 unfold Dd at h;simp only[Option.or_eq_none_iff]at h;obtain⟨⟨⟨h1,h2⟩,h3⟩,h4⟩:=h;refine⟨fun x X =>?_,fun m hm =>?_,fun q O =>?_,fun q O =>?_⟩
 ·obtain⟨j,U⟩:=ahb X;have:=b7.1 h1 j x U;split at this
  ·assumption
  ·cases this
 ·obtain⟨j,U⟩:=ahb hm;have:=b7.1 h2 j m U;split at this
  ·assumption
  ·cases this
 ·have:=b7.1 h3 q _ (dQ _ O);split at this
  ·cases this
  ·split at this
   ·cases this
   ·omega
 ·have:=b7.1 h4 q _ (dQ _ O);rw[ahE]at this;split at this
  ·cases this
  ·omega
theorem acT {w:bC} (hW:yK w) (X:nJ w):Wv w.ah.length (pJ w):=by
 have key:∀c∈pJ w,0<c.2∧(0<=c.1.1∧c.1.1<(w.ah.length:Int))∧0<=c.1.2∧c.1.2<(w.ah.length:Int):=by
  intro c O;unfold pJ at O;obtain⟨m,hm,O⟩:=aio.1 O;have hF:=(hW.mill m hm).1;have U:=X.fit m hm;unfold lr at O;obtain⟨i,Y,O⟩:=aio.1 O;rw[aiB]at Y;unfold yO at O;split at O
  ·rename_i x hx;split at O
   ·rename_i h1;obtain⟨k,hk,O⟩:=aio.1 O;rw[aiB]at hk;unfold te at O;split at O
    ·rename_i y hy;split at O
     ·rename_i Z;rw[ahc.1 O];obtain⟨_,u2⟩:=KJ U (ahh hx) h1;obtain⟨j,j1,j2⟩:=MY U (ahh hy) Z.1;obtain⟨_,_,_,r3,_⟩:=uq hF U.flow hk Y;have hp:m.aA.getD y.aQ.toNat 0∈m.aA:=by
       rw[j1,ahR,ahs,ag2 j2];exact ag1 j2
      refine⟨Rat.mul_pos (Qe X.given U u2).2 ?_,(U.uses _ u2).1,U.ports _ hp⟩;have:=Z.2;grind
     ·cases O
    ·cases O
   ·cases O
  ·cases O
 exact⟨fun c h=>(key c h).1,fun c h=>(key c h).2.1,fun c h=>(key c h).2.2⟩
theorem yb {w:bC} (Y:yK w) (X:nJ w):aS (oE w) ((0:Int),[])=some (jd ((pJ w).foldl jj []))∧Fx 125 (pJ w):=by
 have hm:=Y.mills;have sz:∀k,((w.au.take k).flatMap (lr w.ah)).length<=k*25∧∀c∈(w.au.take k).flatMap (lr w.ah),LF c.2<=20:=by
  intro k;have h1:∀m∈w.au.take k,(lr w.ah m).length<=25∧∀c∈lr w.ah m,LF c.2<=20:=fun m h=>by
   have hm:=ahz h;exact Xe X.given (Y.mill m hm).1 (X.fit m hm)
  have h2:(w.au.take k).length<=k:=by rw[ag8];omega
  refine⟨?_,fun c Z =>?_⟩
  ·have gen:∀l:List bY,(∀m∈l,(lr w.ah m).length<=25)->(l.flatMap (lr w.ah)).length<=l.length*25:=by
    intro l
    induction l with
    | nil=>intro _;simp
    | cons a l ih =>
     intro h;have a1:=h a (air ..);have a2:=ih fun m hm=>h m (ais _ hm);rw[aiq,ah1,ahf];omega
   have:=gen _ fun m hm=>(h1 m hm).1;omega
  ·obtain⟨m,hm,Z⟩:=aio.1 Z;exact (h1 m hm).2 c Z
 have key:=fun aa U=>yW (body:=oE w) w.au (by omega)
  (fun k (c:List ((Int×Int)×aw))=>c=jd (((w.au.take k).flatMap (lr w.ah)).foldl jj [])) (fun c=>c=jd ((pJ w).foldl jj [])) (s0:=[]) rfl aa U
 constructor
 ·refine (key ?_ ?_).elim fun x ⟨h1,hx⟩=>hx ▸ h1
  ·rintro k m _ hx rfl;have hk:=bo hx;have ab:w.au.take (k+1)=w.au.take k++[m]:=by
    obtain⟨ad,he⟩:=ahi.1 hx;rw[ajE ad,he]
   have O:=ahh hx;have H:Fx (k*25) ((w.au.take k).flatMap (lr w.ah)):=⟨(sz k).1,(sz k).2⟩;refine⟨_,?_,rfl⟩;simp only[oE];rw[if_pos (by simpa using hk),bP hx,aiv,Qg X.given (Y.mill m O).1 (X.fit m O) H (by omega),aiv,ck (by omega),ab,List.flatMap_append];simp
  ·rintro _ rfl;refine⟨_,?_,rfl⟩;simp only[oE];rw[if_neg (by simp),aiZ];rfl
 ·have:=sz w.au.length;rw[aiZ]at this;exact⟨by have:=this.1;unfold pJ;omega,this.2⟩
theorem X7 {N:Nat} {L:List xh} (H:Wv N L):(L.foldl jj []).length<=N*N:=by
 have h:=I8 H;have:=congrArg List.length h;rw[mo,ahj,ahj,DV]at this;have:=PB N (kX L);omega
def VO (w:bC) (L:List xh):fA:=sK w.ah.length (gZ w.ah.length (kX L))
theorem of_eq {w:bC} (O:yK w):qE w=some (match Dd w with|some r=>(fA.mk 0 [],r.1)|none=>(VO w (pJ w),0)):=by
 have U:=O.given;unfold qE;rw[Xr O,aiv];cases he:Dd w with
 | some r =>
  have:=Tg he;rw[if_pos (by simpa using this)];rfl
 | none =>
  have X:=ab0 he;obtain⟨h1,_⟩:=yb O X;have Y:=acT O X;have hlen:=X7 Y;have Z:w.ah.length*w.ah.length<=6*6:=ajF U U;rw[if_neg (by simp),h1,aiv,if_neg (by rw[decide_eq_true_eq,DV];omega)];unfold BK;rw[if_pos ⟨by rw[DV];omega,by rw[VH];exact wy _ _ (by simp)⟩,I8 Y];rfl
theorem adg {x:Int} {n:Nat} (O:(Lit.int .u8 x).wf=true) (U:0<n):∃a:Nat,a<n∧xY .i64 (IntKind.i64.wrap x) (n:Int)=some (a:Int):=by
 have O:0<=x∧x<=255:=by
  simpa [Lit.wf,IntKind.min,IntKind.max,IntKind.signed,IntKind.bits] using O
 refine⟨(x.tmod n).toNat,?_,?_⟩
 ·have h1:=Int.tmod_lt_of_pos x (show (0:Int)<n by omega);have h2:=Int.tmod_nonneg (n:Int) O.1;omega
 ·unfold xY;have h2:=Int.tmod_nonneg (n:Int) O.1;rw[if_neg (by omega),gq (by omega),Int.toNat_of_nonneg h2]
theorem IF {a b:Rat} (h:LF a<=eQ):lJ (fh a) (fh b)=some (decide (a=b)):=by
 have:=S2 h;rw[aeB (by unfold Fit eQ at *;omega) (by unfold Fit eQ at *;omega)];congr 1
 by_cases hab:a=b
 ·rw[hab,decide_eq_true rfl,decide_eq_true rfl]
 ·rw[decide_eq_false (fun h=>hab (va h)),decide_eq_false hab]
theorem Od {α ρ:Type} : ∀(l:List α) (i:Nat),dP (fun _ _=>(none:Option ρ)) i l=none
 | [],_=>rfl
 | _::l,i=>by simp only[dP];exact Od l _
theorem J7 {N:Nat} {L:List xh} (O:N<=6) (H:Fx 125 L):(gZ N (kX L)).length<=36∧∀t∈gZ N (kX L),LF t.2.2<=2700:=by
 have h1:=PB N (kX L);have h2:N*N<=6*6:=ajF O O;refine⟨by omega,fun t U =>?_⟩;obtain⟨_,_,_,h4⟩:=xX.1 U;rw[h4];unfold kX;have h5:=Jr (k:=((t.1:Int),(t.2.1:Int))) H.sz;have h6:=ahC 21 H.len;omega
def vG (q:Nat) (l:List fQ):Int:=l.foldl (fun x u=>x+if u.bT=(q:Int) then u.aN else 0) 0
theorem oD {α:Type} (f:α->Int):∀(l:List α) (x:Int),l.foldl (fun x u=>x+f u) x=x+l.foldl (fun x u=>x+f u) 0
 | [],x=>by simp
 | a::l,x=>by rw[ahD,ahD,oD f l (x+f a),oD f l (0+f a)];omega
theorem PI {q:Nat} : ∀ {l:List fQ} {x:Int},(0<=x∧x<=1099511627777)->(∀u∈l,1<=u.aN∧u.aN<=1099511627776)->k9 q l x=min 1099511627777 (x+vG q l)∧0<=vG q l
 | [],x,U,_=>by simp only[k9,vG,List.foldl_nil];omega
 | u::l,x,U,h=>by
  have h1:=h u (air ..);have O:=Fm (q:=q) U h1;obtain⟨h2,h3⟩:=PI (q:=q) (l:=l) (x:=F4 q x u) O fun v Y=>h v (ais _ Y);have e:vG q (u::l)=(if u.bT=(q:Int) then u.aN else 0)+vG q l:=by
   unfold vG;rw[ahD,oD (fun u:fQ=>if u.bT=(q:Int) then u.aN else 0)];omega
  have e2:k9 q (u::l) x=k9 q l (F4 q x u):=rfl;rw[e2,h2,e];unfold F4 at O ⊢
  by_cases X:u.bT=(q:Int)
  ·simp only[X,if_true]at O ⊢;split<;>omega
  ·simp only[X,if_false]at O ⊢;omega
def sY (q:Nat) (ms:List bY):Int:=ms.foldl (fun x m=>x+vG q m.a7) 0
theorem abx {q:Nat} {ms:List bY} (h:∀m∈ms,∀u∈m.a7,1<=u.aN∧u.aN<=1099511627776):PH ms q=min 1099511627777 (sY q ms)∧0<=sY q ms:=by
 have key:∀(ms:List bY) (x:Int),(0<=x∧x<=1099511627777)->(∀m∈ms,∀u∈m.a7,1<=u.aN∧u.aN<=1099511627776)->ms.foldl (fun x m=>k9 q m.a7 x) x=min 1099511627777 (x+sY q ms)∧0<=sY q ms:=by
  intro ms
  induction ms with
  | nil=>intro x O _;simp only[List.foldl_nil,sY];omega
  | cons m ms U =>
   intro x O h;obtain⟨X,a2⟩:=PI (q:=q) O (h m (air ..));obtain⟨Y,Z⟩:=U (k9 q m.a7 x) (qm O (h m (air ..))) fun m hm=>h m (ais _ hm);have e:sY q (m::ms)=vG q m.a7+sY q ms:=by
    unfold sY;rw[ahD,oD (fun m:bY=>vG q m.a7)];omega
   rw[ahD,Y,X,e];omega
 have:=key ms 0 (by omega) h;unfold PH;rw[this.1];exact⟨by omega,this.2⟩
theorem Vj {N:Nat} {ms:List bY} : JO N ms=none↔∀m∈ms,s5 m N:=by
 unfold JO;constructor
 ·intro h m hm;obtain⟨j,O⟩:=ahb hm;have:=b7.1 h j m O;split at this
  ·assumption
  ·cases this
 ·intro h;exact b7.2 fun j y U=>if_pos (h y (ahh U))
section
variable {α β:Type}
def ct:List α->(α->Rat)->Rat
 | [],_=>0
 | a::l,f=>f a+ct l f
theorem nw (f:α->Rat) (b:List α):∀a:List α,ct (a++b) f=ct a f+ct b f
 | []=>by simp only[List.nil_append,ct];grind
 | x::a=>by simp only[List.cons_append,ct,nw f b a];grind
theorem Wc {f:α->Rat} {a b:List α} (h:a.Perm b):ct a f=ct b f:=by
 induction h with
 | nil=>rfl
 | cons x _ O=>simp only[ct];rw[O]
 | swap x y l=>simp only[ct];grind
 | trans _ _ h1 h2=>exact h1.trans h2
theorem dI {f g:α->Rat} : ∀ {l:List α},(∀a∈l,f a=g a)->ct l f=ct l g
 | [],_=>rfl
 | a::l,h=>by
  simp only[ct];rw[h a (air ..),dI fun x O=>h x (ais _ O)]
theorem E5 (f g:α->Rat):∀l:List α,ct l (fun a=>f a+g a)=ct l f+ct l g
 | []=>by simp only[ct];grind
 | a::l=>by simp only[ct,E5 f g l];grind
theorem E8 (f g:α->Rat):∀l:List α,ct l (fun a=>f a-g a)=ct l f-ct l g
 | []=>by simp only[ct];grind
 | a::l=>by simp only[ct,E8 f g l];grind
theorem mF:∀l:List α,ct l (fun _=>0)=0
 | []=>rfl
 | a::l=>by simp only[ct,mF l];grind
theorem yx (c:Rat) (f:α->Rat):∀l:List α,ct l (fun a=>c*f a)=c*ct l f
 | []=>by simp only[ct];grind
 | a::l=>by simp only[ct,yx c f l];grind
theorem Uw {f g:α->Rat} : ∀ {l:List α},(∀a∈l,f a<=g a)->ct l f<=ct l g
 | [],_=>by simp only[ct];grind
 | a::l,h=>by
  have h1:=h a (air ..);have h2:=Uw (l:=l) fun x O=>h x (ais _ O);simp only[ct];grind
theorem yw (h:β->α) (f:α->Rat):∀l:List β,ct (l.map h) f=ct l fun a=>f (h a)
 | []=>rfl
 | a::l=>by simp only[agV,ct,yw h f l]
theorem rl (h:β->List α) (f:α->Rat):∀l:List β,ct (l.flatMap h) f=ct l fun a=>ct (h a) f
 | []=>rfl
 | a::l=>by rw[aiq,nw];simp only[ct,rl h f l]
theorem uu (p:α->Bool) (f:α->Rat):∀l:List α,ct (l.filter p) f=ct l fun a=>if p a=true then f a else 0
 | []=>rfl
 | a::l=>by
  rw[List.filter_cons];have O:=uu p f l;split
  ·rename_i h;simp only[ct,O,h,if_true]
  ·rename_i h;simp only[ct,O,h,if_false];grind
theorem I7 (f:α->β->Rat) (m:List β):∀l:List α,ct l (fun a=>ct m (f a))=ct m fun b=>ct l fun a=>f a b
 | []=>by simp only[ct];exact (mF m).symm
 | a::l=>by simp only[ct,I7 f m l];rw[<- E5]
theorem ZB {N p:Nat} (U:N<=p) (F:Nat->Rat):ct (List.range N) (fun a=>if a=p then F a else 0)=0:=by
 rw[dI (g:=fun _=>0) fun a O=>if_neg (by have:=aiB.1 O;omega),mF]
theorem E6 {N p:Nat} (U:p<N) (F:Nat->Rat):ct (List.range N) (fun a=>if a=p then F a else 0)=F p:=by
 induction N with
 | zero=>omega
 | succ N O =>
  rw[ajM,nw];simp only[ct]
  by_cases h:p=N
  ·subst h;rw[ZB (agP _),if_pos rfl];grind
  ·rw[O (by omega),if_neg (fun e=>h e.symm)];grind
theorem E7 (l:List α) (f:α->Rat):ct (List.range l.length) (fun i=>(l[i]?).elim 0 f)=ct l f:=by
 have key:∀l:List α,ct (List.range l.reverse.length) (fun i=>(l.reverse[i]?).elim 0 f)=ct l.reverse f:=by
  intro l
  induction l with
  | nil=>rfl
  | cons a l O =>
   rw[List.reverse_cons,ah1,List.length_singleton,ajM,nw,nw];congr 1
   ·rw[<- O];exact dI fun i U=>by rw[aht (aiB.1 U)]
   ·simp only[ct];rw[ahu (agP _)];simp
 have:=key l.reverse
 rwa [List.reverse_reverse]at this
theorem BW {f:α->Rat} {l:List α} (h:∀a∈l,0<=f a):0<=ct l f:=by
 rw[<- mF l];exact Uw h
end
theorem Ux (k:Int×Int):∀L:List xh,kL k L=ct L fun c=>if k=c.1 then c.2 else 0
 | []=>rfl
 | c::L=>by simp only[kL,ct,Ux k L]
theorem T0 (p:Nat):∀tk:List Tk,yi tk p=ct tk fun t=>if t.1=p then t.2.2 else 0
 | []=>rfl
 | t::tk=>by simp only[yi,ct,T0 p tk]
theorem Uy {α:Type} (f:α->Rat):∀l:List α,lj (l.map f)=ct l f
 | []=>rfl
 | a::l=>by simp only[agV,lj,ct,Uy f l]
theorem VS {N p:Nat} {S:Nat->Nat->Rat} (U:p<N) (X:∀b,0<=S p b):yi (gZ N S) p=ct (List.range N) (S p):=by
 rw[T0];unfold gZ;rw[rl,dI (g:=fun a=>if a=p then ct (List.range N) (S a) else 0) fun a _ =>?_,E6 U fun a=>ct (List.range N) (S a)];rw[yw,uu]
 by_cases h:a=p
 ·subst h;rw[if_pos rfl];refine dI fun b _ =>?_;have:=X b
  by_cases O:0<S a b
  ·simp[O]
  ·simp only[O];have:S a b=0:=by grind
   rw[this];simp
 ·rw[if_neg h];refine Eq.trans (dI (g:=fun _=>0) fun b _ =>?_) (mF _);simp[h]
def sJ (p:Nat) (L:List xh):Rat:=ct L fun c=>if c.1.1=(p:Int) then c.2 else 0
theorem ZC {N p:Nat} {L:List xh} (H:Wv N L):ct (List.range N) (kX L p)=sJ p L:=by
 refine Eq.trans (dI (l:=List.range N) (g:=fun b:Nat=>ct L fun c=>if ((p:Int),(b:Int))=c.1 then c.2 else 0) fun b _=>by unfold kX;exact Ux _ _) ?_;rw[I7];unfold sJ;refine dI fun c U =>?_;obtain⟨h1,h2⟩:=H.to_ c U;obtain⟨j,O⟩:∃j:Nat,c.1.2=j:=⟨c.1.2.toNat,by omega⟩
 by_cases hp:c.1.1=(p:Int)
 ·rw[if_pos hp,dI (g:=fun b=>if b=j then c.2 else 0) fun b _ =>?_,E6 (by omega) fun _=>c.2]
  by_cases hb:b=j
  ·rw[if_pos hb,if_pos (Prod.ext hp.symm (by simp only;omega))]
  ·rw[if_neg hb,if_neg (fun e=>hb (by rw[<- e]at O;simp only at O;omega))]
 ·rw[if_neg hp];exact Eq.trans (dI (g:=fun _=>0) fun b _=>if_neg (fun e=>hp (by rw[<- e]))) (mF _)
theorem HQ {N p:Nat} {L:List xh} (H:Wv N L) (O:p<N):eM (gZ N (kX L)) p=1-sJ p L:=by
 unfold eM;rw[VS O fun b=>(yy H.pos).1,ZC H]
def gk (m:bY) (k:Nat):Bool:=match m.ao.aJ[k]? with|some y=>y.bl==0|none=>false
def gv (m:bY) (i:Nat):Rat:=ct (List.range m.ao.aJ.length) fun k=>if gk m k=true then II m.ao k i else 0
def ls (m:bY) (i:Nat):Rat:=ct (List.range m.ao.aJ.length) fun k=>if gk m k=true then 0 else II m.ao k i
theorem ab1 {m:bY} {i:Nat} (O:oI m.ao) (U:B0 m.ao) (X:i<m.ao.al.length):gv m i+ls m i=1∧0<=gv m i∧0<=ls m i:=by
 have Y:∀k∈List.range m.ao.aJ.length,0<=II m.ao k i:=fun k hk=>by
  obtain⟨_,_,_,h,_⟩:=uq O U (aiB.1 hk) X;exact h
 refine⟨?_,BW fun k hk =>?_,BW fun k hk =>?_⟩
 ·have h1:=V3 O U X;rw[Uy]at h1;rw[<- h1];unfold gv ls;rw[<- E5];exact dI fun k _=>by split<;>grind
 ·have:=Y k hk;split<;>grind
 ·have:=Y k hk;split<;>grind
def A1 (m:bY) (i:Nat) (F:fQ->Rat):Rat:=(m.ao.al[i]?).elim 0 fun x=>if x.bl=1 then F (nI m x.aQ) else 0
def ue (p:Nat) (u:fQ) (q:Rat):Rat:=if u.bT=(p:Int) then q else 0
theorem Vn (g:List Int) (m:bY) (p:Nat):sJ p (lr g m)=ct (List.range m.ao.al.length) fun i=>A1 m i fun u=>ue p u (La g u*gv m i):=by
 unfold sJ lr;rw[rl];refine dI fun i _ =>?_;unfold yO A1;cases U:m.ao.al[i]? with
 | none=>rfl
 | some x =>
  simp only[Option.elim_some]
  by_cases h1:x.bl=1
  ·rw[if_pos h1,if_pos h1,rl];generalize nI m x.aQ=u;have hk:∀k,ct (te m i u (La g u) k) (fun c=>if c.1.1=(p:Int) then c.2 else 0)=ue p u (La g u*if gk m k=true then II m.ao k i else 0):=by
    intro k;unfold te gk ue;cases m.ao.aJ[k]? with
    | none=>show ct [] _=_;simp[ct]
    | some y =>
     simp only
     by_cases h0:y.bl=0
     ·by_cases O:II m.ao k i=0
      ·rw[if_neg (fun h=>h.2 O),O];show (0:Rat)=_;split<;>simp
      ·rw[if_pos ⟨h0,O⟩];simp only[ct,h0]
       by_cases hu:u.bT=(p:Int)<;>simp only[hu,if_true,if_false,beq_self_eq_true]<;>grind
     ·rw[if_neg (fun h=>h0 h.1)];show (0:Rat)=_;split<;>simp[h0]
   rw[dI fun k _=>hk k];unfold ue gv;split
   ·rw[yx]
   ·exact mF _
  ·rw[if_neg h1,if_neg h1];rfl
theorem aaj {m:bY} {N:Nat} (O:s5 m N) (F:fQ->Rat):ct (List.range m.ao.al.length) (fun i=>A1 m i F)=ct m.a7 F:=by
 unfold A1;refine Eq.trans (E7 m.ao.al fun x=>if x.bl=1 then F (nI m x.aQ) else 0) ?_;rw[dI (g:=fun x=>if (x.bl==1)=true then F (nI m x.aQ) else 0) fun x _=>by simp only[beq_iff_eq],<- uu (fun x:fI=>x.bl==1) fun x=>F (nI m x.aQ)];rw[<- yw (fun x:fI=>x.aQ) fun n=>F (nI m n),Wc O.takes];unfold yC;rw[yw];refine Eq.trans (dI fun j U =>?_) (E7 m.a7 F);unfold nI;rw[ahR,ahs,ag2 (aiB.1 U)];rfl
theorem X9 (w:bC) (p:Nat):sJ p (pJ w)=ct w.au fun m=>sJ p (lr w.ah m):=by
 unfold pJ sJ;exact rl ..
def afo (p:Nat) (m:bY):Rat:=ct m.a7 fun u=>ue p u (u.aN:Rat)
theorem Uz (p:Nat):∀l:List fQ,ct l (fun u=>ue p u (u.aN:Rat))=((vG p l:Int):Rat)
 | []=>by simp[ct,vG]
 | u::l=>by
  have e:vG p (u::l)=(if u.bT=(p:Int) then u.aN else 0)+vG p l:=by
   unfold vG;rw[ahD,oD (fun u:fQ=>if u.bT=(p:Int) then u.aN else 0)];omega
  simp only[ct];rw[Uz p l,e,Rat.intCast_add];congr 1;unfold ue;split<;>simp
theorem Py (p:Nat):∀ms:List bY,ct ms (afo p)=((sY p ms:Int):Rat)
 | []=>by simp[ct,sY]
 | m::ms=>by
  have e:sY p (m::ms)=vG p m.a7+sY p ms:=by
   unfold sY;rw[ahD,oD (fun m:bY=>vG p m.a7)];omega
  simp only[ct];rw[Py p ms,e,Rat.intCast_add];congr 1;exact Uz p _
theorem ad1 {g:List Int} {p:Nat} {u:fQ} (h:u.bT=(p:Int)) (O:1<=g.getD p 0):La g u*((g.getD p 0:Int):Rat)=(u.aN:Rat):=by
 unfold La;rw[h,ahR,ajP];have:((g.getD p 0:Int):Rat)≠0:=by exact_mod_cast (show g.getD p 0≠0 by omega)
 rw[Rat.div_mul_cancel this]
theorem Dj {w:bC} (Y:yK w) (O:nJ w) {p:Nat} (U:p<w.ah.length) :
  sJ p (pJ w)*((w.ah.getD p 0:Int):Rat)=((sY p w.au:Int):Rat)-ct w.au fun m=>ct (List.range m.ao.al.length) fun i=>A1 m i fun u=>ue p u ((u.aN:Rat)*ls m i):=by
 have Z:=O.given (w.ah.getD p 0) (by rw[ahs,ag2 U];exact ag1 U);rw[X9,Rat.mul_comm,<- yx,<- Py,<- E8];refine dI fun m hm =>?_;have hF:=(Y.mill m hm).1;have X:=O.fit m hm;rw[Vn,<- yx];unfold afo;rw[<- aaj X,<- E8];refine dI fun i hi =>?_;obtain⟨h1,_,_⟩:=ab1 hF X.flow (aiB.1 hi);unfold A1;cases m.ao.al[i]? with
 | none=>simp only[Option.elim_none];grind
 | some x =>
  simp only[Option.elim_some];split
  ·unfold ue;split
   ·rename_i hu;have:=ad1 hu Z.1;grind
   ·grind
  ·grind
theorem Fo {w:bC} (O:nJ w) {p:Nat} (U:p<w.ah.length):0<=sY p w.au∧sY p w.au<=w.ah.getD p 0:=by
 have X:=O.given (w.ah.getD p 0) (by rw[ahs,ag2 U];exact ag1 U);have h1:=O.used p U;have h2:=abx (q:=p) (ms:=w.au) fun m hm u hu=>((O.fit m hm).uses u hu).2;rw[h2.1]at h1;exact⟨h2.2,by omega⟩
theorem TH {w:bC} (U:yK w) (X:nJ w) (p:Nat):0<=ct w.au fun m=>ct (List.range m.ao.al.length) fun i=>A1 m i fun u=>ue p u ((u.aN:Rat)*ls m i):=by
 refine BW fun m hm=>BW fun i Y =>?_;have O:=X.fit m hm;obtain⟨_,_,h1⟩:=ab1 (U.mill m hm).1 O.flow (aiB.1 Y);unfold A1;cases Z:m.ao.al[i]? with
 | none=>simp
 | some x =>
  simp only[Option.elim_some];split
  ·rename_i hk;have hu:=(O.uses _ (KJ O (ahh Z) hk).2).2;unfold ue;split
   ·exact Rat.mul_nonneg (by exact_mod_cast (show (0:Int)<=(nI m x.aQ).aN by omega)) h1
   ·simp
  ·simp
theorem aa1 {w:bC} (X:yK w) (O:nJ w) {p:Nat} (U:p<w.ah.length):sJ p (pJ w)<=1:=by
 have Y:=O.given (w.ah.getD p 0) (by rw[ahs,ag2 U];exact ag1 U);have h1:=Dj X O U;have h2:=TH X O p;have h3:((sY p w.au:Int):Rat)<=((w.ah.getD p 0:Int):Rat):=by exact_mod_cast (Fo O U).2
 have h4:(0:Rat)<((w.ah.getD p 0:Int):Rat):=by exact_mod_cast (show (0:Int)<w.ah.getD p 0 by omega)
 refine Rat.le_of_mul_le_mul_right ?_ h4;rw[h1];grind
theorem Q3 {w:bC} (O:yK w) (U:nJ w):P7 w.ah.length (gZ w.ah.length (kX (pJ w))) where
 ports:=by have:=O.given;omega
 takes:=by have:=(J7 O.given (yb O U).2).1;omega
 ok t Y:=by
  obtain⟨h1,h2,h3,h4⟩:=xX.1 Y;exact⟨h1,h2,by rw[h4];exact h3⟩
 sorted:=KH _ _
 leak p X:=by
  rw[HQ (acT O U) X];have:=aa1 O U X;grind
theorem Vk {w:bC} (X:nJ w):Dd w=none:=by
 unfold Dd;simp only[Option.or_eq_none_iff];refine⟨⟨⟨?_,Vj.2 X.fit⟩,?_⟩,?_⟩
 ·exact b7.2 fun j y O=>if_pos (X.given y (ahh O))
 ·refine b7.2 fun j y O =>?_;have U:=bo O;simp only[ahj,ahk]at U;rw[dQ _ U]at O;have:=X.once j U;obtain rfl:=Option.some.inj O;rw[if_neg (by omega),if_neg (by omega)]
 ·refine b7.2 fun j y O =>?_;have U:=bo O;simp only[ahj,ahk]at U;rw[dQ _ U]at O;have:=X.used j U;obtain rfl:=Option.some.inj O;rw[ahE,if_neg (by omega)]
theorem aac {N p:Nat} {S:Nat->Nat->Rat} {r:Rat} (O:0<r):gZ N (fun a b=>if a=p then S a b*r else S a b)=(gZ N S).map fun t=>(t.1,t.2.1,if t.1=p then t.2.2*r else t.2.2):=by
 unfold gZ;rw[List.map_flatMap,aiu,aiu];congr 1;refine aip fun a _ =>?_;rw[ajG,List.filter_congr (q:=fun b=>decide (0<S a b)) fun b _ =>?_]
 ·rfl
 ·show decide (0<if a=p then S a b*r else S a b)=decide (0<S a b)
  by_cases h:a=p
  ·rw[if_pos h];congr 1;refine propext ⟨fun h1 =>?_,fun h1=>Rat.mul_pos h1 O⟩;apply Rat.not_le.1;intro h2;have:=Rat.mul_le_mul_of_nonneg_right h2 (Rat.le_of_lt O);grind
  ·rw[if_neg h]
def scC (p:Nat) (r:Rat) (c:xh):xh:=(c.1,if c.1.1=(p:Int) then c.2*r else c.2)
theorem E9 (p:Nat) (r:Rat) (a b:Nat):∀L:List xh,kL ((a:Int),(b:Int)) (L.map (scC p r))=if a=p then kL ((a:Int),(b:Int)) L*r else kL ((a:Int),(b:Int)) L
 | []=>by simp only[ahF,kL];split<;>grind
 | c::L=>by
  simp only[agV,kL];rw[E9 p r a b L];simp only[scC]
  by_cases hk:((a:Int),(b:Int))=c.1
  ·have:c.1.1=(a:Int):=by rw[<- hk]
   simp only[hk,if_true,this]
   by_cases O:a=p
   ·subst O;simp only[if_true];grind
   ·rw[if_neg (by omega),if_neg O,if_neg O]
  ·simp only[hk,if_false];split<;>grind
section
variable {w:bC} {p:Nat} {d:Int}
def iD (w:bC) (p:Nat) (d:Int):bC:=bC.mk (w.ah.set p (w.ah.getD p 0+d)) w.au
def rf (w:bC) (p:Nat) (d:Int):Rat:=Rat.divInt (w.ah.getD p 0) (w.ah.getD p 0+d)
theorem ym (O:p<w.ah.length) (j:Nat):(iD w p d).ah.getD j 0=if j=p then w.ah.getD p 0+d else w.ah.getD j 0:=by
 unfold iD;simp only[ahs,List.getElem?_set]
 by_cases h:p=j
 ·subst h;simp[O]
 ·rw[if_neg h,if_neg fun e=>h e.symm]
theorem Iy (hG:nJ w) (U:p<w.ah.length) (hd:0<d) (hM:w.ah.getD p 0+d<=1099511627776):nJ (iD w p d):=by
 have Z:(iD w p d).ah.length=w.ah.length:=by simp[iD]
 have O:∀q,q<w.ah.length->1<=w.ah.getD q 0∧w.ah.getD q 0<=1099511627776:=fun q X=>hG.given _ (by rw[ahs,ag2 X];exact ag1 X);refine⟨fun x hx =>?_,fun m hm=>by rw[Z];exact hG.fit m hm,fun q X=>hG.once q (by omega),fun q X =>?_⟩
 ·obtain⟨j,Y⟩:=ahb hx;have aa:=bo Y;have h1:=ym (d:=d) U j;rw[ahs,Y,ahG]at h1;have h2:=O p U;have h3:=O j (by omega);rw[h1];split<;>omega
 ·have h1:=hG.used q (by omega);have h2:=O p U;rw[ym U];show PH w.au q<=_;split
  ·rename_i h;subst h;omega
  ·exact h1
theorem abj (O:p<w.ah.length) (X:1<=w.ah.getD p 0) (Y:0<d) {u:fQ} (hu:0<=u.bT):La (iD w p d).ah u=if u.bT=(p:Int) then La w.ah u*rf w p d else La w.ah u:=by
 unfold La;rw[ym O]
 by_cases h:u.bT=(p:Int)
 ·rw[if_pos (by omega),if_pos h,h,ahR];unfold rf;rw[ajP,ajP,ajP,Rat.div_def,Rat.div_def,Rat.div_def];have U:((w.ah.getD p 0:Int):Rat)≠0:=by exact_mod_cast (show w.ah.getD p 0≠0 by omega)
  have:=Rat.inv_mul_cancel _ U;generalize ((w.ah.getD p 0:Int):Rat)⁻¹=x at *;generalize ((w.ah.getD p 0+d:Int):Rat)⁻¹=y at *;grind
 ·rw[if_neg (by omega),if_neg h]
theorem Y3 (Y:nJ w) (O:p<w.ah.length) (Z:0<d):pJ (iD w p d)=(pJ w).map (scC p (rf w p d)):=by
 have hg:=Y.given (w.ah.getD p 0) (by rw[ahs,ag2 O];exact ag1 O);have U:∀ {α β γ:Type} (l:List α) (f:α->List β) (X:α->List γ) (s:β->γ),(∀a∈l,X a=(f a).map s)->l.flatMap X=(l.flatMap f).map s:=by
  intro α β γ l f X s h;rw[List.map_flatMap,aiu,aiu];congr 1;exact aip h
 unfold pJ;refine U _ _ _ _ fun m hm =>?_;have hQ:=Y.fit m hm;unfold lr;refine U _ _ _ _ fun i _ =>?_;unfold yO;cases m.ao.al[i]? with
 | none=>rfl
 | some x =>
  simp only;split
  ·have hu:0<=(nI m x.aQ).bT:=by
    unfold nI;rw[ahs];cases h:m.a7[x.aQ.toNat]? with
    | none=>simp
    | some u=>exact (hQ.uses u (ahh h)).1.1
   generalize nI m x.aQ=u at hu;refine U _ _ _ _ fun k _ =>?_;unfold te;cases m.ao.aJ[k]? with
   | none=>rfl
   | some y =>
    simp only;split
    ·rw[abj O hg.1 Z hu];simp only[agV,ahF,scC];congr 2;split<;>grind
    ·rfl
  ·rfl
theorem Ix (X:nJ w) (O:p<w.ah.length) (Z:0<d) (Y:w.ah.getD p 0+d<=1099511627776):0<rf w p d∧LF (rf w p d)<=3:=by
 have U:=X.given (w.ah.getD p 0) (by rw[ahs,ag2 O];exact ag1 O);unfold rf;have a1:=aay U.1 U.2;have a2:=aay (x:=w.ah.getD p 0+d) (by omega) Y;have a3:=uP (p:=w.ah.getD p 0) (q:=w.ah.getD p 0+d) (by omega);refine⟨?_,by omega⟩;rw[ajP,Rat.div_def];exact Rat.mul_pos (by exact_mod_cast (show (0:Int)<w.ah.getD p 0 by omega)) (Rat.inv_pos.2 (by exact_mod_cast (show (0:Int)<w.ah.getD p 0+d by omega)))
theorem Y4 (O:nJ w) (U:p<w.ah.length) (X:0<d) (Y:w.ah.getD p 0+d<=1099511627776) :
  VO (iD w p d) (pJ (iD w p d))=sK w.ah.length ((gZ w.ah.length (kX (pJ w))).map fun t=>(t.1,t.2.1,if t.1=p then t.2.2*rf w p d else t.2.2)):=by
 unfold VO;rw[show (iD w p d).ah.length=w.ah.length by simp[iD],Y3 O U X,<- aac (Ix O U X Y).1];congr 1;refine RU fun a b _ _ =>?_;unfold kX;exact E9 p _ a b _
theorem VW (hW:yK w) (Y:nJ w) (X:p<w.ah.length) (Z:0<d) (hM:w.ah.getD p 0+d<=1099511627776) (O:yK (iD w p d)):0<eM (gZ (iD w p d).ah.length (kX (pJ (iD w p d)))) p:=by
 have hl:(iD w p d).ah.length=w.ah.length:=by simp[iD]
 have U:=Iy Y X Z hM;have hg:=Y.given (w.ah.getD p 0) (by rw[ahs,ag2 X];exact ag1 X);rw[HQ (acT O U) (by omega)];have h1:=Dj O U (p:=p) (by omega);have h2:=TH O U p;have h3:((sY p w.au:Int):Rat)<=((w.ah.getD p 0:Int):Rat):=by exact_mod_cast (Fo Y X).2
 rw[ym X,if_pos rfl]at h1;have h4:((w.ah.getD p 0:Int):Rat)<((w.ah.getD p 0+d:Int):Rat):=by exact_mod_cast (show w.ah.getD p 0<w.ah.getD p 0+d by omega)
 have h5:(0:Rat)<((w.ah.getD p 0+d:Int):Rat):=by exact_mod_cast (show (0:Int)<w.ah.getD p 0+d by omega)
 have h6:sJ p (pJ (iD w p d))*((w.ah.getD p 0+d:Int):Rat)<1*((w.ah.getD p 0+d:Int):Rat):=by
  rw[h1];have e:(iD w p d).au=w.au:=rfl;rw[e]at h2 ⊢;grind
 have h7:sJ p (pJ (iD w p d))<1:=by
  apply Rat.not_le.1;intro h;have:=Rat.mul_le_mul_of_nonneg_right h (Rat.le_of_lt h5);grind
 grind
theorem VL (hG:nJ w) (O:p<w.ah.length) (hd:0<d) (hM:w.ah.getD p 0+d<=1099511627776) {tk:List Tk} (hl:tk.length<=36) (hs:∀t∈tk,LF t.2.2<=2700) {N:Nat} {e1 e2 e3:Int} :
  aS (jo (p:Int) (sK N tk,e1) (sK N (tk.map fun t=>(t.1,t.2.1,if t.1=p then t.2.2*rf w p d else t.2.2)),e2) (fh (rf w p d),e3)) 0=some (.inl ()):=by
 have aa:eQ=4398046511104:=rfl;obtain⟨_,hr⟩:=Ix hG O hd hM;rw[pD (sK N tk).aK (fun _ _=>(none:Option Bool)) (by simp[sK];omega) (fun i f X =>?_) (by simp only[jo];rw[if_neg (by simp)])]
 ·rw[Od]
 ·have Y:=bo X;obtain⟨t,Z,he⟩:∃t,tk[i]? = some t∧f=tY t:=by
   simp only[sK,agM]at X;obtain⟨t,h1,h2⟩:=agN.1 X;exact⟨t,h1,h2.symm⟩
  have h1:=hs t (ahh Z);have hm:=PZ t.2.2 (rf w p d);have U:(sK N (tk.map fun t=>(t.1,t.2.1,if t.1=p then t.2.2*rf w p d else t.2.2))).aK[i]? = some (tY (t.1,t.2.1,if t.1=p then t.2.2*rf w p d else t.2.2)):=by
   simp only[sK,agM,Z,Option.map_some]
  subst he;simp only[jo];rw[if_pos (by simpa using Y),bP X,aiv,ck (by simp[sK]at Y;omega)]
  by_cases O:t.1=p
  ·rw[if_pos (by simp[tY,O])];simp only[tY];rw[abH (by omega),aiv,aiv];simp only;rw[bP U,aiv];simp only[tY,O,if_true];rw[if_neg (by simp),if_neg (by simp)];erw [IF (by omega)];rw[decide_eq_true rfl,aiv];rfl
  ·rw[if_neg (by simp[tY];omega),aiv];simp only;rw[bP U,aiv];simp only[tY,O,if_false];rw[if_neg (by simp),if_neg (by simp)];erw [IF (by omega)];rw[decide_eq_true rfl,aiv];rfl
end
theorem P4 (a0:bC) (a1 a2:Int) (h1:(Lit.int .u8 a1).wf=true) (h2:(Lit.int .u16 a2).wf=true):jn a0 a1 a2=some true:=by
 have hx:0<=a2∧a2<=65535:=by
  simpa [Lit.wf,IntKind.min,IntKind.max,IntKind.signed,IntKind.bits] using h2
 obtain⟨b,e1,e2⟩:=X4 a0;unfold jn;rw[adt,aiv,e1,aiv];cases b with
 | false=>rfl
 | true =>
 have Y:=e2 rfl;have hg:=Y.given;simp only[ail,ahp,if_false]
 by_cases h0:a0.ah.length=0
 ·rw[if_pos (by simp[h0]),aiv,if_pos rfl]
 rw[if_neg (by simpa using h0),aiv]
 by_cases hz:a2=0
 ·rw[if_pos (by simp[hz])]
 rw[if_neg (by simpa using hz)];obtain⟨p,Z,p2⟩:=adg (n:=a0.ah.length) h1 (by omega);rw[p2,aiv,of_eq Y,aiv];cases hE:Dd a0 with
 | some r =>
  have ai:=Tg hE;rw[if_pos (by simpa using ai),aiv,if_pos rfl]
 | none =>
 have hG:=ab0 hE;have aa:a0.ah[p]? = some (a0.ah.getD p 0):=by rw[ahs,ag2 Z];rfl
 have ak:=hG.given _ (ahh aa);rw[if_neg (by simp),bP aa,aiv,gq (x:=a2) (by omega),gq (by omega),aiv]
 by_cases hM:a0.ah.getD p 0+a2<=1099511627776
 rotate_left
 ·rw[if_pos (by simp only[decide_eq_true_eq];omega)]
 rw[if_neg (by simp only[decide_eq_true_eq];omega)];have hd:0<a2:=by omega
 have U:=Iy hG Z hd hM;have hl:(iD a0 p a2).ah.length=a0.ah.length:=by simp[iD]
 have O:yK (iD a0 p a2):=⟨by omega,Y.mills,Y.mill⟩;have ab:lf 8 [] a0.ah=some a0.ah:=by
  unfold lf;have:a0.ah.length<=maxLen:=agR hg (by decide);simp only[List.length_nil,ahE,List.nil_append];rw[if_pos ⟨this,by omega⟩]
 have X:bC.mk (a0.ah.set ((p:Int)).toNat (a0.ah.getD p 0+a2)) a0.au=iD a0 p a2:=rfl;have ad:(a0.ah.set ((p:Int)).toNat (a0.ah.getD p 0+a2))[p]? = some (a0.ah.getD p 0+a2):=by rw[ahR,ajC Z]
 obtain⟨r,r1,r2⟩:=Y2 (K:=2700) (Q3 O U) (by decide) (J7 O.given (yb O U).2).2;have r1:iT (VO (iD a0 p a2) (pJ (iD a0 p a2)))=some ((List.range (iD a0 p a2).ah.length).map r):=r1;have ae:=J7 hg (yb Y hG).2;have aj:r p=0:=(r2.zero p (by omega)).2 (VW Y hG Z hd hM O);have hw:IntKind.i64.wrap (a0.ah.getD p 0+a2)=a0.ah.getD p 0+a2:=gq (by omega);rw[ab,aiv,aiv,hw,X,of_eq O,Vk U,aiv];simp only;rw[r1,aiv,if_neg (by simp),Y4 hG Z hd hM,if_neg (by simp[sK,VO]),aiv,if_neg (by simp[hl]),bP ad,aiv,Of5 (by omega) (by omega) (by omega),aiv];have ag:=VL (N:=a0.ah.length) (e1:=0) (e2:=0) (e3:=0) hG Z hd hM ae.1 ae.2;unfold VO;unfold rf at ag ⊢;rw[ag,aiv];simp only;rw[if_pos trivial,bP (dQ r (by omega)),aiv,aj];rfl
end Go.Proofs.YtoioidmblipblaaGreat.P
