import Derived.Test.YtoioidmblipblaaGreatKf
set_option linter.unusedSimpArgs false
set_option linter.unusedVariables false
noncomputable section
open Go.Proofs.Tryz
namespace Go.Proofs.YtoioidmblipblaaGreat.P
open Go.RowKit
theorem gj:∀l m:List Int,dv (l++m)=dv l+pw l.length*dv m
 | [],m=>by simp[dv,mM]
 | d::l,m=>by
  rw[aiC,dv,dv,gj l m,ag2,ik,aiV,aiW];omega
theorem yV:∀n:Nat,dv (List.replicate n 0)=0
 | 0=>rfl
 | n+1=>by rw[ahz,dv,yV n];rfl
theorem fS {l:List Int} {i:Nat} (h:i<l.length):dv (l.take (i+1))=dv (l.take i)+pw i*l[i]:=by
 have e:l.take (i+1)=l.take i++[l[i]]:=by rw[aiX];simp[h]
 rw[e,gj,agV,ahR (by omega)];simp[dv]
theorem iT (l:List Int) {i:Nat} (h:i<=l.length):dv l=dv (l.take i)+pw i*dv (l.drop i):=by
 have:=gj (l.take i) (l.drop i);rw[aix,agV,ahR h]at this;exact this
theorem rW {l:List Int} {i:Nat} (h:i<l.length) (x:Int):dv (l.set i x)=dv l+pw i*(x-l[i]):=by
 induction l generalizing i with
 | nil=>simp at h
 | cons d l O =>
  cases i with
  | zero=>simp only[List.set_cons_zero,dv,mM,List.getElem_cons_zero];omega
  | succ i =>
   have:=O (i:=i) (by simpa using h);simp only[List.set_cons_succ,dv,this,ik,List.getElem_cons_succ,aiV,aiW];omega
theorem BS:∀ {l:List Int},Dg l->(∀h:l≠[],l.getLast h≠0)->aP (dv l).toNat=l
 | [],_,_=>by simp[dv,cw]
 | d::l,h,O=>by
  have h1:=h.cons;have h2:=cO h1.2;have U:(dv (d::l)).toNat≠0:=by
   simp only[dv];intro h0;have X:d=0:=by omega
   have Z:dv l=0:=by omega
   cases l with
   | nil=>exact O (by simp) (by simpa using X)
   | cons e m =>
    have Y:=BS h1.2 (fun hh=>by have:=O (by simp);simpa using this);rw[Z]at Y;simp[cw]at Y
  rw[mR U];have e1:(dv (d::l)).toNat % 1048576=d.toNat:=by simp only[dv];omega
  have e2:(dv (d::l)).toNat / 1048576=(dv l).toNat:=by simp only[dv];omega
  rw[e1,e2];have X:(d.toNat:Int)=d:=by omega
  rw[X];cases l with
  | nil=>simp[dv,cw]
  | cons e m=>rw[BS h1.2 (fun hh=>by have:=O (by simp);simpa using this)]
theorem U9:∀(n:Nat) (h:aP n≠[]),(aP n).getLast h≠0:=by
 intro n
 induction n using Nat.strongRecOn with
 | _ n X =>
  intro h;have Y:n≠0:=fun U=>h (qQ.2 U);have e:=mR Y
  by_cases hq:n / 1048576=0
  ·have:aP n=[((n % 1048576:Nat):Int)]:=by rw[e,hq,cw]
   simp only[this,List.getLast_singleton];omega
  ·have O:aP (n / 1048576)≠[]:=fun U=>hq (qQ.1 U);have:=X (n / 1048576) (by omega) O;simp only[e];rw[List.getLast_cons O];exact this
theorem Xx {a b:Nat} (h:aP a=aP b):a=b:=by
 have:=congrArg dv h;rw[bu,bu]at this;omega
theorem gK {n k:Nat} (h:(n:Int)<pw k):(aP n).length<=k:=by
 induction k generalizing n with
 | zero =>
  rw[mM]at h;have:n=0:=by omega
  rw[this,cw];simp
 | succ k U =>
  by_cases O:n=0
  ·rw[O,cw];simp
  ·rw[mR O,ag2];rw[ik]at h;have:=U (n:=n / 1048576) (by omega);omega
theorem fN (n:Nat):(n:Int)<pw (aP n).length:=by
 have:=nI (cz n)
 rwa [bu]at this
theorem xB {n:Nat} (h:n≠0):pw ((aP n).length-1)<=n∧0<(aP n).length:=by
 induction n using Nat.strongRecOn with
 | _ n U =>
  rw[mR h,ag2];refine⟨?_,by omega⟩
  by_cases O:n / 1048576=0
  ·rw[O,cw];simp[mM];omega
  ·obtain⟨h1,h2⟩:=U (n / 1048576) (by omega) O;have:(aP (n / 1048576)).length+1-1=((aP (n / 1048576)).length-1)+1:=by omega
   rw[this,ik];omega
theorem s7 {x:Int} (h1 : -9223372036854775808<=x) (h2:x<9223372036854775808):j0 .and .i64 x 1048575=x % 1048576:=by
 unfold j0;simp only;have O:(BitVec.ofInt IntKind.i64.bits x &&& BitVec.ofInt IntKind.i64.bits 1048575).toNat=((x % 18446744073709551616).toNat) % 1048576:=by
  rw[BitVec.toNat_and,BitVec.toNat_ofInt,BitVec.toNat_ofInt];have e:((1048575:Int) % ((2 ^ IntKind.i64.bits:Nat):Int)).toNat=2 ^ 20-1:=by decide
  rw[e,aiY];rfl
 rw[O,wrap64 (by omega) (by omega)];omega
theorem aau {x:Int} (h1 : -9223372036854775808<=x) (h2:x<9223372036854775808):j0 .and .i64 x 1=x % 2:=by
 unfold j0;simp only;have O:(BitVec.ofInt IntKind.i64.bits x &&& BitVec.ofInt IntKind.i64.bits 1).toNat=((x % 18446744073709551616).toNat) % 2:=by
  rw[BitVec.toNat_and,BitVec.toNat_ofInt,BitVec.toNat_ofInt];have e:((1:Int) % ((2 ^ IntKind.i64.bits:Nat):Int)).toNat=2 ^ 1-1:=by decide
  rw[e,aiY];rfl
 rw[O,wrap64 (by omega) (by omega)];omega
theorem Pe (x:Int):BL .i64 x 20=some (x / 1048576):=by
 unfold BL;rw[if_neg (by decide)];have e:(2:Int) ^ (min (Int.toNat 20) IntKind.i64.bits)=1048576:=by decide
 rw[e,Int.fdiv_eq_ediv_of_nonneg _ (by decide)]
theorem Y4 {x:Int} (O:0<=x) (h:x<8796093022208):F6 .i64 x 20=some (1048576*x):=by
 unfold F6;rw[if_neg (by decide)];have e:(2:Int) ^ (min (Int.toNat 20) IntKind.i64.bits)=1048576:=by decide
 rw[e,wrap64 (by omega) (by omega),aiS]
theorem Rm {x y:Int} (Y:0<=x) (h:x<8796093022208) (Z:0<=y∧y<1048576):j0 .or .i64 (1048576*x) y=1048576*x+y:=by
 unfold j0;simp only;have O:(BitVec.ofInt IntKind.i64.bits (1048576*x) ||| BitVec.ofInt IntKind.i64.bits y).toNat=1048576*x.toNat+y.toNat:=by
  rw[BitVec.toNat_or,BitVec.toNat_ofInt,BitVec.toNat_ofInt];have e:((2 ^ IntKind.i64.bits:Nat):Int)=18446744073709551616:=by decide
  rw[e];have U:((1048576*x) % 18446744073709551616).toNat=x.toNat <<< 20:=by rw[Nat.shiftLeft_eq];omega
  have X:(y % 18446744073709551616).toNat=y.toNat:=by omega
  rw[U,X,<- Nat.shiftLeft_add_eq_or_of_lt (by omega),Nat.shiftLeft_eq];omega
 rw[O,wrap64 (by omega) (by omega)];omega
theorem mk0 {n:Nat} (h:n<=17592186044416):H5 8 (n:Int) (n:Int) (0:Int)=some (List.replicate n 0):=by
 unfold H5;rw[if_pos]
 ·simp
 ·have:(17592186044416:Int)<=maxLen:=by decide
  refine⟨by omega,by omega,by omega,?_⟩;simp only[Int.toNat_natCast];omega
theorem Bk {l m:List Int} (h:l.length+m.length<=17592186044416):mh 8 l m=some (l++m):=by
 unfold mh;have:(17592186044416:Nat)<=maxLen:=by decide
 rw[if_pos ⟨by omega,by omega⟩]
theorem dC {σ ρ:Type} {body:σ->Option (σ⊕ρ)} (I:Nat->σ->Prop) (n:Nat) (Q:ρ->Prop) {s:σ} (X:I 0 s) (hn:n+1<FU)
  (O:∀i s,i<=n->I i s->(i<n∧∃U,body s=some (.inl U)∧I (i+1) U)∨(∃r,body s=some (.inr r)∧Q r)):∃r,aS body s=some r∧Q r:=by
 have key:∀(k i:Nat) (s:σ),i<=n->n-i<k->I i s->∃r,nK body k s=some r∧Q r:=by
  intro k
  induction k with
  | zero=>intro i s _ h;omega
  | succ k Y =>
   intro i s Z hk X;rcases O i s Z X with⟨aa,U,h1,h2⟩|⟨r,h1,h2⟩
   ·obtain⟨r,h3,h4⟩:=Y (i+1) U (by omega) (by omega) h2;exact⟨r,by simp only[nK,h1];exact h3,h4⟩
   ·exact⟨r,by simp only[nK,h1],h2⟩
 exact key FU 0 s (agD _) (by omega) X
theorem T5 (i:Nat) (x:Int):pw (i+1)*x=pw i*(1048576*x):=by rw[ik,aiS 1048576 (pw i),aiW]
theorem uc (i:Nat) (t:Int):pw i*(t % 1048576)+pw (i+1)*(t / 1048576)=pw i*t:=by
 rw[T5,<- aiV];congr 1;omega
theorem jX {n:Nat} (h:n<=17592186044416):n+1<FU:=by unfold FU;omega
abbrev Fit (l:List Int):Prop:=l.length<=17592186044416
theorem gz {x:Int} (h : -4611686018427387904<=x∧x<=4611686018427387904):IntKind.i64.wrap x=x:=wrap64 (by omega) (by omega)
theorem ng {α:Type} (o:Option α):(o.bind fun r=>some r)=o:=by cases o<;>rfl
theorem Jd {l:List Int} (Z:Fit l):∃r,aS (kO l) (l.length:Int)=some r∧∃k:Nat,r=k∧k<=l.length∧(∀j (O:j<l.length),k<=j->l[j]=0)∧(∀h:0<k,∀hk:k-1<l.length,l[k-1]≠0):=by
 unfold Fit at Z;refine dC (I:=fun i s=>s=((l.length-i:Nat):Int)∧(∀j (O:j<l.length),l.length-i<=j->l[j]=0)) l.length _ ⟨rfl,fun j O h=>by omega⟩ (jX Z) ?_;rintro i s hi ⟨rfl,U⟩;generalize hk:l.length-i=k at *;simp only[kO]
 by_cases h0:0<k
 ·have X:k-1<l.length:=by omega
  have e:IntKind.i64.wrap ((k:Int)-1)=((k-1:Nat):Int):=by rw[gz (by omega)];omega
  rw[if_pos (by simp;omega),e,cj X,aih]
  by_cases hx:l[k-1]=0
  ·left;refine⟨by omega,_,by rw[if_pos (by simpa using hx)],by rw[show l.length-(i+1)=k-1 by omega],fun j O h =>?_⟩
   by_cases Y:j=k-1
   ·subst Y;exact hx
   ·exact U j O (by omega)
  ·right;exact⟨_,by rw[if_neg (by simpa using hx)],k,rfl,by omega,U,fun _ _=>hx⟩
 ·right;exact⟨_,by rw[if_neg (by simp;omega)],k,rfl,by omega,U,fun h=>absurd h h0⟩
theorem XP {l:List Int} {k:Nat} (O:∀j (X:j<l.length),k<=j->l[j]=0):dv (l.drop k)=0:=by
 have:l.drop k=List.replicate (l.drop k).length 0:=by
  refine List.eq_replicate_of_mem fun x U =>?_;obtain⟨i,Y,rfl⟩:=List.mem_iff_getElem.1 U;rw[List.getElem_drop];exact O _ _ (by omega)
 rw[this,yV]
theorem sC {l:List Int} (Y:Fit l) (Z:Dg l):ec l=some (aP (dv l).toNat):=by
 obtain⟨r,h1,k,rfl,hk,hz,O⟩:=Jd Y;unfold ec;rw[h1,aih,Kz hk,aih];congr 1;have h2:dv l=dv (l.take k):=by rw[iT l hk,XP hz];omega
 rw[h2];refine (BS (Z.take k) fun U =>?_).symm;have X:0<k:=by
  rcases agU k with h|h
  ·subst h;simp at U
  ·exact h
 have:=O X (by omega);rw[List.getLast_eq_getElem];simp only[agV,List.getElem_take,ahR hk];exact this
theorem B9 {l:List Int} {n:Nat} (O:Fit l) (U:Dg l) (X:dv l=n):ec l=some (aP n):=by
 rw[sC O U,X];rfl
def gd (l:List Int) (i:Nat):Int:=if h:i<l.length then l[i] else 0
theorem HK {l:List Int} (h:Dg l) (i:Nat):0<=gd l i∧gd l i<1048576:=by
 unfold gd;split
 ·exact h.get _
 ·omega
theorem pZ {l:List Int} (i:Nat):dv (l.take (i+1))=dv (l.take i)+pw i*gd l i:=by
 unfold gd;split
 ·exact fS _
 ·rw[ah5 (by omega),ah5 (by omega)];simp
theorem wU {l:List Int} {i:Nat} (h:l.length<=i):dv (l.take i)=dv l:=by rw[ah5 h]
theorem WL {a b:List Int} (ha:Dg a) (hb:Dg b) (hf:a.length<17592186044416) (Y:b.length<=a.length) :
  ∃r,aS (oS a b) (0,0,List.replicate (a.length+1) 0)=some r∧r.2.length=a.length+1∧Dg r.2∧(∀j (X:j<r.2.length),a.length<=j->r.2[j]=0)∧(0<=r.1∧r.1<=1)∧dv r.2+pw a.length*r.1=dv a+dv b:=by
 refine dC (I:=fun i s=>s.2.1=(i:Int)∧s.2.2.length=a.length+1∧Dg s.2.2∧(∀j (X:j<s.2.2.length),i<=j->s.2.2[j]=0)∧(0<=s.1∧s.1<=1)∧dv s.2.2+pw i*s.1=dv (a.take i)+dv (b.take i))
  a.length _ ⟨rfl,by simp,Dg.rep _,fun j X _=>by simp,by simp,by simp[yV,dv]⟩ (jX (by omega)) ?_
 rintro i ⟨c,s,l⟩ hi ⟨h1,Z,hd,hz,hc,he⟩;simp only at h1 Z hd hz hc he;subst h1;simp only[oS]
 by_cases O:i<a.length
 ·left;rw[if_pos (by simpa using O),cj O,aih];have ga:=ha.get O;have gb:=HK hb i;have hT:(if decide ((i:Int)<(b.length:Int))=true then (P.idx b (i:Int)).bind fun aa=>some (IntKind.i64.wrap ((IntKind.i64.wrap (c+a[i]))+aa)) else some (IntKind.i64.wrap (c+a[i])))=some (c+a[i]+gd b i):=by
   by_cases U:i<b.length
   ·rw[if_pos (by simpa using U),cj U,aih];have:gd b i=b[i]:=by unfold gd;rw[dif_pos U]
    rw[this]at gb ⊢;rw[gz (x:=c+a[i]) (by omega),gz (by omega)]
   ·rw[if_neg (by simpa using U)];have:gd b i=0:=by unfold gd;rw[dif_neg U]
    rw[this,gz (by omega)];simp
  rw[hT,aih,cj (by omega),aih,Pe,aih,s7 (by omega) (by omega)];have ab:l[i]=0:=hz i (by omega) (agC _);have e1:IntKind.i64.wrap ((i:Int)+1)=((i+1:Nat):Int):=by rw[gz (by omega)];omega
  refine⟨O,_,rfl,e1,by simpa using Z,hd.set _ (by omega),fun j X ag =>?_,by simp only;omega,?_⟩
  ·simp only[Int.toNat_natCast]at X ⊢;rw[aiZ (by omega)];exact hz j (by simpa using X) (by omega)
  ·simp only[Int.toNat_natCast];rw[rW (by omega),ab,pZ,pZ];have ad:gd a i=a[i]:=by unfold gd;rw[dif_pos O]
   rw[ad];have hp:=uc i (c+a[i]+gd b i);rw[aiV,aiV]at hp;rw[Int.sub_zero];omega
 ·right;have ae:i=a.length:=by omega
  subst ae;refine⟨_,by rw[if_neg (by simp)],Z,hd,fun j X h=>hz j X h,hc,?_⟩;rw[he,wU (agC _),wU Y]
theorem add_eq {a b:List Int} (Z:Dg a) (hb:Dg b) (U:a.length<17592186044416) (aa:b.length<17592186044416):pV a b=some (aP (dv a+dv b).toNat):=by
 have main:∀ {a b:List Int},Dg a->Dg b->a.length<17592186044416->b.length<=a.length ->
   ((H5 8 (IntKind.i64.wrap ((a.length:Int)+1)) (IntKind.i64.wrap ((a.length:Int)+1)) 0).bind fun x2 =>
    (aS (oS a b) (0,0,x2)).bind fun q=>match q with
    | (Y,O) =>
     (P.idx O (a.length:Int)).bind fun ae =>
     (ec (O.set ((a.length:Int)).toNat Y)).bind fun ab =>
     some ab)=some (aP (dv a+dv b).toNat):=by
  intro a b Z hb U ad;have e:IntKind.i64.wrap ((a.length:Int)+1)=((a.length+1:Nat):Int):=by rw[gz (by omega)];omega
  rw[e,mk0 (by omega),aih];obtain⟨⟨c,l⟩,h1,h2,h3,h4,h5,h6⟩:=WL Z hb U ad;rw[h1];simp only[Option.bind_some]at h2 h3 h4 h5 h6 ⊢;have X:a.length<l.length:=by omega
  rw[cj X,aih,ahE,ng];have hv:dv (l.set a.length c)=dv a+dv b:=by
   rw[rW X,h4 _ X (agC _),Int.sub_zero,h6]
  rw[sC (by simp[Fit];omega) (h3.set _ (by omega)),hv]
 unfold pV
 by_cases h:a.length<b.length
 ·rw[if_pos (by simpa using h),aih,Int.add_comm];exact main hb Z aa (by omega)
 ·rw[if_neg (by simpa using h),aih];exact main Z hb U (by omega)
theorem tl {l:List Int} (h:Fit l):dc l=some l:=by
 unfold dc;rw[Bk (by simpa using h),air]
theorem MJ {l:List Int} {i:Nat} (h:i<l.length):gd l i=l[i]:=by unfold gd;rw[dif_pos h]
theorem HL {l:List Int} {i:Nat} (h:l.length<=i):gd l i=0:=by unfold gd;rw[dif_neg (by omega)]
theorem Zt {a b:List Int} (ha:Dg a) (hb:Dg b) (hf:Fit a) (aa:b.length<=a.length) (hle:dv b<=dv a) :
  ∃l,aS (rR b a) (0,0,a)=some l∧l.length=a.length∧Dg l∧dv l=dv a-dv b:=by
 unfold Fit at hf;refine dC (I:=fun i s=>s.2.1=(i:Int)∧s.2.2.length=a.length∧Dg s.2.2∧(∀j (Z:j<s.2.2.length) (Y:j<a.length),i<=j->s.2.2[j]=a[j])∧(0<=s.1∧s.1<=1)∧dv s.2.2+dv (b.take i)=dv a+pw i*s.1)
  a.length _ ⟨rfl,rfl,ha,fun j Z _ _=>rfl,by simp,by simp[dv]⟩ (jX (by omega)) ?_
 rintro i ⟨c,s,l⟩ hi ⟨h1,hl,hd,hz,hc,he⟩;simp only at h1 hl hd hz hc he;subst h1;simp only[rR]
 by_cases O:i<a.length
 ·left;have U:i<l.length:=by omega
  rw[if_pos (by simpa using O),cj U,aih,hz i U O (agC _)];have ga:=ha.get O;have gb:=HK hb i;have hT:(if decide ((i:Int)<(b.length:Int))=true then (P.idx b (i:Int)).bind fun ab=>some (IntKind.i64.wrap ((IntKind.i64.wrap (a[i]-c))-ab)) else some (IntKind.i64.wrap (a[i]-c)))=some (a[i]-c-gd b i):=by
   by_cases X:i<b.length
   ·rw[if_pos (by simpa using X),cj X,aih];rw[MJ X]at gb ⊢;rw[gz (x:=a[i]-c) (by omega),gz (by omega)]
   ·rw[if_neg (by simpa using X),HL (by omega),gz (by omega)];simp
  rw[hT,aih,Pe,aih,s7 (by omega) (by omega),aau (by omega) (by omega)];have e1:IntKind.i64.wrap ((i:Int)+1)=((i+1:Nat):Int):=by rw[gz (by omega)];omega
  refine⟨O,_,rfl,e1,by simpa using hl,hd.set _ (by omega),fun j Z Y ah =>?_,by simp only;omega,?_⟩
  ·simp only[Int.toNat_natCast]at Z ⊢;rw[aiZ (by omega)];exact hz j (by simpa using Z) Y (by omega)
  ·simp only[Int.toNat_natCast];rw[rW U,hz i U O (agC _),pZ];have hp:=uc i (a[i]-c-gd b i);have ad:(a[i]-c-gd b i) / 1048576 % 2 = - ((a[i]-c-gd b i) / 1048576):=by omega
   rw[ad,Int.mul_neg];rw[ai0,ai0]at hp;rw[ai0];omega
 ·right;have ae:i=a.length:=by omega
  subst ae;refine⟨l,by rw[if_neg (by simp)],hl,hd,?_⟩;rw[wU aa]at he;have h1:=nI hd;rw[hl]at h1;have ag:c=0:=by
   rcases (show c=0∨c=1 by omega) with h|h
   ·exact h
   ·subst h;omega
  subst ag;omega
theorem sub_eq {a b:List Int} (X:Dg a) (Y:Dg b) (U:Fit a) (O:b.length<=a.length) (hle:dv b<=dv a):pW a b=some (aP (dv a-dv b).toNat):=by
 obtain⟨l,h1,h2,h3,h4⟩:=Zt X Y U O hle;unfold pW;rw[tl U,aih,h1,aih,ng,sC (by unfold Fit at *;omega) h3,h4]
theorem jG {l:List Int} {i:Nat} (h:i<l.length):dv (l.drop i)=l[i]+1048576*dv (l.drop (i+1)):=by
 rw[aiF h,dv]
theorem aaH {x d:Int} (h:0<=x) (O:0<d) (U:x<4611686018427387904):yS .i64 x d=some (x / d):=by
 unfold yS;rw[if_neg (by omega),Int.tdiv_eq_ediv_of_nonneg h,gz];have:=ai1 h (Int.le_of_lt O);have:=Int.ediv_le_self d h;omega
theorem adb {x d:Int} (h:0<=x) (O:0<d):Ed .i64 x d=some (x % d):=by
 unfold Ed;rw[if_neg (by omega),Int.tmod_eq_emod_of_nonneg h]
theorem Rt {a:List Int} {d:Int} (ha:Dg a) (X:0<d∧d<=1048576) (hf:Fit a) :
  ∃r,aS (nU a d) (0,IntKind.i64.wrap ((a.length:Int)-1),List.replicate a.length 0)=some r∧r.2.length=a.length∧Dg r.2∧(0<=r.1∧r.1<d)∧dv a=d*dv r.2+r.1:=by
 unfold Fit at hf;have e0:IntKind.i64.wrap ((a.length:Int)-1)=(a.length:Int)-1:=gz (by omega);rw[e0];refine dC (I:=fun i s=>s.2.1=((a.length-i:Nat):Int)-1∧s.2.2.length=a.length∧Dg s.2.2∧(0<=s.1∧s.1<d)∧dv (a.drop (a.length-i))=d*dv (s.2.2.drop (a.length-i))+s.1)
  a.length _ ⟨rfl,by simp,Dg.rep _,by simp;omega,by simp[dv]⟩ (jX (by omega)) ?_
 rintro i ⟨r,s,l⟩ hi ⟨h1,Y,Z,hr,he⟩;simp only at h1 Y Z hr he;subst h1;generalize hk:a.length-i=k at *;simp only[nU]
 by_cases h0:0<k
 ·left;have O:k-1<a.length:=by omega
  have U:k-1<l.length:=by omega
  have ek:((k:Int)-1)=((k-1:Nat):Int):=by omega
  have ga:=ha.get O;rw[ek,if_pos (by simp),Y4 (by omega) (by omega),aih,cj O,aih,Rm (by omega) (by omega) ga,aaH (by omega) X.1 (by omega),aih,cj U,aih,adb (by omega) X.1,aih];have e1:IntKind.i64.wrap (((k-1:Nat):Int)-1)=((k-1:Nat):Int)-1:=gz (by omega);have aa:0<=1048576*r+a[k-1]:=by omega
  have ab:0<=(1048576*r+a[k-1]) / d:=ai1 aa (by omega);have ad:(1048576*r+a[k-1]) / d<1048576:=by
   apply ai2 X.1;have:1048576*r<=1048576*(d-1):=aiU (by omega) (by omega);omega
  have ae:=Int.emod_nonneg (1048576*r+a[k-1]) (show d≠0 by omega);have ag:=ai3 (1048576*r+a[k-1]) X.1;refine⟨by omega,_,rfl,by rw[e1,show a.length-(i+1)=k-1 by omega],by simpa using Y,Z.set _ ⟨ab,ad⟩,⟨ae,ag⟩,?_⟩;simp only[Int.toNat_natCast];rw[show a.length-(i+1)=k-1 by omega,jG O,jG (l:=l.set (k-1) _) (i:=k-1) (by simpa using U),show k-1+1=k by omega,List.getElem_set_self,List.drop_set_of_lt (by omega),he];have:=ai4 (1048576*r+a[k-1]) d;rw[aiV,aiV];have e3:d*(1048576*dv (l.drop k))=1048576*(d*dv (l.drop k)):=by rw[<- aiW,aiS d,aiW]
  rw[e3];omega
 ·right;have:k=0:=by omega
  subst this;refine⟨(r,l),by rw[if_neg (by simp)],Y,Z,hr,?_⟩;simpa using he
theorem Pd {a:List Int} {d:Int} (U:Dg a) (X:0<d∧d<=1048576) (O:Fit a):mi a d=some (aP (dv a / d).toNat,dv a % d):=by
 obtain⟨⟨r,l⟩,h1,h2,h3,h4,h5⟩:=Rt U X O;unfold mi;rw[mk0 O,aih,h1,aih];simp only at h2 h3 h4 h5 ⊢;rw[sC (by unfold Fit at *;omega) h3,aih];have Y:dv a / d=dv l:=by
  rw[h5,aiS,Int.add_comm,Int.add_mul_ediv_right _ _ (by omega),Int.ediv_eq_zero_of_lt h4.1 h4.2];omega
 have Z:dv a % d=r:=by
  rw[h5,aiS,Int.add_comm,Int.add_mul_emod_self_right];exact Int.emod_eq_of_lt h4.1 h4.2
 rw[Y,Z]
theorem VM {b l0:List Int} {x:Int} {i n:Nat} (hb:Dg b) (hx:0<=x∧x<1048576) (h0:Dg l0) (hn:l0.length=n) (hi:i+b.length<n) (hf:n<=17592186044416) (X:∀j (Y:j<l0.length),i+b.length<=j->l0[j]=0) :
  ∃r,aS (rQ b (i:Int) x) (0,0,l0)=some r∧r.2.length=n∧Dg r.2∧(0<=r.1∧r.1<1048576)∧(∀j (Y:j<r.2.length),i+b.length<=j->r.2[j]=0)∧dv r.2+pw (i+b.length)*r.1=dv l0+pw i*(x*dv b):=by
 refine dC (I:=fun k s=>s.2.1=(k:Int)∧s.2.2.length=n∧Dg s.2.2∧(0<=s.1∧s.1<1048576)∧(∀j (Y:j<s.2.2.length),i+b.length<=j->s.2.2[j]=0)∧dv s.2.2+pw (i+k)*s.1=dv l0+pw i*(x*dv (b.take k)))
  b.length _ ⟨rfl,hn,h0,by simp,X,by simp[dv]⟩ (jX (by omega)) ?_
 rintro k ⟨c,s,l⟩ hk ⟨h1,hl,Z,hc,X,he⟩;simp only at h1 hl Z hc X he;subst h1;simp only[rQ]
 by_cases O:k<b.length
 ·left;have U:i+k<l.length:=by omega
  have ei:IntKind.i64.wrap ((i:Int)+(k:Int))=((i+k:Nat):Int):=by rw[gz (by omega)];omega
  have gb:=hb.get O;have gl:=Z.get U;have ad:0<=x*b[k]:=ai5 hx.1 gb.1;have ae:x*b[k]<=1048575*1048575:=ai6 (by omega) (by omega) gb.1 (by omega);rw[if_pos (by simpa using O),cj O,aih,ei,cj U,aih,gz (x:=x*b[k]) (by omega),gz (x:=l[i+k]+x*b[k]) (by omega),gz (x:=l[i+k]+x*b[k]+c) (by omega),Pe,aih,s7 (by omega) (by omega)];have e1:IntKind.i64.wrap ((k:Int)+1)=((k+1:Nat):Int):=by rw[gz (by omega)];omega
  refine⟨O,_,rfl,e1,by simpa using hl,Z.set _ (by omega),by simp only;omega,fun j Y aa =>?_,?_⟩
  ·simp only[Int.toNat_natCast]at Y ⊢;rw[aiZ (by omega)];exact X j (by simpa using Y) aa
  ·simp only[Int.toNat_natCast];rw[rW U,fS O];have hp:=uc (i+k) (l[i+k]+x*b[k]+c);rw[aiV (pw (i+k)),aiV (pw (i+k))]at hp;have e2:pw i*(x*(dv (b.take k)+pw k*b[k]))=pw i*(x*dv (b.take k))+pw (i+k)*(x*b[k]):=by
    rw[aiV,aiV,EV];congr 1;rw[ai7 x,<- aiW]
   rw[e2,ai0,show i+(k+1)=i+k+1 by omega];omega
 ·right;have ab:k=b.length:=by omega
  subst ab;refine⟨(c,l),by rw[if_neg (by simp)],hl,Z,hc,X,?_⟩;rw[he,aiL]
theorem VL {a b:List Int} (ha:Dg a) (hb:Dg b) (hf:a.length+b.length<=17592186044416) :
  ∃l,aS (rP a b) (0,List.replicate (a.length+b.length) 0)=some l∧l.length=a.length+b.length∧Dg l∧dv l=dv a*dv b:=by
 refine dC (I:=fun i s=>s.1=(i:Int)∧s.2.length=a.length+b.length∧Dg s.2∧(∀j (X:j<s.2.length),i+b.length<=j->s.2[j]=0)∧dv s.2=dv (a.take i)*dv b)
  a.length _ ⟨rfl,by simp,Dg.rep _,fun j X _=>by simp,by simp[dv,yV]⟩ (jX (by omega)) ?_
 rintro i ⟨s,l⟩ hi ⟨h1,Y,Z,hz,he⟩;simp only at h1 Y Z hz he;subst h1;simp only[rP]
 by_cases O:i<a.length
 ·left;have ga:=ha.get O;obtain⟨⟨c,m⟩,g1,g2,g3,g4,g5,g6⟩:=VM (i:=i) (n:=a.length+b.length) hb ga Z Y (by omega) hf hz;rw[if_pos (by simpa using O),cj O,aih,g1,aih];simp only at g2 g3 g4 g5 g6 ⊢;have ei:IntKind.i64.wrap ((i:Int)+(b.length:Int))=((i+b.length:Nat):Int):=by rw[gz (by omega)];omega
  have U:i+b.length<m.length:=by omega
  rw[ei,cj U,aih,g5 _ U (agC _),Int.zero_add,gz (x:=c) (by omega)];have e1:IntKind.i64.wrap ((i:Int)+1)=((i+1:Nat):Int):=by rw[gz (by omega)];omega
  refine⟨O,_,rfl,e1,by simpa using g2,g3.set _ g4,fun j X ab =>?_,?_⟩
  ·simp only[Int.toNat_natCast]at X ⊢;rw[aiZ (by omega)];exact g5 j (by simpa using X) (by omega)
  ·simp only[Int.toNat_natCast];rw[rW U,g5 _ U (agC _),Int.sub_zero,g6,he,fS O,ai8,aiW]
 ·right;have aa:i=a.length:=by omega
  subst aa;refine⟨l,by rw[if_neg (by simp)],Y,Z,?_⟩;rw[he,aiL]
theorem mul_eq {a b:List Int} (U:Dg a) (X:Dg b) (O:a.length+b.length<=17592186044416):nT a b=some (aP (dv a*dv b).toNat):=by
 obtain⟨l,h1,h2,h3,h4⟩:=VL U X O;unfold nT;have e:IntKind.i64.wrap ((a.length:Int)+(b.length:Int))=((a.length+b.length:Nat):Int):=by rw[gz (by omega)];omega
 rw[e,mk0 O,aih,h1,aih,ng,sC (by unfold Fit;omega) h3,h4]
def mj (x y:Int):Int:=if x<y then -1 else if y<x then 1 else 0
theorem CR (x y:Int):gh x y=some (mj x y):=by
 unfold gh ox mj;simp only[bne_self_eq_false,Option.bind_some,ahc,if_false,decide_eq_true_eq];split
 ·rfl
 ·split<;>rfl
theorem L0 {a b:List Int} (X:Dg a) (Y:Dg b) (Z:Fit a) (hl:a.length=b.length):gg a b=some (mj (dv a) (dv b)):=by
 unfold Fit at Z;unfold gg;rw[if_neg (by simp;omega)];have e0:IntKind.i64.wrap ((a.length:Int)-1)=(a.length:Int)-1:=gz (by omega);rw[e0];have key:∃r,aS (lq a b) ((a.length:Int)-1)=some r∧(match r with | .inl _=>mj (dv a) (dv b)=0 | .inr x=>x=mj (dv a) (dv b)):=by
  refine dC (I:=fun i s=>s=((a.length-i:Nat):Int)-1∧a.drop (a.length-i)=b.drop (a.length-i)) a.length _ ⟨rfl,?_⟩ (jX Z) ?_
  ·rw[aiu (by omega),aiu (by omega)]
  rintro i s hi ⟨rfl,he⟩;generalize hk:a.length-i=k at *;simp only[lq]
  by_cases h0:0<k
  ·have h1:k-1<a.length:=by omega
   have h2:k-1<b.length:=by omega
   have ek:((k:Int)-1)=((k-1:Nat):Int):=by omega
   rw[ek,if_pos (by simp),cj h1,aih,cj h2,aih]
   by_cases U:a[k-1]=b[k-1]
   ·left;rw[if_neg (by simpa using U)];refine⟨by omega,_,rfl,by rw[gz (by omega)];omega,?_⟩;rw[show a.length-(i+1)=k-1 by omega,aiF h1,aiF h2,U,show k-1+1=k by omega,he]
   ·right;rw[if_pos (by simpa using U),CR,aih];refine⟨_,rfl,?_⟩;simp only;have ea:=iT a (i:=k) (by omega);have eb:=iT b (i:=k) (by omega);have ta:=fS h1;have tb:=fS h2;rw[show k-1+1=k by omega]at ta tb;have la:=nI (X.take (k-1));have lb:=nI (Y.take (k-1));rw[agV,ahR (by omega)]at la lb;have na:=cO (X.take (k-1));have nb:=cO (Y.take (k-1));have hp:=my (k-1);rw[ta]at ea;rw[tb]at eb;rw[he]at ea;unfold mj;rcases Int.lt_or_gt_of_ne U with O|O
    ·have:pw (k-1)*a[k-1]+pw (k-1)<=pw (k-1)*b[k-1]:=by
      have:pw (k-1)*(a[k-1]+1)<=pw (k-1)*b[k-1]:=aiU (by omega) (by omega)
      rwa [aiV,aiT]at this
     rw[if_pos O,if_pos (by omega)]
    ·have:pw (k-1)*b[k-1]+pw (k-1)<=pw (k-1)*a[k-1]:=by
      have:pw (k-1)*(b[k-1]+1)<=pw (k-1)*a[k-1]:=aiU (by omega) (by omega)
      rwa [aiV,aiT]at this
     rw[if_neg (by omega),if_pos O,if_neg (by omega),if_pos (by omega)]
  ·right;have:k=0:=by omega
   subst this;refine⟨.inl (),by rw[if_neg (by simp)],?_⟩;simp only[ah6]at he;simp[he,mj]
 obtain⟨r,h1,h2⟩:=key;rw[h1,aih];cases r with
 | inl u=>simp only at h2 ⊢;rw[h2]
 | inr x=>simp only at h2 ⊢;rw[h2]
theorem tp {m n:Nat} (h:(aP m).length<(aP n).length):m<n:=by
 have h1:=fN m;have O:n≠0:=fun U=>by subst U;rw[cw]at h;simp at h
 have h2:=xB O;have h3:=qg (i:=(aP m).length) (j:=(aP n).length-1) (by omega);omega
theorem cA {m n:Nat} (h:m<=n):(aP m).length<=(aP n).length:=by
 rcases ahn (aP n).length (aP m).length with h1|h1
 ·have:=tp h1;omega
 ·exact h1
theorem wq {m n:Nat} (hm:Fit (aP m)) (U:Fit (aP n)):gg (aP m) (aP n)=some (mj m n):=by
 by_cases O:(aP m).length=(aP n).length
 ·rw[L0 (cz m) (cz n) hm O,bu,bu]
 ·unfold gg;rw[if_pos (by simp;omega),CR,ng];unfold mj;rcases Nat.lt_or_gt_of_ne O with h|h
  ·have:=tp h;rw[if_pos (by omega),if_pos (by omega)]
  ·have:=tp h;rw[if_neg (by omega),if_pos (by omega),if_neg (by omega),if_pos (by omega)]
theorem Kx {u v:List Int} {g:Int} (hu:Dg u) (hv:Dg v) (hg:0<=g∧g<=1048576) (hf:Fit u) (hl:v.length<=u.length) :
  ∃r,aS (kn u v g) (0,0,u)=some r∧r.2.length=u.length∧Dg r.2∧(0<=r.1∧r.1<=1048576)∧dv r.2+g*dv v=dv u+pw u.length*r.1:=by
 unfold Fit at hf;refine dC (I:=fun i s=>s.2.1=(i:Int)∧s.2.2.length=u.length∧Dg s.2.2∧(∀j (hj:j<s.2.2.length) (Z:j<u.length),i<=j->s.2.2[j]=u[j])∧(0<=s.1∧s.1<=1048576)∧dv s.2.2+g*dv (v.take i)=dv u+pw i*s.1)
  u.length _ ⟨rfl,rfl,hu,fun j hj _ _=>rfl,by simp,by simp[dv]⟩ (jX (by omega)) ?_
 rintro i ⟨c,s,l⟩ hi ⟨h1,Y,hd,hz,hc,he⟩;simp only at h1 Y hd hz hc he;subst h1;simp only[kn]
 by_cases O:i<u.length
 ·left;have U:i<l.length:=by omega
  rw[if_pos (by simpa using O),cj U,aih,hz i U O (agC _)];have ga:=hu.get O;have gb:=HK hv i;have aa:0<=g*gd v i:=ai5 hg.1 gb.1;have ab:g*gd v i<=1048576*1048575:=ai6 (by omega) (by omega) gb.1 (by omega);have hT:(if decide ((i:Int)<(v.length:Int))=true then (P.idx v (i:Int)).bind fun ad=>some (IntKind.i64.wrap ((IntKind.i64.wrap (u[i]-c))-(IntKind.i64.wrap (g*ad)))) else some (IntKind.i64.wrap (u[i]-c)))=some (u[i]-c-g*gd v i):=by
   by_cases X:i<v.length
   ·rw[if_pos (by simpa using X),cj X,aih];rw[MJ X]at gb aa ab ⊢;rw[gz (x:=u[i]-c) (by omega),gz (x:=g*v[i]) (by omega),gz (by omega)]
   ·rw[if_neg (by simpa using X),HL (by omega),gz (by omega)];simp
  rw[hT,aih,Pe,aih,s7 (by omega) (by omega),gz (x:=0-_) (by omega)];have e1:IntKind.i64.wrap ((i:Int)+1)=((i+1:Nat):Int):=by rw[gz (by omega)];omega
  refine⟨O,_,rfl,e1,by simpa using Y,hd.set _ (by omega),fun j hj Z ag =>?_,by simp only;omega,?_⟩
  ·simp only[Int.toNat_natCast]at hj ⊢;rw[aiZ (by omega)];exact hz j (by simpa using hj) Z (by omega)
  ·simp only[Int.toNat_natCast];rw[rW U,hz i U O (agC _),pZ];have hp:=uc i (u[i]-c-g*gd v i);rw[ai0 (pw i),ai0 (pw i)]at hp;have e2:g*(dv (v.take i)+pw i*gd v i)=g*dv (v.take i)+pw i*(g*gd v i):=by rw[aiV,ai7]
   rw[e2,ai0 (pw i),ai0 (pw (i+1)),ai9];omega
 ·right;have ae:i=u.length:=by omega
  subst ae;refine⟨(c,l),by rw[if_neg (by simp)],Y,hd,hc,?_⟩;rw[wU hl]at he;exact he
theorem Ky {u v:List Int} (hu:Dg u) (hv:Dg v) (hf:Fit u) (hl:v.length<=u.length) :
  ∃l,aS (ko v u) (0,0,u)=some l∧l.length=u.length∧Dg l∧∃c,0<=c∧dv l+pw u.length*c=dv u+dv v:=by
 unfold Fit at hf;refine dC (I:=fun i s=>s.2.1=(i:Int)∧s.2.2.length=u.length∧Dg s.2.2∧(∀j (hj:j<s.2.2.length) (Z:j<u.length),i<=j->s.2.2[j]=u[j])∧(0<=s.1∧s.1<=1)∧dv s.2.2+pw i*s.1=dv u+dv (v.take i))
  u.length _ ⟨rfl,rfl,hu,fun j hj _ _=>rfl,by simp,by simp[dv]⟩ (jX (by omega)) ?_
 rintro i ⟨c,s,l⟩ hi ⟨h1,Y,hd,hz,hc,he⟩;simp only at h1 Y hd hz hc he;subst h1;simp only[ko]
 by_cases O:i<u.length
 ·left;have U:i<l.length:=by omega
  rw[if_pos (by simpa using O),cj U,aih,hz i U O (agC _)];have ga:=hu.get O;have gb:=HK hv i;have hT:(if decide ((i:Int)<(v.length:Int))=true then (P.idx v (i:Int)).bind fun aa=>some (IntKind.i64.wrap ((IntKind.i64.wrap (c+u[i]))+aa)) else some (IntKind.i64.wrap (c+u[i])))=some (c+u[i]+gd v i):=by
   by_cases X:i<v.length
   ·rw[if_pos (by simpa using X),cj X,aih];rw[MJ X]at gb ⊢;rw[gz (x:=c+u[i]) (by omega),gz (by omega)]
   ·rw[if_neg (by simpa using X),HL (by omega),gz (by omega)];simp
  rw[hT,aih,Pe,aih,s7 (by omega) (by omega)];have e1:IntKind.i64.wrap ((i:Int)+1)=((i+1:Nat):Int):=by rw[gz (by omega)];omega
  refine⟨O,_,rfl,e1,by simpa using Y,hd.set _ (by omega),fun j hj Z ad =>?_,by simp only;omega,?_⟩
  ·simp only[Int.toNat_natCast]at hj ⊢;rw[aiZ (by omega)];exact hz j (by simpa using hj) Z (by omega)
  ·simp only[Int.toNat_natCast];rw[rW U,hz i U O (agC _),pZ];have hp:=uc i (c+u[i]+gd v i);rw[aiV (pw i),aiV (pw i)]at hp;rw[ai0 (pw i)];omega
 ·right;have ab:i=u.length:=by omega
  subst ab;refine⟨l,by rw[if_neg (by simp)],Y,hd,c,hc.1,?_⟩;rw[wU hl]at he;exact he
theorem VY {u v:List Int} {g:Int} (hu:Dg u) (X:Dg v) (hf:Fit u) (hl:v.length<=u.length) (hV:0<dv v) (ag:dv u / dv v<=g) (ah:g<=dv u / dv v+1) (Y:g<=1048576) :
  ∃l,fR u v g=some (l,dv u / dv v)∧l.length=u.length∧Dg l∧dv l=dv u % dv v:=by
 have ai:0<=dv u / dv v:=ai1 (cO hu) (by omega);obtain⟨⟨c,l⟩,h1,h2,h3,h4,h5⟩:=Kx hu X ⟨by omega,Y⟩ hf hl;simp only at h2 h3 h4 h5;have hm:=ai4 (dv u) (dv v);have aj:=Int.emod_nonneg (dv u) (show dv v≠0 by omega);have ak:=ai3 (dv u) hV;have Z:=nI h3;have al:=cO h3;rw[h2]at Z;have hp:=my u.length;have an:dv v<pw u.length:=Int.lt_of_lt_of_le (nI X) (qg hl);unfold fR oT;rw[h1,aih];simp only;rcases (show g=dv u / dv v∨g=dv u / dv v+1 by omega) with U|U
 ·have aa:g*dv v=dv v*(dv u / dv v):=by rw[U,aiS]
  have O:c=0:=by
   rcases (show c=0∨1<=c by omega) with h|h
   ·exact h
   ·have:pw u.length*1<=pw u.length*c:=aiU h (by omega);omega
  subst O;rw[if_pos (by simp),aih,if_pos (by simpa using h2)];exact⟨l,by rw[U],h2,h3,by rw[ai9]at h5;omega⟩
 ·have aa:g*dv v=dv v*(dv u / dv v)+dv v:=by rw[U,ai8,aja,aiS]
  have O:c≠0:=by
   intro h;subst h;rw[ai9]at h5;omega
  obtain⟨m,g1,g2,g3,d,g4,g5⟩:=Ky h3 X (by unfold Fit at *;omega) (by omega);rw[if_neg (by simpa using O),g1,aih,aih,if_pos (by simp;omega)];refine⟨m,by rw[gz (by omega),U];simp,by omega,g3,?_⟩;rw[h2]at g5;have ab:=nI g3;have ae:=cO g3;rw[g2,h2]at ab;have ad:c=d:=by
   rcases aiN c d with h|h|h
   ·have:pw u.length*(c+1)<=pw u.length*d:=aiU (by omega) (by omega);rw[aiV,aiT]at this;omega
   ·exact h
   ·have:pw u.length*(d+1)<=pw u.length*c:=aiU (by omega) (by omega);rw[aiV,aiT]at this;omega
  subst ad;omega
theorem QZ {v u:List Int} {s13:Int} {v1 v2 O T V W:Int} {n:Nat} (hn:2<=n) (hlen:v.length=n) (aq:n<=17592186044416) (i:Nat) (hs:s13=i) (ar:i+n<=17592186044416)
  (ab:P.idx v (((n-2:Nat)):Int)=some v2) (ad:P.idx u (((i+n-2:Nat)):Int)=some O)
  (b1:524288<=v1∧v1<1048576) (b2:0<=v2∧v2<1048576) (bw:0<=O∧O<1048576) (ae:0<=T) (au:T<1048576*1048576)
  (hV:pw (n-2)*(v1*1048576+v2)<=V∧V<pw (n-2)*(v1*1048576+v2+1)) (hW:pw (n-2)*(T*1048576+O)<=W∧W<pw (n-2)*(T*1048576+O+1)) (ag:W<1048576*V) :
  ∃g,aS (rO v s13 u v1) (T / v1,T % v1)=some g∧W / V<=g∧g<=W / V+1∧g<=1048576:=by
 subst hs;have hp:=my (n-2);have X:0<V:=by
  have:pw (n-2)*1<=pw (n-2)*(v1*1048576+v2):=aiU (by omega) (by omega);omega
 have ah:0<=W:=by
  have:0<=pw (n-2)*(T*1048576+O):=ai5 (by omega) (by omega);omega
 have av:0<=W / V:=ai1 ah (by omega);have aw:W / V<1048576:=ai2 X ag;have hm:=ai4 T v1;have ai:=Int.emod_nonneg T (show v1≠0 by omega);have ax:=ai3 T (show 0<v1 by omega);have ay:0<=T / v1:=ai1 ae (by omega);have aj:T / v1<=2097152:=by
  have:T / v1<2097153:=ai2 (by omega) (by
   have:2097153*524288<=2097153*v1:=aiU b1.1 (by omega);omega)
  omega
 have ak:∀g r:Int,g*v1+r=T->W / V<=g->g*v2>r*1048576+O->W / V<=g-1:=by
  intro g r h1 h2 h3;have h4:W<g*V:=by
   have e1:g*(v1*1048576+v2)>=T*1048576+O+1:=by
    rw[<- h1];have:g*(v1*1048576+v2)=g*v1*1048576+g*v2:=by rw[aiV,aiW]
    rw[this,ai8];omega
   have e2:pw (n-2)*(T*1048576+O+1)<=pw (n-2)*(g*(v1*1048576+v2)):=aiU e1 (by omega);have e3:g*(pw (n-2)*(v1*1048576+v2))<=g*V:=aiU hV.1 (by omega);have e4:pw (n-2)*(g*(v1*1048576+v2))=g*(pw (n-2)*(v1*1048576+v2)):=ai7 _ _ _;omega
  have:=ai2 X h4;omega
 have hle:∀g r:Int,g*v1+r=T->0<=g->g<=1048576->g*v2<=r*1048576+O->g<=W / V+1:=by
  intro g r h1 h0 hB h3;have e1:g*(v1*1048576+v2)<=T*1048576+O:=by
   rw[<- h1];have:g*(v1*1048576+v2)=g*v1*1048576+g*v2:=by rw[aiV,aiW]
   rw[this,ai8];omega
  have e2:g*V<=W+V:=by
   have f1:g*V<=g*(pw (n-2)*(v1*1048576+v2+1)):=aiU (by omega) h0;have f2:g*(pw (n-2)*(v1*1048576+v2+1))=pw (n-2)*(g*(v1*1048576+v2))+pw (n-2)*g:=by
    rw[ai7,aiV g,aiT,aiV]
   have f3:pw (n-2)*(g*(v1*1048576+v2))<=pw (n-2)*(T*1048576+O):=aiU e1 (by omega);have f4:pw (n-2)*g<=pw (n-2)*(v1*1048576+v2):=aiU (by omega) (by omega);omega
  have e3:(g-1)*V<=W:=by rw[Int.sub_mul,aja];omega
  have:=Int.le_ediv_of_mul_le X e3;omega
 have Y:W / V<=T / v1:=by
  have e1:W<(T / v1+1)*V:=by
   have f1:T+1<=(T / v1+1)*v1:=by
    have:(T / v1+1)*v1=v1*(T / v1)+v1:=by rw[ai8,aja,aiS]
    omega
   have f2:T*1048576+O+1<=(T / v1+1)*(v1*1048576+v2):=by
    have g1:(T+1)*1048576<=(T / v1+1)*v1*1048576:=ajb f1 (by omega);have g2:0<=(T / v1+1)*v2:=ai5 (by omega) b2.1;rw[aiV,<- aiW];omega
   have f3:pw (n-2)*(T*1048576+O+1)<=pw (n-2)*((T / v1+1)*(v1*1048576+v2)):=aiU f2 (by omega);have f4:(T / v1+1)*(pw (n-2)*(v1*1048576+v2))<=(T / v1+1)*V:=aiU hV.1 (by omega);have f5:pw (n-2)*((T / v1+1)*(v1*1048576+v2))=(T / v1+1)*(pw (n-2)*(v1*1048576+v2)):=ai7 _ _ _;omega
  have:=ai2 X e1;omega
 refine qW (I:=fun (s:Int×Int)=>s.1*v1+s.2=T∧W / V<=s.1∧s.1<=2097152∧0<=s.2) (μ:=fun (s:Int×Int)=>s.1.toNat) _ ⟨?_,Y,aj,ai⟩ (by unfold FU;omega) ?_
 ·show T / v1*v1+T % v1=T;rw[aiS];exact hm
 rintro⟨g,r⟩ ⟨h1,h2,h3,h4⟩;simp only at h1 h2 h3 h4;have az:0<=g*v1:=ai5 (by omega) (by omega);simp only[rO];have el:IntKind.i64.wrap ((v.length:Int)-2)=((n-2:Nat):Int):=by rw[hlen,gz (by omega)];omega
 have ei:IntKind.i64.wrap ((IntKind.i64.wrap ((i:Int)+(v.length:Int)))-2)=((i+n-2:Nat):Int):=by rw[hlen,gz (x:=(i:Int)+n) (by omega),gz (by omega)];omega
 rw[el,ei];have U:W / V<=g-1->∃Z:Int×Int,(some (Sum.inl (IntKind.i64.wrap (g-1),IntKind.i64.wrap (r+v1))):Option ((Int×Int)⊕Int))=some (.inl Z)∧(Z.1*v1+Z.2=T∧W / V<=Z.1∧Z.1<=2097152∧0<=Z.2)∧Z.1.toNat<g.toNat:=by
  intro al;refine⟨_,rfl,?_⟩;rw[gz (x:=g-1) (by omega),gz (x:=r+v1) (by omega)];simp only;refine⟨⟨by rw[Int.sub_mul,aja];omega,al,by omega,by omega⟩,by omega⟩
 by_cases aa:g>=1048576
 ·rw[if_pos (by simpa using aa),aih,if_pos rfl];exact .inl (U (by omega))
 ·rw[if_neg (by simpa using aa)]
  by_cases hr:r<1048576
  ·have ao:0<=g*v2:=ai5 (by omega) b2.1;have an:g*v2<=1048576*1048576:=ai6 (by omega) (by omega) b2.1 (by omega);rw[if_pos (by simpa using hr),ab,aih,Y4 h4 (by omega),aih,ad,aih,gz (x:=g*v2) (by omega),Rm h4 (by omega) bw,aih]
   by_cases ht:g*v2>1048576*r+O
   ·rw[if_pos (by simpa using ht)];exact .inl (U (ak g r h1 h2 (by omega)))
   ·rw[if_neg (by simpa using ht)];exact .inr ⟨g,rfl,h2,hle g r h1 (by omega) (by omega) (by omega),by omega⟩
  ·rw[if_neg (by simpa using hr),aih,if_neg (by simp)];refine .inr ⟨g,rfl,h2,hle g r h1 (by omega) (by omega) ?_,by omega⟩;have:g*v2<=1048575*1048575:=ai6 (by omega) (by omega) b2.1 (by omega);have:1048576*1048576<=r*1048576:=ajb (by omega) (by omega);omega
theorem ads {α:Type} {l:List α} {a b:Nat} (h:a<=b) (O:b<=l.length):Fc l (a:Int) (b:Int)=some ((l.drop a).take (b-a)):=by
 unfold Fc;rw[if_pos ⟨by omega,by omega,by omega⟩];simp
theorem aaJ {l:List Int} {n:Nat} (Y:l.length=n) (Z:2<=n) (O:Dg l) :
  pw (n-2)*((l[n-1]'(by omega))*1048576+l[n-2]'(by omega))<=dv l∧dv l<pw (n-2)*((l[n-1]'(by omega))*1048576+l[n-2]'(by omega)+1):=by
 have e:=iT l (i:=n-2) (by omega);rw[jG (by omega),jG (i:=n-2+1) (by omega),aiu (by omega)]at e;have U:l[n-2+1]'(by omega)=l[n-1]'(by omega):=by congr 1;omega
 rw[U]at e;have h1:=cO (O.take (n-2));have h2:=nI (O.take (n-2));rw[agV,ahR (by omega)]at h2;simp only[dv]at e;have X:l[n-2]'(by omega)+1048576*(l[n-1]'(by omega)+1048576*0)=(l[n-1]'(by omega))*1048576+l[n-2]'(by omega):=by omega
 rw[X]at e;rw[aiV (pw (n-2)) _ 1,aiT];omega
theorem aaK {l:List Int} {n:Nat} (Z:l.length=n+1) (hn:2<=n) (O:Dg l) :
  pw (n-2)*((1048576*(l[n]'(by omega))+l[n-1]'(by omega))*1048576+l[n-2]'(by omega))<=dv l∧dv l<pw (n-2)*((1048576*(l[n]'(by omega))+l[n-1]'(by omega))*1048576+l[n-2]'(by omega)+1):=by
 have e:=iT l (i:=n-2) (by omega);rw[jG (by omega),jG (i:=n-2+1) (by omega),jG (i:=n-2+1+1) (by omega),aiu (by omega)]at e;have U:l[n-2+1]'(by omega)=l[n-1]'(by omega):=by congr 1;omega
 have X:l[n-2+1+1]'(by omega)=l[n]'(by omega):=by congr 1;omega
 rw[U,X]at e;have h1:=cO (O.take (n-2));have h2:=nI (O.take (n-2));rw[agV,ahR (by omega)]at h2;simp only[dv]at e;have Y:l[n-2]'(by omega)+1048576*(l[n-1]'(by omega)+1048576*(l[n]'(by omega)+1048576*0))=(1048576*(l[n]'(by omega))+l[n-1]'(by omega))*1048576+l[n-2]'(by omega):=by omega
 rw[Y]at e;rw[aiV (pw (n-2)) _ 1,aiT];omega
theorem Xz {v u0:List Int} {n m:Nat} (hv:Dg v) (O:v.length=n) (hn:2<=n) (al:524288<=v[n-1]'(by omega)) (hu:Dg u0) (an:u0.length=m+n) (hf:m+n<=17592186044416) (X:dv (u0.drop m)<dv v) :
  ∃r,aS (rN v) ((m:Int)-1,u0,List.replicate m 0)=some r∧r.1.length=m+n∧Dg r.1∧r.2.length=m∧Dg r.2∧dv r.1+dv v*dv r.2=dv u0∧dv r.1<dv v:=by
 have ao:=nI hv;rw[O]at ao;refine dC (I:=fun i s=>s.1=((m-i:Nat):Int)-1∧s.2.1.length=m+n∧Dg s.2.1∧s.2.2.length=m∧Dg s.2.2∧(∀j (hj:j<s.2.2.length),j<m-i->s.2.2[j]=0)∧dv s.2.1+dv v*dv s.2.2=dv u0∧dv (s.2.1.drop (m-i))<dv v)
  m _ ⟨rfl,an,hu,by simp,Dg.rep _,fun j hj _=>by simp,by simp[yV],X⟩ (jX (by omega)) ?_
 rintro i ⟨s,u,q⟩ hi ⟨h1,hl,U,Z,aa,hz,he,X⟩;simp only at h1 hl U Z aa hz he X;subst h1;generalize hk:m-i=k at *;simp only[rN]
 by_cases h0:0<k
 ·left;have ek:((k:Int)-1)=((k-1:Nat):Int):=by omega
  rw[ek,if_pos (by simp)];have e1:IntKind.i64.wrap (((k-1:Nat):Int)+(v.length:Int))=((k-1+n:Nat):Int):=by rw[O,gz (by omega)];omega
  have e2:IntKind.i64.wrap (((k-1+n:Nat):Int)-1)=((k-1+n-1:Nat):Int):=by rw[gz (by omega)];omega
  have e3:IntKind.i64.wrap ((v.length:Int)-1)=((n-1:Nat):Int):=by rw[O,gz (by omega)];omega
  have e4:IntKind.i64.wrap (((k-1+n:Nat):Int)+1)=((k-1+n+1:Nat):Int):=by rw[gz (by omega)];omega
  have e5:IntKind.i64.wrap (((k-1:Nat):Int)-1)=((k-1:Nat):Int)-1:=gz (by omega);rw[e1,e2,e3,e4,e5];have i1:k-1+n<u.length:=by omega
  have i2:k-1+n-1<u.length:=by omega
  have i3:k-1+n-2<u.length:=by omega
  have iv:n-1<v.length:=by omega
  have ae:n-2<v.length:=by omega
  have g1:=U.get i1;have g2:=U.get i2;have g3:=U.get i3;have gv:=hv.get iv;have aq:=hv.get ae;rw[cj i1,aih,Y4 g1.1 (by omega),aih,cj i2,aih,cj iv,aih,Rm g1.1 (by omega) g2,aaH (by omega) (by omega) (by omega),aih,adb (by omega) (by omega),aih,ads (by omega) (by omega),show k-1+n+1-(k-1)=n+1 by omega];generalize hw:(u.drop (k-1)).take (n+1)=w;have ar:w.length=n+1:=by rw[<- hw,agV,agW];omega
  have Y:Dg w:=by rw[<- hw];exact (U.drop _).take _
  have ab:∀j (hj:j<n+1),w[j]'(by omega)=u[k-1+j]'(by omega):=by
   intro j hj;subst hw;rw[List.getElem_take,List.getElem_drop]
  have ag:dv (u.drop (k+n))=0:=by
   have s1:=iT (u.drop k) (i:=n) (by rw[agW];omega);rw[aiw]at s1;have n1:=cO ((U.drop k).take n);have n2:=cO (U.drop (k+n));have hp:=my n;rcases (show dv (u.drop (k+n))=0∨1<=dv (u.drop (k+n)) by omega) with h|h
   ·exact h
   ·have:pw n*1<=pw n*dv (u.drop (k+n)):=aiU h (by omega);omega
  have hW:dv w=dv (u.drop (k-1)):=by
   have s1:=iT (u.drop (k-1)) (i:=n+1) (by rw[agW];omega);rw[aiw,show k-1+(n+1)=k+n by omega,ag,hw]at s1;omega
  have ax:dv w=u[k-1]+1048576*dv (u.drop k):=by
   rw[hW,jG (by omega),show k-1+1=k by omega]
  have gk:=U.get (show k-1<u.length by omega);have ah:dv w<1048576*dv v:=by omega
  have t2:=aaJ O hn hv;have t3:=aaK ar hn Y;rw[ab n (by omega),ab (n-1) (by omega),ab (n-2) (by omega)]at t3;have a1:u[k-1+(n-1)]'(by omega)=u[k-1+n-1]'(by omega):=by congr 1;omega
  have a2:u[k-1+(n-2)]'(by omega)=u[k-1+n-2]'(by omega):=by congr 1;omega
  rw[a1,a2]at t3;obtain⟨g,q1,q2,q3,q4⟩:=QZ (s13:=((k-1:Nat):Int)) hn O (by omega) (k-1) rfl (by omega) (cj ae) (cj i3) ⟨al,gv.2⟩ aq g3 (T:=1048576*u[k-1+n]+u[k-1+n-1]) (by omega) (by omega) t2 t3 ah;rw[q1,aih,aih];have ad:0<dv v:=by
   have:=cO Y;omega
  obtain⟨l,r1,r2,r3,r4⟩:=VY Y hv (by unfold Fit;omega) (by omega) ad q2 q3 q4;have iq:k-1<q.length:=by omega
  rw[r1,aih,cj iq,aih];simp only;have au:0<=dv w / dv v:=ai1 (cO Y) (by omega);have av:dv w / dv v<1048576:=ai2 ad ah;have ai:=ai3 (dv w) ad;simp only[Int.toNat_natCast];have aj:dv (l++u.drop (k-1+n+1))=dv w % dv v:=by
   rw[gj,show k-1+n+1=k+n by omega,ag,r4];omega
  have ak:(u.take (k-1)).length=k-1:=by rw[agV];omega
  have aw:dv (u.take (k-1)++(l++u.drop (k-1+n+1)))=dv (u.take (k-1))+pw (k-1)*(dv w % dv v):=by rw[gj,ak,aj]
  refine⟨by omega,_,rfl,by rw[show m-(i+1)=k-1 by omega],?_,(U.take _).append (r3.append (U.drop _)),by simpa using Z,aa.set _ ⟨au,av⟩,fun j hj ay =>?_,?_,?_⟩
  ·simp only[ahO,agV,agW];omega
  ·rw[aiZ (by omega)];exact hz j (by simpa using hj) (by omega)
  ·rw[aw,rW iq,hz _ iq (by omega),Int.sub_zero,aiV];have s2:=iT u (i:=k-1) (by omega);rw[<- hW]at s2;have hm:=ai4 (dv w) (dv v);have:pw (k-1)*dv w=dv v*(pw (k-1)*(dv w / dv v))+pw (k-1)*(dv w % dv v):=by
    rw[ai7,<- aiV,hm]
   omega
  ·rw[show m-(i+1)=k-1 by omega,ait,ak,ahQ,ah6,aiu (by omega),air,aj];exact ai
 ·right;have:k=0:=by omega
  subst this;refine⟨(u,q),by rw[if_neg (by simp)],hl,U,Z,aa,he,?_⟩;simpa using X
theorem Rs {v:List Int} {t:Int} {n:Nat} (U:v.length=n) (hn:0<n) (hf:n<=17592186044416) (X:v[n-1]'(by omega)=t) (h1:1<=t) (h2:t<1048576) :
  ∃s,aS (rM v) 1=some s∧∃j:Nat,s=2 ^ j∧j<=19∧524288<=t*s∧t*s<1048576:=by
 refine dC (I:=fun i s=>s=2 ^ i∧t*s<1048576) 20 _ ⟨rfl,by omega⟩ (by unfold FU;omega) ?_;rintro i s hi ⟨rfl,Y⟩;have hp:(0:Int)<2 ^ i:=Int.pow_pos (by decide);have Z:(2:Int) ^ i<=t*2 ^ i:=by
  have:1*(2:Int) ^ i<=t*2 ^ i:=ajb h1 (by omega);omega
 have O:i<=19:=by
  rcases ahn 19 i with h|h
  ·have hx:i=20:=by omega
   subst hx;omega
  ·exact h
 simp only[rM];have e:IntKind.i64.wrap ((v.length:Int)-1)=((n-1:Nat):Int):=by rw[U,gz (by omega)];omega
 rw[e,cj (by omega),aih,X,gz (x:=t*2 ^ i) (by omega)]
 by_cases h:t*2 ^ i<524288
 ·left;rw[if_pos (by simpa using h)];refine⟨by omega,_,rfl,by rw[gz (by omega),Int.pow_succ],?_⟩;rw[gz (by omega),<- aiW];omega
 ·right;rw[if_neg (by simpa using h)];exact⟨_,rfl,i,rfl,O,by omega,Y⟩
theorem div_eq {m n:Nat} (hn:n≠0) (aQ:(aP m).length<=17592186043904) (aR:(aP n).length<=17592186043904):rL (aP m) (aP n)=some (aP (m / n),aP (m % n)):=by
 unfold rL;rw[wq (by unfold Fit;omega) (by unfold Fit;omega),aih]
 by_cases ah:m<n
 ·have:mj (m:Int) n<0:=by unfold mj;rw[if_pos (by omega)];decide
  rw[if_pos (by simpa using this),tl (by unfold Fit;omega),aih,ajc ah,ahA ah,cw]
 have:¬mj (m:Int) n<0:=by unfold mj;rw[if_neg (by omega)];split<;>decide
 rw[if_neg (by simpa using this)];obtain⟨aS,aT⟩:=xB hn;have ai:=fN n
 by_cases h1:(aP n).length=1
 ·rw[if_pos (by simp;omega)];have aU:(n:Int)<1048576:=by rw[h1]at ai;simpa [pw] using ai
  have e:aP n=[(n:Int)]:=by
   rw[mR hn,ajc (by omega),cw,ahA (by omega)]
  have ei:P.idx (aP n) 0=some (n:Int):=by rw[e];rfl
  rw[ei,aih,Pd (cz m) ⟨by omega,by omega⟩ (by unfold Fit;omega),aih,bu];have ar:(m:Int) % n=((m % n:Nat):Int):=(Int.natCast_emod m n).symm;have au:((m:Int) / n).toNat=m / n:=by
   rw[<- Int.natCast_ediv];rfl
  have aV:m % n<n:=ahy _ (by omega);simp only[ar,au];rw[B9 (n:=m % n) (by simp[Fit]) (Dg.mk (by omega) Dg.nil) (by simp[dv]),aih]
 ·rw[if_neg (by simp;omega)];generalize hN:(aP n).length=N at *;have av:2<=N:=by omega
  have ad:=cz n;have gt:=ad.get (show N-1<(aP n).length by omega);generalize ht:(aP n)[N-1]'(by omega)=t at gt;have O:=iT (aP n) (i:=N-1) (by omega);rw[bu,jG (by omega),aiu (by omega),ht]at O;simp only[dv,ai9,ajd]at O;have aw:=cO (ad.take (N-1));have ax:=nI (ad.take (N-1));rw[agV,ahR (by omega)]at ax;have aW:=my (N-1);have ay:1<=t:=by
   rcases (show t=0∨1<=t by omega) with h|h
   ·subst h;omega
   ·exact h
  obtain⟨s,az,j,aj,hj,aA,ae⟩:=Rs hN (by omega) (by omega) ht ay gt.2;have aB:(2:Int) ^ j<=524288:=by
   have:∀j:Nat,j<=19->(2:Int) ^ j<=524288:=by decide
   exact this j hj
  have aC:(0:Int)<2 ^ j:=Int.pow_pos (by decide);have aD:(t+1)*s<=1048576:=by
   have aE:(1048576:Int)=2 ^ (20-j)*2 ^ j:=by rw[<- Int.pow_add,Nat.sub_add_cancel (by omega)];rfl
   rw[aE]at ae ⊢;rw[aj]at ae ⊢;have:t<2 ^ (20-j):=Int.lt_of_mul_lt_mul_right ae (by omega);exact ajb (by omega) (by omega)
  rw[<- aj]at aC aB;obtain⟨S,rfl⟩:∃S:Nat,s=S:=⟨s.toNat,by omega⟩;have ak:Dg [(S:Int)]:=Dg.mk (by omega) Dg.nil;have Y:dv [(S:Int)]=S:=by simp[dv]
  rw[az,aih,mul_eq (cz m) ak (by simp;omega),aih,bu,Y];have em:((m:Int)*S).toNat=m*S:=by rw[<- ahD];rfl
  have en:((n:Int)*S).toNat=n*S:=by rw[<- ahD];rfl
  rw[em];have aX:(aP (m*S)).length<=(aP m).length+1:=by
   apply gK;rw[ik,ahD];have X:=fN m;have:(m:Int)*S<=m*1048576:=aiU (by omega) (by omega);omega
  have hU:∃u,((if ((((aP (m*S)++[0]).length:Int))==((aP m).length:Int))=true then (mh 8 (aP (m*S)++[0]) [0]).bind fun aF=>some aF else some (aP (m*S)++[0]))=some u)∧Dg u∧dv u=(m*S:Nat)∧dv u<pw (u.length-1)∧(aP (m*S)).length+1<=u.length∧u.length<=(aP m).length+3:=by
   have d1:Dg (aP (m*S)++[0]):=(cz _).append (Dg.mk (by omega) Dg.nil);have v1:dv (aP (m*S)++[0])=(m*S:Nat):=by rw[gj,bu];simp[dv]
   have v2:=fN (m*S);split
   ·rw[Bk (by simp;omega),aih];refine⟨_,rfl,d1.append (Dg.mk (by omega) Dg.nil),by rw[gj,v1];simp[dv],?_,by simp,by simp;omega⟩;rw[gj,v1];simp only[dv,ahO,List.length_cons,List.length_nil];have:=qg (i:=(aP (m*S)).length) (j:=(aP (m*S)).length+1) (by omega);rw[show (aP (m*S)).length+(0+1)+(0+1)-1=(aP (m*S)).length+1 by omega];omega
   ·refine⟨_,rfl,d1,v1,?_,by simp,by simp;omega⟩;rw[v1];simpa using v2
  obtain⟨u,aG,al,aH,aY,aZ,a6⟩:=hU;rw[Bk (by simp;omega),aih,mul_eq (cz n) ak (by simp;omega),aih,bu,Y,en,aG,aih];have aO:524288*pw (N-1)<=((n*S:Nat):Int):=by
   rw[ahD,O,ai8];have X:0<=dv ((aP n).take (N-1))*S:=ai5 aw (by omega);have a2:pw (N-1)*524288<=pw (N-1)*(t*S):=aiU aA (by omega);rw[aiW];omega
  have an:((n*S:Nat):Int)<pw N:=by
   have a0:pw N=1048576*pw (N-1):=by rw[<- ik];congr 1;omega
   rw[a0,ahD,O];have X:(dv ((aP n).take (N-1))+pw (N-1)*t+1)*S<=(pw (N-1)*(t+1))*S:=ajb (by rw[aiV];omega) (by omega);have a2:pw (N-1)*((t+1)*S)<=pw (N-1)*1048576:=aiU aD (by omega);rw[aiW]at X;rw[ai8 _ 1,aja]at X;omega
  have ao:(aP (n*S)).length=N:=by
   have X:=gK an;rcases ahn (aP (n*S)).length N with h|h
   ·have a2:=fN (n*S);have a3:=qg (i:=(aP (n*S)).length) (j:=N-1) (by omega);omega
   ·omega
  have aI:524288<=(aP (n*S))[N-1]'(by omega):=by
   have X:=iT (aP (n*S)) (i:=N-1) (by omega);rw[bu,jG (by omega),aiu (by omega)]at X;simp only[dv,ai9,ajd]at X;have a2:=nI ((cz (n*S)).take (N-1));rw[agV,ahR (by omega)]at a2;have a3:pw (N-1)*524288<pw (N-1)*((aP (n*S))[N-1]'(by omega)+1):=by rw[aiV];omega
   have:=Int.lt_of_mul_lt_mul_left a3 (by omega);omega
  have hlen:N+1<=u.length:=by
   have:n*S<=m*S:=ahp _ (by omega);have:=cA this;omega
  obtain⟨M,hM⟩:∃M,u.length=M+N:=⟨u.length-N,by omega⟩;have e1:IntKind.i64.wrap ((u.length:Int)-((aP (n*S)).length:Int))=(M:Int):=by rw[ao,hM,gz (by omega)];omega
  rw[e1,mk0 (by omega),aih,List.length_replicate,gz (x:=(M:Int)-1) (by omega)];have aJ:dv (u.drop M)<dv (aP (n*S)):=by
   rw[bu];have X:=iT u (i:=M) (by omega);have a2:=cO (al.take M);have a3:pw M*dv (u.drop M)<pw M*pw (N-1):=by
    rw[<- EV,show M+(N-1)=u.length-1 by omega];omega
   have:=Int.lt_of_mul_lt_mul_left a3 (by have:=my M;omega);omega
  obtain⟨⟨U,Q⟩,r1,r2,r3,r4,r5,r6,r7⟩:=Xz (cz (n*S)) ao av aI al hM (by omega) aJ;simp only at r2 r3 r4 r5 r6 r7;rw[r1,aih];simp only;rw[bu,aH]at r6;rw[bu]at r7;have a7:=cO r3;have a8:=cO r5;have hS:0<S:=by omega
  have aK:0<n*S:=Nat.mul_pos (by omega) hS;obtain⟨Z,ag⟩:∃k:Nat,dv U=k:=⟨(dv U).toNat,by omega⟩;obtain⟨Q',aq⟩:∃k:Nat,dv Q=k:=⟨(dv Q).toNat,by omega⟩;rw[ag,aq]at r6;rw[ag]at r7;have aa:Z+n*S*Q'=m*S:=by
   have:((Z+n*S*Q':Nat):Int)=((m*S:Nat):Int):=by rw[Int.natCast_add,ahD (n*S) Q'];exact r6
   omega
  have ab:Z<n*S:=by omega
  have aL:Q'=m / n:=by
   have:m*S / (n*S)=Q':=by
    rw[<- aa,Nat.add_mul_div_left _ _ aK,ajc ab,ahr]
   rw[<- this,Nat.mul_div_mul_right _ _ hS]
  have aM:Z=(m % n)*S:=by
   have:m*S % (n*S)=Z:=by rw[<- aa,Nat.add_mul_mod_self_left,ahA ab]
   rw[<- this,Nat.mul_mod_mul_right]
  rw[B9 (n:=Z) (by unfold Fit;omega) r3 ag,aih];have aN:(aP Z).length<=N:=gK (by omega);rw[Pd (cz Z) ⟨by omega,by omega⟩ (by unfold Fit;omega),aih,B9 (n:=Q') (by unfold Fit;omega) r5 aq,aih,bu,aL,aM];have:((((m % n)*S:Nat):Int) / (S:Int)).toNat=m % n:=by
   rw[ahD,Int.mul_ediv_cancel _ (by omega)];rfl
  rw[this]
def eW (x:Int):aD:=aD.mk x.sign (aP x.natAbs)
def Ln (x:Int):Nat:=(aP x.natAbs).length
def eO:Nat:=4398046511104
def mc:Nat:=17592186043904
theorem qL {n:Nat} (h:n<=eO):n<=mc:=agE h (by decide)
theorem Eb:eW 0=aD.mk 0 []:=by unfold eW;rw[show (0:Int).natAbs=0 from rfl,cw];rfl
theorem TL {x y:Int} (h:eW x=eW y):x=y:=by
 unfold eW at h;simp only[aD.mk.injEq]at h;have:=Xx h.2;have h1:=Int.sign_mul_natAbs x;have h2:=Int.sign_mul_natAbs y;rw[<- h1,<- h2,h.1,this]
theorem K0 {x:Int} {k:Nat} (h:(x.natAbs:Int)<pw k):Ln x<=k:=gK h
theorem TI (x:Int):(x.natAbs:Int)<pw (Ln x):=fN _
theorem Si {x y:Int} (h:x.natAbs<=y.natAbs):Ln x<=Ln y:=cA h
theorem Cf (x:Int):Ln (-x)=Ln x:=by unfold Ln;rw[Int.natAbs_neg]
theorem P6 (x y:Int):Ln (x+y)<=max (Ln x) (Ln y)+1:=by
 apply K0;have h1:=TI x;have h2:=TI y;have h3:=qg (i:=Ln x) (j:=max (Ln x) (Ln y)) (by omega);have h4:=qg (i:=Ln y) (j:=max (Ln x) (Ln y)) (by omega);have h5:=Int.natAbs_add_le x y;rw[ik];omega
theorem me (x y:Int):Ln (x*y)<=Ln x+Ln y:=by
 apply K0;have h1:=TI x;have h2:=TI y;rw[aje,ahD,EV];have O:=my (Ln x)
 calc (x.natAbs:Int)*y.natAbs<=pw (Ln x)*y.natAbs:=ajb (by omega) (by omega)
  _<pw (Ln x)*pw (Ln y):=Int.mul_lt_mul_of_pos_left h2 O
theorem Cg {x:Int} (h:x.natAbs<1048576):Ln x<=1:=K0 (by rw[ik,mM];omega)
theorem aar:Ln 0=0:=by unfold Ln;rw[show (0:Int).natAbs=0 from rfl,cw];rfl
instance (l:List Int):Decidable (Dg l):=by unfold Dg;infer_instance
def okB (b:aD):Bool:=decide (Dg b.aa)&&(match b.aa.getLast? with|none=>b.aj==0|some d=>(b.aj==1||b.aj == -1)&&d != 0)
theorem yk {b:aD} : okB b=true↔∃x,b=eW x:=by
 obtain⟨s,l⟩:=b;unfold okB;simp only[ahd,decide_eq_true_eq];constructor
 ·rintro⟨Z,h⟩;cases X:l.getLast? with
  | none =>
   rw[X]at h;have:l=[]:=List.getLast?_eq_none_iff.1 X;subst this;exact⟨0,by rw[Eb];simpa using h⟩
  | some d =>
   rw[X]at h;simp only[ahd,aii,beq_iff_eq,bne_iff_ne]at h;have O:l≠[]:=by intro h0;subst h0;simp at X
   have U:∀h:l≠[],l.getLast h≠0:=by
    intro h';rw[ajf h']at X;cases X;exact h.2
   have e:=BS Z U;have h0:(dv l).toNat≠0:=by
    intro h0;rw[h0,cw]at e;exact O e.symm
   have hn:=cO Z;refine⟨s*dv l,?_⟩;unfold eW;rcases h.1 with rfl|rfl
   ·rw[aja,ajg (by omega)];have:(dv l).natAbs=(dv l).toNat:=by omega
    rw[this,e]
   ·rw[Int.neg_mul,aja,Int.sign_neg,ajg (by omega)];have:(-dv l).natAbs=(dv l).toNat:=by omega
    rw[this,e]
 ·rintro⟨x,Y⟩;unfold eW at Y;simp only[aD.mk.injEq]at Y;obtain⟨rfl,rfl⟩:=Y;refine⟨cz _,?_⟩
  by_cases h0:x=0
  ·subst h0;simp[cw]
  ·have O:aP x.natAbs≠[]:=fun h=>h0 (by have:=qQ.1 h;omega);rw[ajf O];have h1:=U9 _ O;simp only[ahd,aii,beq_iff_eq,bne_iff_ne];refine⟨?_,h1⟩;rcases aiN x 0 with h|h|h
   ·right;exact ajh h
   ·exact absurd h h0
   ·left;exact ajg h
theorem Kc (x:Int):okB (eW x)=true:=yk.2 ⟨x,rfl⟩
theorem E3 {b:aD} (hf:Fit b.aa):cX b=some (okB b):=by
 obtain⟨s,l⟩:=b;simp only[Fit]at hf;have key:∃r,aS (nS ⟨s,l⟩) 0=some r∧(match r with | .inl _=>Dg l | .inr x=>x=false∧¬Dg l):=by
  refine dC (I:=fun i s=>s=(i:Int)∧Dg (l.take i)) l.length _ ⟨rfl,by simpa using Dg.nil⟩ (jX hf) ?_;rintro i s hi ⟨rfl,Y⟩;simp only[nS]
  by_cases O:i<l.length
  ·rw[if_pos (by simpa using O),cj O,aih]
   by_cases h1:l[i]<0
   ·right;exact⟨.inr false,by rw[if_pos (by simpa using h1)],rfl,fun Z=>by have:=Z.get O;omega⟩
   ·by_cases h2:l[i]>1048575
    ·right;exact⟨.inr false,by rw[if_neg (by simpa using h1),if_pos (by simpa using h2)],rfl,fun Z=>by have:=Z.get O;omega⟩
    ·left;refine⟨O,_,by rw[if_neg (by simpa using h1),if_neg (by simpa using h2)],by rw[gz (by omega)];omega,?_⟩;have e:l.take (i+1)=l.take i++[l[i]]:=by rw[aiX];simp[O]
     rw[e];exact Y.append (Dg.mk (by omega) Dg.nil)
  ·right;have:i=l.length:=by omega
   subst this;rw[aiL]at Y;exact⟨.inl (),by rw[if_neg (by simp)],Y⟩
 obtain⟨r,h1,h2⟩:=key;unfold cX okB;rw[h1,aih];cases r with
 | inr x =>
  obtain⟨rfl,h⟩:=h2;simp[h]
 | inl u =>
  simp only at h2 ⊢;simp only[h2,decide_true,ah8]
  by_cases X:l=[]
  ·subst X;simp
  ·have hp:0<l.length:=aiA.2 X;have e:IntKind.i64.wrap ((l.length:Int)-1)=((l.length-1:Nat):Int):=by rw[gz (by omega)];omega
   rw[if_neg (by simpa using X),e,cj (by omega),ajf X,List.getLast_eq_getElem];simp only[Option.bind_some]
   by_cases hs:s=1
   ·subst hs;simp
   ·rw[if_neg (by simpa using hs)]
    by_cases U:s = -1
    ·subst U;simp
    ·rw[if_neg (by simpa using U)];simp[hs,U]
theorem gP {x:Int} (h:Ln x<=17592186044416):cX (eW x)=some true:=by
 rw[E3 (show Fit (eW x).aa from h),Kc]
theorem rj {s:Int} {l:List Int} (x:Int) (O:Fit l) (U:Dg l) (X:dv l=x.natAbs) (hs:x≠0->s=x.sign):da s l=some (eW x):=by
 unfold da;rw[B9 O U X,aih]
 by_cases h0:x=0
 ·subst h0;rw[show (0:Int).natAbs=0 from rfl,cw,Eb];rfl
 ·have:aP x.natAbs≠[]:=fun h=>h0 (by have:=qQ.1 h;omega);rw[if_neg (by simpa using this),hs h0];rfl
theorem lr (b:aD):eD true b=some (b,0):=rfl
theorem ot (x:Int):x.sign = -1∨x.sign=0∨x.sign=1:=by
 rcases aiN x 0 with h|h|h
 ·left;exact ajh h
 ·subst h;right;left;rfl
 ·right;right;exact ajg h
theorem P7 {x:Int} (h:Ln x<=eO):nR (eW x)=some (eW (-x)):=by
 unfold nR;have U:eO=4398046511104:=rfl;rw[gP (by omega),aih];simp only[ah7,ahc,if_false];have O:Fit (eW x).aa:=by unfold Fit;show Ln x<=_;omega
 rw[tl O,aih,rj (-x) O (cz _) (by show dv (aP _)=_;rw[bu,Int.natAbs_neg]),aih];intro X;show IntKind.i64.wrap (0-x.sign)=_;rw[gz (by have:=ot x;omega),Int.sign_neg,Int.zero_sub]
theorem abC (s t:Int):tn [s,t]=some (if s≠0 then s else t):=by
 have key:∃r,aS (uX [s,t]) 0=some r∧(match r with | .inl _=>s=0∧t=0 | .inr x=>x=if s≠0 then s else t):=by
  refine dC (I:=fun i j=>j=(i:Int)∧(1<=i->s=0)∧(2<=i->t=0)) 2 _ ⟨rfl,by omega,by omega⟩ (by unfold FU;omega) ?_;rintro i j O ⟨rfl,h1,h2⟩;simp only[uX];rcases (show i=0∨i=1∨i=2 by omega) with rfl|rfl|rfl
  ·rw[if_pos (by simp)];show _∨∃r,((some s).bind _=_)∧_;rw[show P.idx [s,t] ((0:Nat):Int)=some s from rfl,aih]
   by_cases hs:s=0
   ·left;exact⟨by omega,_,by rw[if_neg (by simpa using hs)],by rw[gz (by omega)];rfl,fun _=>hs,by omega⟩
   ·right;exact⟨_,by rw[if_pos (by simpa using hs)],by simp[hs]⟩
  ·have hs:=h1 (by omega);rw[if_pos (by simp),show P.idx [s,t] ((1:Nat):Int)=some t from rfl,aih]
   by_cases ht:t=0
   ·left;exact⟨by omega,_,by rw[if_neg (by simpa using ht)],by rw[gz (by omega)];rfl,fun _=>hs,fun _=>ht⟩
   ·right;exact⟨_,by rw[if_pos (by simpa using ht)],by simp[hs]⟩
  ·right;exact⟨.inl (),by rw[if_neg (by simp)],h1 (by omega),h2 (by omega)⟩
 obtain⟨r,h1,h2⟩:=key;unfold tn;rw[h1,aih];cases r with
 | inl u=>simp only at h2 ⊢;rw[if_neg (by simp[h2.1]),h2.2]
 | inr x=>simp only at h2 ⊢;rw[h2]
theorem iA (x:Int):x.sign=1∧x=x.natAbs∧0<x∨x.sign = -1∧x = -x.natAbs∧x<0∨x.sign=0∧x=0:=by
 rcases aiN x 0 with h|h|h
 ·right;left;exact⟨ajh h,by omega,h⟩
 ·subst h;right;right;exact⟨rfl,rfl⟩
 ·left;exact⟨ajg h,by omega,h⟩
theorem oI {x:Int} {s:Int} {n:Nat} (O:n=x.natAbs) (hs:x≠0->s=x.sign) (U:n≠0->(aP n).length<=17592186044416):da s (aP n)=some (eW x):=by
 subst O;refine rj x ?_ (cz _) (bu _) hs;unfold Fit
 by_cases h:x.natAbs=0
 ·rw[h,cw];simp
 ·exact U h
theorem acA {x y:Int} (hx:Ln x<=eO) (hy:Ln y<=eO):uR (eW x) (eW y)=some (eW (x+y),0):=by
 have hL:eO=4398046511104:=rfl;have ag:=P6 x y;unfold uR;rw[gP (by omega),aih];simp only[ah7,ahc,if_false];rw[gP (by omega),aih,aih];simp only[ah7,ahc,if_false];show (if decide (IntKind.i64.wrap (x.sign*y.sign)>=0)=true then _ else _)=_;have Z:(eW x).aa=aP x.natAbs:=rfl;have ab:(eW y).aa=aP y.natAbs:=rfl;have ad:(eW x).aj=x.sign:=rfl;have ae:(eW y).aj=y.sign:=rfl;rw[Z,ab,ad,ae];have fx:(aP x.natAbs).length<=4398046511104:=by show Ln x<=_;omega
 have fy:(aP y.natAbs).length<=4398046511104:=by show Ln y<=_;omega
 have sx:=iA x;have sy:=iA y;have hw:IntKind.i64.wrap (x.sign*y.sign)=x.sign*y.sign:=by
  apply gz;rcases ot x with h|h|h<;>rcases ot y with g|g|g<;>rw[h,g]<;>decide
 rw[hw]
 by_cases hs:x.sign*y.sign>=0
 ·rw[if_pos (by simpa using hs),abC,aih,add_eq (cz _) (cz _) (by omega) (by omega),aih,bu,bu];have hn:((x.natAbs:Int)+y.natAbs).toNat=(x+y).natAbs:=by
   rcases sx with⟨a,b,c⟩|⟨a,b,c⟩|⟨a,b⟩<;>rcases sy with⟨O,U,X⟩|⟨O,U,X⟩|⟨O,U⟩<;>first|omega|(rw[a,O]at hs;exact absurd hs (by decide))
  rw[hn,oI (x:=x+y) rfl ?_ (fun _=>by show Ln (x+y)<=_;omega),aih,lr,aih];intro h0;rcases sx with⟨a,b,c⟩|⟨a,b,c⟩|⟨a,b⟩<;>rcases sy with⟨O,U,X⟩|⟨O,U,X⟩|⟨O,U⟩<;>(try (rw[a,O]at hs;exact absurd hs (by decide)))<;>rw[a,O]
  ·rw[if_pos (by decide),ajg (by omega)]
  ·rw[if_pos (by decide),ajg (by omega)]
  ·rw[if_pos (by decide),ajh (by omega)]
  ·rw[if_pos (by decide),ajh (by omega)]
  ·rw[if_neg (by decide),ajg (by omega)]
  ·rw[if_neg (by decide),ajh (by omega)]
  ·omega
 ·rw[if_neg (by simpa using hs),wq (by unfold Fit;omega) (by unfold Fit;omega),aih];have Y:x.sign=1∧y.sign = -1∧0<x∧y<0∨x.sign = -1∧y.sign=1∧x<0∧0<y:=by
   rcases sx with⟨a,b,c⟩|⟨a,b,c⟩|⟨a,b⟩<;>rcases sy with⟨O,U,X⟩|⟨O,U,X⟩|⟨O,U⟩<;>first|exact .inl ⟨a,O,c,X⟩|exact .inr ⟨a,O,c,X⟩|(rw[a,O]at hs;exact absurd (by decide) hs)
  by_cases ah:x.natAbs<y.natAbs
  ·have:mj (x.natAbs:Int) y.natAbs<0:=by unfold mj;rw[if_pos (by omega)];decide
   rw[if_pos (by simpa using this),sub_eq (cz _) (cz _) (by unfold Fit;omega) (cA (by omega)) (by rw[bu,bu];omega),aih,bu,bu];rw[oI (x:=x+y) (by omega) ?_ (fun _=>by rw[show ((y.natAbs:Int)-x.natAbs).toNat=(x+y).natAbs by omega];show Ln (x+y)<=_;omega),aih,lr,aih];intro h0;rcases Y with⟨a,O,b,U⟩|⟨a,O,b,U⟩
   ·rw[O,ajh (by omega)]
   ·rw[O,ajg (by omega)]
  ·have:¬mj (x.natAbs:Int) y.natAbs<0:=by unfold mj;rw[if_neg (by omega)];split<;>decide
   rw[if_neg (by simpa using this),sub_eq (cz _) (cz _) (by unfold Fit;omega) (cA (by omega)) (by rw[bu,bu];omega),aih,bu,bu];rw[oI (x:=x+y) (by omega) ?_ (fun _=>by rw[show ((x.natAbs:Int)-y.natAbs).toNat=(x+y).natAbs by omega];show Ln (x+y)<=_;omega),aih,lr,aih];intro h0;rcases Y with⟨a,O,b,U⟩|⟨a,O,b,U⟩
   ·rw[a,ajg (by omega)]
   ·rw[a,ajh (by omega)]
theorem acE {x y:Int} (hx:Ln x<=eO) (hy:Ln y<=eO):uT (eW x) (eW y)=some (eW (x*y),0):=by
 have hL:eO=4398046511104:=rfl;have Z:=me x y;unfold uT;rw[gP (by omega),aih];simp only[ah7,ahc,if_false];rw[gP (by omega),aih,aih];simp only[ah7,ahc,if_false];have O:(eW x).aa=aP x.natAbs:=rfl;have U:(eW y).aa=aP y.natAbs:=rfl;have X:(eW x).aj=x.sign:=rfl;have Y:(eW y).aj=y.sign:=rfl;rw[O,U,X,Y];have fx:(aP x.natAbs).length<=4398046511104:=by show Ln x<=_;omega
 have fy:(aP y.natAbs).length<=4398046511104:=by show Ln y<=_;omega
 have hw:IntKind.i64.wrap (x.sign*y.sign)=(x*y).sign:=by
  rw[Int.sign_mul];apply gz;rcases ot x with h|h|h<;>rcases ot y with g|g|g<;>rw[h,g]<;>decide
 rw[hw,mul_eq (cz _) (cz _) (by omega),aih,bu,bu];have hn:((x.natAbs:Int)*y.natAbs).toNat=(x*y).natAbs:=by rw[aje,<- ahD];rfl
 rw[hn,oI (x:=x*y) rfl (fun _=>rfl) (fun _=>by show Ln (x*y)<=_;omega),aih,lr,aih]
theorem pI {x y:Int} (O:Ln x<=eO) (U:Ln y<=eO):db (eW x) (eW y)=some (eW (x*y)):=by
 unfold db;rw[acE O U];rfl
theorem Wu {x y:Int} (hx:Ln x<=eO) (hy:Ln y<=eO) (h0:0<y) (hd:y∣x):nQ (eW x) (eW y)=some (eW (x / y),eW 0,0):=by
 have hL:eO=4398046511104:=rfl;unfold nQ;rw[gP (by omega),aih];simp only[ah7,ahc,if_false];rw[gP (by omega),aih,aih];simp only[ah7,ahc,if_false];have O:(eW x).aa=aP x.natAbs:=rfl;have U:(eW y).aa=aP y.natAbs:=rfl;have X:(eW x).aj=x.sign:=rfl;have Y:(eW y).aj=1:=ajg h0;rw[O,U,X,Y];have fx:(aP x.natAbs).length<=4398046511104:=by show Ln x<=_;omega
 have fy:(aP y.natAbs).length<=4398046511104:=by show Ln y<=_;omega
 have fq:=cA (Nat.div_le_self x.natAbs y.natAbs);obtain⟨z,rfl⟩:=hd;have Z:y*z / y=z:=Int.mul_ediv_cancel_left _ (by omega);have hn:(y*z).natAbs=y.natAbs*z.natAbs:=aje _ _;have hq:(y*z).natAbs / y.natAbs=z.natAbs:=by rw[hn,Nat.mul_div_cancel_left _ (by omega)]
 have hr:(y*z).natAbs % y.natAbs=0:=by rw[hn,Nat.mul_mod_right]
 have ab:(y*z).sign=z.sign:=by rw[Int.sign_mul,ajg h0,aja]
 rw[if_neg (by decide),div_eq (by omega) (by omega) (by omega),aih,aiT,ab,gz (x:=z.sign) (by have:=ot z;omega),Z,hq,hr,cw];rw[hq]at fq;have hT:(if decide (z.sign<0)=true then some (decide ((([]:List Int).length:Int)>0)) else some false)=some false:=by split<;>rfl
 simp only[hT,Option.bind_some,ahc,if_false];rw[oI (x:=z) rfl (fun _=>rfl) (fun _=>by omega),aih];have:da z.sign []=some (eW 0):=rj 0 (by simp[Fit]) Dg.nil rfl (fun h=>absurd rfl h);rw[this,aih]
def lg (n:Nat):Nat:=if n=0 then 0 else n.log2+1
theorem ace {r x:Nat} (h:2*r<x):lg r<lg x:=by
 unfold lg;rw[if_neg (show x≠0 by omega)]
 by_cases O:r=0
 ·rw[if_pos O];omega
 ·rw[if_neg O];have h1:=Nat.log2_self_le O;have h2:=@Nat.lt_log2_self x;have:2 ^ (r.log2+1)<2 ^ (x.log2+1):=by rw[Nat.pow_succ];omega
  have:=(Nat.pow_lt_pow_iff_right (by decide:1<2)).1 this;omega
theorem TD {n k:Nat} (h:(n:Int)<pw k):lg n<=20*k:=by
 unfold lg
 by_cases O:n=0
 ·rw[if_pos O];omega
 ·rw[if_neg O];have:n<2 ^ (20*k):=by
   have:pw k=((2 ^ (20*k):Nat):Int):=by
    unfold pw;rw[Nat.pow_mul,Int.natCast_pow];rfl
   omega
  have:=(Nat.log2_lt O).2 this;omega
theorem Yb {a b:Nat} (Z:(aP a).length<=mc) (hb:(aP b).length<=mc):aS oR (aP a,aP b)=some (aP (Nat.gcd a b)):=by
 have hL:mc=17592186043904:=rfl;have key:∃r,aS oR (aP a,aP b)=some r∧r=aP (Nat.gcd a b):=by
  have la:=TD (fN a);have lb:=TD (fN b)
  let val:List Int->Nat:=fun l=>(dv l).toNat
  have O:∀n,val (aP n)=n:=fun n=>by show (dv (aP n)).toNat=n;rw[bu];rfl
  refine qW (I:=fun (s:List Int×List Int)=>∃x y,s=(aP x,aP y)∧Nat.gcd x y=Nat.gcd a b∧(aP x).length<=mc∧(aP y).length<=mc)
   (μ:=fun (s:List Int×List Int)=>lg (val s.1)+lg (val s.2)+(if val s.1<val s.2 then 1 else 0)) _ ⟨a,b,rfl,rfl,Z,hb⟩ (by simp only[O];unfold FU;split<;>omega) ?_
  rintro _ ⟨x,y,rfl,Y,hx,hy⟩;simp only[oR]
  by_cases h0:y=0
  ·right;subst h0;refine⟨_,by rw[cw,if_neg (by simp)],?_⟩;rw[<- Y,aji]
  ·left;have X:0<(aP y).length:=aiA.2 (fun h=>h0 (qQ.1 h));rw[if_pos (by simpa using X),div_eq h0 (by omega) (by omega),aih];have aa:=ahy x (ajj h0);refine⟨_,rfl,⟨y,x % y,rfl,?_,hy,?_⟩,?_⟩
   ·rw[<- Y,Nat.gcd_comm y,<- Nat.gcd_rec,Nat.gcd_comm]
   ·have:=cA (Nat.mod_le x y);omega
   ·simp only[O];rw[if_neg (by omega)]
    by_cases U:x<y
    ·rw[if_pos U,ahA U];omega
    ·rw[if_neg U];have:lg (x % y)<lg x:=by
      apply ace;have h1:=aiP x y;have h2:1<=x / y:=(Nat.one_le_div_iff (by omega)).2 (by omega);have h3:y*1<=y*(x / y):=Nat.mul_le_mul_left _ h2;omega
     omega
 obtain⟨r,h1,rfl⟩:=key;exact h1
theorem Ww {x y:Int} (Z:Ln x<=mc) (hy:Ln y<=mc):pU (eW x) (eW y)=some (eW (Int.gcd x y),0):=by
 have hL:mc=17592186043904:=rfl;unfold pU;rw[gP (by omega),aih];simp only[ah7,ahc,if_false];rw[gP (by omega),aih,aih];simp only[ah7,ahc,if_false];have O:(eW x).aa=aP x.natAbs:=rfl;have U:(eW y).aa=aP y.natAbs:=rfl;rw[O,U];have Y:(aP x.natAbs).length<=17592186043904:=by show Ln x<=_;omega
 have fy:(aP y.natAbs).length<=17592186043904:=by show Ln y<=_;omega
 have fg:(aP (Nat.gcd x.natAbs y.natAbs)).length<=17592186043904:=by
  by_cases h:y.natAbs=0
  ·rw[h,aji];exact Y
  ·have:=cA (ajk x.natAbs (ajj h));omega
 rw[tl (by unfold Fit;omega),aih,Yb (by omega) (by omega),aih,tl (by unfold Fit;omega),aih];have X:Nat.gcd x.natAbs y.natAbs=((Int.gcd x y:Nat):Int).natAbs:=rfl;rw[oI (x:=(Int.gcd x y:Int)) X ?_ (fun _=>by omega),aih,lr,aih];intro h;rw[ajg (by omega)]
theorem P4 {x y:Int} (hx:Ln x<=eO) (hy:Ln y<=eO):kN (eW x) (eW y)=some (mj x y):=by
 have hL:eO=4398046511104:=rfl;unfold kN;rw[gP (by omega),aih];simp only[ah7,ahc,if_false];rw[gP (by omega),aih,aih];simp only[ah7,ahc,if_false];have X:(eW x).aa=aP x.natAbs:=rfl;have Y:(eW y).aa=aP y.natAbs:=rfl;have Z:(eW x).aj=x.sign:=rfl;have ab:(eW y).aj=y.sign:=rfl;rw[X,Y,Z,ab];have fx:(aP x.natAbs).length<=4398046511104:=by show Ln x<=_;omega
 have fy:(aP y.natAbs).length<=4398046511104:=by show Ln y<=_;omega
 by_cases h:x.sign=y.sign
 ·rw[if_neg (by simpa using h),wq (by unfold Fit;omega) (by unfold Fit;omega),aih];have hc:∀s:Int,s = -1∨s=0∨s=1->∀c:Int,c = -1∨c=0∨c=1->IntKind.i64.wrap (s*c)=s*c:=by
   rintro s (rfl|rfl|rfl) c (rfl|rfl|rfl)<;>exact gz (by decide)
  have ad:∀a b:Int,mj a b = -1∨mj a b=0∨mj a b=1:=by
   intro a b;unfold mj;split
   ·simp
   ·split<;>simp
  rw[hc _ (ot x) _ (ad _ _)];congr 1;unfold mj;rcases iA x with⟨a,b,c⟩|⟨a,b,c⟩|⟨a,b⟩<;>rcases iA y with⟨O,U,c'⟩|⟨O,U,c'⟩|⟨O,U⟩<;>(try (rw[a,O]at h;exact absurd h (by decide)))<;>rw[a]<;>split<;>(try split)<;>(try split)<;>(try split)<;>omega
 ·rw[if_pos (by simpa using h),CR,aih];congr 1;unfold mj;rcases iA x with⟨a,b,c⟩|⟨a,b,c⟩|⟨a,b⟩<;>rcases iA y with⟨O,U,c'⟩|⟨O,U,c'⟩|⟨O,U⟩<;>(try (exact absurd (a.trans O.symm) h))<;>rw[a,O]<;>split<;>(try split)<;>(try split)<;>(try split)<;>omega
theorem UP (x:Int):IntKind.u64.wrap x=x % 18446744073709551616:=by
 unfold IntKind.wrap;simp only[IntKind.bits,IntKind.signed,aiH,ahc,if_false];rfl
theorem wu {x:Int} (h:0<=x∧x<18446744073709551616):IntKind.u64.wrap x=x:=by rw[UP];omega
theorem U1 {x:Int} (h:0<=x∧x<18446744073709551616):j0 .and .u64 x 1048575=x % 1048576:=by
 unfold j0;simp only;have O:(BitVec.ofInt IntKind.u64.bits x &&& BitVec.ofInt IntKind.u64.bits 1048575).toNat=((x % 18446744073709551616).toNat) % 1048576:=by
  rw[BitVec.toNat_and,BitVec.toNat_ofInt,BitVec.toNat_ofInt];have e:((1048575:Int) % ((2 ^ IntKind.u64.bits:Nat):Int)).toNat=2 ^ 20-1:=by decide
  rw[e,aiY];rfl
 rw[O,wu (by omega)];omega
theorem adq (x:Int):BL .u64 x 20=some (x / 1048576):=by
 unfold BL;rw[if_neg (by decide)];have e:(2:Int) ^ (min (Int.toNat 20) IntKind.u64.bits)=1048576:=by decide
 rw[e,Int.fdiv_eq_ediv_of_nonneg _ (by decide)]
theorem pw4:pw 4=1208925819614629174706176:=by decide
theorem aa7 {n:Nat} (hn:n<18446744073709551616):∃l,aS uU ((n:Int),[])=some l∧Dg l∧dv l=n∧l.length<=5:=by
 refine qW (I:=fun (s:Int×List Int)=>0<=s.1∧Dg s.2∧dv s.2+pw s.2.length*s.1=n∧s.2.length<=5∧(s.1=0∨s.2.length<5)) (μ:=fun (s:Int×List Int)=>s.1.toNat) _ ⟨by simp,Dg.nil,by simp[dv,mM],by simp,by simp⟩ (by simp only[Int.toNat_natCast];unfold FU;omega) ?_;rintro⟨u,l⟩ ⟨h1,O,h2,h3,h5⟩;simp only at h1 O h2 h3 h5;have hp:=my l.length;have U:=cO O;have hu:u<=n:=by
  have:1*u<=pw l.length*u:=ajb (by omega) h1;omega
 simp only[uU]
 by_cases X:u>0
 ·left;have Y:l.length<5:=by omega
  have Z:l.length<4:=by
   rcases ahn l.length 4 with h|h
   ·exact h
   ·have h4:l.length=4:=by omega
    rw[h4,pw4]at h2;omega
  have hw:IntKind.i64.wrap (u % 1048576)=u % 1048576:=gz (by omega);rw[if_pos (by simpa using X),U1 ⟨h1,by omega⟩,hw,Bk (by simp;omega),aih,adq,aih];refine⟨_,rfl,⟨by simp only;omega,O.append (Dg.mk (by omega) Dg.nil),?_,by simp;omega,by right;simp;omega⟩,by simp only;omega⟩;simp only[gj,dv,ahO,List.length_cons,List.length_nil,ai9,ajd,ahr];have:=uc l.length u;omega
 ·right;have:u=0:=by omega
  subst this;refine⟨l,by rw[if_neg (by simp)],O,?_,h3⟩;rw[ai9]at h2;omega
theorem Sj {x:Int} (h : -9223372036854775808<=x∧x<9223372036854775808):rK x=some (eW x):=by
 have U:(if decide (x<0)=true then some ((-1:Int),IntKind.u64.wrap (0-(IntKind.u64.wrap x))) else some (1,IntKind.u64.wrap x))=some (if x<0 then -1 else 1,((x.natAbs:Nat):Int)):=by
  by_cases O:x<0
  ·rw[if_pos (by simpa using O),if_pos O,UP,UP];congr 2;omega
  ·rw[if_neg (by simpa using O),if_neg O,UP];congr 2;omega
 obtain⟨l,h1,h2,h3,h4⟩:=aa7 (n:=x.natAbs) (by omega);unfold rK;rw[U,aih];simp only;rw[h1,aih,ng];refine rj x (by unfold Fit;omega) h2 h3 (fun X =>?_);split
 ·rw[ajh (by omega)]
 ·rw[ajg (by omega)]
theorem afW {d:Int} {i:Nat} (O:i<=3) (U:0<=d∧d<1048576) (h8:i=3->d<=8):F6 .u64 (IntKind.u64.wrap d) (IntKind.i64.wrap (20*(i:Int)))=some (pw i*d):=by
 rw[wu (by omega),gz (by omega)];unfold F6;rw[if_neg (by omega)];have e:(2:Int) ^ (min (20*(i:Int)).toNat IntKind.u64.bits)=pw i:=by
  have:∀i:Nat,i<=3->(2:Int) ^ (min (20*(i:Int)).toNat IntKind.u64.bits)=pw i:=by decide
  exact this i O
 rw[e,wu,aiS];rcases (show i=0∨i=1∨i=2∨i=3 by omega) with rfl|rfl|rfl|rfl
 ·rw[show pw 0=1 by decide];omega
 ·rw[show pw 1=1048576 by decide];omega
 ·rw[show pw 2=1099511627776 by decide];omega
 ·rw[show pw 3=1152921504606846976 by decide];have:=h8 rfl;omega
theorem aer {u d:Int} {i:Nat} (X:i<=3) (hu:0<=u∧u<pw i) (Y:0<=d∧pw i*d<9223372036854775809):j0 .or .u64 u (pw i*d)=u+pw i*d:=by
 have hp:=my i;have U:0<=pw i*d:=ai5 (by omega) Y.1;have O:pw i=((2 ^ (20*i):Nat):Int):=by unfold pw;rw[Nat.pow_mul,Int.natCast_pow];rfl
 have Z:pw i<=1152921504606846976:=by
  have:=qg X
  rwa [show pw 3=1152921504606846976 by decide]at this
 unfold j0;simp only;have e1:(BitVec.ofInt IntKind.u64.bits u ||| BitVec.ofInt IntKind.u64.bits (pw i*d)).toNat=(u+pw i*d).toNat:=by
  rw[BitVec.toNat_or,BitVec.toNat_ofInt,BitVec.toNat_ofInt];have e:((2 ^ IntKind.u64.bits:Nat):Int)=18446744073709551616:=by decide
  rw[e];have e2:(u % 18446744073709551616).toNat=u.toNat:=by omega
  have e3:((pw i*d) % 18446744073709551616).toNat=d.toNat <<< (20*i):=by
   rw[Nat.shiftLeft_eq,Int.emod_eq_of_lt U (by omega),O];have:d=(d.toNat:Int):=by omega
   rw[this,<- ahD,ahE,ahE,ahC]
  rw[e2,e3,Nat.or_comm,<- Nat.shiftLeft_add_eq_or_of_lt (by omega),Nat.shiftLeft_eq];have:pw i*d=((d.toNat*2 ^ (20*i):Nat):Int):=by
   rw[O,ahD,aiS];congr 1;omega
  omega
 rw[e1,wu (by omega)];omega
theorem adg {g:Nat} (h:(aP g).length<=mc):qT (eW g)=some (decide (g=1)):=by
 have hL:mc=17592186043904:=rfl;have X:(eW (g:Int)).aa=aP g:=rfl;have ab:Ln (g:Int)=(aP g).length:=rfl;unfold qT;have U:g=1->(aP g).length<=4:=by
  rintro rfl;exact agE (gK (k:=1) (by decide)) (by decide)
 suffices hI:∃r,uS (eW g)=some r∧((if r.2=true then some (r.1==1) else some false)=some (decide (g=1))) by
  obtain⟨r,h1,h2⟩:=hI;rw[h1,aih,h2]
 unfold uS;rw[gP (by rw[ab];omega),aih];simp only[ah7,ahc,if_false,Option.bind_some,X]
 by_cases h4:(aP g).length>4
 ·rw[if_pos (by simp;omega)];refine⟨_,rfl,?_⟩;have:g≠1:=fun hh=>by have:=U hh;omega
  simp[this]
 rw[if_neg (by simp;omega)];have key:∃r,aS (rJ (eW g)) (0,0)=some r∧(match r with | .inl u=>u=(g:Int) | .inr x=>x=(0,false)∧g≠1):=by
  refine dC (I:=fun i s=>s.2=(i:Int)∧s.1=dv ((aP g).take i)) (aP g).length _ ⟨rfl,rfl⟩ (jX (by omega)) ?_;rintro i ⟨u,s⟩ hi ⟨h1,h2⟩;simp only at h1 h2;subst h1 h2;simp only[rJ,X];have Y:=(cz g).take i;have ad:=cO Y;have Z:=nI Y;rw[agV,ahR hi]at Z
  by_cases O:i<(aP g).length
  ·have gd:=(cz g).get O;rw[if_pos (by simpa using O),cj O,aih];have hT:(if ((i:Int)==3)=true then some (decide ((aP g)[i]>8)) else some false)=some (decide (i=3∧(aP g)[i]>8)):=by
    by_cases h3:i=3
    ·subst h3;simp
    ·rw[if_neg (by simp;omega)];simp[h3]
   rw[hT,aih]
   by_cases h8:i=3∧(aP g)[i]>8
   ·right;rw[if_pos (by simpa using h8)];refine⟨.inr (0,false),rfl,rfl,?_⟩;rintro rfl;have:=gK (n:=1) (k:=1) (by decide);omega
   ·left;rw[if_neg (by simpa using h8),afW (by omega) gd (by omega),aih];have hb:pw i*(aP g)[i]<9223372036854775809:=by
     rcases (show i=0∨i=1∨i=2∨i=3 by omega) with h|h|h|h
     ·have:pw i=1:=by rw[h];decide
      rw[this];omega
     ·have:pw i=1048576:=by rw[h];decide
      rw[this];omega
     ·have:pw i=1099511627776:=by rw[h];decide
      rw[this];omega
     ·have:pw i=1152921504606846976:=by rw[h];decide
      rw[this];omega
    rw[aer (by omega) ⟨ad,Z⟩ ⟨gd.1,hb⟩];exact⟨O,_,rfl,by rw[gz (by omega)];omega,by rw[fS O]⟩
  ·right;have:i=(aP g).length:=by omega
   subst this;exact⟨.inl (dv ((aP g).take (aP g).length)),by rw[if_neg (by simp)],by rw[aiL,bu]⟩
 obtain⟨r,h1,h2⟩:=key;rw[h1,aih];cases r with
 | inr x=>obtain⟨rfl,h⟩:=h2;exact⟨_,rfl,by simp[h]⟩
 | inl u =>
  simp only at h2;subst h2;have hs:(eW (g:Int)).aj=(g:Int).sign:=rfl;have ae:¬(g:Int).sign<0:=by have:=iA (g:Int);omega
  simp only[hs];rw[if_neg (by simp),aih,if_neg (by simp),if_pos (by simp)]
  by_cases hg:(g:Int)<9223372036854775808
  ·rw[if_pos (by simpa using hg)];refine⟨_,rfl,?_⟩;simp only[if_true];rw[wrap64 (by omega) hg];congr 1
   by_cases h:g=1
   ·subst h;rfl
   ·have:¬((g:Int)=1):=by omega
    simp[h,this]
  ·rw[if_neg (by simpa using hg)];have:g≠1:=by omega
   exact⟨_,rfl,by simp[this]⟩
def e9 (q:Rat):aw:=aw.mk (eW q.num) (eW q.den)
def LF (q:Rat):Nat:=max (Ln q.num) (Ln q.den)
theorem u9 {p q:Rat} (h:e9 p=e9 q):p=q:=by
 unfold e9 at h;simp only[aw.mk.injEq]at h;have h1:=TL h.1;have h2:=TL h.2;exact Rat.ext h1 (by omega)
def okF (f:aw):Bool:=okB f.cu&&okB f.ct&&(f.ct.aj==1)&&decide (Nat.gcd (dv f.cu.aa).toNat (dv f.ct.aa).toNat=1)
theorem BY {f:aw} : okF f=true↔∃q,f=e9 q:=by
 obtain⟨p,q⟩:=f;unfold okF;simp only[ahd,beq_iff_eq,decide_eq_true_eq];constructor
 ·rintro⟨⟨⟨h1,h2⟩,h3⟩,h4⟩;obtain⟨x,rfl⟩:=yk.1 h1;obtain⟨y,rfl⟩:=yk.1 h2;have U:0<y:=by
   have:y.sign=1:=h3;rcases iA y with⟨a,b,c⟩|⟨a,b,c⟩|⟨a,b⟩<;>omega
  have h5:(dv (eW x).aa).toNat=x.natAbs:=by show (dv (aP _)).toNat=_;rw[bu];rfl
  have h6:(dv (eW y).aa).toNat=y.natAbs:=by show (dv (aP _)).toNat=_;rw[bu];rfl
  rw[h5,h6]at h4;refine⟨⟨x,y.natAbs,by omega,h4⟩,?_⟩;unfold e9;simp only;congr 2;omega
 ·rintro⟨q,O⟩;unfold e9 at O;simp only[aw.mk.injEq]at O;obtain⟨rfl,rfl⟩:=O;have X:=q.den_pos;refine⟨⟨⟨Kc _,Kc _⟩,ajg (by omega)⟩,?_⟩;have h5:(dv (eW q.num).aa).toNat=q.num.natAbs:=by show (dv (aP _)).toNat=_;rw[bu];rfl
  have h6:(dv (eW (q.den:Int)).aa).toNat=q.den:=by show (dv (aP _)).toNat=_;rw[bu];rfl
  rw[h5,h6];exact q.reduced
theorem Q7 (q:Rat):okF (e9 q)=true:=BY.2 ⟨q,rfl⟩
def acB (f:aw):Prop:=f.cu.aa.length<=mc∧f.ct.aa.length<=mc
theorem aap {q:Rat} (h:LF q<=eO):acB (e9 q):=by
 unfold LF at h;exact⟨qL (show Ln q.num<=_ by omega),qL (show Ln q.den<=_ by omega)⟩
theorem Cn {f:aw} (O:acB f):dz f=some (okF f):=by
 have X:mc=17592186043904:=rfl;obtain⟨p,q⟩:=f;simp only[acB]at O;unfold dz okF;rw[E3 (show Fit p.aa by unfold Fit;omega),aih]
 by_cases h1:okB p=true
 ·simp only[h1,ah7,ahc,if_false,ah8];rw[E3 (show Fit q.aa by unfold Fit;omega),aih]
  by_cases h2:okB q=true
  ·simp only[h2,ah7,ahc,if_false,ah8,Option.bind_some]
   by_cases h3:q.aj=1
   ·rw[if_neg (by simp[h3])];obtain⟨x,rfl⟩:=yk.1 h1;obtain⟨y,rfl⟩:=yk.1 h2;rw[Ww O.1 O.2,aih];simp only[beq_self_eq_true,if_true];have h5:(dv (eW x).aa).toNat=x.natAbs:=by show (dv (aP _)).toNat=_;rw[bu];rfl
    have h6:(dv (eW y).aa).toNat=y.natAbs:=by show (dv (aP _)).toNat=_;rw[bu];rfl
    rw[adg,aih,h5,h6]
    ·rw[h3];rfl
    ·have U:0<y.natAbs:=by
      have:y.sign=1:=h3;rcases iA y with⟨a,b,c⟩|⟨a,b,c⟩|⟨a,b⟩<;>omega
     have:=cA (ajk x.natAbs U);have h7:(aP y.natAbs).length<=mc:=O.2;show (aP (Nat.gcd x.natAbs y.natAbs)).length<=_;omega
   ·rw[if_pos (by simpa using h3)];simp[h3]
  ·simp only[h2,aiI,if_true,Option.bind_some,aiH]
 ·simp only[h1,aiI,if_true,Option.bind_some,aiH]
theorem lp {q:Rat} (h:LF q<=eO):dz (e9 q)=some true:=by rw[Cn (aap h),Q7]
theorem P8 {p q:Int} (U:Ln p<=eO) (O:Ln q<=eO) (Y:q≠0):mV (eW p) (eW q)=some (e9 (Rat.divInt p q),0):=by
 have hL:eO=4398046511104:=rfl;have main:∀ {p q:Int},Ln p<=eO->Ln q<=eO->0<q ->
   ((pU (eW p) (eW q)).bind fun r6=>(nQ (eW p) r6.1).bind fun r7=>(nQ (eW q) r6.1).bind fun r8=>some ((aw.mk r7.1 r8.1),(0:Int)))=some (e9 (Rat.divInt p q),0):=by
  intro p q U O Y;have hg:0<Int.gcd p q:=Int.gcd_pos_of_ne_zero_right _ (by omega);have X:Ln (Int.gcd p q:Int)<=eO:=by
   have:=cA (ajk p.natAbs (show 0<q.natAbs by omega));show (aP (Nat.gcd p.natAbs q.natAbs)).length<=_;have h7:(aP q.natAbs).length<=eO:=O;omega
  rw[Ww (qL U) (qL O),aih];simp only;rw[Wu U X (by omega) (Int.gcd_dvd_left ..),aih,Wu O X (by omega) (Int.gcd_dvd_right ..),aih];have hd:((q.natAbs / Int.gcd p q:Nat):Int)=q / (Int.gcd p q:Int):=by
   rw[Int.natCast_ediv];congr 1;omega
  unfold e9;rw[Rat.num_divInt,Rat.den_divInt,if_neg (by omega),ajg Y,aja,Int.gcd_comm q p,hd]
 unfold mV;rw[gP (by omega),aih];simp only[ah7,ahc,if_false];rw[gP (by omega),aih,aih];simp only[ah7,ahc,if_false];have Z:(eW q).aj=q.sign:=rfl;rw[Z];rcases iA q with⟨a,b,c⟩|⟨a,b,c⟩|⟨a,b⟩
 ·rw[if_neg (by rw[a];decide),if_neg (by rw[a];decide),aih];exact main U O c
 ·rw[if_neg (by rw[a];decide),if_pos (by rw[a];decide),P7 U,aih,P7 O,aih,aih];have:=main (p := -p) (q := -q) (by rw[Cf];exact U) (by rw[Cf];exact O) (by omega);rw[Rat.neg_divInt_neg]at this;exact this
 ·exact absurd b Y
theorem oP (q:Rat):Ln q.num<=LF q:=by unfold LF;omega
theorem qu (q:Rat):Ln q.den<=LF q:=by unfold LF;omega
theorem yO {p q:Int} (O:q≠0):LF (Rat.divInt p q)<=max (Ln p) (Ln q):=by
 have X:0<Int.gcd q p:=Int.gcd_pos_of_ne_zero_left _ O;have h1:Ln (Rat.divInt p q).num<=Ln p:=by
  apply Si;rw[Rat.num_divInt];obtain⟨z,U⟩:(Int.gcd q p:Int)∣q.sign*p:=Int.dvd_mul_of_dvd_right (Int.gcd_dvd_right ..);rw[U,Int.mul_ediv_cancel_left _ (by omega)];have h2:(q.sign*p).natAbs=p.natAbs:=by
   rw[aje];have:q.sign.natAbs=1:=by
    rcases iA q with⟨a,b,c⟩|⟨a,b,c⟩|⟨a,b⟩
    ·rw[a];rfl
    ·rw[a];rfl
    ·exact absurd b O
   rw[this,Nat.one_mul]
  rw[<- h2,U,aje];exact Nat.le_mul_of_pos_left _ (by omega)
 have h2:Ln ((Rat.divInt p q).den:Int)<=Ln q:=by
  apply Si;rw[Rat.den_divInt,if_neg O];exact Nat.div_le_self _ _
 unfold LF;omega
theorem Sb {a b:Rat} (h:LF a+LF b+1<=eO):lx (e9 a) (e9 b)=some (e9 (a+b),0):=by
 have U:=oP a;have X:=oP b;have d1:=qu a;have d2:=qu b;have m1:=me a.num b.den;have m2:=me b.num a.den;have m3:=me a.den b.den;have m4:=P6 (a.num*b.den) (b.num*a.den);unfold lx;rw[lp (by omega),aih];simp only[ah7,ahc,if_false];rw[lp (by omega),aih,aih];simp only[ah7,ahc,if_false];show (db (eW a.num) (eW b.den)).bind _=_;rw[pI (by omega) (by omega),aih];show (db (eW b.num) (eW a.den)).bind _=_;rw[pI (by omega) (by omega),aih,acA (by omega) (by omega),aih];show (db (eW a.den) (eW b.den)).bind _=_;have O:(a.den:Int)*b.den≠0:=by
  rw[<- ahD];have:=Nat.mul_pos a.den_pos b.den_pos;omega
 rw[pI (by omega) (by omega),aih,P8 (by omega) (by omega) O,aih];rw[Rat.add_def',<- Rat.divInt_ofNat,ahD]
theorem s4 (a b:Rat):LF (a+b)<=LF a+LF b+1:=by
 have U:=oP a;have X:=oP b;have d1:=qu a;have d2:=qu b;have m1:=me a.num b.den;have m2:=me b.num a.den;have m3:=me a.den b.den;have m4:=P6 (a.num*b.den) (b.num*a.den);have O:(a.den:Int)*b.den≠0:=by
  rw[<- ahD];have:=Nat.mul_pos a.den_pos b.den_pos;omega
 rw[Rat.add_def',<- Rat.divInt_ofNat,ahD];have:=yO (p:=a.num*b.den+b.num*a.den) O;omega
theorem Wy (a:Rat):LF (-a)=LF a:=by unfold LF;rw[Rat.neg_num,Rat.neg_den,Cf]
theorem P5 (a b:Rat):LF (a-b)<=LF a+LF b+1:=by
 rw[Rat.sub_eq_add_neg];have:=s4 a (-b);rw[Wy]at this;exact this
theorem abH {a b:Rat} (h:LF a+LF b+1<=eO):pj (e9 a) (e9 b)=some (e9 (a-b),0):=by
 unfold pj;rw[lp (by omega),aih];simp only[ah7,ahc,if_false];rw[lp (by omega),aih,aih];simp only[ah7,ahc,if_false];show (nR (eW b.num)).bind _=_;have O:=oP b;rw[P7 (by omega),aih];have e:aw.mk (eW (-b.num)) (e9 b).ct=e9 (-b):=by unfold e9;rw[Rat.neg_num,Rat.neg_den]
 rw[e,Sb (by rw[Wy];exact h),aih,Rat.sub_eq_add_neg]
theorem WA {a b:Rat} (h:LF a+LF b<=eO):mU (e9 a) (e9 b)=some (e9 (a*b),0):=by
 have U:=oP a;have X:=oP b;have d1:=qu a;have d2:=qu b;have m1:=me a.num b.num;have m3:=me a.den b.den;unfold mU;rw[lp (by omega),aih];simp only[ah7,ahc,if_false];rw[lp (by omega),aih,aih];simp only[ah7,ahc,if_false];show (db (eW a.num) (eW b.num)).bind _=_;rw[pI (by omega) (by omega),aih];show (db (eW a.den) (eW b.den)).bind _=_;have O:(a.den:Int)*b.den≠0:=by
  rw[<- ahD];have:=Nat.mul_pos a.den_pos b.den_pos;omega
 rw[pI (by omega) (by omega),aih,P8 (by omega) (by omega) O,aih];rw[Rat.mul_def',<- Rat.divInt_ofNat,ahD]
theorem Ce (a b:Rat):LF (a*b)<=LF a+LF b:=by
 have U:=oP a;have X:=oP b;have d1:=qu a;have d2:=qu b;have m1:=me a.num b.num;have m3:=me a.den b.den;have O:(a.den:Int)*b.den≠0:=by
  rw[<- ahD];have:=Nat.mul_pos a.den_pos b.den_pos;omega
 rw[Rat.mul_def',<- Rat.divInt_ofNat,ahD];have:=yO (p:=a.num*b.num) O;omega
theorem abA {n:Int} (h : -9223372036854775808<=n∧n<9223372036854775808):jt n=some (e9 n):=by
 unfold jt;rw[Sj h,aih,Sj (by decide),aih];unfold e9;rw[Rat.num_intCast,Rat.den_intCast];rfl
theorem Jr {n:Int} (h:n.natAbs<1048576):LF (n:Rat)<=1:=by
 unfold LF;rw[Rat.num_intCast,Rat.den_intCast];have h1:=Cg h;have h2:=Cg (x:=((1:Nat):Int)) (by decide);omega
theorem Jw {a:Rat} (h:LF a<=eO):ir (e9 a)=some a.num.sign:=by
 unfold ir;rw[lp h,aih];rfl
def U7 (a b:Rat):Int:=if a<b then -1 else if b<a then 1 else 0
theorem aaF (a b:Rat):mj (a.num*b.den) (b.num*a.den)=U7 a b:=by
 unfold mj U7;simp only[Rat.lt_iff]
theorem UW {a b:Rat} (h:LF a+LF b<=eO):iK (e9 a) (e9 b)=some (U7 a b):=by
 have O:=oP a;have U:=oP b;have d1:=qu a;have d2:=qu b;have m1:=me a.num b.den;have m2:=me b.num a.den;unfold iK;rw[lp (by omega),aih];simp only[ah7,ahc,if_false];rw[lp (by omega),aih,aih];simp only[ah7,ahc,if_false];show (db (eW a.num) (eW b.den)).bind _=_;rw[pI (by omega) (by omega),aih];show (db (eW b.num) (eW a.den)).bind _=_;rw[pI (by omega) (by omega),aih,P4 (by omega) (by omega),aih,aaF]
theorem UH {l:List Int} (O:Fit l) (U:Dg l):gO l=some (aP (dv l).toNat):=by
 have h:=sC O U;obtain⟨r,h1,k,rfl,hk,_⟩:=Jd O;unfold ec at h;unfold gO;have e:uf l=kO l:=rfl;rw[h1,aih,Kz hk,aih]at h;rw[e,h1,aih,Kz hk,aih,Bk (by unfold Fit at O;simp;omega),aih];exact h
theorem Fo {l:List Int} {n:Nat} (O:Fit l) (U:Dg l) (X:dv l=n):gO l=some (aP n):=by
 rw[UH O U,X];rfl
theorem BV {s:Int} {l:List Int} (x:Int) (O:Fit l) (U:Dg l) (X:dv l=x.natAbs) (hs:x≠0->s=x.sign):fe s l=some (eW x):=by
 have h:=rj x O U X hs;unfold da at h;rw[sC O U]at h;unfold fe;rw[UH O U];exact h
theorem D6 {x:Int} {s:Int} {n:Nat} (O:n=x.natAbs) (hs:x≠0->s=x.sign) (U:n≠0->(aP n).length<=17592186044416):fe s (aP n)=some (eW x):=by
 subst O;refine BV x ?_ (cz _) (bu _) hs;unfold Fit
 by_cases h:x.natAbs=0
 ·rw[h,cw];simp
 ·exact U h
theorem OZ {s:Int} {l:List Int} (Y:Fit l):∃r,aS (oe ⟨s,l⟩) 0=some r∧(match r with | .inl _=>Dg l | .inr x=>x=false∧¬Dg l):=by
 refine dC (I:=fun i s=>s=(i:Int)∧Dg (l.take i)) l.length _ ⟨rfl,by simpa using Dg.nil⟩ (jX Y) ?_;unfold Fit at Y;rintro i s Z ⟨rfl,U⟩;simp only[oe]
 by_cases O:i<l.length
 ·rw[if_pos (by simpa using O),cj O,aih]
  by_cases h1:l[i]<0
  ·right;exact⟨.inr false,by rw[if_pos (by simpa using h1)],rfl,fun X=>by have:=X.get O;omega⟩
  ·by_cases h2:l[i]>=1048576
   ·right;exact⟨.inr false,by rw[if_neg (by simpa using h1),if_pos (by simpa using h2)],rfl,fun X=>by have:=X.get O;omega⟩
   ·left;refine⟨O,_,by rw[if_neg (by simpa using h1),if_neg (by simpa using h2)],by rw[gz (by omega)];omega,?_⟩;have e:l.take (i+1)=l.take i++[l[i]]:=by rw[aiX];simp[O]
    rw[e];exact U.append (Dg.mk (by omega) Dg.nil)
 ·right;have:i=l.length:=by omega
  subst this;rw[aiL]at U;exact⟨.inl (),by rw[if_neg (by simp)],U⟩
theorem ado {b:aD} (Z:Fit b.aa):cY b=some (okB b):=by
 obtain⟨s,l⟩:=b;simp only[Fit]at Z;obtain⟨r,h1,h2⟩:=OZ (s:=s) (l:=l) Z;unfold cY okB;rw[h1,aih];cases r with
 | inr x =>
  obtain⟨rfl,h⟩:=h2;simp[h]
 | inl u =>
  simp only at h2 ⊢;simp only[h2,decide_true,ah8]
  by_cases X:l=[]
  ·subst X
   by_cases O:s=0
   ·subst O;simp
   ·have:(s==0)=false:=by simpa using O
    simp only[List.length_nil,List.getLast?_nil,this];split<;>(try split)<;>simp
  ·have hp:0<l.length:=aiA.2 X;have e:IntKind.i64.wrap ((l.length:Int)-1)=((l.length-1:Nat):Int):=by rw[gz (by omega)];omega
   have Y:((l.length:Int)==0)=false:=by simpa using X
   rw[e,cj (by omega),ajf X,List.getLast_eq_getElem,Y];simp only[Option.bind_some,ahc,if_false]
   by_cases hs:s < -1
   ·rw[if_pos (by simpa using hs)];have h1:(s==1)=false:=by simp;omega
    have h2:(s == -1)=false:=by simp;omega
    simp[h1,h2]
   ·rw[if_neg (by simpa using hs)]
    by_cases U:s>1
    ·rw[if_pos (by simpa using U)];have h1:(s==1)=false:=by simp;omega
     have h2:(s == -1)=false:=by simp;omega
     simp[h1,h2]
    ·rw[if_neg (by simpa using U)];rcases (show s = -1∨s=0∨s=1 by omega) with rfl|rfl|rfl<;>simp
theorem mB {x:Int} (h:Ln x<=17592186044416):cY (eW x)=some true:=by
 rw[ado (show Fit (eW x).aa from h),Kc]
theorem xA (l:List Int) (i:Nat):iy l (i:Int)=some (gd l i):=by
 unfold iy
 by_cases h:i<l.length
 ·rw[if_pos (by simpa using h),cj h,aih,MJ h]
 ·rw[if_neg (by simpa using h),HL (by omega)]
theorem PD {a b l0:List Int} {i n:Nat} (ha:Dg a) (hb:Dg b) (Z:i<a.length) (h0:Dg l0) (hn:l0.length=n) (hi:i+b.length<n) (hf:n<=17592186044416) (hz:∀j (O:j<l0.length),i+b.length<=j->l0[j]=0) :
  ∃l,aS (oo a b (i:Int)) (0,0,l0)=some l∧l.length=n∧Dg l∧(∀j (O:j<l.length),i+b.length<j->l[j]=0)∧dv l=dv l0+pw i*(a[i]*dv b):=by
 have hx:=ha.get Z;refine dC (I:=fun k s=>s.2.1=(k:Int)∧s.2.2.length=n∧Dg s.2.2∧(0<=s.1∧s.1<1048576)∧(∀j (O:j<s.2.2.length),i+b.length<=j->i+k<=j->s.2.2[j]=0)∧(k=b.length+1->s.1=0)∧dv s.2.2+pw (i+k)*s.1=dv l0+pw i*(a[i]*dv (b.take k)))
  (b.length+1) _ ⟨rfl,hn,h0,by simp,fun j O h _=>hz j O h,by omega,by simp[dv]⟩ (jX (by omega)) ?_
 rintro k ⟨c,s,l⟩ hk ⟨h1,hl,hd,hc,hz,X,he⟩;simp only at h1 hl hd hc hz X he;subst h1;simp only[oo];have hT:(if decide ((k:Int)<(b.length:Int))=true then some true else some (decide (c>0)))=some (decide (k<b.length∨c>0)):=by
  by_cases h:k<b.length
  ·rw[if_pos (by simpa using h)];simp[h]
  ·rw[if_neg (by simpa using h)];simp[h]
 rw[hT,aih]
 by_cases Y:k<b.length∨c>0
 ·left;have aa:k<=b.length:=by
   rcases Y with h|h
   ·omega
   ·rcases ahn b.length k with h'|h'
    ·have:=X (by omega);omega
    ·exact h'
  have U:i+k<l.length:=by omega
  have ei:IntKind.i64.wrap ((i:Int)+(k:Int))=((i+k:Nat):Int):=by rw[gz (by omega)];omega
  have gb:=HK hb k;have gl:=hd.get U;have ag:0<=a[i]*gd b k:=ai5 hx.1 gb.1;have ah:a[i]*gd b k<=1048575*1048575:=ai6 (by omega) (by omega) gb.1 (by omega);rw[if_pos (by simpa using Y),ei,cj U,aih,cj Z,aih,xA,aih,gz (x:=a[i]*gd b k) (by omega),gz (x:=l[i+k]+a[i]*gd b k) (by omega),gz (x:=l[i+k]+a[i]*gd b k+c) (by omega),adb (by omega) (by omega),aih,aaH (by omega) (by omega) (by omega),aih];have e1:IntKind.i64.wrap ((k:Int)+1)=((k+1:Nat):Int):=by rw[gz (by omega)];omega
  refine⟨by omega,_,rfl,e1,by simpa using hl,hd.set _ (by omega),by simp only;omega,fun j O ab ae =>?_,fun ai =>?_,?_⟩
  ·simp only[Int.toNat_natCast]at O ⊢;rw[aiZ (by omega)];exact hz j (by simpa using O) ab (by omega)
  ·have aj:k=b.length:=by omega
   simp only;rw[HL (by omega),ai9,hz _ U (by omega) (agC _)];omega
  ·simp only[Int.toNat_natCast];rw[rW U,pZ];have hp:=uc (i+k) (l[i+k]+a[i]*gd b k+c);rw[aiV (pw (i+k)),aiV (pw (i+k))]at hp;have e2:pw i*(a[i]*(dv (b.take k)+pw k*gd b k))=pw i*(a[i]*dv (b.take k))+pw (i+k)*(a[i]*gd b k):=by
    rw[aiV,aiV,EV];congr 1;rw[ai7 a[i],<- aiW]
   rw[e2,ai0,show i+(k+1)=i+k+1 by omega];omega
 ·right;have aa:b.length<=k:=by omega
  have ad:c=0:=by omega
  subst ad;refine⟨l,by rw[if_neg (by simpa using Y)],hl,hd,fun j O h=>hz j O (by omega) (by omega),?_⟩;rw[wU aa,ai9]at he;omega
theorem Z3 {a b:List Int} (ha:Dg a) (hb:Dg b) (hf:a.length+b.length<=17592186044416):jS a b=some (aP (dv a*dv b).toNat):=by
 have key:∃l,aS (oh a b) (0,List.replicate (a.length+b.length) 0)=some l∧l.length=a.length+b.length∧Dg l∧dv l=dv a*dv b:=by
  refine dC (I:=fun i s=>s.1=(i:Int)∧s.2.length=a.length+b.length∧Dg s.2∧(∀j (U:j<s.2.length),i+b.length<=j->s.2[j]=0)∧dv s.2=dv (a.take i)*dv b)
   a.length _ ⟨rfl,by simp,Dg.rep _,fun j U _=>by simp,by simp[dv,yV]⟩ (jX (by omega)) ?_
  rintro i ⟨s,l⟩ hi ⟨h1,X,Y,hz,he⟩;simp only at h1 X Y hz he;subst h1;simp only[oh]
  by_cases O:i<a.length
  ·left;obtain⟨m,g1,g2,g3,g4,g5⟩:=PD (i:=i) (n:=a.length+b.length) ha hb O Y X (by omega) hf hz;rw[if_pos (by simpa using O),g1,aih];have e1:IntKind.i64.wrap ((i:Int)+1)=((i+1:Nat):Int):=by rw[gz (by omega)];omega
   refine⟨O,_,rfl,e1,g2,g3,fun j U aa=>g4 j U (by omega),?_⟩;rw[g5,he,fS O,ai8,aiW]
  ·right;have Z:i=a.length:=by omega
   subst Z;refine⟨l,by rw[if_neg (by simp)],X,Y,?_⟩;rw[he,aiL]
 obtain⟨l,h1,h2,h3,h4⟩:=key;unfold jS;have e:IntKind.i64.wrap ((a.length:Int)+(b.length:Int))=((a.length+b.length:Nat):Int):=by rw[gz (by omega)];omega
 rw[e,mk0 hf,aih,h1,aih,ng,UH (by unfold Fit;omega) h3,h4]
theorem Hf (l:List Int) (i:Nat):dv l=dv (l.take i)+pw i*dv (l.drop i):=by
 by_cases h:i<=l.length
 ·exact iT l h
 ·rw[ah5 (by omega),aiu (by omega)];simp[dv]
theorem wx (l:List Int) (i:Nat):dv (l.drop i)=gd l i+1048576*dv (l.drop (i+1)):=by
 by_cases h:i<l.length
 ·rw[jG h,MJ h]
 ·rw[aiu (by omega),aiu (by omega),HL (by omega)];simp[dv]
theorem C7 {l:List Int} (h:Dg l) (i:Nat):0<=dv (l.take i)∧dv (l.take i)<pw i:=by
 have h1:=nI (h.take i);have h2:=qg (show (l.take i).length<=i by rw[agV];omega);exact⟨cO (h.take i),by omega⟩
theorem XO {a b:List Int} (O:Dg a) (U:Dg b) {k:Nat} (he:dv (a.drop (k+1))=dv (b.drop (k+1))) (X:gd a k<gd b k):dv a<dv b:=by
 have Y:=Hf a k;have Z:=Hf b k;rw[wx]at Y Z;have la:=C7 O k;have lb:=C7 U k;have hp:=my k;have:pw k*(gd a k+1048576*dv (a.drop (k+1))+1)<=pw k*(gd b k+1048576*dv (b.drop (k+1))):=aiU (by omega) (by omega);rw[aiV _ _ 1,aiT]at this;omega
theorem ad8 {a b:List Int} (Y:Dg a) (Z:Dg b) (U:Fit a) (X:Fit b):nn a b=some (decide (dv a<dv b)):=by
 unfold Fit at U X;generalize hm:max a.length b.length=m;have em:(if (b.length:Int)>(a.length:Int) then (b.length:Int) else (a.length:Int))=(m:Int):=by split<;>omega
 have key:∃r,aS (qm a b) ((m:Int)-1)=some r∧(match r with | .inl _=>¬dv a<dv b | .inr x=>x=decide (dv a<dv b)):=by
  refine dC (I:=fun i s=>s=((m-i:Nat):Int)-1∧dv (a.drop (m-i))=dv (b.drop (m-i))) m _ ⟨rfl,?_⟩ (jX (by omega)) ?_
  ·rw[aiu (by omega),aiu (by omega)]
  rintro i s hi ⟨rfl,he⟩;generalize hk:m-i=k at *;simp only[qm]
  by_cases h0:0<k
  ·have ek:((k:Int)-1)=((k-1:Nat):Int):=by omega
   rw[ek,if_pos (by simp),xA,aih,xA,aih];rw[show k=k-1+1 by omega]at he
   by_cases O:gd a (k-1)=gd b (k-1)
   ·left;rw[if_neg (by simpa using O)];refine⟨by omega,_,rfl,by rw[gz (by omega)];omega,?_⟩;rw[show m-(i+1)=k-1 by omega,wx,wx b,O,he]
   ·right;rw[if_pos (by simpa using O)];refine⟨.inr (decide (gd a (k-1)<gd b (k-1))),rfl,?_⟩;rcases Int.lt_or_gt_of_ne O with h|h
    ·have:=XO Y Z he h;simp[h,this]
    ·have:=XO Z Y he.symm h;have h1:¬gd a (k-1)<gd b (k-1):=by omega
     have h2:¬dv a<dv b:=by omega
     simp[h1,h2]
  ·right;have:k=0:=by omega
   subst this;refine⟨.inl (),by rw[if_neg (by simp)],?_⟩;simp only[ah6]at he;omega
 obtain⟨r,h1,h2⟩:=key;unfold nn;rw[em,gz (x:=(m:Int)-1) (by omega),h1,aih];cases r with
 | inl u=>simp only at h2 ⊢;simp[h2]
 | inr x=>simp only at h2 ⊢;rw[h2]
theorem ac7 {a b:List Int} (ha:Dg a) (hb:Dg b) (hf:Fit a) (Y:b.length<=a.length) (hle:dv b<=dv a):jR a b=some (aP (dv a-dv b).toNat):=by
 unfold Fit at hf;have key:∃l,aS (og a b) (0,0,[])=some l∧l.length=a.length∧Dg l∧dv l=dv a-dv b:=by
  refine dC (I:=fun i s=>s.2.1=(i:Int)∧s.2.2.length=i∧Dg s.2.2∧(0<=s.1∧s.1<=1)∧dv s.2.2+dv (b.take i)=dv (a.take i)+pw i*s.1)
   a.length _ ⟨rfl,rfl,Dg.nil,by simp,by simp[dv]⟩ (jX (by omega)) ?_
  rintro i ⟨c,s,l⟩ hi ⟨h1,U,X,hc,he⟩;simp only at h1 U X hc he;subst h1;simp only[og]
  by_cases O:i<a.length
  ·left;have ga:=ha.get O;have gb:=HK hb i;rw[if_pos (by simpa using O),cj O,aih,xA,aih,gz (x:=a[i]-gd b i) (by omega),gz (x:=a[i]-gd b i-c) (by omega)];have e1:IntKind.i64.wrap ((i:Int)+1)=((i+1:Nat):Int):=by rw[gz (by omega)];omega
   by_cases hn:a[i]-gd b i-c<0
   ·rw[if_pos (by simpa using hn),gz (by omega),Bk (by simp;omega),aih];refine⟨O,_,rfl,e1,by simp[U],X.append (Dg.mk (by omega) Dg.nil),by simp,?_⟩;simp only;rw[gj,pZ,fS O,U,T5];simp only[dv,ai9,ajd,aiT];rw[aiV,ai0,ai0];omega
   ·rw[if_neg (by simpa using hn),Bk (by simp;omega),aih];refine⟨O,_,rfl,e1,by simp[U],X.append (Dg.mk (by omega) Dg.nil),by simp,?_⟩;simp only;rw[gj,pZ,fS O,U];simp only[dv,ai9,ajd];rw[ai0,ai0];omega
  ·right;have Z:i=a.length:=by omega
   subst Z;refine⟨l,by rw[if_neg (by simp)],U,X,?_⟩;rw[wU Y,aiL]at he;have h1:=nI X;rw[U]at h1;have aa:c=0:=by
    rcases (show c=0∨c=1 by omega) with h|h
    ·exact h
    ·subst h;omega
   subst aa;omega
 obtain⟨l,h1,h2,h3,h4⟩:=key;unfold jR;rw[h1,aih,ng,UH (by unfold Fit;omega) h3,h4]
theorem OP {n R:Nat} (hn:n≠0) (Y:(aP n).length<=17592186043904) (Z:(aP R).length<=17592186043906) (hR:R<1048576*n):aS (np (aP n) (aP R)) (0,1048576)=some ((R / n:Nat):Int):=by
 have key:∃r,aS (np (aP n) (aP R)) (0,1048576)=some r∧r=((R / n:Nat):Int):=by
  refine qW (I:=fun (s:Int×Int)=>∃O U:Nat,s=((O:Int),(U:Int))∧O<U∧U<=1048576∧O*n<=R∧R<U*n) (μ:=fun (s:Int×Int)=>(s.2-s.1).toNat) _ ⟨0,1048576,rfl,by omega,by omega,by omega,hR⟩ (by simp only;unfold FU;omega) ?_;rintro _ ⟨O,U,rfl,h1,h2,h3,h4⟩;simp only[np];rw[gz (x:=(U:Int)-O) (by omega)]
  by_cases X:(U:Int)-O>1
  ·left;have em:((O:Int)+U) / 2=(((O+U) / 2:Nat):Int):=by omega
   have hd:Dg [(((O+U) / 2:Nat):Int)]:=Dg.mk (by omega) Dg.nil;have ed:dv (aP n)*dv [(((O+U) / 2:Nat):Int)]=((n*((O+U) / 2):Nat):Int):=by rw[bu,ahD];simp[dv]
   rw[if_pos (by simpa using X),gz (x:=(O:Int)+U) (by omega),aaH (by omega) (by omega) (by omega),aih,em,Z3 (cz n) hd (by simp;omega),aih,ed,ahE];have aa:(aP (n*((O+U) / 2))).length<=17592186043905:=by
    have:((n*((O+U) / 2):Nat):Int)<pw ((aP n).length+1):=by
     rw[ik,ahD];have a1:=fN n;have:(n:Int)*((O+U) / 2:Nat)<=n*1048576:=aiU (by omega) (by omega);omega
    have:=gK this;omega
   rw[ad8 (cz R) (cz _) (by unfold Fit;omega) (by unfold Fit;omega),aih,bu,bu]
   by_cases hc:R<n*((O+U) / 2)
   ·rw[if_pos (decide_eq_true (by omega))];refine⟨_,rfl,⟨O,(O+U) / 2,rfl,by omega,by omega,h3,by rw[ahC];exact hc⟩,by simp only;omega⟩
   ·rw[if_neg (by rw[decide_eq_true_eq];omega)];refine⟨_,rfl,⟨(O+U) / 2,U,rfl,by omega,by omega,by rw[ahC];omega,h4⟩,by simp only;omega⟩
  ·right;refine⟨_,by rw[if_neg (by simpa using X)],?_⟩;have:U=O+1:=by omega
   subst this;congr 1;have:R / n=O:=by
    apply Nat.div_eq_of_lt_le
    ·exact h3
    ·exact h4
   exact this.symm
 obtain⟨r,h1,rfl⟩:=key;exact h1
theorem acq {m n:Nat} (hn:n≠0) (ah:(aP m).length<=17592186043904) (ab:(aP n).length<=17592186043904):pD (aP m) (aP n)=some (aP (m / n),aP (m % n)):=by
 generalize ha:aP m=a at *;have ad:Dg a:=by rw[<- ha];exact cz m
 have key:∃r,aS (qn a (aP n)) ([],(a.length:Int)-1,List.replicate a.length 0)=some r∧r.2.length=a.length∧Dg r.2∧∃R:Nat,r.1=aP R∧R<n∧dv a=n*dv r.2+R:=by
  refine dC (I:=fun i s=>s.2.1=((a.length-i:Nat):Int)-1∧s.2.2.length=a.length∧Dg s.2.2∧∃R:Nat,s.1=aP R∧R<n∧dv (a.drop (a.length-i))=n*dv (s.2.2.drop (a.length-i))+R)
   a.length _ ⟨rfl,by simp,Dg.rep _,0,cw.symm,by omega,by simp[dv]⟩ (jX (by omega)) ?_
  rintro i ⟨r,s,l⟩ hi ⟨h1,hl,hg,R,h2,hR,he⟩;simp only at h1 hl hg h2 he;subst h1 h2;generalize hk:a.length-i=k at *;simp only[qn]
  by_cases h0:0<k
  ·left;have O:k-1<a.length:=by omega
   have Y:k-1<l.length:=by omega
   have ek:((k:Int)-1)=((k-1:Nat):Int):=by omega
   have ga:=ad.get O;have ai:=cA (show R<=n by omega);have ae:Dg ([a[k-1]]++aP R):=(Dg.mk ga Dg.nil).append (cz R);obtain⟨X,hX⟩:∃X:Nat,a[k-1]+1048576*(R:Int)=X:=⟨(a[k-1]+1048576*(R:Int)).toNat,by omega⟩;have Z:X<1048576*n:=by omega
   have ag:(aP X).length<=17592186043906:=by
    have:(X:Int)<pw ((aP n).length+1):=by
     rw[ik];have a1:=fN n;omega
    have:=gK this;omega
   rw[ek,if_pos (by simp),cj O,aih,Bk (by simp;omega),aih,Fo (n:=X) (by unfold Fit;simp;omega) ae (by rw[gj,bu];simp only[dv,List.length_cons,List.length_nil];rw[show pw (0+1)=1048576 by decide];omega),aih,OP hn ab ag Z,aih,cj Y,aih];have hq:X / n<1048576:=aiz (by rw[ahC];exact Z);have aj:(0:Int)<=((X / n:Nat):Int):=Int.natCast_nonneg _;rw[Fo (n:=X / n) (by simp[Fit]) (Dg.mk (by omega) Dg.nil) (by simp[dv]),aih];have ak:(aP (X / n)).length<=1:=gK (by rw[ik,mM];omega);have U:(dv (aP n)*dv (aP (X / n))).toNat=n*(X / n):=by rw[bu,bu,<- ahD];rfl
   rw[Z3 (cz _) (cz _) (by omega),aih,U];have hle:n*(X / n)<=X:=Nat.mul_div_le X n;rw[ac7 (cz _) (cz _) (by unfold Fit;omega) (cA hle) (by rw[bu,bu];omega),aih,bu,bu];have aa:((X:Int)-(n*(X / n):Nat)).toNat=X % n:=by
    have:=aiP X n;omega
   rw[aa];have e1:IntKind.i64.wrap (((k-1:Nat):Int)-1)=((k-1:Nat):Int)-1:=gz (by omega);refine⟨by omega,_,rfl,by rw[e1,show a.length-(i+1)=k-1 by omega],by simpa using hl,hg.set _ (by omega),X % n,rfl,ahy _ (by omega),?_⟩;simp only[Int.toNat_natCast];rw[show a.length-(i+1)=k-1 by omega,jG O,jG (l:=l.set (k-1) _) (i:=k-1) (by simpa using Y),show k-1+1=k by omega,List.getElem_set_self,List.drop_set_of_lt (by omega),he,aiV,aiV];have h3:=aiP X n;have e3:(n:Int)*(1048576*dv (l.drop k))=1048576*(n*dv (l.drop k)):=ai7 _ _ _;rw[e3,<- ahD n (X / n)];omega
  ·right;have:k=0:=by omega
   subst this;refine⟨(aP R,l),by rw[if_neg (by simp)],hl,hg,R,rfl,hR,?_⟩;simpa using he
 obtain⟨⟨r,l⟩,h1,h2,h3,R,h4,h5,h6⟩:=key;simp only at h2 h3 h4 h6;unfold pD;rw[mk0 (by omega),aih,gz (x:=(a.length:Int)-1) (by omega),h1,aih];simp only;rw[<- ha,bu]at h6;have al:=cO h3;obtain⟨Q,hQ⟩:∃Q:Nat,dv l=Q:=⟨(dv l).toNat,by omega⟩;rw[hQ]at h6;have hm:m=n*Q+R:=by
  have:((m:Nat):Int)=((n*Q+R:Nat):Int):=by rw[Int.natCast_add,ahD];exact h6
  omega
 have e1:m / n=Q:=by rw[hm,Nat.mul_add_div (by omega),ajc h5,ahb]
 have e2:m % n=R:=by rw[hm,Nat.mul_add_mod,ahA h5]
 rw[Fo (n:=Q) (by unfold Fit;omega) h3 hQ,aih,h4,e1,e2]
theorem Vo {a b:Nat} (Z:(aP a).length<=mc) (hb:(aP b).length<=mc):aS pC (aP a,aP b)=some (aP (Nat.gcd a b)):=by
 have hL:mc=17592186043904:=rfl;have key:∃r,aS pC (aP a,aP b)=some r∧r=aP (Nat.gcd a b):=by
  have la:=TD (fN a);have lb:=TD (fN b)
  let val:List Int->Nat:=fun l=>(dv l).toNat
  have O:∀n,val (aP n)=n:=fun n=>by show (dv (aP n)).toNat=n;rw[bu];rfl
  refine qW (I:=fun (s:List Int×List Int)=>∃x y,s=(aP x,aP y)∧Nat.gcd x y=Nat.gcd a b∧(aP x).length<=mc∧(aP y).length<=mc)
   (μ:=fun (s:List Int×List Int)=>lg (val s.1)+lg (val s.2)+(if val s.1<val s.2 then 1 else 0)) _ ⟨a,b,rfl,rfl,Z,hb⟩ (by simp only[O];unfold FU;split<;>omega) ?_
  rintro _ ⟨x,y,rfl,Y,hx,hy⟩;simp only[pC]
  by_cases h0:y=0
  ·right;subst h0;refine⟨_,by rw[cw,if_neg (by simp)],?_⟩;rw[<- Y,aji]
  ·left;have X:0<(aP y).length:=aiA.2 (fun h=>h0 (qQ.1 h));rw[if_pos (by simpa using X),acq h0 (by omega) (by omega),aih];have aa:=ahy x (ajj h0);refine⟨_,rfl,⟨y,x % y,rfl,?_,hy,?_⟩,?_⟩
   ·rw[<- Y,Nat.gcd_comm y,<- Nat.gcd_rec,Nat.gcd_comm]
   ·have:=cA (Nat.mod_le x y);omega
   ·simp only[O];rw[if_neg (by omega)]
    by_cases U:x<y
    ·rw[if_pos U,ahA U];omega
    ·rw[if_neg U];have:lg (x % y)<lg x:=by
      apply ace;have h1:=aiP x y;have h2:1<=x / y:=(Nat.one_le_div_iff (by omega)).2 (by omega);have h3:y*1<=y*(x / y):=Nat.mul_le_mul_left _ h2;omega
     omega
 obtain⟨r,h1,rfl⟩:=key;exact h1
theorem afC {x y:Int} (Z:Ln x<=mc) (hy:Ln y<=mc):qk (eW x) (eW y)=some (eW (Int.gcd x y),0):=by
 have hL:mc=17592186043904:=rfl;unfold qk;rw[mB (by omega),aih];simp only[ah7,ahc,if_false];rw[mB (by omega),aih,aih];simp only[ah7,ahc,if_false];have O:(eW x).aa=aP x.natAbs:=rfl;have U:(eW y).aa=aP y.natAbs:=rfl;rw[O,U];have Y:(aP x.natAbs).length<=17592186043904:=by show Ln x<=_;omega
 have fy:(aP y.natAbs).length<=17592186043904:=by show Ln y<=_;omega
 have fg:(aP (Nat.gcd x.natAbs y.natAbs)).length<=17592186043904:=by
  by_cases h:y.natAbs=0
  ·rw[h,aji];exact Y
  ·have:=cA (ajk x.natAbs (ajj h));omega
 have X:Nat.gcd x.natAbs y.natAbs=((Int.gcd x y:Nat):Int).natAbs:=rfl;rw[Vo (by omega) (by omega),aih,D6 (x:=(Int.gcd x y:Int)) X ?_ (fun _=>by omega),aih];intro h;rw[ajg (by omega)]
theorem adN {x y:Int} (hx:Ln x<=eO) (hy:Ln y<=eO) (h0:0<y) (hd:y∣x):od (eW x) (eW y)=some (eW (x / y),eW 0,0):=by
 have hL:eO=4398046511104:=rfl;unfold od;rw[mB (by omega),aih];simp only[ah7,ahc,if_false];rw[mB (by omega),aih,aih];simp only[ah7,ahc,if_false];have O:(eW x).aa=aP x.natAbs:=rfl;have U:(eW y).aa=aP y.natAbs:=rfl;have X:(eW x).aj=x.sign:=rfl;have Y:(eW y).aj=1:=ajg h0;rw[O,U,X,Y];have fx:(aP x.natAbs).length<=4398046511104:=by show Ln x<=_;omega
 have fy:(aP y.natAbs).length<=4398046511104:=by show Ln y<=_;omega
 have fq:=cA (Nat.div_le_self x.natAbs y.natAbs);obtain⟨z,rfl⟩:=hd;have Z:y*z / y=z:=Int.mul_ediv_cancel_left _ (by omega);have hn:(y*z).natAbs=y.natAbs*z.natAbs:=aje _ _;have hq:(y*z).natAbs / y.natAbs=z.natAbs:=by rw[hn,Nat.mul_div_cancel_left _ (by omega)]
 have hr:(y*z).natAbs % y.natAbs=0:=by rw[hn,Nat.mul_mod_right]
 have ab:(y*z).sign=z.sign:=by rw[Int.sign_mul,ajg h0,aja]
 rw[if_neg (by decide),acq (by omega) (by omega) (by omega),aih,aiT,ab,gz (x:=z.sign) (by have:=ot z;omega),Z,hq,hr,cw];rw[hq]at fq;have hT:(if decide (z.sign>=0)=true then some true else some ((([]:List Int).length:Int)==0))=some true:=by split<;>rfl
 simp only[hT,Option.bind_some,if_true];rw[D6 (x:=z) rfl (fun _=>rfl) (fun _=>by omega),aih];have:fe z.sign []=some (eW 0):=BV 0 (by simp[Fit]) Dg.nil rfl (fun h=>absurd rfl h);rw[this,aih]
theorem adP {x:Int} (h:Ln x<=eO):ql (eW x)=some (eW (-x)):=by
 unfold ql;have U:eO=4398046511104:=rfl;rw[mB (by omega),aih];simp only[ah7,ahc,if_false];have O:Fit (eW x).aa:=by unfold Fit;show Ln x<=_;omega
 rw[BV (-x) O (cz _) (by show dv (aP _)=_;rw[bu,Int.natAbs_neg]),aih];intro X;show IntKind.i64.wrap (0-x.sign)=_;rw[gz (by have:=ot x;omega),Int.sign_neg,Int.zero_sub]
theorem YH {x:Int} (hx : -9223372036854775808<=x∧x<9223372036854775808):∃l,aS ve (x,[])=some l∧Dg l∧dv l=x.natAbs∧l.length<=5:=by
 refine qW (I:=fun (s:Int×List Int)=>Dg s.2∧dv s.2+pw s.2.length*s.1.natAbs=x.natAbs∧s.2.length<=5∧(s.1=0∨s.2.length<5)) (μ:=fun (s:Int×List Int)=>s.1.natAbs) _ ⟨Dg.nil,by simp[dv,mM],by simp,by simp⟩ (by simp only;unfold FU;omega) ?_;rintro⟨u,l⟩ ⟨U,h2,h3,h5⟩;simp only at U h2 h3 h5;have hp:=my l.length;have Y:=cO U;have hu:(u.natAbs:Int)<=x.natAbs:=by
  have:1*(u.natAbs:Int)<=pw l.length*u.natAbs:=ajb (by omega) (by omega);omega
 simp only[ve]
 by_cases Z:u≠0
 ·left;have aa:l.length<4:=by
   rcases ahn l.length 4 with h|h
   ·exact h
   ·have h4:l.length=4:=by omega
    rw[h4,pw4]at h2;omega
  have hm:Ed .i64 u 1048576=some (u.tmod 1048576):=by unfold Ed;rw[if_neg (by decide)]
  have X:yS .i64 u 1048576=some (u.tdiv 1048576):=by
   unfold yS;have:(u.tdiv 1048576).natAbs=u.natAbs / 1048576:=Int.natAbs_tdiv u 1048576;rw[if_neg (by decide),gz (by omega)]
  have ha:(u.tmod 1048576).natAbs=u.natAbs % 1048576:=Int.natAbs_tmod u 1048576;have hb:(u.tdiv 1048576).natAbs=u.natAbs / 1048576:=Int.natAbs_tdiv u 1048576;have ab:=uc l.length (u.natAbs:Int);rw[if_pos (by simpa using Z),hm,aih];have fin:∀d:Int,d=((u.natAbs % 1048576:Nat):Int)->(Dg (l++[d])∧dv (l++[d])+pw (l++[d]).length*((u.tdiv 1048576).natAbs:Int)=x.natAbs∧(l++[d]).length<=5∧(u.tdiv 1048576=0∨(l++[d]).length<5))∧(u.tdiv 1048576).natAbs<u.natAbs:=by
   rintro d rfl;refine⟨⟨U.append (Dg.mk (by omega) Dg.nil),?_,by simp;omega,by right;simp;omega⟩,by omega⟩;rw[hb];simp only[gj,dv,ahO,List.length_cons,List.length_nil,ai9,ajd,ahr];rw[Int.natCast_emod,Int.natCast_ediv];have:((1048576:Nat):Int)=1048576:=rfl;rw[this];omega
  by_cases O:u.tmod 1048576<0
  ·rw[if_pos (by simpa using O),gz (x:=0-u.tmod 1048576) (by omega),Bk (by simp;omega),aih,X,aih];have:=fin (0-u.tmod 1048576) (by omega);exact⟨_,rfl,this.1,this.2⟩
  ·rw[if_neg (by simpa using O),Bk (by simp;omega),aih,X,aih];have:=fin (u.tmod 1048576) (by omega);exact⟨_,rfl,this.1,this.2⟩
 ·right;have:u=0:=by omega
  subst this;refine⟨l,by rw[if_neg (by simp)],U,?_,h3⟩;simp at h2;omega
theorem Of4 {x:Int} (h : -9223372036854775808<=x∧x<9223372036854775808):ue x=some (eW x):=by
 unfold ue
 by_cases O:x=0
 ·subst O;rw[Eb];rfl
 ·have U:(if decide (x<0)=true then some (-1:Int) else some 1)=some x.sign:=by
   rcases iA x with⟨a,b,c⟩|⟨a,b,c⟩|⟨a,b⟩
   ·rw[if_neg (by simp;omega),a]
   ·rw[if_pos (by simp;omega),a]
   ·exact absurd b O
  obtain⟨l,h1,h2,h3,h4⟩:=YH h;rw[if_neg (by simpa using O),U,aih,h1,aih,ng,BV x (by unfold Fit;omega) h2 h3 (fun _=>rfl)]
instance:DecidableEq aD:=fun a b=>decidable_of_iff (a.aj=b.aj∧a.aa=b.aa) (by cases a;cases b;simp)
instance:DecidableEq aw:=fun a b=>decidable_of_iff (a.cu=b.cu∧a.ct=b.ct) (by cases a;cases b;simp)
theorem VX {b c:aD} (U:Fit b.aa) (X:b.aa.length=c.aa.length):∃r,aS (lJ b c) 0=some r∧(match r with | .inl _=>b.aa=c.aa | .inr x=>x=false∧b.aa≠c.aa):=by
 refine dC (I:=fun i s=>s=(i:Int)∧b.aa.take i=c.aa.take i) b.aa.length _ ⟨rfl,by simp⟩ (jX U) ?_;unfold Fit at U;rintro i s Y ⟨rfl,he⟩;simp only[lJ]
 by_cases O:i<b.aa.length
 ·rw[if_pos (by simpa using O),cj O,aih,cj (by omega),aih]
  by_cases hx:b.aa[i]=c.aa[i]
  ·left;rw[if_neg (by simpa using hx)];refine⟨O,_,rfl,by rw[gz (by omega)];omega,?_⟩;rw[aiX,aiX,he];simp[O,show i<c.aa.length by omega,hx]
  ·right;rw[if_pos (by simpa using hx)];refine⟨.inr false,rfl,rfl,fun h=>hx ?_⟩;simp[h]
 ·right;have:i=b.aa.length:=by omega
  subst this;refine⟨.inl (),by rw[if_neg (by simp)],?_⟩;rw[aiL,ah5 (by omega)]at he;exact he
theorem Ua {b c:aD} (U:Fit b.aa):jA b c=some (decide (b=c)):=by
 have O:b=c↔b.aj=c.aj∧b.aa=c.aa:=by cases b;cases c;simp
 unfold jA
 by_cases h1:b.aj=c.aj
 ·rw[if_neg (by simpa using h1),aih]
  by_cases h2:b.aa.length=c.aa.length
  ·rw[if_neg (by simp;omega)];obtain⟨r,h3,h4⟩:=VX U h2;rw[h3,aih];cases r with
   | inl u=>simp only at h4 ⊢;simp[O,h1,h4]
   | inr x=>simp only at h4 ⊢;simp[O,h1,h4.1,h4.2]
  ·rw[if_pos (by simp;omega)];have:b≠c:=fun h=>h2 (by rw[h]);simp[this]
 ·rw[if_pos (by simpa using h1),aih,if_pos rfl];have:b≠c:=fun h=>h1 (by rw[h]);simp[this]
theorem aet {f g:aw} (U:Fit f.cu.aa) (X:Fit f.ct.aa):lI f g=some (decide (f=g)):=by
 have O:f=g↔f.cu=g.cu∧f.ct=g.ct:=by cases f;cases g;simp
 unfold lI;rw[Ua U,aih]
 by_cases h:f.cu=g.cu
 ·rw[if_pos (by simpa using h),Ua X,aih];simp[O,h]
 ·rw[if_neg (by simpa using h)];simp[O,h]
theorem afE {p q:Int} (U:Ln p<=eO) (O:Ln q<=eO) (Y:q≠0):sn (eW p) (eW q)=some (e9 (Rat.divInt p q),0):=by
 have hL:eO=4398046511104:=rfl;have main:∀ {p q:Int},Ln p<=eO->Ln q<=eO->0<q ->
   ((qk (eW p) (eW q)).bind fun r6=>(od (eW p) r6.1).bind fun r7=>(od (eW q) r6.1).bind fun r8=>some ((aw.mk r7.1 r8.1),(0:Int)))=some (e9 (Rat.divInt p q),0):=by
  intro p q U O Y;have hg:0<Int.gcd p q:=Int.gcd_pos_of_ne_zero_right _ (by omega);have X:Ln (Int.gcd p q:Int)<=eO:=by
   have:=cA (ajk p.natAbs (show 0<q.natAbs by omega));show (aP (Nat.gcd p.natAbs q.natAbs)).length<=_;have h7:(aP q.natAbs).length<=eO:=O;omega
  rw[afC (qL U) (qL O),aih];simp only;rw[adN U X (by omega) (Int.gcd_dvd_left ..),aih,adN O X (by omega) (Int.gcd_dvd_right ..),aih];have hd:((q.natAbs / Int.gcd p q:Nat):Int)=q / (Int.gcd p q:Int):=by
   rw[Int.natCast_ediv];congr 1;omega
  unfold e9;rw[Rat.num_divInt,Rat.den_divInt,if_neg (by omega),ajg Y,aja,Int.gcd_comm q p,hd]
 unfold sn;rw[mB (by omega),aih];simp only[ah7,ahc,if_false];rw[mB (by omega),aih,aih];simp only[ah7,ahc,if_false];have Z:(eW q).aj=q.sign:=rfl;rw[Z];rcases iA q with⟨a,b,c⟩|⟨a,b,c⟩|⟨a,b⟩
 ·rw[if_neg (by rw[a];decide),if_neg (by rw[a];decide),aih];exact main U O c
 ·rw[if_neg (by rw[a];decide),if_pos (by rw[a];decide),adP U,aih,adP O,aih,aih];have:=main (p := -p) (q := -q) (by rw[Cf];exact U) (by rw[Cf];exact O) (by omega);rw[Rat.neg_divInt_neg]at this;exact this
 ·exact absurd b Y
theorem Jv {x:Int} (h : -9223372036854775808<=x∧x<9223372036854775808):Ln x<=eO:=by
 have:Ln x<=4:=K0 (by rw[pw4];omega);have O:eO=4398046511104:=rfl;omega
theorem Of5 {p q:Int} (O : -9223372036854775808<=p∧p<9223372036854775808) (U : -9223372036854775808<=q∧q<9223372036854775808) (X:q≠0):xf p q=some (e9 (Rat.divInt p q),0):=by
 unfold xf;rw[Of4 O,aih,Of4 U,aih,afE (Jv O) (Jv U) X,aih]
theorem aaq {n:Int} (h : -9223372036854775808<=n∧n<9223372036854775808):lH n=some (e9 n):=by
 unfold lH;rw[Of5 h (by decide) (by decide),aih];simp only;congr 2;have:=Rat.num_divInt_den (n:Rat);rw[Rat.num_intCast,Rat.den_intCast]at this;exact this
theorem adY (f:aw) (n:Int):vf f n=some (decide ((f.cu.aa.length:Int)<=n∧(f.ct.aa.length:Int)<=n)):=by
 unfold vf
 by_cases h:(f.cu.aa.length:Int)<=n
 ·rw[if_pos (by simpa using h)];simp[h]
 ·rw[if_neg (by simpa using h)];simp[h]
theorem Yi {σ ρ:Type} {body:σ->Option (σ⊕ρ)} {n:Nat} {s O:σ} (h:body s=some (.inl O)):nK body (n+1) s=nK body n O:=by simp only[nK,h]
theorem Nr {σ ρ:Type} {body:σ->Option (σ⊕ρ)} {n:Nat} {s:σ} {r:ρ} (h:body s=some (.inr r)):nK body (n+1) s=some r:=by simp only[nK,h]
theorem cn {i:Nat} (h:i<4611686018427387904):IntKind.i64.wrap ((i:Int)+1)=((i+1:Nat):Int):=by rw[wrap64 (by omega) (by omega)];omega
theorem ck {α:Type} {l:List α} {i:Nat} {x:α} (h:l[i]? = some x):P.idx l (i:Int)=some x:=Nk (by omega) (by simpa using h)
theorem bD {α:Type} {l:List α} {i:Nat} {x:α} (h:l[i]? = some x):i<l.length:=(ag5.1 h).1
theorem drop_cons {α:Type} {l rest:List α} {i:Nat} {x:α} (h:l.drop i=x::rest):i<l.length∧l[i]? = some x∧l.drop (i+1)=rest:=by
 have O:i<l.length:=by
  rcases ahn i l.length with h1|h1
  ·exact h1
  ·rw[aiu h1]at h;cases h
 rw[aiF O]at h;simp only[ag0]at h;exact⟨O,by rw[agP O,h.1],h.2⟩
def dR {α ρ:Type} (st:Nat->α->Option ρ):Nat->List α->Option ρ
 | _,[]=>none
 | i,x::l=>match st i x with|some r=>some r|none=>dR st (i+1) l
theorem cW {α ρ:Type} {st:Nat->α->Option ρ} : ∀ {l:List α} {i:Nat},dR st i l=none↔∀(j:Nat) x,l[j]? = some x->st (i+j) x=none
 | [],i=>by simp[dR]
 | x::l,i=>by
  simp only[dR];constructor
  ·intro h j y O;cases hs:st i x with
   | some r=>rw[hs]at h;cases h
   | none =>
    rw[hs]at h;cases j with
    | zero=>simp only[List.getElem?_cons_zero,agL]at O;subst O;exact hs
    | succ j =>
     have:=cW.1 h j y (by simpa using O);rw[<- this];congr 1;omega
  ·intro h;have U:=h 0 x rfl;simp only[Nat.add_zero]at U;rw[U];refine cW.2 fun j y O =>?_;have:=h (j+1) y (by simpa using O);rw[<- this];congr 1;omega
theorem dJ {α ρ:Type} {st:Nat->α->Option ρ} {r:ρ} : ∀ {l:List α} {i:Nat},dR st i l=some r->∃(j:Nat) (x:α),l[j]? = some x∧st (i+j) x=some r∧∀(k:Nat) y,k<j->l[k]? = some y->st (i+k) y=none
 | [],i,h=>by cases h
 | x::l,i,h=>by
  simp only[dR]at h;cases hs:st i x with
  | some r' =>
   rw[hs]at h;exact⟨0,x,rfl,by rw[ahb,hs];exact h,fun k y hk=>by omega⟩
  | none =>
   rw[hs]at h;obtain⟨j,y,h1,h2,h3⟩:=dJ h;refine⟨j+1,y,by simpa using h1,by rw[<- h2];congr 1;omega,fun k z hk O =>?_⟩;cases k with
   | zero=>simp only[List.getElem?_cons_zero,agL]at O;subst O;exact hs
   | succ k =>
    have:=h3 k z (by omega) (by simpa using O);rw[<- this];congr 1;omega
theorem pF {α ρ:Type} (l:List α) {body:Int->Option (Int⊕(Unit⊕ρ))} (st:Nat->α->Option ρ) (hlen:l.length<4611686018427387904)
  (X:∀(i:Nat) x,l[i]? = some x->body (i:Int)=some (match st i x with|none =>.inl ((i+1:Nat):Int)|some r =>.inr (.inr r))) (he:body (l.length:Int)=some (.inr (.inl ()))) :
  aS body 0=some (match dR st 0 l with|none =>.inl ()|some r =>.inr r):=by
 have key:∀(rest:List α) (i fuel:Nat),i<=l.length->l.drop i=rest->rest.length<fuel->nK body fuel (i:Int)=some (match dR st i rest with|none =>.inl ()|some r =>.inr r):=by
  intro rest
  induction rest with
  | nil =>
   intro i fuel Y U O;obtain⟨f,rfl⟩:∃f,fuel=f+1:=⟨fuel-1,by simp at O;omega⟩;have hle:l.length<=i:=by
    have:=congrArg List.length U;simp at this;omega
   have:i=l.length:=by omega
   subst this;rw[Nr he];rfl
  | cons x rest Z =>
   intro i fuel Y U O;obtain⟨f,rfl⟩:∃f,fuel=f+1:=⟨fuel-1,by simp at O;omega⟩;obtain⟨h1,h2,h3⟩:=drop_cons U;have:=X i x h2;cases hs:st i x with
   | some r =>
    rw[hs]at this;rw[Nr this];simp only[dR,hs]
   | none =>
    rw[hs]at this;rw[Yi this,Z (i+1) f h1 h3 (by simp at O;omega)];simp only[dR,hs]
 exact key l 0 FU (agD _) rfl (by have:FU=1000000000000000000000000:=rfl;omega)
theorem xT {α σ ρ:Type} {body:Int×σ->Option ((Int×σ)⊕ρ)} (l:List α) (Z:l.length<=17592186044416) (inv:Nat->σ->Prop) (Q:ρ->Prop) {s0:σ} (h0:inv 0 s0)
  (O:∀(i:Nat) x s,l[i]? = some x->inv i s->∃X,body ((i:Int),s)=some (.inl (((i+1:Nat):Int),X))∧inv (i+1) X)
  (U:∀s,inv l.length s->∃r,body ((l.length:Int),s)=some (.inr r)∧Q r):∃r,aS body ((0:Int),s0)=some r∧Q r:=by
 refine dC (fun i s=>s.1=(i:Int)∧inv i s.2) l.length Q ⟨rfl,h0⟩ (jX Z) ?_;rintro i ⟨k,s⟩ hi ⟨rfl,Y⟩;rcases ahn i l.length with h|h
 ·obtain⟨X,h1,h2⟩:=O i _ s (agP h) Y;exact .inl ⟨h,_,h1,rfl,h2⟩
 ·have:i=l.length:=by omega
  subst this;exact .inr (U s Y)
theorem jT {α:Type} {N j:Nat} (f:Nat->α) (h:j<N):((List.range N).map f)[j]? = some (f j):=by simp[h]
theorem VT {α:Type} {N:Nat} (f:Nat->α):((List.range N).map f).length=N:=by simp
theorem se {α:Type} {l:List α} {N:Nat} {f:Nat->α} (U:l.length=N) (h:∀j,j<N->l[j]? = some (f j)):l=(List.range N).map f:=by
 apply aiO;intro j
 by_cases O:j<N
 ·rw[h j O,jT f O]
 ·rw[aij (by omega),aij (by simp;omega)]
theorem zJ {α:Type} {N i:Nat} (f:Nat->α) (v:α):((List.range N).map f).set i v=(List.range N).map fun j=>if j=i then v else f j:=by
 refine se (by simp) fun j O =>?_;rw[List.getElem?_set]
 by_cases h:i=j
 ·subst h;rw[if_pos rfl,if_pos (by simpa using O)];simp
 ·rw[if_neg h,jT f O,if_neg (fun e=>h e.symm)]
theorem D2 {α β:Type} {mk:β->α} {R:β->Prop} : ∀ {l:List α},(∀x∈l,∃y,x=mk y∧R y)->∃U:List β,l=U.map mk∧∀y∈U,R y
 | [],_=>⟨[],rfl,fun _ h=>by cases h⟩
 | x::l,h=>by
  obtain⟨y,h1,h2⟩:=h x (aid ..);obtain⟨U,h3,h4⟩:=D2 (l:=l) fun z O=>h z (aie _ O);refine⟨y::U,by rw[agI,<- h1,<- h3],fun z O =>?_⟩;rcases agJ.1 O with rfl|O
  ·exact h2
  ·exact h4 z O
theorem Km {α:Type} {R:α->α->Prop} (X:∀a b c,R a b->R b c->R a c) {l:List α} (h:∀(i:Nat) a b,l[i]? = some a->l[i+1]? = some b->R a b):l.Pairwise R:=by
 rw[aiR];intro i j Y U O;obtain⟨d,rfl⟩:∃d,j=i+1+d:=⟨j-(i+1),by omega⟩;clear O
 induction d with
 | zero=>exact h i _ _ (agP Y) (agP U)
 | succ d Z=>exact X _ _ _ (Z (by omega)) (h (i+1+d) _ _ (agP (by omega)) (agP U))
abbrev Tk:=Nat×Nat×Rat
def BW (t:Tk):bL:=bL.mk (t.1:Int) (t.2.1:Int) (e9 t.2.2)
def yM (N:Nat) (tk:List Tk):fP:=fP.mk (N:Int) (tk.map BW)
theorem TM {a b:Tk} (h:BW a=BW b):a=b:=by
 unfold BW at h;injection h with h1 h2 h3;exact Prod.ext (by omega) (Prod.ext (by omega) (u9 h3))
theorem aaZ {N M:Nat} {a b:List Tk} (h:yM N a=yM M b):N=M∧a=b:=by
 unfold yM at h;injection h with h1 h2;refine⟨by omega,?_⟩;exact List.map_inj_right (f:=BW) (fun x y h=>TM h) |>.1 h2
def yo:List Tk->Nat->Rat
 | [],_=>0
 | t::l,p=>(if t.1=p then t.2.2 else 0)+yo l p
theorem OO (a b:List Tk) (p:Nat):yo (a++b) p=yo a p+yo b p:=by
 induction a with
 | nil=>rw[air,yo,Rat.zero_add]
 | cons t a O=>rw[aiC,yo,yo,O];grind
def iG (tk:List Tk) (p:Nat):Rat:=1-yo tk p
theorem DZ {tk:List Tk} {i:Nat} {t:Tk} (h:tk[i]? = some t) (p:Nat):iG (tk.take (i+1)) p=iG (tk.take i) p-(if t.1=p then t.2.2 else 0):=by
 obtain⟨O,he⟩:=ag5.1 h;unfold iG;rw[ajq O,OO,he];simp only[yo];grind
theorem Js {tk:List Tk} {K:Nat} (hs:∀t∈tk,LF t.2.2<=K) (p:Nat):∀i,i<=tk.length->LF (iG (tk.take i) p)<=1+i*(K+1)
 | 0,_=>by
  have:iG (tk.take 0) p=((1:Int):Rat):=by unfold iG;rw[aiG,yo];grind
  rw[this];exact agE (Jr (n:=1) (by decide)) (by omega)
 | i+1,h=>by
  have U:=Js hs p i (by omega);have O:tk[i]? = some tk[i]:=agP (by omega);rw[DZ O];have hk:=hs _ (agO (show i<tk.length by omega));rw[ahB];split
  ·have:=P5 (iG (tk.take i) p) tk[i].2.2;omega
  ·rw[show ∀x:Rat,x-0=x by intro x;grind];omega
theorem KZ {tk:List Tk} {K:Nat} (hs:∀t∈tk,LF t.2.2<=K) (p:Nat):LF (iG tk p)<=1+tk.length*(K+1):=by
 have:=Js hs p tk.length (agC _)
 rwa [aiL]at this
theorem Yx {α:Type} {N B:Nat} (z:α) (h:N*B<=140737488355328) (h2:N<=2000):H5 B (N:Int) (N:Int) z=some (List.replicate N z):=by
 unfold H5;have:(2000:Nat)<=maxLen:=by decide
 rw[if_pos ⟨by omega,by omega,by omega,by simpa using h⟩];simp
theorem ad1:jt 1=some (e9 1):=abA (n:=1) (by decide)
theorem NJ {N K:Nat} {tk:List Tk} (hN:N<=2000) (hlen:tk.length<=8000) (hf:∀t∈tk,t.1<N) (hK:K<=1000000) (hs:∀t∈tk,LF t.2.2<=K) :
  kV (yM N tk)=some ((List.range N).map fun p=>e9 (iG tk p)):=by
 unfold kV yM;simp only;rw[Yx _ (by omega) hN,aih];have h1:∃r,aS (lC (List.replicate N (aw.mk (aD.mk 0 []) (aD.mk 0 [])))) ((0:Int),List.replicate N (aw.mk (aD.mk 0 []) (aD.mk 0 [])))=some r∧r=(List.range N).map fun p=>e9 (iG (tk.take 0) p):=by
  refine xT (List.replicate N (aw.mk (aD.mk 0 []) (aD.mk 0 []))) (by simp;omega) (fun i l=>l.length=N∧∀j,j<i->l[j]? = some (e9 1)) _ ⟨by simp,fun j X=>by omega⟩ ?_ ?_
  ·rintro i x l hx ⟨Y,O⟩;have hi:i<N:=by have:=bD hx;simpa using this
   have Z:l[i]? = some l[i]:=agP (by omega);refine⟨l.set i (e9 1),?_,by simpa using Y,fun j X =>?_⟩
   ·simp only[lC];rw[if_pos (by simp;omega),ad1,aih,ck Z,aih,cn (by omega),ahE]
   ·rw[List.getElem?_set]
    by_cases h:i=j
    ·rw[if_pos h,if_pos (by omega)]
    ·rw[if_neg h];exact O j (by omega)
  ·rintro l ⟨Y,O⟩;refine⟨l,?_,?_⟩
   ·simp only[lC];rw[if_neg (by simp)]
   ·rw[List.length_replicate]at O;refine se Y fun j X =>?_;rw[O j X,aiG];congr 2;unfold iG yo;grind
 obtain⟨r,h1,rfl⟩:=h1;rw[h1,aih];have h2:∃r,aS (lD (fP.mk (N:Int) (tk.map BW))) ((0:Int),(List.range N).map fun p=>e9 (iG (tk.take 0) p))=some r∧r=(List.range N).map fun p=>e9 (iG tk p):=by
  refine xT tk (by omega) (fun i l=>l=(List.range N).map fun p=>e9 (iG (tk.take i) p)) _ rfl ?_ ?_
  ·rintro i t _ U rfl;have hi:=bD U;have hm:=ag4 U;have aa:=hf t hm;have Z:(tk.map BW)[i]? = some (BW t):=by rw[agz,U];rfl
   refine⟨_,?_,rfl⟩;simp only[lD];have ab:=Js hs t.1 i (by omega);have ad:=hs t hm;have hmul:i*(K+1)<=8000*1000001:=Nat.mul_le_mul (by omega) (by omega);rw[if_pos (by simp;omega),ck Z,aih];simp only[BW];rw[ck (jT _ aa),aih,abH (by unfold eO;omega),aih,cn (by omega),ahE,zJ];congr 3;refine congrArg (fun f=>(List.range N).map f) (funext fun p =>?_);rw[DZ U]
   by_cases h:p=t.1
   ·subst h;rw[if_pos rfl,if_pos rfl]
   ·rw[if_neg h,if_neg (fun e=>h e.symm)];congr 1;grind
  ·rintro _ rfl;refine⟨_,?_,rfl⟩;simp only[lD];rw[if_neg (by simp),aiL]
 obtain⟨r,h2,rfl⟩:=h2;rw[h2,aih]
def Yr (a b:Tk):Prop:=a.1<b.1∨(a.1=b.1∧a.2.1<b.2.1)
theorem VG (a b c:Tk) (h:Yr a b) (k:Yr b c):Yr a c:=by unfold Yr at *;omega
structure Qa (N:Nat) (tk:List Tk):Prop where
 ports:N<=2000
 takes:tk.length<=8000
 ok:∀t∈tk,t.1<N∧t.2.1<N∧0<t.2.2
 sorted:tk.Pairwise Yr
 leak:∀p,p<N->0<=iG tk p
theorem jb (a b c:Int):dT a b c=some (decide (b<=a∧a<=c)):=by
 unfold dT
 by_cases h1:a>=b<;>by_cases h2:a<=c<;>simp[h1,h2]
theorem U3 (a b:bL):∃c,mu a b=some c∧(c<0↔(a.cD<b.cD∨(a.cD=b.cD∧a.jh<b.jh))):=by
 unfold mu;rw[CR,aih,CR,aih,abC,aih];refine⟨_,rfl,?_⟩;unfold mj;split<;>split<;>(try split)<;>(try split)<;>simp at *<;>omega
theorem vr {q:Rat} : q.num.sign<0↔q<0:=by
 rw[Int.sign_neg_iff,<- Rat.not_le,<- Rat.num_nonneg];omega
theorem yx {q:Rat} : q.num.sign=0↔q=0:=by
 rw[Int.sign_eq_zero_iff_zero,Rat.num_eq_zero]
theorem Uc {q:Rat} : 0<q.num.sign↔0<q:=by
 constructor
 ·intro h;have h1:¬q<0:=fun h'=>by have:=vr.2 h';omega
  have h2:q≠0:=fun h'=>by have:=yx.2 h';omega
  grind
 ·intro h;have h1:¬q.num.sign<0:=fun h'=>by have:=vr.1 h';grind
  have h2:q.num.sign≠0:=fun h'=>by have:=yx.1 h';grind
  omega
theorem BN {q:Rat} {k:Nat} (h1:(e9 q).cu.aa.length<=k) (h2:(e9 q).ct.aa.length<=k):LF q<=k:=by
 unfold LF Ln;exact Nat.max_le.2 ⟨h1,h2⟩
theorem JE {q:Rat} {k:Nat} (h:LF q<=k):(e9 q).cu.aa.length<=k∧(e9 q).ct.aa.length<=k:=by
 unfold LF Ln at h;exact Nat.max_le.1 h
theorem CS {l:List Rat} (Y:l.length<=17592186044416) (hs:∀q∈l,LF q<=eO):cd (l.map e9)=some (decide (∃q∈l,q<0)):=by
 unfold cd dj;rw[pF l (fun i q=>if q<0 then some (i:Int) else none) (by omega) (fun i q O =>?_) (by simp only[dG];rw[if_neg (by simp)])]
 ·rw[aih];cases U:dR (fun i (q:Rat)=>if q<0 then some (i:Int) else none) 0 l with
  | none =>
   simp only;rw[aih,decide_eq_false (by decide),decide_eq_false];rintro⟨q,O,hn⟩;obtain⟨j,X⟩:=agY O;have:=cW.1 U j q X;rw[if_pos hn]at this;cases this
  | some r =>
   obtain⟨j,q,h1,h2,_⟩:=dJ U
   by_cases hn:q<0
   ·rw[if_pos hn]at h2;cases h2;simp only;rw[aih,decide_eq_true (by omega),decide_eq_true ⟨q,ag4 h1,hn⟩]
   ·rw[if_neg hn]at h2;cases h2
 ·have Z:=bD O;simp only[dG,nf];rw[if_pos (by simp;omega),ck (x:=e9 q) (by rw[agz,O];rfl),aih,Jw (hs q (ag4 O)),aih,aih]
  by_cases hn:q<0
  ·rw[decide_eq_true (vr.2 hn),if_pos hn];rfl
  ·rw[decide_eq_false (fun h=>hn (vr.1 h)),if_neg hn,cn (by omega)];rfl
def VO (N:Nat) (x:bL):Bool:=decide (0<=x.cD∧x.cD<=(N:Int)-1)&&decide (0<=x.jh∧x.jh<=(N:Int)-1)&&okF x.e8&&decide (0<x.e8.cu.aj)
def U2 (a b:bL):Prop:=a.cD<b.cD∨(a.cD=b.cD∧a.jh<b.jh)
instance (a b:bL):Decidable (U2 a b):=by unfold U2;infer_instance
def DN (N:Nat) (l:List bL) (i:Nat) (x:bL):Bool:=VO N x&&(decide (i=0)||(match l[i-1]? with|some y=>decide (U2 y x)|none=>false))
theorem Oz {N:Nat} {x:bL} : VO N x=true↔∃t:Tk,x=BW t∧t.1<N∧t.2.1<N∧0<t.2.2:=by
 unfold VO;simp only[ahd,decide_eq_true_eq];constructor
 ·rintro⟨⟨⟨h1,h2⟩,h3⟩,h4⟩;obtain⟨q,O⟩:=BY.1 h3;refine⟨(x.cD.toNat,x.jh.toNat,q),?_,by simp only;omega,by simp only;omega,?_⟩
  ·unfold BW;cases x;simp only at *;rw[<- O,Int.toNat_of_nonneg h1.1,Int.toNat_of_nonneg h2.1]
  ·rw[O]at h4;exact Uc.1 h4
 ·rintro⟨t,rfl,h1,h2,h3⟩;exact⟨⟨⟨by simp only[BW];omega,by simp only[BW];omega⟩,Q7 _⟩,Uc.2 h3⟩
theorem SI {a b:Tk} : U2 (BW a) (BW b)↔Yr a b:=by
 unfold U2 Yr BW;simp only;omega
theorem IE {n:fP} {K:Nat} (hK:K<=1000000) (hs:∀t∈n.aN,t.e8.cu.aa.length<=K∧t.e8.ct.aa.length<=K) :
  ∃b,jO n=some b∧(b=true↔∃N tk,n=yM N tk∧Qa N tk):=by
 unfold jO;rw[jb,aih]
 by_cases hN:0<=n.az∧n.az<=2000
 rotate_left
 ·rw[decide_eq_false hN];refine⟨false,by simp,?_⟩;simp only[ahc,false_iff];rintro⟨N,tk,rfl,h⟩;have:=h.ports;simp only[yM]at hN;omega
 rw[decide_eq_true hN];simp only[ah7,ahc,if_false,Option.bind_some]
 by_cases hL:(n.aN.length:Int)>8000
 ·rw[decide_eq_true hL];refine⟨false,by simp,?_⟩;simp only[ahc,false_iff];rintro⟨N,tk,rfl,h⟩;have:=h.takes;simp only[yM,ag6]at hL;omega
 rw[decide_eq_false hL];simp only[ahc,if_false];obtain⟨N,Z⟩:∃N:Nat,n.az=(N:Int):=⟨n.az.toNat,by omega⟩;have ar:IntKind.i64.wrap (n.az-1)=(N:Int)-1:=by rw[Z,wrap64 (by omega) (by omega)]
 have aC:K<=mc:=agE hK (by unfold mc;omega);have ab:=pF n.aN (body:=lB n) (fun i x=>if DN N n.aN i x=true then none else some false) (by omega) (fun i x hx=>by
  have hi:=bD hx;obtain⟨ah,ai⟩:=hs x (ag4 hx);simp only[lB];rw[if_pos (by simp;omega),ck hx,aih,jb,aih,ar];have ad:(if (!decide (0<=x.cD∧x.cD<=(N:Int)-1))=true then some true
   else (dT x.jh 0 ((N:Int)-1)).bind fun au =>
    if (!au)=true then some true
    else (dz x.e8).bind fun av=>if (!av)=true then some true else (ir x.e8).bind fun aw=>some (decide (aw<=0)))=some (!VO N x):=by
   unfold VO
   by_cases c1:0<=x.cD∧x.cD<=(N:Int)-1
   rotate_left
   ·rw[decide_eq_false c1];simp
   rw[decide_eq_true c1,jb,aih]
   by_cases c2:0<=x.jh∧x.jh<=(N:Int)-1
   rotate_left
   ·rw[decide_eq_false c2];simp
   rw[decide_eq_true c2,Cn ⟨by omega,by omega⟩,aih];cases hq:okF x.e8 with
   | false=>simp
   | true =>
    obtain⟨q,hq⟩:=BY.1 hq;rw[hq]at ah ai ⊢;have ae:=BN ah ai;rw[Jw (by unfold eO;omega),aih];have:(e9 q).cu.aj=q.num.sign:=rfl;rw[this]
    by_cases c3:q.num.sign<=0
    ·rw[decide_eq_true c3,decide_eq_false (show ¬0<q.num.sign by omega)];simp
    ·rw[decide_eq_false c3,decide_eq_true (show 0<q.num.sign by omega)];simp
  rw[ad,aih];unfold DN;cases aD:VO N x with
  | false=>simp
  | true =>
   simp only[ah7,ahc,if_false,ah8];cases i with
   | zero=>rw[if_neg (by simp),cn (by omega)];simp
   | succ i =>
    rw[if_pos (by simp)];have hg:n.aN[i]? = some n.aN[i]:=agP (by omega);have e1:IntKind.i64.wrap (((i+1:Nat):Int)-1)=(i:Int):=by rw[wrap64 (by omega) (by omega)];omega
    obtain⟨c,ax,ak⟩:=U3 n.aN[i] x;rw[e1,ck hg,aih,ax,aih,aiv,hg];simp only[Nat.add_eq_zero_iff,aiJ,and_false,decide_false,ahH]
    by_cases hb:U2 n.aN[i] x
    ·rw[if_neg (by simp;exact ak.2 hb),decide_eq_true hb,cn (by omega)];rfl
    ·rw[if_pos (by simp only[decide_eq_true_eq];have:¬c<0:=fun h=>hb (ak.1 h);omega),decide_eq_false hb];rfl) (by
  unfold lB;rw[if_neg (by simp)])
 rw[ab,aih];cases al:dR (fun i x=>if DN N n.aN i x=true then none else some false) 0 n.aN with
 | some r =>
  obtain⟨j,x,h1,h2,_⟩:=dJ al;simp only[ahr]at h2;split at h2
  ·cases h2
  rename_i an;cases h2;refine⟨false,rfl,?_⟩;simp only[ahc,false_iff];rintro⟨M,tk,rfl,hR⟩;apply an;simp only[yM]at h1 Z ⊢;obtain rfl:M=N:=by omega
  rw[agz,agA]at h1;obtain⟨t,ht,rfl⟩:=h1;have hm:=ag4 ht;unfold DN;rw[Oz.2 ⟨t,rfl,hR.ok t hm⟩,ah8];cases j with
  | zero=>simp
  | succ j =>
   have ay:=bD ht;have hg:tk[j]? = some tk[j]:=agP (by omega);rw[aiv,agz,hg];simp only[Option.map_some];rw[decide_eq_true (SI.2 ?_),Bool.or_true];have:=aiR.1 hR.sorted j (j+1) (by omega) ay (by omega)
   rwa [(ag5.1 ht).2]at this
 | none =>
  have X:=cW.1 al;simp only[ahr]at X;have O:∀(j:Nat) x,n.aN[j]? = some x->DN N n.aN j x=true:=fun j x hj=>by
   have:=X j x hj;split at this
   ·assumption
   ·cases this
  obtain⟨tk,U,Y⟩:=D2 (mk:=BW) (R:=fun t=>t.1<N∧t.2.1<N∧0<t.2.2) (l:=n.aN) fun x hx=>by
   obtain⟨j,hj⟩:=agY hx;have:=O j x hj;unfold DN at this;rw[ahd]at this;exact Oz.1 this.1
  have hn:n=yM N tk:=by
   unfold yM;rw[<- Z,<- U]
  have ag:tk.Pairwise Yr:=Km VG fun i a b ha hb=>by
   have:=O (i+1) (BW b) (by rw[U,agz,hb];rfl);unfold DN at this;rw[ahd,aiv,U,agz,ha]at this;simpa [SI] using this.2
  have ae:∀t∈tk,LF t.2.2<=K:=fun t ht=>by
   have:=hs (BW t) (by rw[U];exact List.mem_map_of_mem ht);exact BN this.1 this.2
  have hlen:tk.length<=8000:=by
   have:=congrArg List.length U;rw[ag6]at this;omega
  have ao:N<=2000:=by omega
  simp only;rw[hn,NJ ao hlen (fun t ht=>(Y t ht).1) hK ae,aih];have aq:((List.range N).map fun p=>e9 (iG tk p))=((List.range N).map fun p=>iG tk p).map e9:=by rw[List.map_map];rfl
  rw[aq,CS (by simp;omega) (fun q hq=>by
   obtain⟨p,_,rfl⟩:=agB.1 hq;have:=KZ ae p;have h2:tk.length*(K+1)<=8000*1000001:=Nat.mul_le_mul hlen (by omega);unfold eO;omega),aih]
  refine⟨_,rfl,?_⟩;simp only[ahe,decide_eq_false_iff_not];constructor
  ·intro aA;refine⟨N,tk,rfl,⟨ao,hlen,Y,ag,fun p hp =>?_⟩⟩
   by_cases h0:iG tk p<0
   ·exact absurd ⟨_,agB.2 ⟨p,ain.2 hp,rfl⟩,h0⟩ aA
   ·grind
  ·rintro⟨M,aE,he,hR⟩ ⟨q,hq,aB⟩;obtain⟨rfl,rfl⟩:=aaZ he;obtain⟨p,hp,rfl⟩:=agB.1 hq;have:=hR.leak p (ain.1 hp);grind
structure BF (N:Nat) (tk:List Tk) (r:Nat->Int) (D Q:List Nat) (h m:Int):Prop where
 nodup:(D++Q).Nodup
 lt:∀p∈D++Q,p<N
 rk:∀p,p<N->(0<=r p↔p∈D++Q)
 ge:∀p,p<N -> -1<=r p
 zero:∀p,p<N->(r p=0↔0<iG tk p)
 down:∀p,p<N->0<r p->∃t∈tk,t.1=p∧r t.2.1=r p-1
 near:∀t∈tk,t.2.1∈D->0<=r t.1∧r t.1<=r t.2.1+1
 mono:Q.Pairwise fun a b=>r a<=r b
 top:∀p∈D++Q,r p<=h+1
 low:∀q∈Q,h<=r q
 bnd:∀p,p<N->r p<=m
def abq (r:Nat->Int) (q:Nat) (v:Int):Nat->Int:=fun x=>if x=q then v else r x
theorem k9 (r:Nat->Int) (q:Nat) (v:Int):abq r q v q=v:=if_pos rfl
theorem iQ {r:Nat->Int} {q x:Nat} (v:Int) (h:x≠q):abq r q v x=r x:=if_neg h
theorem BF.push {N:Nat} {tk:List Tk} {r:Nat->Int} {D Q:List Nat} {p q:Nat} {m:Int} (X:BF N tk r D (p::Q) (r p) m) (ae:0<=r p) (hm:r p+1<=m) (hq:q<N) (hr:r q = -1) (ht:∃t∈tk,t.1=q∧t.2.1=p) :
  BF N tk (abq r q (r p+1)) D (p::(Q++[q])) (r p) m∧abq r q (r p+1) p=r p:=by
 have hqn:q∉D++p::Q:=fun h=>by have:=(X.rk q hq).2 h;omega
 have Y:∀x,x∈D++p::(Q++[q])↔x∈D++p::Q∨x=q:=fun x=>by
  simp only[ahU,agJ,List.mem_nil_iff,or_false];constructor
  ·rintro (h|h|h|h)<;>simp[h]
  ·rintro ((h|h|h)|h)<;>simp[h]
 have U:∀x,x∈D++p::Q->x≠q:=fun x O e=>hqn (e ▸ O);have ab:p∈D++p::Q:=agR _ (aid ..);have aa:p≠q:=U p ab;refine⟨?_,iQ _ aa⟩;constructor
 ·have:D++p::(Q++[q])=(D++p::Q)++[q]:=by simp
  rw[this,List.nodup_append];refine⟨X.nodup,by simp,fun a ha b Z =>?_⟩;simp only[agJ,List.mem_nil_iff,or_false]at Z;subst Z;exact U a ha
 ·intro x O;rcases (Y x).1 O with h|rfl
  ·exact X.lt x h
  ·exact hq
 ·intro x O;rw[Y]
  by_cases h:x=q
  ·subst h;rw[k9];exact⟨fun _ =>.inr rfl,fun _=>by omega⟩
  ·rw[iQ _ h,X.rk x O];exact⟨.inl,fun k=>k.elim id fun e=>absurd e h⟩
 ·intro x O
  by_cases h:x=q
  ·subst h;rw[k9];omega
  ·rw[iQ _ h];exact X.ge x O
 ·intro x O
  by_cases h:x=q
  ·subst h;rw[k9];have:=X.zero x O;constructor
   ·intro h;omega
   ·intro h;have:=this.2 h;omega
  ·rw[iQ _ h];exact X.zero x O
 ·intro x O h0
  by_cases h:x=q
  ·subst h;obtain⟨t,h1,h2,h3⟩:=ht;refine⟨t,h1,h2,?_⟩;rw[h3,iQ _ aa,k9];omega
  ·rw[iQ _ h]at h0 ⊢;obtain⟨t,h1,h2,h3⟩:=X.down x O h0;refine⟨t,h1,h2,?_⟩;rw[iQ _ (fun e=>by rw[e,hr]at h3;omega)];exact h3
 ·intro t ad hD;obtain⟨h1,h2⟩:=X.near t ad hD;have e1:t.2.1≠q:=U _ (agQ _ hD);have e2:t.1≠q:=fun e=>by rw[e]at h1;omega
  rw[iQ _ e1,iQ _ e2];exact⟨h1,h2⟩
 ·have h1:=X.mono;have:p::(Q++[q])=(p::Q)++[q]:=by simp
  rw[this,List.pairwise_append];refine⟨h1.imp_of_mem fun {a b} ha Z h =>?_,by simp,fun a ha b Z =>?_⟩
  ·rw[iQ _ (U a (agR _ ha)),iQ _ (U b (agR _ Z))];exact h
  ·simp only[agJ,List.mem_nil_iff,or_false]at Z;subst Z;rw[iQ _ (U a (agR _ ha)),k9];exact X.top a (agR _ ha)
 ·intro x O;rcases (Y x).1 O with h|rfl
  ·rw[iQ _ (U x h)];exact X.top x h
  ·rw[k9];exact Int.le_refl _
 ·intro x O
  by_cases h:x=q
  ·subst h;rw[k9];omega
  ·rw[iQ _ h];apply X.low x;simp only[agJ,ahU,List.mem_nil_iff,or_false]at O ⊢;rcases O with h1|h1|h1
   ·exact .inl h1
   ·exact .inr h1
   ·exact absurd h1 h
 ·intro x O
  by_cases h:x=q
  ·subst h;rw[k9];exact hm
  ·rw[iQ _ h];exact X.bnd x O
variable {N:Nat} {tk:List Tk}
end Go.Proofs.YtoioidmblipblaaGreat.P
namespace Go.Proofs.YtoioidmblipblaaGreat.P
open Go.RowKit
set_option maxRecDepth 100000
theorem adp:tT=some true:=by kernel_rfl
theorem ac3 {N K:Nat} {tk:List Tk} (O:Qa N tk) (Z:K<=1000000) (hs:∀t∈tk,LF t.2.2<=K) {p:Nat} (hp:p<N):nd (yM N tk) (p:Int)=some (e9 (iG tk p)):=by
 have hN:=O.ports;obtain⟨b,X,Y⟩:=IE (n:=yM N tk) Z (fun t U=>by
  simp only[yM,agB]at U;obtain⟨t',h1,rfl⟩:=U;exact JE (hs t' h1))
 obtain rfl:b=true:=Y.2 ⟨N,tk,rfl,O⟩;unfold nd;have e0:(yM N tk).az=(N:Int):=rfl;rw[X,aih,jb,aih,e0,wrap64 (by omega) (by omega),decide_eq_true (show (0:Int)<=(p:Int)∧(p:Int)<=(N:Int)-1 by omega),NJ hN O.takes (fun t U=>(O.ok t U).1) Z hs,aih,ck (jT _ hp)];rfl
section
variable {N:Nat} {tk:List Tk} {r:Nat->Int}
end
def lj:List Rat->Rat
 | []=>0
 | q::l=>q+lj l
theorem PA (a b:List Rat):lj (a++b)=lj a+lj b:=by
 induction a with
 | nil=>rw[air,lj,Rat.zero_add]
 | cons q a O=>rw[aiC,lj,lj,O];grind
theorem Sg {K:Nat} {l:List Rat} (h:∀q∈l,LF q<=K):LF (lj l)<=1+l.length*(K+1):=by
 induction l with
 | nil=>simp only[lj];exact agE (Jr (n:=0) (by decide)) (by omega)
 | cons q l O =>
  have h1:=h q (aid ..);have h2:=O fun x U=>h x (aie _ U);have h3:=s4 q (lj l);simp only[lj,List.length_cons];rw[ahB];omega
theorem U8 {a b:Rat} : U7 a b=0↔a=b:=by
 unfold U7
 by_cases h1:a<b
 ·rw[if_pos h1];constructor
  ·intro h;cases h
  ·intro h;grind
 ·rw[if_neg h1]
  by_cases h2:b<a
  ·rw[if_pos h2];constructor
   ·intro h;cases h
   ·intro h;grind
  ·rw[if_neg h2];constructor
   ·intro _;grind
   ·intro _;rfl
def wm (l:List aw):Prop:=∃O:List Rat,l=O.map e9∧(∀q∈O,0<=q)∧lj O=1
theorem abM {a b:Rat} (h:LF a+LF b+1<=eO):n5 (e9 a) (e9 b)=some (e9 (a+b)):=by
 unfold n5;rw[Sb h];rfl
theorem aad {l:List aw} (hl:l.length<=100) (hs:∀f∈l,f.cu.aa.length<=6∧f.ct.aa.length<=6):∃b,oG l=some b∧(b=true↔wm l):=by
 have an:eO=4398046511104:=rfl;have Z:jt 0=some (e9 0):=abA (n:=0) (by decide);unfold oG;rw[Z,aih];obtain⟨q,h1,h2⟩:=dC (body:=n9 l)
  (fun i st=>∃O:List Rat,l.take i=O.map e9∧(∀q∈O,0<=q∧LF q<=6)∧st=((i:Int),(e9 (lj O)).cu.aj,(e9 (lj O)).cu.aa,(e9 (lj O)).ct.aj,(e9 (lj O)).ct.aa)) l.length
  (fun q=>(q=.inr false∧¬wm l)∨∃O:List Rat,l=O.map e9∧(∀q∈O,0<=q∧LF q<=6)∧q=.inl ((e9 (lj O)).cu.aj,(e9 (lj O)).cu.aa,(e9 (lj O)).ct.aj,(e9 (lj O)).ct.aa))
  (s:=(0,(e9 0).cu.aj,(e9 0).cu.aa,(e9 0).ct.aj,(e9 0).ct.aa)) ⟨[],rfl,fun q Y=>by simp at Y,rfl⟩ (jX (by omega)) (by
   rintro i _ hi ⟨O,ht,Y,rfl⟩;simp only[n9];have ao:O.length=i:=by
    have:=congrArg List.length ht;simp only[agV,ag6]at this;omega
   by_cases X:i<l.length
   ·have hg:l[i]? = some l[i]:=agP X;have hf:=hs _ (agO X);have ae:l.take (i+1)=l.take i++[l[i]]:=ajq X;have U:l[i]∈l:=agO X;generalize l[i]=f at hg hf ae U;rw[if_pos (by simpa using X),ck hg,aih,Cn ⟨by unfold mc;omega,by unfold mc;omega⟩,aih];cases ab:okF f with
    | false =>
     right;refine⟨_,rfl,.inl ⟨rfl,?_⟩⟩;rintro⟨ag,h1,_,_⟩;rw[h1]at U;obtain⟨q,_,rfl⟩:=agB.1 U;rw[Q7]at ab;cases ab
    | true =>
     obtain⟨q,rfl⟩:=BY.1 ab;have ah:LF q<=6:=BN hf.1 hf.2;simp only[ah7,ahc,if_false];rw[Jw (by omega),aih]
     by_cases hneg:q<0
     ·right;refine⟨_,by rw[if_pos (decide_eq_true (vr.2 hneg))],.inl ⟨rfl,?_⟩⟩;rintro⟨ag,h1,h2,_⟩;rw[h1]at U;obtain⟨q',ai,he⟩:=agB.1 U;have:=h2 q' ai;rw[u9 he]at this;grind
     ·left;refine⟨X,?_⟩;have ak:=Sg (K:=6) (l:=O) fun x hx=>(Y x hx).2;have ha:n5 (e9 (lj O)) (e9 q)=some (e9 (lj O+q)):=abM (by omega);rw[if_neg (by rw[decide_eq_true_eq];exact fun h=>hneg (vr.1 h)),cn (by omega)];refine⟨_,by erw [ha];rfl,O++[q],?_,?_,?_⟩
      ·rw[ae,ht,ah9];rfl
      ·intro x hx;rcases ahU.1 hx with h|h
       ·exact Y x h
       ·rw[agZ.1 h];exact⟨by grind,ah⟩
      ·have:lj (O++[q])=lj O+q:=by rw[PA];simp only[lj];grind
       rw[this]
   ·right;have:i=l.length:=by omega
    subst this;rw[aiL]at ht;exact⟨_,by rw[if_neg (by simp)],.inr ⟨O,ht,Y,rfl⟩⟩)
 erw [h1];rw[aih];rcases h2 with⟨rfl,al⟩|⟨O,rfl,Y,rfl⟩
 ·exact⟨false,rfl,by simp[al]⟩
 ·have ad:jt 1=some (e9 1):=ad1;simp only[ag6]at hl;have ak:=Sg (K:=6) (l:=O) fun x hx=>(Y x hx).2;have aq:LF (1:Rat)<=1:=Jr (n:=1) (by decide);have hc:iK (e9 (lj O)) (e9 1)=some (U7 (lj O) 1):=UW (by omega);simp only;rw[ad,aih];refine⟨_,by erw [hc];rfl,?_⟩;rw[beq_iff_eq,U8];constructor
  ·intro h;exact⟨O,rfl,fun q h=>(Y q h).1,h⟩
  ·rintro⟨ag,he,_,h⟩;rw[(List.map_inj_right fun a b=>u9).1 he];exact h
def xw (f:fH) (i:Nat):List aw:=f.aA.map fun l=>(l[i]?).getD (aw.mk (aD.mk 0 ([])) (aD.mk 0 ([])))
structure z7 (f:fH):Prop where
 srcs:f.ah.length<=100
 outs:f.aJ.length<=100
 rows:f.aA.length=f.aJ.length
 out:∀x∈f.aJ,0<=x.bf∧x.bf<=3∧0<=x.aQ
 row:∀l∈f.aA,l.length=f.ah.length
 src:∀x∈f.ah,0<=x.bf∧x.bf<=2∧0<=x.aQ
 col:∀i,i<f.ah.length->wm (xw f i)
structure kd (f:fH):Prop where
 srcs:f.ah.length<=5
 outs:f.aJ.length<=5
 rows:f.aA.length<=8
 row:∀l∈f.aA,l.length<=8∧∀x∈l,x.cu.aa.length<=4∧x.ct.aa.length<=4
theorem Xr {f:fH} {i:Nat} (hi:i<f.ah.length) (hr:f.aA.length=f.aJ.length) (hrow:∀l∈f.aA,l.length=f.ah.length) (ho:f.aJ.length<=100) :
  ∃c:List aw,aS (gp f (i:Int)) ((0:Int),List.replicate f.aJ.length (aw.mk (aD.mk 0 ([])) (aD.mk 0 ([]))))=some c∧f.aA.map (fun l=>l[i]?)=c.map some:=by
 have key:=fun Z O=>xT (body:=gp f (i:Int)) f.aJ (by omega)
  (fun k (c:List aw)=>c.length=f.aJ.length∧∀j,j<k->(f.aA.map (fun l=>l[i]?))[j]? = some c[j]?) (fun c=>f.aA.map (fun l=>l[i]?)=c.map some) (s0:=List.replicate f.aJ.length (aw.mk (aD.mk 0 ([])) (aD.mk 0 ([]))))
  ⟨by simp,fun j hj=>by omega⟩ Z O
 refine (key ?_ ?_)
 ·rintro k x c hx ⟨U,hc⟩;have hk:=bD hx;have Y:f.aA[k]? = some (f.aA[k]'(by omega)):=agP _;have hl:=hrow _ (ag4 Y);generalize f.aA[k]'(by omega)=l at Y hl;have X:l[i]? = some (l[i]'(by omega)):=agP _;have aa:c[k]? = some (c[k]'(by omega)):=agP _;refine⟨c.set k (l[i]'(by omega)),?_,?_,?_⟩;rotate_left
  ·simpa using U
  ·intro j hj
   by_cases ab:j=k
   ·subst ab;rw[agz,Y,ajo (by omega)];exact congrArg some X
   ·rw[hc j (by omega),ajp (by omega)]
  ·simp only[gp];rw[if_pos (by simpa using hk),ck Y,aih,ck X,aih,ck aa,aih,ahE,cn (by omega)]
 ·rintro c ⟨U,hc⟩;refine⟨_,by simp only[gp];rw[if_neg (by simp)],?_⟩;apply aiO;intro j
  by_cases hj:j<f.aJ.length
  ·rw[hc j hj,agz,agP (by omega)];rfl
  ·rw[aij (by simp;omega),aij (by simp;omega)]
theorem acO {f:fH} {i:Nat} {c:List aw} (h:f.aA.map (fun l=>l[i]?)=c.map some):c=xw f i:=by
 have:=congrArg (List.map fun x:Option aw=>x.getD (aw.mk (aD.mk 0 ([])) (aD.mk 0 ([])))) h;rw[List.map_map,List.map_map]at this;have h2:c.map ((fun x:Option aw=>x.getD (aw.mk (aD.mk 0 ([])) (aD.mk 0 ([])))) ∘ some)=c:=by
  rw[show ((fun x:Option aw=>x.getD (aw.mk (aD.mk 0 ([])) (aD.mk 0 ([])))) ∘ some)=id from rfl,List.map_id]
 rw[h2]at this;exact this.symm
theorem Ku {f:fH} (hF:kd f):∃b,iX f=some b∧(b=true↔z7 f):=by
 open Classical in
 have hs:=hF.srcs;have ho:=hF.outs;unfold iX;rw[if_neg (by simp;omega),if_neg (by simp;omega),aih]
 by_cases hr:f.aA.length=f.aJ.length
 rotate_left
 ·rw[if_pos (by simpa using fun h=>hr (by omega))];exact⟨false,rfl,by simp only[ahc,false_iff];exact fun h=>hr h.rows⟩
 rw[if_neg (by simp[hr])];rw[pF f.aJ (fun i x=>if (0<=x.bf∧x.bf<=3)∧0<=x.aQ∧(f.aA.getD i []).length=f.ah.length then none else some false) (by omega) (fun i x X =>?_) (by simp only[jP];rw[if_neg (by simp)])];rotate_left
 ·have hi:=bD X;have hg:f.aA[i]? = some (f.aA.getD i []):=by rw[ahf,agP (by omega)];rfl
  simp only[jP];rw[if_pos (by simpa using hi),ck X,aih,jb,aih,cn (by omega)]
  by_cases h1:0<=x.bf∧x.bf<=3
  ·rw[decide_eq_true h1,if_neg (by simp)]
   by_cases h2:x.aQ<0
   ·rw[if_pos (by simpa using h2),if_neg (by omega)]
   ·rw[if_neg (by simpa using h2),ck hg,aih]
    by_cases h3:(f.aA.getD i []).length=f.ah.length
    ·rw[if_neg (by rw[h3];simp),if_pos ⟨h1,by omega,h3⟩]
    ·rw[if_pos (by rw[bne_iff_ne];intro h;exact h3 (by omega)),if_neg (fun h=>h3 h.2.2)]
  ·rw[decide_eq_false h1,if_pos (by simp),if_neg (by omega)]
 rw[aih];cases aa:dR (fun (i:Nat) (x:s6)=>if (0<=x.bf∧x.bf<=3)∧0<=x.aQ∧(f.aA.getD i []).length=f.ah.length then none else some false) 0 f.aJ with
 | some q =>
  obtain⟨j,x,h1,h2,_⟩:=dJ aa;rw[ahr]at h2;have U:=bD h1;split at h2
  ·cases h2
  ·rename_i O;cases h2;refine⟨false,rfl,?_⟩;simp only[ahc,false_iff];intro hQ;have a1:=hQ.out x (ag4 h1);have hg:f.aA[j]? = some (f.aA.getD j []):=by rw[ahf,agP (by omega)];rfl
   exact O ⟨⟨a1.1,a1.2.1⟩,a1.2.2,hQ.row _ (ag4 hg)⟩
 | none =>
  have Y:∀(j:Nat) x,f.aJ[j]? = some x->(0<=x.bf∧x.bf<=3)∧0<=x.aQ∧(f.aA.getD j []).length=f.ah.length:=fun j x h=>by
   have:=cW.1 aa j x h;rw[ahr]at this;split at this
   ·assumption
   ·cases this
  have hrow:∀l∈f.aA,l.length=f.ah.length:=fun l hl=>by
   obtain⟨j,U,rfl⟩:=List.getElem_of_mem hl;have h:=(Y j _ (agP (by omega))).2.2;rw[ahf,agP U]at h;exact h
  simp only;rw[pF f.ah (fun i x=>if (0<=x.bf∧x.bf<=2)∧0<=x.aQ∧wm (xw f i) then none else some false) (by omega) (fun i x X =>?_) (by simp only[jQ];rw[if_neg (by simp)])];rotate_left
  ·have hi:=bD X;obtain⟨c,c1,c2⟩:=Xr hi hr hrow (by omega);obtain rfl:=acO c2;obtain⟨b,b1,b2⟩:=aad (l:=xw f i) (by unfold xw;rw[ag6];omega) (fun y hy=>by
    unfold xw at hy;obtain⟨l,hl,rfl⟩:=agB.1 hy;have h1:=(hF.row l hl).2;cases hg:l[i]? with
    | none=>simp
    | some z =>
     have:=h1 z (ag4 hg);simp only[Option.getD_some];omega)
   simp only[jQ];rw[if_pos (by simpa using hi),ck X,aih,Yx _ (by omega) (by omega),aih,c1,aih,jb,aih,cn (by omega)]
   by_cases h1:0<=x.bf∧x.bf<=2
   ·rw[decide_eq_true h1,if_neg (by simp)]
    by_cases h2:x.aQ<0
    ·rw[if_pos (by simpa using h2),if_neg (by omega)]
    ·rw[if_neg (by simpa using h2),b1,aih]
     by_cases h3:wm (xw f i)
     ·rw[b2.2 h3,if_neg (by simp),if_pos ⟨h1,by omega,h3⟩]
     ·have:b=false:=by cases b with
       | false=>rfl
       | true=>exact absurd (b2.1 rfl) h3
      rw[this,if_pos (by simp),if_neg (fun h=>h3 h.2.2)]
   ·rw[decide_eq_false h1,if_pos (by simp),if_neg (fun h=>h1 h.1)]
  rw[aih];cases ab:dR (fun (i:Nat) (x:fI)=>if (0<=x.bf∧x.bf<=2)∧0<=x.aQ∧wm (xw f i) then none else some false) 0 f.ah with
  | some q =>
   obtain⟨j,x,h1,h2,_⟩:=dJ ab;rw[ahr]at h2;have U:=bD h1;split at h2
   ·cases h2
   ·rename_i O;cases h2;refine⟨false,rfl,?_⟩;simp only[ahc,false_iff];intro hQ;have a1:=hQ.src x (ag4 h1);exact O ⟨⟨a1.1,a1.2.1⟩,a1.2.2,hQ.col j U⟩
  | none =>
   have Z:∀(j:Nat) x,f.ah[j]? = some x->(0<=x.bf∧x.bf<=2)∧0<=x.aQ∧wm (xw f j):=fun j x h=>by
    have:=cW.1 ab j x h;rw[ahr]at this;split at this
    ·assumption
    ·cases this
   refine⟨true,rfl,?_⟩;simp only[true_iff];exact⟨by omega,by omega,hr,fun x X=>by
    obtain⟨j,U⟩:=agY X;have:=Y j x U;exact⟨this.1.1,this.1.2,this.2.1⟩,hrow,fun x X=>by
    obtain⟨j,U⟩:=agY X;have:=Z j x U;exact⟨this.1.1,this.1.2,this.2.1⟩,fun j U=>(Z j _ (agP U)).2.2⟩
def yF (n:Nat):List Int:=(List.range n).map fun (i:Nat)=>(i:Int)
theorem PH {n i:Nat} (h:i<n):(yF n)[i]? = some (i:Int):=jT (fun (i:Nat)=>(i:Int)) h
theorem Fw (n:Nat):(yF n).length=n:=VT _
theorem PI (n:Nat):(yF n).Pairwise (fun x y=>x<=y):=by
 unfold yF;rw[aiQ];exact (aio (n:=n)).imp fun h=>by omega
theorem Fe (l:List Int):(nL l).Perm l:=List.mergeSort_perm l _
theorem KB (l:List Int):(nL l).Pairwise (fun x y=>x<=y):=by
 have:=List.pairwise_mergeSort (le:=fun x y:Int=>decide (x<=y)) (fun a b c h1 h2=>by simp only[decide_eq_true_eq]at *;omega) (fun a b=>by simp only[aii,decide_eq_true_eq];omega) l;exact this.imp fun h=>by simpa using h
theorem V2:∀ {l m:List Int},l.Perm m->l.Pairwise (fun x y=>x<=y)->m.Pairwise (fun x y=>x<=y)->l=m:=fun O h1 h2=>List.Perm.eq_of_pairwise (le:=fun x y:Int=>x<=y) (fun a b _ _ h1 h2=>by omega) h1 h2 O
theorem El {l:List Int} (hl:l.length<=100) (n:Nat):∃b,jx l (n:Int)=some b∧(b=true↔l.Perm (yF n)):=by
 unfold jx mN cH KP B7;rw[aih,if_pos (by omega),aih];have aa:=oH l;have O:l.Perm (yF n)↔nL l=yF n:=⟨fun h=>V2 ((Fe l).trans h) (KB l) (PI n),fun h=>h ▸ (Fe l).symm⟩;rw[O];rw[pF (nL l) (fun i x=>if (i:Int)=x then none else some false) (by omega) (fun i x Z =>?_) (by simp only[lE];rw[if_neg (by simp)])];rotate_left
 ·have hi:=bD Z;simp only[lE];rw[if_pos (by simpa using hi),ck Z,aih,cn (by omega)]
  by_cases h:(i:Int)=x
  ·rw[if_neg (by simp[h]),if_pos h]
  ·rw[if_pos (by simpa using h),if_neg h]
 rw[aih];cases hf:dR (fun (i:Nat) (x:Int)=>if (i:Int)=x then none else some false) 0 (nL l) with
 | some q =>
  obtain⟨j,x,h1,h2,_⟩:=dJ hf;rw[ahr]at h2;split at h2
  ·cases h2
  ·rename_i U;cases h2;refine⟨false,rfl,?_⟩;simp only[ahc,false_iff];intro he;rw[he]at h1;have Y:=bD h1;rw[Fw]at Y;rw[PH Y]at h1;exact U (Option.some.inj h1)
 | none =>
  have X:∀(j:Nat) x,(nL l)[j]? = some x->(j:Int)=x:=fun j x h=>by
   have:=cW.1 hf j x h;rw[ahr]at this;split at this
   ·assumption
   ·cases this
  refine⟨_,rfl,?_⟩;rw[beq_iff_eq];constructor
  ·intro h;apply aiO;intro j
   by_cases Y:j<n
   ·have hg:(nL l)[j]? = some ((nL l)[j]'(by omega)):=agP _;rw[PH Y,hg,<- X j _ hg]
   ·rw[aij (by omega),aij (by rw[Fw];omega)]
  ·intro h;rw[h,Fw]
structure pM (m:bE) (ports:Nat):Prop where
 flow:z7 m.ak
 takes:((m.ak.ah.filter fun x=>x.bf==1).map (·.aQ)).Perm (yF m.aK.length)
 gives:((m.ak.aJ.filter fun x=>x.bf==0).map (·.aQ)).Perm (yF m.az.length)
 uses:∀u∈m.aK,(0<=u.bU∧u.bU<ports)∧1<=u.aF∧u.aF<=1099511627776
 ports:∀p∈m.az,0<=p∧p<(ports:Int)
theorem PC {m:bE} (h:m.ak.ah.length<=100):aS (kT m) ((0:Int),[])=some ((m.ak.ah.filter fun x=>x.bf==1).map (·.aQ)):=by
 have key:=fun U O=>xT (body:=kT m) m.ak.ah (by omega) (fun i (l:List Int)=>l=((m.ak.ah.take i).filter fun x=>x.bf==1).map (·.aQ)) (fun l=>l=(m.ak.ah.filter fun x=>x.bf==1).map (·.aQ)) (s0:=[]) rfl U O;refine (key ?_ ?_).elim fun x ⟨h1,hx⟩=>hx ▸ h1
 ·rintro i x _ hx rfl;have hi:=bD hx;have X:m.ak.ah.take (i+1)=m.ak.ah.take i++[x]:=by
   obtain⟨Y,he⟩:=ag5.1 hx;rw[ajq Y,he]
  have Z:=ajr (fun x:fI=>x.bf==1) (m.ak.ah.take i);rw[agV]at Z;refine⟨_,?_,rfl⟩;simp only[kT];rw[if_pos (by simpa using hi),ck hx,aih,cn (by omega),X,List.filter_append]
  by_cases hk:x.bf=1
  ·rw[if_pos (by simpa using hk),Bk (by rw[ag6];simp only[List.length_cons,List.length_nil];omega),aih,List.filter_cons_of_pos (by simpa using hk),ah9];rfl
  ·rw[if_neg (by simpa using hk),List.filter_cons_of_neg (by simpa using hk)];simp
 ·rintro _ rfl;refine⟨_,?_,rfl⟩;simp only[kT];rw[if_neg (by simp),aiL]
theorem M6 {m:bE} (h:m.ak.aJ.length<=100):aS (kU m) ((0:Int),[])=some ((m.ak.aJ.filter fun x=>x.bf==0).map (·.aQ)):=by
 have key:=fun U O=>xT (body:=kU m) m.ak.aJ (by omega) (fun i (l:List Int)=>l=((m.ak.aJ.take i).filter fun x=>x.bf==0).map (·.aQ)) (fun l=>l=(m.ak.aJ.filter fun x=>x.bf==0).map (·.aQ)) (s0:=[]) rfl U O;refine (key ?_ ?_).elim fun x ⟨h1,hx⟩=>hx ▸ h1
 ·rintro i x _ hx rfl;have hi:=bD hx;have X:m.ak.aJ.take (i+1)=m.ak.aJ.take i++[x]:=by
   obtain⟨Y,he⟩:=ag5.1 hx;rw[ajq Y,he]
  have Z:=ajr (fun x:s6=>x.bf==0) (m.ak.aJ.take i);rw[agV]at Z;refine⟨_,?_,rfl⟩;simp only[kU];rw[if_pos (by simpa using hi),ck hx,aih,cn (by omega),X,List.filter_append]
  by_cases hk:x.bf=0
  ·rw[if_pos (by simpa using hk),Bk (by rw[ag6];simp only[List.length_cons,List.length_nil];omega),aih,List.filter_cons_of_pos (by simpa using hk),ah9];rfl
  ·rw[if_neg (by simpa using hk),List.filter_cons_of_neg (by simpa using hk)];simp
 ·rintro _ rfl;refine⟨_,?_,rfl⟩;simp only[kU];rw[if_neg (by simp),aiL]
theorem adf (u:fA) {ports:Nat} (O:ports<=2000):∃b,mv u (ports:Int)=some b∧(b=false↔(0<=u.bU∧u.bU<ports)∧1<=u.aF∧u.aF<=1099511627776):=by
 unfold mv;rw[jb,aih,gz (by omega)]
 by_cases h1:0<=u.bU∧u.bU<=(ports:Int)-1
 ·rw[decide_eq_true h1,if_neg (by simp),jb,aih];refine⟨_,rfl,?_⟩
  by_cases h2:1<=u.aF∧u.aF<=1099511627776
  ·rw[decide_eq_true h2];simp;omega
  ·rw[decide_eq_false h2];simp;omega
 ·rw[decide_eq_false h1,if_pos (by simp)];exact⟨true,rfl,by simp;omega⟩
theorem acV (p:Int) {ports:Nat} (O:ports<=2000):∃b,mw p (ports:Int)=some b∧(b=false↔0<=p∧p<ports):=by
 unfold mw;rw[jb,aih,gz (by omega)];refine⟨_,rfl,?_⟩
 by_cases h1:0<=p∧p<=(ports:Int)-1
 ·rw[decide_eq_true h1];simp;omega
 ·rw[decide_eq_false h1];simp;omega
theorem aa6 {l:List fA} (hl:l.length<=100) {ports:Nat} (Y:ports<=2000):∃b,bX l (ports:Int)=some b∧(b=false↔∀u∈l,(0<=u.bU∧u.bU<ports)∧1<=u.aF∧u.aF<=1099511627776):=by
 unfold bX cL;rw[pF l (fun i u=>if (0<=u.bU∧u.bU<ports)∧1<=u.aF∧u.aF<=1099511627776 then none else some (i:Int)) (by omega) (fun i x U =>?_) (by simp only[de];rw[if_neg (by simp)])];rotate_left
 ·have Z:=bD U;obtain⟨b,b1,O⟩:=adf x Y;simp only[de];rw[if_pos (by simpa using Z),ck U,aih,b1,aih,cn (by omega)];cases b with
  | false=>rw[if_pos (O.1 rfl)];rfl
  | true =>
   simp only[ajs,false_iff]at O;simp only[if_true];rw[if_neg O]
 cases X:dR (fun (i:Nat) (u:fA)=>if (0<=u.bU∧u.bU<ports)∧1<=u.aF∧u.aF<=1099511627776 then none else some (i:Int)) 0 l with
 | none =>
  refine⟨false,rfl,?_⟩;simp only[true_iff];intro u hu;obtain⟨j,hj⟩:=agY hu;have:=cW.1 X j u hj;split at this
  ·assumption
  ·cases this
 | some q =>
  obtain⟨j,x,h1,h2,_⟩:=dJ X;split at h2
  ·cases h2
  ·rename_i hbad;cases h2;refine⟨true,by simp,?_⟩;simp only[ajs,false_iff];exact fun h=>hbad (h x (ag4 h1))
theorem aaR {l:List Int} (hl:l.length<=100) {ports:Nat} (Y:ports<=2000):∃b,bY l (ports:Int)=some b∧(b=false↔∀p∈l,0<=p∧p<(ports:Int)):=by
 unfold bY cM;rw[pF l (fun i p=>if 0<=p∧p<(ports:Int) then none else some (i:Int)) (by omega) (fun i x U =>?_) (by simp only[df];rw[if_neg (by simp)])];rotate_left
 ·have Z:=bD U;obtain⟨b,b1,O⟩:=acV x Y;simp only[df];rw[if_pos (by simpa using Z),ck U,aih,b1,aih,cn (by omega)];cases b with
  | false=>rw[if_pos (O.1 rfl)];rfl
  | true =>
   simp only[ajs,false_iff]at O;simp only[if_true];rw[if_neg O]
 cases X:dR (fun (i:Nat) (p:Int)=>if 0<=p∧p<(ports:Int) then none else some (i:Int)) 0 l with
 | none =>
  refine⟨false,rfl,?_⟩;simp only[true_iff];intro u hu;obtain⟨j,hj⟩:=agY hu;have:=cW.1 X j u hj;split at this
  ·assumption
  ·cases this
 | some q =>
  obtain⟨j,x,h1,h2,_⟩:=dJ X;split at h2
  ·cases h2
  ·rename_i hbad;cases h2;refine⟨true,by simp,?_⟩;simp only[ajs,false_iff];exact fun h=>hbad (h x (ag4 h1))
theorem aaS {m:bE} {ports:Nat} (U:ports<=2000) (O:kd m.ak) (hu:m.aK.length<=6) (aa:m.az.length<=6):∃b,qZ m (ports:Int)=some b∧(b=true↔pM m ports):=by
 have hs:=O.srcs;have ho:=O.outs;obtain⟨b1,a1,c1⟩:=Ku O;unfold qZ;rw[a1,aih];cases b1 with
 | false=>exact⟨false,rfl,by simp only[ahc,false_iff];exact fun h=>by have:=c1.2 h.flow;cases this⟩
 | true =>
 have hQ:=c1.1 rfl;have ab:=ajr (fun x:fI=>x.bf==1) m.ak.ah;have ad:=ajr (fun x:s6=>x.bf==0) m.ak.aJ;obtain⟨b2,a2,c2⟩:=El (l:=(m.ak.ah.filter fun x=>x.bf==1).map (·.aQ)) (by rw[ag6];omega) m.aK.length;obtain⟨b3,a3,X⟩:=El (l:=(m.ak.aJ.filter fun x=>x.bf==0).map (·.aQ)) (by rw[ag6];omega) m.az.length;obtain⟨b4,a4,Y⟩:=aa6 (l:=m.aK) (by omega) U;obtain⟨b5,a5,Z⟩:=aaR (l:=m.az) (by omega) U;simp only[ah7,ahc,if_false];rw[PC (by omega),aih,M6 (by omega),aih,a2,aih];cases b2 with
 | false=>exact⟨false,rfl,by simp only[ahc,false_iff];exact fun h=>by have:=c2.2 h.takes;cases this⟩
 | true =>
 simp only[if_true];rw[a3,aih];cases b3 with
 | false=>exact⟨false,rfl,by simp only[ahc,false_iff];exact fun h=>by have:=X.2 h.gives;cases this⟩
 | true =>
 simp only[if_true];rw[a4,aih];cases b4 with
 | true=>exact⟨false,rfl,by simp only[ahc,false_iff];exact fun h=>by have:=Y.2 h.uses;cases this⟩
 | false =>
 simp only[aiI,if_true];rw[a5,aih];refine⟨_,rfl,?_⟩;cases b5 with
 | true=>simp only[ah7,ahc,false_iff];exact fun h=>by have:=Z.2 h.ports;cases this
 | false=>simp only[aiI,true_iff];exact⟨hQ,c2.1 rfl,X.1 rfl,Y.1 rfl,Z.1 rfl⟩
theorem acW {l:List aw} (hl:l.length<=8):(aS (eo l) 0=some (.inl ())∧∀x∈l,x.cu.aa.length<=4∧x.ct.aa.length<=4)∨aS (eo l) 0=some (.inr false):=by
 have U:=pF l (body:=eo l) (fun (i:Nat) (x:aw)=>if (x.cu.aa.length:Int)<=4∧(x.ct.aa.length:Int)<=4 then none else some false) (by omega) (fun i x O=>by
  have Y:=bD O;simp only[eo];rw[if_pos (by simpa using Y),ck O,aih,adY,aih,cn (by omega)]
  by_cases h:(x.cu.aa.length:Int)<=4∧(x.ct.aa.length:Int)<=4
  ·rw[decide_eq_true h,if_neg (by simp),if_pos h]
  ·rw[decide_eq_false h,if_pos (by simp),if_neg h]) (by simp only[eo];rw[if_neg (by simp)])
 rw[U];cases X:dR (fun (i:Nat) (x:aw)=>if (x.cu.aa.length:Int)<=4∧(x.ct.aa.length:Int)<=4 then none else some false) 0 l with
 | none =>
  refine .inl ⟨rfl,fun x O =>?_⟩;obtain⟨j,Z⟩:=agY O;have:=cW.1 X j x Z;split at this
  ·omega
  ·cases this
 | some q =>
  obtain⟨j,x,_,h2,_⟩:=dJ X;split at h2
  ·cases h2
  ·cases h2;exact .inr rfl
theorem Vl (f:fH):∃b,jB f=some b∧(b=true->kd f):=by
 unfold jB
 by_cases h1:f.ah.length<=5
 rotate_left
 ·exact⟨false,by rw[if_pos (by simp;omega)];rfl,fun h=>by cases h⟩
 by_cases h2:f.aJ.length<=5
 rotate_left
 ·exact⟨false,by rw[if_neg (by simp;omega),if_pos (by simp;omega)];rfl,fun h=>by cases h⟩
 by_cases h3:f.aA.length<=8
 rotate_left
 ·exact⟨false,by rw[if_neg (by simp;omega),if_neg (by simp;omega),decide_eq_true (by omega)];rfl,fun h=>by cases h⟩
 rw[if_neg (by simp;omega),if_neg (by simp;omega),decide_eq_false (by omega),aih,if_neg (by simp)]
 open Classical in
 rw[pF f.aA (fun i l=>if l.length<=8∧∀x∈l,x.cu.aa.length<=4∧x.ct.aa.length<=4 then none else some false) (by omega) (fun i l U =>?_) (by simp only[lK];rw[if_neg (by simp)])];rotate_left
 ·have Y:=bD U;simp only[lK];rw[if_pos (by simpa using Y),ck U,aih,cn (by omega)]
  by_cases h:l.length<=8
  ·rw[if_neg (by simp;omega)];rcases acW h with⟨X,q2⟩|X
   ·rw[X,if_pos ⟨h,q2⟩];rfl
   ·rw[X]
    by_cases hs:∀x∈l,x.cu.aa.length<=4∧x.ct.aa.length<=4
    ·exfalso;have O:=pF l (body:=eo l) (fun (i:Nat) (x:aw)=>(none:Option Bool)) (by omega) (fun i x U=>by
      have Y:=bD U;have:=hs x (ag4 U);simp only[eo];rw[if_pos (by simpa using Y),ck U,aih,adY,aih,cn (by omega),decide_eq_true (by omega),if_neg (by simp)]) (by simp only[eo];rw[if_neg (by simp)])
     rw[X]at O;have Z:∀(l:List aw) i,dR (fun _ _=>(none:Option Bool)) i l=none:=by
      intro l
      induction l with
      | nil=>intro i;rfl
      | cons a l ih=>intro i;simp only[dR];exact ih _
     rw[Z]at O;cases O
    ·rw[if_neg (fun h=>hs h.2)];rfl
  ·rw[if_pos (by simp;omega),if_neg (fun h'=>h h'.1)]
 rw[aih];cases hf:dR (fun (i:Nat) (l:List aw)=>if l.length<=8∧∀x∈l,x.cu.aa.length<=4∧x.ct.aa.length<=4 then none else some false) 0 f.aA with
 | none =>
  refine⟨true,rfl,fun _=>⟨h1,h2,h3,fun l hl =>?_⟩⟩;obtain⟨j,hj⟩:=agY hl;have:=cW.1 hf j l hj;split at this
  ·assumption
  ·cases this
 | some q =>
  obtain⟨j,x,_,h2,_⟩:=dJ hf;split at h2
  ·cases h2
  ·cases h2;exact⟨false,rfl,fun h=>by cases h⟩
structure Bi (w:bP):Prop where
 given:w.au.length<=6
 mills:w.ao.length<=5
 mill:∀m∈w.ao,kd m.ak∧m.aK.length<=6∧m.az.length<=6
theorem X1 (w:bP):∃b,vg w=some b∧(b=true->Bi w):=by
 unfold vg
 by_cases h1:w.au.length<=6
 rotate_left
 ·exact⟨false,by rw[if_pos (by simp;omega)];rfl,fun h=>by cases h⟩
 by_cases h2:w.ao.length<=5
 rotate_left
 ·exact⟨false,by rw[if_neg (by simp;omega),decide_eq_true (by omega)];rfl,fun h=>by cases h⟩
 rw[if_neg (by simp;omega),decide_eq_false (by omega),aih,if_neg (by simp)];have O:∀m:bE,∃b,jB m.ak=some b∧(b=true->kd m.ak):=fun m=>Vl m.ak;obtain⟨B,O⟩:=Classical.axiomOfChoice O;rw[pF w.ao (fun i m=>if B m=true∧m.aK.length<=6∧m.az.length<=6 then none else some false) (by omega) (fun i m U =>?_) (by simp only[so];rw[if_neg (by simp)])];rotate_left
 ·have Y:=bD U;simp only[so];rw[if_pos (by simpa using Y),ck U,aih,(O m).1,aih,cn (by omega)];cases hb:B m with
  | false=>rfl
  | true =>
   simp only[ah7,ahc,if_false,true_and]
   by_cases q1:m.aK.length<=6
   ·rw[if_neg (by simp;omega)]
    by_cases q2:m.az.length<=6
    ·rw[if_neg (by simp;omega),if_pos ⟨q1,q2⟩]
    ·rw[if_pos (by simp;omega),if_neg (fun h=>q2 h.2)]
   ·rw[if_pos (by simp;omega),if_neg (fun h=>q1 h.1)]
 rw[aih];cases X:dR (fun (i:Nat) (m:bE)=>if B m=true∧m.aK.length<=6∧m.az.length<=6 then none else some false) 0 w.ao with
 | none =>
  refine⟨true,rfl,fun _=>⟨h1,h2,fun m hm =>?_⟩⟩;obtain⟨j,Z⟩:=agY hm;have:=cW.1 X j m Z;split at this
  ·rename_i h;exact⟨(O m).2 h.1,h.2⟩
  ·cases this
 | some q =>
  obtain⟨j,x,_,h2,_⟩:=dJ X;split at h2
  ·cases h2
  ·cases h2;exact⟨false,rfl,fun h=>by cases h⟩
def aaN (w:bP):Option (Int×Int):=dR (fun (i:Nat) (n:Int)=>if 1<=n∧n<=1099511627776 then none else some ((3:Int),(i:Int))) 0 w.au
theorem QY {w:bP} (h:w.au.length<=2000):aS (jJ w) 0=some (match aaN w with|none =>.inl ()|some r =>.inr r):=by
 refine Eq.trans (pF w.au (body:=jJ w) (fun (i:Nat) (n:Int)=>if 1<=n∧n<=1099511627776 then none else some ((3:Int),(i:Int))) (by omega) (fun i x O =>?_) ?_) ?_
 ·have U:=bD O;simp only[jJ];rw[if_pos (by simpa using U),ck O,aih,jb,aih,cn (by omega)]
  by_cases h:1<=x∧x<=1099511627776
  ·rw[decide_eq_true h,if_neg (by simp),if_pos h]
  ·rw[decide_eq_false h,if_pos (by simp),if_neg h]
 ·simp only[jJ];rw[if_neg (by simp)]
 ·unfold aaN;cases dR (fun (i:Nat) (n:Int)=>if 1<=n∧n<=1099511627776 then none else some ((3:Int),(i:Int))) 0 w.au<;>rfl
theorem RR {m:bE} {N:Nat} (hN:N<=2000) (hp:m.az.length<=6) (Z:∀p∈m.az,0<=p∧p<(N:Int)) (t:Nat->Int) (ht:∀q,q<N->0<=t q∧t q<=1000000) :
  aS (jK m) ((0:Int),(List.range N).map t)=some ((List.range N).map fun q=>t q+(m.az.count (q:Int):Int)):=by
 have key:=fun U O=>xT (body:=jK m) m.az (by omega) (fun i (l:List Int)=>l=(List.range N).map fun q=>t q+((m.az.take i).count (q:Int):Int)) (fun l=>l=(List.range N).map fun q=>t q+(m.az.count (q:Int):Int)) (s0:=(List.range N).map t)
  (aib fun q _=>by simp) U O
 refine (key ?_ ?_).elim fun x ⟨h1,hx⟩=>hx ▸ h1
 ·rintro i p _ hx rfl;have hi:=bD hx;obtain⟨h1,h2⟩:=Z p (ag4 hx);obtain⟨k,rfl⟩:∃k:Nat,p=k:=⟨p.toNat,by omega⟩;have hk:k<N:=by omega
  have hc:∀q:Nat,(m.az.take i).count (q:Int)<=6:=fun q=>agE (List.count_le_length ..) (by rw[agV];omega);have aa:=hc k;have X:m.az.take (i+1)=m.az.take i++[(k:Int)]:=by
   obtain⟨Y,he⟩:=ag5.1 hx;rw[ajq Y,he]
  have hb:=ht k hk;refine⟨_,?_,rfl⟩;simp only[jK];rw[if_pos (by simpa using hi),ck hx,aih,ck (jT _ hk),aih,ahE,zJ,cn (by omega),gz (by omega),X];have:(fun j=>if j=k then t k+((m.az.take i).count (k:Int):Int)+1 else t j+((m.az.take i).count (j:Int):Int))=fun q=>t q+((m.az.take i++[(k:Int)]).count (q:Int):Int):=funext fun q=>by
   rw[List.count_append]
   by_cases hq:q=k
   ·subst hq;rw[if_pos rfl];simp;omega
   ·rw[if_neg hq,List.count_cons_of_ne (by simpa using fun h=>hq (by omega))];simp
  rw[this]
 ·rintro _ rfl;refine⟨_,?_,rfl⟩;simp only[jK];rw[if_neg (by simp),aiL]
def Gc (q:Nat) (x:Int) (u:fA):Int:=if u.bU=(q:Int) then (if 1099511627777<x+u.aF then 1099511627777 else x+u.aF) else x
def lf (q:Nat) (l:List fA) (x:Int):Int:=l.foldl (Gc q) x
theorem Fx {q:Nat} {x:Int} {u:fA} (O:0<=x∧x<=1099511627777) (hu:1<=u.aF∧u.aF<=1099511627776):0<=Gc q x u∧Gc q x u<=1099511627777:=by
 unfold Gc
 repeat' split
 all_goals omega
theorem qq {q:Nat} : ∀ {l:List fA} {x:Int},(0<=x∧x<=1099511627777)->(∀u∈l,1<=u.aF∧u.aF<=1099511627776)->0<=lf q l x∧lf q l x<=1099511627777
 | [],_,hx,_=>hx
 | u::l,x,hx,h=>qq (l:=l) (x:=Gc q x u) (Fx hx (h u (aid ..))) fun v O=>h v (aie _ O)
theorem Wg {m:bE} {N:Nat} (hN:N<=2000) (hp:m.aK.length<=6) (hr:∀u∈m.aK,(0<=u.bU∧u.bU<(N:Int))∧1<=u.aF∧u.aF<=1099511627776) (t:Nat->Int) (ht:∀q,q<N->0<=t q∧t q<=1099511627777) :
  aS (jL m) ((0:Int),(List.range N).map t)=some ((List.range N).map fun q=>lf q m.aK (t q)):=by
 have key:=fun X U=>xT (body:=jL m) m.aK (by omega) (fun i (l:List Int)=>l=(List.range N).map fun q=>lf q (m.aK.take i) (t q)) (fun l=>l=(List.range N).map fun q=>lf q m.aK (t q)) (s0:=(List.range N).map t)
  (aib fun q _=>by simp[lf]) X U
 refine (key ?_ ?_).elim fun x ⟨h1,hx⟩=>hx ▸ h1
 ·rintro i u _ hx rfl;have hi:=bD hx;obtain⟨⟨h1,h2⟩,h3⟩:=hr u (ag4 hx);obtain⟨k,O⟩:∃k:Nat,u.bU=k:=⟨u.bU.toNat,by omega⟩;have hk:k<N:=by omega
  have Y:m.aK.take (i+1)=m.aK.take i++[u]:=by
   obtain⟨Z,he⟩:=ag5.1 hx;rw[ajq Z,he]
  have hb:=qq (q:=k) (l:=m.aK.take i) (ht k hk) fun v hv=>(hr v (ahm hv)).2;refine⟨_,?_,rfl⟩;simp only[jL];rw[if_pos (by simpa using hi),ck hx,aih,O,ck (jT _ hk),aih,ahE,zJ,cn (by omega),gz (by omega),Y];have:(fun j=>if j=k then (if 1099511627777<lf k (m.aK.take i) (t k)+u.aF then 1099511627777 else lf k (m.aK.take i) (t k)+u.aF) else lf j (m.aK.take i) (t j))=fun q=>lf q (m.aK.take i++[u]) (t q):=funext fun q=>by
   unfold lf;rw[ajt];simp only[List.foldl_cons,List.foldl_nil]
   by_cases hq:q=k
   ·subst hq;rw[if_pos rfl]
    conv=>rhs;rw[Gc]
    rw[if_pos O]
   ·rw[if_neg hq]
    conv=>rhs;rw[Gc]
    rw[if_neg (by rw[O];omega)]
  rw[this]
 ·rintro _ rfl;refine⟨_,?_,rfl⟩;simp only[jL];rw[if_neg (by simp),aiL]
theorem Hz {α ρ:Type} {st:Nat->α->Option ρ} {r:ρ} : ∀ {l:List α} {k i:Nat} {x:α},l[i]? = some x->st (k+i) x=some r->(∀j y,j<i->l[j]? = some y->st (k+j) y=none)->dR st k l=some r
 | [],_,_,_,h,_,_=>by simp at h
 | a::l,k,0,x,h,hs,_=>by
  simp only[List.getElem?_cons_zero,agL]at h;subst h;rw[ahb]at hs;simp only[dR,hs]
 | a::l,k,i+1,x,h,hs,O=>by
  have U:=O 0 a (by omega) rfl;rw[ahb]at U;simp only[dR,U];refine Hz (k:=k+1) (i:=i) (x:=x) (by simpa using h) (by rw[<- hs];congr 1;omega) fun j y Y X =>?_;have:=O (j+1) y (by omega) (by simpa using X);rw[<- this];congr 1;omega
open Classical in
def Qz (N:Nat) (ms:List bE):Option (Int×Int):=dR (fun (i:Nat) (m:bE)=>if pM m N then none else some ((1:Int),(i:Int))) 0 ms
def RU (ms:List bE) (q:Nat):Int:=ms.foldl (fun x m=>x+(m.az.count (q:Int):Int)) 0
def P0 (ms:List bE) (q:Nat):Int:=ms.foldl (fun x m=>lf q m.aK x) 0
theorem Q5 {w:bP} (hW:Bi w) :
  (∃r,Qz w.au.length w.ao=some r∧aS (iM w) ((0:Int),List.replicate w.au.length 0,List.replicate w.au.length 0)=some (.inr r)) ∨
  (Qz w.au.length w.ao=none∧(∀m∈w.ao,pM m w.au.length)∧aS (iM w) ((0:Int),List.replicate w.au.length 0,List.replicate w.au.length 0)=some (.inl ((List.range w.au.length).map (RU w.ao),(List.range w.au.length).map (P0 w.ao)))):=by
 have hg:=hW.given;have hm:=hW.mills;have aa:List.replicate w.au.length (0:Int)=(List.range w.au.length).map fun _=>0:=se (by simp) fun j hj=>by rw[List.getElem?_replicate,if_pos hj]
 obtain⟨q,h1,h2⟩:=dC (body:=iM w)
  (fun i st=>st=((i:Int),(List.range w.au.length).map (RU (w.ao.take i)),(List.range w.au.length).map (P0 (w.ao.take i)))∧(∀m∈w.ao.take i,pM m w.au.length)∧∀q,(0<=RU (w.ao.take i) q∧RU (w.ao.take i) q<=6*i)∧0<=P0 (w.ao.take i) q∧P0 (w.ao.take i) q<=1099511627777) w.ao.length
  (fun q=>(∃r,Qz w.au.length w.ao=some r∧q=.inr r)∨(Qz w.au.length w.ao=none∧(∀m∈w.ao,pM m w.au.length)∧q=.inl ((List.range w.au.length).map (RU w.ao),(List.range w.au.length).map (P0 w.ao))))
  (s:=((0:Int),List.replicate w.au.length 0,List.replicate w.au.length 0)) ⟨by rw[aa];rfl,fun m hm=>by simp at hm,fun q=>by simp[RU,P0]⟩ (jX (by omega)) (by
   rintro i _ hi ⟨rfl,O,hb⟩
   by_cases U:i<w.ao.length
   ·have X:w.ao[i]? = some w.ao[i]:=agP U;have Y:w.ao.take (i+1)=w.ao.take i++[w.ao[i]]:=ajq U;generalize w.ao[i]=m at X Y;obtain⟨m1,m2,m3⟩:=hW.mill m (ag4 X);obtain⟨b,b1,b2⟩:=aaS (m:=m) (ports:=w.au.length) (by omega) m1 m2 m3;simp only[iM];rw[if_pos (by simpa using U),ck X,aih,b1,aih];cases b with
    | false =>
     right;refine⟨_,rfl,.inl ⟨_,?_,rfl⟩⟩;unfold Qz;refine Hz (i:=i) (x:=m) X ?_ fun j y hj Z =>?_
     ·rw[if_neg (fun h=>by have:=b2.2 h;cases this),ahr]
     ·rw[if_pos (O y (ag4 (i:=j) (by rw[List.getElem?_take_of_lt hj];exact Z)))]
    | true =>
     have hQ:=b2.1 rfl;left;refine⟨U,?_⟩;have e1:∀q,RU (w.ao.take (i+1)) q=RU (w.ao.take i) q+(m.az.count (q:Int):Int):=fun q=>by rw[Y];unfold RU;rw[ajt];rfl
     have e2:∀q,P0 (w.ao.take (i+1)) q=lf q m.aK (P0 (w.ao.take i) q):=fun q=>by rw[Y];unfold P0;rw[ajt];rfl
     simp only[ah7,ahc,if_false];rw[RR (by omega) m3 hQ.ports _ (fun q _=>by have:=(hb q).1;omega),aih,Wg (by omega) m2 hQ.uses _ (fun q _=>(hb q).2),aih,cn (by omega)];refine⟨_,rfl,?_,fun y Z =>?_,fun q =>?_⟩
     ·rw[show RU (w.ao.take (i+1))=fun q=>RU (w.ao.take i) q+(m.az.count (q:Int):Int) from funext e1,show P0 (w.ao.take (i+1))=fun q=>lf q m.aK (P0 (w.ao.take i) q) from funext e2]
     ·rw[Y]at Z;rcases ahU.1 Z with h|h
      ·exact O y h
      ·rw[agZ.1 h];exact hQ
     ·have hc:m.az.count (q:Int)<=6:=agE (List.count_le_length ..) m3;have h3:=(hb q).1;rw[e1,e2];exact⟨by omega,qq (hb q).2 fun u hu=>(hQ.uses u hu).2⟩
   ·right;have:i=w.ao.length:=by omega
    subst this;rw[aiL]at O ⊢;refine⟨_,by simp only[iM];rw[if_neg (by simp)],.inr ⟨?_,O,rfl⟩⟩;unfold Qz;refine cW.2 fun j y Z =>?_;rw[if_pos (O y (ag4 Z))])
 rcases h2 with⟨r,h3,rfl⟩|⟨h3,h4,rfl⟩
 ·exact .inl ⟨r,h3,h1⟩
 ·exact .inr ⟨h3,h4,h1⟩
def aaO (l:List Int):Option (Int×Int):=dR (fun (i:Nat) (x:Int)=>if x=0 then some ((21:Int),(i:Int)) else if 1<x then some (5,(i:Int)) else none) 0 l
def aaP (w:bP) (l:List Int):Option (Int×Int):=dR (fun (i:Nat) (x:Int)=>if w.au.getD i 0<x then some ((25:Int),(i:Int)) else none) 0 l
theorem RS {l:List Int} (h:l.length<=2000):aS (jM l) 0=some (match aaO l with|none =>.inl ()|some r =>.inr r):=by
 refine Eq.trans (pF l (body:=jM l) (fun (i:Nat) (x:Int)=>if x=0 then some ((21:Int),(i:Int)) else if 1<x then some (5,(i:Int)) else none) (by omega) (fun i x U =>?_) ?_) ?_
 ·have X:=bD U;simp only[jM];rw[if_pos (by simpa using X),ck U,aih,cn (by omega)]
  by_cases O:x=0
  ·rw[if_pos (by simpa using O),if_pos O]
  ·rw[if_neg (by simpa using O),if_neg O]
   by_cases h1:1<x
   ·rw[if_pos (by simpa using h1),if_pos h1]
   ·rw[if_neg (by simpa using h1),if_neg h1]
 ·simp only[jM];rw[if_neg (by simp)]
 ·unfold aaO;cases dR (fun (i:Nat) (x:Int)=>if x=0 then some ((21:Int),(i:Int)) else if 1<x then some (5,(i:Int)) else none) 0 l<;>rfl
theorem Wh {w:bP} {l:List Int} (h:l.length<=2000) (Z:l.length=w.au.length):aS (jN w l) 0=some (match aaP w l with|none =>.inl ()|some r =>.inr r):=by
 refine Eq.trans (pF l (body:=jN w l) (fun (i:Nat) (x:Int)=>if w.au.getD i 0<x then some ((25:Int),(i:Int)) else none) (by omega) (fun i x U =>?_) ?_) ?_
 ·have X:=bD U;have Y:w.au[i]? = some (w.au.getD i 0):=by rw[ahf,agP (by omega)];rfl
  simp only[jN];rw[if_pos (by simpa using X),ck U,aih,ck Y,aih,cn (by omega)]
  by_cases O:w.au.getD i 0<x
  ·rw[if_pos (decide_eq_true O),if_pos O]
  ·rw[if_neg (by rw[decide_eq_true_eq];exact O),if_neg O]
 ·simp only[jN];rw[if_neg (by simp)]
 ·unfold aaP;cases dR (fun (i:Nat) (x:Int)=>if w.au.getD i 0<x then some ((25:Int),(i:Int)) else none) 0 l<;>rfl
def JS (w:bP):Option (Int×Int):=(((aaN w).or (Qz w.au.length w.ao)).or (aaO ((List.range w.au.length).map (RU w.ao)))).or (aaP w ((List.range w.au.length).map (P0 w.ao)))
theorem LJ {w:bP} (O:Bi w):kS w=some ((JS w).getD (0,0)):=by
 have U:=O.given;have hm:=O.mills;unfold kS JS;rw[if_neg (by simp;omega),decide_eq_false (by omega),aih,if_neg (by simp),QY (by omega),aih];cases aaN w with
 | some r=>rfl
 | none =>
 simp only[Option.none_or];rw[Yx _ (by omega) (by omega),aih];rcases Q5 O with⟨r,h1,h2⟩|⟨h1,_,h2⟩
 ·rw[h2,h1];rfl
 rw[h2,h1,aih];simp only[Option.none_or];rw[RS (by simp;omega),aih];cases aaO ((List.range w.au.length).map (RU w.ao)) with
 | some r=>rfl
 | none =>
 simp only[Option.none_or];rw[Wh (by simp;omega) (by simp),aih];cases aaP w ((List.range w.au.length).map (P0 w.ao))<;>rfl
section
variable {κ α:Type} [DecidableEq κ]
theorem po {n:κ} : ∀ {m:List (κ×α)},lh m n=true↔n∈m.map (·.1)
 | []=>by simp[lh]
 | (k,v)::m=>by
  simp only[lh,agI,agJ]
  by_cases h:k=n
  ·subst h;simp
  ·have:=po (n:=n) (m:=m);simp[h,this,Ne.symm h]
theorem zH {n:κ} {x:α} : ∀ {m:List (κ×α)},(pB m n x).map (·.1)=if lh m n=true then m.map (·.1) else m.map (·.1)++[n]
 | []=>by simp[pB,lh]
 | (k,v)::m=>by
  have O:=zH (n:=n) (x:=x) (m:=m);simp only[pB,lh]
  by_cases h:k=n
  ·subst h;simp
  ·simp only[if_neg h,agI];rw[O];split<;>simp_all
theorem Ro {n:κ} {x:α} {m:List (κ×α)} (h:(m.map (·.1)).Nodup):((pB m n x).map (·.1)).Nodup:=by
 rw[zH];split
 ·exact h
 ·rename_i hn;have hn:n∉m.map (·.1):=fun O=>hn (po.2 O);rw[List.nodup_append];exact⟨h,by simp,fun a U b X=>by
   rw[agZ.1 X];intro e;subst e;exact hn U⟩
theorem Iy {z x:α} {n k:κ} : ∀ {m:List (κ×α)},fm z (pB m n x) k=if k=n then x else fm z m k
 | []=>by
  simp only[pB,fm]
  by_cases h:n=k
  ·rw[if_pos h,if_pos h.symm]
  ·rw[if_neg h,if_neg (fun e=>h e.symm)]
 | (a,v)::m=>by
  have O:=Iy (z:=z) (x:=x) (n:=n) (k:=k) (m:=m);simp only[pB]
  by_cases h:a=n
  ·rw[if_pos h];simp only[fm]
   by_cases hk:a=k
   ·rw[if_pos hk,if_pos (by rw[<- hk,h])]
   ·rw[if_neg hk,if_neg (fun e=>hk (by rw[e,h])),if_neg hk]
  ·rw[if_neg h];simp only[fm]
   by_cases hk:a=k
   ·rw[if_pos hk,if_neg (fun e=>h (by rw[hk,e])),if_pos hk]
   ·rw[if_neg hk,O,if_neg hk]
theorem NY {z:α} {k:κ} {v:α} : ∀ {m:List (κ×α)},(m.map (·.1)).Nodup->((k,v)∈m↔lh m k=true∧fm z m k=v)
 | [],_=>by simp[lh]
 | (a,x)::m,h=>by
  rw[agI,aim]at h;have O:=NY (z:=z) (k:=k) (v:=v) (m:=m) h.2;simp only[lh,fm,agJ,Prod.mk.injEq]
  by_cases hk:a=k
  ·subst hk;have U:(a,v)∉m:=fun hm=>h.1 (agB.2 ⟨_,hm,rfl⟩);simp[U,eq_comm]
  ·simp[hk,O,Ne.symm hk]
end
abbrev MQ:=List ((Int×Int)×Rat)
def ji (m:MQ):List ((Int×Int)×aw):=m.map fun p=>(p.1,e9 p.2)
theorem D7 (m:MQ):(ji m).length=m.length:=ag6 ..
theorem VH (m:MQ):(ji m).map (·.1)=m.map (·.1):=by unfold ji;rw[List.map_map];rfl
theorem N3 (m:MQ) (k:Int×Int):lh (ji m) k=lh m k:=by
 induction m with
 | nil=>rfl
 | cons p m O =>
  obtain⟨a,v⟩:=p;rw[show ji ((a,v)::m)=(a,e9 v)::ji m from rfl];simp only[lh,O]
theorem VI {z:aw} {m:MQ} {k:Int×Int} (h:lh m k=true):fm z (ji m) k=e9 (fm 0 m k):=by
 induction m with
 | nil=>cases h
 | cons p m O =>
  obtain⟨a,v⟩:=p;show (if a=k then e9 v else fm z (ji m) k)=e9 (if a=k then v else fm 0 m k)
  by_cases hk:a=k
  ·rw[if_pos hk,if_pos hk]
  ·rw[if_neg hk,if_neg hk];exact O (by simpa [lh,hk] using h)
theorem N4 (m:MQ) (k:Int×Int) (q:Rat):pB (ji m) k (e9 q)=ji (pB m k q):=by
 induction m with
 | nil=>rfl
 | cons p m O =>
  obtain⟨a,v⟩:=p;show (if a=k then (a,e9 q)::ji m else (a,e9 v)::pB (ji m) k (e9 q))=ji (if a=k then (a,q)::m else (a,v)::pB m k q)
  by_cases hk:a=k
  ·rw[if_pos hk,if_pos hk];rfl
  ·rw[if_neg hk,if_neg hk,O];rfl
theorem aaU {m:MQ} {k:Int×Int} (h:lh m k=false):fm 0 m k=0:=by
 induction m with
 | nil=>rfl
 | cons p m O =>
  obtain⟨a,v⟩:=p;simp only[lh,Bool.or_eq_false_iff,beq_eq_false_iff_ne]at h;simp only[fm];rw[if_neg h.1,O h.2]
def jq (m:MQ) (c:(Int×Int)×Rat):MQ:=pB m c.1 (fm 0 m c.1+c.2)
theorem U0 (m:MQ) (c:(Int×Int)×Rat) (k:Int×Int):fm 0 (jq m c) k=fm 0 m k+(if k=c.1 then c.2 else 0):=by
 unfold jq;rw[Iy]
 by_cases h:k=c.1
 ·rw[if_pos h,if_pos h,h]
 ·rw[if_neg h,if_neg h];grind
def nw (k:Int×Int):List ((Int×Int)×Rat)->Rat
 | []=>0
 | c::l=>(if k=c.1 then c.2 else 0)+nw k l
theorem yY:∀(l:List ((Int×Int)×Rat)) (m:MQ) (k:Int×Int),fm 0 (l.foldl jq m) k=fm 0 m k+nw k l
 | [],m,k=>by simp only[List.foldl_nil,nw];grind
 | c::l,m,k=>by
  rw[ahq,yY l,U0];simp only[nw];grind
theorem wB:∀(l:List ((Int×Int)×Rat)) (m:MQ),(m.map (·.1)).Nodup->((l.foldl jq m).map (·.1)).Nodup
 | [],_,h=>h
 | c::l,m,h=>wB l (jq m c) (Ro h)
theorem afF {p q:Int} (O : -9223372036854775808<=p∧p<9223372036854775808) (U : -9223372036854775808<=q∧q<9223372036854775808) (X:q≠0):u7 p q=some (e9 (Rat.divInt p q),0):=by
 unfold u7;rw[Sj O,aih,Sj U,aih,P8 (Jv O) (Jv U) X,aih]
open Classical in
def adl (f:aw):Rat:=if h:∃q,f=e9 q then Classical.choose h else 0
theorem Ks (q:Rat):adl (e9 q)=q:=by
 have h:∃p,e9 q=e9 p:=⟨q,rfl⟩;unfold adl;rw[dif_pos h];exact (u9 (Classical.choose_spec h)).symm
def A6 (f:fH) (k i:Nat):Rat:=adl ((f.aA.getD k []).getD i (aw.mk (aD.mk 0 ([])) (aD.mk 0 ([]))))
theorem pG {f:fH} (hF:kd f) (hQ:z7 f) {k i:Nat} (hk:k<f.aJ.length) (hi:i<f.ah.length) :
  ∃row,f.aA[k]? = some row∧row[i]? = some (e9 (A6 f k i))∧0<=A6 f k i∧LF (A6 f k i)<=4:=by
 have X:k<f.aA.length:=by rw[hQ.rows];exact hk
 have Z:f.aA[k]? = some (f.aA[k]):=agP X;have hm:=agO X;have hd:f.aA.getD k []=f.aA[k]:=by rw[ahf,Z];rfl
 have hl:=hQ.row _ hm;have hs:=(hF.row _ hm).2;unfold A6;rw[hd];have O:(xw f i)[k]? = some ((f.aA[k][i]?).getD (aw.mk (aD.mk 0 ([])) (aD.mk 0 ([])))):=by
  unfold xw;rw[agz,Z];rfl
 generalize f.aA[k]=row at Z hm hl hs O ⊢;have U:row[i]? = some (row[i]'(by omega)):=agP _;have hx:=hs _ (ag4 U);have aa:row.getD i (aw.mk (aD.mk 0 ([])) (aD.mk 0 ([])))=row[i]'(by omega):=by rw[ahf,U];rfl
 rw[U]at O;rw[aa];obtain⟨qs,h1,h2,_⟩:=hQ.col i hi;rw[h1]at O;rw[agz]at O;obtain⟨q,ab,Y⟩:=agA.1 O;simp only[Option.getD_some]at Y;rw[<- Y]at U hx ⊢;refine⟨row,Z,?_,?_,?_⟩
 ·rw[Ks];exact U
 ·rw[Ks];exact h2 q (ag4 ab)
 ·rw[Ks];exact BN hx.1 hx.2
theorem V0 {f:fH} (hF:kd f) (O:z7 f) {i:Nat} (Y:i<f.ah.length):lj ((List.range f.aJ.length).map fun k=>A6 f k i)=1:=by
 obtain⟨Z,h1,_,h3⟩:=O.col i Y;have:Z=(List.range f.aJ.length).map fun k=>A6 f k i:=by
  have hlen:Z.length=f.aJ.length:=by
   have:=congrArg List.length h1;unfold xw at this;simp only[ag6]at this;rw[<- O.rows];exact this.symm
  refine se hlen fun j hj =>?_;obtain⟨row,r1,r2,_,_⟩:=pG hF O hj Y;have hc:(xw f i)[j]? = some (e9 (A6 f j i)):=by
   unfold xw;rw[agz,r1,agK,r2];rfl
  rw[h1,agz]at hc;obtain⟨q,U,X⟩:=agA.1 hc;rw[U,u9 X]
 rw[<- this];exact h3
abbrev z6:=(Int×Int)×Rat
def vC (m:bE) (i:Nat) (u:fA) (r:Rat) (k:Nat):List z6 :=
 match m.ak.aJ[k]? with
 | some y=>if y.bf=0∧A6 m.ak k i≠0 then [((u.bU,m.az.getD y.aQ.toNat 0),r*A6 m.ak k i)] else []
 | none=>[]
def U4 (g:List Int) (u:fA):Rat:=Rat.divInt u.aF (g.getD u.bU.toNat 0)
def ou (m:bE) (n:Int):fA:=m.aK.getD n.toNat (fA.mk 0 0)
def Bl (g:List Int) (m:bE) (i:Nat):List z6 :=
 match m.ak.ah[i]? with
 | some x=>if x.bf=1 then (List.range m.ak.aJ.length).flatMap (vC m i (ou m x.aQ) (U4 g (ou m x.aQ))) else []
 | none=>[]
def lQ (g:List Int) (m:bE):List z6:=(List.range m.ak.ah.length).flatMap (Bl g m)
def rS (w:bP):List z6:=w.ao.flatMap (lQ w.au)
theorem uO:LF 0<=1:=Jr (n:=0) (by decide)
theorem Ju {K:Nat} {k:Int×Int} : ∀ {l:List z6},(∀c∈l,LF c.2<=K)->LF (nw k l)<=1+l.length*(K+1)
 | [],_=>by simp only[nw];have:=uO;simp;omega
 | c::l,h=>by
  have U:=Ju (k:=k) (l:=l) fun x O=>h x (aie _ O);have h1:=h c (aid ..);simp only[nw,List.length_cons];have h2:=s4 (if k=c.1 then c.2 else 0) (nw k l);have h3:LF (if k=c.1 then c.2 else 0)<=max K 1:=by
   split
   ·omega
   ·have:=uO;omega
  have h4:=s4 0 (nw k l);rw[ahB]
  by_cases hk:k=c.1
  ·rw[if_pos hk]at h2 ⊢;omega
  ·rw[if_neg hk,show (0:Rat)+nw k l=nw k l by grind];omega
theorem abb {z:aw} {M:MQ} {k:Int×Int} {v:Rat} {K:Nat} (h:LF (fm 0 M k)<=K) (X:LF v<=K) (Y:K<=1000000000) :
  (lh (ji M) k=true->n5 (fm z (ji M) k) (e9 v)=some (e9 (fm 0 M k+v))∧pB (ji M) k (e9 (fm 0 M k+v))=ji (jq M (k,v)))∧(lh (ji M) k=false->pB (ji M) k (e9 v)=ji (jq M (k,v))):=by
 have U:eO=4398046511104:=rfl;constructor
 ·intro O;rw[N3]at O;rw[VI O,abM (by omega),N4];exact⟨rfl,rfl⟩
 ·intro O;rw[N3]at O;rw[N4];unfold jq;rw[aaU O,show (0:Rat)+v=v by grind]
theorem M5 {m:bE} {N:Nat} (O:pM m N) {y:s6} (U:y∈m.ak.aJ) (X:y.bf=0):∃j:Nat,y.aQ=j∧j<m.az.length:=by
 have:y.aQ∈yF m.az.length:=O.gives.mem_iff.1 (agB.2 ⟨y,aik.2 ⟨U,by simpa using X⟩,rfl⟩);unfold yF at this;obtain⟨j,h1,h2⟩:=agB.1 this;exact⟨j,h2.symm,ain.1 h1⟩
theorem PB {m:bE} {N:Nat} (O:pM m N) {x:fI} (U:x∈m.ak.ah) (h1:x.bf=1):∃j:Nat,x.aQ=j∧j<m.aK.length:=by
 have:x.aQ∈yF m.aK.length:=O.takes.mem_iff.1 (agB.2 ⟨x,aik.2 ⟨U,by simpa using h1⟩,rfl⟩);unfold yF at this;obtain⟨j,h1,h2⟩:=agB.1 this;exact⟨j,h2.symm,ain.1 h1⟩
structure FF (n:Nat) (h:List z6):Prop where
 len:h.length<=n
 sz:∀c∈h,LF c.2<=20
theorem FF.look {n:Nat} {h:List z6} (H:FF n h) (k:Int×Int):LF (fm 0 (h.foldl jq []) k)<=1+n*21:=by
 rw[yY,show fm 0 ([]:MQ) k=0 from rfl,show (0:Rat)+nw k h=nw k h by grind];have h1:=Ju (k:=k) H.sz;have h2:=H.len;have h3:=ahp 21 h2;omega
theorem FF.app {n a:Nat} {h l:List z6} (H:FF n h) (U:l.length<=a) (hs:∀c∈l,LF c.2<=20):FF (n+a) (h++l) :=
 ⟨by rw[ahO];have:=H.len;omega,fun c O=>(ahU.1 O).elim (H.sz c) (hs c)⟩
theorem Le (m:bE) (i:Nat) (u:fA) (r:Rat) (k:Nat):(vC m i u r k).length<=1:=by
 unfold vC;split
 ·split<;>simp
 ·simp
theorem mT {α:Type} {f:Nat->List α} {b:Nat} (h:∀i,(f i).length<=b):∀n,((List.range n).flatMap f).length<=n*b
 | 0=>by simp
 | n+1=>by
  have:=mT h n;have h2:=h n;rw[aju,List.flatMap_append,ahO,ahB];simp only[aic,List.flatMap_nil,aiB];omega
theorem HF {α:Type} {f:Nat->List α} (n:Nat):(List.range (n+1)).flatMap f=(List.range n).flatMap f++f n:=by
 rw[aju,List.flatMap_append];simp
theorem aaA {m:bE} {i:Nat} {u:fA} {r:Rat} {k:Nat} (U:kd m.ak) (X:z7 m.ak) (Y:i<m.ak.ah.length) (hr:LF r<=10):∀c∈vC m i u r k,LF c.2<=20:=by
 intro c O;unfold vC at O;split at O
 ·rename_i y Z;split at O
  ·rw[agZ.1 O];obtain⟨_,_,_,_,h4⟩:=pG U X (bD Z) Y;have:=Ce r (A6 m.ak k i);simp only;omega
  ·cases O
 ·cases O
theorem T2 {m:bE} {i:Nat} {u:fA} {r:Rat} {n:Nat} (O:kd m.ak) (U:z7 m.ak) (X:i<m.ak.ah.length) (Y:LF r<=10):∀c∈(List.range n).flatMap (vC m i u r),LF c.2<=20:=by
 intro c Z;obtain⟨k,_,hk⟩:=aia.1 Z;exact aaA O U X Y c hk
theorem VR {m:bE} {N i n:Nat} {u:fA} {r:Rat} {h:List z6} (X:kd m.ak) (Y:pM m N) (hi:i<m.ak.ah.length) (hr:LF r<=10) (H:FF n h) (hn:n<=1000) :
  aS (gn m (i:Int) u (e9 r,0)) ((0:Int),ji (h.foldl jq []))=some (ji ((h++(List.range m.ak.aJ.length).flatMap (vC m i u r)).foldl jq [])):=by
 have ab:eO=4398046511104:=rfl;have ho:=X.outs;have key:=fun Z O=>xT (body:=gn m (i:Int) u (e9 r,0)) m.ak.aJ (by omega)
  (fun k (c:List ((Int×Int)×aw))=>c=ji ((h++(List.range k).flatMap (vC m i u r)).foldl jq [])) (fun c=>c=ji ((h++(List.range m.ak.aJ.length).flatMap (vC m i u r)).foldl jq [])) (s0:=ji (h.foldl jq [])) (by simp) Z O
 refine (key ?_ ?_).elim fun x ⟨h1,hx⟩=>hx ▸ h1
 ·rintro k x _ hx rfl;have hk:=bD hx;have hl:=mT (fun k=>Le m i u r k) k;have H2:=H.app (a:=k) (by omega) (T2 (u:=u) (n:=k) X Y.flow hi hr);obtain⟨row,r1,r2,r3,r4⟩:=pG X Y.flow hk hi;rw[HF,<- ah0];generalize h++(List.range k).flatMap (vC m i u r)=h2 at H2;have aa:=H2.look;have hc:vC m i u r k=if x.bf=0∧A6 m.ak k i≠0 then [((u.bU,m.az.getD x.aQ.toNat 0),r*A6 m.ak k i)] else []:=by unfold vC;rw[hx]
  refine⟨_,?_,rfl⟩;simp only[gn];rw[if_pos (by simpa using hk),ck hx,aih,cn (by omega),hc]
  by_cases h0:x.bf=0
  ·rw[if_neg (by simp[h0]),ck r1,aih,ck r2,aih,Jw (by omega),aih,aih]
   by_cases hz:A6 m.ak k i=0
   ·rw[if_pos (by rw[beq_iff_eq];exact yx.2 hz),if_neg (fun hh=>hh.2 hz),aiB]
   ·obtain⟨j,j1,j2⟩:=M5 Y (ag4 hx) h0;have hp:m.az[j]? = some (m.az.getD x.aQ.toNat 0):=by rw[j1,ahE,ahf,agP j2];rfl
    have ad:=Ce r (A6 m.ak k i);rw[if_neg (by rw[beq_iff_eq];exact fun hh=>hz (yx.1 hh)),if_pos ⟨h0,hz⟩];rw[show P.idx m.az x.aQ=some (m.az.getD x.aQ.toNat 0) by rw[j1]at hp ⊢;exact ck hp];rw[aih,aih,ck r2,aih,WA (by omega),aih];have U:=abb (z:=aw.mk (aD.mk 0 ([])) (aD.mk 0 ([]))) (M:=h2.foldl jq []) (k:=(u.bU,m.az.getD x.aQ.toNat 0)) (v:=r*A6 m.ak k i) (K:=20+(n+k)*21) (agE (aa _) (by omega)) (by omega) (by omega);cases hh:lh (ji (h2.foldl jq [])) (u.bU,m.az.getD x.aQ.toNat 0) with
    | false =>
     rw[if_neg (by simp),U.2 hh,ajt];rfl
    | true =>
     have h5:=U.1 hh;rw[if_pos rfl];erw [h5.1];rw[aih,h5.2,ajt];rfl
  ·rw[if_pos (by simpa using h0),aih,if_pos rfl,if_neg (fun hh=>h0 hh.1),aiB]
 ·rintro _ rfl;refine⟨_,?_,rfl⟩;simp only[gn];rw[if_neg (by simp)]
theorem acD {x:Int} (h1:1<=x) (h2:x<=1099511627776):Ln x<=3:=K0 (by rw[ik,ik,ik,mM];omega)
def wk (g:List Int):Prop:=∀x∈g,1<=x∧x<=1099511627776
theorem M4 {g:List Int} (U:wk g) {p:Int} (h:0<=p∧p<(g.length:Int)):∃j:Nat,p=j∧j<g.length∧g[j]? = some (g.getD p.toNat 0)∧1<=g.getD p.toNat 0∧g.getD p.toNat 0<=1099511627776:=by
 obtain⟨j,rfl⟩:∃j:Nat,p=j:=⟨p.toNat,by omega⟩;have O:j<g.length:=by omega
 have h1:g[j]? = some (g.getD (j:Int).toNat 0):=by rw[ahE,ahf,agP O];rfl
 exact⟨j,rfl,O,h1,U _ (ag4 h1)⟩
theorem KN {m:bE} {N:Nat} (X:pM m N) {x:fI} (Y:x∈m.ak.ah) (h1:x.bf=1):P.idx m.aK x.aQ=some (ou m x.aQ)∧ou m x.aQ∈m.aK:=by
 obtain⟨j,U,Z⟩:=PB X Y h1;have O:m.aK[j]? = some (ou m x.aQ):=by unfold ou;rw[U,ahE,ahf,agP Z];rfl
 exact⟨by rw[U]at O ⊢;exact ck O,ag4 O⟩
theorem Qg {g:List Int} {m:bE} (O:wk g) (U:pM m g.length) {u:fA} (hu:u∈m.aK):LF (U4 g u)<=10∧0<U4 g u:=by
 obtain⟨h1,h2⟩:=U.uses u hu;obtain⟨j,Z,j2,j3,X,Y⟩:=M4 O h1;have a1:=acD h2.1 h2.2;have a2:=acD X Y;unfold U4;have a3:=yO (p:=u.aF) (q:=g.getD u.bU.toNat 0) (by omega);refine⟨by omega,?_⟩;rw[Rat.divInt_eq_div,Rat.div_def];exact Rat.mul_pos (by exact_mod_cast (show (0:Int)<u.aF by omega)) (Rat.inv_pos.2 (by exact_mod_cast (show (0:Int)<g.getD u.bU.toNat 0 by omega)))
theorem SL {g:List Int} {m:bE} (Z:wk g) (X:kd m.ak) (O:pM m g.length) (i:Nat):(Bl g m i).length<=5∧∀c∈Bl g m i,LF c.2<=20:=by
 unfold Bl;split
 ·rename_i x Y;split
  ·rename_i h1;have ho:=X.outs;have hl:=mT (fun k=>Le m i (ou m x.aQ) (U4 g (ou m x.aQ)) k) m.ak.aJ.length;refine⟨by omega,T2 X O.flow (bD Y) (Qg Z O (KN O (ag4 Y) h1).2).1⟩
  ·exact⟨by simp,fun c U=>by cases U⟩
 ·exact⟨by simp,fun c U=>by cases U⟩
theorem Uf {g:List Int} {m:bE} (O:wk g) (U:kd m.ak) (X:pM m g.length) (n:Nat):((List.range n).flatMap (Bl g m)).length<=n*5∧∀c∈(List.range n).flatMap (Bl g m),LF c.2<=20:=by
 refine⟨mT (fun i=>(SL O U X i).1) n,fun c Y =>?_⟩;obtain⟨k,_,hk⟩:=aia.1 Y;exact (SL O U X k).2 c hk
theorem Qi {g:List Int} {m:bE} {n:Nat} {h:List z6} (hg:wk g) (hF:kd m.ak) (O:pM m g.length) (H:FF n h) (hn:n<=900) :
  hZ (ji (h.foldl jq [])) g m=some (ji ((h++lQ g m).foldl jq []),()):=by
 have ab:eO=4398046511104:=rfl;have hs:=hF.srcs;have key:=fun aa U=>xT (body:=iw g m) m.ak.ah (by omega)
  (fun k (c:List ((Int×Int)×aw))=>c=ji ((h++(List.range k).flatMap (Bl g m)).foldl jq [])) (fun c=>c=ji ((h++lQ g m).foldl jq [])) (s0:=ji (h.foldl jq [])) (by simp) aa U
 unfold hZ;refine (key ?_ ?_).elim fun c Z =>?_
 ·rintro i x _ hx rfl;have hi:=bD hx;obtain⟨hl,hz⟩:=Uf hg hF O i;have H2:=H.app (a:=i*5) hl hz;rw[HF,<- ah0];generalize h++(List.range i).flatMap (Bl g m)=h2 at H2;have Z:Bl g m i=if x.bf=1 then (List.range m.ak.aJ.length).flatMap (vC m i (ou m x.aQ) (U4 g (ou m x.aQ))) else []:=by unfold Bl;rw[hx]
  refine⟨_,?_,rfl⟩;simp only[iw];rw[if_pos (by simpa using hi),ck hx,aih,cn (by omega),Z]
  by_cases h1:x.bf=1
  ·obtain⟨u1,u2⟩:=KN O (ag4 hx) h1;have hb:=Qg hg O u2;obtain⟨p1,p2⟩:=O.uses _ u2;obtain⟨j,j1,j2,j3,j4,j5⟩:=M4 hg p1;have X:P.idx g (ou m x.aQ).bU=some (g.getD (ou m x.aQ).bU.toNat 0):=by
    rw[j1]at j3 ⊢;exact ck j3
   rw[if_neg (by simp[h1]),u1,aih,X,aih,afF (by omega) (by omega) (by omega),aih,if_pos h1];have Y:=VR (u:=ou m x.aQ) (r:=U4 g (ou m x.aQ)) hF O hi hb.1 H2 (by omega);unfold U4 at Y ⊢;erw [Y];rfl
  ·rw[if_pos (by simpa using h1),if_neg h1,aiB]
 ·rintro _ rfl;refine⟨_,?_,rfl⟩;simp only[iw];rw[if_neg (by simp)];rfl
 ·rw[Z.1,Z.2];rfl
theorem Xc {g:List Int} {m:bE} (U:wk g) (O:kd m.ak) (X:pM m g.length):(lQ g m).length<=25∧∀c∈lQ g m,LF c.2<=20:=by
 have:=Uf U O X m.ak.ah.length;have hs:=O.srcs;exact⟨by have:=this.1;unfold lQ;omega,this.2⟩
theorem WK {m:MQ} {c:z6} {k:Int×Int} : lh (jq m c) k=true↔lh m k=true∨c.1=k:=by
 unfold jq;rw[po,zH];split
 ·rename_i h;constructor
  ·exact fun h1 =>.inl (po.2 h1)
  ·rintro (h1|rfl)
   ·exact po.1 h1
   ·exact po.1 h
 ·rw[ahU,agZ,eq_comm (a:=k),po]
theorem MG:∀(l:List z6) (m:MQ) (k:Int×Int),lh (l.foldl jq m) k=true↔lh m k=true∨∃c∈l,c.1=k
 | [],m,k=>by simp
 | c::l,m,k=>by
  rw[ahq,MG l,WK];simp only[agJ,exists_eq_or_imp];exact or_assoc
theorem yB {k:Int×Int} : ∀ {l:List z6},(∀c∈l,0<c.2)->0<=nw k l∧(0<nw k l↔∃c∈l,c.1=k)
 | [],_=>⟨by simp only[nw];grind,by simp only[nw];simp⟩
 | c::l,h=>by
  obtain⟨h1,h2⟩:=yB (k:=k) (l:=l) fun x O=>h x (aie _ O);have h3:=h c (aid ..);simp only[nw,agJ,exists_eq_or_imp]
  by_cases hk:k=c.1
  ·rw[if_pos hk];exact⟨by grind,⟨fun _ =>.inl hk.symm,fun _=>by grind⟩⟩
  ·rw[if_neg hk,show (0:Rat)+nw k l=nw k l by grind,h2];exact⟨h1,⟨.inr,fun h=>h.resolve_left fun e=>hk e.symm⟩⟩
def iP (N:Nat) (S:Nat->Nat->Rat):List Tk:=(List.range N).flatMap fun a=>((List.range N).filter fun b=>decide (0<S a b)).map fun b=>(a,b,S a b)
theorem yc {N:Nat} {S:Nat->Nat->Rat} {t:Tk} : t∈iP N S↔t.1<N∧t.2.1<N∧0<S t.1 t.2.1∧t.2.2=S t.1 t.2.1:=by
 unfold iP;simp only[aia,agB,aik,ain,decide_eq_true_eq];constructor
 ·rintro⟨a,O,b,⟨U,hs⟩,rfl⟩;exact⟨O,U,hs,rfl⟩
 ·rintro⟨h1,h2,h3,h4⟩;exact⟨t.1,h1,t.2.1,⟨h2,h3⟩,by rw[<- h4]⟩
theorem KL (N:Nat) (S:Nat->Nat->Rat):(iP N S).Pairwise Yr:=by
 unfold iP;rw[List.pairwise_flatMap];constructor
 ·intro a _;rw[aiQ];exact (List.Pairwise.filter _ (aio (n:=N))).imp fun h =>.inr ⟨rfl,h⟩
 ·refine (aio (n:=N)).imp fun {a b} h x O y U =>?_;obtain⟨_,_,rfl⟩:=agB.1 O;obtain⟨_,_,rfl⟩:=agB.1 U;exact .inl h
theorem PE (N:Nat) (S:Nat->Nat->Rat):(iP N S).length<=N*N:=by
 unfold iP;refine mT (fun a =>?_) N;rw[ag6];exact agE (ajr ..) (by simp)
def kg (L:List z6) (a b:Nat):Rat:=nw ((a:Int),(b:Int)) L
structure Wt (N:Nat) (L:List z6):Prop where
 pos:∀c∈L,0<c.2
 from_:∀c∈L,0<=c.1.1∧c.1.1<(N:Int)
 to_:∀c∈L,0<=c.1.2∧c.1.2<(N:Int)
theorem Jb {N:Nat} {L:List z6} (H:Wt N L) :
  nJ (jm bL.cD bL.jh) ((ji (L.foldl jq [])).map fun q=>bL.mk q.1.1 q.1.2 q.2)=(iP N (kg L)).map BW:=by
 have O:((L.foldl jq []).map (·.1)).Nodup:=wB L [] (by simp);have hK:((ji (L.foldl jq [])).map fun q=>bL.mk q.1.1 q.1.2 q.2)=(L.foldl jq []).map fun p=>bL.mk p.1.1 p.1.2 (e9 p.2):=by unfold ji;rw[List.map_map];rfl
 rw[hK];have U:∀p:z6,p∈L.foldl jq []↔(∃c∈L,c.1=p.1)∧nw p.1 L=p.2:=by
  rintro⟨k,v⟩;rw[NY (z:=0) O,MG,yY];simp only[lh,fm,ahc,false_or];rw[show (0:Rat)+nw k L=nw k L by grind]
 have X:((L.foldl jq []).map fun p:z6=>bL.mk p.1.1 p.1.2 (e9 p.2)).Nodup:=by
  unfold List.Nodup at O ⊢;rw[aiQ]at O ⊢;refine O.imp fun {a b} h e=>h ?_;simp only[bL.mk.injEq]at e;exact Prod.ext e.1 e.2.1
 have Y:((iP N (kg L)).map BW).Nodup:=by
  unfold List.Nodup;rw[aiQ];refine (KL N (kg L)).imp fun {a b} h e =>?_;have:=TM e;subst this;unfold Yr at h;omega
 have Z:∀x,x∈((L.foldl jq []).map fun p:z6=>bL.mk p.1.1 p.1.2 (e9 p.2))↔x∈(iP N (kg L)).map BW:=by
  intro x;rw[agB,agB];constructor
  ·rintro⟨p,hp,rfl⟩;obtain⟨h1,h2⟩:=(U p).1 hp;obtain⟨c,c1,c2⟩:=h1;have f1:=H.from_ c c1;have f2:=H.to_ c c1;rw[c2]at f1 f2;have e1:((p.1.1.toNat:Nat):Int)=p.1.1:=by omega
   have e2:((p.1.2.toNat:Nat):Int)=p.1.2:=by omega
   have e3:kg L p.1.1.toNat p.1.2.toNat=p.2:=by unfold kg;rw[e1,e2];exact h2
   refine⟨(p.1.1.toNat,p.1.2.toNat,p.2),yc.2 ⟨by simp only;omega,by simp only;omega,?_,e3.symm⟩,?_⟩
   ·simp only;rw[e3,<- h2];exact (yB H.pos).2.2 ⟨c,c1,c2⟩
   ·unfold BW;simp only;rw[e1,e2]
  ·rintro⟨t,ht,rfl⟩;obtain⟨h1,h2,h3,h4⟩:=yc.1 ht;refine⟨(((t.1:Int),(t.2.1:Int)),t.2.2),(U _).2 ⟨(yB H.pos).2.1 h3,h4.symm⟩,rfl⟩
 refine mO (c:=jm bL.cD bL.jh) ((gY _ _).trans ((List.perm_ext_iff_of_nodup X Y).2 Z)) ?_ (ly (rm _ _) _) ?_
 ·intro x hx y hy h1 h2;have hx:=(gY _ _).mem_iff.1 hx;have hy:=(gY _ _).mem_iff.1 hy;obtain⟨p,p1,rfl⟩:=agB.1 hx;obtain⟨q,q1,rfl⟩:=agB.1 hy;rw[uq]at h1 h2;simp only at h1 h2;have e:p.1=q.1:=Prod.ext (by omega) (by omega);have:p.2=q.2:=by rw[<- ((U p).1 p1).2,<- ((U q).1 q1).2,e]
  rw[e,this]
 ·rw[aiQ];refine (KL N (kg L)).imp fun {a b} h =>?_;rw[uq];simp only[BW];unfold Yr at h;omega
theorem Tg {w:bP} {r:Int×Int} (h:JS w=some r):r.1≠0:=by
 unfold JS at h;simp only[Option.or_eq_some_iff]at h;rcases h with ((h|⟨_,h⟩)|⟨_,h⟩)|⟨_,h⟩
 ·obtain⟨j,x,_,h2,_⟩:=dJ h;split at h2
  ·cases h2
  ·cases h2;simp
 ·obtain⟨j,x,_,h2,_⟩:=dJ h;split at h2
  ·cases h2
  ·cases h2;simp
 ·obtain⟨j,x,_,h2,_⟩:=dJ h;split at h2
  ·cases h2;simp
  ·split at h2
   ·cases h2;simp
   ·cases h2
 ·obtain⟨j,x,_,h2,_⟩:=dJ h;split at h2
  ·cases h2;simp
  ·cases h2
structure vL (w:bP):Prop where
 given:wk w.au
 fit:∀m∈w.ao,pM m w.au.length
 once:∀q,q<w.au.length->RU w.ao q=1∨RU w.ao q<0
 used:∀q,q<w.au.length->P0 w.ao q<=w.au.getD q 0
theorem abU {w:bP} (h:JS w=none):vL w:=by
 unfold JS at h;simp only[Option.or_eq_none_iff]at h;obtain⟨⟨⟨h1,h2⟩,h3⟩,h4⟩:=h;refine⟨fun x X =>?_,fun m hm =>?_,fun q O =>?_,fun q O =>?_⟩
 ·obtain⟨j,U⟩:=agY X;have:=cW.1 h1 j x U;split at this
  ·assumption
  ·cases this
 ·obtain⟨j,U⟩:=agY hm;have:=cW.1 h2 j m U;split at this
  ·assumption
  ·cases this
 ·have:=cW.1 h3 q _ (jT _ O);split at this
  ·cases this
  ·split at this
   ·cases this
   ·omega
 ·have:=cW.1 h4 q _ (jT _ O);rw[ahr]at this;split at this
  ·cases this
  ·omega
theorem acP {w:bP} (hW:Bi w) (X:vL w):Wt w.au.length (rS w):=by
 have key:∀c∈rS w,0<c.2∧(0<=c.1.1∧c.1.1<(w.au.length:Int))∧0<=c.1.2∧c.1.2<(w.au.length:Int):=by
  intro c O;unfold rS at O;obtain⟨m,hm,O⟩:=aia.1 O;have hF:=(hW.mill m hm).1;have U:=X.fit m hm;unfold lQ at O;obtain⟨i,Y,O⟩:=aia.1 O;rw[ain]at Y;unfold Bl at O;split at O
  ·rename_i x hx;split at O
   ·rename_i h1;obtain⟨k,hk,O⟩:=aia.1 O;rw[ain]at hk;unfold vC at O;split at O
    ·rename_i y hy;split at O
     ·rename_i Z;rw[agZ.1 O];obtain⟨_,u2⟩:=KN U (ag4 hx) h1;obtain⟨j,j1,j2⟩:=M5 U (ag4 hy) Z.1;obtain⟨_,_,_,r3,_⟩:=pG hF U.flow hk Y;have hp:m.az.getD y.aQ.toNat 0∈m.az:=by
       rw[j1,ahE,ahf,agP j2];exact agO j2
      refine⟨Rat.mul_pos (Qg X.given U u2).2 ?_,(U.uses _ u2).1,U.ports _ hp⟩;have:=Z.2;grind
     ·cases O
    ·cases O
   ·cases O
  ·cases O
 exact⟨fun c h=>(key c h).1,fun c h=>(key c h).2.1,fun c h=>(key c h).2.2⟩
theorem Eo {w:bP} (Y:Bi w) (X:vL w):aS (oE w) ((0:Int),[])=some (ji ((rS w).foldl jq []))∧FF 125 (rS w):=by
 have hm:=Y.mills;have sz:∀k,((w.ao.take k).flatMap (lQ w.au)).length<=k*25∧∀c∈(w.ao.take k).flatMap (lQ w.au),LF c.2<=20:=by
  intro k;have h1:∀m∈w.ao.take k,(lQ w.au m).length<=25∧∀c∈lQ w.au m,LF c.2<=20:=fun m h=>by
   have hm:=ahm h;exact Xc X.given (Y.mill m hm).1 (X.fit m hm)
  have h2:(w.ao.take k).length<=k:=by rw[agV];omega
  refine⟨?_,fun c Z =>?_⟩
  ·have gen:∀l:List bE,(∀m∈l,(lQ w.au m).length<=25)->(l.flatMap (lQ w.au)).length<=l.length*25:=by
    intro l
    induction l with
    | nil=>intro _;simp
    | cons a l ih =>
     intro h;have a1:=h a (aid ..);have a2:=ih fun m hm=>h m (aie _ hm);rw[aic,ahO,ag2];omega
   have:=gen _ fun m hm=>(h1 m hm).1;omega
  ·obtain⟨m,hm,Z⟩:=aia.1 Z;exact (h1 m hm).2 c Z
 have key:=fun aa U=>xT (body:=oE w) w.ao (by omega)
  (fun k (c:List ((Int×Int)×aw))=>c=ji (((w.ao.take k).flatMap (lQ w.au)).foldl jq [])) (fun c=>c=ji ((rS w).foldl jq [])) (s0:=[]) rfl aa U
 constructor
 ·refine (key ?_ ?_).elim fun x ⟨h1,hx⟩=>hx ▸ h1
  ·rintro k m _ hx rfl;have hk:=bD hx;have ab:w.ao.take (k+1)=w.ao.take k++[m]:=by
    obtain⟨ad,he⟩:=ag5.1 hx;rw[ajq ad,he]
   have O:=ag4 hx;have H:FF (k*25) ((w.ao.take k).flatMap (lQ w.au)):=⟨(sz k).1,(sz k).2⟩;refine⟨_,?_,rfl⟩;simp only[oE];rw[if_pos (by simpa using hk),ck hx,aih,Qi X.given (Y.mill m O).1 (X.fit m O) H (by omega),aih,cn (by omega),ab,List.flatMap_append];simp
  ·rintro _ rfl;refine⟨_,?_,rfl⟩;simp only[oE];rw[if_neg (by simp),aiL];rfl
 ·have:=sz w.ao.length;rw[aiL]at this;exact⟨by have:=this.1;unfold rS;omega,this.2⟩
theorem X4 {N:Nat} {L:List z6} (H:Wt N L):(L.foldl jq []).length<=N*N:=by
 have h:=Jb H;have:=congrArg List.length h;rw[mo,ag6,ag6,D7]at this;have:=PE N (kg L);omega
def YC (w:bP) (L:List z6):fP:=yM w.au.length (iP w.au.length (kg L))
theorem of_eq {w:bP} (O:Bi w):tW w=some (match JS w with|some r=>(fP.mk 0 [],r.1)|none=>(YC w (rS w),0)):=by
 have U:=O.given;unfold tW;rw[LJ O,aih];cases he:JS w with
 | some r =>
  have:=Tg he;rw[if_pos (by simpa using this)];rfl
 | none =>
  have X:=abU he;obtain⟨h1,_⟩:=Eo O X;have Y:=acP O X;have hlen:=X4 Y;have Z:w.au.length*w.au.length<=6*6:=Nat.mul_le_mul U U;rw[if_neg (by simp),h1,aih,if_neg (by rw[decide_eq_true_eq,D7];omega)];unfold BX;rw[if_pos ⟨by rw[D7];omega,by rw[VH];exact wB _ _ (by simp)⟩,Jb Y];rfl
theorem VW {a b:Rat} (h:LF a<=eO):lI (e9 a) (e9 b)=some (decide (a=b)):=by
 have:=JE h;rw[aet (by unfold Fit eO at *;omega) (by unfold Fit eO at *;omega)];congr 1
 by_cases hab:a=b
 ·rw[hab,decide_eq_true rfl,decide_eq_true rfl]
 ·rw[decide_eq_false (fun h=>hab (u9 h)),decide_eq_false hab]
theorem Oh {α ρ:Type} : ∀(l:List α) (i:Nat),dR (fun _ _=>(none:Option ρ)) i l=none
 | [],_=>rfl
 | _::l,i=>by simp only[dR];exact Oh l _
theorem TO {N:Nat} {L:List z6} (O:N<=6) (H:FF 125 L):(iP N (kg L)).length<=36∧∀t∈iP N (kg L),LF t.2.2<=2700:=by
 have h1:=PE N (kg L);have h2:N*N<=6*6:=Nat.mul_le_mul O O;refine⟨by omega,fun t U =>?_⟩;obtain⟨_,_,_,h4⟩:=yc.1 U;rw[h4];unfold kg;have h5:=Ju (k:=((t.1:Int),(t.2.1:Int))) H.sz;have h6:=ahp 21 H.len;omega
def vH (q:Nat) (l:List fA):Int:=l.foldl (fun x u=>x+if u.bU=(q:Int) then u.aF else 0) 0
theorem oC {α:Type} (f:α->Int):∀(l:List α) (x:Int),l.foldl (fun x u=>x+f u) x=x+l.foldl (fun x u=>x+f u) 0
 | [],x=>by simp
 | a::l,x=>by rw[ahq,ahq,oC f l (x+f a),oC f l (0+f a)];omega
theorem PL {q:Nat} : ∀ {l:List fA} {x:Int},(0<=x∧x<=1099511627777)->(∀u∈l,1<=u.aF∧u.aF<=1099511627776)->lf q l x=min 1099511627777 (x+vH q l)∧0<=vH q l
 | [],x,U,_=>by simp only[lf,vH,List.foldl_nil];omega
 | u::l,x,U,h=>by
  have h1:=h u (aid ..);have O:=Fx (q:=q) U h1;obtain⟨h2,h3⟩:=PL (q:=q) (l:=l) (x:=Gc q x u) O fun v Y=>h v (aie _ Y);have e:vH q (u::l)=(if u.bU=(q:Int) then u.aF else 0)+vH q l:=by
   unfold vH;rw[ahq,oC (fun u:fA=>if u.bU=(q:Int) then u.aF else 0)];omega
  have Z:lf q (u::l) x=lf q l (Gc q x u):=rfl;rw[Z,h2,e];unfold Gc at O ⊢
  by_cases X:u.bU=(q:Int)
  ·simp only[X,if_true]at O ⊢;split<;>omega
  ·simp only[X,if_false]at O ⊢;omega
def sX (q:Nat) (ms:List bE):Int:=ms.foldl (fun x m=>x+vH q m.aK) 0
theorem abr {q:Nat} {ms:List bE} (h:∀m∈ms,∀u∈m.aK,1<=u.aF∧u.aF<=1099511627776):P0 ms q=min 1099511627777 (sX q ms)∧0<=sX q ms:=by
 have key:∀(ms:List bE) (x:Int),(0<=x∧x<=1099511627777)->(∀m∈ms,∀u∈m.aK,1<=u.aF∧u.aF<=1099511627776)->ms.foldl (fun x m=>lf q m.aK x) x=min 1099511627777 (x+sX q ms)∧0<=sX q ms:=by
  intro ms
  induction ms with
  | nil=>intro x O _;simp only[List.foldl_nil,sX];omega
  | cons m ms U =>
   intro x O h;obtain⟨X,a2⟩:=PL (q:=q) O (h m (aid ..));obtain⟨Y,Z⟩:=U (lf q m.aK x) (qq O (h m (aid ..))) fun m hm=>h m (aie _ hm);have e:sX q (m::ms)=vH q m.aK+sX q ms:=by
    unfold sX;rw[ahq,oC (fun m:bE=>vH q m.aK)];omega
   rw[ahq,Y,X,e];omega
 have:=key ms 0 (by omega) h;unfold P0;rw[this.1];exact⟨by omega,this.2⟩
section
variable {α β:Type}
def bl:List α->(α->Rat)->Rat
 | [],_=>0
 | a::l,f=>f a+bl l f
theorem jE (f:α->Rat) (b:List α):∀a:List α,bl (a++b) f=bl a f+bl b f
 | []=>by simp only[List.nil_append,bl];grind
 | x::a=>by simp only[List.cons_append,bl,jE f b a];grind
theorem V9 {f:α->Rat} {a b:List α} (h:a.Perm b):bl a f=bl b f:=by
 induction h with
 | nil=>rfl
 | cons x _ O=>simp only[bl];rw[O]
 | swap x y l=>simp only[bl];grind
 | trans _ _ h1 h2=>exact h1.trans h2
theorem cm {f g:α->Rat} : ∀ {l:List α},(∀a∈l,f a=g a)->bl l f=bl l g
 | [],_=>rfl
 | a::l,h=>by
  simp only[bl];rw[h a (aid ..),cm fun x O=>h x (aie _ O)]
theorem Fi (f g:α->Rat):∀l:List α,bl l (fun a=>f a+g a)=bl l f+bl l g
 | []=>by simp only[bl];grind
 | a::l=>by simp only[bl,Fi f g l];grind
theorem uo (f g:α->Rat):∀l:List α,bl l (fun a=>f a-g a)=bl l f-bl l g
 | []=>by simp only[bl];grind
 | a::l=>by simp only[bl,uo f g l];grind
theorem iB:∀l:List α,bl l (fun _=>0)=0
 | []=>rfl
 | a::l=>by simp only[bl,iB l];grind
theorem um (c:Rat) (f:α->Rat):∀l:List α,bl l (fun a=>c*f a)=c*bl l f
 | []=>by simp only[bl];grind
 | a::l=>by simp only[bl,um c f l];grind
theorem Ux {f g:α->Rat} : ∀ {l:List α},(∀a∈l,f a<=g a)->bl l f<=bl l g
 | [],_=>by simp only[bl];grind
 | a::l,h=>by
  have h1:=h a (aid ..);have h2:=Ux (l:=l) fun x O=>h x (aie _ O);simp only[bl];grind
theorem yA (h:β->α) (f:α->Rat):∀l:List β,bl (l.map h) f=bl l fun a=>f (h a)
 | []=>rfl
 | a::l=>by simp only[agI,bl,yA h f l]
theorem rl (h:β->List α) (f:α->Rat):∀l:List β,bl (l.flatMap h) f=bl l fun a=>bl (h a) f
 | []=>rfl
 | a::l=>by rw[aic,jE];simp only[bl,rl h f l]
theorem uk (p:α->Bool) (f:α->Rat):∀l:List α,bl (l.filter p) f=bl l fun a=>if p a=true then f a else 0
 | []=>rfl
 | a::l=>by
  rw[List.filter_cons];have O:=uk p f l;split
  ·rename_i h;simp only[bl,O,h,if_true]
  ·rename_i h;simp only[bl,O,h,if_false];grind
theorem zU (f:α->β->Rat) (m:List β):∀l:List α,bl l (fun a=>bl m (f a))=bl m fun b=>bl l fun a=>f a b
 | []=>by simp only[bl];exact (iB m).symm
 | a::l=>by simp only[bl,zU f m l];rw[<- Fi]
theorem Zu {N p:Nat} (U:N<=p) (F:Nat->Rat):bl (List.range N) (fun a=>if a=p then F a else 0)=0:=by
 rw[cm (g:=fun _=>0) fun a O=>if_neg (by have:=ain.1 O;omega),iB]
theorem xh {N p:Nat} (U:p<N) (F:Nat->Rat):bl (List.range N) (fun a=>if a=p then F a else 0)=F p:=by
 induction N with
 | zero=>omega
 | succ N O =>
  rw[aju,jE];simp only[bl]
  by_cases h:p=N
  ·subst h;rw[Zu (agC _),if_pos rfl];grind
  ·rw[O (by omega),if_neg (fun e=>h e.symm)];grind
theorem xi (l:List α) (f:α->Rat):bl (List.range l.length) (fun i=>(l[i]?).elim 0 f)=bl l f:=by
 have key:∀l:List α,bl (List.range l.reverse.length) (fun i=>(l.reverse[i]?).elim 0 f)=bl l.reverse f:=by
  intro l
  induction l with
  | nil=>rfl
  | cons a l O =>
   rw[List.reverse_cons,ahO,List.length_singleton,aju,jE,jE];congr 1
   ·rw[<- O];exact cm fun i U=>by rw[ahg (ain.1 U)]
   ·simp only[bl];rw[ahh (agC _)];simp
 have:=key l.reverse
 rwa [List.reverse_reverse]at this
theorem B8 {f:α->Rat} {l:List α} (h:∀a∈l,0<=f a):0<=bl l f:=by
 rw[<- iB l];exact Ux h
theorem Jt {K:Nat} {f:α->Rat} : ∀ {l:List α},(∀a∈l,LF (f a)<=K)->LF (bl l f)<=1+l.length*(K+1)
 | [],_=>by simp only[bl];have:=uO;omega
 | a::l,h=>by
  have h1:=h a (aid ..);have h2:=Jt (l:=l) fun x O=>h x (aie _ O);have h3:=s4 (f a) (bl l f);simp only[bl,List.length_cons];rw[ahB];omega
end
theorem Uy (k:Int×Int):∀L:List z6,nw k L=bl L fun c=>if k=c.1 then c.2 else 0
 | []=>rfl
 | c::L=>by simp only[nw,bl,Uy k L]
theorem T1 (p:Nat):∀tk:List Tk,yo tk p=bl tk fun t=>if t.1=p then t.2.2 else 0
 | []=>rfl
 | t::tk=>by simp only[yo,bl,T1 p tk]
theorem Uz {α:Type} (f:α->Rat):∀l:List α,lj (l.map f)=bl l f
 | []=>rfl
 | a::l=>by simp only[agI,lj,bl,Uz f l]
theorem VQ {N p:Nat} {S:Nat->Nat->Rat} (U:p<N) (X:∀b,0<=S p b):yo (iP N S) p=bl (List.range N) (S p):=by
 rw[T1];unfold iP;rw[rl,cm (g:=fun a=>if a=p then bl (List.range N) (S a) else 0) fun a _ =>?_,xh U fun a=>bl (List.range N) (S a)];rw[yA,uk]
 by_cases h:a=p
 ·subst h;rw[if_pos rfl];refine cm fun b _ =>?_;have:=X b
  by_cases O:0<S a b
  ·simp[O]
  ·simp only[O];have:S a b=0:=by grind
   rw[this];simp
 ·rw[if_neg h];refine Eq.trans (cm (g:=fun _=>0) fun b _ =>?_) (iB _);simp[h]
def vX (p:Nat) (L:List z6):Rat:=bl L fun c=>if c.1.1=(p:Int) then c.2 else 0
theorem Zv {N p:Nat} {L:List z6} (H:Wt N L):bl (List.range N) (kg L p)=vX p L:=by
 refine Eq.trans (cm (l:=List.range N) (g:=fun b:Nat=>bl L fun c=>if ((p:Int),(b:Int))=c.1 then c.2 else 0) fun b _=>by unfold kg;exact Uy _ _) ?_;rw[zU];unfold vX;refine cm fun c U =>?_;obtain⟨h1,h2⟩:=H.to_ c U;obtain⟨j,O⟩:∃j:Nat,c.1.2=j:=⟨c.1.2.toNat,by omega⟩
 by_cases hp:c.1.1=(p:Int)
 ·rw[if_pos hp,cm (g:=fun b=>if b=j then c.2 else 0) fun b _ =>?_,xh (by omega) fun _=>c.2]
  by_cases hb:b=j
  ·rw[if_pos hb,if_pos (Prod.ext hp.symm (by simp only;omega))]
  ·rw[if_neg hb,if_neg (fun e=>hb (by rw[<- e]at O;simp only at O;omega))]
 ·rw[if_neg hp];exact Eq.trans (cm (g:=fun _=>0) fun b _=>if_neg (fun e=>hp (by rw[<- e]))) (iB _)
theorem HX {N p:Nat} {L:List z6} (H:Wt N L) (O:p<N):iG (iP N (kg L)) p=1-vX p L:=by
 unfold iG;rw[VQ O fun b=>(yB H.pos).1,Zv H]
def gk (m:bE) (k:Nat):Bool:=match m.ak.aJ[k]? with|some y=>y.bf==0|none=>false
def gv (m:bE) (i:Nat):Rat:=bl (List.range m.ak.aJ.length) fun k=>if gk m k=true then A6 m.ak k i else 0
def ls (m:bE) (i:Nat):Rat:=bl (List.range m.ak.aJ.length) fun k=>if gk m k=true then 0 else A6 m.ak k i
theorem abV {m:bE} {i:Nat} (O:kd m.ak) (U:z7 m.ak) (X:i<m.ak.ah.length):gv m i+ls m i=1∧0<=gv m i∧0<=ls m i:=by
 have Y:∀k∈List.range m.ak.aJ.length,0<=A6 m.ak k i:=fun k hk=>by
  obtain⟨_,_,_,h,_⟩:=pG O U (ain.1 hk) X;exact h
 refine⟨?_,B8 fun k hk =>?_,B8 fun k hk =>?_⟩
 ·have h1:=V0 O U X;rw[Uz]at h1;rw[<- h1];unfold gv ls;rw[<- Fi];exact cm fun k _=>by split<;>grind
 ·have:=Y k hk;split<;>grind
 ·have:=Y k hk;split<;>grind
def ur (m:bE) (i:Nat) (F:fA->Rat):Rat:=(m.ak.ah[i]?).elim 0 fun x=>if x.bf=1 then F (ou m x.aQ) else 0
def kX (p:Nat) (u:fA) (q:Rat):Rat:=if u.bU=(p:Int) then q else 0
theorem Vn (g:List Int) (m:bE) (p:Nat):vX p (lQ g m)=bl (List.range m.ak.ah.length) fun i=>ur m i fun u=>kX p u (U4 g u*gv m i):=by
 unfold vX lQ;rw[rl];refine cm fun i _ =>?_;unfold Bl ur;cases U:m.ak.ah[i]? with
 | none=>rfl
 | some x =>
  simp only[Option.elim_some]
  by_cases h1:x.bf=1
  ·rw[if_pos h1,if_pos h1,rl];generalize ou m x.aQ=u;have hk:∀k,bl (vC m i u (U4 g u) k) (fun c=>if c.1.1=(p:Int) then c.2 else 0)=kX p u (U4 g u*if gk m k=true then A6 m.ak k i else 0):=by
    intro k;unfold vC gk kX;cases m.ak.aJ[k]? with
    | none=>show bl [] _=_;simp[bl]
    | some y =>
     simp only
     by_cases h0:y.bf=0
     ·by_cases O:A6 m.ak k i=0
      ·rw[if_neg (fun h=>h.2 O),O];show (0:Rat)=_;split<;>simp
      ·rw[if_pos ⟨h0,O⟩];simp only[bl,h0]
       by_cases hu:u.bU=(p:Int)<;>simp only[hu,if_true,if_false,beq_self_eq_true]<;>grind
     ·rw[if_neg (fun h=>h0 h.1)];show (0:Rat)=_;split<;>simp[h0]
   rw[cm fun k _=>hk k];unfold kX gv;split
   ·rw[um]
   ·exact iB _
  ·rw[if_neg h1,if_neg h1];rfl
theorem aab {m:bE} {N:Nat} (O:pM m N) (F:fA->Rat):bl (List.range m.ak.ah.length) (fun i=>ur m i F)=bl m.aK F:=by
 unfold ur;refine Eq.trans (xi m.ak.ah fun x=>if x.bf=1 then F (ou m x.aQ) else 0) ?_;rw[cm (g:=fun x=>if (x.bf==1)=true then F (ou m x.aQ) else 0) fun x _=>by simp only[beq_iff_eq],<- uk (fun x:fI=>x.bf==1) fun x=>F (ou m x.aQ)];rw[<- yA (fun x:fI=>x.aQ) fun n=>F (ou m n),V9 O.takes];unfold yF;rw[yA];refine Eq.trans (cm fun j U =>?_) (xi m.aK F);unfold ou;rw[ahE,ahf,agP (ain.1 U)];rfl
theorem X6 (w:bP) (p:Nat):vX p (rS w)=bl w.ao fun m=>vX p (lQ w.au m):=by
 unfold rS vX;exact rl ..
def aaa (p:Nat) (m:bE):Rat:=bl m.aK fun u=>kX p u (u.aF:Rat)
theorem UA (p:Nat):∀l:List fA,bl l (fun u=>kX p u (u.aF:Rat))=((vH p l:Int):Rat)
 | []=>by simp[bl,vH]
 | u::l=>by
  have e:vH p (u::l)=(if u.bU=(p:Int) then u.aF else 0)+vH p l:=by
   unfold vH;rw[ahq,oC (fun u:fA=>if u.bU=(p:Int) then u.aF else 0)];omega
  simp only[bl];rw[UA p l,e,Rat.intCast_add];congr 1;unfold kX;split<;>simp
theorem Fj (p:Nat):∀ms:List bE,bl ms (aaa p)=((sX p ms:Int):Rat)
 | []=>by simp[bl,sX]
 | m::ms=>by
  have e:sX p (m::ms)=vH p m.aK+sX p ms:=by
   unfold sX;rw[ahq,oC (fun m:bE=>vH p m.aK)];omega
  simp only[bl];rw[Fj p ms,e,Rat.intCast_add];congr 1;exact UA p _
theorem adV {g:List Int} {p:Nat} {u:fA} (h:u.bU=(p:Int)) (O:1<=g.getD p 0):U4 g u*((g.getD p 0:Int):Rat)=(u.aF:Rat):=by
 unfold U4;rw[h,ahE,Rat.divInt_eq_div];have:((g.getD p 0:Int):Rat)≠0:=by exact_mod_cast (show g.getD p 0≠0 by omega)
 rw[Rat.div_mul_cancel this]
theorem Dy {w:bP} (Y:Bi w) (O:vL w) {p:Nat} (U:p<w.au.length) :
  vX p (rS w)*((w.au.getD p 0:Int):Rat)=((sX p w.ao:Int):Rat)-bl w.ao fun m=>bl (List.range m.ak.ah.length) fun i=>ur m i fun u=>kX p u ((u.aF:Rat)*ls m i):=by
 have Z:=O.given (w.au.getD p 0) (by rw[ahf,agP U];exact agO U);rw[X6,Rat.mul_comm,<- um,<- Fj,<- uo];refine cm fun m hm =>?_;have hF:=(Y.mill m hm).1;have X:=O.fit m hm;rw[Vn,<- um];unfold aaa;rw[<- aab X,<- uo];refine cm fun i hi =>?_;obtain⟨h1,_,_⟩:=abV hF X.flow (ain.1 hi);unfold ur;cases m.ak.ah[i]? with
 | none=>simp only[Option.elim_none];grind
 | some x =>
  simp only[Option.elim_some];split
  ·unfold kX;split
   ·rename_i hu;have:=adV hu Z.1;grind
   ·grind
  ·grind
theorem RZ {w:bP} (O:vL w) {p:Nat} (U:p<w.au.length):0<=sX p w.ao∧sX p w.ao<=w.au.getD p 0:=by
 have X:=O.given (w.au.getD p 0) (by rw[ahf,agP U];exact agO U);have h1:=O.used p U;have h2:=abr (q:=p) (ms:=w.ao) fun m hm u hu=>((O.fit m hm).uses u hu).2;rw[h2.1]at h1;exact⟨h2.2,by omega⟩
theorem aaV {w:bP} (U:Bi w) (X:vL w) (p:Nat):0<=bl w.ao fun m=>bl (List.range m.ak.ah.length) fun i=>ur m i fun u=>kX p u ((u.aF:Rat)*ls m i):=by
 refine B8 fun m hm=>B8 fun i Y =>?_;have O:=X.fit m hm;obtain⟨_,_,h1⟩:=abV (U.mill m hm).1 O.flow (ain.1 Y);unfold ur;cases Z:m.ak.ah[i]? with
 | none=>simp
 | some x =>
  simp only[Option.elim_some];split
  ·rename_i hk;have hu:=(O.uses _ (KN O (ag4 Z) hk).2).2;unfold kX;split
   ·exact Rat.mul_nonneg (by exact_mod_cast (show (0:Int)<=(ou m x.aQ).aF by omega)) h1
   ·simp
  ·simp
theorem aaT {w:bP} (X:Bi w) (O:vL w) {p:Nat} (U:p<w.au.length):vX p (rS w)<=1:=by
 have Y:=O.given (w.au.getD p 0) (by rw[ahf,agP U];exact agO U);have h1:=Dy X O U;have h2:=aaV X O p;have h3:((sX p w.ao:Int):Rat)<=((w.au.getD p 0:Int):Rat):=by exact_mod_cast (RZ O U).2
 have h4:(0:Rat)<((w.au.getD p 0:Int):Rat):=by exact_mod_cast (show (0:Int)<w.au.getD p 0 by omega)
 refine Rat.le_of_mul_le_mul_right ?_ h4;rw[h1];grind
theorem Q6 {w:bP} (O:Bi w) (U:vL w):Qa w.au.length (iP w.au.length (kg (rS w))) where
 ports:=by have:=O.given;omega
 takes:=by have:=(TO O.given (Eo O U).2).1;omega
 ok t Y:=by
  obtain⟨h1,h2,h3,h4⟩:=yc.1 Y;exact⟨h1,h2,by rw[h4];exact h3⟩
 sorted:=KL _ _
 leak p X:=by
  rw[HX (acP O U) X];have:=aaT O U X;grind
section
variable {w:bP} {p:Nat} {d:Int}
end
def zP (q:Rat):Int×List Int×Int×List Int:=((e9 q).cu.aj,(e9 q).cu.aa,(e9 q).ct.aj,(e9 q).ct.aa)
theorem zT (f:Nat->Rat) (n:Nat):bl (List.range (n+1)) f=bl (List.range n) f+f n:=by
 rw[aju,jE];simp only[bl];grind
theorem KY {n:Int} (O:0<=n) (h1:n<=1099511627776):LF (n:Rat)<=3:=by
 unfold LF;rw[Rat.num_intCast,Rat.den_intCast];have h2:=Cg (x:=((1:Nat):Int)) (by decide)
 by_cases h:n=0
 ·subst h;rw[aar];omega
 ·have:=acD (x:=n) (by omega) h1;omega
theorem s5 {K n:Nat} {f:Nat->Rat} (h:∀i,i<n->LF (f i)<=K):LF (bl (List.range n) f)<=1+n*(K+1):=by
 have:=Jt (f:=f) (l:=List.range n) fun a O=>h a (ain.1 O)
 rwa [ag7]at this
section
variable {m:bE} {N:Nat}
def EM (m:bE) (a:Rat) (i j:Nat):Rat:=if gk m j=true then 0 else A6 m.ak j i*a
theorem ON (m:bE) (a:Rat) (i:Nat):bl (List.range m.ak.aJ.length) (EM m a i)=a*ls m i:=by
 unfold ls;rw[<- um];refine cm fun j _ =>?_;unfold EM;split<;>grind
theorem Kl (O:kd m.ak) (U:z7 m.ak) {a:Rat} (Z:LF a<=3) {i j:Nat} (X:i<m.ak.ah.length) (Y:j<m.ak.aJ.length):LF (EM m a i j)<=7:=by
 unfold EM;split
 ·have:=uO;omega
 ·obtain⟨_,_,_,_,h4⟩:=pG O U Y X;have:=Ce (A6 m.ak j i) a;omega
theorem Q3 (X:kd m.ak) (Y:pM m N) {k i:Nat} {u:fA} (hu:m.aK[k]? = some u) (hi:i<m.ak.ah.length) {A:Rat} (hA:LF A<=100000) :
  aS (kQ m (k:Int) (i:Int)) ((0:Int),zP A)=some (zP (A+u.aF*ls m i)):=by
 have ae:eO=4398046511104:=rfl;have ho:=X.outs;obtain⟨u1,u2⟩:=Y.uses u (ag4 hu);have ha:LF (u.aF:Rat)<=3:=KY (by omega) u2.2;have key:=fun aa O=>xT (body:=kQ m (k:Int) (i:Int)) m.ak.aJ (by omega) (fun j (s:Int×List Int×Int×List Int)=>s=zP (A+bl (List.range j) (EM m u.aF i))) (fun s=>s=zP (A+u.aF*ls m i)) (s0:=zP A) (by simp only[List.range_zero,bl];congr 1;grind) aa O;refine (key ?_ ?_).elim fun x ⟨h1,hx⟩=>hx ▸ h1
 ·rintro j y _ hy rfl;have hj:=bD hy;have hz:=s5 (n:=j) (f:=EM m u.aF i) fun j' ag=>Kl X Y.flow ha hi (show j'<m.ak.aJ.length by omega);have ai:=Kl X Y.flow ha hi hj;have ad:=s4 A (bl (List.range j) (EM m u.aF i));have ab:gk m j=(y.bf==0):=by unfold gk;rw[hy]
  refine⟨_,?_,rfl⟩;unfold zP;simp only[kQ];rw[if_pos (by simpa using hj),ck hy,aih,cn (by omega),zT];have U:EM m u.aF i j=if (y.bf==0)=true then 0 else A6 m.ak j i*u.aF:=by unfold EM;rw[ab]
  generalize bl (List.range j) (EM m u.aF i)=B at *
  by_cases Z:y.bf=0
  ·rw[if_neg (by simp[Z]),U,if_pos (by simpa using Z),show B+0=B by grind]
  ·obtain⟨row,r1,r2,r3,r4⟩:=pG X Y.flow hj hi;have aj:=Ce (A6 m.ak j i) (u.aF:Rat);rw[if_pos (by simpa using Z),U,if_neg (by simpa using Z),ck r1,aih,ck r2,aih,ck hu,aih,aaq (by omega),aih,WA (by omega),aih];erw [Sb (by omega)];rw[aih,show A+(B+A6 m.ak j i*u.aF)=A+B+A6 m.ak j i*u.aF by grind]
 ·rintro _ rfl;refine⟨_,?_,rfl⟩;rw[ON];unfold zP;simp only[kQ];rw[if_neg (by simp)]
def sL (m:bE) (k i:Nat):Rat:=(m.ak.ah[i]?).elim 0 fun x=>if x.bf=1∧x.aQ=(k:Int) then ((m.aK.getD k (fA.mk 0 0)).aF:Rat)*ls m i else 0
def vZ (m:bE) (k:Nat):Rat:=bl (List.range m.ak.ah.length) (sL m k)
theorem Yq (O:kd m.ak) (U:pM m N) {k i:Nat} {u:fA} (hu:m.aK[k]? = some u) (X:i<m.ak.ah.length):LF (sL m k i)<=41:=by
 have ho:=O.outs;obtain⟨u1,Y⟩:=U.uses u (ag4 hu);unfold sL;rw[agP X,Option.elim_some];split
 ·rw[ahf,hu,aht,<- ON];have:=s5 (n:=m.ak.aJ.length) (f:=EM m u.aF i) fun j Z=>Kl O U.flow (KY (n:=u.aF) (by omega) Y.2) X Z;omega
 ·have:=uO;omega
theorem TH (Y:kd m.ak) (hQ:pM m N) {k:Nat} {u:fA} (hu:m.aK[k]? = some u):qV m (k:Int)=some (e9 (vZ m k))∧LF (vZ m k)<=211:=by
 have hs:=Y.srcs;have hz:∀n,n<=m.ak.ah.length->LF (bl (List.range n) (sL m k))<=1+n*42:=fun n hn=>s5 fun i Z=>Yq Y hQ hu (by omega);refine⟨?_,by have:=hz _ (agC _);unfold vZ;omega⟩;have key:=fun aa U=>xT (body:=mW m (k:Int)) m.ak.ah (by omega) (fun i (s:Int×List Int×Int×List Int)=>s=zP (bl (List.range i) (sL m k))) (fun s=>s=zP (vZ m k)) (s0:=zP 0) rfl aa U;unfold qV;rw[aaq (by decide),aih];refine (key ?_ ?_).elim fun x O =>?_
 ·rintro i x _ O rfl;have Z:=bD O;have ab:=hz i (by omega);have hl:sL m k i=if x.bf=1∧x.aQ=(k:Int) then (u.aF:Rat)*ls m i else 0:=by
   unfold sL;rw[O,Option.elim_some,ahf,hu,aht]
  refine⟨_,?_,rfl⟩;rw[zT,hl];generalize bl (List.range i) (sL m k)=B at *;have X:=Q3 Y hQ hu Z (A:=B) (by omega);unfold zP at X ⊢;simp only[mW];rw[if_pos (by simpa using Z),ck O,aih,cn (by omega)]
  by_cases h1:x.bf=1
  ·rw[if_neg (by simp[h1]),aih]
   by_cases h2:x.aQ=(k:Int)
   ·rw[if_neg (by simp[h2]),if_pos ⟨h1,h2⟩,X];rfl
   ·rw[if_pos (by simpa using h2),if_neg (fun h=>h2 h.2),show B+0=B by grind]
  ·rw[if_pos (by simpa using h1),aih,if_pos rfl,if_neg (fun h=>h1 h.1),show B+0=B by grind]
 ·rintro _ rfl;refine⟨_,?_,rfl⟩;unfold zP;simp only[mW];rw[if_neg (by simp)];rfl
 ·erw [O.1];rw[O.2];rfl
def pJ (m:bE) (p k:Nat):Rat:=(m.aK[k]?).elim 0 fun u=>if u.bU=(p:Int) then vZ m k-u.aF else 0
theorem UM (U:kd m.ak) (O:pM m N) (p:Nat) {k:Nat} (hk:k<m.aK.length):LF (pJ m p k)<=215:=by
 have hu:m.aK[k]? = some (m.aK[k]):=agP hk;obtain⟨Y,X⟩:=O.uses _ (ag4 hu);unfold pJ;rw[hu,Option.elim_some];split
 ·have h1:=P5 (vZ m k) (m.aK[k].aF:Rat);have h2:=(TH U O hu).2;have h3:=KY (n:=m.aK[k].aF) (by omega) X.2;omega
 ·have:=uO;omega
theorem R5 (Z:kd m.ak) (U:pM m N) (h6:m.aK.length<=6) (p:Nat) {A:Rat} (hA:LF A<=100000) :
  aS (gE (p:Int) m) ((0:Int),zP A)=some (zP (A+bl (List.range m.aK.length) (pJ m p))):=by
 have ad:eO=4398046511104:=rfl;have key:=fun X O=>xT (body:=gE (p:Int) m) m.aK (by omega) (fun k (s:Int×List Int×Int×List Int)=>s=zP (A+bl (List.range k) (pJ m p))) (fun s=>s=zP (A+bl (List.range m.aK.length) (pJ m p))) (s0:=zP A) (by simp only[List.range_zero,bl];congr 1;grind) X O;refine (key ?_ ?_).elim fun x ⟨h1,hx⟩=>hx ▸ h1
 ·rintro k u _ hu rfl;have hk:=bD hu;obtain⟨u1,u2⟩:=U.uses _ (ag4 hu);have hz:=s5 (n:=k) (f:=pJ m p) fun j hj=>UM Z U p (show j<m.aK.length by omega);obtain⟨l1,l2⟩:=TH Z U hu;have ha:=KY (n:=u.aF) (by omega) u2.2;have Y:pJ m p k=if u.bU=(p:Int) then vZ m k-u.aF else 0:=by unfold pJ;rw[hu,Option.elim_some]
  refine⟨_,?_,rfl⟩;rw[zT,Y];generalize bl (List.range k) (pJ m p)=B at *;have aa:=s4 A B;have ab:=P5 (A+B) (u.aF:Rat);unfold zP;simp only[gE];rw[if_pos (by simpa using hk),ck hu,aih,cn (by omega)]
  by_cases h1:u.bU=(p:Int)
  ·rw[if_pos (by simpa using h1),if_pos h1,aaq (by omega),aih];erw [abH (by omega)];rw[aih,l1,aih];erw [Sb (by omega)];rw[aih,show A+(B+(vZ m k-u.aF))=A+B-u.aF+vZ m k by grind]
  ·rw[if_neg (by simpa using h1),if_neg h1,show B+0=B by grind]
 ·rintro _ rfl;refine⟨_,?_,rfl⟩;unfold zP;simp only[gE];rw[if_neg (by simp)]
theorem VF (Y:pM m N) (p:Nat):bl (List.range m.aK.length) (pJ m p)=(bl (List.range m.ak.ah.length) fun i=>ur m i fun u=>kX p u ((u.aF:Rat)*ls m i))-aaa p m:=by
 have h1:bl (List.range m.aK.length) (pJ m p)=(bl (List.range m.aK.length) fun k=>bl (List.range m.ak.ah.length) fun i=>(m.aK[k]?).elim 0 fun u=>kX p u (sL m k i))-aaa p m:=by
  unfold aaa;rw[<- xi m.aK,<- uo];refine cm fun k _ =>?_;unfold pJ;cases m.aK[k]? with
  | none =>
   simp only[Option.elim_none];rw[iB];grind
  | some u =>
   simp only[Option.elim_some];unfold kX;split
   ·unfold vZ;rfl
   ·rw[iB];grind
 rw[h1,zU];congr 1;refine cm fun i Z =>?_;unfold ur;cases O:m.ak.ah[i]? with
 | none =>
  simp only[Option.elim_none];refine Eq.trans (cm (g:=fun _=>0) fun k _ =>?_) (iB _);unfold sL kX;rw[O];cases m.aK[k]?<;>simp
 | some x =>
  simp only[Option.elim_some]
  by_cases hk:x.bf=1
  ·obtain⟨j,U,X⟩:=PB Y (ag4 O) hk;rw[if_pos hk];have hu:m.aK[j]? = some (ou m x.aQ):=by unfold ou;rw[U,ahE,ahf,agP X];rfl
   refine Eq.trans (cm (g:=fun k=>if k=j then (m.aK[k]?).elim 0 fun u=>kX p u ((u.aF:Rat)*ls m i) else 0) fun k _ =>?_) ?_
   ·unfold sL;rw[O,Option.elim_some]
    by_cases hkj:k=j
    ·subst hkj;rw[if_pos rfl,if_pos ⟨hk,U⟩,ahf,hu];rfl
    ·rw[if_neg hkj,if_neg (fun h=>hkj (by have:=h.2;omega))];unfold kX;cases m.aK[k]?<;>simp
   ·rw[xh X fun k=>(m.aK[k]?).elim 0 fun u=>kX p u ((u.aF:Rat)*ls m i),hu];rfl
  ·rw[if_neg hk];refine Eq.trans (cm (g:=fun _=>0) fun k _ =>?_) (iB _);unfold sL kX;rw[O,Option.elim_some,if_neg (fun h=>hk h.1)];cases m.aK[k]?<;>simp
end
section
variable {w:bP}
theorem PS (X:Bi w) (hG:vL w) (p:Nat) {A:Rat} (hA:LF A<=3) :
  aS (gD w (p:Int)) ((0:Int),zP A)=some (zP (A+bl w.ao fun m=>bl (List.range m.aK.length) (pJ m p))):=by
 have hm:=X.mills;have sz:∀m∈w.ao,LF (bl (List.range m.aK.length) (pJ m p))<=1300:=fun m hm=>by
  obtain⟨m1,m2,m3⟩:=X.mill m hm;have:=s5 (n:=m.aK.length) (f:=pJ m p) fun k hk=>UM m1 (hG.fit m hm) p hk;omega
 have key:=fun Y O=>xT (body:=gD w (p:Int)) w.ao (by omega) (fun k (s:Int×List Int×Int×List Int)=>s=zP (A+bl (w.ao.take k) fun m=>bl (List.range m.aK.length) (pJ m p))) (fun s=>s=zP (A+bl w.ao fun m=>bl (List.range m.aK.length) (pJ m p))) (s0:=zP A) (by simp only[List.take_zero,bl];congr 1;grind) Y O;refine (key ?_ ?_).elim fun x ⟨h1,hx⟩=>hx ▸ h1
 ·rintro k m _ hx rfl;have hk:=bD hx;obtain⟨m1,m2,m3⟩:=X.mill m (ag4 hx);have hQ:=hG.fit m (ag4 hx);have Z:w.ao.take (k+1)=w.ao.take k++[m]:=by
   obtain⟨aa,he⟩:=ag5.1 hx;rw[ajq aa,he]
  have hz:=Jt (K:=1300) (l:=w.ao.take k) fun m' ab=>sz m' (ahm ab);rw[agV]at hz;have hs:=jE (fun m=>bl (List.range m.aK.length) (pJ m p)) [m] (w.ao.take k);simp only[bl]at hs;refine⟨_,?_,rfl⟩;rw[Z,hs];generalize bl (w.ao.take k) (fun m=>bl (List.range m.aK.length) (pJ m p))=B at *;have ad:=s4 A B;have hB:LF B<=10000:=by
   have:min k w.ao.length<=5:=by omega
   have:=ahp 1301 this;omega
  have U:=R5 m1 hQ m2 p (A:=A+B) (by omega);unfold zP at U ⊢;simp only[gD];rw[if_pos (by simpa using hk),ck hx,aih,cn (by omega),U,show A+(B+(bl (List.range m.aK.length) (pJ m p)+0))=A+B+bl (List.range m.aK.length) (pJ m p) by grind];rfl
 ·rintro _ rfl;refine⟨_,?_,rfl⟩;rw[aiL];unfold zP;simp only[gD];rw[if_neg (by simp)]
theorem Wk (U:Bi w) (O:vL w) {p:Nat} (X:p<w.au.length):iG (iP w.au.length (kg (rS w))) p*((w.au.getD p 0:Int):Rat)=((w.au.getD p 0:Int):Rat)+bl w.ao fun m=>bl (List.range m.aK.length) (pJ m p):=by
 have h1:=Dy U O X;rw[HX (acP U O) X];have h2:(bl w.ao fun m=>bl (List.range m.aK.length) (pJ m p))=(bl w.ao fun m=>bl (List.range m.ak.ah.length) fun i=>ur m i fun u=>kX p u ((u.aF:Rat)*ls m i))-((sX p w.ao:Int):Rat):=by
  rw[<- Fj,<- uo];exact cm fun m hm=>VF (O.fit m hm) p
 rw[h2];grind
end
theorem K2 (a0:bP):iL a0=some true:=by
 have aj:eO=4398046511104:=rfl;obtain⟨b,e1,e2⟩:=X1 a0;unfold iL;rw[adp,aih,e1,aih];cases b with
 | false=>rfl
 | true =>
 have X:=e2 rfl;have hg:=X.given;simp only[ah7,ahc,if_false];rw[LJ X,aih,of_eq X,aih];cases hE:JS a0 with
 | some r =>
  have ab:=Tg hE;simp only[Option.getD_some];rw[if_pos (by simpa using ab)];simp
 | none =>
 have Y:=abU hE;have hR:=Q6 X Y;have O:=TO hg (Eo X Y).2;have ad:∀t∈(YC a0 (rS a0)).aN,t.e8.cu.aa.length<=2700∧t.e8.ct.aa.length<=2700:=by
  intro t ht;simp only[YC,yM,agB]at ht;obtain⟨x,h1,rfl⟩:=ht;exact JE (O.2 x h1)
 obtain⟨c,c1,c2⟩:=IE (by decide) ad;obtain rfl:c=true:=c2.2 ⟨_,_,rfl,hR⟩;simp only[Option.getD_none];rw[if_neg (by simp),if_neg (by simp),c1,aih,if_neg (by simp),aih,if_neg (by simp[YC,yM])];rw[pF a0.au (fun _ _=>(none:Option Bool)) (by omega) (fun p x hx =>?_) (by simp only[kv];rw[if_neg (by simp)])]
 ·rw[Oh];rfl
 ·have hp:=bD hx;have ae:=Y.given _ (ag4 hx);have ag:x=a0.au.getD p 0:=by rw[ahf,hx];rfl
  have ah:LF (x:Rat)<=3:=KY (by omega) ae.2;have ak:=KZ O.2 p;have al:=Ce (iG (iP a0.au.length (kg (rS a0))) p) (x:Rat);have hlen:=O.1;have an:LF (iG (iP a0.au.length (kg (rS a0))) p)<=100000:=by
   have:=ahp 2701 hlen;omega
  have U:=Wk X Y hp;rw[<- ag]at U;have ai:=PS X Y p (A:=(x:Rat)) ah;simp only[kv];rw[if_pos (by simpa using hp),ck hx,aih,aaq (by omega),aih];erw [ai];rw[aih];unfold zP;simp only;have Z:nd (YC a0 (rS a0)) (p:Int)=some (e9 (iG (iP a0.au.length (kg (rS a0))) p)):=ac3 hR (K:=2700) (by decide) O.2 hp;rw[Z,aih,WA (by omega),aih];simp only;erw [VW (by omega)];rw[decide_eq_true U,aih,if_neg (by simp),cn (by omega)]
end Go.Proofs.YtoioidmblipblaaGreat.P
