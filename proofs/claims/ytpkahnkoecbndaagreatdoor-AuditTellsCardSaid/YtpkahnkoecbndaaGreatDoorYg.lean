/- Part of a proof, made small by a program (wip/mini.py). -/
import Derived.Test.YtpkahnkoecbndaaGreatDoorYf
namespace Go.Proofs.YtpkahnkoecbndaaGreatDoor.P
open Go.RowKit
set_option linter.unusedSimpArgs false
set_option linter.unusedVariables false
theorem P3 {a b:List Int} (ha:Dg a) (hb:Dg b) (hf:a.length+b.length≤17592186044416):jv a b=some (aL (dv a*dv b).toNat):=by
 have key:∃l,aS (oz a b) (0,List.replicate (a.length+b.length) 0)=some l∧l.length=a.length+b.length∧Dg l∧dv l=dv a*dv b:=by
  refine eN (I:=fun i s=>s.1=(i:Int)∧s.2.length=a.length+b.length∧Dg s.2∧(∀j (hj:j<s.2.length),i+b.length≤j→s.2[j]=0)∧dv s.2=dv (a.take i)*dv b)
   a.length _ ⟨rfl,by simp,Dg.rep _,fun j hj _=>by simp,by simp[dv,Dn]⟩ (mR (by omega)) ?_
  rintro i ⟨s,l⟩ hi ⟨h1,hl,hd,hz,he⟩
  simp only at h1 hl hd hz he
  subst h1
  simp only[oz]
  by_cases hlt:i<a.length
  ·left
   obtain⟨m,g1,g2,g3,g4,g5⟩:=NT (i:=i) (n:=a.length+b.length) ha hb hlt hd hl (by omega) hf hz
   rw[if_pos (by simpa using hlt),g1,Option.bind_some]
   have e1:IntKind.i64.wrap ((i:Int)+1)=((i+1:Nat):Int):=by rw[iV (by omega)];omega
   refine⟨hlt,_,rfl,e1,g2,g3,fun j hj hij=>g4 j hj (by omega),?_⟩
   rw[g5,he,fl hlt,Int.add_mul,Int.mul_assoc]
  ·right
   have hia:i=a.length:=by omega
   subst hia
   refine⟨l,by rw[if_neg (by simp)],hl,hd,?_⟩
   rw[he,List.take_length]
 obtain⟨l,h1,h2,h3,h4⟩:=key
 unfold jv
 have e:IntKind.i64.wrap ((a.length:Int)+(b.length:Int))=((a.length+b.length:Nat):Int):=by rw[iV (by omega)];omega
 rw[e,Z2 hf,Option.bind_some,h1,Option.bind_some,ru,Sc (by unfold Fit;omega) h3,h4]
theorem Ha (l:List Int) (i:Nat):dv l=dv (l.take i)+pw i*dv (l.drop i):=by
 by_cases h:i≤l.length
 ·exact iE l h
 ·rw[List.take_of_length_le (by omega),List.drop_eq_nil_of_le (by omega)];simp[dv]
theorem xE (l:List Int) (i:Nat):dv (l.drop i)=gd l i+1048576*dv (l.drop (i+1)):=by
 by_cases h:i<l.length
 ·rw[jq h,Ra h]
 ·rw[List.drop_eq_nil_of_le (by omega),List.drop_eq_nil_of_le (by omega),Lu (by omega)];simp[dv]
theorem Dp {l:List Int} (h:Dg l) (i:Nat):0≤dv (l.take i)∧dv (l.take i)<pw i:=by
 have h1:=oP (h.take i)
 have h2:=v7 (show (l.take i).length≤i by rw[List.length_take];omega)
 exact⟨cK (h.take i),by omega⟩
theorem UD {a b:List Int} (ha:Dg a) (hb:Dg b) {k:Nat} (he:dv (a.drop (k+1))=dv (b.drop (k+1))) (hlt:gd a k<gd b k):dv a<dv b:=by
 have ea:=Ha a k
 have eb:=Ha b k
 rw[xE]at ea eb
 have la:=Dp ha k
 have lb:=Dp hb k
 have hp:=lZ k
 have:pw k*(gd a k+1048576*dv (a.drop (k+1))+1)≤pw k*(gd b k+1048576*dv (b.drop (k+1))):=Int.mul_le_mul_of_nonneg_left (by omega) (by omega)
 rw[Int.mul_add _ _ 1,Int.mul_one]at this
 omega
theorem Ya {a b:List Int} (ha:Dg a) (hb:Dg b) (hfa:Fit a) (hfb:Fit b):nd a b=some (decide (dv a<dv b)):=by
 unfold Fit at hfa hfb
 generalize hm:max a.length b.length=m
 have em:(if (b.length:Int)>(a.length:Int) then (b.length:Int) else (a.length:Int))=(m:Int):=by split<;>omega
 have key:∃r,aS (qF a b) ((m:Int)-1)=some r∧(match r with | .inl _=>¬dv a<dv b | .inr x=>x=decide (dv a<dv b)):=by
  refine eN (I:=fun i s=>s=((m-i:Nat):Int)-1∧dv (a.drop (m-i))=dv (b.drop (m-i))) m _ ⟨rfl,?_⟩ (mR (by omega)) ?_
  ·rw[List.drop_eq_nil_of_le (by omega),List.drop_eq_nil_of_le (by omega)]
  rintro i s hi ⟨rfl,he⟩
  generalize hk:m-i=k at *
  simp only[qF]
  by_cases h0:0<k
  ·have ek:((k:Int)-1)=((k-1:Nat):Int):=by omega
   rw[ek,if_pos (by simp),yp,Option.bind_some,yp,Option.bind_some]
   rw[show k=k-1+1 by omega]at he
   by_cases hx:gd a (k-1)=gd b (k-1)
   ·left
    rw[if_neg (by simpa using hx)]
    refine⟨by omega,_,rfl,by rw[iV (by omega)];omega,?_⟩
    rw[show m-(i+1)=k-1 by omega,xE,xE b,hx,he]
   ·right
    rw[if_pos (by simpa using hx)]
    refine⟨.inr (decide (gd a (k-1)<gd b (k-1))),rfl,?_⟩
    rcases Int.lt_or_gt_of_ne hx with h|h
    ·have:=UD ha hb he h
     simp[h,this]
    ·have:=UD hb ha he.symm h
     have h1:¬gd a (k-1)<gd b (k-1):=by omega
     have h2:¬dv a<dv b:=by omega
     simp[h1,h2]
  ·right
   have:k=0:=by omega
   subst this
   refine⟨.inl (),by rw[if_neg (by simp)],?_⟩
   simp only[List.drop_zero]at he
   omega
 obtain⟨r,h1,h2⟩:=key
 unfold nd
 rw[em,iV (x:=(m:Int)-1) (by omega),h1,Option.bind_some]
 cases r with
 | inl u=>simp only at h2 ⊢;simp[h2]
 | inr x=>simp only at h2 ⊢;rw[h2]
theorem YW {a b:List Int} (ha:Dg a) (hb:Dg b) (hf:Fit a) (hab:b.length≤a.length) (hle:dv b≤dv a):kB a b=some (aL (dv a-dv b).toNat):=by
 unfold Fit at hf
 have key:∃l,aS (ox a b) (0,0,[])=some l∧l.length=a.length∧Dg l∧dv l=dv a-dv b:=by
  refine eN (I:=fun i s=>s.2.1=(i:Int)∧s.2.2.length=i∧Dg s.2.2∧(0≤s.1∧s.1≤1)∧dv s.2.2+dv (b.take i)=dv (a.take i)+pw i*s.1)
   a.length _ ⟨rfl,rfl,Dg.nil,by simp,by simp[dv]⟩ (mR (by omega)) ?_
  rintro i ⟨c,s,l⟩ hi ⟨h1,hl,hd,hc,he⟩
  simp only at h1 hl hd hc he
  subst h1
  simp only[ox]
  by_cases hlt:i<a.length
  ·left
   have ga:=ha.get hlt
   have gb:=Q9 hb i
   rw[if_pos (by simpa using hlt),cG hlt,Option.bind_some,yp,Option.bind_some,iV (x:=a[i]-gd b i) (by omega),iV (x:=a[i]-gd b i-c) (by omega)]
   have e1:IntKind.i64.wrap ((i:Int)+1)=((i+1:Nat):Int):=by rw[iV (by omega)];omega
   by_cases hn:a[i]-gd b i-c<0
   ·rw[if_pos (by simpa using hn),iV (by omega),Fk (by simp;omega),Option.bind_some]
    refine⟨hlt,_,rfl,e1,by simp[hl],hd.append (Dg.mk (by omega) Dg.nil),by simp,?_⟩
    simp only
    rw[fG,yO,fl hlt,hl,Ry]
    simp only[dv,Int.mul_zero,Int.add_zero,Int.mul_one]
    rw[Int.mul_add,Int.mul_sub,Int.mul_sub]
    omega
   ·rw[if_neg (by simpa using hn),Fk (by simp;omega),Option.bind_some]
    refine⟨hlt,_,rfl,e1,by simp[hl],hd.append (Dg.mk (by omega) Dg.nil),by simp,?_⟩
    simp only
    rw[fG,yO,fl hlt,hl]
    simp only[dv,Int.mul_zero,Int.add_zero]
    rw[Int.mul_sub,Int.mul_sub]
    omega
  ·right
   have hia:i=a.length:=by omega
   subst hia
   refine⟨l,by rw[if_neg (by simp)],hl,hd,?_⟩
   rw[I1 hab,List.take_length]at he
   have h1:=oP hd
   rw[hl]at h1
   have hc0:c=0:=by
    rcases (show c=0∨c=1 by omega) with h|h
    ·exact h
    ·subst h;omega
   subst hc0
   omega
 obtain⟨l,h1,h2,h3,h4⟩:=key
 unfold kB
 rw[h1,Option.bind_some,ru,Sc (by unfold Fit;omega) h3,h4]
theorem Nl {n R:Nat} (hn:n≠0) (hfn:(aL n).length≤17592186043904) (hfR:(aL R).length≤17592186043906) (hR:R<1048576*n):aS (ng (aL n) (aL R)) (0,1048576)=some ((R / n:Nat):Int):=by
 have key:∃r,aS (ng (aL n) (aL R)) (0,1048576)=some r∧r=((R / n:Nat):Int):=by
  refine gM (I:=fun (s:Int×Int)=>∃lo hi:Nat,s=((lo:Int),(hi:Int))∧lo<hi∧hi≤1048576∧lo*n≤R∧R<hi*n) (μ:=fun (s:Int×Int)=>(s.2-s.1).toNat) _ ⟨0,1048576,rfl,by omega,by omega,by omega,hR⟩ (by simp only;unfold FU;omega) ?_
  rintro _ ⟨lo,hi,rfl,h1,h2,h3,h4⟩
  simp only[ng]
  rw[iV (x:=(hi:Int)-lo) (by omega)]
  by_cases hgo:(hi:Int)-lo>1
  ·left
   have em:((lo:Int)+hi) / 2=(((lo+hi) / 2:Nat):Int):=by omega
   have hd:Dg [(((lo+hi) / 2:Nat):Int)]:=Dg.mk (by omega) Dg.nil
   have ed:dv (aL n)*dv [(((lo+hi) / 2:Nat):Int)]=((n*((lo+hi) / 2):Nat):Int):=by rw[bR,Int.natCast_mul];simp[dv]
   rw[if_pos (by simpa using hgo),iV (x:=(lo:Int)+hi) (by omega),W6 (by omega) (by omega) (by omega),Option.bind_some,em,P3 (cM n) hd (by simp;omega),Option.bind_some,ed,Int.toNat_natCast]
   have hfl:(aL (n*((lo+hi) / 2))).length≤17592186043905:=by
    have:((n*((lo+hi) / 2):Nat):Int)<pw ((aL n).length+1):=by
     rw[j4,Int.natCast_mul]
     have a1:=ff n
     have:(n:Int)*((lo+hi) / 2:Nat)≤n*1048576:=Int.mul_le_mul_of_nonneg_left (by omega) (by omega)
     omega
    have:=fZ this
    omega
   rw[Ya (cM R) (cM _) (by unfold Fit;omega) (by unfold Fit;omega),Option.bind_some,bR,bR]
   by_cases hc:R<n*((lo+hi) / 2)
   ·rw[if_pos (decide_eq_true (by omega))]
    refine⟨_,rfl,⟨lo,(lo+hi) / 2,rfl,by omega,by omega,h3,by rw[Nat.mul_comm];exact hc⟩,by simp only;omega⟩
   ·rw[if_neg (by rw[decide_eq_true_eq];omega)]
    refine⟨_,rfl,⟨(lo+hi) / 2,hi,rfl,by omega,by omega,by rw[Nat.mul_comm];omega,h4⟩,by simp only;omega⟩
  ·right
   refine⟨_,by rw[if_neg (by simpa using hgo)],?_⟩
   have:hi=lo+1:=by omega
   subst this
   congr 1
   have:R / n=lo:=by
    apply Nat.div_eq_of_lt_le
    ·exact h3
    ·exact h4
   exact this.symm
 obtain⟨r,h1,rfl⟩:=key
 exact h1
theorem Ym {m n:Nat} (hn:n≠0) (hfm:(aL m).length≤17592186043904) (hfn:(aL n).length≤17592186043904):nf (aL m) (aL n)=some (aL (m / n),aL (m % n)):=by
 generalize ha:aL m=a at *
 have hda:Dg a:=by rw[← ha];exact cM m
 have key:∃r,aS (qG a (aL n)) ([],(a.length:Int)-1,List.replicate a.length 0)=some r∧r.2.length=a.length∧Dg r.2∧∃R:Nat,r.1=aL R∧R<n∧dv a=n*dv r.2+R:=by
  refine eN (I:=fun i s=>s.2.1=((a.length-i:Nat):Int)-1∧s.2.2.length=a.length∧Dg s.2.2∧∃R:Nat,s.1=aL R∧R<n∧dv (a.drop (a.length-i))=n*dv (s.2.2.drop (a.length-i))+R)
   a.length _ ⟨rfl,by simp,Dg.rep _,0,cJ.symm,by omega,by simp[dv]⟩ (mR (by omega)) ?_
  rintro i ⟨r,s,l⟩ hi ⟨h1,hl,hg,R,h2,hR,he⟩
  simp only at h1 hl hg h2 he
  subst h1 h2
  generalize hk:a.length-i=k at *
  simp only[qG]
  by_cases h0:0<k
  ·left
   have hk1:k-1<a.length:=by omega
   have hk2:k-1<l.length:=by omega
   have ek:((k:Int)-1)=((k-1:Nat):Int):=by omega
   have ga:=hda.get hk1
   have hRl:=dK (show R≤n by omega)
   have hdR:Dg ([a[k-1]]++aL R):=(Dg.mk ga Dg.nil).append (cM R)
   obtain⟨X,hX⟩:∃X:Nat,a[k-1]+1048576*(R:Int)=X:=⟨(a[k-1]+1048576*(R:Int)).toNat,by omega⟩
   have hXn:X<1048576*n:=by omega
   have hXl:(aL X).length≤17592186043906:=by
    have:(X:Int)<pw ((aL n).length+1):=by
     rw[j4]
     have a1:=ff n
     omega
    have:=fZ this
    omega
   rw[ek,if_pos (by simp),cG hk1,Option.bind_some,Fk (by simp;omega),Option.bind_some,E9 (n:=X) (by unfold Fit;simp;omega) hdR (by rw[fG,bR];simp only[dv,List.length_cons,List.length_nil];rw[show pw (0+1)=1048576 by decide];omega),Option.bind_some,Nl hn hfn hXl hXn,Option.bind_some,cG hk2,Option.bind_some]
   have hq:X / n<1048576:=Nat.div_lt_of_lt_mul (by rw[Nat.mul_comm];exact hXn)
   have hq0:(0:Int)≤((X / n:Nat):Int):=Int.natCast_nonneg _
   rw[E9 (n:=X / n) (by simp[Fit]) (Dg.mk (by omega) Dg.nil) (by simp[dv]),Option.bind_some]
   have hql:(aL (X / n)).length≤1:=fZ (by rw[j4,oh];omega)
   have hprod:(dv (aL n)*dv (aL (X / n))).toNat=n*(X / n):=by rw[bR,bR,← Int.natCast_mul];rfl
   rw[P3 (cM _) (cM _) (by omega),Option.bind_some,hprod]
   have hle:n*(X / n)≤X:=Nat.mul_div_le X n
   rw[YW (cM _) (cM _) (by unfold Fit;omega) (dK hle) (by rw[bR,bR];omega),Option.bind_some,bR,bR]
   have hsub:((X:Int)-(n*(X / n):Nat)).toNat=X % n:=by
    have:=Nat.div_add_mod X n
    omega
   rw[hsub]
   have e1:IntKind.i64.wrap (((k-1:Nat):Int)-1)=((k-1:Nat):Int)-1:=iV (by omega)
   refine⟨by omega,_,rfl,by rw[e1,show a.length-(i+1)=k-1 by omega],by simpa using hl,hg.set _ (by omega),X % n,rfl,Nat.mod_lt _ (by omega),?_⟩
   simp only[Int.toNat_natCast]
   rw[show a.length-(i+1)=k-1 by omega,jq hk1,jq (l:=l.set (k-1) _) (i:=k-1) (by simpa using hk2),show k-1+1=k by omega,List.getElem_set_self,List.drop_set_of_lt (by omega),he,Int.mul_add,Int.mul_add]
   have h3:=Nat.div_add_mod X n
   have e3:(n:Int)*(1048576*dv (l.drop k))=1048576*(n*dv (l.drop k)):=Int.mul_left_comm _ _ _
   rw[e3,← Int.natCast_mul n (X / n)]
   omega
  ·right
   have:k=0:=by omega
   subst this
   refine⟨(aL R,l),by rw[if_neg (by simp)],hl,hg,R,rfl,hR,?_⟩
   simpa using he
 obtain⟨⟨r,l⟩,h1,h2,h3,R,h4,h5,h6⟩:=key
 simp only at h2 h3 h4 h6
 unfold nf
 rw[Z2 (by omega),Option.bind_some,iV (x:=(a.length:Int)-1) (by omega),h1,Option.bind_some]
 simp only
 rw[← ha,bR]at h6
 have hl0:=cK h3
 obtain⟨Q,hQ⟩:∃Q:Nat,dv l=Q:=⟨(dv l).toNat,by omega⟩
 rw[hQ]at h6
 have hm:m=n*Q+R:=by
  have:((m:Nat):Int)=((n*Q+R:Nat):Int):=by rw[Int.natCast_add,Int.natCast_mul];exact h6
  omega
 have e1:m / n=Q:=by rw[hm,Nat.mul_add_div (by omega),Nat.div_eq_of_lt h5,Nat.add_zero]
 have e2:m % n=R:=by rw[hm,Nat.mul_add_mod,Nat.mod_eq_of_lt h5]
 rw[E9 (n:=Q) (by unfold Fit;omega) h3 hQ,Option.bind_some,h4,e1,e2]
theorem SG {a b:Nat} (ha:(aL a).length≤jJ) (hb:(aL b).length≤jJ):aS pj (aL a,aL b)=some (aL (Nat.gcd a b)):=by
 have hL:jJ=17592186043904:=rfl
 have key:∃r,aS pj (aL a,aL b)=some r∧r=aL (Nat.gcd a b):=by
  have la:=Ri (ff a)
  have lb:=Ri (ff b)
  let val:List Int→Nat:=fun l=>(dv l).toNat
  have hval:∀n,val (aL n)=n:=fun n=>by show (dv (aL n)).toNat=n;rw[bR];rfl
  refine gM (I:=fun (s:List Int×List Int)=>∃x y,s=(aL x,aL y)∧Nat.gcd x y=Nat.gcd a b∧(aL x).length≤jJ∧(aL y).length≤jJ)
   (μ:=fun (s:List Int×List Int)=>lg (val s.1)+lg (val s.2)+(if val s.1<val s.2 then 1 else 0)) _ ⟨a,b,rfl,rfl,ha,hb⟩ (by simp only[hval];unfold FU;split<;>omega) ?_
  rintro _ ⟨x,y,rfl,hg,hx,hy⟩
  simp only[pj]
  by_cases h0:y=0
  ·right
   subst h0
   refine⟨_,by rw[cJ,if_neg (by simp)],?_⟩
   rw[← hg,Nat.gcd_zero_right]
  ·left
   have hne:0<(aL y).length:=List.length_pos_iff.2 (fun h=>h0 (ri.1 h))
   rw[if_pos (by simpa using hne),Ym h0 (by omega) (by omega),Option.bind_some]
   have hlt:=Nat.mod_lt x (Nat.pos_of_ne_zero h0)
   refine⟨_,rfl,⟨y,x % y,rfl,?_,hy,?_⟩,?_⟩
   ·rw[← hg,Nat.gcd_comm y,← Nat.gcd_rec,Nat.gcd_comm]
   ·have:=dK (Nat.mod_le x y);omega
   ·simp only[hval]
    rw[if_neg (by omega)]
    by_cases hxy:x<y
    ·rw[if_pos hxy,Nat.mod_eq_of_lt hxy];omega
    ·rw[if_neg hxy]
     have:lg (x % y)<lg x:=by
      apply Yb
      have h1:=Nat.div_add_mod x y
      have h2:1≤x / y:=(Nat.one_le_div_iff (by omega)).2 (by omega)
      have h3:y*1≤y*(x / y):=Nat.mul_le_mul_left _ h2
      omega
     omega
 obtain⟨r,h1,rfl⟩:=key
 exact h1
theorem Zz {x y:Int} (hx:Ln x≤jJ) (hy:Ln y≤jJ):ov (fb x) (fb y)=some (fb (Int.gcd x y),0):=by
 have hL:jJ=17592186043904:=rfl
 unfold ov
 rw[gQ (by omega),Option.bind_some]
 simp only[Bool.not_true,Bool.false_eq_true,if_false]
 rw[gQ (by omega),Option.bind_some,Option.bind_some]
 simp only[Bool.not_true,Bool.false_eq_true,if_false]
 have hxd:(fb x).aa=aL x.natAbs:=rfl
 have hyd:(fb y).aa=aL y.natAbs:=rfl
 rw[hxd,hyd]
 have fx:(aL x.natAbs).length≤17592186043904:=by show Ln x≤_;omega
 have fy:(aL y.natAbs).length≤17592186043904:=by show Ln y≤_;omega
 have fg:(aL (Nat.gcd x.natAbs y.natAbs)).length≤17592186043904:=by
  by_cases h:y.natAbs=0
  ·rw[h,Nat.gcd_zero_right];exact fx
  ·have:=dK (Nat.gcd_le_right x.natAbs (Nat.pos_of_ne_zero h));omega
 have hgn:Nat.gcd x.natAbs y.natAbs=((Int.gcd x y:Nat):Int).natAbs:=rfl
 rw[SG (by omega) (by omega),Option.bind_some,xK (x:=(Int.gcd x y:Int)) hgn ?_ (fun _=>by omega),Option.bind_some]
 intro h
 rw[Int.sign_eq_one_of_pos (by omega)]
theorem Zy {x y:Int} (hx:Ln x≤jE) (hy:Ln y≤jE) (h0:0<y) (hd:y∣x):mK (fb x) (fb y)=some (fb (x / y),fb 0,0):=by
 have hL:jE=4398046511104:=rfl
 unfold mK
 rw[gQ (by omega),Option.bind_some]
 simp only[Bool.not_true,Bool.false_eq_true,if_false]
 rw[gQ (by omega),Option.bind_some,Option.bind_some]
 simp only[Bool.not_true,Bool.false_eq_true,if_false]
 have hxd:(fb x).aa=aL x.natAbs:=rfl
 have hyd:(fb y).aa=aL y.natAbs:=rfl
 have hxs:(fb x).ah=x.sign:=rfl
 have hys:(fb y).ah=1:=Int.sign_eq_one_of_pos h0
 rw[hxd,hyd,hxs,hys]
 have fx:(aL x.natAbs).length≤4398046511104:=by show Ln x≤_;omega
 have fy:(aL y.natAbs).length≤4398046511104:=by show Ln y≤_;omega
 have fq:=dK (Nat.div_le_self x.natAbs y.natAbs)
 obtain⟨z,rfl⟩:=hd
 have hyz:y*z / y=z:=Int.mul_ediv_cancel_left _ (by omega)
 have hn:(y*z).natAbs=y.natAbs*z.natAbs:=Int.natAbs_mul _ _
 have hq:(y*z).natAbs / y.natAbs=z.natAbs:=by rw[hn,Nat.mul_div_cancel_left _ (by omega)]
 have hr:(y*z).natAbs % y.natAbs=0:=by rw[hn,Nat.mul_mod_right]
 have hsg:(y*z).sign=z.sign:=by rw[Int.sign_mul,Int.sign_eq_one_of_pos h0,Int.one_mul]
 rw[if_neg (by decide),Ym (by omega) (by omega) (by omega),Option.bind_some,Int.mul_one,hsg,iV (x:=z.sign) (by have:=qK z;omega),hyz,hq,hr,cJ]
 rw[hq]at fq
 have hT:(if decide (z.sign≥0)=true then some true else some ((([]:List Int).length:Int)==0))=some true:=by split<;>rfl
 simp only[hT,Option.bind_some,if_true]
 rw[xK (x:=z) rfl (fun _=>rfl) (fun _=>by omega),Option.bind_some]
 have:fi z.sign []=some (fb 0):=Cn 0 (by simp[Fit]) Dg.nil rfl (fun h=>absurd rfl h)
 rw[this,Option.bind_some]
theorem ZD {x:Int} (h:Ln x≤jE):qD (fb x)=some (fb (-x)):=by
 unfold qD
 have hL:jE=4398046511104:=rfl
 rw[gQ (by omega),Option.bind_some]
 simp only[Bool.not_true,Bool.false_eq_true,if_false]
 have hf:Fit (fb x).aa:=by unfold Fit;show Ln x≤_;omega
 rw[Cn (-x) hf (cM _) (by show dv (aL _)=_;rw[bR,Int.natAbs_neg]),Option.bind_some]
 intro h0
 show IntKind.i64.wrap (0-x.sign)=_
 rw[iV (by have:=qK x;omega),Int.sign_neg,Int.zero_sub]
theorem Vl {x:Int} (hx : -9223372036854775808≤x∧x<9223372036854775808):∃l,aS wb (x,[])=some l∧Dg l∧dv l=x.natAbs∧l.length≤5:=by
 refine gM (I:=fun (s:Int×List Int)=>Dg s.2∧dv s.2+pw s.2.length*s.1.natAbs=x.natAbs∧s.2.length≤5∧(s.1=0∨s.2.length<5)) (μ:=fun (s:Int×List Int)=>s.1.natAbs) _ ⟨Dg.nil,by simp[dv,oh],by simp,by simp⟩ (by simp only;unfold FU;omega) ?_
 rintro⟨u,l⟩ ⟨hd,h2,h3,h5⟩
 simp only at hd h2 h3 h5
 have hp:=lZ l.length
 have hdl:=cK hd
 have hu:(u.natAbs:Int)≤x.natAbs:=by
  have:1*(u.natAbs:Int)≤pw l.length*u.natAbs:=Int.mul_le_mul_of_nonneg_right (by omega) (by omega)
  omega
 simp only[wb]
 by_cases h0:u≠0
 ·left
  have hl4:l.length<4:=by
   rcases Nat.lt_or_ge l.length 4 with h|h
   ·exact h
   ·have h4:l.length=4:=by omega
    rw[h4,pw4]at h2
    omega
  have hm:wD .i64 u 1048576=some (u.tmod 1048576):=by unfold wD;rw[if_neg (by decide)]
  have hq:z6 .i64 u 1048576=some (u.tdiv 1048576):=by
   unfold z6
   have:(u.tdiv 1048576).natAbs=u.natAbs / 1048576:=Int.natAbs_tdiv u 1048576
   rw[if_neg (by decide),iV (by omega)]
  have ha:(u.tmod 1048576).natAbs=u.natAbs % 1048576:=Int.natAbs_tmod u 1048576
  have hb:(u.tdiv 1048576).natAbs=u.natAbs / 1048576:=Int.natAbs_tdiv u 1048576
  have hpd:=AB l.length (u.natAbs:Int)
  rw[if_pos (by simpa using h0),hm,Option.bind_some]
  have fin:∀d:Int,d=((u.natAbs % 1048576:Nat):Int)→(Dg (l++[d])∧dv (l++[d])+pw (l++[d]).length*((u.tdiv 1048576).natAbs:Int)=x.natAbs∧(l++[d]).length≤5∧(u.tdiv 1048576=0∨(l++[d]).length<5))∧(u.tdiv 1048576).natAbs<u.natAbs:=by
   rintro d rfl
   refine⟨⟨hd.append (Dg.mk (by omega) Dg.nil),?_,by simp;omega,by right;simp;omega⟩,by omega⟩
   rw[hb]
   simp only[fG,dv,List.length_append,List.length_cons,List.length_nil,Int.mul_zero,Int.add_zero,Nat.zero_add]
   rw[Int.natCast_emod,Int.natCast_ediv]
   have:((1048576:Nat):Int)=1048576:=rfl
   rw[this]
   omega
  by_cases hneg:u.tmod 1048576<0
  ·rw[if_pos (by simpa using hneg),iV (x:=0-u.tmod 1048576) (by omega),Fk (by simp;omega),Option.bind_some,hq,Option.bind_some]
   have:=fin (0-u.tmod 1048576) (by omega)
   exact⟨_,rfl,this.1,this.2⟩
  ·rw[if_neg (by simpa using hneg),Fk (by simp;omega),Option.bind_some,hq,Option.bind_some]
   have:=fin (u.tmod 1048576) (by omega)
   exact⟨_,rfl,this.1,this.2⟩
 ·right
  have:u=0:=by omega
  subst this
  refine⟨l,by rw[if_neg (by simp)],hd,?_,h3⟩
  simp at h2
  omega
theorem Of4 {x:Int} (h : -9223372036854775808≤x∧x<9223372036854775808):sW x=some (fb x):=by
 unfold sW
 by_cases h0:x=0
 ·subst h0;rw[Ef];rfl
 ·have hT:(if decide (x<0)=true then some (-1:Int) else some 1)=some x.sign:=by
   rcases gp x with⟨a,b,c⟩|⟨a,b,c⟩|⟨a,b⟩
   ·rw[if_neg (by simp;omega),a]
   ·rw[if_pos (by simp;omega),a]
   ·exact absurd b h0
  obtain⟨l,h1,h2,h3,h4⟩:=Vl h
  rw[if_neg (by simpa using h0),hT,Option.bind_some,h1,Option.bind_some,ru,Cn x (by unfold Fit;omega) h2 h3 (fun _=>rfl)]
instance:DecidableEq aw:=fun a b=>decidable_of_iff (a.ah=b.ah∧a.aa=b.aa) (by cases a;cases b;simp)
instance:DecidableEq aQ:=fun a b=>decidable_of_iff (a.cn=b.cn∧a.cl=b.cl) (by cases a;cases b;simp)
theorem Tq {b c:aw} (hf:Fit b.aa) (hl:b.aa.length=c.aa.length):∃r,aS (qE b c) 0=some r∧(match r with | .inl _=>b.aa=c.aa | .inr x=>x=false∧b.aa≠c.aa):=by
 refine eN (I:=fun i s=>s=(i:Int)∧b.aa.take i=c.aa.take i) b.aa.length _ ⟨rfl,by simp⟩ (mR hf) ?_
 unfold Fit at hf
 rintro i s hi ⟨rfl,he⟩
 simp only[qE]
 by_cases hlt:i<b.aa.length
 ·rw[if_pos (by simpa using hlt),cG hlt,Option.bind_some,cG (by omega),Option.bind_some]
  by_cases hx:b.aa[i]=c.aa[i]
  ·left
   rw[if_neg (by simpa using hx)]
   refine⟨hlt,_,rfl,by rw[iV (by omega)];omega,?_⟩
   rw[List.take_add_one,List.take_add_one,he]
   simp[hlt,show i<c.aa.length by omega,hx]
  ·right
   rw[if_pos (by simpa using hx)]
   refine⟨.inr false,rfl,rfl,fun h=>hx ?_⟩
   simp[h]
 ·right
  have:i=b.aa.length:=by omega
  subst this
  refine⟨.inl (),by rw[if_neg (by simp)],?_⟩
  rw[List.take_length,List.take_of_length_le (by omega)]at he
  exact he
theorem Xx {b c:aw} (hf:Fit b.aa):nc b c=some (decide (b=c)):=by
 have hiff:b=c↔b.ah=c.ah∧b.aa=c.aa:=by cases b;cases c;simp
 unfold nc
 by_cases h1:b.ah=c.ah
 ·rw[if_neg (by simpa using h1),Option.bind_some]
  by_cases h2:b.aa.length=c.aa.length
  ·rw[if_neg (by simp;omega)]
   obtain⟨r,h3,h4⟩:=Tq hf h2
   rw[h3,Option.bind_some]
   cases r with
   | inl u=>simp only at h4 ⊢;simp[hiff,h1,h4]
   | inr x=>simp only at h4 ⊢;simp[hiff,h1,h4.1,h4.2]
  ·rw[if_pos (by simp;omega)]
   have:b≠c:=fun h=>h2 (by rw[h])
   simp[this]
 ·rw[if_pos (by simpa using h1),Option.bind_some,if_pos rfl]
  have:b≠c:=fun h=>h1 (by rw[h])
  simp[this]
theorem aaj {b c:aw} (hf:Fit b.aa):nc b c=some (decide (b=c)):=Xx hf
theorem Ke {x y:Int} (hx:Ln x≤jJ) (hy:Ln y≤jJ):gj (fb x) (fb y)=some (lO x y):=by
 have hL:jJ=17592186043904:=rfl
 unfold gj
 rw[gQ (by omega),Option.bind_some]
 simp only[Bool.not_true,Bool.false_eq_true,if_false]
 rw[gQ (by omega),Option.bind_some]
 simp only[Bool.not_true,Bool.false_eq_true,if_false]
 have fx:(aL x.natAbs).length≤17592186043904:=by show Ln x≤_;omega
 have fy:(aL y.natAbs).length≤17592186043904:=by show Ln y≤_;omega
 rw[aaj (by unfold Fit;show Ln x≤_;omega),Option.bind_some,Option.bind_some]
 have hxd:(fb x).aa=aL x.natAbs:=rfl
 have hyd:(fb y).aa=aL y.natAbs:=rfl
 have hxs:(fb x).ah=x.sign:=rfl
 have hys:(fb y).ah=y.sign:=rfl
 by_cases he:x=y
 ·subst he
  rw[if_pos (by simp)]
  simp[lO]
 ·rw[if_neg (by simp only[decide_eq_true_eq];exact fun h=>he (JC h)),hxd,hyd,hxs,hys]
  by_cases h:x.sign=y.sign
  ·rw[if_neg (by simpa using h),Ya (cM _) (cM _) (by unfold Fit;omega) (by unfold Fit;omega),Option.bind_some,bR,bR]
   have hc:lO x y=if x<y then -1 else 1:=by
    unfold lO
    split
    ·rfl
    ·rw[if_pos (by omega)]
   rcases gp x with⟨a,b,c⟩|⟨a,b,c⟩|⟨a,b⟩<;>rcases gp y with⟨a',b',c'⟩|⟨a',b',c'⟩|⟨a',b'⟩<;>(try (rw[a,a']at h;exact absurd h (by decide)))
   ·rw[a,hc]
    by_cases hlt:x<y
    ·have h1:(x.natAbs:Int)<y.natAbs:=by omega
     rw[if_pos hlt,decide_eq_true h1];rfl
    ·have h1:¬(x.natAbs:Int)<y.natAbs:=by omega
     rw[if_neg hlt,decide_eq_false h1];rfl
   ·rw[a,hc]
    by_cases hlt:x<y
    ·have h1:¬(x.natAbs:Int)<y.natAbs:=by omega
     rw[if_pos hlt,decide_eq_false h1];rfl
    ·have h1:(x.natAbs:Int)<y.natAbs:=by omega
     rw[if_neg hlt,decide_eq_true h1];rfl
   ·exact absurd (b.trans b'.symm) he
  ·rw[if_pos (by simpa using h)]
   unfold lO
   rcases gp x with⟨a,b,c⟩|⟨a,b,c⟩|⟨a,b⟩<;>rcases gp y with⟨a',b',c'⟩|⟨a',b',c'⟩|⟨a',b'⟩<;>(try (exact absurd (a.trans a'.symm) h))<;>rw[a,a']<;>(try rw[if_pos (show x<y by omega)])<;>(try rw[if_neg (show ¬x<y by omega),if_pos (show y<x by omega)])<;>rfl
theorem CF {f:aQ} (hf:Si f):gP f=some (okF f):=by
 have hL:jJ=17592186043904:=rfl
 obtain⟨p,q⟩:=f
 simp only[Si]at hf
 unfold gP okF
 rw[PG (show Fit p.aa by unfold Fit;omega),Option.bind_some]
 by_cases h1:okB p=true
 ·simp only[h1,Bool.not_true,Bool.false_eq_true,if_false,Bool.true_and]
  rw[PG (show Fit q.aa by unfold Fit;omega),Option.bind_some]
  by_cases h2:okB q=true
  ·simp only[h2,Bool.not_true,Bool.false_eq_true,if_false,Bool.true_and,Option.bind_some]
   obtain⟨x,rfl⟩:=sM.1 h1
   obtain⟨y,rfl⟩:=sM.1 h2
   have hys:(fb y).ah=y.sign:=rfl
   by_cases h3:y.sign=1
   ·rw[if_neg (by rw[hys,h3];decide),Zz hf.1 hf.2,Option.bind_some,Of4 (by decide),Option.bind_some]
    have h5:(dv (fb x).aa).toNat=x.natAbs:=by show (dv (aL _)).toNat=_;rw[bR];rfl
    have h6:(dv (fb y).aa).toNat=y.natAbs:=by show (dv (aL _)).toNat=_;rw[bR];rfl
    have hy:0<y.natAbs:=by rcases gp y with⟨a,b,c⟩|⟨a,b,c⟩|⟨a,b⟩<;>omega
    have hgl:Ln (Int.gcd x y:Int)≤jJ:=by
     have:=dK (Nat.gcd_le_right x.natAbs hy)
     have h7:(aL y.natAbs).length≤jJ:=hf.2
     show (aL (Nat.gcd x.natAbs y.natAbs)).length≤_
     omega
    simp only
    rw[Ke hgl (Nat.le_trans (Kf (by decide)) (by decide)),Option.bind_some,h5,h6,hys,h3]
    have hg:Nat.gcd x.natAbs y.natAbs=Int.gcd x y:=rfl
    congr 1
    unfold lO
    by_cases h:Int.gcd x y=1
    ·rw[decide_eq_true (hg.trans h),h];rfl
    ·have h1:¬((Int.gcd x y:Nat):Int)=1:=by omega
     rw[decide_eq_false (fun h'=>h (hg.symm.trans h'))]
     split
     ·rfl
     ·rw[if_pos (by omega)];rfl
   ·have h4:((fb y).ah==1)=false:=by rw[hys];simpa using h3
    rw[if_pos (by rw[hys];have:=qK y;simp;omega),h4]
    rfl
  ·simp only[h2,Bool.not_false,if_true,Option.bind_some,Bool.false_and]
 ·simp only[h1,Bool.not_false,if_true,Option.bind_some,Bool.false_and]
theorem abc {p q:Int} (hp:Ln p≤jE) (hq:Ln q≤jE) (h0:q≠0):sX (fb p) (fb q)=some (yY (Rat.divInt p q),0):=by
 have hL:jE=4398046511104:=rfl
 have main:∀ {p q:Int},Ln p≤jE→Ln q≤jE→0<q →
   ((ov (fb p) (fb q)).bind fun r6=>(mK (fb p) r6.1).bind fun r7=>(mK (fb q) r6.1).bind fun r8=>some ((aQ.mk r7.1 r8.1),(0:Int)))=some (yY (Rat.divInt p q),0):=by
  intro p q hp hq h0
  have hg:0<Int.gcd p q:=Int.gcd_pos_of_ne_zero_right _ (by omega)
  have hgl:Ln (Int.gcd p q:Int)≤jE:=by
   have:=dK (Nat.gcd_le_right p.natAbs (show 0<q.natAbs by omega))
   show (aL (Nat.gcd p.natAbs q.natAbs)).length≤_
   have h7:(aL q.natAbs).length≤jE:=hq
   omega
  rw[Zz (yc hp) (yc hq),Option.bind_some]
  simp only
  rw[Zy hp hgl (by omega) (Int.gcd_dvd_left ..),Option.bind_some,Zy hq hgl (by omega) (Int.gcd_dvd_right ..),Option.bind_some]
  have hd:((q.natAbs / Int.gcd p q:Nat):Int)=q / (Int.gcd p q:Int):=by
   rw[Int.natCast_ediv]
   congr 1
   omega
  unfold yY
  rw[Rat.num_divInt,Rat.den_divInt,if_neg (by omega),Int.sign_eq_one_of_pos h0,Int.one_mul,Int.gcd_comm q p,hd]
 unfold sX
 rw[gQ (by omega),Option.bind_some]
 simp only[Bool.not_true,Bool.false_eq_true,if_false]
 rw[gQ (by omega),Option.bind_some,Option.bind_some]
 simp only[Bool.not_true,Bool.false_eq_true,if_false]
 have hqs:(fb q).ah=q.sign:=rfl
 rw[hqs]
 rcases gp q with⟨a,b,c⟩|⟨a,b,c⟩|⟨a,b⟩
 ·rw[if_neg (by rw[a];decide),if_neg (by rw[a];decide),Option.bind_some]
  exact main hp hq c
 ·rw[if_neg (by rw[a];decide),if_pos (by rw[a];decide),ZD hp,Option.bind_some,ZD hq,Option.bind_some,Option.bind_some]
  have:=main (p := -p) (q := -q) (by rw[TK];exact hp) (by rw[TK];exact hq) (by omega)
  rw[Rat.neg_divInt_neg]at this
  exact this
 ·exact absurd b h0
theorem TJ {x:Int} (h : -9223372036854775808≤x∧x<9223372036854775808):Ln x≤jE:=by
 have:Ln x≤4:=Ql (by rw[pw4];omega)
 have hL:jE=4398046511104:=rfl
 omega
theorem Of5 {p q:Int} (hp : -9223372036854775808≤p∧p<9223372036854775808) (hq : -9223372036854775808≤q∧q<9223372036854775808) (h0:q≠0):xQ p q=some (yY (Rat.divInt p q),0):=by
 unfold xQ
 rw[Of4 hp,Option.bind_some,Of4 hq,Option.bind_some,abc (TJ hp) (TJ hq) h0,Option.bind_some]
theorem abb {n:Int} (h : -9223372036854775808≤n∧n<9223372036854775808):oB n=some (yY n):=by
 unfold oB
 rw[Of5 h (by decide) (by decide),Option.bind_some]
 simp only
 congr 2
 have:=Rat.num_divInt_den (n:Rat)
 rw[Rat.num_intCast,Rat.den_intCast]at this
 exact this
theorem ZO (f:aQ) (n:Int):qH f n=some (decide ((f.cn.aa.length:Int)≤n∧(f.cl.aa.length:Int)≤n)):=by
 unfold qH
 by_cases h:(f.cn.aa.length:Int)≤n
 ·rw[if_pos (by simpa using h)];simp[h]
 ·rw[if_neg (by simpa using h)];simp[h]
end Go.Proofs.YtpkahnkoecbndaaGreatDoor.P
namespace Go.Proofs.YtpkahnkoecbndaaGreatDoor.P
open Go.RowKit T
set_option linter.unusedSimpArgs false
set_option linter.unusedVariables false
theorem least {Q:Nat→Prop} : ∀n,Q n→∃m,m≤n∧Q m∧∀j,j<m→¬Q j:=by
 intro n
 induction n using Nat.strongRecOn with
 | _ n ih =>
  intro hn
  by_cases h:∃j,j<n∧Q j
  ·obtain⟨j,h1,h2⟩:=h
   obtain⟨m,m1,m2⟩:=ih j h1 h2
   exact⟨m,by omega,m2⟩
  ·exact⟨n,Nat.le_refl _,hn,fun j hj hq=>h ⟨j,hj,hq⟩⟩
theorem allI {α ρ:Type} (l:List α) {body:Int→Option (Int⊕(Unit⊕ρ))} (p:Nat→α→Prop) (bad:ρ) [∀i x,Decidable (p i x)] (hlen:l.length<4611686018427387904)
  (hb:∀(i:Nat) x,l[i]? = some x→(∀j y,j<i→l[j]? = some y→p j y)→body (i:Int)=some (if p i x then .inl ((i+1:Nat):Int) else .inr (.inr bad))) (he:body (l.length:Int)=some (.inr (.inl ()))) :
  (∃h:(∀i x,l[i]? = some x→p i x),aS body 0=some (.inl ()))∨(∃h:¬(∀i x,l[i]? = some x→p i x),aS body 0=some (.inr bad)):=by
 by_cases hall:∀i x,l[i]? = some x→p i x
 ·refine .inl ⟨hall,qL l.length (fun i=>(i:Int)) hlen (fun i hi =>?_) he⟩
  rw[hb i l[i] (List.getElem?_eq_getElem hi) (fun j y _ hj=>hall j y hj),if_pos (hall i _ (List.getElem?_eq_getElem hi))]
 ·have:∃n x,l[n]? = some x∧¬p n x:=by
   refine Classical.byContradiction fun hc=>hall fun i x hx=>Classical.byContradiction fun hp=>hc ⟨i,x,hx,hp⟩
  obtain⟨n,hn⟩:=this
  obtain⟨m,-,⟨x,hx,hp⟩,hm⟩:=least (Q:=fun n=>∃x,l[n]? = some x∧¬p n x) n hn
  have hbefore:∀j y,j<m→l[j]? = some y→p j y:=fun j y hj hy=>Classical.byContradiction fun hq=>hm j hj ⟨y,hy,hq⟩
  have hml:=(List.getElem?_eq_some_iff.1 hx).1
  refine .inr ⟨hall,qL m (fun i=>(i:Int)) (by omega) (fun i hi =>?_) ?_⟩
  ·have hil:i<l.length:=by omega
   rw[hb i l[i] (List.getElem?_eq_getElem hil) (fun j y hj hy=>hbefore j y (by omega) hy),if_pos (hbefore i _ hi (List.getElem?_eq_getElem hil))]
  ·rw[hb m x hx hbefore,if_neg hp]
theorem W1 {l:List Int} (h:l.length*8≤140737488351232):bI l=some l:=by
 unfold bI ik
 rw[if_pos ⟨by simp[maxLen];omega,by simp;omega⟩]
 rfl
theorem wk {l:List Int} (hl:l.length*8≤140737488351232):fV l=some (decide (¬l.Nodup)):=by
 have ht:=T.NY hl
 unfold jk jR cd Ct at ht
 simp only[Option.bind_some]at ht
 unfold zp at ht
 rw[if_pos hl]at ht
 simp only[Option.bind_some]at ht
 unfold fV kf
 rw[W1 hl]
 simp only[Option.bind_some]
 rw[if_pos (by omega)]
 exact ht
theorem has_eq (v:au) (i:Int):pA v i=some (decide (0≤i∧i<v.ag.length)):=by
 unfold pA
 by_cases h:0≤i
 ·rw[if_pos (by simpa using h)];simp[h]
 ·rw[if_neg (by simpa using h)];simp[h]
theorem Y4 (v:au) (i:Int):AD v i=some (decide (0≤i∧i<v.ag.length)):=has_eq v i
def NP (l:List av) (path:List Int) (i:Nat) (a:Int):Prop:=(0≤a∧a<l.length)∧(i=0∨∃p x,path[i-1]? = some p∧P.idx l p=some x∧(x.bT=a∨x.bJ=a))
def tx (l:List av) (path:List Int):Prop:=fR l∧path≠[]∧∀i a,path[i]? = some a→NP l path i a
theorem xH {α:Type} {l:List α} {i:Int} {x:α} (h:P.idx l i=some x):0≤i∧i<l.length:=by
 unfold P.idx at h
 split at h
 ·assumption
 ·cases h
theorem D1 {α:Type} {l:List α} {i:Int} {x:α} (h:P.idx l i=some x):l[i.toNat]? = some x:=by
 unfold P.idx at h
 split at h
 ·exact h
 ·cases h
theorem Jj {α:Type} {l:List α} {i:Int} (h:0≤i∧i<l.length):∃x,P.idx l i=some x:=by
 refine⟨l[i.toNat]'(by omega),uT h.1 ?_⟩
 exact List.getElem?_eq_getElem _
theorem yV {path:List Int} (hl:path.length<4611686018427387904):P.idx path (IntKind.i64.wrap ((path.length:Int)-1))=path.getLast?:=by
 cases path with
 | nil=>rfl
 | cons a l =>
  have:IntKind.i64.wrap (((a::l).length:Int)-1)=((l.length:Nat):Int):=by
   rw[List.length_cons]at hl ⊢
   rw[wrap64 (by omega) (by omega)]
   omega
  rw[this,List.getLast?_eq_getElem?,cu (List.getElem?_eq_getElem (show l.length<(a::l).length by simp))]
  simp
open Classical in
theorem N3 {l:List av} {path:List Int} (hl:path.length<4611686018427387904):iz ⟨l⟩ path=some (decide (tx l path)):=by
 unfold iz
 obtain⟨b,hb,hs⟩:=T.oK ⟨l⟩
 rw[hb]
 simp only[Option.bind_some]
 cases b with
 | false =>
  have:¬fR l:=fun h=>absurd (hs.2 h) (by simp)
  simp[tx,this]
 | true =>
  have hsd:=hs.1 rfl
  by_cases hp:path=[]
  ·subst hp;simp[tx]
  ·have:¬((path.length:Int)==0)=true:=by
    have:path.length≠0:=fun h=>hp (List.eq_nil_of_length_eq_zero h)
    simp;exact hp
   simp only[Bool.not_true,Bool.false_eq_true,if_false,Option.bind_some]
   rw[if_neg this]
   have hloop:=allI path (body:=gD ⟨l⟩ path) (NP l path) false hl (fun i a ha hbef=>by
    have hi:=(List.getElem?_eq_some_iff.1 ha).1
    simp only[gD]
    rw[if_pos (by simp;omega),cu ha]
    simp only[Option.bind_some,has_eq]
    by_cases hin:0≤a∧a<l.length
    ·have hd:decide (0≤a∧a<(({ ag:=l } : au).ag.length:Int))=true:=decide_eq_true hin
     simp only[hd,Bool.not_true,Bool.false_eq_true,if_false]
     cases i with
     | zero =>
      rw[if_neg (by simp),if_pos (show NP l path 0 a from ⟨hin,.inl rfl⟩)]
      congr 2
     | succ i =>
      have hw:IntKind.i64.wrap (((i+1:Nat):Int)-1)=(i:Int):=by rw[wrap64 (by omega) (by omega)];omega
      have hpi:path[i]? = some (path[i]'(by omega)):=List.getElem?_eq_getElem _
      have hst:=hbef i _ (by omega) hpi
      obtain⟨x,hx⟩:=Jj hst.1
      rw[if_pos (by simp),hw,cu hpi]
      simp only[Option.bind_some,hx]
      have hiff:NP l path (i+1) a↔(x.bT=a∨x.bJ=a):=by
       constructor
       ·rintro⟨-,h|⟨p,y,h1,h2,h3⟩⟩
        ·omega
        ·simp only[Nat.add_sub_cancel]at h1
         rw[hpi]at h1;cases h1
         rw[hx]at h2;cases h2
         exact h3
       ·exact fun h=>⟨hin,.inr ⟨_,x,hpi,hx,h⟩⟩
      have hw2:IntKind.i64.wrap (((i+1:Nat):Int)+1)=((i+1+1:Nat):Int):=bQ (by omega)
      by_cases h1:x.bT=a
      ·rw[if_neg (by simp[h1]),if_pos (hiff.2 (.inl h1)),hw2]
      ·rw[if_pos (by simp[h1])]
       by_cases h2:x.bJ=a
       ·rw[if_neg (by simp[h2]),if_pos (hiff.2 (.inr h2)),hw2]
       ·rw[if_pos (by simp[h2]),if_neg (fun h=>(hiff.1 h).elim h1 h2)]
    ·have hd:decide (0≤a∧a<(({ ag:=l } : au).ag.length:Int))=false:=decide_eq_false hin
     simp only[hd,Bool.not_false,if_true]
     rw[if_neg (fun h:NP l path i a=>hin h.1)]) (by simp only[gD];rw[if_neg (by simp)])
   rcases hloop with⟨h,he⟩|⟨h,he⟩
   ·rw[he];simp only[Option.bind_some];rw[decide_eq_true (show tx l path from ⟨hsd,hp,h⟩)]
   ·rw[he];simp only[Option.bind_some];rw[decide_eq_false (fun hw:tx l path=>h hw.2.2)]
theorem Tp (v:au) (path:List Int):l5 v path=iz v path:=by
 unfold l5 iz
 obtain⟨b,hb,hs⟩:=T.oK v
 obtain⟨c,hc,ht⟩:=T.AE v.ag
 have hbc:b=c:=by
  cases b<;>cases c<;>simp_all
 have hL:oC v path=gD v path:=by
  funext s
  simp only[oC,gD,Y4,has_eq]
 rw[hb,show iM v=some c from hc,hbc,hL]
def IH (l:List av) (path:List Int) (total blind:Int) (text:ByteArray) (value own:Int):Prop :=
 tx l path∧∃a b x y,path.head? = some a∧path.getLast? = some b∧P.idx l a=some x∧P.idx l b=some y∧x.aE=total∧x.aY=blind∧y.bT = -1∧jH l b text value own
theorem Fh {l:List av} {path:List Int} (h:tx l path):∃a b x y,path.head? = some a∧path.getLast? = some b∧P.idx l a=some x∧P.idx l b=some y:=by
 obtain⟨-,h1,h2⟩:=h
 have hpos:0<path.length:=List.length_pos_iff.2 h1
 have ha:path[0]? = some path[0]:=List.getElem?_eq_getElem hpos
 have hb:path[path.length-1]? = some (path[path.length-1]'(by omega)):=List.getElem?_eq_getElem _
 obtain⟨x,hx⟩:=Jj (h2 _ _ ha).1
 obtain⟨y,hy⟩:=Jj (h2 _ _ hb).1
 exact⟨_,_,x,y,by rw[List.head?_eq_getElem?];exact ha,by rw[List.getLast?_eq_getElem?];exact hb,hx,hy⟩
theorem yS (path:List Int):P.idx path 0=path.head?:=by
 cases path with
 | nil=>rfl
 | cons a l=>exact uT (by omega) (by simp)
open Classical in
theorem KN {l:List av} {path:List Int} (hl:path.length<4611686018427387904) (total blind:Int) (text:ByteArray) (value own:Int):iy ⟨l⟩ path total blind text value own=some (decide (IH l path total blind text value own)):=by
 unfold iy
 rw[N3 hl]
 simp only[Option.bind_some]
 by_cases hw:tx l path
 ·rw[if_neg (by simp[hw])]
  obtain⟨a,b,x,y,ha,hb,hx,hy⟩:=Fh hw
  rw[yS,yV hl,ha,hb]
  simp only[Option.bind_some,hx]
  have hiff:IH l path total blind text value own↔x.aE=total∧x.aY=blind∧y.bT = -1∧jH l b text value own:=by
   constructor
   ·rintro⟨-,a',b',x',y',h1,h2,h3,h4,h5⟩
    rw[ha]at h1;cases h1
    rw[hb]at h2;cases h2
    rw[hx]at h3;cases h3
    rw[hy]at h4;cases h4
    exact h5
   ·exact fun h=>⟨hw,a,b,x,y,ha,hb,hx,hy,h⟩
  by_cases h1:x.aE=total
  ·rw[if_pos (by simp[h1])]
   by_cases h2:x.aY=blind
   ·rw[if_pos (by simp[h2]),hy]
    simp only[Option.bind_some,jl]
    by_cases h3:y.bT = -1
    ·rw[if_pos (by simp[h3]),T.CB]
     simp only[Option.bind_some]
     congr 1
     rw[decide_eq_decide,hiff]
     exact⟨fun h=>⟨h1,h2,h3,h⟩,fun h=>h.2.2.2⟩
    ·rw[if_neg (by simp[h3]),decide_eq_false (fun h=>h3 (hiff.1 h).2.2.1)]
   ·rw[if_neg (by simp[h2]),decide_eq_false (fun h=>h2 (hiff.1 h).2.1)]
  ·rw[if_neg (by simp[h1]),decide_eq_false (fun h=>h1 (hiff.1 h).1)]
 ·rw[if_pos (by simp[hw]),decide_eq_false (fun h:IH l path total blind text value own=>hw h.1)]
theorem PM {l:List av} (hs:fR l) {i:Int} {x:av} (hx:P.idx l i=some x) (hL:x.bT = -1):x.bJ = -1:=by
 obtain⟨h0,h1⟩:=xH hx
 have hx':=D1 hx
 rcases hs.2 i.toNat (by omega) x hx' with h|h
 ·exact h.2.1
 ·obtain⟨u,v,hu,-⟩:=T.HN.1 h
  rw[hL]at hu
  have:=(xH hu).1
  omega
open Classical in
theorem Th {l:List av} {path:List Int} (hl:path.length<4611686018427387904) (total blind:Int) (text:ByteArray) (value own:Int):l4 ⟨l⟩ path total blind text value own=iy ⟨l⟩ path total blind text value own:=by
 unfold l4 iy
 rw[Tp,N3 hl]
 simp only[Option.bind_some]
 by_cases hw:tx l path
 ·rw[if_neg (by simp[hw]),if_neg (by simp[hw])]
  obtain⟨a,b,x,y,ha,hb,hx,hy⟩:=Fh hw
  rw[yS,yV hl,ha,hb]
  simp only[Option.bind_some,hx,hy,T.H8,jl,T.H9]
  have:decide (y.bT = -1∧y.bJ = -1)=(y.bT == -1):=by
   by_cases h:y.bT = -1
   ·simp[h,PM hw.1 hy h]
   ·simp[h]
  rw[this]
 ·rw[if_pos (by simp[hw]),if_pos (by simp[hw])]
def tn (l:List av) (root total blind:Int) (x:aF):Prop:=x.cP.head? = some root∧x.cP.getLast? = some x.cg∧IH l x.cP total blind x.cp x.aE x.aY
open Classical in
theorem VQ {l:List av} {root total blind:Int} {x:aF} (hl:x.cP.length<4611686018427387904):ep ⟨⟨l⟩,root,total,blind⟩ x=some (decide (tn l root total blind x)):=by
 unfold ep
 by_cases hp:x.cP=[]
 ·rw[if_neg (by simp[hp]),decide_eq_false (fun h:tn l root total blind x=>by have:=h.1;rw[hp]at this;cases this)]
 ·have hpos:0<x.cP.length:=List.length_pos_iff.2 hp
  rw[if_pos (by simp;omega),yS]
  obtain⟨a,ha⟩:∃a,x.cP.head? = some a:=by cases h:x.cP with|nil=>exact absurd h hp|cons a l=>exact⟨a,rfl⟩
  obtain⟨b,hb⟩:∃b,x.cP.getLast? = some b:=⟨_,List.getLast?_eq_some_getLast hp⟩
  rw[ha]
  simp only[Option.bind_some]
  by_cases h1:a=root
  ·rw[if_pos (by simp[h1]),yV hl,hb]
   simp only[Option.bind_some]
   by_cases h2:b=x.cg
   ·rw[if_pos (by simp[h2]),KN hl]
    simp only[Option.bind_some]
    congr 1
    rw[decide_eq_decide]
    exact⟨fun h=>⟨by rw[ha,h1],by rw[hb,h2],h⟩,fun h=>h.2.2⟩
   ·rw[if_neg (by simp[h2]),decide_eq_false (fun h:tn l root total blind x=>h2 (by have:=h.2.1;rw[hb]at this;exact Option.some.inj this))]
  ·rw[if_neg (by simp[h1]),decide_eq_false (fun h:tn l root total blind x=>h1 (by have:=h.1;rw[ha]at this;exact Option.some.inj this))]
theorem ZC {x y:Int} (hx:Ln x≤jE) (hy:Ln y≤jE):mL (fb x) (fb y)=some (fb (x*y),0):=by
 have hL:jE=4398046511104:=rfl
 have hLa:=zU x y
 unfold mL
 rw[gQ (by omega),Option.bind_some]
 simp only[Bool.not_true,Bool.false_eq_true,if_false]
 rw[gQ (by omega),Option.bind_some,Option.bind_some]
 simp only[Bool.not_true,Bool.false_eq_true,if_false]
 have hxd:(fb x).aa=aL x.natAbs:=rfl
 have hyd:(fb y).aa=aL y.natAbs:=rfl
 have hxs:(fb x).ah=x.sign:=rfl
 have hys:(fb y).ah=y.sign:=rfl
 rw[hxd,hyd,hxs,hys]
 have fx:(aL x.natAbs).length≤4398046511104:=by show Ln x≤_;omega
 have fy:(aL y.natAbs).length≤4398046511104:=by show Ln y≤_;omega
 have hw:IntKind.i64.wrap (x.sign*y.sign)=(x*y).sign:=by
  rw[Int.sign_mul]
  apply iV
  rcases qK x with h|h|h<;>rcases qK y with g|g|g<;>rw[h,g]<;>decide
 rw[hw,P3 (cM _) (cM _) (by omega),Option.bind_some,bR,bR]
 have hn:((x.natAbs:Int)*y.natAbs).toNat=(x*y).natAbs:=by rw[Int.natAbs_mul,← Int.natCast_mul];rfl
 rw[hn,xK (x:=x*y) rfl (fun _=>rfl) (fun _=>by show Ln (x*y)≤_;omega),Option.bind_some]
theorem Cu {a b:Rat} (h:LF a+LF b≤jE):gn (yY a) (yY b)=some (Sp a b):=by
 have n1:=IC a
 have n2:=IC b
 have d1:=IB a
 have d2:=IB b
 have m1:=zU a.num b.den
 have m2:=zU b.num a.den
 have hL:jE=4398046511104:=rfl
 have hB:jJ=17592186043904:=rfl
 unfold gn
 rw[CF (Ce (by omega)),As,Option.bind_some]
 simp only[Bool.not_true,Bool.false_eq_true,if_false]
 rw[CF (Ce (by omega)),As,Option.bind_some,Option.bind_some]
 simp only[Bool.not_true,Bool.false_eq_true,if_false]
 show (mL (fb a.num) (fb b.den)).bind _=_
 rw[ZC (by omega) (by omega),Option.bind_some]
 show (mL (fb b.num) (fb a.den)).bind _=_
 rw[ZC (by omega) (by omega),Option.bind_some]
 show (gj (fb (a.num*b.den)) (fb (b.num*a.den))).bind _=_
 rw[Ke (by omega) (by omega),Option.bind_some,QW]
def qU (f:aQ):Prop:=f.cn.aa.length≤4∧f.cl.aa.length≤4
def xS (s:dt):Prop:=qU s.bq∧qU s.aT
theorem qU.fit {f:aQ} (h:qU f):Si f:=by
 have hB:jJ=17592186043904:=rfl
 exact⟨by have:=h.1;omega,by have:=h.2;omega⟩
theorem qU.LF {q:Rat} (h:qU (yY q)):LF q≤4:=by
 have h1:Ln q.num≤4:=h.1
 have h2:Ln q.den≤4:=h.2
 unfold P.LF
 omega
theorem Yy {n:Int} (h : -9223372036854775808≤n∧n<9223372036854775808):LF (n:Rat)≤5:=by
 have h1:Ln n≤5:=Ql (by
  have:pw 5=1267650600228229401496703205376:=by decide
  omega)
 have h2:=Kf (x:=((1:Nat):Int)) (by decide)
 unfold P.LF
 rw[Rat.num_intCast,Rat.den_intCast]
 omega
theorem On {a b:Rat} : decide (Sp a b≤0)=decide (a≤b):=by
 unfold Sp
 rw[decide_eq_decide]
 by_cases h1:a<b
 ·rw[if_pos h1];simp only[Int.reduceNeg,Int.reduceLE,true_iff];exact Rat.le_of_lt h1
 ·rw[if_neg h1]
  by_cases h2:b<a
  ·rw[if_pos h2];simp only[Int.reduceLE,false_iff];exact fun h=>absurd h2 (Rat.not_lt.2 h)
  ·rw[if_neg h2];simp only[Int.le_refl,true_iff];exact Rat.not_lt.1 h2
def sR (s:dt):Bool:=(gC s).getD false
def sH (s:dt) (n:Int):Bool:=(lJ s (yY n)).getD false
def inS (s:dt) (a b:Rat):Prop:=s.bq=yY a∧s.aT=yY b∧a≤b
theorem AL {s:dt} (h:xS s):gC s=some (sR s)∧jw s=some (sR s)∧(sR s=true↔∃a b,inS s a b):=by
 have hL:jE=4398046511104:=rfl
 have key:∃c,gC s=some c∧jw s=some c∧(c=true↔∃a b,inS s a b):=by
  unfold gC jw
  rw[q0 h.1.fit,CF h.1.fit]
  simp only[Option.bind_some]
  cases h1:okF s.bq with
  | false =>
   refine⟨false,by simp,by simp,by simp only[Bool.false_eq_true,false_iff];rintro⟨a,b,e,-⟩;rw[e,As]at h1;cases h1⟩
  | true =>
   simp only[if_true]
   rw[q0 h.2.fit,CF h.2.fit]
   simp only[Option.bind_some]
   cases h2:okF s.aT with
   | false =>
    refine⟨false,by simp,by simp,by simp only[Bool.false_eq_true,false_iff];rintro⟨a,b,-,e,-⟩;rw[e,As]at h2;cases h2⟩
   | true =>
    obtain⟨a,ha⟩:=JF.1 h1
    obtain⟨b,hb⟩:=JF.1 h2
    have la:=qU.LF (ha ▸ h.1)
    have lb:=qU.LF (hb ▸ h.2)
    simp only[if_true]
    rw[ha,hb,zC (by omega),Cu (by omega)]
    simp only[Option.bind_some,On]
    refine⟨_,rfl,rfl,?_⟩
    rw[decide_eq_true_eq]
    constructor
    ·exact fun hle=>⟨a,b,ha,hb,hle⟩
    ·rintro⟨a',b',e1,e2,e3⟩
     rw[Co (ha.symm.trans e1),Co (hb.symm.trans e2)]
     exact e3
 obtain⟨c,h1,h2,h3⟩:=key
 have:sR s=c:=by unfold sR;rw[h1];rfl
 rw[this]
 exact⟨h1,h2,h3⟩
theorem RE {s:dt} (h:xS s) {n:Int} (hn : -9223372036854775808≤n∧n<9223372036854775808):lJ s (yY n)=some (sH s n)∧qI s (yY n)=some (sH s n)∧(sH s n=true↔∃a b,inS s a b∧a≤n∧(n:Rat)≤b):=by
 have hL:jE=4398046511104:=rfl
 have hB:jJ=17592186043904:=rfl
 obtain⟨r1,r2,r3⟩:=AL h
 have ln:=Yy hn
 have key:∃c,lJ s (yY n)=some c∧qI s (yY n)=some c∧(c=true↔∃a b,inS s a b∧a≤n∧(n:Rat)≤b):=by
  unfold lJ qI
  rw[r1,r2]
  simp only[Option.bind_some]
  cases hr:sR s with
  | false =>
   refine⟨false,by simp,by simp,by simp only[Bool.false_eq_true,false_iff];rintro⟨a,b,hi,-⟩;have:=r3.2 ⟨a,b,hi⟩;rw[hr]at this;cases this⟩
  | true =>
   obtain⟨a,b,ha,hb,hle⟩:=r3.1 hr
   have la:=qU.LF (ha ▸ h.1)
   have lb:=qU.LF (hb ▸ h.2)
   simp only[if_true]
   rw[CG (by omega),CF (Ce (by omega)),As]
   simp only[Option.bind_some,if_true]
   rw[ha,hb,zC (by omega),Cu (by omega)]
   simp only[Option.bind_some,On]
   by_cases h1:a≤n
   ·simp only[h1,decide_true,if_true]
    rw[zC (by omega),Cu (by omega)]
    simp only[Option.bind_some,On]
    refine⟨_,rfl,rfl,?_⟩
    rw[decide_eq_true_eq]
    constructor
    ·exact fun h2=>⟨a,b,⟨ha,hb,hle⟩,h1,h2⟩
    ·rintro⟨a',b',⟨e1,e2,-⟩,-,e3⟩
     rw[Co (hb.symm.trans e2)]
     exact e3
   ·simp only[h1,decide_false,Bool.false_eq_true,if_false]
    refine⟨false,rfl,rfl,?_⟩
    simp only[Bool.false_eq_true,false_iff]
    rintro⟨a',b',⟨e1,-⟩,e3,-⟩
    rw[← Co (ha.symm.trans e1)]at e3
    exact h1 e3
 obtain⟨c,h1,h2,h3⟩:=key
 have:sH s n=c:=by unfold sH;rw[h1];rfl
 rw[this]
 exact⟨h1,h2,h3⟩
theorem ZN (s:dt):∃b,sY s 4=some b∧(b=true↔xS s):=by
 unfold sY
 rw[ZO]
 simp only[Option.bind_some]
 by_cases h:((s.bq.cn.aa.length:Int)≤4∧(s.bq.cl.aa.length:Int)≤4)
 ·rw[if_pos (by simp[h]),ZO]
  refine⟨_,rfl,?_⟩
  rw[decide_eq_true_eq]
  exact⟨fun h2=>⟨⟨by omega,by omega⟩,⟨by omega,by omega⟩⟩,fun h2=>⟨by have:=h2.2.1;omega,by have:=h2.2.2;omega⟩⟩
 ·rw[if_neg (by simpa using h)]
  refine⟨false,rfl,?_⟩
  simp only[Bool.false_eq_true,false_iff]
  exact fun h2=>h ⟨by have:=h2.1.1;omega,by have:=h2.1.2;omega⟩
theorem oX {α:Type} (q:α→Bool):∀(l:List α) (k:Nat),(l.find? q=none∧dN (fun i x=>if q x then some ((i:Nat):Int) else none) k l=none)∨∃(j:Nat) (x:α),l.find? q=some x∧l[j]? = some x∧dN (fun i x=>if q x then some ((i:Nat):Int) else none) k l=some ((k+j:Nat):Int)
 | [],k =>.inl ⟨rfl,rfl⟩
 | x::l,k=>by
  by_cases h:q x=true
  ·refine .inr ⟨0,x,by simp[h],rfl,?_⟩
   simp only[dN]
   rw[if_pos h]
   rfl
  ·have hf:(x::l).find? q=l.find? q:=by rw[List.find?_cons_of_neg h]
   have hs:dN (fun i x=>if q x then some ((i:Nat):Int) else none) k (x::l)=dN (fun i x=>if q x then some ((i:Nat):Int) else none) (k+1) l:=by
    simp only[dN]
    rw[if_neg h]
   rw[hf,hs]
   rcases oX q l (k+1) with h1|⟨j,y,h1,h2,h3⟩
   ·exact .inl h1
   ·exact .inr ⟨j+1,y,h1,by simpa using h2,by rw[h3];congr 2;omega⟩
theorem Ad {α ρ:Type} (q:α→Bool) (c:ρ):∀(l:List α) (k:Nat),dN (fun _ x=>if q x then some c else none) k l=if l.any q then some c else none
 | [],k=>rfl
 | x::l,k=>by
  simp only[dN,List.any_cons]
  by_cases h:q x=true
  ·rw[if_pos h];simp[h]
  ·rw[if_neg h]
   simp only[h,Bool.false_or]
   exact Ad q c l (k+1)
theorem U1 {ops:List aF} (hl:ops.length<4611686018427387904) (leaf:Int):bp ops leaf=some (match dN (fun i x=>if (x.cg==leaf:Bool) then some ((i:Nat):Int) else none) 0 ops with|none => -1|some r=>r):=by
 unfold bp
 rw[BE ops (fun i x=>if (x.cg==leaf:Bool) then some ((i:Nat):Int) else none) hl (fun i x hx=>by
  have hi:=(List.getElem?_eq_some_iff.1 hx).1
  simp only[ck,dW]
  rw[if_pos (by simp;omega),cu hx]
  simp only[Option.bind_some]
  by_cases h:(x.cg==leaf)=true
  ·rw[if_pos h,if_pos h]
  ·rw[if_neg h,if_neg h,bQ (by omega)]) (by simp only[ck];rw[if_neg (by simp)])]
 simp only[Option.bind_some]
 split<;>rename_i h<;>split at h<;>simp_all
def off (ms:List az) (leaf value:Int):Bool:=ms.any fun m=>m.cg==leaf && !sH m.bz value
def Pj (ms:List az):Prop:=ms.length<4611686018427387904∧∀m∈ms,xS m.bz
theorem contains_eq {ms:List az} (h:Pj ms) (leaf:Int) {value:Int} (hv : -9223372036854775808≤value∧value<9223372036854775808):bo ms leaf (yY value)=some (off ms leaf value):=by
 unfold bo bP
 rw[BE ms (fun i m=>if (m.cg==leaf && !sH m.bz value:Bool) then some ((i:Nat):Int) else none) h.1 (fun i x hx=>by
  have hi:=(List.getElem?_eq_some_iff.1 hx).1
  have:=h.1
  simp only[cw,dX]
  rw[if_pos (by simp;omega),cu hx]
  simp only[Option.bind_some]
  rw[(RE (h.2 x (List.mem_of_getElem? hx)) hv).1]
  by_cases h1:(x.cg==leaf)=true
  ·simp only[h1,if_true,Option.bind_some,Bool.true_and]
   cases sH x.bz value<;>simp[bQ (show i<4611686018427387904 by omega)]
  ·simp only[h1,Bool.false_eq_true,if_false,Option.bind_some,Bool.false_and]
   rw[bQ (by omega)]) (by simp only[cw];rw[if_neg (by simp)])]
 simp only[Option.bind_some]
 rcases oX (fun m:az=>m.cg==leaf && !sH m.bz value) ms 0 with⟨h1,h2⟩|⟨j,x,h1,h2,h3⟩
 ·rw[h2]
  simp only[Option.bind_some]
  have:off ms leaf value=false:=by
   unfold off
   rw[List.any_eq_false]
   intro m hm
   have:=List.find?_eq_none.1 h1 m hm
   simpa using this
  rw[this];rfl
 ·rw[h3]
  simp only[Option.bind_some]
  have:off ms leaf value=true:=by
   unfold off
   rw[List.any_eq_true]
   exact⟨x,List.mem_of_getElem? h2,by simpa using List.find?_some h1⟩
  rw[this]
  congr 1
open Classical in
noncomputable def j5 (l:List av) (root total blind leaf:Int) (ops:List aF) (ms:List az):Int :=
 match ops.find? fun x=>x.cg==leaf with
 | none=>0
 | some x=>if tn l root total blind x then (if off ms leaf x.aE then 2 else -1) else 1
def Nk (ops:List aF):Prop:=ops.length<4611686018427387904∧∀x∈ops,x.cP.length<4611686018427387904 ∧ -9223372036854775808≤x.aE∧x.aE<9223372036854775808
theorem Ti {ops:List aF} {ms:List az} (ho:Nk ops) (hm:Pj ms) (l:List av) (root total blind leaf:Int):dV ⟨⟨l⟩,root,total,blind⟩ leaf ops ms=some (j5 l root total blind leaf ops ms):=by
 unfold dV j5
 rw[U1 ho.1]
 simp only[Option.bind_some]
 rcases oX (fun x:aF=>x.cg==leaf) ops 0 with⟨h1,h2⟩|⟨j,x,h1,h2,h3⟩
 ·rw[h2,h1];rfl
 ·rw[h3,h1]
  have hox:=ho.2 x (List.mem_of_getElem? h2)
  simp only[Nat.zero_add]
  rw[if_neg (by simp),cu h2]
  simp only[Option.bind_some]
  rw[VQ hox.1]
  simp only[Option.bind_some]
  by_cases hs:tn l root total blind x
  ·rw[if_neg (by simp[hs]),if_pos hs,ZA hox.2]
   simp only[Option.bind_some]
   rw[contains_eq hm leaf hox.2]
   simp only[Option.bind_some]
   cases off ms leaf x.aE<;>rfl
  ·rw[if_pos (by simp[hs]),if_neg hs]
theorem Tj (l:List av) (root total blind leaf:Int) (ops:List aF) (ms:List az):j5 l root total blind leaf ops ms = -1∨0≤j5 l root total blind leaf ops ms:=by
 unfold j5
 split
 ·exact .inr (by decide)
 ·split
  ·split
   ·exact .inr (by decide)
   ·exact .inl rfl
  ·exact .inr (by decide)
noncomputable def lR (l:List av) (root total blind:Int) (ops:List aF) (ms:List az) (leaf:Int):Option bn :=
 if j5 l root total blind leaf ops ms = -1 then none else some ⟨leaf,j5 l root total blind leaf ops ms⟩
open Classical in
noncomputable def Ak (l:List av) (root total blind:Int) (asked:List Int) (ops:List aF) (ms:List az):List bn×Int :=
 if fR l∧0≤root∧root<l.length then (if ms.all fun m=>sR m.bz then (if asked.Nodup then (asked.filterMap (lR l root total blind ops ms),0) else ([],5)) else ([],1)) else ([],1)
theorem uN {α β:Type} (f:α→Option β) {l:List α} {i:Nat} {x:α} (h:l[i]? = some x):(l.take (i+1)).filterMap f=(l.take i).filterMap f++(f x).toList:=by
 obtain⟨hi,rfl⟩:=List.getElem?_eq_some_iff.1 h
 rw[List.take_succ_eq_append_getElem hi,List.filterMap_append]
 congr 1
theorem Tk {ms:List az} (h:Pj ms):aJ ms=some (!(ms.all fun m=>sR m.bz)):=by
 unfold aJ ct
 rw[BE ms (fun i m=>if (!sR m.bz:Bool) then some ((i:Nat):Int) else none) h.1 (fun i x hx=>by
  have hi:=(List.getElem?_eq_some_iff.1 hx).1
  have:=h.1
  simp only[cX,iH]
  rw[if_pos (by simp;omega),cu hx]
  simp only[Option.bind_some]
  rw[(AL (h.2 x (List.mem_of_getElem? hx))).1]
  simp only[Option.bind_some]
  cases sR x.bz<;>simp[bQ (show i<4611686018427387904 by omega)]) (by simp only[cX];rw[if_neg (by simp)])]
 simp only[Option.bind_some]
 rcases oX (fun m:az => !sR m.bz) ms 0 with⟨h1,h2⟩|⟨j,x,h1,h2,h3⟩
 ·rw[h2]
  have:(ms.all fun m=>sR m.bz)=true:=by
   rw[List.all_eq_true]
   intro m hm
   have:=List.find?_eq_none.1 h1 m hm
   simpa using this
  rw[this];rfl
 ·rw[h3]
  have:(ms.all fun m=>sR m.bz)=false:=by
   rw[List.all_eq_false]
   exact⟨x,List.mem_of_getElem? h2,by simpa using List.find?_some h1⟩
  rw[this]
  simp
open Classical in
theorem U6 {ops:List aF} {ms:List az} {asked:List Int} (ho:Nk ops) (hm:Pj ms) (ha:asked.length≤1000000) (l:List av) (root total blind:Int):eV ⟨l⟩ root total blind asked ops ms=some (Ak l root total blind asked ops ms):=by
 unfold eV Ak
 obtain⟨b,hb,hs⟩:=T.oK ⟨l⟩
 rw[hb]
 simp only[Option.bind_some]
 have hgo:∀c:Bool,(c=false↔(fR l∧0≤root∧root<l.length))→(if c then some (([]:List bn),(1:Int)) else (aJ ms).bind fun r4=>if r4 then some ([],1) else (fV asked).bind fun r6=>if r6 then some ([],5) else (aS (eo ⟨l⟩ root total blind asked ops ms) (0,[])).bind fun l17bx=>some (l17bx,0))=some (if fR l∧0≤root∧root<l.length then (if ms.all fun m=>sR m.bz then (if asked.Nodup then (asked.filterMap (lR l root total blind ops ms),0) else ([],5)) else ([],1)) else ([],1)):=by
  intro c hc
  cases c with
  | true =>
   rw[if_pos rfl,if_neg (fun h=>absurd (hc.2 h) (by simp))]
  | false =>
   rw[if_neg (by simp),if_pos (hc.1 rfl),Tk hm]
   simp only[Option.bind_some]
   cases hall:ms.all fun m=>sR m.bz with
   | false=>simp
   | true =>
    simp only[Bool.not_true,Bool.false_eq_true,if_false,if_true]
    rw[wk (by omega)]
    simp only[Option.bind_some]
    by_cases hn:asked.Nodup
    ·rw[if_neg (by simp[hn]),if_pos hn]
     have hloop:=qL (body:=eo ⟨l⟩ root total blind asked ops ms) asked.length (fun i=>((i:Int),(asked.take i).filterMap (lR l root total blind ops ms))) (r:=asked.filterMap (lR l root total blind ops ms)) (by omega) (fun i hi=>by
      have hx:asked[i]? = some asked[i]:=List.getElem?_eq_getElem hi
      simp only[eo]
      rw[if_pos (by simp;omega),cu hx]
      simp only[Option.bind_some]
      rw[Ti ho hm]
      simp only[Option.bind_some]
      rw[uN _ hx]
      have hlen:((asked.take i).filterMap (lR l root total blind ops ms)).length≤1000000-1:=by
       have h1:=List.length_filterMap_le (lR l root total blind ops ms) (asked.take i)
       have h2:(asked.take i).length≤i:=by simp;omega
       omega
      by_cases hr:j5 l root total blind asked[i] ops ms = -1
      ·rw[if_neg (by simp[hr])]
       simp only[lR,hr,if_true,Option.toList_none,List.append_nil]
       rw[bQ (by omega)]
      ·rw[if_pos (by simp[hr]),xC (by simp;omega) (by decide)]
       simp only[Option.bind_some]
       rw[show lR l root total blind ops ms asked[i]=some ⟨asked[i],j5 l root total blind asked[i] ops ms⟩ from if_neg hr,bQ (by omega)]
       rfl) (by
      simp only[eo]
      rw[if_neg (by simp),List.take_length])
     have hloop':aS (eo ⟨l⟩ root total blind asked ops ms) (0,[])=some (asked.filterMap (lR l root total blind ops ms)):=hloop
     rw[hloop']
     rfl
    ·rw[if_pos (by simp[hn]),if_neg hn]
 cases b with
 | false =>
  have:¬fR l:=fun h=>absurd (hs.2 h) (by simp)
  exact hgo true ⟨fun h=>(by cases h),fun h=>absurd h.1 this⟩
 | true =>
  have hsd:=hs.1 rfl
  simp only[Bool.not_true,Bool.false_eq_true,if_false]
  by_cases h1:root<0
  ·rw[if_pos (by simp[h1])]
   exact hgo true ⟨fun h=>(by cases h),fun h=>(by omega)⟩
  ·rw[if_neg (by simp;omega)]
   refine hgo _ ?_
   rw[decide_eq_false_iff_not]
   exact⟨fun h=>⟨hsd,by omega,by omega⟩,fun h=>by omega⟩
theorem DJ (x y:bn):((x.cg==y.cg)&&(x.lj==y.lj))=true↔x=y:=by
 obtain⟨x1,x2⟩:=x
 obtain⟨y1,y2⟩:=y
 simp
open Classical in
theorem VL {a b:List bn} (ha:a.length<4611686018427387904):np a b=some (decide (a=b)):=by
 unfold np
 by_cases hl:a.length=b.length
 ·rw[if_neg (by simp[hl])]
  have hloop:=allI a (body:=nq a b) (fun i x=>b[i]? = some x) false ha (fun i x hx _=>by
    have hi:=(List.getElem?_eq_some_iff.1 hx).1
    have hb:b[i]? = some (b[i]'(by omega)):=List.getElem?_eq_getElem _
    simp only[nq]
    rw[if_pos (by simp;omega),cu hx,cu hb]
    simp only[Option.bind_some]
    by_cases h:x=b[i]'(by omega)
    ·rw[if_neg (by rw[(DJ x _).2 h];decide),if_pos (by rw[hb,h]),bQ (by omega)]
    ·have:((x.cg==(b[i]'(by omega)).cg)&&(x.lj==(b[i]'(by omega)).lj))=false:=by
      rw[Bool.eq_false_iff]
      exact fun hq=>h ((DJ _ _).1 hq)
     rw[this,if_pos (by decide),if_neg (fun hq=>h (by rw[hb]at hq;exact (Option.some.inj hq).symm))]) (by simp only[nq];rw[if_neg (by simp)])
  rcases hloop with⟨h,he⟩|⟨h,he⟩
  ·rw[he]
   simp only[Option.bind_some]
   have:a=b:=by
    apply List.ext_getElem hl
    intro i h1 h2
    have:=h i a[i] (List.getElem?_eq_getElem h1)
    rw[List.getElem?_eq_getElem h2]at this
    exact (Option.some.inj this).symm
   rw[decide_eq_true this]
  ·rw[he]
   simp only[Option.bind_some]
   have:¬a=b:=by
    rintro rfl
    exact h fun i x hx=>hx
   rw[decide_eq_false this]
 ·rw[if_pos (by simp;omega),decide_eq_false (fun h=>hl (by rw[h]))]
theorem ZP {ops:List aF} {ms:List az} (h1:ops.length<4611686018427387904) (h2:ms.length<4611686018427387904):∃b,te ops ms=some b∧(b=true→ops.length≤14∧ms.length≤14∧∀m∈ms,xS m.bz):=by
 unfold te
 obtain⟨r,hr,hp⟩:=gM (body:=tf ops) (fun s=>∃i:Nat,s=i∧i≤ops.length∧i≤15) (fun s=>(15-s).toNat) (fun r=>match r with | .inl _=>True | .inr b=>b=false) (s:=0) ⟨0,rfl,by omega,by omega⟩
  (by have:FU=1000000000000000000000000:=rfl;omega) (by
   rintro s ⟨i,rfl,g1,g2⟩
   unfold tf
   dsimp only
   by_cases hi:i<ops.length∧i≤14
   ·rw[if_pos (by simp;omega)]
    simp only[Option.bind_some]
    rw[if_pos (by simp;omega)]
    simp only[cu (List.getElem?_eq_getElem hi.1),Option.bind_some,bQ (show i<4611686018427387904 by omega)]
    split
    ·exact .inr ⟨_,rfl,rfl⟩
    ·split
     ·exact .inr ⟨_,rfl,rfl⟩
     ·exact .inl ⟨_,rfl,⟨i+1,rfl,by omega,by omega⟩,by omega⟩
   ·refine .inr ⟨.inl (),?_,trivial⟩
    by_cases hj:i<ops.length
    ·rw[if_pos (by simp;omega)]
     simp only[Option.bind_some]
     rw[if_neg (by simp;omega)]
    ·rw[if_neg (by simp;omega)]
     simp)
 rw[hr]
 simp only[Option.bind_some]
 cases r with
 | inr b=>subst hp;exact⟨_,rfl,fun h=>by cases h⟩
 | inl u =>
  obtain⟨r',hr',hp'⟩:=gM (body:=th ms) (fun s=>∃i:Nat,s=i∧i≤ms.length∧i≤15∧∀j m,j<i→ms[j]? = some m→xS m.bz) (fun s=>(15-s).toNat) (fun r=>match r with | .inl _=>ms.length≤14→∀m∈ms,xS m.bz | .inr b=>b=false) (s:=0) ⟨0,rfl,by omega,by omega,fun j m hj=>by omega⟩
   (by have:FU=1000000000000000000000000:=rfl;omega) (by
    rintro s ⟨i,rfl,g1,g2,g3⟩
    unfold th
    dsimp only
    by_cases hi:i<ms.length∧i≤14
    ·rw[if_pos (by simp;omega)]
     simp only[Option.bind_some]
     rw[if_pos (by simp;omega)]
     have hx:=List.getElem?_eq_getElem hi.1
     obtain⟨b,hb,hb2⟩:=ZN ms[i].bz
     simp only[cu hx,Option.bind_some,hb,bQ (show i<4611686018427387904 by omega)]
     cases b with
     | false=>exact .inr ⟨_,rfl,rfl⟩
     | true =>
      refine .inl ⟨_,rfl,⟨i+1,rfl,by omega,by omega,fun j m hj hm =>?_⟩,by omega⟩
      by_cases hji:j=i
      ·subst hji;rw[hx]at hm;cases hm;exact hb2.1 rfl
      ·exact g3 j m (by omega) hm
    ·refine .inr ⟨.inl (),?_,fun hle m hm =>?_⟩
     ·by_cases hj:i<ms.length
      ·rw[if_pos (by simp;omega)]
       simp only[Option.bind_some]
       rw[if_neg (by simp;omega)]
      ·rw[if_neg (by simp;omega)]
       simp
     ·obtain⟨j,hj,rfl⟩:=List.getElem_of_mem hm
      exact g3 j _ (by omega) (List.getElem?_eq_getElem hj))
  dsimp only
  rw[hr']
  simp only[Option.bind_some]
  cases r' with
  | inr b=>subst hp';exact⟨_,rfl,fun h=>by cases h⟩
  | inl u =>
   dsimp only
   by_cases q1:(ops.length:Int)≤14
   ·rw[if_pos (by simp;omega)]
    refine⟨_,rfl,fun h =>?_⟩
    have q2:(ms.length:Int)≤14:=by simpa using h
    exact⟨by omega,by omega,hp' (by omega)⟩
   ·rw[if_neg (by simp;omega)]
    exact⟨_,rfl,fun h=>by cases h⟩
def TE:List av:=[⟨⟨#[97]⟩,30,7,-1,-1⟩,⟨⟨#[98]⟩,20,8,-1,-1⟩,⟨⟨#[99]⟩,10,9,-1,-1⟩,⟨⟨#[]⟩,50,15,0,1⟩,⟨⟨#[]⟩,60,24,3,2⟩]
theorem UJ:ma ⟨[]⟩ [ByteArray.mk #[97],ByteArray.mk #[98],ByteArray.mk #[99]] [30,20,10] [7,8,9]=some (⟨TE⟩,4,[0,1,2],0):=by kernel_rfl
def N7 (n:Int):aQ:=⟨⟨1,[n]⟩,⟨1,[1]⟩⟩
theorem DI:gZ 19 21=some ⟨N7 19,N7 21⟩∧gZ 21 22=some ⟨N7 21,N7 22⟩:=⟨by kernel_rfl,by kernel_rfl⟩
def exO (n:Int):List aF:=[⟨1,[4,3,1],⟨#[98]⟩,n,8⟩]
theorem Lo:dY ⟨TE⟩=some true:=by kernel_rfl
theorem Lm {asked:List Int} {ops:List aF} {ms:List az} {b:Bool} {out:List bn} (h1:aJ ms=some false) (h2:asked.length≤10) (h3:b=decide (¬asked.Nodup)) (h4:b=false→aS (eo ⟨TE⟩ 4 60 24 asked ops ms) (0,[])=some out):eV ⟨TE⟩ 4 60 24 asked ops ms=some (if b then ([],5) else (out,0)):=by
 unfold eV
 rw[Lo]
 simp only[Option.bind_some,Bool.not_true,Bool.false_eq_true,if_false]
 rw[if_neg (by decide)]
 simp only[Option.bind_some]
 rw[if_neg (by decide),h1]
 simp only[Option.bind_some,Bool.false_eq_true,if_false]
 rw[wk (by omega),← h3]
 simp only[Option.bind_some]
 cases b with
 | true=>rfl
 | false =>
  simp only[Bool.false_eq_true,if_false]
  rw[h4 rfl]
  rfl
theorem Ck {asked:List Int} {n:Int} {ms:List az} {out want:List bn} (h1:aJ ms=some false) (h2:asked.length≤10) (h3:asked.Nodup) (h4:aS (eo ⟨TE⟩ 4 60 24 asked (exO n) ms) (0,[])=some out) (h5:out=want) (h6:out.length<10):jK ⟨TE⟩ asked n ms want=some true:=by
 unfold jK
 have:=Lm (b:=false) h1 h2 (by simp[h3]) (fun _=>h4)
 unfold exO at this
 rw[this]
 simp only[Bool.false_eq_true,if_false,Option.bind_some,beq_self_eq_true,if_true]
 rw[VL (by omega)]
 simp[h5]
theorem VS:lX=some true:=by
 have hsd:fR TE:=by
  obtain⟨b,hb,hs⟩:=T.oK ⟨TE⟩
  rw[Lo]at hb
  cases hb
  exact hs.1 rfl
 have wf20:WK [2,0]:=fun x hx=>by simp at hx;omega
 have hs:(P7 [2,0]).size≤5000:=Wv wf20 (by simp)
 have hL:=WN hsd (by decide) (t:=P7 [2,0]) (by omega) (b:=5) (by omega)
 have hsd2:fR (TE++[av.mk (P7 [2,0]) 0 5 (-1) (-1)]):=NJ hsd (by decide) ⟨rfl,rfl,by simp only;omega,⟨by simp,by simp⟩,⟨by simp,by simp⟩⟩
 have hT:tp [[2,0]] 3 2=[2,0]:=by decide
 have hO:kL ⟨TE++[av.mk (P7 [2,0]) 0 5 (-1) (-1)]⟩ [5] [[2,0]] [5] 3 2=some ([2,0],0):=by
  rw[T.Qm (by simp) (fun r hr=>by simp at hr;subst hr;exact⟨by simp,wf20⟩) (by simp)]
  unfold qp
  rw[if_pos (XD (by omega) (by simp) (abu (by omega))),if_neg (by simp),if_neg (by simp),if_pos]
  ·rw[← hT];rfl
  ·intro i x hx
   match i with
   | 0 =>
    simp at hx;subst hx
    exact⟨hsd2,_,rfl,rfl,rfl,rfl⟩
   | i+1=>simp at hx
 have hD:fv ⟨TE++[av.mk (P7 [2,0]) 0 5 (-1) (-1)]⟩ [5] [[2,0]] [5] [0,1,2] 2=some ([2,0],0):=by
  unfold fv
  rw[show (([0,1,2]:List Int).length:Int)=3 by rfl,hO]
  simp only[Option.bind_some]
  rw[if_neg (by decide),wk (by decide)]
  simp only[Option.bind_some]
  rw[if_neg (by decide),show kK [2,0] 3=some ([2,0],0) by kernel_rfl]
  simp only[Option.bind_some]
  rw[show aS (kZ [0,1,2] ([2,0],0)) (0,[])=some [2,0] by kernel_rfl]
  rfl
 have c1:aJ [⟨1,⟨N7 19,N7 21⟩⟩]=some false:=by kernel_rfl
 have c2:aJ []=some false:=by kernel_rfl
 have c3:aJ [⟨1,⟨N7 19,N7 21⟩⟩,⟨1,⟨N7 21,N7 22⟩⟩]=some false:=by kernel_rfl
 have s1:=Ck (asked:=[1]) (n:=20) (ms:=[⟨1,⟨N7 19,N7 21⟩⟩]) (out:=[]) (want:=[]) c1 (by decide) (by decide) (by kernel_rfl) rfl (by decide)
 have s2:=Ck (asked:=[1,2]) (n:=20) (ms:=[]) (out:=[⟨2,0⟩]) (want:=[⟨2,0⟩]) c2 (by decide) (by decide) (by kernel_rfl) rfl (by decide)
 have s3:=Ck (asked:=[1]) (n:=21) (ms:=[]) (out:=[⟨1,1⟩]) (want:=[⟨1,1⟩]) c2 (by decide) (by decide) (by kernel_rfl) rfl (by decide)
 have s4:=Ck (asked:=[1]) (n:=20) (ms:=[⟨1,⟨N7 19,N7 21⟩⟩,⟨1,⟨N7 21,N7 22⟩⟩]) (out:=[⟨1,2⟩]) (want:=[⟨1,2⟩]) c3 (by decide) (by decide) (by kernel_rfl) rfl (by decide)
 have j1:=Lm (asked:=[1,1]) (ops:=[]) (ms:=[]) (b:=true) (out:=[]) c2 (by decide) (by decide) (fun h=>by cases h)
 have hI:ey [0,1,2] [0,1,2]=some true:=by kernel_rfl
 have hI2:ey [2,0] [2,0]=some true:=by kernel_rfl
 unfold lX
 rw[UJ]
 simp only[Option.bind_some]
 rw[if_neg (by decide),if_neg (by decide),hI]
 simp only[Option.bind_some,Bool.not_true,Bool.false_eq_true,if_false]
 rw[DI.1,DI.2]
 simp only[Option.bind_some]
 rw[s1,s2,s3,s4,j1,T.Qs wf20 (by simp)]
 simp only[Option.bind_some,if_true]
 rw[hL]
 simp only[Option.bind_some]
 rw[show ((TE.length:Nat):Int)=5 by rfl,hD]
 simp only[Option.bind_some]
 rw[if_pos (by decide),if_pos (by decide),if_pos (by decide),hI2]
 rfl
theorem Tg {l:List Int} {i:Nat} {x:Int} (hx:l[i]? = some x) (hl:l.length<4611686018427387904):aS (jy l (i:Int)) 0=some (if x∈l.take i then .inr true else .inl ()):=by
 have hi:=(List.getElem?_eq_some_iff.1 hx).1
 rw[VM l i (body:=jy l (i:Int)) (fun _ y=>if y=x then some true else none) (by omega) (by omega) (fun j y hj hy=>by
  unfold jy
  dsimp only
  rw[if_pos (by simp;omega)]
  simp only[cu hy,cu hx,Option.bind_some,bQ (show j<4611686018427387904 by omega)]
  by_cases h:y=x
  ·rw[if_pos (by simp[h]),if_pos h]
  ·rw[if_neg (by simp[h]),if_neg h]) (by unfold jy;simp)]
 by_cases hm:x∈l.take i
 ·rw[if_pos hm]
  obtain⟨j,hj,hjx⟩:=List.getElem_of_mem hm
  cases hf:dN (fun (_:Nat) y=>if y=x then some true else none) 0 (l.take i) with
  | none =>
   have:=gY.1 hf j _ (List.getElem?_eq_getElem hj)
   rw[if_pos hjx]at this
   cases this
  | some r =>
   obtain⟨j',y,-,h2⟩:=kr hf
   split at h2
   ·cases h2;rfl
   ·cases h2
 ·rw[if_neg hm]
  have:dN (fun (_:Nat) y=>if y=x then some true else none) 0 (l.take i)=none:=gY.2 fun j y hy=>if_neg fun h:y=x=>hm (h ▸ List.mem_of_getElem? hy)
  rw[this]
theorem Ib {l:List Int} (hl:l.length<4611686018427387904):jx l=some (decide (¬l.Nodup)):=by
 unfold jx
 rcases WR l (body:=lE l) (fun i x=>x∉l.take i) true hl (fun i x hx=>by
   have hi:=(List.getElem?_eq_some_iff.1 hx).1
   unfold lE
   dsimp only
   rw[if_pos (by simp;omega),Tg hx hl]
   simp only[Option.bind_some]
   by_cases hm:x∈l.take i
   ·rw[if_pos hm,if_neg (fun h=>h hm)]
   ·rw[if_neg hm,if_pos hm,← bQ (show i<4611686018427387904 by omega)]) (by unfold lE;simp) with⟨h,he⟩|⟨h,he⟩
 ·rw[he]
  simp only[Option.bind_some]
  rw[decide_eq_false (fun hn:¬l.Nodup=>hn (sK.2 h))]
 ·rw[he]
  simp only[Option.bind_some]
  rw[decide_eq_true (show ¬l.Nodup from fun hn=>h (sK.1 hn))]
theorem Tl {ops:List aF} (hl:ops.length≤1000) (leaf:Int):aS (iN leaf ops) ((-1),IntKind.i64.wrap ((ops.length:Int)-1))=some (match dN (fun i x=>if (x.cg==leaf:Bool) then some ((i:Nat):Int) else none) 0 ops with|none => -1|some r=>r):=by
 have hloop:=qL (body:=iN leaf ops) ops.length (fun k=>((match dN (fun i x=>if (x.cg==leaf:Bool) then some ((i:Nat):Int) else none) (ops.length-k) (ops.drop (ops.length-k)) with|none => -1|some r=>r),(ops.length:Int)-1-k))
  (r:=(match dN (fun i x=>if (x.cg==leaf:Bool) then some ((i:Nat):Int) else none) 0 ops with|none => -1|some r=>r)) (by omega) (fun k hk=>by
   have e1:ops.length-k=(ops.length-(k+1))+1:=by omega
   have hm:ops[ops.length-(k+1)]? = some (ops[ops.length-(k+1)]'(by omega)):=List.getElem?_eq_getElem _
   have hI:(ops.length:Int)-1-(k:Nat)=((ops.length-(k+1):Nat):Int):=by omega
   have hd:ops.drop (ops.length-(k+1))=(ops[ops.length-(k+1)]'(by omega))::ops.drop (ops.length-k):=by rw[e1];exact List.drop_eq_getElem_cons (by omega)
   simp only[iN]
   rw[if_pos (by simp;omega),hI,cu hm]
   simp only[Option.bind_some]
   have hw:IntKind.i64.wrap (((ops.length-(k+1):Nat):Int)-1)=(ops.length:Int)-1-((k+1:Nat):Int):=by rw[wrap64 (by omega) (by omega)];omega
   rw[hw,hd]
   generalize ops[ops.length-(k+1)]'(by omega)=m
   simp only[dN]
   by_cases h:(m.cg==leaf)=true
   ·rw[if_pos h,if_pos h]
   ·rw[if_neg h,if_neg h,← e1]) (by
   simp only[iN]
   rw[if_neg (by simp;omega),Nat.sub_self,List.drop_zero])
 have h0:IntKind.i64.wrap ((ops.length:Int)-1)=(ops.length:Int)-1:=wrap64 (by omega) (by omega)
 rw[h0]
 have e2:((match dN (fun i x=>if (x.cg==leaf:Bool) then some ((i:Nat):Int) else none) (ops.length-0) (ops.drop (ops.length-0)) with|none => -1|some r=>r),(ops.length:Int)-1-((0:Nat):Int))=((-1:Int),(ops.length:Int)-1):=by
  rw[Nat.sub_zero,List.drop_length];simp[dN]
 rw[← e2]
 exact hloop
open Classical in
theorem PH {ops:List aF} {ms:List az} (ho:Nk ops) (ho2:ops.length≤1000) (hm:Pj ms) (l:List av) (root total blind leaf:Int):ke ⟨l⟩ root total blind leaf ops ms=some (j5 l root total blind leaf ops ms):=by
 unfold ke j5
 rw[Tl ho2]
 simp only[Option.bind_some]
 rcases oX (fun x:aF=>x.cg==leaf) ops 0 with⟨h1,h2⟩|⟨j,x,h1,h2,h3⟩
 ·rw[h2,h1];rfl
 ·rw[h3,h1]
  have hox:=ho.2 x (List.mem_of_getElem? h2)
  have hleaf:x.cg=leaf:=by have:=List.find?_some h1;simpa using this
  simp only[Nat.zero_add]
  rw[if_neg (by simp),cu h2]
  simp only[Option.bind_some]
  by_cases hp:x.cP=[]
  ·rw[if_pos (by simp[hp]),if_neg (fun h:tn l root total blind x=>by have:=h.1;rw[hp]at this;cases this)]
  ·rw[if_neg (by have:=List.length_pos_iff.2 hp;simp;exact hp),yS]
   obtain⟨a,ha⟩:∃a,x.cP.head? = some a:=by cases h:x.cP with|nil=>exact absurd h hp|cons a l=>exact⟨a,rfl⟩
   obtain⟨b,hb⟩:∃b,x.cP.getLast? = some b:=⟨_,List.getLast?_eq_some_getLast hp⟩
   rw[ha]
   simp only[Option.bind_some]
   have hcut:∀c:Bool,(c=false↔tn l root total blind x)→(if c then some (1:Int) else (aS (jO leaf ms x) 0).bind fun q=>match q with|(.inl _)=>some (-1)|(.inr rc)=>some rc)=some (if tn l root total blind x then (if off ms leaf x.aE then 2 else -1) else 1):=by
    intro c hc
    cases c with
    | true=>rw[if_pos rfl,if_neg (fun h=>absurd (hc.2 h) (by simp))]
    | false =>
     rw[if_neg (by simp),if_pos (hc.1 rfl)]
     rw[BE ms (fun _ m=>if (m.cg==leaf && !sH m.bz x.aE:Bool) then some (2:Int) else none) hm.1 (fun i y hy=>by
      have hi:=(List.getElem?_eq_some_iff.1 hy).1
      have:=hm.1
      simp only[jO]
      rw[if_pos (by simp;omega),cu hy]
      simp only[Option.bind_some]
      by_cases h1:(y.cg==leaf)=true
      ·simp only[h1,if_true,Bool.true_and]
       rw[abb hox.2]
       simp only[Option.bind_some]
       rw[(RE (hm.2 y (List.mem_of_getElem? hy)) hox.2).2.1]
       simp only[Option.bind_some]
       cases sH y.bz x.aE<;>simp[bQ (show i<4611686018427387904 by omega)]
      ·simp only[h1,Bool.false_eq_true,if_false,Bool.false_and]
       rw[bQ (by omega)]) (by simp only[jO];rw[if_neg (by simp)]),Ad]
     simp only[Option.bind_some]
     show _=some (if off ms leaf x.aE=true then 2 else -1)
     unfold off
     cases ms.any fun m=>m.cg==leaf && !sH m.bz x.aE<;>rfl
   by_cases h1:a=root
   ·rw[if_neg (by simp[h1]),yV hox.1,hb]
    simp only[Option.bind_some]
    by_cases h2:b=leaf
    ·rw[if_neg (by simp[h2]),Th hox.1,KN hox.1]
     simp only[Option.bind_some]
     refine hcut _ ?_
     rw[Bool.not_eq_false',decide_eq_true_eq]
     exact⟨fun h=>⟨by rw[ha,h1],by rw[hb,h2,hleaf],h⟩,fun h=>h.2.2⟩
    ·rw[if_pos (by simp[h2])]
     simp only[Option.bind_some]
     exact hcut true ⟨fun h=>(by cases h),fun h=>absurd (by have:=h.2.1;rw[hb,hleaf]at this;exact Option.some.inj this) h2⟩
   ·rw[if_pos (by simp[h1])]
    simp only[Option.bind_some]
    exact hcut true ⟨fun h=>(by cases h),fun h=>absurd (by have:=h.1;rw[ha]at this;exact Option.some.inj this) h1⟩
open Classical in
theorem Tm {ops:List aF} {ms:List az} {asked:List Int} (ho:Nk ops) (ho2:ops.length≤1000) (hm:Pj ms) (ha:asked.length≤1000000) (l:List av) (root total blind:Int):l8 ⟨l⟩ root total blind asked ops ms=some (Ak l root total blind asked ops ms):=by
 unfold l8 Ak
 obtain⟨b,hb,hs⟩:=T.AE l
 rw[hb]
 simp only[Option.bind_some]
 have hgo:∀c:Bool,(c=false↔(fR l∧0≤root∧root<l.length))→(if c then some (([]:List bn),(1:Int)) else (aS (lD ms) 0).bind fun q=>match q with|(.inl _)=>(jx asked).bind fun r13=>(if r13 then some ([],5) else (aS (iw ⟨l⟩ root total blind asked ops ms) (0,[])).bind fun l17cx=>some (l17cx,0))|(.inr rb)=>some rb)=some (if fR l∧0≤root∧root<l.length then (if ms.all fun m=>sR m.bz then (if asked.Nodup then (asked.filterMap (lR l root total blind ops ms),0) else ([],5)) else ([],1)) else ([],1)):=by
  intro c hc
  cases c with
  | true =>
   rw[if_pos rfl,if_neg (fun h=>absurd (hc.2 h) (by simp))]
  | false =>
   rw[if_neg (by simp),if_pos (hc.1 rfl)]
   rw[BE ms (fun _ m=>if (!sR m.bz:Bool) then some (([]:List bn),(1:Int)) else none) hm.1 (fun i x hx=>by
    have hi:=(List.getElem?_eq_some_iff.1 hx).1
    have:=hm.1
    simp only[lD]
    rw[if_pos (by simp;omega),cu hx]
    simp only[Option.bind_some]
    rw[(AL (hm.2 x (List.mem_of_getElem? hx))).2.1]
    simp only[Option.bind_some]
    cases sR x.bz<;>simp[bQ (show i<4611686018427387904 by omega)]) (by simp only[lD];rw[if_neg (by simp)]),Ad]
   simp only[Option.bind_some]
   have hany:(ms.any fun m => !sR m.bz) = !(ms.all fun m=>sR m.bz):=by rw[List.not_all_eq_any_not]
   rw[hany]
   cases hall:ms.all fun m=>sR m.bz with
   | false=>simp
   | true =>
    simp only[Bool.not_true,Bool.false_eq_true,if_false,if_true]
    rw[Ib (by omega)]
    simp only[Option.bind_some]
    by_cases hn:asked.Nodup
    ·rw[if_neg (by simp[hn]),if_pos hn]
     have hloop:=qL (body:=iw ⟨l⟩ root total blind asked ops ms) asked.length (fun i=>((i:Int),(asked.take i).filterMap (lR l root total blind ops ms))) (r:=asked.filterMap (lR l root total blind ops ms)) (by omega) (fun i hi=>by
      have hx:asked[i]? = some asked[i]:=List.getElem?_eq_getElem hi
      simp only[iw]
      rw[if_pos (by simp;omega),cu hx]
      simp only[Option.bind_some]
      rw[PH ho ho2 hm]
      simp only[Option.bind_some]
      rw[uN _ hx]
      have hlen:((asked.take i).filterMap (lR l root total blind ops ms)).length≤1000000-1:=by
       have h1:=List.length_filterMap_le (lR l root total blind ops ms) (asked.take i)
       have h2:(asked.take i).length≤i:=by simp;omega
       omega
      rcases Tj l root total blind asked[i] ops ms with hr|hr
      ·rw[if_neg (by rw[hr];decide)]
       simp only[lR,hr,if_true,Option.toList_none,List.append_nil]
       rw[bQ (by omega)]
      ·rw[if_pos (by simpa using hr),xC (by simp;omega) (by decide)]
       simp only[Option.bind_some]
       rw[show lR l root total blind ops ms asked[i]=some ⟨asked[i],j5 l root total blind asked[i] ops ms⟩ from if_neg (by omega),bQ (by omega)]
       rfl) (by
      simp only[iw]
      rw[if_neg (by simp),List.take_length])
     have hloop':aS (iw ⟨l⟩ root total blind asked ops ms) (0,[])=some (asked.filterMap (lR l root total blind ops ms)):=hloop
     rw[hloop']
     rfl
    ·rw[if_pos (by simp[hn]),if_neg hn]
 cases b with
 | false =>
  have:¬fR l:=fun h=>absurd (hs.2 h) (by simp)
  exact hgo true ⟨fun h=>(by cases h),fun h=>absurd h.1 this⟩
 | true =>
  have hsd:=hs.1 rfl
  simp only[Bool.not_true,Bool.false_eq_true,if_false]
  by_cases h1:root<0
  ·rw[if_pos (by simp[h1])]
   exact hgo true ⟨fun h=>(by cases h),fun h=>(by omega)⟩
  ·rw[if_neg (by simp;omega)]
   refine hgo _ ?_
   rw[decide_eq_false_iff_not]
   exact⟨fun h=>⟨hsd,by omega,by omega⟩,fun h=>by omega⟩
open Classical in
noncomputable def Dj (l:List av) (seals:List Int) (rows:List (List Int)) (blinds leaves:List Int) (k:Int):List Int×Int :=
 if (qp ⟨l⟩ seals rows blinds leaves.length k).2=0 then (if leaves.Nodup then ((dr (qp ⟨l⟩ seals rows blinds leaves.length k).1).1.map fun i=>leaves.getD i.toNat 0,0) else ([],5)) else ([],(qp ⟨l⟩ seals rows blinds leaves.length k).2)
theorem Rw {v:au} {seals:List Int} {rows:List (List Int)} {blinds:List Int} {n k:Int} (h:(qp v seals rows blinds n k).2=0):Yp rows n k∧qp v seals rows blinds n k=(tp rows n k.toNat,0)∧seals.length=rows.length∧seals.Nodup:=by
 unfold qp at h ⊢
 split at h
 ·rename_i h1
  rw[if_pos h1]
  split at h
  ·cases h
  ·rename_i h2
   rw[if_neg h2]
   split at h
   ·cases h
   ·rename_i h3
    rw[if_neg h3]
    split at h
    ·rename_i h4
     rw[if_pos h4]
     exact⟨h1,rfl,by omega,by simpa using h3⟩
    ·cases h
 ·cases h
theorem Yt {rows:List (List Int)} {n k:Int} (h:Yp rows n k):wF (tp rows n k.toNat) n:=by
 obtain⟨h1,h2,h3,h4,h5,h6⟩:=h
 refine⟨by omega,h4,by rw[nH];omega,by rw[nH];omega,fun i x hx =>?_⟩
 have hi:=(List.getElem?_eq_some_iff.1 hx).1
 rw[nH]at hi
 rw[NU hi]at hx
 cases hx
 exact⟨Int.emod_nonneg _ (by omega),Int.emod_lt_of_pos _ (by omega)⟩
theorem G9 {body:(Int×List Int)→Option ((Int×List Int)⊕List Int)} {leaves d:List Int} (hd:d.length≤1000) (hr:∀x∈d,0≤x∧x<leaves.length)
  (hb:∀s,body s=(if decide (s.1<(d.length:Int)) then (P.idx d s.1).bind fun x13=>(P.idx leaves x13).bind fun x14=>(ik 8 s.2 [x14]).bind fun x15=>some (.inl (IntKind.i64.wrap (s.1+1),x15)) else some (.inr s.2))) :
  aS body (0,[])=some (d.map fun i=>leaves.getD i.toNat 0):=by
 have hloop:=qL (body:=body) d.length (fun i=>((i:Int),(d.take i).map fun i=>leaves.getD i.toNat 0)) (r:=d.map fun i=>leaves.getD i.toNat 0) (by omega) (fun i hi=>by
  have hx:d[i]? = some d[i]:=List.getElem?_eq_getElem hi
  have hxr:=hr d[i] (List.getElem_mem hi)
  obtain⟨y,hy⟩:=Jj hxr
  have hyl:=D1 hy
  rw[hb]
  dsimp only
  rw[if_pos (by simp;omega),cu hx]
  simp only[Option.bind_some,hy]
  rw[xC (by simp;omega) (by decide)]
  simp only[Option.bind_some]
  rw[bQ (by omega),List.take_succ_eq_append_getElem hi,List.map_append]
  simp[List.getD,hyl]) (by
  rw[hb]
  dsimp only
  rw[if_neg (by simp),List.take_length])
 exact hloop
open Classical in
theorem Oz {l:List av} {seals:List Int} {rows:List (List Int)} {blinds leaves:List Int} {k:Int} (h1:rows.length<4611686018427387904) (h2:∀r∈rows,r.length<4611686018427387904∧WK r) (h3:seals.length*8≤140737488351232) (h4:leaves.length*8≤140737488351232) :
  fv ⟨l⟩ seals rows blinds leaves k=some (Dj l seals rows blinds leaves k)∧l7 ⟨l⟩ seals rows blinds leaves k=some (Dj l seals rows blinds leaves k):=by
 unfold fv l7 Dj
 rw[T.Qm h1 h2 h3,T.VB h1 h2 h3,wk h4,Ib (by omega)]
 simp only[Option.bind_some]
 by_cases ho:(qp ⟨l⟩ seals rows blinds leaves.length k).2=0
 ·have e1:((qp ⟨l⟩ seals rows blinds leaves.length k).2 != 0)=false:=by simp[ho]
  simp only[e1,Bool.false_eq_true,if_false,if_pos ho]
  by_cases hn:leaves.Nodup
  ·have e2:decide (¬leaves.Nodup)=false:=by simp[hn]
   simp only[e2,Bool.false_eq_true,if_false,if_pos hn]
   obtain⟨o1,o2,-,-⟩:=Rw ho
   rw[o2]
   have hr:=Yt o1
   have hkl:(tp rows (leaves.length:Int) k.toNat).length≤100:=hr.2.2.1
   dsimp only
   rw[T.WM _ (by omega),T.Vz _ (by omega),if_pos hr]
   simp only[Option.bind_some]
   have hrange:=UB hr.2.2.2.2
   have hlen:=(Di (tp rows (leaves.length:Int) k.toNat)).1
   constructor
   ·rw[G9 (body:=kZ leaves ((dr (tp rows (leaves.length:Int) k.toNat)).1,0)) (leaves:=leaves) (d:=(dr (tp rows (leaves.length:Int) k.toNat)).1) (by omega) hrange (fun s=>by obtain⟨s1,s2⟩:=s;rfl)]
    rfl
   ·rw[G9 (body:=td leaves ((dr (tp rows (leaves.length:Int) k.toNat)).1,0)) (leaves:=leaves) (d:=(dr (tp rows (leaves.length:Int) k.toNat)).1) (by omega) hrange (fun s=>by obtain⟨s1,s2⟩:=s;rfl)]
    rfl
  ·have e2:decide (¬leaves.Nodup)=true:=by simp[hn]
   simp only[e2,if_true,if_neg hn]
   exact⟨trivial,trivial⟩
 ·have e1:((qp ⟨l⟩ seals rows blinds leaves.length k).2 != 0)=true:=by simpa using ho
  simp only[e1,if_true,if_neg ho]
  exact⟨trivial,trivial⟩
theorem Y5 {a b:List Int} (ha:a.length<4611686018427387904):ey a b=some (decide (a=b)):=by
 unfold ey
 by_cases hl:a.length=b.length
 ·rw[if_neg (by simp[hl])]
  have hloop:=allI a (body:=iG a b) (fun i x=>b[i]? = some x) false ha (fun i x hx _=>by
    have hi:=(List.getElem?_eq_some_iff.1 hx).1
    have hb:b[i]? = some (b[i]'(by omega)):=List.getElem?_eq_getElem _
    simp only[iG]
    rw[if_pos (by simp;omega),cu hx,cu hb]
    simp only[Option.bind_some]
    by_cases h:x=b[i]'(by omega)
    ·rw[if_neg (by simp[h]),if_pos (by rw[hb,h]),bQ (by omega)]
    ·rw[if_pos (by simp[h]),if_neg (fun hq=>h (by rw[hb]at hq;exact (Option.some.inj hq).symm))]) (by simp only[iG];rw[if_neg (by simp)])
  rcases hloop with⟨h,he⟩|⟨h,he⟩
  ·rw[he]
   simp only[Option.bind_some]
   have:a=b:=by
    apply List.ext_getElem hl
    intro i h1 h2
    have:=h i a[i] (List.getElem?_eq_getElem h1)
    rw[List.getElem?_eq_getElem h2]at this
    exact (Option.some.inj this).symm
   rw[decide_eq_true this]
  ·rw[he]
   simp only[Option.bind_some]
   have:¬a=b:=by
    rintro rfl
    exact h fun i x hx=>hx
   rw[decide_eq_false this]
 ·rw[if_pos (by simp;omega),decide_eq_false (fun h=>hl (by rw[h]))]
theorem Sz {l:List av} {seals:List Int} {rows:List (List Int)} {blinds leaves:List Int} {k:Int} : (Dj l seals rows blinds leaves k).1.length≤1000:=by
 unfold Dj
 split
 ·rename_i h
  split
  ·obtain⟨o1,o2,-,-⟩:=Rw h
   rw[o2]
   have hr:=(Yt o1).2.2.1
   have hlen:=(Di (tp rows (leaves.length:Int) k.toNat)).1
   simp only[List.length_map]
   omega
  ·simp
 ·simp
open Classical in
theorem TP (v:au) (root total blind:Int) (asked:List Int) (ops:List aF) (ms:List az) (seals:List Int) (rows:List (List Int)) (blinds:List Int) (k:Int) (h0:v.ag.length*48≤140737488351232) (h4:asked.length*8≤140737488351232)
  (h5:ops.length*64≤140737488351232∧∀x∈ops,x.cP.length*8≤140737488351232∧(Lit.int .i64 x.aE).wf=true) (h6:ms.length*136≤140737488351232) (h7:seals.length*8≤140737488351232)
  (h8:rows.length*24≤140737488351232∧∀y∈rows,(y.length*8≤140737488351232∧∀z∈y,(Lit.int .i64 z).wf=true)) :
  eX v root total blind asked ops ms seals rows blinds k=some true:=by
 obtain⟨l⟩:=v
 unfold eX
 rw[VS]
 simp only[Option.bind_some]
 obtain⟨b,hb,-⟩:=T.TH ⟨l⟩ 40 (by simp only at h0 ⊢;omega)
 rw[hb]
 simp only[Option.bind_some]
 cases b with
 | false=>rfl
 | true =>
  simp only[Bool.not_true,Bool.false_eq_true,if_false]
  by_cases ha:(asked.length:Int)>20
  ·rw[if_pos (by simpa using ha)];rfl
  ·rw[if_neg (by simpa using ha)]
   obtain⟨c,hc,hc2⟩:=ZP (ops:=ops) (ms:=ms) (by omega) (by omega)
   rw[hc]
   simp only[Option.bind_some]
   cases c with
   | false=>rfl
   | true =>
    obtain⟨f1,f2,f3⟩:=hc2 rfl
    simp only[Bool.not_true,Bool.false_eq_true,if_false]
    by_cases hse:(seals.length:Int)>20
    ·rw[if_pos (by simpa using hse)];rfl
    ·rw[if_neg (by simpa using hse)]
     obtain⟨d,hd,-⟩:=T.Yw rows (by omega)
     rw[hd]
     simp only[Option.bind_some]
     cases d with
     | false=>rfl
     | true =>
      simp only[Bool.not_true,Bool.false_eq_true,if_false]
      by_cases hbl:(blinds.length:Int)>20
      ·simp only[hbl,decide_true,Option.bind_some,if_true]
      ·simp only[hbl,decide_false,Option.bind_some,Bool.false_eq_true,if_false]
       have hops:Nk ops:=⟨by omega,fun x hx=>by
        have:=h5.2 x hx
        have hv:=T.N4 this.2
        exact⟨by omega,by omega,by omega⟩⟩
       have hms:Pj ms:=⟨by omega,f3⟩
       have hw:∀r∈rows,r.length<4611686018427387904∧WK r:=fun r hr=>⟨by have:=(h8.2 r hr).1;omega,fun x hx=>T.N4 ((h8.2 r hr).2 x hx)⟩
       obtain⟨d1,d2⟩:=Oz (l:=l) (seals:=seals) (rows:=rows) (blinds:=blinds) (leaves:=asked) (k:=k) (by omega) hw h7 h4
       rw[U6 hops hms (by omega),Tm hops (by omega) hms (by omega),d1,d2]
       have hjl:(Ak l root total blind asked ops ms).1.length<4611686018427387904:=by
        unfold Ak
        split
        ·split
         ·split
          ·have:=List.length_filterMap_le (lR l root total blind ops ms) asked
           simp only
           omega
          ·simp
         ·simp
        ·simp
       simp only[Option.bind_some,if_true]
       rw[VL hjl]
       simp only[Option.bind_some,decide_true,if_true,beq_self_eq_true]
       rw[Y5 (by have:=Sz (l:=l) (seals:=seals) (rows:=rows) (blinds:=blinds) (leaves:=asked) (k:=k);omega)]
       simp
end Go.Proofs.YtpkahnkoecbndaaGreatDoor.P
