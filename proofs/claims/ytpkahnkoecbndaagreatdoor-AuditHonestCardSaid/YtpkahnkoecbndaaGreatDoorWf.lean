/- Part of a proof, made small by a program (wip/mini.py). -/
import Derived.Test.YtpkahnkoecbndaaGreatDoorWe
namespace Go.Proofs.YtpkahnkoecbndaaGreatDoor.P.T
open Go.RowKit
set_option linter.unusedSimpArgs false
set_option linter.unusedVariables false
open Classical in
theorem Tr {rows:List (List Int)} {n k:Int} (h1:rows.length<4611686018427387904) (h2:∀r∈rows,r.length<4611686018427387904):lx rows n k=some (if XK rows n k then (tp rows n k.toNat,0) else ([],1)):=by
 unfold lx
 by_cases g1:k<0
 ·rw[if_pos (by simp;omega),if_neg (fun h=>by have:=h.1;omega)];rfl
 rw[if_neg (by simp;omega)]
 by_cases g2:k>100
 ·rw[if_pos (by simp;omega),if_neg (fun h=>by have:=h.2.1;omega)];rfl
 rw[if_neg (by simp;omega)]
 by_cases g3:n<k
 ·rw[if_pos (by simp;omega),if_neg (fun h=>by have:=h.2.2.1;omega)];rfl
 rw[if_neg (by simp;omega)]
 by_cases g4:n>1099511627776
 ·rw[if_pos (by simp;omega),if_neg (fun h=>by have:=h.2.2.2.1;omega)];rfl
 rw[if_neg (by simp;omega)]
 simp only[Option.bind_some]
 by_cases g5:(rows.length:Int)>400
 ·rw[if_pos (by simp;omega),if_neg (fun h=>by have:=h.2.2.2.2.1;omega)]
 rw[if_neg (by simp;omega)]
 obtain⟨K,rfl⟩:∃K:Nat,k=K:=⟨k.toNat,by omega⟩
 rw[UU (by omega) (by omega),← VN n K]
 simp only[Option.bind_some,Int.toNat_natCast]
 obtain⟨r,hr,hp⟩:=fC (body:=nx rows n (K:Int)) (fun s=>∃i:Nat,s=((i:Int),tp (rows.take i) n K)∧i≤rows.length∧∀j x,j<i→rows[j]? = some x→(x.length:Int)=K∧N7 x n) (fun s=>(rows.length-s.1).toNat)
  (fun r=>match r with | .inl l=>l=tp rows n K∧∀r∈rows,(r.length:Int)=K∧N7 r n | .inr b=>b=([],1)∧¬ ∀r∈rows,(r.length:Int)=K∧N7 r n) (s:=(0,tp [] n K)) ⟨0,rfl,by omega,fun j x h=>by omega⟩ (by have:FU=1000000000000000000000000:=rfl;dsimp only;omega)
  (by
   rintro s ⟨i,rfl,k1,k2⟩
   unfold nx
   dsimp only
   by_cases hi:i<rows.length
   ·rw[if_pos (by simp;omega)]
    have hx:rows[i]? = some rows[i]:=List.getElem?_eq_getElem hi
    simp only[bu hx,Option.bind_some]
    by_cases q1:(rows[i].length:Int)=K
    ·rw[if_neg (by simp[q1]),sq n (h2 _ (List.getElem_mem hi))]
     simp only[Option.bind_some]
     by_cases q2:N7 rows[i] n
     ·rw[if_neg (by simp[q2]),Tq (by omega) (by omega) (by omega) (by omega) q2]
      simp only[Option.bind_some,cm (show i<4611686018427387904 by omega)]
      refine .inl ⟨_,rfl,⟨i+1,?_,by omega,fun j x hj hx' =>?_⟩,by omega⟩
      ·rw[List.take_succ_eq_append_getElem hi]
      ·by_cases hji:j=i
       ·subst hji;rw[hx]at hx';cases hx';exact⟨q1,q2⟩
       ·exact k2 j x (by omega) hx'
     ·rw[if_pos (by simp[q2])]
      exact .inr ⟨_,rfl,rfl,fun hall=>q2 (hall _ (List.getElem_mem hi)).2⟩
    ·rw[if_pos (by simp;omega)]
     simp only[Option.bind_some]
     rw[if_pos trivial]
     exact .inr ⟨_,rfl,rfl,fun hall=>q1 (hall _ (List.getElem_mem hi)).1⟩
   ·rw[if_neg (by simp;omega)]
    refine .inr ⟨_,rfl,?_,fun r hr =>?_⟩
    ·rw[List.take_of_length_le (by omega)]
    ·obtain⟨j,hj,rfl⟩:=List.getElem_of_mem hr
     exact k2 j _ (by omega) (List.getElem?_eq_getElem hj))
 rw[hr]
 simp only[Option.bind_some]
 cases r with
 | inl l =>
  obtain⟨rfl,hall⟩:=hp
  rw[if_pos ⟨by omega,by omega,by omega,by omega,by omega,hall⟩]
 | inr b =>
  obtain⟨rfl,hall⟩:=hp
  rw[if_neg (fun h=>hall h.2.2.2.2.2)]
end Go.Proofs.YtpkahnkoecbndaaGreatDoor.P.T
namespace Go.Proofs.YtpkahnkoecbndaaGreatDoor.P.T
open Go.RowKit
set_option linter.unusedSimpArgs false
set_option linter.unusedVariables false
theorem KL {l:List Int} (hl:l.length*8≤140737488351232):iV l=some (decide (¬l.Nodup)):=by
 unfold iV jw bV iS Ah
 simp only[Option.bind_some]
 unfold xa
 rw[if_pos hl]
 simp only[Option.bind_some]
 unfold Nv
 have hlen:=fp l
 rw[if_pos (by omega)]
 simp only[Option.bind_some]
 have hperm:(fY l).Perm l:=List.mergeSort_perm _ _
 have hsort:(fY l).Pairwise (fun a b=>decide (a≤b)=true):=List.pairwise_mergeSort (fun a b c h1 h2=>by simp at *;omega) (fun a b=>by simp;omega) l
 have hpos:∀(s:List Int) (h:s.length=s.length),(Lib.compact s).length≤s.length:=fun s _=>by
  unfold Lib.compact Lib.compactUpTo
  rw[List.length_map]
  refine Nat.le_trans (List.length_filter_le _ _) (by simp)
 by_cases hn:l.Nodup
 ·have hs:(fY l).Nodup:=hperm.nodup_iff.2 hn
  have:Lib.compact (fY l)=fY l:=Lib.compact_all _ fun j hj=>by
   unfold Lib.keeps
   by_cases h0:j=0
   ·simp[h0]
   ·have h1:j-1<(fY l).length:=by omega
    have:=(List.pairwise_iff_getElem.1 hs) (j-1) j h1 hj (by omega)
    simp only[decide_eq_true_eq]
    refine .inr ?_
    simp only[List.getElem!_toArray]
    rw[getElem!_pos (fY l) j hj,getElem!_pos (fY l) (j-1) h1]
    exact fun h=>this h.symm
  rw[this,hlen]
  simp[hn]
 ·have:(Lib.compact (fY l)).length<l.length:=by
   refine Nat.lt_of_le_of_ne (by rw[← hlen];exact hpos _ rfl) fun he=>hn (hperm.nodup_iff.1 ?_)
   unfold Lib.compact Lib.compactUpTo at he
   rw[List.length_map]at he
   have hall:=(List.length_filter_eq_length_iff (l:=List.range (fY l).length) (p:=Lib.keeps (fY l).toArray)).1 (by rw[he,List.length_range,hlen])
   refine List.pairwise_iff_getElem.2 fun i j hi hj hij =>?_
   have hk:=hall j (List.mem_range.2 hj)
   unfold Lib.keeps at hk
   simp only[decide_eq_true_eq]at hk
   have h1:j-1<(fY l).length:=by omega
   rcases hk with hk|hk
   ·omega
   ·simp only[List.getElem!_toArray]at hk
    rw[getElem!_pos (fY l) j hj,getElem!_pos (fY l) (j-1) h1]at hk
    have a2:=(List.pairwise_iff_getElem.1 hsort) (j-1) j h1 hj (by omega)
    simp only[decide_eq_true_eq]at a2
    by_cases hij':i=j-1
    ·subst hij';exact fun h=>hk h.symm
    ·have a1:=(List.pairwise_iff_getElem.1 hsort) i (j-1) hi h1 (by omega)
     simp only[decide_eq_true_eq]at a1
     omega
  simp[hn]
  omega
end Go.Proofs.YtpkahnkoecbndaaGreatDoor.P.T
namespace Go.Proofs.YtpkahnkoecbndaaGreatDoor.P.T
open Go.RowKit
set_option linter.unusedSimpArgs false
set_option linter.unusedVariables false
theorem vW {l:List Int} (hl:l.length≤1000):bo l=some l:=by
 unfold bo
 rw[kq (by simp;omega) (by omega)]
 rfl
end Go.Proofs.YtpkahnkoecbndaaGreatDoor.P.T
namespace Go.Proofs.YtpkahnkoecbndaaGreatDoor.P.T
open Go.RowKit
set_option linter.unusedSimpArgs false
set_option linter.unusedVariables false
def V6 (l:List Int):Prop:=∀x∈l,-9223372036854775808≤x∧x≤9223372036854775807
theorem E9:∀ {l:List Int},V6 l→(iF l).length≤22*l.length
 | [],_=>by simp[iF]
 | x::l,h=>by
  have h1:=Lib.itoa_length_le x (h x (by simp)).1 (h x (by simp)).2
  have h2:=E9 (l:=l) fun y hy=>h y (by simp[hy])
  have e:iF (x::l)=Lib.itoa x++[59]++iF l:=by simp[iF]
  rw[e]
  simp
  omega
theorem E8 {l:List Int} (h:V6 l) (hl:l.length≤200):(mD l).length≤5000:=by
 have h1:=E9 h
 have h2:=Lib.itoa_length_le (l.length:Int) (by omega) (by omega)
 unfold mD
 simp
 omega
def S8 (l:List Int):ByteArray:=⟨(mD l).toArray⟩
theorem S9 {l:List Int} (h:V6 l) (hl:l.length≤200):(S8 l).size≤5000:=by
 have:=E8 h hl
 simpa [S8,ByteArray.size] using this
theorem MU {l:List Int} (h:V6 l) (hl:l.length≤200):kb l=some (S8 l):=by
 unfold kb uq NZ
 have:=E8 h hl
 rw[if_pos ⟨h,by omega,by omega⟩]
 rfl
end Go.Proofs.YtpkahnkoecbndaaGreatDoor.P.T
namespace Go.Proofs.YtpkahnkoecbndaaGreatDoor.P.T
open Go.RowKit
set_option linter.unusedSimpArgs false
set_option linter.unusedVariables false
def U2 (l:List aj) (x:aj) (u v:aj):Prop:=P.idx l x.bk=some u∧P.idx l x.bd=some v∧x.cD=ByteArray.mk #[]∧x.aE=IntKind.i64.wrap (u.aE+v.aE)∧x.aH=IntKind.i64.wrap (u.aH+v.aH)∧x.aE≤1125899906842624∧x.aH≤1125899906842624
theorem yf {l:List aj} {x:aj} : uV l x.bk x.bd=(x,0)↔∃u v,U2 l x u v:=by
 unfold uV U2
 constructor
 ·intro h
  split at h
  ·rename_i u v hu hv
   split at h
   ·exact absurd (congrArg Prod.snd h) (by simp)
   ·rename_i hc
    have e:=congrArg Prod.fst h
    simp only at e
    rw[not_or]at hc
    refine⟨u,v,hu,hv,by rw[← e],by rw[← e],by rw[← e],?_,?_⟩
    ·rw[← e];simp only;omega
    ·rw[← e];simp only;omega
  ·exact absurd (congrArg Prod.snd h) (by simp)
 ·rintro⟨u,v,hu,hv,h1,h2,h3,h4,h5⟩
  rw[hu,hv]
  simp only
  rw[if_neg (by rw[← h2,← h3];omega),← h1,← h2,← h3]
def kF (l:List aj) (i:Int) (t:ByteArray) (v b:Int):Prop:=df l∧∃x,P.idx l i=some x∧x.cD=t∧x.aE=v∧x.aH=b
open Classical in
theorem Hr {l:List aj} (i:Int) (t:ByteArray) (v b:Int):gN ⟨l⟩ i t v b=some (decide (kF l i t v b)):=by
 obtain⟨q,h1,h2⟩:=lY ⟨l⟩
 unfold gN
 rw[h1]
 simp only[Option.bind_some]
 cases q with
 | false =>
  have:¬kF l i t v b:=fun h=>by have:=h2.2 h.1;cases this
  simp[this]
 | true =>
  have hs:df l:=h2.1 rfl
  have hm:l.length≤maxLen:=Nat.le_trans hs.1 (by decide)
  have hw:IntKind.i64.wrap ((l.length:Int)-1)=(l.length:Int)-1:=wrap64 (by omega) (by have:=small hm;omega)
  simp only[Bool.not_true,Bool.false_eq_true,if_false,yp,hw,Option.bind_some]
  by_cases hi:0≤i∧i<l.length
  ·have hi':0≤i∧i≤(l.length:Int)-1:=by omega
   simp only[hi',and_self,decide_true,Bool.not_true,Bool.false_eq_true,if_false]
   have hx:=Aa (l:=l) hi.1 hi.2
   generalize l[i.toNat]'(by omega)=x at hx
   have hop:kF l i t v b↔x.cD=t∧x.aE=v∧x.aH=b:=by
    unfold kF
    rw[hx]
    constructor
    ·rintro⟨_,y,e,h⟩;cases e;exact h
    ·intro h;exact⟨hs,x,rfl,h⟩
   simp only[hx,Option.bind_some,Ue]
   by_cases g1:x.cD=t
   ·rw[if_pos (decide_eq_true g1)]
    by_cases g2:x.aE=v
    ·rw[if_pos (by simp[g2])]
     congr 1
     by_cases g3:x.aH=b
     ·have:kF l i t v b:=hop.2 ⟨g1,g2,g3⟩
      simp[this,g3]
     ·have:¬kF l i t v b:=fun h=>g3 (hop.1 h).2.2
      simp[this,g3]
    ·have:¬kF l i t v b:=fun h=>g2 (hop.1 h).2.1
     rw[if_neg (by simp[g2])]
     simp[this]
   ·have:¬kF l i t v b:=fun h=>g1 (hop.1 h).1
    rw[if_neg (by simp[g1])]
    simp[this]
  ·have hi':¬(0≤i∧i≤(l.length:Int)-1):=by omega
   have:¬kF l i t v b:=by
    rintro⟨_,x,e,_⟩
    rw[BL hi]at e
    cases e
   simp[hi',this]
theorem Qe (v:aw) (n:Int) (hl:v.ag.length≤4611686018427387904-1):∃b,q8 v n=some b∧(b=true→(v.ag.length:Int)≤n):=by
 unfold q8
 obtain⟨r,hr,hp⟩:=fC (body:=q9 v n) (fun s=>∃i:Nat,s=i∧i≤v.ag.length) (fun s=>(v.ag.length-s).toNat) (fun r=>match r with | .inl _=>True | .inr b=>b=false) (s:=0) ⟨0,rfl,by omega⟩
  (by have:FU=1000000000000000000000000:=rfl;omega) (by
   rintro s ⟨i,rfl,h1⟩
   unfold q9
   dsimp only
   by_cases hi:i<v.ag.length
   ·rw[if_pos (by simp;omega)]
    simp only[Option.bind_some]
    by_cases hn:(i:Int)<n
    ·rw[if_pos (by simp;omega)]
     simp only[bu (List.getElem?_eq_getElem hi),Option.bind_some,cm (show i<4611686018427387904 by omega)]
     split
     ·exact .inr ⟨_,rfl,rfl⟩
     ·exact .inl ⟨_,rfl,⟨i+1,rfl,by omega⟩,by omega⟩
    ·rw[if_neg (by simp;omega)]
     exact .inr ⟨_,rfl,trivial⟩
   ·rw[if_neg (by simp;omega)]
    exact .inr ⟨_,rfl,trivial⟩)
 rw[hr]
 simp only[Option.bind_some]
 cases r with
 | inl u=>exact⟨_,rfl,fun h=>by simpa using h⟩
 | inr b=>subst hp;exact⟨_,rfl,fun h=>by cases h⟩
end Go.Proofs.YtpkahnkoecbndaaGreatDoor.P.T
namespace Go.Proofs.YtpkahnkoecbndaaGreatDoor.P.T
open Go.RowKit
set_option linter.unusedSimpArgs false
set_option linter.unusedVariables false
theorem Wg {α ρ:Type} (l:List α) {body:Int→Option (Int⊕(Unit⊕ρ))} (p:Nat→α→Prop) (bad:ρ) [∀i x,Decidable (p i x)] (hlen:l.length<4611686018427387904)
  (hb:∀(i:Nat) x,l[i]? = some x→body (i:Int)=some (if p i x then .inl ((i+1:Nat):Int) else .inr (.inr bad))) (he:body (l.length:Int)=some (.inr (.inl ()))) :
  (∃h:(∀i x,l[i]? = some x→p i x),aW body 0=some (.inl ()))∨(∃h:¬(∀i x,l[i]? = some x→p i x),aW body 0=some (.inr bad)):=by
 have hs:=Kv l (fun i x=>if p i x then none else some bad) hlen (fun i x hx=>by
  rw[hb i x hx]
  by_cases h:p i x
  ·rw[if_pos h,if_pos h]
  ·rw[if_neg h,if_neg h]) he
 cases hf:gw (fun i x=>if p i x then none else some bad) 0 l with
 | none =>
  refine .inl ⟨fun i x hx =>?_,by rw[hs,hf]⟩
  have:=ow.1 hf i x hx
  simp only[Nat.zero_add]at this
  by_cases h:p i x
  ·exact h
  ·rw[if_neg h]at this;cases this
 | some r =>
  obtain⟨j,x,h1,h2⟩:=sS hf
  simp only[Nat.zero_add]at h2
  by_cases h:p j x
  ·rw[if_pos h]at h2;cases h2
  ·rw[if_neg h]at h2
   cases h2
   exact .inr ⟨fun hall=>h (hall j x h1),by rw[hs,hf]⟩
def FY (v:aw) (seals:List Int) (rows:List (List Int)) (blinds:List Int):Prop:=∀i x,seals[i]? = some x→kF v.ag x (S8 (rows.getD i [])) 0 (blinds.getD i 0)
open Classical in
noncomputable def RZ (v:aw) (seals:List Int) (rows:List (List Int)) (blinds:List Int) (n k:Int):List Int×Int :=
 if XK rows n k then (if seals.length≠rows.length∨blinds.length≠rows.length then ([],2) else if ¬seals.Nodup then ([],5) else if FY v seals rows blinds then (tp rows n k.toNat,0) else ([],22)) else ([],1)
open Classical in
theorem Tp {v:aw} {seals:List Int} {rows:List (List Int)} {blinds:List Int} {n k:Int} (h1:rows.length<4611686018427387904) (h2:∀r∈rows,r.length<4611686018427387904∧V6 r) (h3:seals.length*8≤140737488351232) :
  ka v seals rows blinds n k=some (RZ v seals rows blinds n k):=by
 unfold ka RZ
 rw[Tr h1 fun r hr=>(h2 r hr).1]
 simp only[Option.bind_some]
 by_cases hok:XK rows n k
 ·rw[if_pos hok,if_pos hok,if_neg (by simp)]
  by_cases q1:seals.length=rows.length
  ·rw[if_neg (by simp[q1])]
   simp only[Option.bind_some]
   by_cases q2:blinds.length=rows.length
   ·rw[if_neg (by simp[q2]),if_neg (by simp[q1,q2]),KL h3]
    simp only[Option.bind_some]
    by_cases q3:seals.Nodup
    ·rw[if_neg (by simp[q3]),if_neg (by simp[q3])]
     rcases Wg seals (body:=kR v seals rows blinds) (fun i x=>kF v.ag x (S8 (rows.getD i [])) 0 (blinds.getD i 0)) ([],22) (by omega) (fun i x hx=>by
       have hi:=(List.getElem?_eq_some_iff.1 hx).1
       have hr:rows[i]? = some (rows[i]'(by omega)):=List.getElem?_eq_getElem (by omega)
       have hb:blinds[i]? = some (blinds[i]'(by omega)):=List.getElem?_eq_getElem (by omega)
       have hm:=List.mem_of_getElem? hr
       unfold kR
       dsimp only
       rw[if_pos (by simp;omega)]
       simp only[bu hx,bu hr,Option.bind_some]
       rw[MU (h2 _ hm).2 (by have:=(hok.2.2.2.2.2 _ hm).1;have:=hok.2.1;omega)]
       simp only[Option.bind_some,bu hb]
       rw[show v=⟨v.ag⟩ from rfl,Hr]
       have e1:rows.getD i []=rows[i]'(by omega):=by simp[List.getD,hr]
       have e2:blinds.getD i 0=blinds[i]'(by omega):=by simp[List.getD,hb]
       rw[e1,e2]
       simp only[Option.bind_some,cm (show i<4611686018427387904 by omega)]
       by_cases ho:kF v.ag x (S8 (rows[i]'(by omega))) 0 (blinds[i]'(by omega))
       ·rw[if_neg (by simp[ho]),if_pos ho]
       ·rw[if_pos (by simp[ho]),if_neg ho]) (by unfold kR;simp) with⟨h,e⟩|⟨h,e⟩
     ·rw[e,if_pos (show FY v seals rows blinds from h)];rfl
     ·rw[e,if_neg (show ¬FY v seals rows blinds from h)];rfl
    ·rw[if_pos (by simp[q3]),if_pos q3]
   ·rw[if_pos (by simp;omega),if_pos (.inr q2)]
  ·rw[if_pos (by simp;omega)]
   simp only[Option.bind_some]
   rw[if_pos trivial,if_pos (.inl q1)]
 ·rw[if_neg hok,if_neg hok,if_pos (by simp)]
theorem put_eq {l:List aj} (hl:l.length<10000) (x:aj):lA ⟨l⟩ x=some (⟨l++[x]⟩,(l.length:Int),0):=by
 have hm:=xW
 unfold lA dr j9 gC
 simp only[List.length_nil,Nat.zero_add,List.nil_append,List.length_cons]
 rw[if_pos (by omega)]
 simp only[Option.bind_some]
 rw[if_pos (by omega)]
 simp only[Option.bind_some]
 rw[if_pos (by omega)]
 rfl
theorem Kx {l:List aj} {x:aj} (hs:df l) (hl:l.length<2000) (hx:mC x):df (l++[x]):=by
 refine⟨by simp;omega,fun i hi y hy =>?_⟩
 simp only[List.length_append,List.length_cons,List.length_nil]at hi
 by_cases h:i<l.length
 ·rw[List.getElem?_append_left h]at hy
  rw[List.take_append_of_le_length (by omega)]
  exact hs.2 i h y hy
 ·have:i=l.length:=by omega
  subst this
  simp at hy
  subst hy
  exact .inl hx
theorem To {l:List aj} (hs:df l) (hl:l.length<1000) {t:ByteArray} (ht:(t.size:Int)≤8000) {b:Int} (hb:0≤b∧b≤1099511627776):jU ⟨l⟩ t 0 b=some (⟨l++[aj.mk t 0 b (-1) (-1)]⟩,(l.length:Int),0):=by
 obtain⟨q,h1,h2⟩:=lY ⟨l⟩
 have hq:q=true:=h2.2 hs
 subst hq
 have hleaf:mC (aj.mk t 0 b (-1) (-1)):=⟨rfl,rfl,ht,⟨by simp,by simp⟩,hb⟩
 unfold jU
 simp only[h1,Option.bind_some,Bool.not_true,Bool.false_eq_true,if_false,NP]
 simp only[hleaf,decide_true,Bool.not_true,Bool.false_eq_true,if_false]
 rw[if_neg (by simp;omega),put_eq (by omega)]
 rfl
theorem Uf {r:List Int} {n k:Int} (h1:0≤k∧k≤100∧k≤n∧n≤1099511627776) (h2:(r.length:Int)=k) (h3:N7 r n):XK [r] n k:=⟨h1.1,h1.2.1,h1.2.2.1,h1.2.2.2,by simp,fun x hx=>by simp at hx;subst hx;exact⟨h2,h3⟩⟩
theorem X6 {a b n:Int} (h:0≤a∧a<n∧0≤b∧b<n-1∧2≤n∧n≤1000):N7 [a,b] n:=by
 refine⟨by omega,by omega,by simp,by simp;omega,fun i x hx =>?_⟩
 match i with
 | 0=>simp at hx;subst hx;simp;omega
 | 1=>simp at hx;subst hx;simp;omega
 | i+2=>simp at hx
end Go.Proofs.YtpkahnkoecbndaaGreatDoor.P.T
namespace Go.Proofs.YtpkahnkoecbndaaGreatDoor.P
open Go.RowKit
set_option linter.unusedSimpArgs false
set_option linter.unusedVariables false
def aF (n:Nat):List Int:=if h:n=0 then [] else ((n % 1048576:Nat):Int)::aF (n / 1048576)
termination_by n
decreasing_by omega
def dv:List Int→Int
 | []=>0
 | d::l=>d+1048576*dv l
def Dg (l:List Int):Prop:=∀d∈l,0≤d∧d<1048576
def pw (i:Nat):Int:=1048576 ^ i
theorem ng:pw 0=1:=rfl
theorem jK (i:Nat):pw (i+1)=1048576*pw i:=by unfold pw;rw[Int.pow_succ,Int.mul_comm]
theorem lq (i:Nat):0<pw i:=by unfold pw;exact Int.pow_pos (by decide)
theorem Cd (i j:Nat):pw (i+j)=pw i*pw j:=by unfold pw;rw[Int.pow_add]
theorem ud {i j:Nat} (h:i≤j):pw i≤pw j:=by
 obtain⟨k,rfl⟩:=Nat.le.dest h
 rw[Cd]
 have h1:=lq i
 have h2:=lq k
 calc pw i=pw i*1:=by rw[Int.mul_one]
  _≤pw i*pw k:=Int.mul_le_mul_of_nonneg_left (by omega) (by omega)
theorem cv:aF 0=[]:=by rw[aF];rfl
theorem lZ {n:Nat} (h:n≠0):aF n=((n % 1048576:Nat):Int)::aF (n / 1048576):=by rw[aF,dif_neg h]
theorem py {n:Nat} : aF n=[]↔n=0:=by
 constructor
 ·intro h
  rcases Nat.eq_zero_or_pos n with h0|h0
  ·exact h0
  ·rw[lZ (by omega)]at h;cases h
 ·rintro rfl;exact cv
theorem bC:∀n:Nat,dv (aF n)=n:=by
 intro n
 induction n using Nat.strongRecOn with
 | _ n ih =>
  rcases Nat.eq_zero_or_pos n with h0|h0
  ·subst h0;rw[cv];rfl
  ·rw[lZ (by omega),dv,ih (n / 1048576) (by omega)]
   omega
theorem cz:∀n:Nat,Dg (aF n):=by
 intro n
 induction n using Nat.strongRecOn with
 | _ n ih =>
  rcases Nat.eq_zero_or_pos n with h0|h0
  ·subst h0;rw[cv];intro d hd;cases hd
  ·rw[lZ (by omega)]
   intro d hd
   rcases List.mem_cons.1 hd with rfl|hd
   ·omega
   ·exact ih (n / 1048576) (by omega) d hd
theorem Dg.nil:Dg []:=fun d hd=>by cases hd
theorem Dg.cons {d:Int} {l:List Int} (h:Dg (d::l)):(0≤d∧d<1048576)∧Dg l:=⟨h d List.mem_cons_self,fun x hx=>h x (List.mem_cons_of_mem _ hx)⟩
theorem Dg.mk {d:Int} {l:List Int} (h:0≤d∧d<1048576) (hl:Dg l):Dg (d::l):=fun x hx=>by
 rcases List.mem_cons.1 hx with rfl|hx
 ·exact h
 ·exact hl x hx
theorem Dg.append {l m:List Int} (h:Dg l) (hm:Dg m):Dg (l++m):=fun x hx=>(List.mem_append.1 hx).elim (h x) (hm x)
theorem Dg.take {l:List Int} (h:Dg l) (n:Nat):Dg (l.take n):=fun x hx=>h x (List.mem_of_mem_take hx)
theorem Dg.drop {l:List Int} (h:Dg l) (n:Nat):Dg (l.drop n):=fun x hx=>h x (List.mem_of_mem_drop hx)
theorem Dg.rep (n:Nat):Dg (List.replicate n 0):=fun x hx=>by rw[(List.mem_replicate.1 hx).2];omega
theorem Dg.set {l:List Int} (h:Dg l) (i:Nat) {x:Int} (hx:0≤x∧x<1048576):Dg (l.set i x):=fun y hy=>by
 rcases List.mem_or_eq_of_mem_set hy with hy|rfl
 ·exact h y hy
 ·exact hx
theorem Dg.get {l:List Int} (h:Dg l) {i:Nat} (hi:i<l.length):0≤l[i]∧l[i]<1048576:=h _ (List.getElem_mem hi)
theorem cw:∀ {l:List Int},Dg l→0≤dv l
 | [],_=>Int.le_refl _
 | d::l,h=>by
  have h1:=h.cons
  have:=cw h1.2
  simp only[dv]
  omega
theorem nK:∀ {l:List Int},Dg l→dv l<pw l.length
 | [],_=>by simp[dv,ng]
 | d::l,h=>by
  have h1:=h.cons
  have:=nK h1.2
  simp only[dv,List.length_cons,jK]
  omega
theorem fl:∀l m:List Int,dv (l++m)=dv l+pw l.length*dv m
 | [],m=>by simp[dv,ng]
 | d::l,m=>by
  rw[List.cons_append,dv,dv,fl l m,List.length_cons,jK,Int.mul_add,Int.mul_assoc]
  omega
theorem A8:∀n:Nat,dv (List.replicate n 0)=0
 | 0=>rfl
 | n+1=>by rw[List.replicate_succ,dv,A8 n];rfl
theorem eY {l:List Int} {i:Nat} (h:i<l.length):dv (l.take (i+1))=dv (l.take i)+pw i*l[i]:=by
 have e:l.take (i+1)=l.take i++[l[i]]:=by rw[List.take_add_one];simp[h]
 rw[e,fl,List.length_take,Nat.min_eq_left (by omega)]
 simp[dv]
theorem ia (l:List Int) {i:Nat} (h:i≤l.length):dv l=dv (l.take i)+pw i*dv (l.drop i):=by
 have:=fl (l.take i) (l.drop i)
 rw[List.take_append_drop,List.length_take,Nat.min_eq_left h]at this
 exact this
theorem xI {l:List Int} {i:Nat} (h:i<l.length) (x:Int):dv (l.set i x)=dv l+pw i*(x-l[i]):=by
 induction l generalizing i with
 | nil=>simp at h
 | cons d l ih =>
  cases i with
  | zero=>simp only[List.set_cons_zero,dv,ng,List.getElem_cons_zero];omega
  | succ i =>
   have:=ih (i:=i) (by simpa using h)
   simp only[List.set_cons_succ,dv,this,jK,List.getElem_cons_succ,Int.mul_add,Int.mul_assoc]
   omega
theorem zY:∀ {l:List Int},Dg l→(∀h:l≠[],l.getLast h≠0)→aF (dv l).toNat=l
 | [],_,_=>by simp[dv,cv]
 | d::l,h,hl=>by
  have h1:=h.cons
  have h2:=cw h1.2
  have hne:(dv (d::l)).toNat≠0:=by
   simp only[dv]
   intro h0
   have hd:d=0:=by omega
   have hv:dv l=0:=by omega
   cases l with
   | nil=>exact hl (by simp) (by simpa using hd)
   | cons e m =>
    have ih:=zY h1.2 (fun hh=>by have:=hl (by simp);simpa using this)
    rw[hv]at ih
    simp[cv]at ih
  rw[lZ hne]
  have e1:(dv (d::l)).toNat % 1048576=d.toNat:=by simp only[dv];omega
  have e2:(dv (d::l)).toNat / 1048576=(dv l).toNat:=by simp only[dv];omega
  rw[e1,e2]
  have hd:(d.toNat:Int)=d:=by omega
  rw[hd]
  cases l with
  | nil=>simp[dv,cv]
  | cons e m=>rw[zY h1.2 (fun hh=>by have:=hl (by simp);simpa using this)]
theorem OZ:∀(n:Nat) (h:aF n≠[]),(aF n).getLast h≠0:=by
 intro n
 induction n using Nat.strongRecOn with
 | _ n ih =>
  intro h
  have hn:n≠0:=fun h0=>h (py.2 h0)
  have e:=lZ hn
  by_cases hq:n / 1048576=0
  ·have:aF n=[((n % 1048576:Nat):Int)]:=by rw[e,hq,cv]
   simp only[this,List.getLast_singleton]
   omega
  ·have hne:aF (n / 1048576)≠[]:=fun h0=>hq (py.1 h0)
   have:=ih (n / 1048576) (by omega) hne
   simp only[e]
   rw[List.getLast_cons hne]
   exact this
theorem QY {a b:Nat} (h:aF a=aF b):a=b:=by
 have:=congrArg dv h
 rw[bC,bC]at this
 omega
theorem fO {n k:Nat} (h:(n:Int)<pw k):(aF n).length≤k:=by
 induction k generalizing n with
 | zero =>
  rw[ng]at h
  have:n=0:=by omega
  rw[this,cv];simp
 | succ k ih =>
  by_cases h0:n=0
  ·rw[h0,cv];simp
  ·rw[lZ h0,List.length_cons]
   rw[jK]at h
   have:=ih (n:=n / 1048576) (by omega)
   omega
theorem eT (n:Nat):(n:Int)<pw (aF n).length:=by
 have:=nK (cz n)
 rwa [bC]at this
theorem v8 {n:Nat} (h:n≠0):pw ((aF n).length-1)≤n∧0<(aF n).length:=by
 induction n using Nat.strongRecOn with
 | _ n ih =>
  rw[lZ h,List.length_cons]
  refine⟨?_,by omega⟩
  by_cases hq:n / 1048576=0
  ·rw[hq,cv];simp[ng];omega
  ·obtain⟨h1,h2⟩:=ih (n / 1048576) (by omega) hq
   have:(aF (n / 1048576)).length+1-1=((aF (n / 1048576)).length-1)+1:=by omega
   rw[this,jK]
   omega
theorem Aw {x:Int} (h1 : -9223372036854775808≤x) (h2:x<9223372036854775808):mv .and .i64 x 1048575=x % 1048576:=by
 unfold mv
 simp only
 have e1:(BitVec.ofInt IntKind.i64.bits x &&& BitVec.ofInt IntKind.i64.bits 1048575).toNat=((x % 18446744073709551616).toNat) % 1048576:=by
  rw[BitVec.toNat_and,BitVec.toNat_ofInt,BitVec.toNat_ofInt]
  have e:((1048575:Int) % ((2 ^ IntKind.i64.bits:Nat):Int)).toNat=2 ^ 20-1:=by decide
  rw[e,Nat.and_two_pow_sub_one_eq_mod]
  rfl
 rw[e1,wrap64 (by omega) (by omega)]
 omega
theorem Si (x:Int):uC .i64 x 20=some (x / 1048576):=by
 unfold uC
 rw[if_neg (by decide)]
 have e:(2:Int) ^ (min (Int.toNat 20) IntKind.i64.bits)=1048576:=by decide
 rw[e,Int.fdiv_eq_ediv_of_nonneg _ (by decide)]
theorem Sg {x:Int} (h0:0≤x) (h:x<8796093022208):DH .i64 x 20=some (1048576*x):=by
 unfold DH
 rw[if_neg (by decide)]
 have e:(2:Int) ^ (min (Int.toNat 20) IntKind.i64.bits)=1048576:=by decide
 rw[e,wrap64 (by omega) (by omega),Int.mul_comm]
theorem Mb {x y:Int} (h0:0≤x) (h:x<8796093022208) (hy:0≤y∧y<1048576):mv .or .i64 (1048576*x) y=1048576*x+y:=by
 unfold mv
 simp only
 have e1:(BitVec.ofInt IntKind.i64.bits (1048576*x) ||| BitVec.ofInt IntKind.i64.bits y).toNat=1048576*x.toNat+y.toNat:=by
  rw[BitVec.toNat_or,BitVec.toNat_ofInt,BitVec.toNat_ofInt]
  have e:((2 ^ IntKind.i64.bits:Nat):Int)=18446744073709551616:=by decide
  rw[e]
  have e2:((1048576*x) % 18446744073709551616).toNat=x.toNat <<< 20:=by rw[Nat.shiftLeft_eq];omega
  have e3:(y % 18446744073709551616).toNat=y.toNat:=by omega
  rw[e2,e3,← Nat.shiftLeft_add_eq_or_of_lt (by omega),Nat.shiftLeft_eq]
  omega
 rw[e1,wrap64 (by omega) (by omega)]
 omega
theorem WC {n:Nat} (h:n≤17592186044416):KU 8 (n:Int) (n:Int) (0:Int)=some (List.replicate n 0):=by
 unfold KU
 rw[if_pos]
 ·simp
 ·have:(17592186044416:Int)≤maxLen:=by decide
  refine⟨by omega,by omega,by omega,?_⟩
  simp only[Int.toNat_natCast]
  omega
theorem CS {l m:List Int} (h:l.length+m.length≤17592186044416):gC 8 l m=some (l++m):=by
 unfold gC
 have:(17592186044416:Nat)≤maxLen:=by decide
 rw[if_pos ⟨by omega,by omega⟩]
theorem eD {σ ρ:Type} {body:σ→Option (σ⊕ρ)} (I:Nat→σ→Prop) (n:Nat) (Q:ρ→Prop) {s:σ} (hI:I 0 s) (hn:n+1<FU)
  (hstep:∀i s,i≤n→I i s→(i<n∧∃s',body s=some (.inl s')∧I (i+1) s')∨(∃r,body s=some (.inr r)∧Q r)):∃r,aW body s=some r∧Q r:=by
 have key:∀(k i:Nat) (s:σ),i≤n→n-i<k→I i s→∃r,l4 body k s=some r∧Q r:=by
  intro k
  induction k with
  | zero=>intro i s _ h;omega
  | succ k ih =>
   intro i s hi hk hI
   rcases hstep i s hi hI with⟨hlt,s',h1,h2⟩|⟨r,h1,h2⟩
   ·obtain⟨r,h3,h4⟩:=ih (i+1) s' (by omega) (by omega) h2
    exact⟨r,by simp only[l4,h1];exact h3,h4⟩
   ·exact⟨r,by simp only[l4,h1],h2⟩
 exact key FU 0 s (Nat.zero_le _) (by omega) hI
theorem N6 (i:Nat) (x:Int):pw (i+1)*x=pw i*(1048576*x):=by rw[jK,Int.mul_comm 1048576 (pw i),Int.mul_assoc]
theorem yg (i:Nat) (t:Int):pw i*(t % 1048576)+pw (i+1)*(t / 1048576)=pw i*t:=by
 rw[N6,← Int.mul_add]
 congr 1
 omega
theorem l5 {n:Nat} (h:n≤17592186044416):n+1<FU:=by unfold FU;omega
abbrev Fit (l:List Int):Prop:=l.length≤17592186044416
theorem iC {x:Int} (h : -4611686018427387904≤x∧x≤4611686018427387904):IntKind.i64.wrap x=x:=wrap64 (by omega) (by omega)
theorem pH {α:Type} (o:Option α):(o.bind fun r=>some r)=o:=by cases o<;>rfl
theorem FL {l:List Int} (hl:Fit l):∃r,aW (j6 l) (l.length:Int)=some r∧∃k:Nat,r=k∧k≤l.length∧(∀j (hj:j<l.length),k≤j→l[j]=0)∧(∀h:0<k,∀hk:k-1<l.length,l[k-1]≠0):=by
 unfold Fit at hl
 refine eD (I:=fun i s=>s=((l.length-i:Nat):Int)∧(∀j (hj:j<l.length),l.length-i≤j→l[j]=0)) l.length _ ⟨rfl,fun j hj h=>by omega⟩ (l5 hl) ?_
 rintro i s hi ⟨rfl,hz⟩
 generalize hk:l.length-i=k at *
 simp only[j6]
 by_cases h0:0<k
 ·have hk1:k-1<l.length:=by omega
  have e:IntKind.i64.wrap ((k:Int)-1)=((k-1:Nat):Int):=by rw[iC (by omega)];omega
  rw[if_pos (by simp;omega),e,cq hk1,Option.bind_some]
  by_cases hx:l[k-1]=0
  ·left
   refine⟨by omega,_,by rw[if_pos (by simpa using hx)],by rw[show l.length-(i+1)=k-1 by omega],fun j hj h =>?_⟩
   by_cases hj':j=k-1
   ·subst hj';exact hx
   ·exact hz j hj (by omega)
  ·right
   exact⟨_,by rw[if_neg (by simpa using hx)],k,rfl,by omega,hz,fun _ _=>hx⟩
 ·right
  exact⟨_,by rw[if_neg (by simp;omega)],k,rfl,by omega,hz,fun h=>absurd h h0⟩
theorem Q9 {l:List Int} {k:Nat} (hz:∀j (hj:j<l.length),k≤j→l[j]=0):dv (l.drop k)=0:=by
 have:l.drop k=List.replicate (l.drop k).length 0:=by
  refine List.eq_replicate_of_mem fun x hx =>?_
  obtain⟨i,hi,rfl⟩:=List.mem_iff_getElem.1 hx
  rw[List.getElem_drop]
  exact hz _ _ (by omega)
 rw[this,A8]
theorem xg {l:List Int} (hl:Fit l) (hd:Dg l):eB l=some (aF (dv l).toNat):=by
 obtain⟨r,h1,k,rfl,hk,hz,hlast⟩:=FL hl
 unfold eB
 rw[h1,Option.bind_some,Af hk,Option.bind_some]
 congr 1
 have h2:dv l=dv (l.take k):=by rw[ia l hk,Q9 hz];omega
 rw[h2]
 refine (zY (hd.take k) fun hne =>?_).symm
 have hk0:0<k:=by
  rcases Nat.eq_zero_or_pos k with h|h
  ·subst h;simp at hne
  ·exact h
 have:=hlast hk0 (by omega)
 rw[List.getLast_eq_getElem]
 simp only[List.length_take,List.getElem_take,Nat.min_eq_left hk]
 exact this
theorem Ag {l:List Int} {n:Nat} (hl:Fit l) (hd:Dg l) (hn:dv l=n):eB l=some (aF n):=by
 rw[xg hl hd,hn];rfl
def gd (l:List Int) (i:Nat):Int:=if h:i<l.length then l[i] else 0
theorem NI {l:List Int} (h:Dg l) (i:Nat):0≤gd l i∧gd l i<1048576:=by
 unfold gd
 split
 ·exact h.get _
 ·omega
theorem wG {l:List Int} (i:Nat):dv (l.take (i+1))=dv (l.take i)+pw i*gd l i:=by
 unfold gd
 split
 ·exact eY _
 ·rw[List.take_of_length_le (by omega),List.take_of_length_le (by omega)];simp
theorem Gj {l:List Int} {i:Nat} (h:l.length≤i):dv (l.take i)=dv l:=by rw[List.take_of_length_le h]
theorem vW {l:List Int} (h:Fit l):bo l=some l:=by
 unfold bo
 rw[CS (by simpa using h),List.nil_append]
theorem NJ {l:List Int} {i:Nat} (h:i<l.length):gd l i=l[i]:=by unfold gd;rw[dif_pos h]
theorem II {l:List Int} {i:Nat} (h:l.length≤i):gd l i=0:=by unfold gd;rw[dif_neg (by omega)]
theorem iY {l:List Int} {i:Nat} (h:i<l.length):dv (l.drop i)=l[i]+1048576*dv (l.drop (i+1)):=by
 rw[List.drop_eq_getElem_cons h,dv]
theorem TF {x d:Int} (h:0≤x) (hd:0<d) (hx:x<4611686018427387904):xG .i64 x d=some (x / d):=by
 unfold xG
 rw[if_neg (by omega),Int.tdiv_eq_ediv_of_nonneg h,iC]
 have:=Int.ediv_nonneg h (Int.le_of_lt hd)
 have:=Int.ediv_le_self d h
 omega
theorem VD {x d:Int} (h:0≤x) (hd:0<d):uA .i64 x d=some (x % d):=by
 unfold uA
 rw[if_neg (by omega),Int.tmod_eq_emod_of_nonneg h]
theorem Mi {a:List Int} {d:Int} (ha:Dg a) (hd:0<d∧d≤1048576) (hf:Fit a) :
  ∃r,aW (mL a d) (0,IntKind.i64.wrap ((a.length:Int)-1),List.replicate a.length 0)=some r∧r.2.length=a.length∧Dg r.2∧(0≤r.1∧r.1<d)∧dv a=d*dv r.2+r.1:=by
 unfold Fit at hf
 have e0:IntKind.i64.wrap ((a.length:Int)-1)=(a.length:Int)-1:=iC (by omega)
 rw[e0]
 refine eD (I:=fun i s=>s.2.1=((a.length-i:Nat):Int)-1∧s.2.2.length=a.length∧Dg s.2.2∧(0≤s.1∧s.1<d)∧dv (a.drop (a.length-i))=d*dv (s.2.2.drop (a.length-i))+s.1)
  a.length _ ⟨rfl,by simp,Dg.rep _,by simp;omega,by simp[dv]⟩ (l5 (by omega)) ?_
 rintro i ⟨r,s,l⟩ hi ⟨h1,hl,hg,hr,he⟩
 simp only at h1 hl hg hr he
 subst h1
 generalize hk:a.length-i=k at *
 simp only[mL]
 by_cases h0:0<k
 ·left
  have hk1:k-1<a.length:=by omega
  have hk2:k-1<l.length:=by omega
  have ek:((k:Int)-1)=((k-1:Nat):Int):=by omega
  have ga:=ha.get hk1
  rw[ek,if_pos (by simp),Sg (by omega) (by omega),Option.bind_some,cq hk1,Option.bind_some,Mb (by omega) (by omega) ga,TF (by omega) hd.1 (by omega),Option.bind_some,cq hk2,Option.bind_some,VD (by omega) hd.1,Option.bind_some]
  have e1:IntKind.i64.wrap (((k-1:Nat):Int)-1)=((k-1:Nat):Int)-1:=iC (by omega)
  have hx0:0≤1048576*r+a[k-1]:=by omega
  have hq0:0≤(1048576*r+a[k-1]) / d:=Int.ediv_nonneg hx0 (by omega)
  have hq1:(1048576*r+a[k-1]) / d<1048576:=by
   apply Int.ediv_lt_of_lt_mul hd.1
   have:1048576*r≤1048576*(d-1):=Int.mul_le_mul_of_nonneg_left (by omega) (by omega)
   omega
  have hm0:=Int.emod_nonneg (1048576*r+a[k-1]) (show d≠0 by omega)
  have hm1:=Int.emod_lt_of_pos (1048576*r+a[k-1]) hd.1
  refine⟨by omega,_,rfl,by rw[e1,show a.length-(i+1)=k-1 by omega],by simpa using hl,hg.set _ ⟨hq0,hq1⟩,⟨hm0,hm1⟩,?_⟩
  simp only[Int.toNat_natCast]
  rw[show a.length-(i+1)=k-1 by omega,iY hk1,iY (l:=l.set (k-1) _) (i:=k-1) (by simpa using hk2),show k-1+1=k by omega,List.getElem_set_self,List.drop_set_of_lt (by omega),he]
  have:=Int.mul_ediv_add_emod (1048576*r+a[k-1]) d
  rw[Int.mul_add,Int.mul_add]
  have e3:d*(1048576*dv (l.drop k))=1048576*(d*dv (l.drop k)):=by rw[← Int.mul_assoc,Int.mul_comm d,Int.mul_assoc]
  rw[e3]
  omega
 ·right
  have:k=0:=by omega
  subst this
  refine⟨(r,l),by rw[if_neg (by simp)],hl,hg,hr,?_⟩
  simpa using he
theorem Kw {a:List Int} {d:Int} (ha:Dg a) (hd:0<d∧d≤1048576) (hf:Fit a):j5 a d=some (aF (dv a / d).toNat,dv a % d):=by
 obtain⟨⟨r,l⟩,h1,h2,h3,h4,h5⟩:=Mi ha hd hf
 unfold j5
 rw[WC hf,Option.bind_some,h1,Option.bind_some]
 simp only at h2 h3 h4 h5 ⊢
 rw[xg (by unfold Fit at *;omega) h3,Option.bind_some]
 have e1:dv a / d=dv l:=by
  rw[h5,Int.mul_comm,Int.add_comm,Int.add_mul_ediv_right _ _ (by omega),Int.ediv_eq_zero_of_lt h4.1 h4.2];omega
 have e2:dv a % d=r:=by
  rw[h5,Int.mul_comm,Int.add_comm,Int.add_mul_emod_self_right]
  exact Int.emod_eq_of_lt h4.1 h4.2
 rw[e1,e2]
theorem PC {b l0:List Int} {x:Int} {i n:Nat} (hb:Dg b) (hx:0≤x∧x<1048576) (h0:Dg l0) (hn:l0.length=n) (hi:i+b.length<n) (hf:n≤17592186044416) (hz:∀j (hj:j<l0.length),i+b.length≤j→l0[j]=0) :
  ∃r,aW (qv b (i:Int) x) (0,0,l0)=some r∧r.2.length=n∧Dg r.2∧(0≤r.1∧r.1<1048576)∧(∀j (hj:j<r.2.length),i+b.length≤j→r.2[j]=0)∧dv r.2+pw (i+b.length)*r.1=dv l0+pw i*(x*dv b):=by
 refine eD (I:=fun k s=>s.2.1=(k:Int)∧s.2.2.length=n∧Dg s.2.2∧(0≤s.1∧s.1<1048576)∧(∀j (hj:j<s.2.2.length),i+b.length≤j→s.2.2[j]=0)∧dv s.2.2+pw (i+k)*s.1=dv l0+pw i*(x*dv (b.take k)))
  b.length _ ⟨rfl,hn,h0,by simp,hz,by simp[dv]⟩ (l5 (by omega)) ?_
 rintro k ⟨c,s,l⟩ hk ⟨h1,hl,hd,hc,hz,he⟩
 simp only at h1 hl hd hc hz he
 subst h1
 simp only[qv]
 by_cases hlt:k<b.length
 ·left
  have hik:i+k<l.length:=by omega
  have ei:IntKind.i64.wrap ((i:Int)+(k:Int))=((i+k:Nat):Int):=by rw[iC (by omega)];omega
  have gb:=hb.get hlt
  have gl:=hd.get hik
  have hm0:0≤x*b[k]:=Int.mul_nonneg hx.1 gb.1
  have hm1:x*b[k]≤1048575*1048575:=Int.mul_le_mul (by omega) (by omega) gb.1 (by omega)
  rw[if_pos (by simpa using hlt),cq hlt,Option.bind_some,ei,cq hik,Option.bind_some,iC (x:=x*b[k]) (by omega),iC (x:=l[i+k]+x*b[k]) (by omega),iC (x:=l[i+k]+x*b[k]+c) (by omega),Si,Option.bind_some,Aw (by omega) (by omega)]
  have e1:IntKind.i64.wrap ((k:Int)+1)=((k+1:Nat):Int):=by rw[iC (by omega)];omega
  refine⟨hlt,_,rfl,e1,by simpa using hl,hd.set _ (by omega),by simp only;omega,fun j hj hij =>?_,?_⟩
  ·simp only[Int.toNat_natCast]at hj ⊢
   rw[List.getElem_set_ne (by omega)]
   exact hz j (by simpa using hj) hij
  ·simp only[Int.toNat_natCast]
   rw[xI hik,eY hlt]
   have hp:=yg (i+k) (l[i+k]+x*b[k]+c)
   rw[Int.mul_add (pw (i+k)),Int.mul_add (pw (i+k))]at hp
   have e2:pw i*(x*(dv (b.take k)+pw k*b[k]))=pw i*(x*dv (b.take k))+pw (i+k)*(x*b[k]):=by
    rw[Int.mul_add,Int.mul_add,Cd]
    congr 1
    rw[Int.mul_left_comm x,← Int.mul_assoc]
   rw[e2,Int.mul_sub,show i+(k+1)=i+k+1 by omega]
   omega
 ·right
  have hkb:k=b.length:=by omega
  subst hkb
  refine⟨(c,l),by rw[if_neg (by simp)],hl,hd,hc,hz,?_⟩
  rw[he,List.take_length]
theorem PB {a b:List Int} (ha:Dg a) (hb:Dg b) (hf:a.length+b.length≤17592186044416) :
  ∃l,aW (qu a b) (0,List.replicate (a.length+b.length) 0)=some l∧l.length=a.length+b.length∧Dg l∧dv l=dv a*dv b:=by
 refine eD (I:=fun i s=>s.1=(i:Int)∧s.2.length=a.length+b.length∧Dg s.2∧(∀j (hj:j<s.2.length),i+b.length≤j→s.2[j]=0)∧dv s.2=dv (a.take i)*dv b)
  a.length _ ⟨rfl,by simp,Dg.rep _,fun j hj _=>by simp,by simp[dv,A8]⟩ (l5 (by omega)) ?_
 rintro i ⟨s,l⟩ hi ⟨h1,hl,hd,hz,he⟩
 simp only at h1 hl hd hz he
 subst h1
 simp only[qu]
 by_cases hlt:i<a.length
 ·left
  have ga:=ha.get hlt
  obtain⟨⟨c,m⟩,g1,g2,g3,g4,g5,g6⟩:=PC (i:=i) (n:=a.length+b.length) hb ga hd hl (by omega) hf hz
  rw[if_pos (by simpa using hlt),cq hlt,Option.bind_some,g1,Option.bind_some]
  simp only at g2 g3 g4 g5 g6 ⊢
  have ei:IntKind.i64.wrap ((i:Int)+(b.length:Int))=((i+b.length:Nat):Int):=by rw[iC (by omega)];omega
  have hib:i+b.length<m.length:=by omega
  rw[ei,cq hib,Option.bind_some,g5 _ hib (Nat.le_refl _),Int.zero_add,iC (x:=c) (by omega)]
  have e1:IntKind.i64.wrap ((i:Int)+1)=((i+1:Nat):Int):=by rw[iC (by omega)];omega
  refine⟨hlt,_,rfl,e1,by simpa using g2,g3.set _ g4,fun j hj hij =>?_,?_⟩
  ·simp only[Int.toNat_natCast]at hj ⊢
   rw[List.getElem_set_ne (by omega)]
   exact g5 j (by simpa using hj) (by omega)
  ·simp only[Int.toNat_natCast]
   rw[xI hib,g5 _ hib (Nat.le_refl _),Int.sub_zero,g6,he,eY hlt,Int.add_mul,Int.mul_assoc]
 ·right
  have hia:i=a.length:=by omega
  subst hia
  refine⟨l,by rw[if_neg (by simp)],hl,hd,?_⟩
  rw[he,List.take_length]
theorem mul_eq {a b:List Int} (ha:Dg a) (hb:Dg b) (hf:a.length+b.length≤17592186044416):mK a b=some (aF (dv a*dv b).toNat):=by
 obtain⟨l,h1,h2,h3,h4⟩:=PB ha hb hf
 unfold mK
 have e:IntKind.i64.wrap ((a.length:Int)+(b.length:Int))=((a.length+b.length:Nat):Int):=by rw[iC (by omega)];omega
 rw[e,WC hf,Option.bind_some,h1,Option.bind_some,pH,xg (by unfold Fit;omega) h3,h4]
def kW (x y:Int):Int:=if x<y then -1 else if y<x then 1 else 0
theorem K6 (x y:Int):fN x y=some (kW x y):=by
 unfold fN iX kW
 simp only[bne_self_eq_false,Option.bind_some,Bool.false_eq_true,if_false,decide_eq_true_eq]
 split
 ·rfl
 ·split<;>rfl
theorem Ib {a b:List Int} (ha:Dg a) (hb:Dg b) (hf:Fit a) (hl:a.length=b.length):fe a b=some (kW (dv a) (dv b)):=by
 unfold Fit at hf
 unfold fe
 rw[if_neg (by simp;omega)]
 have e0:IntKind.i64.wrap ((a.length:Int)-1)=(a.length:Int)-1:=iC (by omega)
 rw[e0]
 have key:∃r,aW (kr a b) ((a.length:Int)-1)=some r∧(match r with | .inl _=>kW (dv a) (dv b)=0 | .inr x=>x=kW (dv a) (dv b)):=by
  refine eD (I:=fun i s=>s=((a.length-i:Nat):Int)-1∧a.drop (a.length-i)=b.drop (a.length-i)) a.length _ ⟨rfl,?_⟩ (l5 hf) ?_
  ·rw[List.drop_eq_nil_of_le (by omega),List.drop_eq_nil_of_le (by omega)]
  rintro i s hi ⟨rfl,he⟩
  generalize hk:a.length-i=k at *
  simp only[kr]
  by_cases h0:0<k
  ·have h1:k-1<a.length:=by omega
   have h2:k-1<b.length:=by omega
   have ek:((k:Int)-1)=((k-1:Nat):Int):=by omega
   rw[ek,if_pos (by simp),cq h1,Option.bind_some,cq h2,Option.bind_some]
   by_cases hx:a[k-1]=b[k-1]
   ·left
    rw[if_neg (by simpa using hx)]
    refine⟨by omega,_,rfl,by rw[iC (by omega)];omega,?_⟩
    rw[show a.length-(i+1)=k-1 by omega,List.drop_eq_getElem_cons h1,List.drop_eq_getElem_cons h2,hx,show k-1+1=k by omega,he]
   ·right
    rw[if_pos (by simpa using hx),K6,Option.bind_some]
    refine⟨_,rfl,?_⟩
    simp only
    have ea:=ia a (i:=k) (by omega)
    have eb:=ia b (i:=k) (by omega)
    have ta:=eY h1
    have tb:=eY h2
    rw[show k-1+1=k by omega]at ta tb
    have la:=nK (ha.take (k-1))
    have lb:=nK (hb.take (k-1))
    rw[List.length_take,Nat.min_eq_left (by omega)]at la lb
    have na:=cw (ha.take (k-1))
    have nb:=cw (hb.take (k-1))
    have hp:=lq (k-1)
    rw[ta]at ea
    rw[tb]at eb
    rw[he]at ea
    unfold kW
    rcases Int.lt_or_gt_of_ne hx with hlt|hlt
    ·have:pw (k-1)*a[k-1]+pw (k-1)≤pw (k-1)*b[k-1]:=by
      have:pw (k-1)*(a[k-1]+1)≤pw (k-1)*b[k-1]:=Int.mul_le_mul_of_nonneg_left (by omega) (by omega)
      rwa [Int.mul_add,Int.mul_one]at this
     rw[if_pos hlt,if_pos (by omega)]
    ·have:pw (k-1)*b[k-1]+pw (k-1)≤pw (k-1)*a[k-1]:=by
      have:pw (k-1)*(b[k-1]+1)≤pw (k-1)*a[k-1]:=Int.mul_le_mul_of_nonneg_left (by omega) (by omega)
      rwa [Int.mul_add,Int.mul_one]at this
     rw[if_neg (by omega),if_pos hlt,if_neg (by omega),if_pos (by omega)]
  ·right
   have:k=0:=by omega
   subst this
   refine⟨.inl (),by rw[if_neg (by simp)],?_⟩
   simp only[List.drop_zero]at he
   simp[he,kW]
 obtain⟨r,h1,h2⟩:=key
 rw[h1,Option.bind_some]
 cases r with
 | inl u=>simp only at h2 ⊢;rw[h2]
 | inr x=>simp only at h2 ⊢;rw[h2]
theorem sA {m n:Nat} (h:(aF m).length<(aF n).length):m<n:=by
 have h1:=eT m
 have hn:n≠0:=fun h0=>by subst h0;rw[cv]at h;simp at h
 have h2:=v8 hn
 have h3:=ud (i:=(aF m).length) (j:=(aF n).length-1) (by omega)
 omega
theorem dA {m n:Nat} (h:m≤n):(aF m).length≤(aF n).length:=by
 rcases Nat.lt_or_ge (aF n).length (aF m).length with h1|h1
 ·have:=sA h1;omega
 ·exact h1
theorem AW {m n:Nat} (hm:Fit (aF m)) (hn:Fit (aF n)):fe (aF m) (aF n)=some (kW m n):=by
 by_cases hl:(aF m).length=(aF n).length
 ·rw[Ib (cz m) (cz n) hm hl,bC,bC]
 ·unfold fe
  rw[if_pos (by simp;omega),K6,pH]
  unfold kW
  rcases Nat.lt_or_gt_of_ne hl with h|h
  ·have:=sA h
   rw[if_pos (by omega),if_pos (by omega)]
  ·have:=sA h
   rw[if_neg (by omega),if_pos (by omega),if_neg (by omega),if_pos (by omega)]
theorem Hd {u v:List Int} {g:Int} (hu:Dg u) (hv:Dg v) (hg:0≤g∧g≤1048576) (hf:Fit u) (hl:v.length≤u.length) :
  ∃r,aW (jD u v g) (0,0,u)=some r∧r.2.length=u.length∧Dg r.2∧(0≤r.1∧r.1≤1048576)∧dv r.2+g*dv v=dv u+pw u.length*r.1:=by
 unfold Fit at hf
 refine eD (I:=fun i s=>s.2.1=(i:Int)∧s.2.2.length=u.length∧Dg s.2.2∧(∀j (hj:j<s.2.2.length) (hj':j<u.length),i≤j→s.2.2[j]=u[j])∧(0≤s.1∧s.1≤1048576)∧dv s.2.2+g*dv (v.take i)=dv u+pw i*s.1)
  u.length _ ⟨rfl,rfl,hu,fun j hj _ _=>rfl,by simp,by simp[dv]⟩ (l5 (by omega)) ?_
 rintro i ⟨c,s,l⟩ hi ⟨h1,hll,hd,hz,hc,he⟩
 simp only at h1 hll hd hz hc he
 subst h1
 simp only[jD]
 by_cases hlt:i<u.length
 ·left
  have hli:i<l.length:=by omega
  rw[if_pos (by simpa using hlt),cq hli,Option.bind_some,hz i hli hlt (Nat.le_refl _)]
  have ga:=hu.get hlt
  have gb:=NI hv i
  have hm0:0≤g*gd v i:=Int.mul_nonneg hg.1 gb.1
  have hm1:g*gd v i≤1048576*1048575:=Int.mul_le_mul (by omega) (by omega) gb.1 (by omega)
  have hT:(if decide ((i:Int)<(v.length:Int))=true then (P.idx v (i:Int)).bind fun x17=>some (IntKind.i64.wrap ((IntKind.i64.wrap (u[i]-c))-(IntKind.i64.wrap (g*x17)))) else some (IntKind.i64.wrap (u[i]-c)))=some (u[i]-c-g*gd v i):=by
   by_cases hib:i<v.length
   ·rw[if_pos (by simpa using hib),cq hib,Option.bind_some]
    rw[NJ hib]at gb hm0 hm1 ⊢
    rw[iC (x:=u[i]-c) (by omega),iC (x:=g*v[i]) (by omega),iC (by omega)]
   ·rw[if_neg (by simpa using hib),II (by omega),iC (by omega)];simp
  rw[hT,Option.bind_some,Si,Option.bind_some,Aw (by omega) (by omega),iC (x:=0-_) (by omega)]
  have e1:IntKind.i64.wrap ((i:Int)+1)=((i+1:Nat):Int):=by rw[iC (by omega)];omega
  refine⟨hlt,_,rfl,e1,by simpa using hll,hd.set _ (by omega),fun j hj hj' hij =>?_,by simp only;omega,?_⟩
  ·simp only[Int.toNat_natCast]at hj ⊢
   rw[List.getElem_set_ne (by omega)]
   exact hz j (by simpa using hj) hj' (by omega)
  ·simp only[Int.toNat_natCast]
   rw[xI hli,hz i hli hlt (Nat.le_refl _),wG]
   have hp:=yg i (u[i]-c-g*gd v i)
   rw[Int.mul_sub (pw i),Int.mul_sub (pw i)]at hp
   have e2:g*(dv (v.take i)+pw i*gd v i)=g*dv (v.take i)+pw i*(g*gd v i):=by rw[Int.mul_add,Int.mul_left_comm]
   rw[e2,Int.mul_sub (pw i),Int.mul_sub (pw (i+1)),Int.mul_zero]
   omega
 ·right
  have hia:i=u.length:=by omega
  subst hia
  refine⟨(c,l),by rw[if_neg (by simp)],hll,hd,hc,?_⟩
  rw[Gj hl]at he
  exact he
theorem He {u v:List Int} (hu:Dg u) (hv:Dg v) (hf:Fit u) (hl:v.length≤u.length) :
  ∃l,aW (jE v u) (0,0,u)=some l∧l.length=u.length∧Dg l∧∃c,0≤c∧dv l+pw u.length*c=dv u+dv v:=by
 unfold Fit at hf
 refine eD (I:=fun i s=>s.2.1=(i:Int)∧s.2.2.length=u.length∧Dg s.2.2∧(∀j (hj:j<s.2.2.length) (hj':j<u.length),i≤j→s.2.2[j]=u[j])∧(0≤s.1∧s.1≤1)∧dv s.2.2+pw i*s.1=dv u+dv (v.take i))
  u.length _ ⟨rfl,rfl,hu,fun j hj _ _=>rfl,by simp,by simp[dv]⟩ (l5 (by omega)) ?_
 rintro i ⟨c,s,l⟩ hi ⟨h1,hll,hd,hz,hc,he⟩
 simp only at h1 hll hd hz hc he
 subst h1
 simp only[jE]
 by_cases hlt:i<u.length
 ·left
  have hli:i<l.length:=by omega
  rw[if_pos (by simpa using hlt),cq hli,Option.bind_some,hz i hli hlt (Nat.le_refl _)]
  have ga:=hu.get hlt
  have gb:=NI hv i
  have hT:(if decide ((i:Int)<(v.length:Int))=true then (P.idx v (i:Int)).bind fun x35=>some (IntKind.i64.wrap ((IntKind.i64.wrap (c+u[i]))+x35)) else some (IntKind.i64.wrap (c+u[i])))=some (c+u[i]+gd v i):=by
   by_cases hib:i<v.length
   ·rw[if_pos (by simpa using hib),cq hib,Option.bind_some]
    rw[NJ hib]at gb ⊢
    rw[iC (x:=c+u[i]) (by omega),iC (by omega)]
   ·rw[if_neg (by simpa using hib),II (by omega),iC (by omega)];simp
  rw[hT,Option.bind_some,Si,Option.bind_some,Aw (by omega) (by omega)]
  have e1:IntKind.i64.wrap ((i:Int)+1)=((i+1:Nat):Int):=by rw[iC (by omega)];omega
  refine⟨hlt,_,rfl,e1,by simpa using hll,hd.set _ (by omega),fun j hj hj' hij =>?_,by simp only;omega,?_⟩
  ·simp only[Int.toNat_natCast]at hj ⊢
   rw[List.getElem_set_ne (by omega)]
   exact hz j (by simpa using hj) hj' (by omega)
  ·simp only[Int.toNat_natCast]
   rw[xI hli,hz i hli hlt (Nat.le_refl _),wG]
   have hp:=yg i (c+u[i]+gd v i)
   rw[Int.mul_add (pw i),Int.mul_add (pw i)]at hp
   rw[Int.mul_sub (pw i)]
   omega
 ·right
  have hia:i=u.length:=by omega
  subst hia
  refine⟨l,by rw[if_neg (by simp)],hll,hd,c,hc.1,?_⟩
  rw[Gj hl]at he
  exact he
theorem PT {u v:List Int} {g:Int} (hu:Dg u) (hv:Dg v) (hf:Fit u) (hl:v.length≤u.length) (hV:0<dv v) (hg0:dv u / dv v≤g) (hg1:g≤dv u / dv v+1) (hgB:g≤1048576) :
  ∃l,eW u v g=some (l,dv u / dv v)∧l.length=u.length∧Dg l∧dv l=dv u % dv v:=by
 have hq0:0≤dv u / dv v:=Int.ediv_nonneg (cw hu) (by omega)
 obtain⟨⟨c,l⟩,h1,h2,h3,h4,h5⟩:=Hd hu hv ⟨by omega,hgB⟩ hf hl
 simp only at h2 h3 h4 h5
 have hm:=Int.mul_ediv_add_emod (dv u) (dv v)
 have hm0:=Int.emod_nonneg (dv u) (show dv v≠0 by omega)
 have hm1:=Int.emod_lt_of_pos (dv u) hV
 have hll:=nK h3
 have hl0:=cw h3
 rw[h2]at hll
 have hp:=lq u.length
 have hvl:dv v<pw u.length:=Int.lt_of_lt_of_le (nK hv) (ud hl)
 unfold eW nI
 rw[h1,Option.bind_some]
 simp only
 rcases (show g=dv u / dv v∨g=dv u / dv v+1 by omega) with hg|hg
 ·have hgv:g*dv v=dv v*(dv u / dv v):=by rw[hg,Int.mul_comm]
  have hc0:c=0:=by
   rcases (show c=0∨1≤c by omega) with h|h
   ·exact h
   ·have:pw u.length*1≤pw u.length*c:=Int.mul_le_mul_of_nonneg_left h (by omega)
    omega
  subst hc0
  rw[if_pos (by simp),Option.bind_some,if_pos (by simpa using h2)]
  exact⟨l,by rw[hg],h2,h3,by rw[Int.mul_zero]at h5;omega⟩
 ·have hgv:g*dv v=dv v*(dv u / dv v)+dv v:=by rw[hg,Int.add_mul,Int.one_mul,Int.mul_comm]
  have hc0:c≠0:=by
   intro h
   subst h
   rw[Int.mul_zero]at h5
   omega
  obtain⟨m,g1,g2,g3,d,g4,g5⟩:=He h3 hv (by unfold Fit at *;omega) (by omega)
  rw[if_neg (by simpa using hc0),g1,Option.bind_some,Option.bind_some,if_pos (by simp;omega)]
  refine⟨m,by rw[iC (by omega),hg];simp,by omega,g3,?_⟩
  rw[h2]at g5
  have hml:=nK g3
  have hm0':=cw g3
  rw[g2,h2]at hml
  have hcd:c=d:=by
   rcases Int.lt_trichotomy c d with h|h|h
   ·have:pw u.length*(c+1)≤pw u.length*d:=Int.mul_le_mul_of_nonneg_left (by omega) (by omega)
    rw[Int.mul_add,Int.mul_one]at this
    omega
   ·exact h
   ·have:pw u.length*(d+1)≤pw u.length*c:=Int.mul_le_mul_of_nonneg_left (by omega) (by omega)
    rw[Int.mul_add,Int.mul_one]at this
    omega
  subst hcd
  omega
theorem Lv {v u:List Int} {s13:Int} {v1 v2 w2 T V W:Int} {n:Nat} (hn:2≤n) (hlen:v.length=n) (hfv:n≤17592186044416) (i:Nat) (hs:s13=i) (hfi:i+n≤17592186044416)
  (hv2:P.idx v (((n-2:Nat)):Int)=some v2) (hw2:P.idx u (((i+n-2:Nat)):Int)=some w2)
  (b1:524288≤v1∧v1<1048576) (b2:0≤v2∧v2<1048576) (bw:0≤w2∧w2<1048576) (hT0:0≤T) (hT1:T<1048576*1048576)
  (hV:pw (n-2)*(v1*1048576+v2)≤V∧V<pw (n-2)*(v1*1048576+v2+1)) (hW:pw (n-2)*(T*1048576+w2)≤W∧W<pw (n-2)*(T*1048576+w2+1)) (hWV:W<1048576*V) :
  ∃g,aW (qt v s13 u v1) (T / v1,T % v1)=some g∧W / V≤g∧g≤W / V+1∧g≤1048576:=by
 subst hs
 have hp:=lq (n-2)
 have hVp:0<V:=by
  have:pw (n-2)*1≤pw (n-2)*(v1*1048576+v2):=Int.mul_le_mul_of_nonneg_left (by omega) (by omega)
  omega
 have hW0:0≤W:=by
  have:0≤pw (n-2)*(T*1048576+w2):=Int.mul_nonneg (by omega) (by omega)
  omega
 have hq0:0≤W / V:=Int.ediv_nonneg hW0 (by omega)
 have hqB:W / V<1048576:=Int.ediv_lt_of_lt_mul hVp hWV
 have hm:=Int.mul_ediv_add_emod T v1
 have hm0:=Int.emod_nonneg T (show v1≠0 by omega)
 have hm1:=Int.emod_lt_of_pos T (show 0<v1 by omega)
 have hd0:0≤T / v1:=Int.ediv_nonneg hT0 (by omega)
 have hd1:T / v1≤2097152:=by
  have:T / v1<2097153:=Int.ediv_lt_of_lt_mul (by omega) (by
   have:2097153*524288≤2097153*v1:=Int.mul_le_mul_of_nonneg_left b1.1 (by omega)
   omega)
  omega
 have hge:∀g r:Int,g*v1+r=T→W / V≤g→g*v2>r*1048576+w2→W / V≤g-1:=by
  intro g r h1 h2 h3
  have h4:W<g*V:=by
   have e1:g*(v1*1048576+v2)≥T*1048576+w2+1:=by
    rw[← h1]
    have:g*(v1*1048576+v2)=g*v1*1048576+g*v2:=by rw[Int.mul_add,Int.mul_assoc]
    rw[this,Int.add_mul]
    omega
   have e2:pw (n-2)*(T*1048576+w2+1)≤pw (n-2)*(g*(v1*1048576+v2)):=Int.mul_le_mul_of_nonneg_left e1 (by omega)
   have e3:g*(pw (n-2)*(v1*1048576+v2))≤g*V:=Int.mul_le_mul_of_nonneg_left hV.1 (by omega)
   have e4:pw (n-2)*(g*(v1*1048576+v2))=g*(pw (n-2)*(v1*1048576+v2)):=Int.mul_left_comm _ _ _
   omega
  have:=Int.ediv_lt_of_lt_mul hVp h4
  omega
 have hle:∀g r:Int,g*v1+r=T→0≤g→g≤1048576→g*v2≤r*1048576+w2→g≤W / V+1:=by
  intro g r h1 h0 hB h3
  have e1:g*(v1*1048576+v2)≤T*1048576+w2:=by
   rw[← h1]
   have:g*(v1*1048576+v2)=g*v1*1048576+g*v2:=by rw[Int.mul_add,Int.mul_assoc]
   rw[this,Int.add_mul]
   omega
  have e2:g*V≤W+V:=by
   have f1:g*V≤g*(pw (n-2)*(v1*1048576+v2+1)):=Int.mul_le_mul_of_nonneg_left (by omega) h0
   have f2:g*(pw (n-2)*(v1*1048576+v2+1))=pw (n-2)*(g*(v1*1048576+v2))+pw (n-2)*g:=by
    rw[Int.mul_left_comm,Int.mul_add g,Int.mul_one,Int.mul_add]
   have f3:pw (n-2)*(g*(v1*1048576+v2))≤pw (n-2)*(T*1048576+w2):=Int.mul_le_mul_of_nonneg_left e1 (by omega)
   have f4:pw (n-2)*g≤pw (n-2)*(v1*1048576+v2):=Int.mul_le_mul_of_nonneg_left (by omega) (by omega)
   omega
  have e3:(g-1)*V≤W:=by rw[Int.sub_mul,Int.one_mul];omega
  have:=Int.le_ediv_of_mul_le hVp e3
  omega
 have hbase:W / V≤T / v1:=by
  have e1:W<(T / v1+1)*V:=by
   have f1:T+1≤(T / v1+1)*v1:=by
    have:(T / v1+1)*v1=v1*(T / v1)+v1:=by rw[Int.add_mul,Int.one_mul,Int.mul_comm]
    omega
   have f2:T*1048576+w2+1≤(T / v1+1)*(v1*1048576+v2):=by
    have g1:(T+1)*1048576≤(T / v1+1)*v1*1048576:=Int.mul_le_mul_of_nonneg_right f1 (by omega)
    have g2:0≤(T / v1+1)*v2:=Int.mul_nonneg (by omega) b2.1
    rw[Int.mul_add,← Int.mul_assoc]
    omega
   have f3:pw (n-2)*(T*1048576+w2+1)≤pw (n-2)*((T / v1+1)*(v1*1048576+v2)):=Int.mul_le_mul_of_nonneg_left f2 (by omega)
   have f4:(T / v1+1)*(pw (n-2)*(v1*1048576+v2))≤(T / v1+1)*V:=Int.mul_le_mul_of_nonneg_left hV.1 (by omega)
   have f5:pw (n-2)*((T / v1+1)*(v1*1048576+v2))=(T / v1+1)*(pw (n-2)*(v1*1048576+v2)):=Int.mul_left_comm _ _ _
   omega
  have:=Int.ediv_lt_of_lt_mul hVp e1
  omega
 refine fC (I:=fun (s:Int×Int)=>s.1*v1+s.2=T∧W / V≤s.1∧s.1≤2097152∧0≤s.2) (μ:=fun (s:Int×Int)=>s.1.toNat) _ ⟨?_,hbase,hd1,hm0⟩ (by unfold FU;omega) ?_
 ·show T / v1*v1+T % v1=T
  rw[Int.mul_comm];exact hm
 rintro⟨g,r⟩ ⟨h1,h2,h3,h4⟩
 simp only at h1 h2 h3 h4
 have hgv:0≤g*v1:=Int.mul_nonneg (by omega) (by omega)
 simp only[qt]
 have el:IntKind.i64.wrap ((v.length:Int)-2)=((n-2:Nat):Int):=by rw[hlen,iC (by omega)];omega
 have ei:IntKind.i64.wrap ((IntKind.i64.wrap ((i:Int)+(v.length:Int)))-2)=((i+n-2:Nat):Int):=by rw[hlen,iC (x:=(i:Int)+n) (by omega),iC (by omega)];omega
 rw[el,ei]
 have hstep:W / V≤g-1→∃s':Int×Int,(some (Sum.inl (IntKind.i64.wrap (g-1),IntKind.i64.wrap (r+v1))):Option ((Int×Int)⊕Int))=some (.inl s')∧(s'.1*v1+s'.2=T∧W / V≤s'.1∧s'.1≤2097152∧0≤s'.2)∧s'.1.toNat<g.toNat:=by
  intro hlt
  refine⟨_,rfl,?_⟩
  rw[iC (x:=g-1) (by omega),iC (x:=r+v1) (by omega)]
  simp only
  refine⟨⟨by rw[Int.sub_mul,Int.one_mul];omega,hlt,by omega,by omega⟩,by omega⟩
 by_cases hgB:g≥1048576
 ·rw[if_pos (by simpa using hgB),Option.bind_some,if_pos rfl]
  exact .inl (hstep (by omega))
 ·rw[if_neg (by simpa using hgB)]
  by_cases hr:r<1048576
  ·have hgv2:0≤g*v2:=Int.mul_nonneg (by omega) b2.1
   have hgv2':g*v2≤1048576*1048576:=Int.mul_le_mul (by omega) (by omega) b2.1 (by omega)
   rw[if_pos (by simpa using hr),hv2,Option.bind_some,Sg h4 (by omega),Option.bind_some,hw2,Option.bind_some,iC (x:=g*v2) (by omega),Mb h4 (by omega) bw,Option.bind_some]
   by_cases ht:g*v2>1048576*r+w2
   ·rw[if_pos (by simpa using ht)]
    exact .inl (hstep (hge g r h1 h2 (by omega)))
   ·rw[if_neg (by simpa using ht)]
    exact .inr ⟨g,rfl,h2,hle g r h1 (by omega) (by omega) (by omega),by omega⟩
  ·rw[if_neg (by simpa using hr),Option.bind_some,if_neg (by simp)]
   refine .inr ⟨g,rfl,h2,hle g r h1 (by omega) (by omega) ?_,by omega⟩
   have:g*v2≤1048575*1048575:=Int.mul_le_mul (by omega) (by omega) b2.1 (by omega)
   have:1048576*1048576≤r*1048576:=Int.mul_le_mul_of_nonneg_right (by omega) (by omega)
   omega
theorem VK {α:Type} {l:List α} {a b:Nat} (h:a≤b) (hb:b≤l.length):Cx l (a:Int) (b:Int)=some ((l.drop a).take (b-a)):=by
 unfold Cx
 rw[if_pos ⟨by omega,by omega,by omega⟩]
 simp
theorem TH {l:List Int} {n:Nat} (hl:l.length=n) (hn:2≤n) (hd:Dg l) :
  pw (n-2)*((l[n-1]'(by omega))*1048576+l[n-2]'(by omega))≤dv l∧dv l<pw (n-2)*((l[n-1]'(by omega))*1048576+l[n-2]'(by omega)+1):=by
 have e:=ia l (i:=n-2) (by omega)
 rw[iY (by omega),iY (i:=n-2+1) (by omega),List.drop_eq_nil_of_le (by omega)]at e
 have e1:l[n-2+1]'(by omega)=l[n-1]'(by omega):=by congr 1;omega
 rw[e1]at e
 have h1:=cw (hd.take (n-2))
 have h2:=nK (hd.take (n-2))
 rw[List.length_take,Nat.min_eq_left (by omega)]at h2
 simp only[dv]at e
 have e2:l[n-2]'(by omega)+1048576*(l[n-1]'(by omega)+1048576*0)=(l[n-1]'(by omega))*1048576+l[n-2]'(by omega):=by omega
 rw[e2]at e
 rw[Int.mul_add (pw (n-2)) _ 1,Int.mul_one]
 omega
theorem TI {l:List Int} {n:Nat} (hl:l.length=n+1) (hn:2≤n) (hd:Dg l) :
  pw (n-2)*((1048576*(l[n]'(by omega))+l[n-1]'(by omega))*1048576+l[n-2]'(by omega))≤dv l∧dv l<pw (n-2)*((1048576*(l[n]'(by omega))+l[n-1]'(by omega))*1048576+l[n-2]'(by omega)+1):=by
 have e:=ia l (i:=n-2) (by omega)
 rw[iY (by omega),iY (i:=n-2+1) (by omega),iY (i:=n-2+1+1) (by omega),List.drop_eq_nil_of_le (by omega)]at e
 have e1:l[n-2+1]'(by omega)=l[n-1]'(by omega):=by congr 1;omega
 have e3:l[n-2+1+1]'(by omega)=l[n]'(by omega):=by congr 1;omega
 rw[e1,e3]at e
 have h1:=cw (hd.take (n-2))
 have h2:=nK (hd.take (n-2))
 rw[List.length_take,Nat.min_eq_left (by omega)]at h2
 simp only[dv]at e
 have e2:l[n-2]'(by omega)+1048576*(l[n-1]'(by omega)+1048576*(l[n]'(by omega)+1048576*0))=(1048576*(l[n]'(by omega))+l[n-1]'(by omega))*1048576+l[n-2]'(by omega):=by omega
 rw[e2]at e
 rw[Int.mul_add (pw (n-2)) _ 1,Int.mul_one]
 omega
theorem QZ {v u0:List Int} {n m:Nat} (hv:Dg v) (hvl:v.length=n) (hn:2≤n) (hv1:524288≤v[n-1]'(by omega)) (hu:Dg u0) (hul:u0.length=m+n) (hf:m+n≤17592186044416) (hdr:dv (u0.drop m)<dv v) :
  ∃r,aW (qq v) ((m:Int)-1,u0,List.replicate m 0)=some r∧r.1.length=m+n∧Dg r.1∧r.2.length=m∧Dg r.2∧dv r.1+dv v*dv r.2=dv u0∧dv r.1<dv v:=by
 have hvn:=nK hv
 rw[hvl]at hvn
 refine eD (I:=fun i s=>s.1=((m-i:Nat):Int)-1∧s.2.1.length=m+n∧Dg s.2.1∧s.2.2.length=m∧Dg s.2.2∧(∀j (hj:j<s.2.2.length),j<m-i→s.2.2[j]=0)∧dv s.2.1+dv v*dv s.2.2=dv u0∧dv (s.2.1.drop (m-i))<dv v)
  m _ ⟨rfl,hul,hu,by simp,Dg.rep _,fun j hj _=>by simp,by simp[A8],hdr⟩ (l5 (by omega)) ?_
 rintro i ⟨s,u,q⟩ hi ⟨h1,hl,hd,hql,hqd,hz,he,hdr⟩
 simp only at h1 hl hd hql hqd hz he hdr
 subst h1
 generalize hk:m-i=k at *
 simp only[qq]
 by_cases h0:0<k
 ·left
  have ek:((k:Int)-1)=((k-1:Nat):Int):=by omega
  rw[ek,if_pos (by simp)]
  have e1:IntKind.i64.wrap (((k-1:Nat):Int)+(v.length:Int))=((k-1+n:Nat):Int):=by rw[hvl,iC (by omega)];omega
  have e2:IntKind.i64.wrap (((k-1+n:Nat):Int)-1)=((k-1+n-1:Nat):Int):=by rw[iC (by omega)];omega
  have e3:IntKind.i64.wrap ((v.length:Int)-1)=((n-1:Nat):Int):=by rw[hvl,iC (by omega)];omega
  have e4:IntKind.i64.wrap (((k-1+n:Nat):Int)+1)=((k-1+n+1:Nat):Int):=by rw[iC (by omega)];omega
  have e5:IntKind.i64.wrap (((k-1:Nat):Int)-1)=((k-1:Nat):Int)-1:=iC (by omega)
  rw[e1,e2,e3,e4,e5]
  have i1:k-1+n<u.length:=by omega
  have i2:k-1+n-1<u.length:=by omega
  have i3:k-1+n-2<u.length:=by omega
  have iv:n-1<v.length:=by omega
  have iv2:n-2<v.length:=by omega
  have g1:=hd.get i1
  have g2:=hd.get i2
  have g3:=hd.get i3
  have gv:=hv.get iv
  have gv2:=hv.get iv2
  rw[cq i1,Option.bind_some,Sg g1.1 (by omega),Option.bind_some,cq i2,Option.bind_some,cq iv,Option.bind_some,Mb g1.1 (by omega) g2,TF (by omega) (by omega) (by omega),Option.bind_some,VD (by omega) (by omega),Option.bind_some,VK (by omega) (by omega),show k-1+n+1-(k-1)=n+1 by omega]
  generalize hw:(u.drop (k-1)).take (n+1)=w
  have hwl:w.length=n+1:=by rw[← hw,List.length_take,List.length_drop];omega
  have hwd:Dg w:=by rw[← hw];exact (hd.drop _).take _
  have hwg:∀j (hj:j<n+1),w[j]'(by omega)=u[k-1+j]'(by omega):=by
   intro j hj
   subst hw
   rw[List.getElem_take,List.getElem_drop]
  have hup:dv (u.drop (k+n))=0:=by
   have s1:=ia (u.drop k) (i:=n) (by rw[List.length_drop];omega)
   rw[List.drop_drop]at s1
   have n1:=cw ((hd.drop k).take n)
   have n2:=cw (hd.drop (k+n))
   have hp:=lq n
   rcases (show dv (u.drop (k+n))=0∨1≤dv (u.drop (k+n)) by omega) with h|h
   ·exact h
   ·have:pw n*1≤pw n*dv (u.drop (k+n)):=Int.mul_le_mul_of_nonneg_left h (by omega)
    omega
  have hW:dv w=dv (u.drop (k-1)):=by
   have s1:=ia (u.drop (k-1)) (i:=n+1) (by rw[List.length_drop];omega)
   rw[List.drop_drop,show k-1+(n+1)=k+n by omega,hup,hw]at s1
   omega
  have hWk:dv w=u[k-1]+1048576*dv (u.drop k):=by
   rw[hW,iY (by omega),show k-1+1=k by omega]
  have gk:=hd.get (show k-1<u.length by omega)
  have hWV:dv w<1048576*dv v:=by omega
  have t2:=TH hvl hn hv
  have t3:=TI hwl hn hwd
  rw[hwg n (by omega),hwg (n-1) (by omega),hwg (n-2) (by omega)]at t3
  have a1:u[k-1+(n-1)]'(by omega)=u[k-1+n-1]'(by omega):=by congr 1;omega
  have a2:u[k-1+(n-2)]'(by omega)=u[k-1+n-2]'(by omega):=by congr 1;omega
  rw[a1,a2]at t3
  obtain⟨g,q1,q2,q3,q4⟩:=Lv (s13:=((k-1:Nat):Int)) hn hvl (by omega) (k-1) rfl (by omega) (cq iv2) (cq i3) ⟨hv1,gv.2⟩ gv2 g3 (T:=1048576*u[k-1+n]+u[k-1+n-1]) (by omega) (by omega) t2 t3 hWV
  rw[q1,Option.bind_some,Option.bind_some]
  have hVp:0<dv v:=by
   have:=cw hwd
   omega
  obtain⟨l,r1,r2,r3,r4⟩:=PT hwd hv (by unfold Fit;omega) (by omega) hVp q2 q3 q4
  have iq:k-1<q.length:=by omega
  rw[r1,Option.bind_some,cq iq,Option.bind_some]
  simp only
  have hq0:0≤dv w / dv v:=Int.ediv_nonneg (cw hwd) (by omega)
  have hqB:dv w / dv v<1048576:=Int.ediv_lt_of_lt_mul hVp hWV
  have hmod:=Int.emod_lt_of_pos (dv w) hVp
  simp only[Int.toNat_natCast]
  have hdl:dv (l++u.drop (k-1+n+1))=dv w % dv v:=by
   rw[fl,show k-1+n+1=k+n by omega,hup,r4];omega
  have hut:(u.take (k-1)).length=k-1:=by rw[List.length_take];omega
  have hdu:dv (u.take (k-1)++(l++u.drop (k-1+n+1)))=dv (u.take (k-1))+pw (k-1)*(dv w % dv v):=by rw[fl,hut,hdl]
  refine⟨by omega,_,rfl,by rw[show m-(i+1)=k-1 by omega],?_,(hd.take _).append (r3.append (hd.drop _)),by simpa using hql,hqd.set _ ⟨hq0,hqB⟩,fun j hj hjk =>?_,?_,?_⟩
  ·simp only[List.length_append,List.length_take,List.length_drop];omega
  ·rw[List.getElem_set_ne (by omega)]
   exact hz j (by simpa using hj) (by omega)
  ·rw[hdu,xI iq,hz _ iq (by omega),Int.sub_zero,Int.mul_add]
   have s2:=ia u (i:=k-1) (by omega)
   rw[← hW]at s2
   have hm:=Int.mul_ediv_add_emod (dv w) (dv v)
   have:pw (k-1)*dv w=dv v*(pw (k-1)*(dv w / dv v))+pw (k-1)*(dv w % dv v):=by
    rw[Int.mul_left_comm,← Int.mul_add,hm]
   omega
  ·rw[show m-(i+1)=k-1 by omega,List.drop_append,hut,Nat.sub_self,List.drop_zero,List.drop_eq_nil_of_le (by omega),List.nil_append,hdl]
   exact hmod
 ·right
  have:k=0:=by omega
  subst this
  refine⟨(u,q),by rw[if_neg (by simp)],hl,hd,hql,hqd,he,?_⟩
  simpa using hdr
theorem Mh {v:List Int} {t:Int} {n:Nat} (hl:v.length=n) (hn:0<n) (hf:n≤17592186044416) (ht:v[n-1]'(by omega)=t) (h1:1≤t) (h2:t<1048576) :
  ∃s,aW (qp v) 1=some s∧∃j:Nat,s=2 ^ j∧j≤19∧524288≤t*s∧t*s<1048576:=by
 refine eD (I:=fun i s=>s=2 ^ i∧t*s<1048576) 20 _ ⟨rfl,by omega⟩ (by unfold FU;omega) ?_
 rintro i s hi ⟨rfl,hb⟩
 have hp:(0:Int)<2 ^ i:=Int.pow_pos (by decide)
 have hpt:(2:Int) ^ i≤t*2 ^ i:=by
  have:1*(2:Int) ^ i≤t*2 ^ i:=Int.mul_le_mul_of_nonneg_right h1 (by omega)
  omega
 have hi20:i≤19:=by
  rcases Nat.lt_or_ge 19 i with h|h
  ·have hx:i=20:=by omega
   subst hx
   omega
  ·exact h
 simp only[qp]
 have e:IntKind.i64.wrap ((v.length:Int)-1)=((n-1:Nat):Int):=by rw[hl,iC (by omega)];omega
 rw[e,cq (by omega),Option.bind_some,ht,iC (x:=t*2 ^ i) (by omega)]
 by_cases h:t*2 ^ i<524288
 ·left
  rw[if_pos (by simpa using h)]
  refine⟨by omega,_,rfl,by rw[iC (by omega),Int.pow_succ],?_⟩
  rw[iC (by omega),← Int.mul_assoc]
  omega
 ·right
  rw[if_neg (by simpa using h)]
  exact⟨_,rfl,i,rfl,hi20,by omega,hb⟩
theorem div_eq {m n:Nat} (hn:n≠0) (hfm:(aF m).length≤17592186043904) (hfn:(aF n).length≤17592186043904):qo (aF m) (aF n)=some (aF (m / n),aF (m % n)):=by
 unfold qo
 rw[AW (by unfold Fit;omega) (by unfold Fit;omega),Option.bind_some]
 by_cases hlt:m<n
 ·have:kW (m:Int) n<0:=by unfold kW;rw[if_pos (by omega)];decide
  rw[if_pos (by simpa using this),vW (by unfold Fit;omega),Option.bind_some,Nat.div_eq_of_lt hlt,Nat.mod_eq_of_lt hlt,cv]
 have:¬kW (m:Int) n<0:=by unfold kW;rw[if_neg (by omega)];split<;>decide
 rw[if_neg (by simpa using this)]
 obtain⟨hp1,hp2⟩:=v8 hn
 have hnl:=eT n
 by_cases h1:(aF n).length=1
 ·rw[if_pos (by simp;omega)]
  have hnB:(n:Int)<1048576:=by rw[h1]at hnl;simpa [pw] using hnl
  have e:aF n=[(n:Int)]:=by
   rw[lZ hn,Nat.div_eq_of_lt (by omega),cv,Nat.mod_eq_of_lt (by omega)]
  have ei:P.idx (aF n) 0=some (n:Int):=by rw[e];rfl
  rw[ei,Option.bind_some,Kw (cz m) ⟨by omega,by omega⟩ (by unfold Fit;omega),Option.bind_some,bC]
  have hm1:(m:Int) % n=((m % n:Nat):Int):=(Int.natCast_emod m n).symm
  have hm2:((m:Int) / n).toNat=m / n:=by
   rw[← Int.natCast_ediv];rfl
  have hml:m % n<n:=Nat.mod_lt _ (by omega)
  simp only[hm1,hm2]
  rw[Ag (n:=m % n) (by simp[Fit]) (Dg.mk (by omega) Dg.nil) (by simp[dv]),Option.bind_some]
 ·rw[if_neg (by simp;omega)]
  generalize hN:(aF n).length=N at *
  have hN2:2≤N:=by omega
  have hdn:=cz n
  have gt:=hdn.get (show N-1<(aF n).length by omega)
  generalize ht:(aF n)[N-1]'(by omega)=t at gt
  have hsp:=ia (aF n) (i:=N-1) (by omega)
  rw[bC,iY (by omega),List.drop_eq_nil_of_le (by omega),ht]at hsp
  simp only[dv,Int.mul_zero,Int.add_zero]at hsp
  have lo0:=cw (hdn.take (N-1))
  have lo1:=nK (hdn.take (N-1))
  rw[List.length_take,Nat.min_eq_left (by omega)]at lo1
  have hpw:=lq (N-1)
  have ht1:1≤t:=by
   rcases (show t=0∨1≤t by omega) with h|h
   ·subst h;omega
   ·exact h
  obtain⟨s,hs1,j,hs2,hj,hs3,hs4⟩:=Mh hN (by omega) (by omega) ht ht1 gt.2
  have hj2:(2:Int) ^ j≤524288:=by
   have:∀j:Nat,j≤19→(2:Int) ^ j≤524288:=by decide
   exact this j hj
  have hj1:(0:Int)<2 ^ j:=Int.pow_pos (by decide)
  have hts:(t+1)*s≤1048576:=by
   have h20:(1048576:Int)=2 ^ (20-j)*2 ^ j:=by rw[← Int.pow_add,Nat.sub_add_cancel (by omega)];rfl
   rw[h20]at hs4 ⊢
   rw[hs2]at hs4 ⊢
   have:t<2 ^ (20-j):=Int.lt_of_mul_lt_mul_right hs4 (by omega)
   exact Int.mul_le_mul_of_nonneg_right (by omega) (by omega)
  rw[← hs2]at hj1 hj2
  obtain⟨S,rfl⟩:∃S:Nat,s=S:=⟨s.toNat,by omega⟩
  have hSd:Dg [(S:Int)]:=Dg.mk (by omega) Dg.nil
  have hdvS:dv [(S:Int)]=S:=by simp[dv]
  rw[hs1,Option.bind_some,mul_eq (cz m) hSd (by simp;omega),Option.bind_some,bC,hdvS]
  have em:((m:Int)*S).toNat=m*S:=by rw[← Int.natCast_mul];rfl
  have en:((n:Int)*S).toNat=n*S:=by rw[← Int.natCast_mul];rfl
  rw[em]
  have hmS:(aF (m*S)).length≤(aF m).length+1:=by
   apply fO
   rw[jK,Int.natCast_mul]
   have a1:=eT m
   have:(m:Int)*S≤m*1048576:=Int.mul_le_mul_of_nonneg_left (by omega) (by omega)
   omega
  have hU:∃u,((if ((((aF (m*S)++[0]).length:Int))==((aF m).length:Int))=true then (gC 8 (aF (m*S)++[0]) [0]).bind fun x98=>some x98 else some (aF (m*S)++[0]))=some u)∧Dg u∧dv u=(m*S:Nat)∧dv u<pw (u.length-1)∧(aF (m*S)).length+1≤u.length∧u.length≤(aF m).length+3:=by
   have d1:Dg (aF (m*S)++[0]):=(cz _).append (Dg.mk (by omega) Dg.nil)
   have v1:dv (aF (m*S)++[0])=(m*S:Nat):=by rw[fl,bC];simp[dv]
   have v2:=eT (m*S)
   split
   ·rw[CS (by simp;omega),Option.bind_some]
    refine⟨_,rfl,d1.append (Dg.mk (by omega) Dg.nil),by rw[fl,v1];simp[dv],?_,by simp,by simp;omega⟩
    rw[fl,v1]
    simp only[dv,List.length_append,List.length_cons,List.length_nil]
    have:=ud (i:=(aF (m*S)).length) (j:=(aF (m*S)).length+1) (by omega)
    rw[show (aF (m*S)).length+(0+1)+(0+1)-1=(aF (m*S)).length+1 by omega]
    omega
   ·refine⟨_,rfl,d1,v1,?_,by simp,by simp;omega⟩
    rw[v1]
    simpa using v2
  obtain⟨u,hu1,hu2,hu3,hu4,hu5,hu6⟩:=hU
  rw[CS (by simp;omega),Option.bind_some,mul_eq (cz n) hSd (by simp;omega),Option.bind_some,bC,hdvS,en,hu1,Option.bind_some]
  have hVlo:524288*pw (N-1)≤((n*S:Nat):Int):=by
   rw[Int.natCast_mul,hsp,Int.add_mul]
   have a1:0≤dv ((aF n).take (N-1))*S:=Int.mul_nonneg lo0 (by omega)
   have a2:pw (N-1)*524288≤pw (N-1)*(t*S):=Int.mul_le_mul_of_nonneg_left hs3 (by omega)
   rw[Int.mul_assoc]
   omega
  have hVhi:((n*S:Nat):Int)<pw N:=by
   have a0:pw N=1048576*pw (N-1):=by rw[← jK];congr 1;omega
   rw[a0,Int.natCast_mul,hsp]
   have a1:(dv ((aF n).take (N-1))+pw (N-1)*t+1)*S≤(pw (N-1)*(t+1))*S:=Int.mul_le_mul_of_nonneg_right (by rw[Int.mul_add];omega) (by omega)
   have a2:pw (N-1)*((t+1)*S)≤pw (N-1)*1048576:=Int.mul_le_mul_of_nonneg_left hts (by omega)
   rw[Int.mul_assoc]at a1
   rw[Int.add_mul _ 1,Int.one_mul]at a1
   omega
  have hVN:(aF (n*S)).length=N:=by
   have a1:=fO hVhi
   rcases Nat.lt_or_ge (aF (n*S)).length N with h|h
   ·have a2:=eT (n*S)
    have a3:=ud (i:=(aF (n*S)).length) (j:=N-1) (by omega)
    omega
   ·omega
  have hV1:524288≤(aF (n*S))[N-1]'(by omega):=by
   have a1:=ia (aF (n*S)) (i:=N-1) (by omega)
   rw[bC,iY (by omega),List.drop_eq_nil_of_le (by omega)]at a1
   simp only[dv,Int.mul_zero,Int.add_zero]at a1
   have a2:=nK ((cz (n*S)).take (N-1))
   rw[List.length_take,Nat.min_eq_left (by omega)]at a2
   have a3:pw (N-1)*524288<pw (N-1)*((aF (n*S))[N-1]'(by omega)+1):=by rw[Int.mul_add];omega
   have:=Int.lt_of_mul_lt_mul_left a3 (by omega)
   omega
  have hlen:N+1≤u.length:=by
   have:n*S≤m*S:=Nat.mul_le_mul_right _ (by omega)
   have:=dA this
   omega
  obtain⟨M,hM⟩:∃M,u.length=M+N:=⟨u.length-N,by omega⟩
  have e1:IntKind.i64.wrap ((u.length:Int)-((aF (n*S)).length:Int))=(M:Int):=by rw[hVN,hM,iC (by omega)];omega
  rw[e1,WC (by omega),Option.bind_some,List.length_replicate,iC (x:=(M:Int)-1) (by omega)]
  have hdr:dv (u.drop M)<dv (aF (n*S)):=by
   rw[bC]
   have a1:=ia u (i:=M) (by omega)
   have a2:=cw (hu2.take M)
   have a3:pw M*dv (u.drop M)<pw M*pw (N-1):=by
    rw[← Cd,show M+(N-1)=u.length-1 by omega]
    omega
   have:=Int.lt_of_mul_lt_mul_left a3 (by have:=lq M;omega)
   omega
  obtain⟨⟨U,Q⟩,r1,r2,r3,r4,r5,r6,r7⟩:=QZ (cz (n*S)) hVN hN2 hV1 hu2 hM (by omega) hdr
  simp only at r2 r3 r4 r5 r6 r7
  rw[r1,Option.bind_some]
  simp only
  rw[bC,hu3]at r6
  rw[bC]at r7
  have hU0:=cw r3
  have hQ0:=cw r5
  have hS:0<S:=by omega
  have hnS:0<n*S:=Nat.mul_pos (by omega) hS
  obtain⟨U',hU'⟩:∃k:Nat,dv U=k:=⟨(dv U).toNat,by omega⟩
  obtain⟨Q',hQ'⟩:∃k:Nat,dv Q=k:=⟨(dv Q).toNat,by omega⟩
  rw[hU',hQ']at r6
  rw[hU']at r7
  have hnat:U'+n*S*Q'=m*S:=by
   have:((U'+n*S*Q':Nat):Int)=((m*S:Nat):Int):=by rw[Int.natCast_add,Int.natCast_mul (n*S) Q'];exact r6
   omega
  have hUlt:U'<n*S:=by omega
  have hQe:Q'=m / n:=by
   have:m*S / (n*S)=Q':=by
    rw[← hnat,Nat.add_mul_div_left _ _ hnS,Nat.div_eq_of_lt hUlt,Nat.zero_add]
   rw[← this,Nat.mul_div_mul_right _ _ hS]
  have hUe:U'=(m % n)*S:=by
   have:m*S % (n*S)=U':=by rw[← hnat,Nat.add_mul_mod_self_left,Nat.mod_eq_of_lt hUlt]
   rw[← this,Nat.mul_mod_mul_right]
  rw[Ag (n:=U') (by unfold Fit;omega) r3 hU',Option.bind_some]
  have hUlen:(aF U').length≤N:=fO (by omega)
  rw[Kw (cz U') ⟨by omega,by omega⟩ (by unfold Fit;omega),Option.bind_some,Ag (n:=Q') (by unfold Fit;omega) r5 hQ',Option.bind_some,bC,hQe,hUe]
  have:((((m % n)*S:Nat):Int) / (S:Int)).toNat=m % n:=by
   rw[Int.natCast_mul,Int.mul_ediv_cancel _ (by omega)];rfl
  rw[this]
def eQ (x:Int):ay:=ay.mk x.sign (aF x.natAbs)
def Ln (x:Int):Nat:=(aF x.natAbs).length
def jj:Nat:=4398046511104
def jn:Nat:=17592186043904
theorem vQ {n:Nat} (h:n≤jj):n≤jn:=Nat.le_trans h (by decide)
theorem BZ:eQ 0=ay.mk 0 []:=by unfold eQ;rw[show (0:Int).natAbs=0 from rfl,cv];rfl
theorem GN {x y:Int} (h:eQ x=eQ y):x=y:=by
 unfold eQ at h
 simp only[ay.mk.injEq]at h
 have:=QY h.2
 have h1:=Int.sign_mul_natAbs x
 have h2:=Int.sign_mul_natAbs y
 rw[← h1,← h2,h.1,this]
theorem MP {x:Int} {k:Nat} (h:(x.natAbs:Int)<pw k):Ln x≤k:=fO h
theorem US (x:Int):(x.natAbs:Int)<pw (Ln x):=eT _
theorem Qh (x:Int):Ln (-x)=Ln x:=by unfold Ln;rw[Int.natAbs_neg]
theorem xB (x y:Int):Ln (x*y)≤Ln x+Ln y:=by
 apply MP
 have h1:=US x
 have h2:=US y
 rw[Int.natAbs_mul,Int.natCast_mul,Cd]
 have hx:=lq (Ln x)
 calc (x.natAbs:Int)*y.natAbs≤pw (Ln x)*y.natAbs:=Int.mul_le_mul_of_nonneg_right (by omega) (by omega)
  _<pw (Ln x)*pw (Ln y):=Int.mul_lt_mul_of_pos_left h2 hx
theorem Hq {x:Int} (h:x.natAbs<1048576):Ln x≤1:=MP (by rw[jK,ng];omega)
instance (l:List Int):Decidable (Dg l):=by unfold Dg;infer_instance
def okB (b:ay):Bool:=decide (Dg b.aa)&&(match b.aa.getLast? with|none=>b.ah==0|some d=>(b.ah==1||b.ah == -1)&&d != 0)
theorem qR {b:ay} : okB b=true↔∃x,b=eQ x:=by
 obtain⟨s,l⟩:=b
 unfold okB
 simp only[Bool.and_eq_true,decide_eq_true_eq]
 constructor
 ·rintro⟨hd,h⟩
  cases hl:l.getLast? with
  | none =>
   rw[hl]at h
   have:l=[]:=List.getLast?_eq_none_iff.1 hl
   subst this
   exact⟨0,by rw[BZ];simpa using h⟩
  | some d =>
   rw[hl]at h
   simp only[Bool.and_eq_true,Bool.or_eq_true,beq_iff_eq,bne_iff_ne]at h
   have hne:l≠[]:=by intro h0;subst h0;simp at hl
   have hlast:∀h:l≠[],l.getLast h≠0:=by
    intro h'
    rw[List.getLast?_eq_some_getLast h']at hl
    cases hl
    exact h.2
   have e:=zY hd hlast
   have h0:(dv l).toNat≠0:=by
    intro h0
    rw[h0,cv]at e
    exact hne e.symm
   have hn:=cw hd
   refine⟨s*dv l,?_⟩
   unfold eQ
   rcases h.1 with rfl|rfl
   ·rw[Int.one_mul,Int.sign_eq_one_of_pos (by omega)]
    have:(dv l).natAbs=(dv l).toNat:=by omega
    rw[this,e]
   ·rw[Int.neg_mul,Int.one_mul,Int.sign_neg,Int.sign_eq_one_of_pos (by omega)]
    have:(-dv l).natAbs=(dv l).toNat:=by omega
    rw[this,e]
 ·rintro⟨x,hx⟩
  unfold eQ at hx
  simp only[ay.mk.injEq]at hx
  obtain⟨rfl,rfl⟩:=hx
  refine⟨cz _,?_⟩
  by_cases h0:x=0
  ·subst h0;simp[cv]
  ·have hne:aF x.natAbs≠[]:=fun h=>h0 (by have:=py.1 h;omega)
   rw[List.getLast?_eq_some_getLast hne]
   have h1:=OZ _ hne
   simp only[Bool.and_eq_true,Bool.or_eq_true,beq_iff_eq,bne_iff_ne]
   refine⟨?_,h1⟩
   rcases Int.lt_trichotomy x 0 with h|h|h
   ·right;exact Int.sign_eq_neg_one_of_neg h
   ·exact absurd h h0
   ·left;exact Int.sign_eq_one_of_pos h
theorem GP (x:Int):okB (eQ x)=true:=qR.2 ⟨x,rfl⟩
theorem Co {b:ay} (hf:Fit b.aa):eh b=some (okB b):=by
 obtain⟨s,l⟩:=b
 simp only[Fit]at hf
 have key:∃r,aW (mJ ⟨s,l⟩) 0=some r∧(match r with | .inl _=>Dg l | .inr x=>x=false∧¬Dg l):=by
  refine eD (I:=fun i s=>s=(i:Int)∧Dg (l.take i)) l.length _ ⟨rfl,by simpa using Dg.nil⟩ (l5 hf) ?_
  rintro i s hi ⟨rfl,hd⟩
  simp only[mJ]
  by_cases hlt:i<l.length
  ·rw[if_pos (by simpa using hlt),cq hlt,Option.bind_some]
   by_cases h1:l[i]<0
   ·right
    exact⟨.inr false,by rw[if_pos (by simpa using h1)],rfl,fun hh=>by have:=hh.get hlt;omega⟩
   ·by_cases h2:l[i]>1048575
    ·right
     exact⟨.inr false,by rw[if_neg (by simpa using h1),if_pos (by simpa using h2)],rfl,fun hh=>by have:=hh.get hlt;omega⟩
    ·left
     refine⟨hlt,_,by rw[if_neg (by simpa using h1),if_neg (by simpa using h2)],by rw[iC (by omega)];omega,?_⟩
     have e:l.take (i+1)=l.take i++[l[i]]:=by rw[List.take_add_one];simp[hlt]
     rw[e]
     exact hd.append (Dg.mk (by omega) Dg.nil)
  ·right
   have:i=l.length:=by omega
   subst this
   rw[List.take_length]at hd
   exact⟨.inl (),by rw[if_neg (by simp)],hd⟩
 obtain⟨r,h1,h2⟩:=key
 unfold eh okB
 rw[h1,Option.bind_some]
 cases r with
 | inr x =>
  obtain⟨rfl,h⟩:=h2
  simp[h]
 | inl u =>
  simp only at h2 ⊢
  simp only[h2,decide_true,Bool.true_and]
  by_cases h0:l=[]
  ·subst h0;simp
  ·have hp:0<l.length:=List.length_pos_iff.2 h0
   have e:IntKind.i64.wrap ((l.length:Int)-1)=((l.length-1:Nat):Int):=by rw[iC (by omega)];omega
   rw[if_neg (by simpa using h0),e,cq (by omega),List.getLast?_eq_some_getLast h0,List.getLast_eq_getElem]
   simp only[Option.bind_some]
   by_cases hs:s=1
   ·subst hs;simp
   ·rw[if_neg (by simpa using hs)]
    by_cases hs':s = -1
    ·subst hs';simp
    ·rw[if_neg (by simpa using hs')]
     simp[hs,hs']
theorem n5 {x:Int} (h:Ln x≤17592186044416):eh (eQ x)=some true:=by
 rw[Co (show Fit (eQ x).aa from h),GP]
theorem yj {s:Int} {l:List Int} (x:Int) (hf:Fit l) (hd:Dg l) (hv:dv l=x.natAbs) (hs:x≠0→s=x.sign):fw s l=some (eQ x):=by
 unfold fw
 rw[Ag hf hd hv,Option.bind_some]
 by_cases h0:x=0
 ·subst h0
  rw[show (0:Int).natAbs=0 from rfl,cv,BZ];rfl
 ·have:aF x.natAbs≠[]:=fun h=>h0 (by have:=py.1 h;omega)
  rw[if_neg (by simpa using this),hs h0];rfl
theorem vU (b:ay):fL true b=some (b,0):=rfl
theorem oU (x:Int):x.sign = -1∨x.sign=0∨x.sign=1:=by
 rcases Int.lt_trichotomy x 0 with h|h|h
 ·left;exact Int.sign_eq_neg_one_of_neg h
 ·subst h;right;left;rfl
 ·right;right;exact Int.sign_eq_one_of_pos h
theorem fV (x:Int):x.sign=1∧x=x.natAbs∧0<x∨x.sign = -1∧x = -x.natAbs∧x<0∨x.sign=0∧x=0:=by
 rcases Int.lt_trichotomy x 0 with h|h|h
 ·right;left;exact⟨Int.sign_eq_neg_one_of_neg h,by omega,h⟩
 ·subst h;right;right;exact⟨rfl,rfl⟩
 ·left;exact⟨Int.sign_eq_one_of_pos h,by omega,h⟩
theorem FH {x:Int} {s:Int} {n:Nat} (hn:n=x.natAbs) (hs:x≠0→s=x.sign) (hL:n≠0→(aF n).length≤17592186044416):fw s (aF n)=some (eQ x):=by
 subst hn
 refine yj x ?_ (cz _) (bC _) hs
 unfold Fit
 by_cases h:x.natAbs=0
 ·rw[h,cv];simp
 ·exact hL h
theorem Vc {x y:Int} (hx:Ln x≤jj) (hy:Ln y≤jj):qn (eQ x) (eQ y)=some (eQ (x*y),0):=by
 have hL:jj=4398046511104:=rfl
 have hLa:=xB x y
 unfold qn
 rw[n5 (by omega),Option.bind_some]
 simp only[Bool.not_true,Bool.false_eq_true,if_false]
 rw[n5 (by omega),Option.bind_some,Option.bind_some]
 simp only[Bool.not_true,Bool.false_eq_true,if_false]
 have hxd:(eQ x).aa=aF x.natAbs:=rfl
 have hyd:(eQ y).aa=aF y.natAbs:=rfl
 have hxs:(eQ x).ah=x.sign:=rfl
 have hys:(eQ y).ah=y.sign:=rfl
 rw[hxd,hyd,hxs,hys]
 have fx:(aF x.natAbs).length≤4398046511104:=by show Ln x≤_;omega
 have fy:(aF y.natAbs).length≤4398046511104:=by show Ln y≤_;omega
 have hw:IntKind.i64.wrap (x.sign*y.sign)=(x*y).sign:=by
  rw[Int.sign_mul]
  apply iC
  rcases oU x with h|h|h<;>rcases oU y with g|g|g<;>rw[h,g]<;>decide
 rw[hw,mul_eq (cz _) (cz _) (by omega),Option.bind_some,bC,bC]
 have hn:((x.natAbs:Int)*y.natAbs).toNat=(x*y).natAbs:=by rw[Int.natAbs_mul,← Int.natCast_mul];rfl
 rw[hn,FH (x:=x*y) rfl (fun _=>rfl) (fun _=>by show Ln (x*y)≤_;omega),Option.bind_some,vU,Option.bind_some]
theorem KG {x y:Int} (hx:Ln x≤jj) (hy:Ln y≤jj):gh (eQ x) (eQ y)=some (eQ (x*y)):=by
 unfold gh
 rw[Vc hx hy];rfl
def lg (n:Nat):Nat:=if n=0 then 0 else n.log2+1
theorem UO {r x:Nat} (h:2*r<x):lg r<lg x:=by
 unfold lg
 rw[if_neg (show x≠0 by omega)]
 by_cases h0:r=0
 ·rw[if_pos h0];omega
 ·rw[if_neg h0]
  have h1:=Nat.log2_self_le h0
  have h2:=@Nat.lt_log2_self x
  have:2 ^ (r.log2+1)<2 ^ (x.log2+1):=by rw[Nat.pow_succ];omega
  have:=(Nat.pow_lt_pow_iff_right (by decide:1<2)).1 this
  omega
theorem NR {n k:Nat} (h:(n:Int)<pw k):lg n≤20*k:=by
 unfold lg
 by_cases h0:n=0
 ·rw[if_pos h0];omega
 ·rw[if_neg h0]
  have:n<2 ^ (20*k):=by
   have:pw k=((2 ^ (20*k):Nat):Int):=by
    unfold pw
    rw[Nat.pow_mul,Int.natCast_pow];rfl
   omega
  have:=(Nat.log2_lt h0).2 this
  omega
theorem Rm {a b:Nat} (ha:(aF a).length≤jn) (hb:(aF b).length≤jn):aW nH (aF a,aF b)=some (aF (Nat.gcd a b)):=by
 have hL:jn=17592186043904:=rfl
 have key:∃r,aW nH (aF a,aF b)=some r∧r=aF (Nat.gcd a b):=by
  have la:=NR (eT a)
  have lb:=NR (eT b)
  let val:List Int→Nat:=fun l=>(dv l).toNat
  have hval:∀n,val (aF n)=n:=fun n=>by show (dv (aF n)).toNat=n;rw[bC];rfl
  refine fC (I:=fun (s:List Int×List Int)=>∃x y,s=(aF x,aF y)∧Nat.gcd x y=Nat.gcd a b∧(aF x).length≤jn∧(aF y).length≤jn)
   (μ:=fun (s:List Int×List Int)=>lg (val s.1)+lg (val s.2)+(if val s.1<val s.2 then 1 else 0)) _ ⟨a,b,rfl,rfl,ha,hb⟩ (by simp only[hval];unfold FU;split<;>omega) ?_
  rintro _ ⟨x,y,rfl,hg,hx,hy⟩
  simp only[nH]
  by_cases h0:y=0
  ·right
   subst h0
   refine⟨_,by rw[cv,if_neg (by simp)],?_⟩
   rw[← hg,Nat.gcd_zero_right]
  ·left
   have hne:0<(aF y).length:=List.length_pos_iff.2 (fun h=>h0 (py.1 h))
   rw[if_pos (by simpa using hne),div_eq h0 (by omega) (by omega),Option.bind_some]
   have hlt:=Nat.mod_lt x (Nat.pos_of_ne_zero h0)
   refine⟨_,rfl,⟨y,x % y,rfl,?_,hy,?_⟩,?_⟩
   ·rw[← hg,Nat.gcd_comm y,← Nat.gcd_rec,Nat.gcd_comm]
   ·have:=dA (Nat.mod_le x y);omega
   ·simp only[hval]
    rw[if_neg (by omega)]
    by_cases hxy:x<y
    ·rw[if_pos hxy,Nat.mod_eq_of_lt hxy];omega
    ·rw[if_neg hxy]
     have:lg (x % y)<lg x:=by
      apply UO
      have h1:=Nat.div_add_mod x y
      have h2:1≤x / y:=(Nat.one_le_div_iff (by omega)).2 (by omega)
      have h3:y*1≤y*(x / y):=Nat.mul_le_mul_left _ h2
      omega
     omega
 obtain⟨r,h1,rfl⟩:=key
 exact h1
theorem Va {x y:Int} (hx:Ln x≤jn) (hy:Ln y≤jn):qk (eQ x) (eQ y)=some (eQ (Int.gcd x y),0):=by
 have hL:jn=17592186043904:=rfl
 unfold qk
 rw[n5 (by omega),Option.bind_some]
 simp only[Bool.not_true,Bool.false_eq_true,if_false]
 rw[n5 (by omega),Option.bind_some,Option.bind_some]
 simp only[Bool.not_true,Bool.false_eq_true,if_false]
 have hxd:(eQ x).aa=aF x.natAbs:=rfl
 have hyd:(eQ y).aa=aF y.natAbs:=rfl
 rw[hxd,hyd]
 have fx:(aF x.natAbs).length≤17592186043904:=by show Ln x≤_;omega
 have fy:(aF y.natAbs).length≤17592186043904:=by show Ln y≤_;omega
 have fg:(aF (Nat.gcd x.natAbs y.natAbs)).length≤17592186043904:=by
  by_cases h:y.natAbs=0
  ·rw[h,Nat.gcd_zero_right];exact fx
  ·have:=dA (Nat.gcd_le_right x.natAbs (Nat.pos_of_ne_zero h));omega
 rw[vW (by unfold Fit;omega),Option.bind_some,Rm (by omega) (by omega),Option.bind_some,vW (by unfold Fit;omega),Option.bind_some]
 have hgn:Nat.gcd x.natAbs y.natAbs=((Int.gcd x y:Nat):Int).natAbs:=rfl
 rw[FH (x:=(Int.gcd x y:Int)) hgn ?_ (fun _=>by omega),Option.bind_some,vU,Option.bind_some]
 intro h
 rw[Int.sign_eq_one_of_pos (by omega)]
theorem KX {x y:Int} (hx:Ln x≤jj) (hy:Ln y≤jj):iO (eQ x) (eQ y)=some (kW x y):=by
 have hL:jj=4398046511104:=rfl
 unfold iO
 rw[n5 (by omega),Option.bind_some]
 simp only[Bool.not_true,Bool.false_eq_true,if_false]
 rw[n5 (by omega),Option.bind_some,Option.bind_some]
 simp only[Bool.not_true,Bool.false_eq_true,if_false]
 have hxd:(eQ x).aa=aF x.natAbs:=rfl
 have hyd:(eQ y).aa=aF y.natAbs:=rfl
 have hxs:(eQ x).ah=x.sign:=rfl
 have hys:(eQ y).ah=y.sign:=rfl
 rw[hxd,hyd,hxs,hys]
 have fx:(aF x.natAbs).length≤4398046511104:=by show Ln x≤_;omega
 have fy:(aF y.natAbs).length≤4398046511104:=by show Ln y≤_;omega
 by_cases h:x.sign=y.sign
 ·rw[if_neg (by simpa using h),AW (by unfold Fit;omega) (by unfold Fit;omega),Option.bind_some]
  have hc:∀s:Int,s = -1∨s=0∨s=1→∀c:Int,c = -1∨c=0∨c=1→IntKind.i64.wrap (s*c)=s*c:=by
   rintro s (rfl|rfl|rfl) c (rfl|rfl|rfl)<;>exact iC (by decide)
  have hcm:∀a b:Int,kW a b = -1∨kW a b=0∨kW a b=1:=by
   intro a b;unfold kW;split
   ·simp
   ·split<;>simp
  rw[hc _ (oU x) _ (hcm _ _)]
  congr 1
  unfold kW
  rcases fV x with⟨a,b,c⟩|⟨a,b,c⟩|⟨a,b⟩<;>rcases fV y with⟨a',b',c'⟩|⟨a',b',c'⟩|⟨a',b'⟩<;>(try (rw[a,a']at h;exact absurd h (by decide)))<;>rw[a]<;>split<;>(try split)<;>(try split)<;>(try split)<;>omega
 ·rw[if_pos (by simpa using h),K6,Option.bind_some]
  congr 1
  unfold kW
  rcases fV x with⟨a,b,c⟩|⟨a,b,c⟩|⟨a,b⟩<;>rcases fV y with⟨a',b',c'⟩|⟨a',b',c'⟩|⟨a',b'⟩<;>(try (exact absurd (a.trans a'.symm) h))<;>rw[a,a']<;>split<;>(try split)<;>(try split)<;>(try split)<;>omega
theorem OP (x:Int):IntKind.u64.wrap x=x % 18446744073709551616:=by
 unfold IntKind.wrap
 simp only[IntKind.bits,IntKind.signed,Bool.false_and,Bool.false_eq_true,if_false]
 rfl
theorem wu {x:Int} (h:0≤x∧x<18446744073709551616):IntKind.u64.wrap x=x:=by rw[OP];omega
theorem OT {x:Int} (h:0≤x∧x<18446744073709551616):mv .and .u64 x 1048575=x % 1048576:=by
 unfold mv
 simp only
 have e1:(BitVec.ofInt IntKind.u64.bits x &&& BitVec.ofInt IntKind.u64.bits 1048575).toNat=((x % 18446744073709551616).toNat) % 1048576:=by
  rw[BitVec.toNat_and,BitVec.toNat_ofInt,BitVec.toNat_ofInt]
  have e:((1048575:Int) % ((2 ^ IntKind.u64.bits:Nat):Int)).toNat=2 ^ 20-1:=by decide
  rw[e,Nat.and_two_pow_sub_one_eq_mod]
  rfl
 rw[e1,wu (by omega)]
 omega
theorem VJ (x:Int):uC .u64 x 20=some (x / 1048576):=by
 unfold uC
 rw[if_neg (by decide)]
 have e:(2:Int) ^ (min (Int.toNat 20) IntKind.u64.bits)=1048576:=by decide
 rw[e,Int.fdiv_eq_ediv_of_nonneg _ (by decide)]
theorem X5:pw 4=1208925819614629174706176:=by decide
theorem TW {n:Nat} (hn:n<18446744073709551616):∃l,aW tH ((n:Int),[])=some l∧Dg l∧dv l=n∧l.length≤5:=by
 refine fC (I:=fun (s:Int×List Int)=>0≤s.1∧Dg s.2∧dv s.2+pw s.2.length*s.1=n∧s.2.length≤5∧(s.1=0∨s.2.length<5)) (μ:=fun (s:Int×List Int)=>s.1.toNat) _ ⟨by simp,Dg.nil,by simp[dv,ng],by simp,by simp⟩ (by simp only[Int.toNat_natCast];unfold FU;omega) ?_
 rintro⟨u,l⟩ ⟨h1,hd,h2,h3,h5⟩
 simp only at h1 hd h2 h3 h5
 have hp:=lq l.length
 have hdl:=cw hd
 have hu:u≤n:=by
  have:1*u≤pw l.length*u:=Int.mul_le_mul_of_nonneg_right (by omega) h1
  omega
 simp only[tH]
 by_cases h0:u>0
 ·left
  have hl5:l.length<5:=by omega
  have hl4:l.length<4:=by
   rcases Nat.lt_or_ge l.length 4 with h|h
   ·exact h
   ·have h4:l.length=4:=by omega
    rw[h4,X5]at h2
    omega
  have hw:IntKind.i64.wrap (u % 1048576)=u % 1048576:=iC (by omega)
  rw[if_pos (by simpa using h0),OT ⟨h1,by omega⟩,hw,CS (by simp;omega),Option.bind_some,VJ,Option.bind_some]
  refine⟨_,rfl,⟨by simp only;omega,hd.append (Dg.mk (by omega) Dg.nil),?_,by simp;omega,by right;simp;omega⟩,by simp only;omega⟩
  simp only[fl,dv,List.length_append,List.length_cons,List.length_nil,Int.mul_zero,Int.add_zero,Nat.zero_add]
  have:=yg l.length u
  omega
 ·right
  have:u=0:=by omega
  subst this
  refine⟨l,by rw[if_neg (by simp)],hd,?_,h3⟩
  rw[Int.mul_zero]at h2
  omega
theorem Up {x:Int} (h : -9223372036854775808≤x∧x<9223372036854775808):sr x=some (eQ x):=by
 have hT:(if decide (x<0)=true then some ((-1:Int),IntKind.u64.wrap (0-(IntKind.u64.wrap x))) else some (1,IntKind.u64.wrap x))=some (if x<0 then -1 else 1,((x.natAbs:Nat):Int)):=by
  by_cases hx:x<0
  ·rw[if_pos (by simpa using hx),if_pos hx,OP,OP]
   congr 2
   omega
  ·rw[if_neg (by simpa using hx),if_neg hx,OP]
   congr 2
   omega
 obtain⟨l,h1,h2,h3,h4⟩:=TW (n:=x.natAbs) (by omega)
 unfold sr
 rw[hT,Option.bind_some]
 simp only
 rw[h1,Option.bind_some,pH]
 refine yj x (by unfold Fit;omega) h2 h3 (fun h0 =>?_)
 split
 ·rw[Int.sign_eq_neg_one_of_neg (by omega)]
 ·rw[Int.sign_eq_one_of_pos (by omega)]
theorem X7 {d:Int} {i:Nat} (hi:i≤3) (hd:0≤d∧d<1048576) (h8:i=3→d≤8):DH .u64 (IntKind.u64.wrap d) (IntKind.i64.wrap (20*(i:Int)))=some (pw i*d):=by
 rw[wu (by omega),iC (by omega)]
 unfold DH
 rw[if_neg (by omega)]
 have e:(2:Int) ^ (min (20*(i:Int)).toNat IntKind.u64.bits)=pw i:=by
  have:∀i:Nat,i≤3→(2:Int) ^ (min (20*(i:Int)).toNat IntKind.u64.bits)=pw i:=by decide
  exact this i hi
 rw[e,wu,Int.mul_comm]
 rcases (show i=0∨i=1∨i=2∨i=3 by omega) with rfl|rfl|rfl|rfl
 ·rw[show pw 0=1 by decide];omega
 ·rw[show pw 1=1048576 by decide];omega
 ·rw[show pw 2=1099511627776 by decide];omega
 ·rw[show pw 3=1152921504606846976 by decide];have:=h8 rfl;omega
theorem WO {u d:Int} {i:Nat} (hi:i≤3) (hu:0≤u∧u<pw i) (hd:0≤d∧pw i*d<9223372036854775809):mv .or .u64 u (pw i*d)=u+pw i*d:=by
 have hp:=lq i
 have hpd:0≤pw i*d:=Int.mul_nonneg (by omega) hd.1
 have hpw:pw i=((2 ^ (20*i):Nat):Int):=by unfold pw;rw[Nat.pow_mul,Int.natCast_pow];rfl
 have hp3:pw i≤1152921504606846976:=by
  have:=ud hi
  rwa [show pw 3=1152921504606846976 by decide]at this
 unfold mv
 simp only
 have e1:(BitVec.ofInt IntKind.u64.bits u ||| BitVec.ofInt IntKind.u64.bits (pw i*d)).toNat=(u+pw i*d).toNat:=by
  rw[BitVec.toNat_or,BitVec.toNat_ofInt,BitVec.toNat_ofInt]
  have e:((2 ^ IntKind.u64.bits:Nat):Int)=18446744073709551616:=by decide
  rw[e]
  have e2:(u % 18446744073709551616).toNat=u.toNat:=by omega
  have e3:((pw i*d) % 18446744073709551616).toNat=d.toNat <<< (20*i):=by
   rw[Nat.shiftLeft_eq,Int.emod_eq_of_lt hpd (by omega),hpw]
   have:d=(d.toNat:Int):=by omega
   rw[this,← Int.natCast_mul,Int.toNat_natCast,Int.toNat_natCast,Nat.mul_comm]
  rw[e2,e3,Nat.or_comm,← Nat.shiftLeft_add_eq_or_of_lt (by omega),Nat.shiftLeft_eq]
  have:pw i*d=((d.toNat*2 ^ (20*i):Nat):Int):=by
   rw[hpw,Int.natCast_mul,Int.mul_comm]
   congr 1
   omega
  omega
 rw[e1,wu (by omega)]
 omega
theorem VG {g:Nat} (h:(aF g).length≤jn):nU (eQ g)=some (decide (g=1)):=by
 have hL:jn=17592186043904:=rfl
 have hgd:(eQ (g:Int)).aa=aF g:=rfl
 have hLn:Ln (g:Int)=(aF g).length:=rfl
 unfold nU
 have hsmall:g=1→(aF g).length≤4:=by
  rintro rfl
  exact Nat.le_trans (fO (k:=1) (by decide)) (by decide)
 suffices hI:∃r,ql (eQ g)=some r∧((if r.2=true then some (r.1==1) else some false)=some (decide (g=1))) by
  obtain⟨r,h1,h2⟩:=hI
  rw[h1,Option.bind_some,h2]
 unfold ql
 rw[n5 (by rw[hLn];omega),Option.bind_some]
 simp only[Bool.not_true,Bool.false_eq_true,if_false,Option.bind_some,hgd]
 by_cases h4:(aF g).length>4
 ·rw[if_pos (by simp;omega)]
  refine⟨_,rfl,?_⟩
  have:g≠1:=fun hh=>by have:=hsmall hh;omega
  simp[this]
 rw[if_neg (by simp;omega)]
 have key:∃r,aW (qm (eQ g)) (0,0)=some r∧(match r with | .inl u=>u=(g:Int) | .inr x=>x=(0,false)∧g≠1):=by
  refine eD (I:=fun i s=>s.2=(i:Int)∧s.1=dv ((aF g).take i)) (aF g).length _ ⟨rfl,rfl⟩ (l5 (by omega)) ?_
  rintro i ⟨u,s⟩ hi ⟨h1,h2⟩
  simp only at h1 h2
  subst h1 h2
  simp only[qm,hgd]
  have hdg:=(cz g).take i
  have hu0:=cw hdg
  have hu1:=nK hdg
  rw[List.length_take,Nat.min_eq_left hi]at hu1
  by_cases hlt:i<(aF g).length
  ·have gd:=(cz g).get hlt
   rw[if_pos (by simpa using hlt),cq hlt,Option.bind_some]
   have hT:(if ((i:Int)==3)=true then some (decide ((aF g)[i]>8)) else some false)=some (decide (i=3∧(aF g)[i]>8)):=by
    by_cases h3:i=3
    ·subst h3;simp
    ·rw[if_neg (by simp;omega)];simp[h3]
   rw[hT,Option.bind_some]
   by_cases h8:i=3∧(aF g)[i]>8
   ·right
    rw[if_pos (by simpa using h8)]
    refine⟨.inr (0,false),rfl,rfl,?_⟩
    rintro rfl
    have:=fO (n:=1) (k:=1) (by decide)
    omega
   ·left
    rw[if_neg (by simpa using h8),X7 (by omega) gd (by omega),Option.bind_some]
    have hb:pw i*(aF g)[i]<9223372036854775809:=by
     rcases (show i=0∨i=1∨i=2∨i=3 by omega) with h|h|h|h
     ·have:pw i=1:=by rw[h];decide
      rw[this];omega
     ·have:pw i=1048576:=by rw[h];decide
      rw[this];omega
     ·have:pw i=1099511627776:=by rw[h];decide
      rw[this];omega
     ·have:pw i=1152921504606846976:=by rw[h];decide
      rw[this];omega
    rw[WO (by omega) ⟨hu0,hu1⟩ ⟨gd.1,hb⟩]
    exact⟨hlt,_,rfl,by rw[iC (by omega)];omega,by rw[eY hlt]⟩
  ·right
   have:i=(aF g).length:=by omega
   subst this
   exact⟨.inl (dv ((aF g).take (aF g).length)),by rw[if_neg (by simp)],by rw[List.take_length,bC]⟩
 obtain⟨r,h1,h2⟩:=key
 rw[h1,Option.bind_some]
 cases r with
 | inr x=>obtain⟨rfl,h⟩:=h2;exact⟨_,rfl,by simp[h]⟩
 | inl u =>
  simp only at h2
  subst h2
  have hs:(eQ (g:Int)).ah=(g:Int).sign:=rfl
  have hs0:¬(g:Int).sign<0:=by have:=fV (g:Int);omega
  simp only[hs]
  rw[if_neg (by simp),Option.bind_some,if_neg (by simp),if_pos (by simp)]
  by_cases hg:(g:Int)<9223372036854775808
  ·rw[if_pos (by simpa using hg)]
   refine⟨_,rfl,?_⟩
   simp only[if_true]
   rw[wrap64 (by omega) hg]
   congr 1
   by_cases h:g=1
   ·subst h;rfl
   ·have:¬((g:Int)=1):=by omega
    simp[h,this]
  ·rw[if_neg (by simpa using hg)]
   have:g≠1:=by omega
   exact⟨_,rfl,by simp[this]⟩
def wO (q:Rat):aT:=aT.mk (eQ q.num) (eQ q.den)
def LF (q:Rat):Nat:=max (Ln q.num) (Ln q.den)
theorem Ac {p q:Rat} (h:wO p=wO q):p=q:=by
 unfold wO at h
 simp only[aT.mk.injEq]at h
 have h1:=GN h.1
 have h2:=GN h.2
 exact Rat.ext h1 (by omega)
def okF (f:aT):Bool:=okB f.cu&&okB f.ct&&(f.ct.ah==1)&&decide (Nat.gcd (dv f.cu.aa).toNat (dv f.ct.aa).toNat=1)
theorem GQ {f:aT} : okF f=true↔∃q,f=wO q:=by
 obtain⟨p,q⟩:=f
 unfold okF
 simp only[Bool.and_eq_true,beq_iff_eq,decide_eq_true_eq]
 constructor
 ·rintro⟨⟨⟨h1,h2⟩,h3⟩,h4⟩
  obtain⟨x,rfl⟩:=qR.1 h1
  obtain⟨y,rfl⟩:=qR.1 h2
  have hy:0<y:=by
   have:y.sign=1:=h3
   rcases fV y with⟨a,b,c⟩|⟨a,b,c⟩|⟨a,b⟩<;>omega
  have h5:(dv (eQ x).aa).toNat=x.natAbs:=by show (dv (aF _)).toNat=_;rw[bC];rfl
  have h6:(dv (eQ y).aa).toNat=y.natAbs:=by show (dv (aF _)).toNat=_;rw[bC];rfl
  rw[h5,h6]at h4
  refine⟨⟨x,y.natAbs,by omega,h4⟩,?_⟩
  unfold wO
  simp only
  congr 2
  omega
 ·rintro⟨q,hq⟩
  unfold wO at hq
  simp only[aT.mk.injEq]at hq
  obtain⟨rfl,rfl⟩:=hq
  have hd:=q.den_pos
  refine⟨⟨⟨GP _,GP _⟩,Int.sign_eq_one_of_pos (by omega)⟩,?_⟩
  have h5:(dv (eQ q.num).aa).toNat=q.num.natAbs:=by show (dv (aF _)).toNat=_;rw[bC];rfl
  have h6:(dv (eQ (q.den:Int)).aa).toNat=q.den:=by show (dv (aF _)).toNat=_;rw[bC];rfl
  rw[h5,h6]
  exact q.reduced
theorem xX (q:Rat):okF (wO q)=true:=GQ.2 ⟨q,rfl⟩
def OQ (f:aT):Prop:=f.cu.aa.length≤jn∧f.ct.aa.length≤jn
theorem zW {q:Rat} (h:LF q≤jj):OQ (wO q):=by
 unfold LF at h
 exact⟨vQ (show Ln q.num≤_ by omega),vQ (show Ln q.den≤_ by omega)⟩
theorem sq {f:aT} (hf:OQ f):eS f=some (okF f):=by
 have hL:jn=17592186043904:=rfl
 obtain⟨p,q⟩:=f
 simp only[OQ]at hf
 unfold eS okF
 rw[Co (show Fit p.aa by unfold Fit;omega),Option.bind_some]
 by_cases h1:okB p=true
 ·simp only[h1,Bool.not_true,Bool.false_eq_true,if_false,Bool.true_and]
  rw[Co (show Fit q.aa by unfold Fit;omega),Option.bind_some]
  by_cases h2:okB q=true
  ·simp only[h2,Bool.not_true,Bool.false_eq_true,if_false,Bool.true_and,Option.bind_some]
   by_cases h3:q.ah=1
   ·rw[if_neg (by simp[h3])]
    obtain⟨x,rfl⟩:=qR.1 h1
    obtain⟨y,rfl⟩:=qR.1 h2
    rw[Va hf.1 hf.2,Option.bind_some]
    simp only[beq_self_eq_true,if_true]
    have h5:(dv (eQ x).aa).toNat=x.natAbs:=by show (dv (aF _)).toNat=_;rw[bC];rfl
    have h6:(dv (eQ y).aa).toNat=y.natAbs:=by show (dv (aF _)).toNat=_;rw[bC];rfl
    rw[VG,Option.bind_some,h5,h6]
    ·rw[h3];rfl
    ·have hy:0<y.natAbs:=by
      have:y.sign=1:=h3
      rcases fV y with⟨a,b,c⟩|⟨a,b,c⟩|⟨a,b⟩<;>omega
     have:=dA (Nat.gcd_le_right x.natAbs hy)
     have h7:(aF y.natAbs).length≤jn:=hf.2
     show (aF (Nat.gcd x.natAbs y.natAbs)).length≤_
     omega
   ·rw[if_pos (by simpa using h3)]
    simp[h3]
  ·simp only[h2,Bool.not_false,if_true,Option.bind_some,Bool.false_and]
 ·simp only[h1,Bool.not_false,if_true,Option.bind_some,Bool.false_and]
theorem Au {q:Rat} (h:LF q≤jj):eS (wO q)=some true:=by rw[sq (zW h),xX]
theorem FV (q:Rat):Ln q.num≤LF q:=by unfold LF;omega
theorem FT (q:Rat):Ln q.den≤LF q:=by unfold LF;omega
theorem V9 {n:Int} (h : -9223372036854775808≤n∧n<9223372036854775808):nT n=some (wO n):=by
 unfold nT
 rw[Up h,Option.bind_some,Up (by decide),Option.bind_some]
 unfold wO
 rw[Rat.num_intCast,Rat.den_intCast]
 rfl
def OW (a b:Rat):Int:=if a<b then -1 else if b<a then 1 else 0
theorem Nu (a b:Rat):kW (a.num*b.den) (b.num*a.den)=OW a b:=by
 unfold kW OW
 simp only[Rat.lt_iff]
theorem xm {a b:Rat} (h:LF a+LF b≤jj):e9 (wO a) (wO b)=some (OW a b):=by
 have n1:=FV a
 have n2:=FV b
 have d1:=FT a
 have d2:=FT b
 have m1:=xB a.num b.den
 have m2:=xB b.num a.den
 unfold e9
 rw[Au (by omega),Option.bind_some]
 simp only[Bool.not_true,Bool.false_eq_true,if_false]
 rw[Au (by omega),Option.bind_some,Option.bind_some]
 simp only[Bool.not_true,Bool.false_eq_true,if_false]
 show (gh (eQ a.num) (eQ b.den)).bind _=_
 rw[KG (by omega) (by omega),Option.bind_some]
 show (gh (eQ b.num) (eQ a.den)).bind _=_
 rw[KG (by omega) (by omega),Option.bind_some,KX (by omega) (by omega),Option.bind_some,Nu]
theorem OL {l:List Int} (hl:Fit l) (hd:Dg l):fT l=some (aF (dv l).toNat):=by
 have h:=xg hl hd
 obtain⟨r,h1,k,rfl,hk,_⟩:=FL hl
 unfold eB at h
 unfold fT
 have e:tu l=j6 l:=rfl
 rw[h1,Option.bind_some,Af hk,Option.bind_some]at h
 rw[e,h1,Option.bind_some,Af hk,Option.bind_some,CS (by unfold Fit at hl;simp;omega),Option.bind_some]
 exact h
theorem CG {l:List Int} {n:Nat} (hl:Fit l) (hd:Dg l) (hn:dv l=n):fT l=some (aF n):=by
 rw[OL hl hd,hn];rfl
theorem Ab {s:Int} {l:List Int} (x:Int) (hf:Fit l) (hd:Dg l) (hv:dv l=x.natAbs) (hs:x≠0→s=x.sign):eV s l=some (eQ x):=by
 have h:=yj x hf hd hv hs
 unfold fw at h
 rw[xg hf hd]at h
 unfold eV
 rw[OL hf hd]
 exact h
theorem vA {x:Int} {s:Int} {n:Nat} (hn:n=x.natAbs) (hs:x≠0→s=x.sign) (hL:n≠0→(aF n).length≤17592186044416):eV s (aF n)=some (eQ x):=by
 subst hn
 refine Ab x ?_ (cz _) (bC _) hs
 unfold Fit
 by_cases h:x.natAbs=0
 ·rw[h,cv];simp
 ·exact hL h
theorem Ki {s:Int} {l:List Int} (hf:Fit l):∃r,aW (np ⟨s,l⟩) 0=some r∧(match r with | .inl _=>Dg l | .inr x=>x=false∧¬Dg l):=by
 refine eD (I:=fun i s=>s=(i:Int)∧Dg (l.take i)) l.length _ ⟨rfl,by simpa using Dg.nil⟩ (l5 hf) ?_
 unfold Fit at hf
 rintro i s hi ⟨rfl,hd⟩
 simp only[np]
 by_cases hlt:i<l.length
 ·rw[if_pos (by simpa using hlt),cq hlt,Option.bind_some]
  by_cases h1:l[i]<0
  ·right
   exact⟨.inr false,by rw[if_pos (by simpa using h1)],rfl,fun hh=>by have:=hh.get hlt;omega⟩
  ·by_cases h2:l[i]≥1048576
   ·right
    exact⟨.inr false,by rw[if_neg (by simpa using h1),if_pos (by simpa using h2)],rfl,fun hh=>by have:=hh.get hlt;omega⟩
   ·left
    refine⟨hlt,_,by rw[if_neg (by simpa using h1),if_neg (by simpa using h2)],by rw[iC (by omega)];omega,?_⟩
    have e:l.take (i+1)=l.take i++[l[i]]:=by rw[List.take_add_one];simp[hlt]
    rw[e]
    exact hd.append (Dg.mk (by omega) Dg.nil)
 ·right
  have:i=l.length:=by omega
  subst this
  rw[List.take_length]at hd
  exact⟨.inl (),by rw[if_neg (by simp)],hd⟩
theorem Mf {b:ay} (hf:Fit b.aa):dc b=some (okB b):=by
 obtain⟨s,l⟩:=b
 simp only[Fit]at hf
 obtain⟨r,h1,h2⟩:=Ki (s:=s) (l:=l) hf
 unfold dc okB
 rw[h1,Option.bind_some]
 cases r with
 | inr x =>
  obtain⟨rfl,h⟩:=h2
  simp[h]
 | inl u =>
  simp only at h2 ⊢
  simp only[h2,decide_true,Bool.true_and]
  by_cases h0:l=[]
  ·subst h0
   by_cases hs0:s=0
   ·subst hs0;simp
   ·have:(s==0)=false:=by simpa using hs0
    simp only[List.length_nil,List.getLast?_nil,this]
    split<;>(try split)<;>simp
  ·have hp:0<l.length:=List.length_pos_iff.2 h0
   have e:IntKind.i64.wrap ((l.length:Int)-1)=((l.length-1:Nat):Int):=by rw[iC (by omega)];omega
   have hl0:((l.length:Int)==0)=false:=by simpa using h0
   rw[e,cq (by omega),List.getLast?_eq_some_getLast h0,List.getLast_eq_getElem,hl0]
   simp only[Option.bind_some,Bool.false_eq_true,if_false]
   by_cases hs:s < -1
   ·rw[if_pos (by simpa using hs)]
    have h1:(s==1)=false:=by simp;omega
    have h2:(s == -1)=false:=by simp;omega
    simp[h1,h2]
   ·rw[if_neg (by simpa using hs)]
    by_cases hs':s>1
    ·rw[if_pos (by simpa using hs')]
     have h1:(s==1)=false:=by simp;omega
     have h2:(s == -1)=false:=by simp;omega
     simp[h1,h2]
    ·rw[if_neg (by simpa using hs')]
     rcases (show s = -1∨s=0∨s=1 by omega) with rfl|rfl|rfl<;>simp
theorem gA {x:Int} (h:Ln x≤17592186044416):dc (eQ x)=some true:=by
 rw[Mf (show Fit (eQ x).aa from h),GP]
theorem v7 (l:List Int) (i:Nat):fJ l (i:Int)=some (gd l i):=by
 unfold fJ
 by_cases h:i<l.length
 ·rw[if_pos (by simpa using h),cq h,Option.bind_some,NJ h]
 ·rw[if_neg (by simpa using h),II (by omega)]
theorem KH {a b l0:List Int} {i n:Nat} (ha:Dg a) (hb:Dg b) (hia:i<a.length) (h0:Dg l0) (hn:l0.length=n) (hi:i+b.length<n) (hf:n≤17592186044416) (hz:∀j (hj:j<l0.length),i+b.length≤j→l0[j]=0) :
  ∃l,aW (nt a b (i:Int)) (0,0,l0)=some l∧l.length=n∧Dg l∧(∀j (hj:j<l.length),i+b.length<j→l[j]=0)∧dv l=dv l0+pw i*(a[i]*dv b):=by
 have hx:=ha.get hia
 refine eD (I:=fun k s=>s.2.1=(k:Int)∧s.2.2.length=n∧Dg s.2.2∧(0≤s.1∧s.1<1048576)∧(∀j (hj:j<s.2.2.length),i+b.length≤j→i+k≤j→s.2.2[j]=0)∧(k=b.length+1→s.1=0)∧dv s.2.2+pw (i+k)*s.1=dv l0+pw i*(a[i]*dv (b.take k)))
  (b.length+1) _ ⟨rfl,hn,h0,by simp,fun j hj h _=>hz j hj h,by omega,by simp[dv]⟩ (l5 (by omega)) ?_
 rintro k ⟨c,s,l⟩ hk ⟨h1,hl,hd,hc,hz,hend,he⟩
 simp only at h1 hl hd hc hz hend he
 subst h1
 simp only[nt]
 have hT:(if decide ((k:Int)<(b.length:Int))=true then some true else some (decide (c>0)))=some (decide (k<b.length∨c>0)):=by
  by_cases h:k<b.length
  ·rw[if_pos (by simpa using h)];simp[h]
  ·rw[if_neg (by simpa using h)];simp[h]
 rw[hT,Option.bind_some]
 by_cases hgo:k<b.length∨c>0
 ·left
  have hkb:k≤b.length:=by
   rcases hgo with h|h
   ·omega
   ·rcases Nat.lt_or_ge b.length k with h'|h'
    ·have:=hend (by omega);omega
    ·exact h'
  have hik:i+k<l.length:=by omega
  have ei:IntKind.i64.wrap ((i:Int)+(k:Int))=((i+k:Nat):Int):=by rw[iC (by omega)];omega
  have gb:=NI hb k
  have gl:=hd.get hik
  have hm0:0≤a[i]*gd b k:=Int.mul_nonneg hx.1 gb.1
  have hm1:a[i]*gd b k≤1048575*1048575:=Int.mul_le_mul (by omega) (by omega) gb.1 (by omega)
  rw[if_pos (by simpa using hgo),ei,cq hik,Option.bind_some,cq hia,Option.bind_some,v7,Option.bind_some,iC (x:=a[i]*gd b k) (by omega),iC (x:=l[i+k]+a[i]*gd b k) (by omega),iC (x:=l[i+k]+a[i]*gd b k+c) (by omega),VD (by omega) (by omega),Option.bind_some,TF (by omega) (by omega) (by omega),Option.bind_some]
  have e1:IntKind.i64.wrap ((k:Int)+1)=((k+1:Nat):Int):=by rw[iC (by omega)];omega
  refine⟨by omega,_,rfl,e1,by simpa using hl,hd.set _ (by omega),by simp only;omega,fun j hj hij hij2 =>?_,fun hk1 =>?_,?_⟩
  ·simp only[Int.toNat_natCast]at hj ⊢
   rw[List.getElem_set_ne (by omega)]
   exact hz j (by simpa using hj) hij (by omega)
  ·have hkl:k=b.length:=by omega
   simp only
   rw[II (by omega),Int.mul_zero,hz _ hik (by omega) (Nat.le_refl _)]
   omega
  ·simp only[Int.toNat_natCast]
   rw[xI hik,wG]
   have hp:=yg (i+k) (l[i+k]+a[i]*gd b k+c)
   rw[Int.mul_add (pw (i+k)),Int.mul_add (pw (i+k))]at hp
   have e2:pw i*(a[i]*(dv (b.take k)+pw k*gd b k))=pw i*(a[i]*dv (b.take k))+pw (i+k)*(a[i]*gd b k):=by
    rw[Int.mul_add,Int.mul_add,Cd]
    congr 1
    rw[Int.mul_left_comm a[i],← Int.mul_assoc]
   rw[e2,Int.mul_sub,show i+(k+1)=i+k+1 by omega]
   omega
 ·right
  have hkb:b.length≤k:=by omega
  have hc0:c=0:=by omega
  subst hc0
  refine⟨l,by rw[if_neg (by simpa using hgo)],hl,hd,fun j hj h=>hz j hj (by omega) (by omega),?_⟩
  rw[Gj hkb,Int.mul_zero]at he
  omega
theorem Mz {a b:List Int} (ha:Dg a) (hb:Dg b) (hf:a.length+b.length≤17592186044416):je a b=some (aF (dv a*dv b).toNat):=by
 have key:∃l,aW (ns a b) (0,List.replicate (a.length+b.length) 0)=some l∧l.length=a.length+b.length∧Dg l∧dv l=dv a*dv b:=by
  refine eD (I:=fun i s=>s.1=(i:Int)∧s.2.length=a.length+b.length∧Dg s.2∧(∀j (hj:j<s.2.length),i+b.length≤j→s.2[j]=0)∧dv s.2=dv (a.take i)*dv b)
   a.length _ ⟨rfl,by simp,Dg.rep _,fun j hj _=>by simp,by simp[dv,A8]⟩ (l5 (by omega)) ?_
  rintro i ⟨s,l⟩ hi ⟨h1,hl,hd,hz,he⟩
  simp only at h1 hl hd hz he
  subst h1
  simp only[ns]
  by_cases hlt:i<a.length
  ·left
   obtain⟨m,g1,g2,g3,g4,g5⟩:=KH (i:=i) (n:=a.length+b.length) ha hb hlt hd hl (by omega) hf hz
   rw[if_pos (by simpa using hlt),g1,Option.bind_some]
   have e1:IntKind.i64.wrap ((i:Int)+1)=((i+1:Nat):Int):=by rw[iC (by omega)];omega
   refine⟨hlt,_,rfl,e1,g2,g3,fun j hj hij=>g4 j hj (by omega),?_⟩
   rw[g5,he,eY hlt,Int.add_mul,Int.mul_assoc]
  ·right
   have hia:i=a.length:=by omega
   subst hia
   refine⟨l,by rw[if_neg (by simp)],hl,hd,?_⟩
   rw[he,List.take_length]
 obtain⟨l,h1,h2,h3,h4⟩:=key
 unfold je
 have e:IntKind.i64.wrap ((a.length:Int)+(b.length:Int))=((a.length+b.length:Nat):Int):=by rw[iC (by omega)];omega
 rw[e,WC hf,Option.bind_some,h1,Option.bind_some,pH,OL (by unfold Fit;omega) h3,h4]
theorem Ez (l:List Int) (i:Nat):dv l=dv (l.take i)+pw i*dv (l.drop i):=by
 by_cases h:i≤l.length
 ·exact ia l h
 ·rw[List.take_of_length_le (by omega),List.drop_eq_nil_of_le (by omega)];simp[dv]
theorem vt (l:List Int) (i:Nat):dv (l.drop i)=gd l i+1048576*dv (l.drop (i+1)):=by
 by_cases h:i<l.length
 ·rw[iY h,NJ h]
 ·rw[List.drop_eq_nil_of_le (by omega),List.drop_eq_nil_of_le (by omega),II (by omega)];simp[dv]
theorem A9 {l:List Int} (h:Dg l) (i:Nat):0≤dv (l.take i)∧dv (l.take i)<pw i:=by
 have h1:=nK (h.take i)
 have h2:=ud (show (l.take i).length≤i by rw[List.length_take];omega)
 exact⟨cw (h.take i),by omega⟩
theorem Q8 {a b:List Int} (ha:Dg a) (hb:Dg b) {k:Nat} (he:dv (a.drop (k+1))=dv (b.drop (k+1))) (hlt:gd a k<gd b k):dv a<dv b:=by
 have ea:=Ez a k
 have eb:=Ez b k
 rw[vt]at ea eb
 have la:=A9 ha k
 have lb:=A9 hb k
 have hp:=lq k
 have:pw k*(gd a k+1048576*dv (a.drop (k+1))+1)≤pw k*(gd b k+1048576*dv (b.drop (k+1))):=Int.mul_le_mul_of_nonneg_left (by omega) (by omega)
 rw[Int.mul_add _ _ 1,Int.mul_one]at this
 omega
theorem UN {a b:List Int} (ha:Dg a) (hb:Dg b) (hfa:Fit a) (hfb:Fit b):me a b=some (decide (dv a<dv b)):=by
 unfold Fit at hfa hfb
 generalize hm:max a.length b.length=m
 have em:(if (b.length:Int)>(a.length:Int) then (b.length:Int) else (a.length:Int))=(m:Int):=by split<;>omega
 have key:∃r,aW (oO a b) ((m:Int)-1)=some r∧(match r with | .inl _=>¬dv a<dv b | .inr x=>x=decide (dv a<dv b)):=by
  refine eD (I:=fun i s=>s=((m-i:Nat):Int)-1∧dv (a.drop (m-i))=dv (b.drop (m-i))) m _ ⟨rfl,?_⟩ (l5 (by omega)) ?_
  ·rw[List.drop_eq_nil_of_le (by omega),List.drop_eq_nil_of_le (by omega)]
  rintro i s hi ⟨rfl,he⟩
  generalize hk:m-i=k at *
  simp only[oO]
  by_cases h0:0<k
  ·have ek:((k:Int)-1)=((k-1:Nat):Int):=by omega
   rw[ek,if_pos (by simp),v7,Option.bind_some,v7,Option.bind_some]
   rw[show k=k-1+1 by omega]at he
   by_cases hx:gd a (k-1)=gd b (k-1)
   ·left
    rw[if_neg (by simpa using hx)]
    refine⟨by omega,_,rfl,by rw[iC (by omega)];omega,?_⟩
    rw[show m-(i+1)=k-1 by omega,vt,vt b,hx,he]
   ·right
    rw[if_pos (by simpa using hx)]
    refine⟨.inr (decide (gd a (k-1)<gd b (k-1))),rfl,?_⟩
    rcases Int.lt_or_gt_of_ne hx with h|h
    ·have:=Q8 ha hb he h
     simp[h,this]
    ·have:=Q8 hb ha he.symm h
     have h1:¬gd a (k-1)<gd b (k-1):=by omega
     have h2:¬dv a<dv b:=by omega
     simp[h1,h2]
  ·right
   have:k=0:=by omega
   subst this
   refine⟨.inl (),by rw[if_neg (by simp)],?_⟩
   simp only[List.drop_zero]at he
   omega
 obtain⟨r,h1,h2⟩:=key
 unfold me
 rw[em,iC (x:=(m:Int)-1) (by omega),h1,Option.bind_some]
 cases r with
 | inl u=>simp only at h2 ⊢;simp[h2]
 | inr x=>simp only at h2 ⊢;rw[h2]
theorem VB {a b:List Int} (ha:Dg a) (hb:Dg b) (hf:Fit a) (hab:b.length≤a.length) (hle:dv b≤dv a):j8 a b=some (aF (dv a-dv b).toNat):=by
 unfold Fit at hf
 have key:∃l,aW (nq a b) (0,0,[])=some l∧l.length=a.length∧Dg l∧dv l=dv a-dv b:=by
  refine eD (I:=fun i s=>s.2.1=(i:Int)∧s.2.2.length=i∧Dg s.2.2∧(0≤s.1∧s.1≤1)∧dv s.2.2+dv (b.take i)=dv (a.take i)+pw i*s.1)
   a.length _ ⟨rfl,rfl,Dg.nil,by simp,by simp[dv]⟩ (l5 (by omega)) ?_
  rintro i ⟨c,s,l⟩ hi ⟨h1,hl,hd,hc,he⟩
  simp only at h1 hl hd hc he
  subst h1
  simp only[nq]
  by_cases hlt:i<a.length
  ·left
   have ga:=ha.get hlt
   have gb:=NI hb i
   rw[if_pos (by simpa using hlt),cq hlt,Option.bind_some,v7,Option.bind_some,iC (x:=a[i]-gd b i) (by omega),iC (x:=a[i]-gd b i-c) (by omega)]
   have e1:IntKind.i64.wrap ((i:Int)+1)=((i+1:Nat):Int):=by rw[iC (by omega)];omega
   by_cases hn:a[i]-gd b i-c<0
   ·rw[if_pos (by simpa using hn),iC (by omega),CS (by simp;omega),Option.bind_some]
    refine⟨hlt,_,rfl,e1,by simp[hl],hd.append (Dg.mk (by omega) Dg.nil),by simp,?_⟩
    simp only
    rw[fl,wG,eY hlt,hl,N6]
    simp only[dv,Int.mul_zero,Int.add_zero,Int.mul_one]
    rw[Int.mul_add,Int.mul_sub,Int.mul_sub]
    omega
   ·rw[if_neg (by simpa using hn),CS (by simp;omega),Option.bind_some]
    refine⟨hlt,_,rfl,e1,by simp[hl],hd.append (Dg.mk (by omega) Dg.nil),by simp,?_⟩
    simp only
    rw[fl,wG,eY hlt,hl]
    simp only[dv,Int.mul_zero,Int.add_zero]
    rw[Int.mul_sub,Int.mul_sub]
    omega
  ·right
   have hia:i=a.length:=by omega
   subst hia
   refine⟨l,by rw[if_neg (by simp)],hl,hd,?_⟩
   rw[Gj hab,List.take_length]at he
   have h1:=nK hd
   rw[hl]at h1
   have hc0:c=0:=by
    rcases (show c=0∨c=1 by omega) with h|h
    ·exact h
    ·subst h;omega
   subst hc0
   omega
 obtain⟨l,h1,h2,h3,h4⟩:=key
 unfold j8
 rw[h1,Option.bind_some,pH,OL (by unfold Fit;omega) h3,h4]
theorem J9 {n R:Nat} (hn:n≠0) (hfn:(aF n).length≤17592186043904) (hfR:(aF R).length≤17592186043906) (hR:R<1048576*n):aW (mg (aF n) (aF R)) (0,1048576)=some ((R / n:Nat):Int):=by
 have key:∃r,aW (mg (aF n) (aF R)) (0,1048576)=some r∧r=((R / n:Nat):Int):=by
  refine fC (I:=fun (s:Int×Int)=>∃lo hi:Nat,s=((lo:Int),(hi:Int))∧lo<hi∧hi≤1048576∧lo*n≤R∧R<hi*n) (μ:=fun (s:Int×Int)=>(s.2-s.1).toNat) _ ⟨0,1048576,rfl,by omega,by omega,by omega,hR⟩ (by simp only;unfold FU;omega) ?_
  rintro _ ⟨lo,hi,rfl,h1,h2,h3,h4⟩
  simp only[mg]
  rw[iC (x:=(hi:Int)-lo) (by omega)]
  by_cases hgo:(hi:Int)-lo>1
  ·left
   have em:((lo:Int)+hi) / 2=(((lo+hi) / 2:Nat):Int):=by omega
   have hd:Dg [(((lo+hi) / 2:Nat):Int)]:=Dg.mk (by omega) Dg.nil
   have ed:dv (aF n)*dv [(((lo+hi) / 2:Nat):Int)]=((n*((lo+hi) / 2):Nat):Int):=by rw[bC,Int.natCast_mul];simp[dv]
   rw[if_pos (by simpa using hgo),iC (x:=(lo:Int)+hi) (by omega),TF (by omega) (by omega) (by omega),Option.bind_some,em,Mz (cz n) hd (by simp;omega),Option.bind_some,ed,Int.toNat_natCast]
   have hfl:(aF (n*((lo+hi) / 2))).length≤17592186043905:=by
    have:((n*((lo+hi) / 2):Nat):Int)<pw ((aF n).length+1):=by
     rw[jK,Int.natCast_mul]
     have a1:=eT n
     have:(n:Int)*((lo+hi) / 2:Nat)≤n*1048576:=Int.mul_le_mul_of_nonneg_left (by omega) (by omega)
     omega
    have:=fO this
    omega
   rw[UN (cz R) (cz _) (by unfold Fit;omega) (by unfold Fit;omega),Option.bind_some,bC,bC]
   by_cases hc:R<n*((lo+hi) / 2)
   ·rw[if_pos (decide_eq_true (by omega))]
    refine⟨_,rfl,⟨lo,(lo+hi) / 2,rfl,by omega,by omega,h3,by rw[Nat.mul_comm];exact hc⟩,by simp only;omega⟩
   ·rw[if_neg (by rw[decide_eq_true_eq];omega)]
    refine⟨_,rfl,⟨(lo+hi) / 2,hi,rfl,by omega,by omega,by rw[Nat.mul_comm];omega,h4⟩,by simp only;omega⟩
  ·right
   refine⟨_,by rw[if_neg (by simpa using hgo)],?_⟩
   have:hi=lo+1:=by omega
   subst this
   congr 1
   have:R / n=lo:=by
    apply Nat.div_eq_of_lt_le
    ·exact h3
    ·exact h4
   exact this.symm
 obtain⟨r,h1,rfl⟩:=key
 exact h1
theorem U1 {m n:Nat} (hn:n≠0) (hfm:(aF m).length≤17592186043904) (hfn:(aF n).length≤17592186043904):mf (aF m) (aF n)=some (aF (m / n),aF (m % n)):=by
 generalize ha:aF m=a at *
 have hda:Dg a:=by rw[← ha];exact cz m
 have key:∃r,aW (oP a (aF n)) ([],(a.length:Int)-1,List.replicate a.length 0)=some r∧r.2.length=a.length∧Dg r.2∧∃R:Nat,r.1=aF R∧R<n∧dv a=n*dv r.2+R:=by
  refine eD (I:=fun i s=>s.2.1=((a.length-i:Nat):Int)-1∧s.2.2.length=a.length∧Dg s.2.2∧∃R:Nat,s.1=aF R∧R<n∧dv (a.drop (a.length-i))=n*dv (s.2.2.drop (a.length-i))+R)
   a.length _ ⟨rfl,by simp,Dg.rep _,0,cv.symm,by omega,by simp[dv]⟩ (l5 (by omega)) ?_
  rintro i ⟨r,s,l⟩ hi ⟨h1,hl,hg,R,h2,hR,he⟩
  simp only at h1 hl hg h2 he
  subst h1 h2
  generalize hk:a.length-i=k at *
  simp only[oP]
  by_cases h0:0<k
  ·left
   have hk1:k-1<a.length:=by omega
   have hk2:k-1<l.length:=by omega
   have ek:((k:Int)-1)=((k-1:Nat):Int):=by omega
   have ga:=hda.get hk1
   have hRl:=dA (show R≤n by omega)
   have hdR:Dg ([a[k-1]]++aF R):=(Dg.mk ga Dg.nil).append (cz R)
   obtain⟨X,hX⟩:∃X:Nat,a[k-1]+1048576*(R:Int)=X:=⟨(a[k-1]+1048576*(R:Int)).toNat,by omega⟩
   have hXn:X<1048576*n:=by omega
   have hXl:(aF X).length≤17592186043906:=by
    have:(X:Int)<pw ((aF n).length+1):=by
     rw[jK]
     have a1:=eT n
     omega
    have:=fO this
    omega
   rw[ek,if_pos (by simp),cq hk1,Option.bind_some,CS (by simp;omega),Option.bind_some,CG (n:=X) (by unfold Fit;simp;omega) hdR (by rw[fl,bC];simp only[dv,List.length_cons,List.length_nil];rw[show pw (0+1)=1048576 by decide];omega),Option.bind_some,J9 hn hfn hXl hXn,Option.bind_some,cq hk2,Option.bind_some]
   have hq:X / n<1048576:=Nat.div_lt_of_lt_mul (by rw[Nat.mul_comm];exact hXn)
   have hq0:(0:Int)≤((X / n:Nat):Int):=Int.natCast_nonneg _
   rw[CG (n:=X / n) (by simp[Fit]) (Dg.mk (by omega) Dg.nil) (by simp[dv]),Option.bind_some]
   have hql:(aF (X / n)).length≤1:=fO (by rw[jK,ng];omega)
   have hprod:(dv (aF n)*dv (aF (X / n))).toNat=n*(X / n):=by rw[bC,bC,← Int.natCast_mul];rfl
   rw[Mz (cz _) (cz _) (by omega),Option.bind_some,hprod]
   have hle:n*(X / n)≤X:=Nat.mul_div_le X n
   rw[VB (cz _) (cz _) (by unfold Fit;omega) (dA hle) (by rw[bC,bC];omega),Option.bind_some,bC,bC]
   have hsub:((X:Int)-(n*(X / n):Nat)).toNat=X % n:=by
    have:=Nat.div_add_mod X n
    omega
   rw[hsub]
   have e1:IntKind.i64.wrap (((k-1:Nat):Int)-1)=((k-1:Nat):Int)-1:=iC (by omega)
   refine⟨by omega,_,rfl,by rw[e1,show a.length-(i+1)=k-1 by omega],by simpa using hl,hg.set _ (by omega),X % n,rfl,Nat.mod_lt _ (by omega),?_⟩
   simp only[Int.toNat_natCast]
   rw[show a.length-(i+1)=k-1 by omega,iY hk1,iY (l:=l.set (k-1) _) (i:=k-1) (by simpa using hk2),show k-1+1=k by omega,List.getElem_set_self,List.drop_set_of_lt (by omega),he,Int.mul_add,Int.mul_add]
   have h3:=Nat.div_add_mod X n
   have e3:(n:Int)*(1048576*dv (l.drop k))=1048576*(n*dv (l.drop k)):=Int.mul_left_comm _ _ _
   rw[e3,← Int.natCast_mul n (X / n)]
   omega
  ·right
   have:k=0:=by omega
   subst this
   refine⟨(aF R,l),by rw[if_neg (by simp)],hl,hg,R,rfl,hR,?_⟩
   simpa using he
 obtain⟨⟨r,l⟩,h1,h2,h3,R,h4,h5,h6⟩:=key
 simp only at h2 h3 h4 h6
 unfold mf
 rw[WC (by omega),Option.bind_some,iC (x:=(a.length:Int)-1) (by omega),h1,Option.bind_some]
 simp only
 rw[← ha,bC]at h6
 have hl0:=cw h3
 obtain⟨Q,hQ⟩:∃Q:Nat,dv l=Q:=⟨(dv l).toNat,by omega⟩
 rw[hQ]at h6
 have hm:m=n*Q+R:=by
  have:((m:Nat):Int)=((n*Q+R:Nat):Int):=by rw[Int.natCast_add,Int.natCast_mul];exact h6
  omega
 have e1:m / n=Q:=by rw[hm,Nat.mul_add_div (by omega),Nat.div_eq_of_lt h5,Nat.add_zero]
 have e2:m % n=R:=by rw[hm,Nat.mul_add_mod,Nat.mod_eq_of_lt h5]
 rw[CG (n:=Q) (by unfold Fit;omega) h3 hQ,Option.bind_some,h4,e1,e2]
theorem Pc {a b:Nat} (ha:(aF a).length≤jn) (hb:(aF b).length≤jn):aW nZ (aF a,aF b)=some (aF (Nat.gcd a b)):=by
 have hL:jn=17592186043904:=rfl
 have key:∃r,aW nZ (aF a,aF b)=some r∧r=aF (Nat.gcd a b):=by
  have la:=NR (eT a)
  have lb:=NR (eT b)
  let val:List Int→Nat:=fun l=>(dv l).toNat
  have hval:∀n,val (aF n)=n:=fun n=>by show (dv (aF n)).toNat=n;rw[bC];rfl
  refine fC (I:=fun (s:List Int×List Int)=>∃x y,s=(aF x,aF y)∧Nat.gcd x y=Nat.gcd a b∧(aF x).length≤jn∧(aF y).length≤jn)
   (μ:=fun (s:List Int×List Int)=>lg (val s.1)+lg (val s.2)+(if val s.1<val s.2 then 1 else 0)) _ ⟨a,b,rfl,rfl,ha,hb⟩ (by simp only[hval];unfold FU;split<;>omega) ?_
  rintro _ ⟨x,y,rfl,hg,hx,hy⟩
  simp only[nZ]
  by_cases h0:y=0
  ·right
   subst h0
   refine⟨_,by rw[cv,if_neg (by simp)],?_⟩
   rw[← hg,Nat.gcd_zero_right]
  ·left
   have hne:0<(aF y).length:=List.length_pos_iff.2 (fun h=>h0 (py.1 h))
   rw[if_pos (by simpa using hne),U1 h0 (by omega) (by omega),Option.bind_some]
   have hlt:=Nat.mod_lt x (Nat.pos_of_ne_zero h0)
   refine⟨_,rfl,⟨y,x % y,rfl,?_,hy,?_⟩,?_⟩
   ·rw[← hg,Nat.gcd_comm y,← Nat.gcd_rec,Nat.gcd_comm]
   ·have:=dA (Nat.mod_le x y);omega
   ·simp only[hval]
    rw[if_neg (by omega)]
    by_cases hxy:x<y
    ·rw[if_pos hxy,Nat.mod_eq_of_lt hxy];omega
    ·rw[if_neg hxy]
     have:lg (x % y)<lg x:=by
      apply UO
      have h1:=Nat.div_add_mod x y
      have h2:1≤x / y:=(Nat.one_le_div_iff (by omega)).2 (by omega)
      have h3:y*1≤y*(x / y):=Nat.mul_le_mul_left _ h2
      omega
     omega
 obtain⟨r,h1,rfl⟩:=key
 exact h1
theorem V8 {x y:Int} (hx:Ln x≤jn) (hy:Ln y≤jn):nn (eQ x) (eQ y)=some (eQ (Int.gcd x y),0):=by
 have hL:jn=17592186043904:=rfl
 unfold nn
 rw[gA (by omega),Option.bind_some]
 simp only[Bool.not_true,Bool.false_eq_true,if_false]
 rw[gA (by omega),Option.bind_some,Option.bind_some]
 simp only[Bool.not_true,Bool.false_eq_true,if_false]
 have hxd:(eQ x).aa=aF x.natAbs:=rfl
 have hyd:(eQ y).aa=aF y.natAbs:=rfl
 rw[hxd,hyd]
 have fx:(aF x.natAbs).length≤17592186043904:=by show Ln x≤_;omega
 have fy:(aF y.natAbs).length≤17592186043904:=by show Ln y≤_;omega
 have fg:(aF (Nat.gcd x.natAbs y.natAbs)).length≤17592186043904:=by
  by_cases h:y.natAbs=0
  ·rw[h,Nat.gcd_zero_right];exact fx
  ·have:=dA (Nat.gcd_le_right x.natAbs (Nat.pos_of_ne_zero h));omega
 have hgn:Nat.gcd x.natAbs y.natAbs=((Int.gcd x y:Nat):Int).natAbs:=rfl
 rw[Pc (by omega) (by omega),Option.bind_some,vA (x:=(Int.gcd x y:Int)) hgn ?_ (fun _=>by omega),Option.bind_some]
 intro h
 rw[Int.sign_eq_one_of_pos (by omega)]
theorem V7 {x y:Int} (hx:Ln x≤jj) (hy:Ln y≤jj) (h0:0<y) (hd:y∣x):lX (eQ x) (eQ y)=some (eQ (x / y),eQ 0,0):=by
 have hL:jj=4398046511104:=rfl
 unfold lX
 rw[gA (by omega),Option.bind_some]
 simp only[Bool.not_true,Bool.false_eq_true,if_false]
 rw[gA (by omega),Option.bind_some,Option.bind_some]
 simp only[Bool.not_true,Bool.false_eq_true,if_false]
 have hxd:(eQ x).aa=aF x.natAbs:=rfl
 have hyd:(eQ y).aa=aF y.natAbs:=rfl
 have hxs:(eQ x).ah=x.sign:=rfl
 have hys:(eQ y).ah=1:=Int.sign_eq_one_of_pos h0
 rw[hxd,hyd,hxs,hys]
 have fx:(aF x.natAbs).length≤4398046511104:=by show Ln x≤_;omega
 have fy:(aF y.natAbs).length≤4398046511104:=by show Ln y≤_;omega
 have fq:=dA (Nat.div_le_self x.natAbs y.natAbs)
 obtain⟨z,rfl⟩:=hd
 have hyz:y*z / y=z:=Int.mul_ediv_cancel_left _ (by omega)
 have hn:(y*z).natAbs=y.natAbs*z.natAbs:=Int.natAbs_mul _ _
 have hq:(y*z).natAbs / y.natAbs=z.natAbs:=by rw[hn,Nat.mul_div_cancel_left _ (by omega)]
 have hr:(y*z).natAbs % y.natAbs=0:=by rw[hn,Nat.mul_mod_right]
 have hsg:(y*z).sign=z.sign:=by rw[Int.sign_mul,Int.sign_eq_one_of_pos h0,Int.one_mul]
 rw[if_neg (by decide),U1 (by omega) (by omega) (by omega),Option.bind_some,Int.mul_one,hsg,iC (x:=z.sign) (by have:=oU z;omega),hyz,hq,hr,cv]
 rw[hq]at fq
 have hT:(if decide (z.sign≥0)=true then some true else some ((([]:List Int).length:Int)==0))=some true:=by split<;>rfl
 simp only[hT,Option.bind_some,if_true]
 rw[vA (x:=z) rfl (fun _=>rfl) (fun _=>by omega),Option.bind_some]
 have:eV z.sign []=some (eQ 0):=Ab 0 (by simp[Fit]) Dg.nil rfl (fun h=>absurd rfl h)
 rw[this,Option.bind_some]
theorem Wc {x:Int} (h:Ln x≤jj):oN (eQ x)=some (eQ (-x)):=by
 unfold oN
 have hL:jj=4398046511104:=rfl
 rw[gA (by omega),Option.bind_some]
 simp only[Bool.not_true,Bool.false_eq_true,if_false]
 have hf:Fit (eQ x).aa:=by unfold Fit;show Ln x≤_;omega
 rw[Ab (-x) hf (cz _) (by show dv (aF _)=_;rw[bC,Int.natAbs_neg]),Option.bind_some]
 intro h0
 show IntKind.i64.wrap (0-x.sign)=_
 rw[iC (by have:=oU x;omega),Int.sign_neg,Int.zero_sub]
theorem RQ {x:Int} (hx : -9223372036854775808≤x∧x<9223372036854775808):∃l,aW ug (x,[])=some l∧Dg l∧dv l=x.natAbs∧l.length≤5:=by
 refine fC (I:=fun (s:Int×List Int)=>Dg s.2∧dv s.2+pw s.2.length*s.1.natAbs=x.natAbs∧s.2.length≤5∧(s.1=0∨s.2.length<5)) (μ:=fun (s:Int×List Int)=>s.1.natAbs) _ ⟨Dg.nil,by simp[dv,ng],by simp,by simp⟩ (by simp only;unfold FU;omega) ?_
 rintro⟨u,l⟩ ⟨hd,h2,h3,h5⟩
 simp only at hd h2 h3 h5
 have hp:=lq l.length
 have hdl:=cw hd
 have hu:(u.natAbs:Int)≤x.natAbs:=by
  have:1*(u.natAbs:Int)≤pw l.length*u.natAbs:=Int.mul_le_mul_of_nonneg_right (by omega) (by omega)
  omega
 simp only[ug]
 by_cases h0:u≠0
 ·left
  have hl4:l.length<4:=by
   rcases Nat.lt_or_ge l.length 4 with h|h
   ·exact h
   ·have h4:l.length=4:=by omega
    rw[h4,X5]at h2
    omega
  have hm:uA .i64 u 1048576=some (u.tmod 1048576):=by unfold uA;rw[if_neg (by decide)]
  have hq:xG .i64 u 1048576=some (u.tdiv 1048576):=by
   unfold xG
   have:(u.tdiv 1048576).natAbs=u.natAbs / 1048576:=Int.natAbs_tdiv u 1048576
   rw[if_neg (by decide),iC (by omega)]
  have ha:(u.tmod 1048576).natAbs=u.natAbs % 1048576:=Int.natAbs_tmod u 1048576
  have hb:(u.tdiv 1048576).natAbs=u.natAbs / 1048576:=Int.natAbs_tdiv u 1048576
  have hpd:=yg l.length (u.natAbs:Int)
  rw[if_pos (by simpa using h0),hm,Option.bind_some]
  have fin:∀d:Int,d=((u.natAbs % 1048576:Nat):Int)→(Dg (l++[d])∧dv (l++[d])+pw (l++[d]).length*((u.tdiv 1048576).natAbs:Int)=x.natAbs∧(l++[d]).length≤5∧(u.tdiv 1048576=0∨(l++[d]).length<5))∧(u.tdiv 1048576).natAbs<u.natAbs:=by
   rintro d rfl
   refine⟨⟨hd.append (Dg.mk (by omega) Dg.nil),?_,by simp;omega,by right;simp;omega⟩,by omega⟩
   rw[hb]
   simp only[fl,dv,List.length_append,List.length_cons,List.length_nil,Int.mul_zero,Int.add_zero,Nat.zero_add]
   rw[Int.natCast_emod,Int.natCast_ediv]
   have:((1048576:Nat):Int)=1048576:=rfl
   rw[this]
   omega
  by_cases hneg:u.tmod 1048576<0
  ·rw[if_pos (by simpa using hneg),iC (x:=0-u.tmod 1048576) (by omega),CS (by simp;omega),Option.bind_some,hq,Option.bind_some]
   have:=fin (0-u.tmod 1048576) (by omega)
   exact⟨_,rfl,this.1,this.2⟩
  ·rw[if_neg (by simpa using hneg),CS (by simp;omega),Option.bind_some,hq,Option.bind_some]
   have:=fin (u.tmod 1048576) (by omega)
   exact⟨_,rfl,this.1,this.2⟩
 ·right
  have:u=0:=by omega
  subst this
  refine⟨l,by rw[if_neg (by simp)],hd,?_,h3⟩
  simp at h2
  omega
theorem XO {x:Int} (h : -9223372036854775808≤x∧x<9223372036854775808):qX x=some (eQ x):=by
 unfold qX
 by_cases h0:x=0
 ·subst h0;rw[BZ];rfl
 ·have hT:(if decide (x<0)=true then some (-1:Int) else some 1)=some x.sign:=by
   rcases fV x with⟨a,b,c⟩|⟨a,b,c⟩|⟨a,b⟩
   ·rw[if_neg (by simp;omega),a]
   ·rw[if_pos (by simp;omega),a]
   ·exact absurd b h0
  obtain⟨l,h1,h2,h3,h4⟩:=RQ h
  rw[if_neg (by simpa using h0),hT,Option.bind_some,h1,Option.bind_some,pH,Ab x (by unfold Fit;omega) h2 h3 (fun _=>rfl)]
instance:DecidableEq ay:=fun a b=>decidable_of_iff (a.ah=b.ah∧a.aa=b.aa) (by cases a;cases b;simp)
instance:DecidableEq aT:=fun a b=>decidable_of_iff (a.cu=b.cu∧a.ct=b.ct) (by cases a;cases b;simp)
theorem PR {b c:ay} (hf:Fit b.aa) (hl:b.aa.length=c.aa.length):∃r,aW (tq b c) 0=some r∧(match r with | .inl _=>b.aa=c.aa | .inr x=>x=false∧b.aa≠c.aa):=by
 refine eD (I:=fun i s=>s=(i:Int)∧b.aa.take i=c.aa.take i) b.aa.length _ ⟨rfl,by simp⟩ (l5 hf) ?_
 unfold Fit at hf
 rintro i s hi ⟨rfl,he⟩
 simp only[tq]
 by_cases hlt:i<b.aa.length
 ·rw[if_pos (by simpa using hlt),cq hlt,Option.bind_some,cq (by omega),Option.bind_some]
  by_cases hx:b.aa[i]=c.aa[i]
  ·left
   rw[if_neg (by simpa using hx)]
   refine⟨hlt,_,rfl,by rw[iC (by omega)];omega,?_⟩
   rw[List.take_add_one,List.take_add_one,he]
   simp[hlt,show i<c.aa.length by omega,hx]
  ·right
   rw[if_pos (by simpa using hx)]
   refine⟨.inr false,rfl,rfl,fun h=>hx ?_⟩
   simp[h]
 ·right
  have:i=b.aa.length:=by omega
  subst this
  refine⟨.inl (),by rw[if_neg (by simp)],?_⟩
  rw[List.take_length,List.take_of_length_le (by omega)]at he
  exact he
theorem T7 {b c:ay} (hf:Fit b.aa):w8 b c=some (decide (b=c)):=by
 have hiff:b=c↔b.ah=c.ah∧b.aa=c.aa:=by cases b;cases c;simp
 unfold w8
 by_cases h1:b.ah=c.ah
 ·rw[if_neg (by simpa using h1),Option.bind_some]
  by_cases h2:b.aa.length=c.aa.length
  ·rw[if_neg (by simp;omega)]
   obtain⟨r,h3,h4⟩:=PR hf h2
   rw[h3,Option.bind_some]
   cases r with
   | inl u=>simp only at h4 ⊢;simp[hiff,h1,h4]
   | inr x=>simp only at h4 ⊢;simp[hiff,h1,h4.1,h4.2]
  ·rw[if_pos (by simp;omega)]
   have:b≠c:=fun h=>h2 (by rw[h])
   simp[this]
 ·rw[if_pos (by simpa using h1),Option.bind_some,if_pos rfl]
  have:b≠c:=fun h=>h1 (by rw[h])
  simp[this]
theorem WS {b c:ay} (hf:Fit b.aa):w8 b c=some (decide (b=c)):=T7 hf
theorem Hp {x y:Int} (hx:Ln x≤jn) (hy:Ln y≤jn):mc (eQ x) (eQ y)=some (kW x y):=by
 have hL:jn=17592186043904:=rfl
 unfold mc
 rw[gA (by omega),Option.bind_some]
 simp only[Bool.not_true,Bool.false_eq_true,if_false]
 rw[gA (by omega),Option.bind_some]
 simp only[Bool.not_true,Bool.false_eq_true,if_false]
 have fx:(aF x.natAbs).length≤17592186043904:=by show Ln x≤_;omega
 have fy:(aF y.natAbs).length≤17592186043904:=by show Ln y≤_;omega
 rw[WS (by unfold Fit;show Ln x≤_;omega),Option.bind_some,Option.bind_some]
 have hxd:(eQ x).aa=aF x.natAbs:=rfl
 have hyd:(eQ y).aa=aF y.natAbs:=rfl
 have hxs:(eQ x).ah=x.sign:=rfl
 have hys:(eQ y).ah=y.sign:=rfl
 by_cases he:x=y
 ·subst he
  rw[if_pos (by simp)]
  simp[kW]
 ·rw[if_neg (by simp only[decide_eq_true_eq];exact fun h=>he (GN h)),hxd,hyd,hxs,hys]
  by_cases h:x.sign=y.sign
  ·rw[if_neg (by simpa using h),UN (cz _) (cz _) (by unfold Fit;omega) (by unfold Fit;omega),Option.bind_some,bC,bC]
   have hc:kW x y=if x<y then -1 else 1:=by
    unfold kW
    split
    ·rfl
    ·rw[if_pos (by omega)]
   rcases fV x with⟨a,b,c⟩|⟨a,b,c⟩|⟨a,b⟩<;>rcases fV y with⟨a',b',c'⟩|⟨a',b',c'⟩|⟨a',b'⟩<;>(try (rw[a,a']at h;exact absurd h (by decide)))
   ·rw[a,hc]
    by_cases hlt:x<y
    ·have h1:(x.natAbs:Int)<y.natAbs:=by omega
     rw[if_pos hlt,decide_eq_true h1];rfl
    ·have h1:¬(x.natAbs:Int)<y.natAbs:=by omega
     rw[if_neg hlt,decide_eq_false h1];rfl
   ·rw[a,hc]
    by_cases hlt:x<y
    ·have h1:¬(x.natAbs:Int)<y.natAbs:=by omega
     rw[if_pos hlt,decide_eq_false h1];rfl
    ·have h1:(x.natAbs:Int)<y.natAbs:=by omega
     rw[if_neg hlt,decide_eq_true h1];rfl
   ·exact absurd (b.trans b'.symm) he
  ·rw[if_pos (by simpa using h)]
   unfold kW
   rcases fV x with⟨a,b,c⟩|⟨a,b,c⟩|⟨a,b⟩<;>rcases fV y with⟨a',b',c'⟩|⟨a',b',c'⟩|⟨a',b'⟩<;>(try (exact absurd (a.trans a'.symm) h))<;>rw[a,a']<;>(try rw[if_pos (show x<y by omega)])<;>(try rw[if_neg (show ¬x<y by omega),if_pos (show y<x by omega)])<;>rfl
theorem As {f:aT} (hf:OQ f):lu f=some (okF f):=by
 have hL:jn=17592186043904:=rfl
 obtain⟨p,q⟩:=f
 simp only[OQ]at hf
 unfold lu okF
 rw[Mf (show Fit p.aa by unfold Fit;omega),Option.bind_some]
 by_cases h1:okB p=true
 ·simp only[h1,Bool.not_true,Bool.false_eq_true,if_false,Bool.true_and]
  rw[Mf (show Fit q.aa by unfold Fit;omega),Option.bind_some]
  by_cases h2:okB q=true
  ·simp only[h2,Bool.not_true,Bool.false_eq_true,if_false,Bool.true_and,Option.bind_some]
   obtain⟨x,rfl⟩:=qR.1 h1
   obtain⟨y,rfl⟩:=qR.1 h2
   have hys:(eQ y).ah=y.sign:=rfl
   by_cases h3:y.sign=1
   ·rw[if_neg (by rw[hys,h3];decide),V8 hf.1 hf.2,Option.bind_some,XO (by decide),Option.bind_some]
    have h5:(dv (eQ x).aa).toNat=x.natAbs:=by show (dv (aF _)).toNat=_;rw[bC];rfl
    have h6:(dv (eQ y).aa).toNat=y.natAbs:=by show (dv (aF _)).toNat=_;rw[bC];rfl
    have hy:0<y.natAbs:=by rcases fV y with⟨a,b,c⟩|⟨a,b,c⟩|⟨a,b⟩<;>omega
    have hgl:Ln (Int.gcd x y:Int)≤jn:=by
     have:=dA (Nat.gcd_le_right x.natAbs hy)
     have h7:(aF y.natAbs).length≤jn:=hf.2
     show (aF (Nat.gcd x.natAbs y.natAbs)).length≤_
     omega
    simp only
    rw[Hp hgl (Nat.le_trans (Hq (by decide)) (by decide)),Option.bind_some,h5,h6,hys,h3]
    have hg:Nat.gcd x.natAbs y.natAbs=Int.gcd x y:=rfl
    congr 1
    unfold kW
    by_cases h:Int.gcd x y=1
    ·rw[decide_eq_true (hg.trans h),h];rfl
    ·have h1:¬((Int.gcd x y:Nat):Int)=1:=by omega
     rw[decide_eq_false (fun h'=>h (hg.symm.trans h'))]
     split
     ·rfl
     ·rw[if_pos (by omega)];rfl
   ·have h4:((eQ y).ah==1)=false:=by rw[hys];simpa using h3
    rw[if_pos (by rw[hys];have:=oU y;simp;omega),h4]
    rfl
  ·simp only[h2,Bool.not_false,if_true,Option.bind_some,Bool.false_and]
 ·simp only[h1,Bool.not_false,if_true,Option.bind_some,Bool.false_and]
theorem XN {p q:Int} (hp:Ln p≤jj) (hq:Ln q≤jj) (h0:q≠0):qY (eQ p) (eQ q)=some (wO (Rat.divInt p q),0):=by
 have hL:jj=4398046511104:=rfl
 have main:∀ {p q:Int},Ln p≤jj→Ln q≤jj→0<q →
   ((nn (eQ p) (eQ q)).bind fun r6=>(lX (eQ p) r6.1).bind fun r7=>(lX (eQ q) r6.1).bind fun r8=>some ((aT.mk r7.1 r8.1),(0:Int)))=some (wO (Rat.divInt p q),0):=by
  intro p q hp hq h0
  have hg:0<Int.gcd p q:=Int.gcd_pos_of_ne_zero_right _ (by omega)
  have hgl:Ln (Int.gcd p q:Int)≤jj:=by
   have:=dA (Nat.gcd_le_right p.natAbs (show 0<q.natAbs by omega))
   show (aF (Nat.gcd p.natAbs q.natAbs)).length≤_
   have h7:(aF q.natAbs).length≤jj:=hq
   omega
  rw[V8 (vQ hp) (vQ hq),Option.bind_some]
  simp only
  rw[V7 hp hgl (by omega) (Int.gcd_dvd_left ..),Option.bind_some,V7 hq hgl (by omega) (Int.gcd_dvd_right ..),Option.bind_some]
  have hd:((q.natAbs / Int.gcd p q:Nat):Int)=q / (Int.gcd p q:Int):=by
   rw[Int.natCast_ediv]
   congr 1
   omega
  unfold wO
  rw[Rat.num_divInt,Rat.den_divInt,if_neg (by omega),Int.sign_eq_one_of_pos h0,Int.one_mul,Int.gcd_comm q p,hd]
 unfold qY
 rw[gA (by omega),Option.bind_some]
 simp only[Bool.not_true,Bool.false_eq_true,if_false]
 rw[gA (by omega),Option.bind_some,Option.bind_some]
 simp only[Bool.not_true,Bool.false_eq_true,if_false]
 have hqs:(eQ q).ah=q.sign:=rfl
 rw[hqs]
 rcases fV q with⟨a,b,c⟩|⟨a,b,c⟩|⟨a,b⟩
 ·rw[if_neg (by rw[a];decide),if_neg (by rw[a];decide),Option.bind_some]
  exact main hp hq c
 ·rw[if_neg (by rw[a];decide),if_pos (by rw[a];decide),Wc hp,Option.bind_some,Wc hq,Option.bind_some,Option.bind_some]
  have:=main (p := -p) (q := -q) (by rw[Qh];exact hp) (by rw[Qh];exact hq) (by omega)
  rw[Rat.neg_divInt_neg]at this
  exact this
 ·exact absurd b h0
theorem Qg {x:Int} (h : -9223372036854775808≤x∧x<9223372036854775808):Ln x≤jj:=by
 have:Ln x≤4:=MP (by rw[X5];omega)
 have hL:jj=4398046511104:=rfl
 omega
theorem Yx {p q:Int} (hp : -9223372036854775808≤p∧p<9223372036854775808) (hq : -9223372036854775808≤q∧q<9223372036854775808) (h0:q≠0):vH p q=some (wO (Rat.divInt p q),0):=by
 unfold vH
 rw[XO hp,Option.bind_some,XO hq,Option.bind_some,XN (Qg hp) (Qg hq) h0,Option.bind_some]
theorem XM {n:Int} (h : -9223372036854775808≤n∧n<9223372036854775808):nw n=some (wO n):=by
 unfold nw
 rw[Yx h (by decide) (by decide),Option.bind_some]
 simp only
 congr 2
 have:=Rat.num_divInt_den (n:Rat)
 rw[Rat.num_intCast,Rat.den_intCast]at this
 exact this
theorem Wp (f:aT) (n:Int):oQ f n=some (decide ((f.cu.aa.length:Int)≤n∧(f.ct.aa.length:Int)≤n)):=by
 unfold oQ
 by_cases h:(f.cu.aa.length:Int)≤n
 ·rw[if_pos (by simpa using h)];simp[h]
 ·rw[if_neg (by simpa using h)];simp[h]
end Go.Proofs.YtpkahnkoecbndaaGreatDoor.P
namespace Go.Proofs.YtpkahnkoecbndaaGreatDoor.P
open Go.RowKit T
set_option linter.unusedSimpArgs false
set_option linter.unusedVariables false
theorem least {Q:Nat→Prop} : ∀n,Q n→∃m,m≤n∧Q m∧∀j,j<m→¬Q j:=by
 intro n
 induction n using Nat.strongRecOn with
 | _ n ih =>
  intro hn
  by_cases h:∃j,j<n∧Q j
  ·obtain⟨j,h1,h2⟩:=h
   obtain⟨m,m1,m2⟩:=ih j h1 h2
   exact⟨m,by omega,m2⟩
  ·exact⟨n,Nat.le_refl _,hn,fun j hj hq=>h ⟨j,hj,hq⟩⟩
theorem allI {α ρ:Type} (l:List α) {body:Int→Option (Int⊕(Unit⊕ρ))} (p:Nat→α→Prop) (bad:ρ) [∀i x,Decidable (p i x)] (hlen:l.length<4611686018427387904)
  (hb:∀(i:Nat) x,l[i]? = some x→(∀j y,j<i→l[j]? = some y→p j y)→body (i:Int)=some (if p i x then .inl ((i+1:Nat):Int) else .inr (.inr bad))) (he:body (l.length:Int)=some (.inr (.inl ()))) :
  (∃h:(∀i x,l[i]? = some x→p i x),aW body 0=some (.inl ()))∨(∃h:¬(∀i x,l[i]? = some x→p i x),aW body 0=some (.inr bad)):=by
 by_cases hall:∀i x,l[i]? = some x→p i x
 ·refine .inl ⟨hall,FK l.length (fun i=>(i:Int)) hlen (fun i hi =>?_) he⟩
  rw[hb i l[i] (List.getElem?_eq_getElem hi) (fun j y _ hj=>hall j y hj),if_pos (hall i _ (List.getElem?_eq_getElem hi))]
 ·have:∃n x,l[n]? = some x∧¬p n x:=by
   refine Classical.byContradiction fun hc=>hall fun i x hx=>Classical.byContradiction fun hp=>hc ⟨i,x,hx,hp⟩
  obtain⟨n,hn⟩:=this
  obtain⟨m,-,⟨x,hx,hp⟩,hm⟩:=least (Q:=fun n=>∃x,l[n]? = some x∧¬p n x) n hn
  have hbefore:∀j y,j<m→l[j]? = some y→p j y:=fun j y hj hy=>Classical.byContradiction fun hq=>hm j hj ⟨y,hy,hq⟩
  have hml:=(List.getElem?_eq_some_iff.1 hx).1
  refine .inr ⟨hall,FK m (fun i=>(i:Int)) (by omega) (fun i hi =>?_) ?_⟩
  ·have hil:i<l.length:=by omega
   rw[hb i l[i] (List.getElem?_eq_getElem hil) (fun j y hj hy=>hbefore j y (by omega) hy),if_pos (hbefore i _ hi (List.getElem?_eq_getElem hil))]
  ·rw[hb m x hx hbefore,if_neg hp]
theorem Nt {l:List Int} (h:l.length*8≤140737488351232):bo l=some l:=by
 unfold bo gC
 rw[if_pos ⟨by simp[maxLen];omega,by simp;omega⟩]
 rfl
theorem yo {l:List Int} (hl:l.length*8≤140737488351232):fK l=some (decide (¬l.Nodup)):=by
 have ht:=T.KL hl
 unfold iV jw bV Ah at ht
 simp only[Option.bind_some]at ht
 unfold xa at ht
 rw[if_pos hl]at ht
 simp only[Option.bind_some]at ht
 unfold fK jQ
 rw[Nt hl]
 simp only[Option.bind_some]
 rw[if_pos (by omega)]
 exact ht
theorem has_eq (v:aw) (i:Int):kS v i=some (decide (0≤i∧i<v.ag.length)):=by
 unfold kS
 by_cases h:0≤i
 ·rw[if_pos (by simpa using h)];simp[h]
 ·rw[if_neg (by simpa using h)];simp[h]
def u7 (l:List aj) (path:List Int) (i:Nat) (a:Int):Prop:=(0≤a∧a<l.length)∧(i=0∨∃p x,path[i-1]? = some p∧P.idx l p=some x∧(x.bk=a∨x.bd=a))
def lB (l:List aj) (path:List Int):Prop:=df l∧path≠[]∧∀i a,path[i]? = some a→u7 l path i a
theorem sW {α:Type} {l:List α} {i:Int} {x:α} (h:P.idx l i=some x):0≤i∧i<l.length:=by
 unfold P.idx at h
 split at h
 ·assumption
 ·cases h
theorem Lw {α:Type} {l:List α} {i:Int} {x:α} (h:P.idx l i=some x):l[i.toNat]? = some x:=by
 unfold P.idx at h
 split at h
 ·exact h
 ·cases h
theorem Lx {α:Type} {l:List α} {i:Int} (h:0≤i∧i<l.length):∃x,P.idx l i=some x:=by
 refine⟨l[i.toNat]'(by omega),sX h.1 ?_⟩
 exact List.getElem?_eq_getElem _
theorem Jh {path:List Int} (hl:path.length<4611686018427387904):P.idx path (IntKind.i64.wrap ((path.length:Int)-1))=path.getLast?:=by
 cases path with
 | nil=>rfl
 | cons a l =>
  have:IntKind.i64.wrap (((a::l).length:Int)-1)=((l.length:Nat):Int):=by
   rw[List.length_cons]at hl ⊢
   rw[wrap64 (by omega) (by omega)]
   omega
  rw[this,List.getLast?_eq_getElem?,bu (List.getElem?_eq_getElem (show l.length<(a::l).length by simp))]
  simp
open Classical in
theorem Tc {l:List aj} {path:List Int} (hl:path.length<4611686018427387904):jT ⟨l⟩ path=some (decide (lB l path)):=by
 unfold jT
 obtain⟨b,hb,hs⟩:=T.lY ⟨l⟩
 rw[hb]
 simp only[Option.bind_some]
 cases b with
 | false =>
  have:¬df l:=fun h=>absurd (hs.2 h) (by simp)
  simp[lB,this]
 | true =>
  have hsd:=hs.1 rfl
  by_cases hp:path=[]
  ·subst hp;simp[lB]
  ·have:¬((path.length:Int)==0)=true:=by
    have:path.length≠0:=fun h=>hp (List.eq_nil_of_length_eq_zero h)
    simp;exact hp
   simp only[Bool.not_true,Bool.false_eq_true,if_false,Option.bind_some]
   rw[if_neg this]
   have hloop:=allI path (body:=jA ⟨l⟩ path) (u7 l path) false hl (fun i a ha hbef=>by
    have hi:=(List.getElem?_eq_some_iff.1 ha).1
    simp only[jA]
    rw[if_pos (by simp;omega),bu ha]
    simp only[Option.bind_some,has_eq]
    by_cases hin:0≤a∧a<l.length
    ·have hd:decide (0≤a∧a<(({ ag:=l } : aw).ag.length:Int))=true:=decide_eq_true hin
     simp only[hd,Bool.not_true,Bool.false_eq_true,if_false]
     cases i with
     | zero =>
      rw[if_neg (by simp),if_pos (show u7 l path 0 a from ⟨hin,.inl rfl⟩)]
      congr 2
     | succ i =>
      have hw:IntKind.i64.wrap (((i+1:Nat):Int)-1)=(i:Int):=by rw[wrap64 (by omega) (by omega)];omega
      have hpi:path[i]? = some (path[i]'(by omega)):=List.getElem?_eq_getElem _
      have hst:=hbef i _ (by omega) hpi
      obtain⟨x,hx⟩:=Lx hst.1
      rw[if_pos (by simp),hw,bu hpi]
      simp only[Option.bind_some,hx]
      have hiff:u7 l path (i+1) a↔(x.bk=a∨x.bd=a):=by
       constructor
       ·rintro⟨-,h|⟨p,y,h1,h2,h3⟩⟩
        ·omega
        ·simp only[Nat.add_sub_cancel]at h1
         rw[hpi]at h1;cases h1
         rw[hx]at h2;cases h2
         exact h3
       ·exact fun h=>⟨hin,.inr ⟨_,x,hpi,hx,h⟩⟩
      have hw2:IntKind.i64.wrap (((i+1:Nat):Int)+1)=((i+1+1:Nat):Int):=cm (by omega)
      by_cases h1:x.bk=a
      ·rw[if_neg (by simp[h1]),if_pos (hiff.2 (.inl h1)),hw2]
      ·rw[if_pos (by simp[h1])]
       by_cases h2:x.bd=a
       ·rw[if_neg (by simp[h2]),if_pos (hiff.2 (.inr h2)),hw2]
       ·rw[if_pos (by simp[h2]),if_neg (fun h=>(hiff.1 h).elim h1 h2)]
    ·have hd:decide (0≤a∧a<(({ ag:=l } : aw).ag.length:Int))=false:=decide_eq_false hin
     simp only[hd,Bool.not_false,if_true]
     rw[if_neg (fun h:u7 l path i a=>hin h.1)]) (by simp only[jA];rw[if_neg (by simp)])
   rcases hloop with⟨h,he⟩|⟨h,he⟩
   ·rw[he];simp only[Option.bind_some];rw[decide_eq_true (show lB l path from ⟨hsd,hp,h⟩)]
   ·rw[he];simp only[Option.bind_some];rw[decide_eq_false (fun hw:lB l path=>h hw.2.2)]
def F1 (l:List aj) (path:List Int) (total blind:Int) (text:ByteArray) (value own:Int):Prop :=
 lB l path∧∃a b x y,path.head? = some a∧path.getLast? = some b∧P.idx l a=some x∧P.idx l b=some y∧x.aE=total∧x.aH=blind∧y.bk = -1∧kF l b text value own
theorem MI {l:List aj} {path:List Int} (h:lB l path):∃a b x y,path.head? = some a∧path.getLast? = some b∧P.idx l a=some x∧P.idx l b=some y:=by
 obtain⟨-,h1,h2⟩:=h
 have hpos:0<path.length:=List.length_pos_iff.2 h1
 have ha:path[0]? = some path[0]:=List.getElem?_eq_getElem hpos
 have hb:path[path.length-1]? = some (path[path.length-1]'(by omega)):=List.getElem?_eq_getElem _
 obtain⟨x,hx⟩:=Lx (h2 _ _ ha).1
 obtain⟨y,hy⟩:=Lx (h2 _ _ hb).1
 exact⟨_,_,x,y,by rw[List.head?_eq_getElem?];exact ha,by rw[List.getLast?_eq_getElem?];exact hb,hx,hy⟩
theorem I0 (path:List Int):P.idx path 0=path.head?:=by
 cases path with
 | nil=>rfl
 | cons a l=>exact sX (by omega) (by simp)
open Classical in
theorem QQ {l:List aj} {path:List Int} (hl:path.length<4611686018427387904) (total blind:Int) (text:ByteArray) (value own:Int):jR ⟨l⟩ path total blind text value own=some (decide (F1 l path total blind text value own)):=by
 unfold jR
 rw[Tc hl]
 simp only[Option.bind_some]
 by_cases hw:lB l path
 ·rw[if_neg (by simp[hw])]
  obtain⟨a,b,x,y,ha,hb,hx,hy⟩:=MI hw
  rw[I0,Jh hl,ha,hb]
  simp only[Option.bind_some,hx]
  have hiff:F1 l path total blind text value own↔x.aE=total∧x.aH=blind∧y.bk = -1∧kF l b text value own:=by
   constructor
   ·rintro⟨-,a',b',x',y',h1,h2,h3,h4,h5⟩
    rw[ha]at h1;cases h1
    rw[hb]at h2;cases h2
    rw[hx]at h3;cases h3
    rw[hy]at h4;cases h4
    exact h5
   ·exact fun h=>⟨hw,a,b,x,y,ha,hb,hx,hy,h⟩
  by_cases h1:x.aE=total
  ·rw[if_pos (by simp[h1])]
   by_cases h2:x.aH=blind
   ·rw[if_pos (by simp[h2]),hy]
    simp only[Option.bind_some,fk]
    by_cases h3:y.bk = -1
    ·rw[if_pos (by simp[h3]),T.Hr]
     simp only[Option.bind_some]
     congr 1
     rw[decide_eq_decide,hiff]
     exact⟨fun h=>⟨h1,h2,h3,h⟩,fun h=>h.2.2.2⟩
    ·rw[if_neg (by simp[h3]),decide_eq_false (fun h=>h3 (hiff.1 h).2.2.1)]
   ·rw[if_neg (by simp[h2]),decide_eq_false (fun h=>h2 (hiff.1 h).2.1)]
  ·rw[if_neg (by simp[h1]),decide_eq_false (fun h=>h1 (hiff.1 h).1)]
 ·rw[if_pos (by simp[hw]),decide_eq_false (fun h:F1 l path total blind text value own=>hw h.1)]
def tz (l:List aj) (root total blind:Int) (x:aL):Prop:=x.dD.head? = some root∧x.dD.getLast? = some x.ck∧F1 l x.dD total blind x.cD x.aE x.aH
open Classical in
theorem Sh {l:List aj} {root total blind:Int} {x:aL} (hl:x.dD.length<4611686018427387904):dW ⟨⟨l⟩,root,total,blind⟩ x=some (decide (tz l root total blind x)):=by
 unfold dW
 by_cases hp:x.dD=[]
 ·rw[if_neg (by simp[hp]),decide_eq_false (fun h:tz l root total blind x=>by have:=h.1;rw[hp]at this;cases this)]
 ·have hpos:0<x.dD.length:=List.length_pos_iff.2 hp
  rw[if_pos (by simp;omega),I0]
  obtain⟨a,ha⟩:∃a,x.dD.head? = some a:=by cases h:x.dD with|nil=>exact absurd h hp|cons a l=>exact⟨a,rfl⟩
  obtain⟨b,hb⟩:∃b,x.dD.getLast? = some b:=⟨_,List.getLast?_eq_some_getLast hp⟩
  rw[ha]
  simp only[Option.bind_some]
  by_cases h1:a=root
  ·rw[if_pos (by simp[h1]),Jh hl,hb]
   simp only[Option.bind_some]
   by_cases h2:b=x.ck
   ·rw[if_pos (by simp[h2]),QQ hl]
    simp only[Option.bind_some]
    congr 1
    rw[decide_eq_decide]
    exact⟨fun h=>⟨by rw[ha,h1],by rw[hb,h2],h⟩,fun h=>h.2.2⟩
   ·rw[if_neg (by simp[h2]),decide_eq_false (fun h:tz l root total blind x=>h2 (by have:=h.2.1;rw[hb]at this;exact Option.some.inj this))]
  ·rw[if_neg (by simp[h1]),decide_eq_false (fun h:tz l root total blind x=>h1 (by have:=h.1;rw[ha]at this;exact Option.some.inj this))]
theorem Wb {x y:Int} (hx:Ln x≤jj) (hy:Ln y≤jj):uf (eQ x) (eQ y)=some (eQ (x*y),0):=by
 have hL:jj=4398046511104:=rfl
 have hLa:=xB x y
 unfold uf
 rw[gA (by omega),Option.bind_some]
 simp only[Bool.not_true,Bool.false_eq_true,if_false]
 rw[gA (by omega),Option.bind_some,Option.bind_some]
 simp only[Bool.not_true,Bool.false_eq_true,if_false]
 have hxd:(eQ x).aa=aF x.natAbs:=rfl
 have hyd:(eQ y).aa=aF y.natAbs:=rfl
 have hxs:(eQ x).ah=x.sign:=rfl
 have hys:(eQ y).ah=y.sign:=rfl
 rw[hxd,hyd,hxs,hys]
 have fx:(aF x.natAbs).length≤4398046511104:=by show Ln x≤_;omega
 have fy:(aF y.natAbs).length≤4398046511104:=by show Ln y≤_;omega
 have hw:IntKind.i64.wrap (x.sign*y.sign)=(x*y).sign:=by
  rw[Int.sign_mul]
  apply iC
  rcases oU x with h|h|h<;>rcases oU y with g|g|g<;>rw[h,g]<;>decide
 rw[hw,Mz (cz _) (cz _) (by omega),Option.bind_some,bC,bC]
 have hn:((x.natAbs:Int)*y.natAbs).toNat=(x*y).natAbs:=by rw[Int.natAbs_mul,← Int.natCast_mul];rfl
 rw[hn,vA (x:=x*y) rfl (fun _=>rfl) (fun _=>by show Ln (x*y)≤_;omega),Option.bind_some]
theorem Ai {a b:Rat} (h:LF a+LF b≤jj):mh (wO a) (wO b)=some (OW a b):=by
 have n1:=FV a
 have n2:=FV b
 have d1:=FT a
 have d2:=FT b
 have m1:=xB a.num b.den
 have m2:=xB b.num a.den
 have hL:jj=4398046511104:=rfl
 have hB:jn=17592186043904:=rfl
 unfold mh
 rw[As (zW (by omega)),xX,Option.bind_some]
 simp only[Bool.not_true,Bool.false_eq_true,if_false]
 rw[As (zW (by omega)),xX,Option.bind_some,Option.bind_some]
 simp only[Bool.not_true,Bool.false_eq_true,if_false]
 show (uf (eQ a.num) (eQ b.den)).bind _=_
 rw[Wb (by omega) (by omega),Option.bind_some]
 show (uf (eQ b.num) (eQ a.den)).bind _=_
 rw[Wb (by omega) (by omega),Option.bind_some]
 show (mc (eQ (a.num*b.den)) (eQ (b.num*a.den))).bind _=_
 rw[Hp (by omega) (by omega),Option.bind_some,Nu]
def pd (f:aT):Prop:=f.cu.aa.length≤4∧f.ct.aa.length≤4
def tA (s:cr):Prop:=pd s.bn∧pd s.aM
theorem pd.fit {f:aT} (h:pd f):OQ f:=by
 have hB:jn=17592186043904:=rfl
 exact⟨by have:=h.1;omega,by have:=h.2;omega⟩
theorem pd.LF {q:Rat} (h:pd (wO q)):LF q≤4:=by
 have h1:Ln q.num≤4:=h.1
 have h2:Ln q.den≤4:=h.2
 unfold P.LF
 omega
theorem Vb {n:Int} (h : -9223372036854775808≤n∧n<9223372036854775808):LF (n:Rat)≤5:=by
 have h1:Ln n≤5:=MP (by
  have:pw 5=1267650600228229401496703205376:=by decide
  omega)
 have h2:=Hq (x:=((1:Nat):Int)) (by decide)
 unfold P.LF
 rw[Rat.num_intCast,Rat.den_intCast]
 omega
theorem K7 {a b:Rat} : decide (OW a b≤0)=decide (a≤b):=by
 unfold OW
 rw[decide_eq_decide]
 by_cases h1:a<b
 ·rw[if_pos h1];simp only[Int.reduceNeg,Int.reduceLE,true_iff];exact Rat.le_of_lt h1
 ·rw[if_neg h1]
  by_cases h2:b<a
  ·rw[if_pos h2];simp only[Int.reduceLE,false_iff];exact fun h=>absurd h2 (Rat.not_lt.2 h)
  ·rw[if_neg h2];simp only[Int.le_refl,true_iff];exact Rat.not_lt.1 h2
def sR (s:cr):Bool:=(fE s).getD false
def sH (s:cr) (n:Int):Bool:=(jx s (wO n)).getD false
def XE (s:cr) (a b:Rat):Prop:=s.bn=wO a∧s.aM=wO b∧a≤b
theorem ym {s:cr} (h:tA s):fE s=some (sR s)∧uh s=some (sR s)∧(sR s=true↔∃a b,XE s a b):=by
 have hL:jj=4398046511104:=rfl
 have key:∃c,fE s=some c∧uh s=some c∧(c=true↔∃a b,XE s a b):=by
  unfold fE uh
  rw[sq h.1.fit,As h.1.fit]
  simp only[Option.bind_some]
  cases h1:okF s.bn with
  | false =>
   refine⟨false,by simp,by simp,by simp only[Bool.false_eq_true,false_iff];rintro⟨a,b,e,-⟩;rw[e,xX]at h1;cases h1⟩
  | true =>
   simp only[if_true]
   rw[sq h.2.fit,As h.2.fit]
   simp only[Option.bind_some]
   cases h2:okF s.aM with
   | false =>
    refine⟨false,by simp,by simp,by simp only[Bool.false_eq_true,false_iff];rintro⟨a,b,-,e,-⟩;rw[e,xX]at h2;cases h2⟩
   | true =>
    obtain⟨a,ha⟩:=GQ.1 h1
    obtain⟨b,hb⟩:=GQ.1 h2
    have la:=pd.LF (ha ▸ h.1)
    have lb:=pd.LF (hb ▸ h.2)
    simp only[if_true]
    rw[ha,hb,xm (by omega),Ai (by omega)]
    simp only[Option.bind_some,K7]
    refine⟨_,rfl,rfl,?_⟩
    rw[decide_eq_true_eq]
    constructor
    ·exact fun hle=>⟨a,b,ha,hb,hle⟩
    ·rintro⟨a',b',e1,e2,e3⟩
     rw[Ac (ha.symm.trans e1),Ac (hb.symm.trans e2)]
     exact e3
 obtain⟨c,h1,h2,h3⟩:=key
 have:sR s=c:=by unfold sR;rw[h1];rfl
 rw[this]
 exact⟨h1,h2,h3⟩
theorem Oc {s:cr} (h:tA s) {n:Int} (hn : -9223372036854775808≤n∧n<9223372036854775808):jx s (wO n)=some (sH s n)∧G9 s (wO n)=some (sH s n)∧(sH s n=true↔∃a b,XE s a b∧a≤n∧(n:Rat)≤b):=by
 have hL:jj=4398046511104:=rfl
 have hB:jn=17592186043904:=rfl
 obtain⟨r1,r2,r3⟩:=ym h
 have ln:=Vb hn
 have key:∃c,jx s (wO n)=some c∧G9 s (wO n)=some c∧(c=true↔∃a b,XE s a b∧a≤n∧(n:Rat)≤b):=by
  unfold jx G9
  rw[r1,r2]
  simp only[Option.bind_some]
  cases hr:sR s with
  | false =>
   refine⟨false,by simp,by simp,by simp only[Bool.false_eq_true,false_iff];rintro⟨a,b,hi,-⟩;have:=r3.2 ⟨a,b,hi⟩;rw[hr]at this;cases this⟩
  | true =>
   obtain⟨a,b,ha,hb,hle⟩:=r3.1 hr
   have la:=pd.LF (ha ▸ h.1)
   have lb:=pd.LF (hb ▸ h.2)
   simp only[if_true]
   rw[Au (by omega),As (zW (by omega)),xX]
   simp only[Option.bind_some,if_true]
   rw[ha,hb,xm (by omega),Ai (by omega)]
   simp only[Option.bind_some,K7]
   by_cases h1:a≤n
   ·simp only[h1,decide_true,if_true]
    rw[xm (by omega),Ai (by omega)]
    simp only[Option.bind_some,K7]
    refine⟨_,rfl,rfl,?_⟩
    rw[decide_eq_true_eq]
    constructor
    ·exact fun h2=>⟨a,b,⟨ha,hb,hle⟩,h1,h2⟩
    ·rintro⟨a',b',⟨e1,e2,-⟩,-,e3⟩
     rw[Ac (hb.symm.trans e2)]
     exact e3
   ·simp only[h1,decide_false,Bool.false_eq_true,if_false]
    refine⟨false,rfl,rfl,?_⟩
    simp only[Bool.false_eq_true,false_iff]
    rintro⟨a',b',⟨e1,-⟩,e3,-⟩
    rw[← Ac (ha.symm.trans e1)]at e3
    exact h1 e3
 obtain⟨c,h1,h2,h3⟩:=key
 have:sH s n=c:=by unfold sH;rw[h1];rfl
 rw[this]
 exact⟨h1,h2,h3⟩
theorem Wn (s:cr):∃b,qZ s 4=some b∧(b=true↔tA s):=by
 unfold qZ
 rw[Wp]
 simp only[Option.bind_some]
 by_cases h:((s.bn.cu.aa.length:Int)≤4∧(s.bn.ct.aa.length:Int)≤4)
 ·rw[if_pos (by simp[h]),Wp]
  refine⟨_,rfl,?_⟩
  rw[decide_eq_true_eq]
  exact⟨fun h2=>⟨⟨by omega,by omega⟩,⟨by omega,by omega⟩⟩,fun h2=>⟨by have:=h2.2.1;omega,by have:=h2.2.2;omega⟩⟩
 ·rw[if_neg (by simpa using h)]
  refine⟨false,rfl,?_⟩
  simp only[Bool.false_eq_true,false_iff]
  exact fun h2=>h ⟨by have:=h2.1.1;omega,by have:=h2.1.2;omega⟩
theorem qz {α:Type} (q:α→Bool):∀(l:List α) (k:Nat),(l.find? q=none∧gw (fun i x=>if q x then some ((i:Nat):Int) else none) k l=none)∨∃(j:Nat) (x:α),l.find? q=some x∧l[j]? = some x∧gw (fun i x=>if q x then some ((i:Nat):Int) else none) k l=some ((k+j:Nat):Int)
 | [],k =>.inl ⟨rfl,rfl⟩
 | x::l,k=>by
  by_cases h:q x=true
  ·refine .inr ⟨0,x,by simp[h],rfl,?_⟩
   simp only[gw]
   rw[if_pos h]
   rfl
  ·have hf:(x::l).find? q=l.find? q:=by rw[List.find?_cons_of_neg h]
   have hs:gw (fun i x=>if q x then some ((i:Nat):Int) else none) k (x::l)=gw (fun i x=>if q x then some ((i:Nat):Int) else none) (k+1) l:=by
    simp only[gw]
    rw[if_neg h]
   rw[hf,hs]
   rcases qz q l (k+1) with h1|⟨j,y,h1,h2,h3⟩
   ·exact .inl h1
   ·exact .inr ⟨j+1,y,h1,by simpa using h2,by rw[h3];congr 2;omega⟩
theorem Ru {ops:List aL} (hl:ops.length<4611686018427387904) (leaf:Int):a7 ops leaf=some (match gw (fun i x=>if (x.ck==leaf:Bool) then some ((i:Nat):Int) else none) 0 ops with|none => -1|some r=>r):=by
 unfold a7
 rw[Kv ops (fun i x=>if (x.ck==leaf:Bool) then some ((i:Nat):Int) else none) hl (fun i x hx=>by
  have hi:=(List.getElem?_eq_some_iff.1 hx).1
  simp only[b6,dM]
  rw[if_pos (by simp;omega),bu hx]
  simp only[Option.bind_some]
  by_cases h:(x.ck==leaf)=true
  ·rw[if_pos h,if_pos h]
  ·rw[if_neg h,if_neg h,cm (by omega)]) (by simp only[b6];rw[if_neg (by simp)])]
 simp only[Option.bind_some]
 split<;>rename_i h<;>split at h<;>simp_all
def off (ms:List aB) (leaf value:Int):Bool:=ms.any fun m=>m.ck==leaf && !sH m.bG value
def RL (ms:List aB):Prop:=ms.length<4611686018427387904∧∀m∈ms,tA m.bG
theorem contains_eq {ms:List aB} (h:RL ms) (leaf:Int) {value:Int} (hv : -9223372036854775808≤value∧value<9223372036854775808):a6 ms leaf (wO value)=some (off ms leaf value):=by
 unfold a6 bA
 rw[Kv ms (fun i m=>if (m.ck==leaf && !sH m.bG value:Bool) then some ((i:Nat):Int) else none) h.1 (fun i x hx=>by
  have hi:=(List.getElem?_eq_some_iff.1 hx).1
  have:=h.1
  simp only[cd,dN]
  rw[if_pos (by simp;omega),bu hx]
  simp only[Option.bind_some]
  rw[(Oc (h.2 x (List.mem_of_getElem? hx)) hv).1]
  by_cases h1:(x.ck==leaf)=true
  ·simp only[h1,if_true,Option.bind_some,Bool.true_and]
   cases sH x.bG value<;>simp[cm (show i<4611686018427387904 by omega)]
  ·simp only[h1,Bool.false_eq_true,if_false,Option.bind_some,Bool.false_and]
   rw[cm (by omega)]) (by simp only[cd];rw[if_neg (by simp)])]
 simp only[Option.bind_some]
 rcases qz (fun m:aB=>m.ck==leaf && !sH m.bG value) ms 0 with⟨h1,h2⟩|⟨j,x,h1,h2,h3⟩
 ·rw[h2]
  simp only[Option.bind_some]
  have:off ms leaf value=false:=by
   unfold off
   rw[List.any_eq_false]
   intro m hm
   have:=List.find?_eq_none.1 h1 m hm
   simpa using this
  rw[this];rfl
 ·rw[h3]
  simp only[Option.bind_some]
  have:off ms leaf value=true:=by
   unfold off
   rw[List.any_eq_true]
   exact⟨x,List.mem_of_getElem? h2,by simpa using List.find?_some h1⟩
  rw[this]
  congr 1
open Classical in
noncomputable def oR (l:List aj) (root total blind leaf:Int) (ops:List aL) (ms:List aB):Int :=
 match ops.find? fun x=>x.ck==leaf with
 | none=>0
 | some x=>if tz l root total blind x then (if off ms leaf x.aE then 2 else -1) else 1
def R0 (ops:List aL):Prop:=ops.length<4611686018427387904∧∀x∈ops,x.dD.length<4611686018427387904 ∧ -9223372036854775808≤x.aE∧x.aE<9223372036854775808
theorem PN {ops:List aL} {ms:List aB} (ho:R0 ops) (hm:RL ms) (l:List aj) (root total blind leaf:Int):dL ⟨⟨l⟩,root,total,blind⟩ leaf ops ms=some (oR l root total blind leaf ops ms):=by
 unfold dL oR
 rw[Ru ho.1]
 simp only[Option.bind_some]
 rcases qz (fun x:aL=>x.ck==leaf) ops 0 with⟨h1,h2⟩|⟨j,x,h1,h2,h3⟩
 ·rw[h2,h1];rfl
 ·rw[h3,h1]
  have hox:=ho.2 x (List.mem_of_getElem? h2)
  simp only[Nat.zero_add]
  rw[if_neg (by simp),bu h2]
  simp only[Option.bind_some]
  rw[Sh hox.1]
  simp only[Option.bind_some]
  by_cases hs:tz l root total blind x
  ·rw[if_neg (by simp[hs]),if_pos hs,V9 hox.2]
   simp only[Option.bind_some]
   rw[contains_eq hm leaf hox.2]
   simp only[Option.bind_some]
   cases off ms leaf x.aE<;>rfl
  ·rw[if_pos (by simp[hs]),if_neg hs]
noncomputable def sQ (l:List aj) (root total blind:Int) (ops:List aL) (ms:List aB) (leaf:Int):Option bg :=
 if oR l root total blind leaf ops ms = -1 then none else some ⟨leaf,oR l root total blind leaf ops ms⟩
open Classical in
noncomputable def LA (l:List aj) (root total blind:Int) (asked:List Int) (ops:List aL) (ms:List aB):List bg×Int :=
 if df l∧0≤root∧root<l.length then (if ms.all fun m=>sR m.bG then (if asked.Nodup then (asked.filterMap (sQ l root total blind ops ms),0) else ([],5)) else ([],1)) else ([],1)
theorem Bu {α β:Type} (f:α→Option β) {l:List α} {i:Nat} {x:α} (h:l[i]? = some x):(l.take (i+1)).filterMap f=(l.take i).filterMap f++(f x).toList:=by
 obtain⟨hi,rfl⟩:=List.getElem?_eq_some_iff.1 h
 rw[List.take_succ_eq_append_getElem hi,List.filterMap_append]
 congr 1
theorem PO {ms:List aB} (h:RL ms):aD ms=some (!(ms.all fun m=>sR m.bG)):=by
 unfold aD ca
 rw[Kv ms (fun i m=>if (!sR m.bG:Bool) then some ((i:Nat):Int) else none) h.1 (fun i x hx=>by
  have hi:=(List.getElem?_eq_some_iff.1 hx).1
  have:=h.1
  simp only[cM,ie]
  rw[if_pos (by simp;omega),bu hx]
  simp only[Option.bind_some]
  rw[(ym (h.2 x (List.mem_of_getElem? hx))).1]
  simp only[Option.bind_some]
  cases sR x.bG<;>simp[cm (show i<4611686018427387904 by omega)]) (by simp only[cM];rw[if_neg (by simp)])]
 simp only[Option.bind_some]
 rcases qz (fun m:aB => !sR m.bG) ms 0 with⟨h1,h2⟩|⟨j,x,h1,h2,h3⟩
 ·rw[h2]
  have:(ms.all fun m=>sR m.bG)=true:=by
   rw[List.all_eq_true]
   intro m hm
   have:=List.find?_eq_none.1 h1 m hm
   simpa using this
  rw[this];rfl
 ·rw[h3]
  have:(ms.all fun m=>sR m.bG)=false:=by
   rw[List.all_eq_false]
   exact⟨x,List.mem_of_getElem? h2,by simpa using List.find?_some h1⟩
  rw[this]
  simp
open Classical in
theorem Rx {ops:List aL} {ms:List aB} {asked:List Int} (ho:R0 ops) (hm:RL ms) (ha:asked.length≤1000000) (l:List aj) (root total blind:Int):ep ⟨l⟩ root total blind asked ops ms=some (LA l root total blind asked ops ms):=by
 unfold ep LA
 obtain⟨b,hb,hs⟩:=T.lY ⟨l⟩
 rw[hb]
 simp only[Option.bind_some]
 have hgo:∀c:Bool,(c=false↔(df l∧0≤root∧root<l.length))→(if c then some (([]:List bg),(1:Int)) else (aD ms).bind fun r4=>if r4 then some ([],1) else (fK asked).bind fun r6=>if r6 then some ([],5) else (aW (dV ⟨l⟩ root total blind asked ops ms) (0,[])).bind fun l17bx=>some (l17bx,0))=some (if df l∧0≤root∧root<l.length then (if ms.all fun m=>sR m.bG then (if asked.Nodup then (asked.filterMap (sQ l root total blind ops ms),0) else ([],5)) else ([],1)) else ([],1)):=by
  intro c hc
  cases c with
  | true =>
   rw[if_pos rfl,if_neg (fun h=>absurd (hc.2 h) (by simp))]
  | false =>
   rw[if_neg (by simp),if_pos (hc.1 rfl),PO hm]
   simp only[Option.bind_some]
   cases hall:ms.all fun m=>sR m.bG with
   | false=>simp
   | true =>
    simp only[Bool.not_true,Bool.false_eq_true,if_false,if_true]
    rw[yo (by omega)]
    simp only[Option.bind_some]
    by_cases hn:asked.Nodup
    ·rw[if_neg (by simp[hn]),if_pos hn]
     have hloop:=FK (body:=dV ⟨l⟩ root total blind asked ops ms) asked.length (fun i=>((i:Int),(asked.take i).filterMap (sQ l root total blind ops ms))) (r:=asked.filterMap (sQ l root total blind ops ms)) (by omega) (fun i hi=>by
      have hx:asked[i]? = some asked[i]:=List.getElem?_eq_getElem hi
      simp only[dV]
      rw[if_pos (by simp;omega),bu hx]
      simp only[Option.bind_some]
      rw[PN ho hm]
      simp only[Option.bind_some]
      rw[Bu _ hx]
      have hlen:((asked.take i).filterMap (sQ l root total blind ops ms)).length≤1000000-1:=by
       have h1:=List.length_filterMap_le (sQ l root total blind ops ms) (asked.take i)
       have h2:(asked.take i).length≤i:=by simp;omega
       omega
      by_cases hr:oR l root total blind asked[i] ops ms = -1
      ·rw[if_neg (by simp[hr])]
       simp only[sQ,hr,if_true,Option.toList_none,List.append_nil]
       rw[cm (by omega)]
      ·rw[if_pos (by simp[hr]),kq (by simp;omega) (by decide)]
       simp only[Option.bind_some]
       rw[show sQ l root total blind ops ms asked[i]=some ⟨asked[i],oR l root total blind asked[i] ops ms⟩ from if_neg hr,cm (by omega)]
       rfl) (by
      simp only[dV]
      rw[if_neg (by simp),List.take_length])
     have hloop':aW (dV ⟨l⟩ root total blind asked ops ms) (0,[])=some (asked.filterMap (sQ l root total blind ops ms)):=hloop
     rw[hloop']
     rfl
    ·rw[if_pos (by simp[hn]),if_neg hn]
 cases b with
 | false =>
  have:¬df l:=fun h=>absurd (hs.2 h) (by simp)
  exact hgo true ⟨fun h=>(by cases h),fun h=>absurd h.1 this⟩
 | true =>
  have hsd:=hs.1 rfl
  simp only[Bool.not_true,Bool.false_eq_true,if_false]
  by_cases h1:root<0
  ·rw[if_pos (by simp[h1])]
   exact hgo true ⟨fun h=>(by cases h),fun h=>(by omega)⟩
  ·rw[if_neg (by simp;omega)]
   refine hgo _ ?_
   rw[decide_eq_false_iff_not]
   exact⟨fun h=>⟨hsd,by omega,by omega⟩,fun h=>by omega⟩
theorem Bv (x y:bg):((x.ck==y.ck)&&(x.ky==y.ky))=true↔x=y:=by
 obtain⟨x1,x2⟩:=x
 obtain⟨y1,y2⟩:=y
 simp
open Classical in
theorem Sd {a b:List bg} (ha:a.length<4611686018427387904):mi a b=some (decide (a=b)):=by
 unfold mi
 by_cases hl:a.length=b.length
 ·rw[if_neg (by simp[hl])]
  have hloop:=allI a (body:=mj a b) (fun i x=>b[i]? = some x) false ha (fun i x hx _=>by
    have hi:=(List.getElem?_eq_some_iff.1 hx).1
    have hb:b[i]? = some (b[i]'(by omega)):=List.getElem?_eq_getElem _
    simp only[mj]
    rw[if_pos (by simp;omega),bu hx,bu hb]
    simp only[Option.bind_some]
    by_cases h:x=b[i]'(by omega)
    ·rw[if_neg (by rw[(Bv x _).2 h];decide),if_pos (by rw[hb,h]),cm (by omega)]
    ·have:((x.ck==(b[i]'(by omega)).ck)&&(x.ky==(b[i]'(by omega)).ky))=false:=by
      rw[Bool.eq_false_iff]
      exact fun hq=>h ((Bv _ _).1 hq)
     rw[this,if_pos (by decide),if_neg (fun hq=>h (by rw[hb]at hq;exact (Option.some.inj hq).symm))]) (by simp only[mj];rw[if_neg (by simp)])
  rcases hloop with⟨h,he⟩|⟨h,he⟩
  ·rw[he]
   simp only[Option.bind_some]
   have:a=b:=by
    apply List.ext_getElem hl
    intro i h1 h2
    have:=h i a[i] (List.getElem?_eq_getElem h1)
    rw[List.getElem?_eq_getElem h2]at this
    exact (Option.some.inj this).symm
   rw[decide_eq_true this]
  ·rw[he]
   simp only[Option.bind_some]
   have:¬a=b:=by
    rintro rfl
    exact h fun i x hx=>hx
   rw[decide_eq_false this]
 ·rw[if_pos (by simp;omega),decide_eq_false (fun h=>hl (by rw[h]))]
def Qa:List aj:=[⟨⟨#[97]⟩,30,7,-1,-1⟩,⟨⟨#[98]⟩,20,8,-1,-1⟩,⟨⟨#[99]⟩,10,9,-1,-1⟩,⟨⟨#[]⟩,50,15,0,1⟩,⟨⟨#[]⟩,60,24,3,2⟩]
theorem Re:gX ⟨[]⟩ [ByteArray.mk #[97],ByteArray.mk #[98],ByteArray.mk #[99]] [30,20,10] [7,8,9]=some (⟨Qa⟩,4,[0,1,2],0):=by kernel_rfl
def KT (n:Int):aT:=⟨⟨1,[n]⟩,⟨1,[1]⟩⟩
theorem Bt:gJ 19 21=some ⟨KT 19,KT 21⟩∧gJ 21 22=some ⟨KT 21,KT 22⟩:=⟨by kernel_rfl,by kernel_rfl⟩
def Yh (n:Int):List aL:=[⟨1,[4,3,1],⟨#[98]⟩,n,8⟩]
theorem IB:dh ⟨Qa⟩=some true:=by kernel_rfl
theorem IA {asked:List Int} {ops:List aL} {ms:List aB} {b:Bool} {out:List bg} (h1:aD ms=some false) (h2:asked.length≤10) (h3:b=decide (¬asked.Nodup)) (h4:b=false→aW (dV ⟨Qa⟩ 4 60 24 asked ops ms) (0,[])=some out):ep ⟨Qa⟩ 4 60 24 asked ops ms=some (if b then ([],5) else (out,0)):=by
 unfold ep
 rw[IB]
 simp only[Option.bind_some,Bool.not_true,Bool.false_eq_true,if_false]
 rw[if_neg (by decide)]
 simp only[Option.bind_some]
 rw[if_neg (by decide),h1]
 simp only[Option.bind_some,Bool.false_eq_true,if_false]
 rw[yo (by omega),← h3]
 simp only[Option.bind_some]
 cases b with
 | true=>rfl
 | false =>
  simp only[Bool.false_eq_true,if_false]
  rw[h4 rfl]
  rfl
theorem z7 {asked:List Int} {n:Int} {ms:List aB} {out want:List bg} (h1:aD ms=some false) (h2:asked.length≤10) (h3:asked.Nodup) (h4:aW (dV ⟨Qa⟩ 4 60 24 asked (Yh n) ms) (0,[])=some out) (h5:out=want) (h6:out.length<10):jq ⟨Qa⟩ asked n ms want=some true:=by
 unfold jq
 have:=IA (b:=false) h1 h2 (by simp[h3]) (fun _=>h4)
 unfold Yh at this
 rw[this]
 simp only[Bool.false_eq_true,if_false,Option.bind_some,beq_self_eq_true,if_true]
 rw[Sd (by omega)]
 simp[h5]
theorem Sj:ll=some true:=by
 have hsd:df Qa:=by
  obtain⟨b,hb,hs⟩:=T.lY ⟨Qa⟩
  rw[IB]at hb
  cases hb
  exact hs.1 rfl
 have wf20:V6 [2,0]:=fun x hx=>by simp at hx;omega
 have hs:(S8 [2,0]).size≤5000:=S9 wf20 (by simp)
 have hL:=To hsd (by decide) (t:=S8 [2,0]) (by omega) (b:=5) (by omega)
 have hsd2:df (Qa++[aj.mk (S8 [2,0]) 0 5 (-1) (-1)]):=Kx hsd (by decide) ⟨rfl,rfl,by simp only;omega,⟨by simp,by simp⟩,⟨by simp,by simp⟩⟩
 have hT:tp [[2,0]] 3 2=[2,0]:=by decide
 have hO:ka ⟨Qa++[aj.mk (S8 [2,0]) 0 5 (-1) (-1)]⟩ [5] [[2,0]] [5] 3 2=some ([2,0],0):=by
  rw[T.Tp (by simp) (fun r hr=>by simp at hr;subst hr;exact⟨by simp,wf20⟩) (by simp)]
  unfold RZ
  rw[if_pos (Uf (by omega) (by simp) (X6 (by omega))),if_neg (by simp),if_neg (by simp),if_pos]
  ·rw[← hT];rfl
  ·intro i x hx
   match i with
   | 0 =>
    simp at hx;subst hx
    exact⟨hsd2,_,rfl,rfl,rfl,rfl⟩
   | i+1=>simp at hx
 have hD:iN ⟨Qa++[aj.mk (S8 [2,0]) 0 5 (-1) (-1)]⟩ [5] [[2,0]] [5] [0,1,2] 2=some ([2,0],0):=by
  unfold iN
  rw[show (([0,1,2]:List Int).length:Int)=3 by rfl,hO]
  simp only[Option.bind_some]
  rw[if_neg (by decide),yo (by decide)]
  simp only[Option.bind_some]
  rw[if_neg (by decide),show nB [2,0] 3=some ([2,0],0) by kernel_rfl]
  simp only[Option.bind_some]
  rw[show aW (nG [0,1,2] ([2,0],0)) (0,[])=some [2,0] by kernel_rfl]
  rfl
 have c1:aD [⟨1,⟨KT 19,KT 21⟩⟩]=some false:=by kernel_rfl
 have c2:aD []=some false:=by kernel_rfl
 have c3:aD [⟨1,⟨KT 19,KT 21⟩⟩,⟨1,⟨KT 21,KT 22⟩⟩]=some false:=by kernel_rfl
 have s1:=z7 (asked:=[1]) (n:=20) (ms:=[⟨1,⟨KT 19,KT 21⟩⟩]) (out:=[]) (want:=[]) c1 (by decide) (by decide) (by kernel_rfl) rfl (by decide)
 have s2:=z7 (asked:=[1,2]) (n:=20) (ms:=[]) (out:=[⟨2,0⟩]) (want:=[⟨2,0⟩]) c2 (by decide) (by decide) (by kernel_rfl) rfl (by decide)
 have s3:=z7 (asked:=[1]) (n:=21) (ms:=[]) (out:=[⟨1,1⟩]) (want:=[⟨1,1⟩]) c2 (by decide) (by decide) (by kernel_rfl) rfl (by decide)
 have s4:=z7 (asked:=[1]) (n:=20) (ms:=[⟨1,⟨KT 19,KT 21⟩⟩,⟨1,⟨KT 21,KT 22⟩⟩]) (out:=[⟨1,2⟩]) (want:=[⟨1,2⟩]) c3 (by decide) (by decide) (by kernel_rfl) rfl (by decide)
 have j1:=IA (asked:=[1,1]) (ops:=[]) (ms:=[]) (b:=true) (out:=[]) c2 (by decide) (by decide) (fun h=>by cases h)
 have hI:fU [0,1,2] [0,1,2]=some true:=by kernel_rfl
 have hI2:fU [2,0] [2,0]=some true:=by kernel_rfl
 unfold ll
 rw[Re]
 simp only[Option.bind_some]
 rw[if_neg (by decide),if_neg (by decide),hI]
 simp only[Option.bind_some,Bool.not_true,Bool.false_eq_true,if_false]
 rw[Bt.1,Bt.2]
 simp only[Option.bind_some]
 rw[s1,s2,s3,s4,j1,T.MU wf20 (by simp)]
 simp only[Option.bind_some,if_true]
 rw[hL]
 simp only[Option.bind_some]
 rw[show ((Qa.length:Nat):Int)=5 by rfl,hD]
 simp only[Option.bind_some]
 rw[if_pos (by decide),if_pos (by decide),if_pos (by decide),hI2]
 rfl
theorem zl {l:List aj} {x:aj} (hs:df l) (hl:l.length<2000) (hx:mC x∨uV l x.bk x.bd=(x,0)):df (l++[x]):=by
 refine⟨by simp;omega,fun i hi y hy =>?_⟩
 simp only[List.length_append,List.length_cons,List.length_nil]at hi
 by_cases h:i<l.length
 ·rw[List.getElem?_append_left h]at hy
  rw[List.take_append_of_le_length (by omega)]
  exact hs.2 i h y hy
 ·have:i=l.length:=by omega
  subst this
  simp at hy
  subst hy
  rw[List.take_append_of_le_length (Nat.le_refl _),List.take_length]
  exact hx
theorem PW (x:aj):∃b,dh ⟨[x]⟩=some b∧(b=true↔mC x):=by
 obtain⟨b,hb,hs⟩:=T.lY ⟨[x]⟩
 refine⟨b,hb,hs.trans ⟨fun h =>?_,fun h=>⟨by simp,fun i hi y hy =>?_⟩⟩⟩
 ·rcases h.2 0 (by simp) x rfl with h1|h1
  ·exact h1
  ·obtain⟨u,v,hu,-⟩:=T.yf.1 h1
   have:=sW hu
   simp at this
   omega
 ·have:i=0:=by simp at hi;omega
  subst this
  simp at hy
  subst hy
  exact .inl h
section
variable (th:Nat→aj) (L:Nat)
inductive Sub (l:List aj):Nat→List Nat→Prop
 | leaf (j:Nat) (h:l[L+j]? = some (th j)):Sub l (L+j) [j]
 | pair (i a b:Nat) (S U:List Nat) (u v x:aj) (ha:Sub l a S) (hb:Sub l b U) (h1:a<i) (h2:b<i) (hx:l[i]? = some x) (hl:x.bk=a) (hr:x.bd=b) (hu:l[a]? = some u) (hv:l[b]? = some v) (e1:x.aE=u.aE+v.aE) (e2:x.aH=u.aH+v.aH):Sub l i (S++U)
def rm (S:List Nat):Int:=(S.map fun j=>(th j).aE).sum
def tB (S:List Nat):Int:=(S.map fun j=>(th j).aH).sum
inductive dK (l:List aj):List Int→List Nat→Prop
 | nil:dK l [] []
 | cons (i:Nat) (is:List Int) (S U:List Nat) (h:Sub th L l i S) (t:dK l is U):dK l ((i:Int)::is) (S++U)
end
section
variable {th:Nat→aj} {L:Nat} {l:List aj}
theorem Ss (S U:List Nat):rm th (S++U)=rm th S+rm th U:=by simp[rm]
theorem Sr (S U:List Nat):tB th (S++U)=tB th S+tB th U:=by simp[tB]
theorem Sub.mono {i:Nat} {S:List Nat} (h:Sub th L l i S) (e:List aj):Sub th L (l++e) i S:=by
 have ext:∀ {k:Nat} {x:aj},l[k]? = some x→(l++e)[k]? = some x:=fun hx=>by rw[List.getElem?_append_left (List.getElem?_eq_some_iff.1 hx).1];exact hx
 induction h with
 | leaf j h=>exact .leaf j (ext h)
 | pair i a b S U u v x ha hb h1 h2 hx hl hr hu hv e1 e2 iha ihb=>exact .pair i a b S U u v x iha ihb h1 h2 (ext hx) hl hr (ext hu) (ext hv) e1 e2
theorem Sub.val {i:Nat} {S:List Nat} (h:Sub th L l i S):∃x,l[i]? = some x∧x.aE=rm th S∧x.aH=tB th S:=by
 induction h with
 | leaf j h=>exact⟨_,h,by simp[rm],by simp[tB]⟩
 | pair i a b S U u v x ha hb h1 h2 hx hl hr hu hv e1 e2 iha ihb =>
  obtain⟨u',hu',q1,q2⟩:=iha
  obtain⟨v',hv',q3,q4⟩:=ihb
  rw[hu]at hu';cases hu'
  rw[hv]at hv';cases hv'
  exact⟨x,hx,by rw[e1,q1,q3,Ss],by rw[e2,q2,q4,Sr]⟩
theorem dK.mono {is:List Int} {S:List Nat} (h:dK th L l is S) (e:List aj):dK th L (l++e) is S:=by
 induction h with
 | nil=>exact .nil
 | cons i is S U h t ih=>exact .cons i is S U (h.mono e) ih
theorem dK.append {is js:List Int} {S U:List Nat} (h:dK th L l is S) (k:dK th L l js U):dK th L l (is++js) (S++U):=by
 induction h with
 | nil=>exact k
 | cons i is S V h t ih=>rw[List.append_assoc];exact .cons i _ S _ h ih
theorem dK.split:∀ {is js:List Int} {R:List Nat},dK th L l (is++js) R→∃S U,R=S++U∧dK th L l is S∧dK th L l js U
 | [],js,R,h=>⟨[],R,rfl,.nil,h⟩
 | i::is,js,R,h=>by
  generalize hq:(i::is)++js=q at h
  cases h with
  | nil=>cases hq
  | cons k ks S U h t =>
   rw[List.cons_append,List.cons.injEq]at hq
   obtain⟨rfl,rfl⟩:=hq
   obtain⟨S',U',rfl,h1,h2⟩:=dK.split t
   exact⟨S++S',U',by rw[List.append_assoc],.cons k is S S' h h1,h2⟩
theorem dK.one {i:Int} {R:List Nat} (h:dK th L l [i] R):∃k:Nat,i=k∧Sub th L l k R:=by
 generalize hq:[i]=q at h
 cases h with
 | nil=>cases hq
 | cons k ks S U h t =>
  rw[List.cons.injEq]at hq
  obtain⟨rfl,rfl⟩:=hq
  generalize hz:([]:List Int)=z at t
  cases t with
  | nil=>rw[List.append_nil];exact⟨k,rfl,h⟩
  | cons=>cases hz
end
def KF (th:Nat→aj) (R:List Nat):Prop:=R.length≤64∧∀j∈R,(0≤(th j).aE∧(th j).aE≤1099511627776)∧(0≤(th j).aH∧(th j).aH≤1099511627776)
theorem Hf {f:Nat→Int} : ∀ {R:List Nat},(∀j∈R,0≤f j∧f j≤1099511627776)→0≤(R.map f).sum∧(R.map f).sum≤R.length*1099511627776
 | [],_=>by simp
 | j::R,h=>by
  have h1:=h j List.mem_cons_self
  have h2:=Hf (R:=R) fun k hk=>h k (List.mem_cons_of_mem _ hk)
  simp only[List.map_cons,List.sum_cons,List.length_cons]
  omega
theorem KF.sub {th:Nat→aj} {A B C:List Nat} (h:KF th (A++(B++C))):(0≤rm th B∧rm th B≤70368744177664)∧(0≤tB th B∧tB th B≤70368744177664):=by
 have hl:=h.1
 simp only[List.length_append]at hl
 have h1:=Hf (f:=fun j=>(th j).aE) (R:=B) fun j hj=>(h.2 j (by simp[hj])).1
 have h2:=Hf (f:=fun j=>(th j).aH) (R:=B) fun j hj=>(h.2 j (by simp[hj])).2
 unfold rm tB
 omega
theorem PJ {th:Nat→aj} {L:Nat} {l:List aj} {next rest:List Int} {a b:Int} {R:List Nat} (hs:df l) (hl:l.length<2000) (hR:KF th R) (hF:dK th L l (next++(a::b::rest)) R) :
  ∃x,iH l a b=some (l++[x])∧df (l++[x])∧dK th L (l++[x]) (next++((l.length:Int)::rest)) R:=by
 obtain⟨S0,R1,rfl,f0,f1⟩:=dK.split hF
 obtain⟨S12,S3,rfl,f12,f3⟩:=dK.split (is:=[a,b]) (js:=rest) f1
 obtain⟨S1,S2,rfl,f1',f2'⟩:=dK.split (is:=[a]) (js:=[b]) f12
 obtain⟨i,rfl,s1⟩:=f1'.one
 obtain⟨j,rfl,s2⟩:=f2'.one
 obtain⟨u,hu,u1,u2⟩:=s1.val
 obtain⟨v,hv,v1,v2⟩:=s2.val
 have b1:=KF.sub (A:=S0) (B:=S1) (C:=S2++S3) (by simpa using hR)
 have b2:=KF.sub (A:=S0++S1) (B:=S2) (C:=S3) (by simpa using hR)
 have hi:=(List.getElem?_eq_some_iff.1 hu).1
 have hj:=(List.getElem?_eq_some_iff.1 hv).1
 have w1:IntKind.i64.wrap (u.aE+v.aE)=u.aE+v.aE:=wrap64 (by omega) (by omega)
 have w2:IntKind.i64.wrap (u.aH+v.aH)=u.aH+v.aH:=wrap64 (by omega) (by omega)
 refine⟨aj.mk ⟨#[]⟩ (u.aE+v.aE) (u.aH+v.aH) i j,?_,?_,?_⟩
 ·unfold iH y5
  rw[bu hu,bu hv]
  simp only[Option.bind_some]
  rw[kq (by simp;omega) (by decide),w1,w2]
 ·refine zl hs hl (.inr (T.yf.2 ⟨u,v,bu hu,bu hv,rfl,w1.symm,w2.symm,?_,?_⟩))
  ·simp only;omega
  ·simp only;omega
 ·have hx:(l++[aj.mk ⟨#[]⟩ (u.aE+v.aE) (u.aH+v.aH) i j])[l.length]? = some (aj.mk ⟨#[]⟩ (u.aE+v.aE) (u.aH+v.aH) i j):=by simp
  have ext:∀ {k:Nat} {x y:aj},l[k]? = some x→(l++[y])[k]? = some x:=fun hx=>by rw[List.getElem?_append_left (List.getElem?_eq_some_iff.1 hx).1];exact hx
  refine (f0.mono _).append (.cons l.length rest (S1++S2) S3 ?_ (f3.mono _))
  exact .pair l.length i j S1 S2 u v _ (s1.mono _) (s2.mono _) hi hj hx rfl rfl (ext hu) (ext hv) rfl rfl
theorem RE {th:Nat→aj} {L:Nat} {l0:List aj} {lev:List Int} {R:List Nat} (hs:df l0) (hR:KF th R) (hF:dK th L l0 lev R) (hl:l0.length+lev.length≤2001) :
  ∃next l,aW (iw lev) (0,[],l0)=some (next,l)∧∃k e,l=l0++e∧e.length=k∧next.length=k∧2*k≤lev.length∧lev.length≤2*k+1∧df l∧dK th L l (next++lev.drop (2*k)) R:=by
 obtain⟨r,hr,hp⟩:=fC (body:=iw lev) (fun s=>∃k e,s.1=2*(k:Nat)∧s.2.2=l0++e∧e.length=k∧s.2.1.length=k∧2*k≤lev.length∧df s.2.2∧dK th L s.2.2 (s.2.1++lev.drop (2*k)) R) (fun s=>(lev.length-s.1).toNat)
  (fun q=>∃k e,q.2=l0++e∧e.length=k∧q.1.length=k∧2*k≤lev.length∧lev.length≤2*k+1∧df q.2∧dK th L q.2 (q.1++lev.drop (2*k)) R) (s:=(0,[],l0)) ⟨0,[],rfl,by simp,rfl,rfl,by omega,hs,by simpa using hF⟩ (by have:FU=1000000000000000000000000:=rfl;simp only;omega) (by
   rintro⟨s,next,l⟩ ⟨k,e,rfl,rfl,h1,h2,h3,h4,h5⟩
   dsimp only at h2 h4 h5 ⊢
   have hw1:IntKind.i64.wrap (2*(k:Int)+1)=((2*k+1:Nat):Int):=by rw[wrap64 (by omega) (by omega)];omega
   have hw2:IntKind.i64.wrap (2*(k:Int)+2)=((2*(k+1):Nat):Int):=by rw[wrap64 (by omega) (by omega)];omega
   have h2k:(2*(k:Int))=((2*k:Nat):Int):=by omega
   by_cases hk:2*k+1<lev.length
   ·have ha:lev[2*k]? = some (lev[2*k]'(by omega)):=List.getElem?_eq_getElem _
    have hb:lev[2*k+1]? = some (lev[2*k+1]'hk):=List.getElem?_eq_getElem _
    have hd:lev.drop (2*k)=(lev[2*k]'(by omega))::(lev[2*k+1]'hk)::lev.drop (2*(k+1)):=by
     rw[List.drop_eq_getElem_cons (by omega),List.drop_eq_getElem_cons hk]
     rfl
    rw[hd]at h5
    have hle:(l0++e).length<2000:=by simp only[List.length_append];omega
    obtain⟨x,p1,p2,p3⟩:=PJ h4 hle hR h5
    refine .inl ⟨(((2*(k+1):Nat):Int),next++[((l0++e).length:Int)],(l0++e)++[x]),?_,⟨k+1,e++[x],?_,?_,?_,?_,?_,p2,?_⟩,?_⟩
    ·simp only[iw]
     rw[hw1,if_pos (by simp;omega),h2k,bu ha]
     simp only[Option.bind_some]
     rw[bu hb]
     simp only[Option.bind_some]
     rw[p1]
     simp only[Option.bind_some]
     rw[kq (by simp;omega) (by decide)]
     simp only[Option.bind_some]
     rw[← h2k,hw2]
    ·simp only;omega
    ·simp only[List.append_assoc]
    ·simp;omega
    ·simp;omega
    ·omega
    ·simp only[List.append_assoc]at p3 ⊢
     exact p3
    ·simp only;omega
   ·refine .inr ⟨(next,l0++e),?_,k,e,rfl,h1,h2,h3,by omega,h4,h5⟩
    simp only[iw]
    rw[hw1,if_neg (by simp;omega)])
 obtain⟨next,l⟩:=r
 obtain⟨k,e,q1,q2,q3,q4,q5,q6,q7⟩:=hp
 exact⟨next,l,hr,k,e,q1,q2,q3,q4,q5,q6,q7⟩
theorem Pj {th:Nat→aj} {L:Nat} {l0:List aj} {lev:List Int} {R:List Nat} (hs:df l0) (hR:KF th R) (hF:dK th L l0 lev R) (hl:l0.length+lev.length≤2001) (h0:lev≠[]) :
  ∃root l,aW gi (lev,l0)=some ([root],l)∧(∃e,l=l0++e)∧df l∧dK th L l [root] R:=by
 obtain⟨r,hr,hp⟩:=fC (body:=gi) (fun s=>s.1≠[]∧(∃e,s.2=l0++e)∧df s.2∧dK th L s.2 s.1 R∧s.2.length+s.1.length≤2001) (fun s=>s.1.length)
  (fun q=>∃root,q.1=[root]∧(∃e,q.2=l0++e)∧df q.2∧dK th L q.2 [root] R) (s:=(lev,l0)) ⟨h0,⟨[],by simp⟩,hs,hF,hl⟩ (by have:FU=1000000000000000000000000:=rfl;simp only;omega) (by
   rintro⟨lv,l⟩ ⟨g0,⟨e,rfl⟩,g1,g2,g3⟩
   dsimp only at g0 g1 g2 g3 ⊢
   by_cases hone:lv.length>1
   ·obtain⟨next,l',h1,k,e',rfl,h3,h4,h5,h6,h7,h8⟩:=RE g1 hR g2 g3
    have hmod:uA .i64 ((lv.length:Nat):Int) 2=some ((lv.length:Int) % 2):=T.OK (by omega) (by omega)
    by_cases hodd:lv.length % 2=1
    ·have hk:lv.length=2*k+1:=by omega
     have hlast:lv[2*k]? = some (lv[2*k]'(by omega)):=List.getElem?_eq_getElem _
     have hd:lv.drop (2*k)=[lv[2*k]'(by omega)]:=by
      rw[List.drop_eq_getElem_cons (by omega),List.drop_eq_nil_of_le (by omega)]
     rw[hd]at h8
     refine .inl ⟨(next++[lv[2*k]'(by omega)],(l0++e)++e'),?_,⟨by simp,⟨e++e',by simp⟩,h7,h8,?_⟩,?_⟩
     ·simp only[gi]
      rw[if_pos (by simp;omega),h1]
      simp only[Option.bind_some]
      rw[hmod]
      simp only[Option.bind_some]
      rw[if_pos (by simp;omega),show IntKind.i64.wrap ((lv.length:Int)-1)=((2*k:Nat):Int) by rw[wrap64 (by omega) (by omega)];omega,bu hlast]
      simp only[Option.bind_some]
      rw[kq (by simp;omega) (by decide)]
      rfl
     ·simp only[List.length_append,List.length_cons,List.length_nil]at g3 ⊢;omega
     ·simp only[List.length_append,List.length_cons,List.length_nil];omega
    ·have hk:lv.length=2*k:=by omega
     have hd:lv.drop (2*k)=[]:=List.drop_eq_nil_of_le (by omega)
     rw[hd,List.append_nil]at h8
     refine .inl ⟨(next,(l0++e)++e'),?_,⟨?_,⟨e++e',by simp⟩,h7,h8,?_⟩,?_⟩
     ·simp only[gi]
      rw[if_pos (by simp;omega),h1]
      simp only[Option.bind_some]
      rw[hmod]
      simp only[Option.bind_some]
      rw[if_neg (by simp;omega)]
     ·intro hnil;simp only at hnil;rw[hnil]at h4;simp at h4;omega
     ·simp only[List.length_append]at g3 ⊢;omega
     ·simp only;omega
   ·obtain⟨root,hroot⟩:∃root,lv=[root]:=by
     match lv,g0,hone with
     | [x],_,_=>exact⟨x,rfl⟩
     | x::y::z,_,h=>simp at h
    subst hroot
    refine .inr ⟨([root],l0++e),?_,root,rfl,⟨e,rfl⟩,g1,g2⟩
    simp only[gi]
    rw[if_neg (by simp)])
 obtain⟨a,l⟩:=r
 obtain⟨root,rfl,q2,q3,q4⟩:=hp
 exact⟨root,l,hr,q2,q3,q4⟩
def pR (ts:List ByteArray) (vs bs:List Int) (j:Nat):aj:=aj.mk (ts.getD j ⟨#[]⟩) (vs.getD j 0) (bs.getD j 0) (-1) (-1)
def NT (L n:Nat):List Int:=(List.range n).map fun (j:Nat)=>((L+j:Nat):Int)
structure po (v:List aj) (ts:List ByteArray) (vs bs:List Int) (w:List aj) (root:Int) (leaves:List Int):Prop where
 pos:0<ts.length
 le:ts.length≤64
 vlen:vs.length=ts.length
 blen:bs.length=ts.length
 leaf:∀j,j<ts.length→mC (pR ts vs bs j)
 sound:df w
 at_:∀j,j<ts.length→w[v.length+j]? = some (pR ts vs bs j)
 leaves:leaves=NT v.length ts.length
 root:∃i:Nat,root=i∧Sub (pR ts vs bs) v.length w i (List.range ts.length)
theorem wL (L n:Nat):(NT L n).length=n:=by simp[NT]
theorem RF {L n j:Nat} (h:j<n):(NT L n)[j]? = some ((L+j:Nat):Int):=by simp[NT,h]
theorem Ju (L n:Nat):NT L (n+1)=NT L n++[((L+n:Nat):Int)]:=by simp[NT,List.range_succ]
theorem BT {th:Nat→aj} {L:Nat} {l:List aj} : ∀n,(∀j,j<n→l[L+j]? = some (th j))→dK th L l (NT L n) (List.range n)
 | 0,_ =>.nil
 | n+1,h=>by
  rw[Ju,List.range_succ]
  exact (BT n fun j hj=>h j (by omega)).append (.cons (L+n) [] [n] [] (.leaf n (h n (by omega))) .nil)
theorem Jo {v:List aj} {ts:List ByteArray} {vs bs:List Int} (h1:vs.length=ts.length) (h2:bs.length=ts.length) (h3:ts.length≤64) (h4:v.length≤2000) :
  aW (iu ts vs bs) (0,[],v)=some (NT v.length ts.length,v++(List.range ts.length).map (pR ts vs bs)):=by
 have hloop:=FK (body:=iu ts vs bs) ts.length (fun i=>((i:Int),NT v.length i,v++(List.range i).map (pR ts vs bs))) (r:=(NT v.length ts.length,v++(List.range ts.length).map (pR ts vs bs))) (by omega) (fun i hi=>by
  have g1:ts[i]? = some ts[i]:=List.getElem?_eq_getElem hi
  have g2:vs[i]? = some (vs[i]'(by omega)):=List.getElem?_eq_getElem _
  have g3:bs[i]? = some (bs[i]'(by omega)):=List.getElem?_eq_getElem _
  have ht:pR ts vs bs i=aj.mk ts[i] (vs[i]'(by omega)) (bs[i]'(by omega)) (-1) (-1):=by simp[pR,List.getD,g1,g2,g3]
  simp only[iu]
  rw[if_pos (by simp;omega),bu g1,bu g2,bu g3]
  simp only[Option.bind_some,kc,lz,Ht]
  rw[kq (by simp;omega) (by decide)]
  simp only[Option.bind_some]
  rw[kq (by rw[wL];simp;omega) (by decide)]
  simp only[Option.bind_some]
  rw[Ju,List.range_succ,List.map_append,cm (by omega)]
  simp[ht]) (by
  simp only[iu]
  rw[if_neg (by simp)])
 have e0:((((0:Nat):Int),NT v.length 0,v++(List.range 0).map (pR ts vs bs)):Int×List Int×List aj)=(0,[],v):=by simp[NT]
 rw[← e0]
 exact hloop
open Classical in
theorem Qc {v:List aj} {ts:List ByteArray} {vs bs:List Int} (ht:ts.length*16≤140737488351232):∃r,gX ⟨v⟩ ts vs bs=some r∧(r.2.2.2=0→po v ts vs bs r.1.ag r.2.1 r.2.2.1):=by
 unfold gX
 obtain⟨b,hb,hs⟩:=T.lY ⟨v⟩
 rw[hb]
 simp only[Option.bind_some]
 have bad:∀(q:aw×Int×List Int×Int),q.2.2.2≠0→∃r,some q=some r∧(r.2.2.2=0→po v ts vs bs r.1.ag r.2.1 r.2.2.1):=fun q hq=>⟨q,rfl,fun h=>absurd h hq⟩
 cases b with
 | false=>exact bad _ (by decide)
 | true =>
 have hsd:df v:=hs.1 rfl
 simp only[Bool.not_true,Bool.false_eq_true,if_false]
 by_cases q0:ts.length=0
 ·rw[if_pos (by simp[q0])];exact bad _ (by decide)
 rw[if_neg (by simp;exact fun h=>q0 (by rw[h];rfl))]
 by_cases q1:vs.length=ts.length
 ·rw[if_neg (by simp[q1])]
  simp only[Option.bind_some]
  by_cases q2:bs.length=ts.length
  ·rw[if_neg (by simp[q2])]
   have hL2:=Wg ts (body:=jz ts vs bs) (fun i _=>mC (pR ts vs bs i)) (aw.mk [],-1,[],1) (by omega) (fun i x hx=>by
    have hi:=(List.getElem?_eq_some_iff.1 hx).1
    have g2:vs[i]? = some (vs[i]'(by omega)):=List.getElem?_eq_getElem _
    have g3:bs[i]? = some (bs[i]'(by omega)):=List.getElem?_eq_getElem _
    have hth:pR ts vs bs i=aj.mk x (vs[i]'(by omega)) (bs[i]'(by omega)) (-1) (-1):=by simp[pR,List.getD,hx,g2,g3]
    obtain⟨c,hc,hc2⟩:=PW (aj.mk x (vs[i]'(by omega)) (bs[i]'(by omega)) (-1) (-1))
    simp only[jz]
    rw[if_pos (by simp;omega),bu hx,bu g2,bu g3]
    simp only[Option.bind_some,kc]
    rw[hc,hth]
    simp only[Option.bind_some]
    cases c with
    | true=>rw[if_neg (by simp),if_pos (hc2.1 rfl),cm (by omega)]
    | false=>rw[if_pos (by simp),if_neg (fun h=>absurd (hc2.2 h) (by simp))]) (by simp only[jz];rw[if_neg (by simp)])
   rcases hL2 with⟨hall,he⟩|⟨hall,he⟩
   ·rw[he]
    simp only[Option.bind_some]
    have hv2:=hsd.1
    have hwr:IntKind.i64.wrap (IntKind.i64.wrap ((v.length:Int)+IntKind.i64.wrap (2*(ts.length:Int)))-1)=(v.length:Int)+2*ts.length-1:=by
     rw[wrap64 (x:=2*(ts.length:Int)) (by omega) (by omega),wrap64 (x:=(v.length:Int)+2*(ts.length:Int)) (by omega) (by omega),wrap64 (by omega) (by omega)]
    by_cases q3:(ts.length:Int)>64
    ·rw[if_pos (by simpa using q3)];exact bad _ (by decide)
    ·rw[if_neg (by simpa using q3)]
     simp only[Option.bind_some]
     rw[show (({ ag:=v } : aw).ag.length:Int)=v.length from rfl,hwr]
     by_cases q4:(v.length:Int)+2*ts.length-1>2000
     ·rw[if_pos (by simpa using q4)];exact bad _ (by decide)
     ·rw[if_neg (by simpa using q4)]
      have hcl:dr v=some v:=by
       unfold dr
       rw[kq (by simp;omega) (by decide)]
       rfl
      rw[hcl]
      simp only[Option.bind_some]
      rw[Jo q1 q2 (by omega) hv2]
      simp only[Option.bind_some]
      rw[Nt (by rw[wL];omega)]
      simp only[Option.bind_some]
      have hat:∀j,j<ts.length→(v++(List.range ts.length).map (pR ts vs bs))[v.length+j]? = some (pR ts vs bs j):=by
       intro j hj
       rw[List.getElem?_append_right (by omega),Nat.add_sub_cancel_left]
       simp[hj]
      have hleaf:∀j,j<ts.length→mC (pR ts vs bs j):=fun j hj=>hall j ts[j] (List.getElem?_eq_getElem hj)
      have hsd1:∀n,n≤ts.length→df (v++(List.range n).map (pR ts vs bs)):=by
       intro n
       induction n with
       | zero=>intro _;simpa using hsd
       | succ n ih =>
        intro hn
        rw[List.range_succ,List.map_append,← List.append_assoc]
        exact zl (ih (by omega)) (by simp;omega) (.inl (hleaf n (by omega)))
      have hR:KF (pR ts vs bs) (List.range ts.length):=⟨by simp;omega,fun j hj=>by
       have:=hleaf j (List.mem_range.1 hj)
       exact⟨this.2.2.2.1,this.2.2.2.2⟩⟩
      obtain⟨root,w,r1,⟨e,r2⟩,r3,r4⟩:=Pj (L:=v.length) (hsd1 ts.length (Nat.le_refl _)) hR (BT ts.length hat) (by rw[wL,List.length_append,List.length_map,List.length_range];omega) (by intro h;have:=congrArg List.length h;rw[wL]at this;exact q0 this)
      rw[r1]
      simp only[Option.bind_some]
      rw[show P.idx [root] 0=some root from rfl]
      simp only[Option.bind_some]
      obtain⟨i,hi,hsub⟩:=r4.one
      refine⟨_,rfl,fun _=>⟨by omega,by omega,q1,q2,hleaf,r3,fun j hj =>?_,rfl,i,hi,hsub⟩⟩
      simp only
      rw[r2,List.getElem?_append_left (by simp;omega)]
      exact hat j hj
   ·rw[he]
    simp only[Option.bind_some]
    exact bad _ (by decide)
  ·rw[if_pos (by simp;omega)];exact bad _ (by decide)
 ·rw[if_pos (by simp;omega)];exact bad _ (by decide)
inductive Nr (l:List aj) (leaf:Nat):Nat→Prop
 | here:Nr l leaf leaf
 | up (i c:Nat) (x:aj) (hx:l[i]? = some x) (hp:x.bk ≠ -1) (hc:x.bk=c∨x.bd=c) (hi:leaf<i) (h:Nr l leaf c):Nr l leaf i
theorem Nr.le {l:List aj} {leaf i:Nat} (h:Nr l leaf i):leaf≤i:=by
 cases h with
 | here=>exact Nat.le_refl _
 | up c x hx hp hc hi h=>omega
theorem Sub.nr {th:Nat→aj} {L:Nat} {l:List aj} {i:Nat} {S:List Nat} (h:Sub th L l i S):∀j∈S,Nr l (L+j) i:=by
 induction h with
 | leaf j h=>intro k hk;rw[List.mem_singleton.1 hk];exact .here
 | pair i a b S U u v x ha hb h1 h2 hx hl hr hu hv e1 e2 iha ihb =>
  intro j hj
  rcases List.mem_append.1 hj with hj|hj
  ·have:=iha j hj
   exact .up i a x hx (by omega) (.inl hl) (by have:=this.le;omega) this
  ·have:=ihb j hj
   exact .up i b x hx (by omega) (.inr hr) (by have:=this.le;omega) this
theorem Cz {l:List aj} (hs:df l) {i:Nat} {x:aj} (hx:l[i]? = some x) (hL:x.bk ≠ -1):(0≤x.bk∧x.bk<i)∧(0≤x.bd∧x.bd<i):=by
 have hi:=(List.getElem?_eq_some_iff.1 hx).1
 rcases hs.2 i hi x hx with h|h
 ·exact absurd h.1 hL
 ·obtain⟨u,v,hu,hv,-⟩:=T.yf.1 h
  have h1:=sW hu
  have h2:=sW hv
  rw[List.length_take]at h1 h2
  omega
theorem RO {l:List aj} {leaf i:Nat} {x:aj} (hx:l[i]? = some x) (hi:leaf<i) {a b:Nat} (ha:x.bk=a) (hb:x.bd=b):Nr l leaf i↔Nr l leaf a∨Nr l leaf b:=by
 constructor
 ·intro h
  cases h with
  | here=>omega
  | up _ c y hy hp hc hi h =>
   rw[hx]at hy;cases hy
   rcases hc with hc|hc
   ·have:a=c:=by omega
    subst this;exact .inl h
   ·have:b=c:=by omega
    subst this;exact .inr h
 ·rintro (h|h)
  ·exact .up i a x hx (by omega) (.inl ha) hi h
  ·exact .up i b x hx (by omega) (.inr hb) hi h
theorem NK {l:List Bool} {i k:Nat} {b:Bool} (hi:i<l.length):(l.set i b)[k]? = if k=i then some b else l[k]?:=by
 by_cases h:k=i
 ·subst h;rw[if_pos rfl];simp[hi]
 ·rw[if_neg h,List.getElem?_set_ne (by omega)]
theorem R7 {l:List aj} (hs:df l) {leaf:Nat} (hleaf:leaf<l.length):∃out,jS ⟨l⟩ (leaf:Int)=some out∧out.length=l.length∧∀k,k<l.length→(out[k]? = some true↔Nr l leaf k):=by
 have hl:=hs.1
 unfold jS
 rw[show (({ ag:=l } : aw).ag.length:Int)=(l.length:Int) from rfl,T.UU (by omega) (by decide)]
 simp only[Option.bind_some]
 rw[bu (show (List.replicate l.length false)[leaf]? = some false by simp[hleaf])]
 simp only[Option.bind_some,Int.toNat_natCast]
 rw[cm (by omega)]
 obtain⟨r,hr,hp⟩:=fC (body:=eL ⟨l⟩) (fun s=>∃i:Nat,s.1=i∧leaf<i∧i≤l.length∧s.2.length=l.length∧(∀k,k<i→(s.2[k]? = some true↔Nr l leaf k))) (fun s=>(l.length-s.1).toNat)
  (fun q=>q.length=l.length∧∀k,k<l.length→(q[k]? = some true↔Nr l leaf k)) (s:=(((leaf+1:Nat):Int),(List.replicate l.length false).set leaf true)) ⟨leaf+1,rfl,by omega,by omega,by simp,fun k hk=>by
   rw[NK (by simpa using hleaf)]
   by_cases h:k=leaf
   ·subst h;simp[Nr.here]
   ·rw[if_neg h]
    have:¬Nr l leaf k:=fun hn=>by have:=hn.le;omega
    simp only[List.getElem?_replicate,this,iff_false]
    split<;>simp⟩ (by have:FU=1000000000000000000000000:=rfl;simp only;omega) (by
   rintro⟨s,out⟩ ⟨i,rfl,h1,h2,h3,h4⟩
   dsimp only at h3 h4 ⊢
   by_cases hi:i<l.length
   ·have hx:l[i]? = some l[i]:=List.getElem?_eq_getElem hi
    have ho:out[i]? = some (out[i]'(by omega)):=List.getElem?_eq_getElem _
    have hnew:∀b:Bool,(b=true↔Nr l leaf i)→∀k,k<i+1→((out.set i b)[k]? = some true↔Nr l leaf k):=by
     intro b hb k hk
     rw[NK (by omega)]
     by_cases hki:k=i
     ·subst hki;rw[if_pos rfl];simp[hb]
     ·rw[if_neg hki];exact h4 k (by omega)
    have go:∀b:Bool,(b=true↔Nr l leaf i)→eL ⟨l⟩ ((i:Int),out)=some (.inl (((i+1:Nat):Int),out.set i b))→(∃s',eL ⟨l⟩ ((i:Int),out)=some (.inl s')∧(∃i:Nat,s'.1=i∧leaf<i∧i≤l.length∧s'.2.length=l.length∧(∀k,k<i→(s'.2[k]? = some true↔Nr l leaf k)))∧(l.length-s'.1:Int).toNat<(l.length-(i:Int)).toNat):=fun b hb he =>
     ⟨_,he,⟨i+1,rfl,by omega,by omega,by simp[h3],hnew b hb⟩,by simp only;omega⟩
    refine .inl ?_
    by_cases hL:l[i].bk = -1
    ·refine go false ⟨fun h=>(by cases h),fun h =>?_⟩ ?_
     ·cases h with
      | here=>omega
      | up _ c y hy hp hc hi h=>rw[hx]at hy;cases hy;exact absurd hL hp
     ·simp only[eL]
      rw[if_pos (by simp;omega),bu hx]
      simp only[Option.bind_some,fk]
      rw[if_neg (by simp[hL]),bu ho]
      simp only[Option.bind_some,Int.toNat_natCast]
      rw[cm (by omega)]
    ·obtain⟨⟨a0,a1⟩,b0,b1⟩:=Cz hs hx hL
     obtain⟨a,ha⟩:∃a:Nat,l[i].bk=a:=⟨l[i].bk.toNat,by omega⟩
     obtain⟨b,hb⟩:∃b:Nat,l[i].bd=b:=⟨l[i].bd.toNat,by omega⟩
     have hoa:out[a]? = some (out[a]'(by omega)):=List.getElem?_eq_getElem _
     have hob:out[b]? = some (out[b]'(by omega)):=List.getElem?_eq_getElem _
     have na:=h4 a (by omega)
     have nb:=h4 b (by omega)
     rw[hoa,Option.some.injEq]at na
     rw[hob,Option.some.injEq]at nb
     have hiff:=RO hx h1 ha hb
     by_cases hva:out[a]'(by omega)=true
     ·refine go true ⟨fun _=>hiff.2 (.inl (na.1 hva)),fun _=>rfl⟩ ?_
      simp only[eL]
      rw[if_pos (by simp;omega),bu hx]
      simp only[Option.bind_some,fk]
      rw[if_pos (by simp[hL]),ha,bu hoa]
      simp only[Option.bind_some]
      rw[if_pos hva,bu ho]
      simp only[Option.bind_some,Int.toNat_natCast]
      rw[cm (by omega)]
     ·refine go (out[b]'(by omega)) ⟨fun h=>hiff.2 (.inr (nb.1 h)),fun h=>(hiff.1 h).elim (fun h=>absurd (na.2 h) hva) nb.2⟩ ?_
      simp only[eL]
      rw[if_pos (by simp;omega),bu hx]
      simp only[Option.bind_some,fk]
      rw[if_pos (by simp[hL]),ha,bu hoa]
      simp only[Option.bind_some]
      rw[if_neg hva,hb,bu hob]
      simp only[Option.bind_some]
      rw[bu ho]
      simp only[Option.bind_some,Int.toNat_natCast]
      rw[cm (by omega)]
   ·refine .inr ⟨out,?_,h3,fun k hk=>h4 k (by omega)⟩
    simp only[eL]
    rw[if_neg (by simp;omega)])
 rw[hr]
 exact⟨r,rfl,hp⟩
theorem PX {l:List aj} {path:List Int} {b:Int} {i:Nat} {c:Int} (h:path[i]? = some c) (hs:u7 l path i c):u7 l (path++[b]) i c:=by
 obtain⟨h1,h2⟩:=hs
 refine⟨h1,h2.imp_right ?_⟩
 rintro⟨p,x,g1,g2⟩
 exact⟨p,x,by rw[List.getElem?_append_left (List.getElem?_eq_some_iff.1 g1).1];exact g1,g2⟩
theorem T4 {l:List aj} (hs:df l) {root leaf:Nat} (hroot:root<l.length) (hn:Nr l leaf root):∃p,ly ⟨l⟩ (root:Int) (leaf:Int)=some p∧lB l p∧p.head? = some (root:Int)∧p.getLast? = some (leaf:Int)∧p.length≤2001:=by
 have hl:=hs.1
 have hle:=hn.le
 unfold ly
 obtain⟨b,hb,hb2⟩:=T.lY ⟨l⟩
 have hbt:b=true:=hb2.2 hs
 subst hbt
 rw[hb]
 simp only[Option.bind_some,Bool.not_true,Bool.false_eq_true,if_false,has_eq]
 have d1:decide (0≤(root:Int)∧(root:Int)<(({ ag:=l } : aw).ag.length:Int))=true:=decide_eq_true ⟨by omega,by simp only;omega⟩
 have d2:decide (0≤(leaf:Int)∧(leaf:Int)<(({ ag:=l } : aw).ag.length:Int))=true:=decide_eq_true ⟨by omega,by simp only;omega⟩
 simp only[d1,d2,Bool.not_true,Bool.false_eq_true,if_false,Option.bind_some]
 obtain⟨out,ho,hol,hon⟩:=R7 hs (leaf:=leaf) (by omega)
 rw[ho]
 simp only[Option.bind_some]
 have hr1:out[root]? = some true:=(hon root hroot).2 hn
 rw[bu hr1]
 simp only[Option.bind_some,Bool.not_true,Bool.false_eq_true,if_false]
 obtain⟨r,hr,hp⟩:=fC (body:=fZ ⟨l⟩ (leaf:Int) out) (fun s=>∃a:Nat,s.1=a∧a<l.length∧Nr l leaf a∧s.2.head? = some (root:Int)∧s.2.getLast? = some (a:Int)∧s.2.length+a≤root+1∧∀i c,s.2[i]? = some c→u7 l s.2 i c) (fun s=>s.1.toNat)
  (fun q=>q.head? = some (root:Int)∧q.getLast? = some (leaf:Int)∧q.length≤2001∧∀i c,q[i]? = some c→u7 l q i c) (s:=((root:Int),[(root:Int)])) ⟨root,rfl,hroot,hn,rfl,rfl,by simp;omega,fun i c hc=>by
   have hi:=(List.getElem?_eq_some_iff.1 hc).1
   simp at hi
   subst hi
   simp at hc
   subst hc
   exact⟨⟨by omega,by omega⟩,.inl rfl⟩⟩ (by have:FU=1000000000000000000000000:=rfl;simp only;omega) (by
   rintro⟨s,path⟩ ⟨a,rfl,h1,h2,h3,h4,h5,h6⟩
   dsimp only at h3 h4 h5 h6 ⊢
   by_cases he:a=leaf
   ·subst he
    refine .inr ⟨path,?_,h3,h4,by omega,h6⟩
    simp only[fZ]
    rw[if_neg (by simp)]
   ·have hgt:leaf<a:=by have:=h2.le;omega
    have hx:l[a]? = some l[a]:=List.getElem?_eq_getElem h1
    have hL:l[a].bk ≠ -1:=by
     cases h2 with
     | here=>exact absurd rfl he
     | up _ c y hy hp hc hi h=>rw[hx]at hy;cases hy;exact hp
    obtain⟨⟨a0,a1⟩,b0,b1⟩:=Cz hs hx hL
    obtain⟨u,hu⟩:∃u:Nat,l[a].bk=u:=⟨l[a].bk.toNat,by omega⟩
    obtain⟨v,hv⟩:∃v:Nat,l[a].bd=v:=⟨l[a].bd.toNat,by omega⟩
    have hnr:=(RO hx hgt hu hv).1 h2
    have hmin:(if l[a].bd<l[a].bk then l[a].bd else l[a].bk)=((if v<u then v else u:Nat):Int):=by rw[hu,hv];split<;>split<;>omega
    have hmax:(if l[a].bd>l[a].bk then l[a].bd else l[a].bk)=((if v>u then v else u:Nat):Int):=by rw[hu,hv];split<;>split<;>omega
    have go:∀c:Nat,(c=u∨c=v)→Nr l leaf c→fZ ⟨l⟩ (leaf:Int) out ((a:Int),path)=some (.inl ((c:Int),path++[(c:Int)]))→(∃s',fZ ⟨l⟩ (leaf:Int) out ((a:Int),path)=some (.inl s')∧(∃a:Nat,s'.1=a∧a<l.length∧Nr l leaf a∧s'.2.head? = some (root:Int)∧s'.2.getLast? = some (a:Int)∧s'.2.length+a≤root+1∧∀i c,s'.2[i]? = some c→u7 l s'.2 i c)∧s'.1.toNat<(a:Int).toNat):=by
     intro c hc hnc hbody
     have hpath:path≠[]:=by intro h;rw[h]at h3;cases h3
     refine⟨_,hbody,⟨c,rfl,by omega,hnc,?_,by simp,?_,?_⟩,by simp only;omega⟩
     ·simp only;rw[List.head?_append,h3];rfl
     ·simp only[List.length_append,List.length_cons,List.length_nil];omega
     ·intro i d hd
      simp only at hd ⊢
      by_cases hip:i<path.length
      ·rw[List.getElem?_append_left hip]at hd
       exact PX hd (h6 i d hd)
      ·have hi2:=(List.getElem?_eq_some_iff.1 hd).1
       simp at hi2
       have:i=path.length:=by omega
       subst this
       simp at hd
       subst hd
       have hpos:0<path.length:=List.length_pos_iff.2 hpath
       refine⟨⟨by omega,by omega⟩,.inr ⟨(a:Int),l[a],?_,bu hx,by omega⟩⟩
       rw[List.getElem?_append_left (by omega),← List.getLast?_eq_getElem?]
       exact h4
    refine .inl ?_
    have hwl:path.length+1≤1000000:=by omega
    have hml:(if v<u then v else u:Nat)<l.length:=by split<;>omega
    have hom:out[(if v<u then v else u:Nat)]? = some (out[(if v<u then v else u:Nat)]'(by omega)):=List.getElem?_eq_getElem _
    have hbit:=hon _ hml
    rw[hom,Option.some.injEq]at hbit
    by_cases hb1:out[(if v<u then v else u:Nat)]'(by omega)=true
    ·refine go (if v<u then v else u:Nat) (by split<;>omega) (hbit.1 hb1) ?_
     simp only[fZ]
     rw[if_pos (by simp;omega),bu hx]
     simp only[Option.bind_some]
     rw[hmin,bu hom]
     simp only[Option.bind_some]
     rw[if_neg (by simp[hb1]),kq (by simp;omega) (by decide)]
     rfl
    ·refine go (if v>u then v else u:Nat) (by split<;>omega) ?_ ?_
     ·have hno:¬Nr l leaf (if v<u then v else u:Nat):=fun h=>hb1 (hbit.2 h)
      by_cases hvu:v<u
      ·rw[if_pos hvu]at hno
       rw[if_neg (by omega)]
       exact hnr.elim id fun h=>absurd h hno
      ·rw[if_neg hvu]at hno
       by_cases huv:v>u
       ·rw[if_pos huv];exact hnr.elim (fun h=>absurd h hno) id
       ·have:v=u:=by omega
        subst this
        exact absurd (hnr.elim id id) hno
     ·simp only[fZ]
      rw[if_pos (by simp;omega),bu hx]
      simp only[Option.bind_some]
      rw[hmin,bu hom]
      simp only[Option.bind_some]
      rw[if_pos (by simpa using hb1),hmax,kq (by simp;omega) (by decide)]
      rfl)
 rw[hr]
 refine⟨r,rfl,⟨hs,?_,hp.2.2.2⟩,hp.1,hp.2.1,hp.2.2.1⟩
 intro h
 rw[h]at hp
 cases hp.1
theorem po.lt {v:List aj} {ts:List ByteArray} {vs bs:List Int} {w:List aj} {root:Int} {leaves:List Int} (h:po v ts vs bs w root leaves):∃i:Nat,root=i∧i<w.length∧(∀j,j<ts.length→Nr w (v.length+j) i)∧∃x,w[i]? = some x∧x.aE=rm (pR ts vs bs) (List.range ts.length)∧x.aH=tB (pR ts vs bs) (List.range ts.length):=by
 obtain⟨i,hi,hsub⟩:=h.root
 obtain⟨x,hx,e1,e2⟩:=hsub.val
 exact⟨i,hi,(List.getElem?_eq_some_iff.1 hx).1,fun j hj=>hsub.nr j (List.mem_range.2 hj),x,hx,e1,e2⟩
def fR (w:List aj) (p:List Int) (L:Nat) (ts:List ByteArray) (vs bs:List Int) (j:Nat):aL:=⟨((L+j:Nat):Int),p,ts.getD j ⟨#[]⟩,vs.getD j 0,bs.getD j 0⟩
theorem T1 {v:List aj} {l:eP} {w:List aj} {root:Int} {leaves:List Int} (h:po v l.aZ l.aQ l.bt w root leaves) {j:Nat} (hj:j<l.aZ.length) :
  ∃p,jo ⟨w⟩ root leaves l (j:Int)=some (fR w p v.length l.aZ l.aQ l.bt j)∧lB w p∧p.head? = some root∧p.getLast? = some ((v.length+j:Nat):Int)∧p.length≤2001:=by
 obtain⟨i,hi,hlt,hnr,-⟩:=h.lt
 obtain⟨p,hp,h1,h2,h3,h4⟩:=T4 h.sound hlt (hnr j hj)
 refine⟨p,?_,h1,by rw[hi];exact h2,h3,h4⟩
 have g1:l.aZ[j]? = some l.aZ[j]:=List.getElem?_eq_getElem hj
 have g2:l.aQ[j]? = some (l.aQ[j]'(by rw[h.vlen];exact hj)):=List.getElem?_eq_getElem _
 have g3:l.bt[j]? = some (l.bt[j]'(by rw[h.blen];exact hj)):=List.getElem?_eq_getElem _
 unfold jo
 rw[h.leaves,bu (RF hj)]
 simp only[Option.bind_some]
 rw[hi,hp]
 simp only[Option.bind_some]
 rw[bu g1,bu g2,bu g3]
 simp[fR,List.getD,g1,g2,g3]
theorem PU {v:List aj} {ts:List ByteArray} {vs bs:List Int} {w:List aj} {root:Int} {leaves:List Int} (h:po v ts vs bs w root leaves) {j:Nat} (hj:j<ts.length) {x:aL} (hx:x.ck=((v.length+j:Nat):Int)) (total blind:Int) :
  tz w root total blind x↔(lB w x.dD∧x.dD.head? = some root∧x.dD.getLast? = some x.ck)∧total=rm (pR ts vs bs) (List.range ts.length)∧blind=tB (pR ts vs bs) (List.range ts.length)∧x.cD=ts.getD j ⟨#[]⟩∧x.aE=vs.getD j 0∧x.aH=bs.getD j 0:=by
 obtain⟨i,hi,hlt,-,y,hy,e1,e2⟩:=h.lt
 have hat:=h.at_ j hj
 have hleafT:(pR ts vs bs j).bk = -1:=rfl
 constructor
 ·rintro⟨h1,h2,hw,a,b,x1,y1,h3,h4,h5,h6,h7,h8,h9,ho1,z,h10,h11,h12,h13⟩
  rw[h1]at h3;cases h3
  rw[h2]at h4;cases h4
  rw[hi,bu hy]at h5;cases h5
  rw[hx,bu hat]at h6;cases h6
  rw[hx,bu hat]at h10;cases h10
  exact⟨⟨hw,h1,h2⟩,by rw[← h7,e1],by rw[← h8,e2],h11.symm,h12.symm,h13.symm⟩
 ·rintro⟨⟨hw,h1,h2⟩,h3,h4,h5,h6,h7⟩
  refine⟨h1,h2,hw,root,x.ck,y,pR ts vs bs j,h1,h2,by rw[hi];exact bu hy,by rw[hx];exact bu hat,by rw[h3,e1],by rw[h4,e2],hleafT,h.sound,pR ts vs bs j,by rw[hx];exact bu hat,h5.symm,h6.symm,h7.symm⟩
theorem KQ {l:List Int} {n:Nat} (hl:l.length=n) (hn:n≤64) (hb:∀j,j<n→0≤l.getD j 0∧l.getD j 0≤1099511627776):ik l=some ((List.range n).map fun j=>l.getD j 0).sum:=by
 unfold ik
 have hsum:∀i,i≤n→0≤((List.range i).map fun j=>l.getD j 0).sum∧((List.range i).map fun j=>l.getD j 0).sum≤i*1099511627776:=by
  intro i hi
  have:=Hf (f:=fun j=>l.getD j 0) (R:=List.range i) fun j hj=>hb j (by have:=List.mem_range.1 hj;omega)
  simpa using this
 have hloop:=FK (body:=ja l) n (fun i=>(((List.range i).map fun j=>l.getD j 0).sum,(i:Int))) (r:=((List.range n).map fun j=>l.getD j 0).sum) (by omega) (fun i hi=>by
  have hx:l[i]? = some (l[i]'(by omega)):=List.getElem?_eq_getElem _
  have hg:l.getD i 0=l[i]'(by omega):=by simp[List.getD,hx]
  have h1:=hsum i (by omega)
  have h2:=hb i hi
  rw[hg]at h2
  simp only[ja]
  rw[if_pos (by simp;omega),bu hx]
  simp only[Option.bind_some]
  rw[wrap64 (x:=((List.range i).map fun j=>l.getD j 0).sum+l[i]'(by omega)) (by omega) (by omega),cm (by omega),List.range_succ]
  simp[hx]) (by
  simp only[ja]
  rw[if_neg (by simp;omega)])
 have hloop':aW (ja l) (0,0)=some ((List.range n).map fun j=>l.getD j 0).sum:=by
  rw[← hloop];simp
 rw[hloop']
 rfl
theorem po.V2 {v:List aj} {ts:List ByteArray} {vs bs:List Int} {w:List aj} {root:Int} {leaves:List Int} (h:po v ts vs bs w root leaves):ik vs=some (rm (pR ts vs bs) (List.range ts.length))∧ik bs=some (tB (pR ts vs bs) (List.range ts.length)):=by
 constructor
 ·rw[KQ h.vlen h.le fun j hj=>(h.leaf j hj).2.2.2.1];rfl
 ·rw[KQ h.blen h.le fun j hj=>(h.leaf j hj).2.2.2.2];rfl
theorem PS {v:List aj} {l:eP} (ht:l.aZ.length*16≤140737488351232):∃r,jO ⟨v⟩ l=some r∧(r.2.2.2=true→po v l.aZ l.aQ l.bt r.1.ag r.2.1 r.2.2.1):=by
 unfold jO
 obtain⟨r,hr,hr2⟩:=Qc (v:=v) (ts:=l.aZ) (vs:=l.aQ) (bs:=l.bt) ht
 rw[hr]
 simp only[Option.bind_some]
 by_cases h0:r.2.2.2=0
 ·rw[if_pos (by simp[h0])]
  have hB:=hr2 h0
  split
  ·split
   ·exact⟨_,rfl,fun _=>hB⟩
   ·exact⟨_,rfl,fun h=>(by cases h)⟩
  ·exact⟨_,rfl,fun h=>(by cases h)⟩
 ·rw[if_neg (by simpa using h0)]
  exact⟨_,rfl,fun h=>(by cases h)⟩
theorem Wo {ts:List ByteArray} (n:Int) (hl:ts.length<4611686018427387904) (hn:0≤n∧n≤1000):∃b,re ts n=some b∧(b=true→(ts.length:Int)≤n):=by
 unfold re
 obtain⟨r,hr,hp⟩:=fC (body:=rf ts n) (fun s=>∃i:Nat,s=i∧i≤ts.length∧i≤1001) (fun s=>(1001-s).toNat) (fun r=>match r with | .inl _=>True | .inr b=>b=false) (s:=0) ⟨0,rfl,by omega,by omega⟩
  (by have:FU=1000000000000000000000000:=rfl;omega) (by
   rintro s ⟨i,rfl,h1,h2⟩
   unfold rf
   dsimp only
   by_cases hi:i<ts.length
   ·rw[if_pos (by simp;omega)]
    simp only[Option.bind_some]
    by_cases hin:(i:Int)≤n
    ·rw[if_pos (by simp;omega)]
     simp only[bu (List.getElem?_eq_getElem hi),Option.bind_some,cm (show i<4611686018427387904 by omega)]
     split
     ·split
      ·exact .inr ⟨_,rfl,rfl⟩
      ·split
       ·exact .inr ⟨_,rfl,rfl⟩
       ·exact .inl ⟨_,rfl,⟨i+1,rfl,by omega,by omega⟩,by omega⟩
     ·exact .inl ⟨_,rfl,⟨i+1,rfl,by omega,by omega⟩,by omega⟩
    ·rw[if_neg (by simp;omega)]
     exact .inr ⟨_,rfl,trivial⟩
   ·rw[if_neg (by simp;omega)]
    exact .inr ⟨_,rfl,trivial⟩)
 rw[hr]
 simp only[Option.bind_some]
 cases r with
 | inl u=>exact⟨_,rfl,fun h=>by simpa using h⟩
 | inr b=>subst hp;exact⟨_,rfl,fun h=>by cases h⟩
theorem XY {l:eP} (hl:l.aZ.length<4611686018427387904):∃b,qL l=some b∧(b=true→(l.aZ.length:Int)≤12):=by
 unfold qL
 obtain⟨b,hb,hb2⟩:=Wo (ts:=l.aZ) 12 hl (by omega)
 rw[hb]
 simp only[Option.bind_some]
 cases b with
 | false=>exact⟨_,rfl,fun h=>(by cases h)⟩
 | true =>
  simp only[if_true]
  split
  ·exact⟨_,rfl,fun _=>hb2 rfl⟩
  ·exact⟨_,rfl,fun h=>(by cases h)⟩
def pE (L:Nat) (spans:List cr) (j:Nat):Option aB:=spans[j]?.map fun s=>⟨((L+j:Nat):Int),s⟩
def bad (L:Nat) (vs:List Int) (spans:List cr) (j:Nat):Option bg :=
 match spans[j]? with
 | some s=>if sH s (vs.getD j 0) then none else some ⟨((L+j:Nat):Int),2⟩
 | none=>none
def Mc (w:List aj) (root:Int) (L n:Nat) (pth:Nat→List Int):Prop:=∀j,j<n→lB w (pth j)∧(pth j).head? = some root∧(pth j).getLast? = some ((L+j:Nat):Int)∧(pth j).length≤2001
theorem IE {L:Nat} {f:Nat→aL} (hf:∀k,(f k).ck=((L+k:Nat):Int)):∀ {sel:List Nat} {j:Nat},j∈sel→(sel.map f).find? (fun x=>x.ck==((L+j:Nat):Int))=some (f j)
 | [],j,h=>by cases h
 | k::sel,j,h=>by
  by_cases hk:k=j
  ·subst hk
   rw[List.map_cons,List.find?_cons_of_pos (p:=fun x:aL=>x.ck==((L+k:Nat):Int)) (by simp[hf])]
  ·rw[List.map_cons,List.find?_cons_of_neg (p:=fun x:aL=>x.ck==((L+j:Nat):Int)) (by simp[hf];omega)]
   rcases List.mem_cons.1 h with h|h
   ·exact absurd h.symm hk
   ·exact IE hf h
theorem TX {L:Nat} {spans:List cr} {sel:List Nat} {j:Nat} (hj:j∈sel) (value:Int):off (sel.filterMap (pE L spans)) ((L+j:Nat):Int) value=(match spans[j]? with|some s => !sH s value|none=>false):=by
 unfold off
 cases hs:spans[j]? with
 | none =>
  simp only
  rw[List.any_eq_false]
  intro m hm
  obtain⟨k,hk,hkm⟩:=List.mem_filterMap.1 hm
  unfold pE at hkm
  rw[Option.map_eq_some_iff]at hkm
  obtain⟨s,h1,rfl⟩:=hkm
  have:k≠j:=by rintro rfl;rw[hs]at h1;cases h1
  simp;omega
 | some s =>
  simp only
  have hmem:(⟨((L+j:Nat):Int),s⟩:aB)∈sel.filterMap (pE L spans):=List.mem_filterMap.2 ⟨j,hj,by unfold pE;rw[hs];rfl⟩
  cases hv:sH s value with
  | false =>
   simp only[Bool.not_false]
   rw[List.any_eq_true]
   exact⟨_,hmem,by simp[hv]⟩
  | true =>
   simp only[Bool.not_true]
   rw[List.any_eq_false]
   intro m hm
   obtain⟨k,hk,hkm⟩:=List.mem_filterMap.1 hm
   unfold pE at hkm
   rw[Option.map_eq_some_iff]at hkm
   obtain⟨s',h1,rfl⟩:=hkm
   by_cases hkj:k=j
   ·subst hkj;rw[hs]at h1;cases h1;simp[hv]
   ·simp;omega
theorem pA {α β:Type} {f g:α→Option β} : ∀ {l:List α},(∀x∈l,f x=g x)→l.filterMap f=l.filterMap g
 | [],_=>rfl
 | x::l,h=>by rw[List.filterMap_cons,List.filterMap_cons,h x List.mem_cons_self,pA fun y hy=>h y (List.mem_cons_of_mem _ hy)]
theorem rI {α β:Type} {f:α→Option β} {g:α→β} : ∀ {l:List α},(∀x∈l,f x=some (g x))→l.filterMap f=l.map g
 | [],_=>rfl
 | x::l,h=>by rw[List.filterMap_cons,h x List.mem_cons_self,List.map_cons,rI fun y hy=>h y (List.mem_cons_of_mem _ hy)]
section
variable {v:List aj} {ts:List ByteArray} {vs bs:List Int} {w:List aj} {root:Int} {leaves:List Int} {pth:Nat→List Int} {spans:List cr} {sel:List Nat}
open Classical in
theorem yT (h:po v ts vs bs w root leaves) (hp:Mc w root v.length ts.length pth) (h1:∀j∈sel,j<ts.length) {total:Int} {j:Nat} (hj:j∈sel) :
  sQ w root total (tB (pR ts vs bs) (List.range ts.length)) (sel.map fun k=>fR w (pth k) v.length ts vs bs k) (sel.filterMap (pE v.length spans)) ((v.length+j:Nat):Int)=if total=rm (pR ts vs bs) (List.range ts.length) then bad v.length vs spans j else some ⟨((v.length+j:Nat):Int),1⟩:=by
 have hjn:=h1 j hj
 have hs:=PU h hjn (x:=fR w (pth j) v.length ts vs bs j) rfl total (tB (pR ts vs bs) (List.range ts.length))
 obtain⟨p1,p2,p3,-⟩:=hp j hjn
 have hs':tz w root total (tB (pR ts vs bs) (List.range ts.length)) (fR w (pth j) v.length ts vs bs j)↔total=rm (pR ts vs bs) (List.range ts.length):=hs.trans ⟨fun h=>h.2.1,fun h=>⟨⟨p1,p2,p3⟩,h,rfl,rfl,rfl,rfl⟩⟩
 have hr:oR w root total (tB (pR ts vs bs) (List.range ts.length)) ((v.length+j:Nat):Int) (sel.map fun k=>fR w (pth k) v.length ts vs bs k) (sel.filterMap (pE v.length spans))=if total=rm (pR ts vs bs) (List.range ts.length) then (if (match spans[j]? with|some s => !sH s (vs.getD j 0)|none=>false)=true then 2 else -1) else 1:=by
  unfold oR
  rw[IE (fun k=>rfl) hj]
  simp only
  rw[TX hj]
  by_cases ht:total=rm (pR ts vs bs) (List.range ts.length)
  ·rw[if_pos (hs'.2 ht),if_pos ht]
   rfl
  ·rw[if_neg (fun h=>ht (hs'.1 h)),if_neg ht]
 unfold sQ
 by_cases ht:total=rm (pR ts vs bs) (List.range ts.length)
 ·rw[if_pos ht]at hr ⊢
  unfold bad
  cases hsp:spans[j]? with
  | none =>
   rw[hsp]at hr
   simp only[Bool.false_eq_true,if_false]at hr
   rw[if_pos hr]
  | some s =>
   rw[hsp]at hr
   cases hv:sH s (vs.getD j 0) with
   | true =>
    simp only[hv,Bool.not_true,Bool.false_eq_true,if_false]at hr
    rw[if_pos hr]
    show none=(if sH s (vs.getD j 0)=true then none else _)
    rw[if_pos hv]
   | false =>
    simp only[hv,Bool.not_false,if_true]at hr
    rw[if_neg (by rw[hr];decide),hr]
    show _=(if sH s (vs.getD j 0)=true then none else _)
    rw[if_neg (by rw[hv];decide)]
 ·rw[if_neg ht]at hr ⊢
  rw[if_neg (by rw[hr];decide),hr]
open Classical in
theorem Vy (h:po v ts vs bs w root leaves) (hp:Mc w root v.length ts.length pth) (h1:∀j∈sel,j<ts.length) (h2:sel.Nodup) (hlen:sel.length≤1000) (h3:∀j∈sel,∀s,spans[j]? = some s→tA s∧sR s=true) (total:Int) :
  ep ⟨w⟩ root total (tB (pR ts vs bs) (List.range ts.length)) (sel.map fun j=>((v.length+j:Nat):Int)) (sel.map fun k=>fR w (pth k) v.length ts vs bs k) (sel.filterMap (pE v.length spans))=some (if total=rm (pR ts vs bs) (List.range ts.length) then sel.filterMap (bad v.length vs spans) else sel.map fun j=>⟨((v.length+j:Nat):Int),1⟩,0):=by
 have hle:=h.le
 obtain⟨i,hi,hlt,-⟩:=h.lt
 have hops:R0 (sel.map fun k=>fR w (pth k) v.length ts vs bs k):=⟨by simp;omega,fun x hx=>by
  obtain⟨k,hk,rfl⟩:=List.mem_map.1 hx
  have hv:=(h.leaf k (h1 k hk)).2.2.2.1
  have hpl:=(hp k (h1 k hk)).2.2.2
  simp only[pR]at hv
  exact⟨by simp only[fR];omega,by simp only[fR];omega,by simp only[fR];omega⟩⟩
 have hmem:∀m∈sel.filterMap (pE v.length spans),tA m.bG∧sR m.bG=true:=fun m hm=>by
  obtain⟨k,hk,hkm⟩:=List.mem_filterMap.1 hm
  unfold pE at hkm
  rw[Option.map_eq_some_iff]at hkm
  obtain⟨s,g1,rfl⟩:=hkm
  exact h3 k hk s g1
 have hms:RL (sel.filterMap (pE v.length spans)):=⟨by have:=List.length_filterMap_le (pE v.length spans) sel;omega,fun m hm=>(hmem m hm).1⟩
 rw[Rx hops hms (by simp;omega)]
 unfold LA
 rw[if_pos ⟨h.sound,by omega,by omega⟩,if_pos (List.all_eq_true.2 fun m hm=>(hmem m hm).2),if_pos (show (sel.map fun j=>((v.length+j:Nat):Int)).Nodup from List.pairwise_map.2 (h2.imp fun hab=>by omega)),List.filterMap_map]
 congr 2
 by_cases ht:total=rm (pR ts vs bs) (List.range ts.length)
 ·rw[if_pos ht]
  refine pA fun j hj =>?_
  rw[Function.comp_apply,yT h hp h1 hj,if_pos ht]
 ·rw[if_neg ht]
  refine rI fun j hj =>?_
  rw[Function.comp_apply,yT h hp h1 hj,if_neg ht]
end
theorem paths {v:List aj} {l:eP} {w:List aj} {root:Int} {leaves:List Int} (h:po v l.aZ l.aQ l.bt w root leaves) :
  ∃pth:Nat→List Int,Mc w root v.length l.aZ.length pth∧∀j,j<l.aZ.length→jo ⟨w⟩ root leaves l (j:Int)=some (fR w (pth j) v.length l.aZ l.aQ l.bt j):=by
 have key:∀j,∃p,j<l.aZ.length→jo ⟨w⟩ root leaves l (j:Int)=some (fR w p v.length l.aZ l.aQ l.bt j)∧lB w p∧p.head? = some root∧p.getLast? = some ((v.length+j:Nat):Int)∧p.length≤2001:=fun j=>by
  by_cases hj:j<l.aZ.length
  ·obtain⟨p,hp⟩:=T1 h hj
   exact⟨p,fun _=>hp⟩
  ·exact⟨[],fun h=>absurd h hj⟩
 exact⟨fun j=>Classical.choose (key j),fun j hj=>(Classical.choose_spec (key j) hj).2,fun j hj=>(Classical.choose_spec (key j) hj).1⟩
structure FR (L:Nat) (vs:List Int) (spans:List cr) (op:Nat→aL) (i:Nat) (asked:List Int) (ops:List aL) (ms:List aB) (want:List bg) (sel:List Nat):Prop where
 lt:∀j∈sel,j<i
 nodup:sel.Nodup
 len:sel.length≤i
 asked:asked=sel.map fun j=>((L+j:Nat):Int)
 ops:ops=sel.map op
 ms:ms=sel.filterMap (pE L spans)
 want:want=sel.filterMap (bad L vs spans)
 ok:∀j∈sel,∀s,spans[j]? = some s→tA s∧sR s=true
theorem FR.skip {L:Nat} {vs:List Int} {spans:List cr} {op:Nat→aL} {i:Nat} {asked:List Int} {ops:List aL} {ms:List aB} {want:List bg} {sel:List Nat} (h:FR L vs spans op i asked ops ms want sel):FR L vs spans op (i+1) asked ops ms want sel :=
 ⟨fun j hj=>by have:=h.lt j hj;omega,h.nodup,by have:=h.len;omega,h.asked,h.ops,h.ms,h.want,h.ok⟩
theorem FR.take {L:Nat} {vs:List Int} {spans:List cr} {op:Nat→aL} {i:Nat} {asked:List Int} {ops:List aL} {ms:List aB} {want:List bg} {sel:List Nat} (h:FR L vs spans op i asked ops ms want sel) (hok:∀s,spans[i]? = some s→tA s∧sR s=true) :
  FR L vs spans op (i+1) (asked++[((L+i:Nat):Int)]) (ops++[op i]) (ms++(pE L spans i).toList) (want++(bad L vs spans i).toList) (sel++[i]) where
 lt j hj:=by
  rcases List.mem_append.1 hj with hj|hj
  ·have:=h.lt j hj;omega
  ·simp at hj;omega
 nodup:=List.nodup_append.2 ⟨h.nodup,by simp,fun a ha b hb=>by simp at hb;have:=h.lt a ha;omega⟩
 len:=by have:=h.len;simp;omega
 asked:=by rw[h.asked];simp
 ops:=by rw[h.ops];simp
 ms:=by rw[h.ms,List.filterMap_append];cases hm:pE L spans i<;>simp[hm]
 want:=by rw[h.want,List.filterMap_append];cases hm:bad L vs spans i<;>simp[hm]
 ok j hj:=by
  rcases List.mem_append.1 hj with hj|hj
  ·exact h.ok j hj
  ·simp at hj;subst hj;exact hok
theorem I6 {v:List aj} {l:eP} {w:List aj} {root:Int} {leaves:List Int} (B:po v l.aZ l.aQ l.bt w root leaves) {pth:Nat→List Int} (hp:∀j,j<l.aZ.length→jo ⟨w⟩ root leaves l (j:Int)=some (fR w (pth j) v.length l.aZ l.aQ l.bt j)) (bits:Int) (spans:List cr) :
  ∃r,aW (eF l bits spans true (⟨w⟩,root,leaves,true)) (0,[],[],[],[])=some r∧(match r with | .inr b=>b=true | .inl (asked,ops,ms,want)=>∃sel,FR v.length l.aQ spans (fun k=>fR w (pth k) v.length l.aZ l.aQ l.bt k) l.aZ.length asked ops ms want sel):=by
 have hle:=B.le
 have hlv:leaves.length=l.aZ.length:=by rw[B.leaves,wL]
 refine fC (body:=eF l bits spans true (⟨w⟩,root,leaves,true)) (fun s=>∃i:Nat,s.1=i∧i≤l.aZ.length∧∃sel,FR v.length l.aQ spans (fun k=>fR w (pth k) v.length l.aZ l.aQ l.bt k) i s.2.1 s.2.2.1 s.2.2.2.1 s.2.2.2.2 sel) (fun s=>(l.aZ.length-s.1).toNat)
  (fun r=>(match r with | .inr b=>b=true | .inl (asked,ops,ms,want)=>∃sel,FR v.length l.aQ spans (fun k=>fR w (pth k) v.length l.aZ l.aQ l.bt k) l.aZ.length asked ops ms want sel)) (s:=(0,[],[],[],[])) ⟨0,rfl,by omega,[],⟨fun j hj=>(by cases hj),by simp,by simp,rfl,rfl,rfl,rfl,fun j hj=>(by cases hj)⟩⟩ (by have:FU=1000000000000000000000000:=rfl;simp only;omega) ?_
 rintro⟨s,asked,ops,ms,want⟩ ⟨i,rfl,h1,sel,hg⟩
 dsimp only at hg ⊢
 by_cases hi:i<l.aZ.length
 ·have hlf:leaves[i]? = some ((v.length+i:Nat):Int):=by rw[B.leaves];exact RF hi
  have hal:asked.length≤64:=by rw[hg.asked,List.length_map];have:=hg.len;omega
  have hol:ops.length≤64:=by rw[hg.ops,List.length_map];have:=hg.len;omega
  have hml:ms.length≤64:=by rw[hg.ms];have:=List.length_filterMap_le (pE v.length spans) sel;have:=hg.len;omega
  have hwl:want.length≤64:=by rw[hg.want];have:=List.length_filterMap_le (bad v.length l.aQ spans) sel;have:=hg.len;omega
  have hvi:l.aQ[i]? = some (l.aQ[i]'(by rw[B.vlen];exact hi)):=List.getElem?_eq_getElem _
  have hvg:l.aQ.getD i 0=l.aQ[i]'(by rw[B.vlen];exact hi):=by simp[List.getD,hvi]
  have hvr:=(B.leaf i hi).2.2.2.1
  simp only[pR]at hvr
  have hsh:∃q,uC .u16 bits (i:Int)=some q:=by unfold uC;rw[if_neg (by omega)];exact⟨_,rfl⟩
  obtain⟨q,hq⟩:=hsh
  simp only[eF]
  rw[if_pos (by simp;omega),hq]
  simp only[Option.bind_some]
  by_cases hb:(mv .and .u16 q 1==0)=true
  ·rw[if_pos hb]
   exact .inl ⟨_,rfl,⟨i+1,cm (by omega),by omega,sel,hg.skip⟩,by simp only;rw[cm (by omega)];omega⟩
  ·rw[if_neg hb,bu hlf]
   simp only[Option.bind_some]
   rw[kq (by simp;omega) (by decide),hp i hi]
   simp only[Option.bind_some]
   rw[kq (by simp;omega) (by decide)]
   simp only[Option.bind_some]
   by_cases hsp:i<spans.length
   ·have hs:spans[i]? = some spans[i]:=List.getElem?_eq_getElem hsp
    rw[if_pos (by simp;omega),bu hs]
    simp only[Option.bind_some]
    obtain⟨b,hb1,hb2⟩:=Wn spans[i]
    rw[hb1]
    simp only[Option.bind_some]
    cases b with
    | false =>
     simp only[Bool.not_false,if_true,Option.bind_some]
     exact .inr ⟨_,rfl,rfl⟩
    | true =>
     have hok:=hb2.1 rfl
     simp only[Bool.not_true,Bool.false_eq_true,if_false]
     rw[(ym hok).1]
     simp only[Option.bind_some]
     cases hR:sR spans[i] with
     | false =>
      simp only[Bool.not_false,if_true]
      exact .inr ⟨_,rfl,rfl⟩
     | true =>
      simp only[Bool.not_true,Bool.false_eq_true,if_false]
      rw[kq (by simp;omega) (by decide)]
      simp only[Option.bind_some]
      rw[bu hvi]
      simp only[Option.bind_some]
      rw[XM (by omega)]
      simp only[Option.bind_some]
      rw[(Oc hok (by omega)).1]
      simp only[Option.bind_some]
      have htake:=hg.take (fun s hs'=>by rw[hs]at hs';cases hs';exact⟨hok,hR⟩)
      have hme:(pE v.length spans i).toList=[⟨((v.length+i:Nat):Int),spans[i]⟩]:=by unfold pE;rw[hs];rfl
      rw[hme]at htake
      cases hH:sH spans[i] (l.aQ[i]'(by rw[B.vlen];exact hi)) with
      | true =>
       have hbad:(bad v.length l.aQ spans i).toList=[]:=by unfold bad;rw[hs,hvg];simp[hH]
       rw[hbad,List.append_nil]at htake
       simp only[Bool.not_true,Bool.false_eq_true,if_false]
       exact .inl ⟨_,rfl,⟨i+1,cm (by omega),by omega,_,htake⟩,by simp only;rw[cm (by omega)];omega⟩
      | false =>
       have hbad:(bad v.length l.aQ spans i).toList=[⟨((v.length+i:Nat):Int),2⟩]:=by unfold bad;rw[hs,hvg];simp[hH]
       rw[hbad]at htake
       simp only[Bool.not_false,if_true]
       rw[kq (by simp;omega) (by decide)]
       simp only[Option.bind_some]
       exact .inl ⟨_,rfl,⟨i+1,cm (by omega),by omega,_,htake⟩,by simp only;rw[cm (by omega)];omega⟩
   ·have hs:spans[i]? = none:=List.getElem?_eq_none (by omega)
    rw[if_neg (by simp;omega)]
    have htake:=hg.take (fun s hs'=>by rw[hs]at hs';cases hs')
    have hme:(pE v.length spans i).toList=[]:=by unfold pE;rw[hs];rfl
    have hbad:(bad v.length l.aQ spans i).toList=[]:=by unfold bad;rw[hs];rfl
    rw[hme,hbad,List.append_nil,List.append_nil]at htake
    exact .inl ⟨_,rfl,⟨i+1,cm (by omega),by omega,_,htake⟩,by simp only;rw[cm (by omega)];omega⟩
 ·have:i=l.aZ.length:=by omega
  subst this
  refine .inr ⟨.inl (asked,ops,ms,want),?_,sel,hg⟩
  simp only[eF]
  rw[if_neg (by simp;omega)]
theorem OR (v:aw) (l:eP) (bits:Int) (spans:List cr) (h0:v.ag.length*48≤140737488351232) (h1:l.aZ.length*16≤140737488351232):er v l bits spans=some true:=by
 obtain⟨vl⟩:=v
 unfold er
 rw[Sj]
 simp only[Option.bind_some]
 obtain⟨b,hb,-⟩:=T.Qe ⟨vl⟩ 20 (by simp only at h0 ⊢;omega)
 rw[hb]
 simp only[Option.bind_some]
 cases b with
 | false=>rfl
 | true =>
 simp only[Bool.not_true,Bool.false_eq_true,if_false]
 obtain⟨c,hc,-⟩:=XY (l:=l) (by omega)
 rw[hc]
 simp only[Option.bind_some]
 cases c with
 | false=>rfl
 | true =>
 simp only[Bool.not_true,Bool.false_eq_true,if_false,Option.bind_some]
 by_cases hsp:(spans.length:Int)>12
 ·rw[if_pos (by simpa using hsp)]
 rw[if_neg (by simpa using hsp)]
 obtain⟨r,hr,hr2⟩:=PS (v:=vl) (l:=l) h1
 rw[hr]
 obtain⟨⟨w⟩,root,leaves,ok⟩:=r
 simp only[Option.bind_some]
 cases ok with
 | false=>rfl
 | true =>
 have hB:=hr2 rfl
 simp only at hB
 simp only[Bool.not_true,Bool.false_eq_true,if_false]
 obtain⟨pth,hp1,hp2⟩:=paths hB
 obtain⟨q,hq,hq2⟩:=I6 hB hp2 bits spans
 rw[hq]
 simp only[Option.bind_some]
 cases q with
 | inr b=>simp only at hq2;rw[hq2]
 | inl s =>
  obtain⟨asked,ops,ms,want⟩:=s
  simp only at hq2
  obtain⟨sel,hg⟩:=hq2
  obtain⟨g1,g2⟩:=hB.V2
  have hle:=hB.le
  simp only
  rw[g1,g2]
  simp only[Option.bind_some]
  rw[hg.asked,hg.ops,hg.ms,Vy hB hp1 hg.lt hg.nodup (by have:=hg.len;omega) hg.ok,if_pos rfl,hg.want]
  simp only[Option.bind_some,if_true,beq_self_eq_true]
  rw[Sd (by have:=List.length_filterMap_le (bad vl.length l.aQ spans) sel;have:=hg.len;omega)]
  simp
end Go.Proofs.YtpkahnkoecbndaaGreatDoor.P
