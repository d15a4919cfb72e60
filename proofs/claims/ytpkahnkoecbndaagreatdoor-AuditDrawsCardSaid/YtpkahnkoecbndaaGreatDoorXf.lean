/- Part of a proof, made small by a program (wip/mini.py). -/
import Derived.Test.YtpkahnkoecbndaaGreatDoorXe
namespace Go.Proofs.YtpkahnkoecbndaaGreatDoor.P.T
open Go.RowKit
set_option linter.unusedSimpArgs false
set_option linter.unusedVariables false
theorem RU {pre:List (List Int)} {row:List Int} {n:Int} {k:Nat} (hk:k≤100) (hkn:(k:Int)≤n) (hn:n≤1099511627776) (hl:row.length=k) (hr:qM row n) :
  aJ (iF n row) (0,tp pre n k)=some (tp (pre++[row]) n k):=by
 have hlen:(tp (pre++[row]) n k).length=(tp pre n k).length:=by rw[kg,kg]
 have:=oc (body:=iF n row) k (fun i=>((i:Int),(tp (pre++[row]) n k).take i++(tp pre n k).drop i)) (r:=tp (pre++[row]) n k) (by omega) (fun i hi=>by
   have hx:row[i]? = some (row[i]'(by omega)):=List.getElem?_eq_getElem (by omega)
   obtain⟨b1,b2⟩:=hr.2.2.2.2 i _ hx
   have hy:=PO hlen (i:=i) (by rw[kg];exact hi)
   rw[EX hi]at hy
   have c1:0≤s6 pre i % (n-(i:Nat)):=Int.emod_nonneg _ (by omega)
   have c2:s6 pre i % (n-(i:Nat))<n-(i:Nat):=Int.emod_lt_of_pos _ (by omega)
   unfold iF
   dsimp only
   rw[if_pos (by simp;omega)]
   simp only[cN hx,cN hy,Option.bind_some,b9 (show i<4611686018427387904 by omega)]
   rw[wrap64 (by omega) (by omega),wrap64 (by omega) (by omega),Nh (by omega) (by omega)]
   simp only[Option.bind_some,Int.toNat_natCast]
   rw[QI hlen (by
    rw[EX hi,wO]
    have:row.getD i 0=row[i]'(by omega):=by simp[List.getD,hx]
    rw[this,Int.emod_add_emod])]) (by
   unfold iF
   dsimp only
   rw[if_neg (by simp;omega)]
   have e1:(tp (pre++[row]) n k).take k=tp (pre++[row]) n k:=List.take_of_length_le (by rw[kg];omega)
   have e2:(tp pre n k).drop k=[]:=List.drop_eq_nil_of_le (by rw[kg];omega)
   rw[e1,e2,List.append_nil])
 simpa using this
open Classical in
theorem RV {rows:List (List Int)} {n k:Int} (h1:rows.length<4611686018427387904) (h2:∀r∈rows,r.length<4611686018427387904):kH rows n k=some (if QS rows n k then (tp rows n k.toNat,0) else ([],1)):=by
 unfold kH
 by_cases g1:k<0
 ·rw[if_pos (by simp;omega),if_neg (fun h=>by have:=h.1;omega)];rfl
 rw[if_neg (by simp;omega)]
 by_cases g2:k>100
 ·rw[if_pos (by simp;omega),if_neg (fun h=>by have:=h.2.1;omega)];rfl
 rw[if_neg (by simp;omega)]
 by_cases g3:n<k
 ·rw[if_pos (by simp;omega),if_neg (fun h=>by have:=h.2.2.1;omega)];rfl
 rw[if_neg (by simp;omega)]
 by_cases g4:n>1099511627776
 ·rw[if_pos (by simp;omega),if_neg (fun h=>by have:=h.2.2.2.1;omega)];rfl
 rw[if_neg (by simp;omega)]
 simp only[Option.bind_some]
 by_cases g5:(rows.length:Int)>400
 ·rw[if_pos (by simp;omega),if_neg (fun h=>by have:=h.2.2.2.2.1;omega)]
 rw[if_neg (by simp;omega)]
 obtain⟨K,rfl⟩:∃K:Nat,k=K:=⟨k.toNat,by omega⟩
 rw[UW (by omega) (by omega),← Uh n K]
 simp only[Option.bind_some,Int.toNat_natCast]
 obtain⟨r,hr,hp⟩:=oK (body:=mC rows n (K:Int)) (fun s=>∃i:Nat,s=((i:Int),tp (rows.take i) n K)∧i≤rows.length∧∀j x,j<i→rows[j]? = some x→(x.length:Int)=K∧qM x n) (fun s=>(rows.length-s.1).toNat)
  (fun r=>match r with | .inl l=>l=tp rows n K∧∀r∈rows,(r.length:Int)=K∧qM r n | .inr b=>b=([],1)∧¬ ∀r∈rows,(r.length:Int)=K∧qM r n) (s:=(0,tp [] n K)) ⟨0,rfl,by omega,fun j x h=>by omega⟩ (by have:FU=1000000000000000000000000:=rfl;dsimp only;omega)
  (by
   rintro s ⟨i,rfl,k1,k2⟩
   unfold mC
   dsimp only
   by_cases hi:i<rows.length
   ·rw[if_pos (by simp;omega)]
    have hx:rows[i]? = some rows[i]:=List.getElem?_eq_getElem hi
    simp only[cN hx,Option.bind_some]
    by_cases q1:(rows[i].length:Int)=K
    ·rw[if_neg (by simp[q1]),uL n (h2 _ (List.getElem_mem hi))]
     simp only[Option.bind_some]
     by_cases q2:qM rows[i] n
     ·rw[if_neg (by simp[q2]),RU (by omega) (by omega) (by omega) (by omega) q2]
      simp only[Option.bind_some,b9 (show i<4611686018427387904 by omega)]
      refine .inl ⟨_,rfl,⟨i+1,?_,by omega,fun j x hj hx' =>?_⟩,by omega⟩
      ·rw[List.take_succ_eq_append_getElem hi]
      ·by_cases hji:j=i
       ·subst hji;rw[hx]at hx';cases hx';exact⟨q1,q2⟩
       ·exact k2 j x (by omega) hx'
     ·rw[if_pos (by simp[q2])]
      exact .inr ⟨_,rfl,rfl,fun hall=>q2 (hall _ (List.getElem_mem hi)).2⟩
    ·rw[if_pos (by simp;omega)]
     simp only[Option.bind_some]
     rw[if_pos trivial]
     exact .inr ⟨_,rfl,rfl,fun hall=>q1 (hall _ (List.getElem_mem hi)).1⟩
   ·rw[if_neg (by simp;omega)]
    refine .inr ⟨_,rfl,?_,fun r hr =>?_⟩
    ·rw[List.take_of_length_le (by omega)]
    ·obtain⟨j,hj,rfl⟩:=List.getElem_of_mem hr
     exact k2 j _ (by omega) (List.getElem?_eq_getElem hj))
 rw[hr]
 simp only[Option.bind_some]
 cases r with
 | inl l =>
  obtain⟨rfl,hall⟩:=hp
  rw[if_pos ⟨by omega,by omega,by omega,by omega,by omega,hall⟩]
 | inr b =>
  obtain⟨rfl,hall⟩:=hp
  rw[if_neg (fun h=>hall h.2.2.2.2.2)]
theorem Qw {rows:List (List Int)} {n:Int} {k j:Nat} (hk:k≤100) (hkn:(k:Int)≤n) (hn:n≤1099511627776) (hj:j<k) (hl:rows.length≤400) (hr:∀r∈rows,(r.length:Int)=k∧qM r n) :
  aJ (lI rows n (j:Int)) (0,0)=some (s6 rows j % (n-(j:Nat))):=by
 have:=oc (body:=lI rows n (j:Int)) rows.length (fun i=>(s6 (rows.take i) j % (n-(j:Nat)),(i:Int))) (r:=s6 rows j % (n-(j:Nat))) (by omega) (fun i hi=>by
   have hx:rows[i]? = some rows[i]:=List.getElem?_eq_getElem hi
   obtain⟨q1,q2⟩:=hr _ (List.getElem_mem hi)
   have hjl:j<rows[i].length:=by omega
   have hy:rows[i][j]? = some rows[i][j]:=List.getElem?_eq_getElem hjl
   obtain⟨b1,b2⟩:=q2.2.2.2.2 j _ hy
   have c1:0≤s6 (rows.take i) j % (n-(j:Nat)):=Int.emod_nonneg _ (by omega)
   have c2:s6 (rows.take i) j % (n-(j:Nat))<n-(j:Nat):=Int.emod_lt_of_pos _ (by omega)
   unfold lI
   dsimp only
   rw[if_pos (by simp;omega)]
   simp only[cN hx,cN hy,Option.bind_some,b9 (show i<4611686018427387904 by omega)]
   rw[wrap64 (by omega) (by omega),wrap64 (by omega) (by omega),Nh (by omega) (by omega)]
   simp only[Option.bind_some]
   rw[List.take_succ_eq_append_getElem hi,wO]
   have:rows[i].getD j 0=rows[i][j]:=by simp[List.getD,hy]
   rw[this,Int.emod_add_emod]) (by
   unfold lI
   dsimp only
   rw[if_neg (by simp),List.take_length])
 simpa [s6] using this
open Classical in
theorem Qx {rows:List (List Int)} {n k:Int} (h1:rows.length<4611686018427387904) (h2:∀r∈rows,r.length<4611686018427387904):BE rows n k=some (if QS rows n k then (tp rows n k.toNat,0) else ([],1)):=by
 unfold BE
 by_cases g1:k<0
 ·rw[if_pos (by simp;omega),if_neg (fun h=>by have:=h.1;omega)];rfl
 rw[if_neg (by simp;omega)]
 by_cases g2:k>100
 ·rw[if_pos (by simp;omega),if_neg (fun h=>by have:=h.2.1;omega)];rfl
 rw[if_neg (by simp;omega)]
 by_cases g3:n<k
 ·rw[if_pos (by simp;omega),if_neg (fun h=>by have:=h.2.2.1;omega)];rfl
 rw[if_neg (by simp;omega)]
 by_cases g4:n>1099511627776
 ·rw[if_pos (by simp;omega),if_neg (fun h=>by have:=h.2.2.2.1;omega)];rfl
 rw[if_neg (by simp;omega)]
 simp only[Option.bind_some]
 by_cases g5:(rows.length:Int)>400
 ·rw[if_pos (by simp;omega),if_neg (fun h=>by have:=h.2.2.2.2.1;omega)]
 rw[if_neg (by simp;omega)]
 obtain⟨K,rfl⟩:∃K:Nat,k=K:=⟨k.toNat,by omega⟩
 have hs:=QF rows (body:=n9 rows n (K:Int)) (fun _ x=>if (x.length:Int)=K∧qM x n then none else some (([],1):List Int×Int)) h1 (fun i x hx=>by
  unfold n9
  have hi:=(List.getElem?_eq_some_iff.1 hx).1
  dsimp only
  rw[if_pos (by simp;omega)]
  simp only[cN hx,Option.bind_some,EE n (h2 _ (List.mem_of_getElem? hx)),b9 (show i<4611686018427387904 by omega)]
  by_cases q2:qM x n
  ·rw[if_neg (by simp[q2])]
   by_cases q1:(x.length:Int)=K
   ·rw[if_neg (by simp[q1]),if_pos ⟨q1,q2⟩]
   ·rw[if_pos (by simp;omega),if_neg (fun h=>q1 h.1)]
  ·rw[if_pos (by simp[q2]),if_neg (fun h=>q2 h.2)]) (by unfold n9;simp)
 rw[hs]
 cases hf:gX (fun _ x=>if (x.length:Int)=K∧qM x n then none else some (([],1):List Int×Int)) 0 rows with
 | some r =>
  obtain⟨j,x,e1,e2⟩:=jw hf
  by_cases q:(x.length:Int)=K∧qM x n
  ·rw[if_pos q]at e2;cases e2
  ·rw[if_neg q]at e2
   cases e2
   rw[if_neg (fun h=>q (h.2.2.2.2.2 x (List.mem_of_getElem? e1)))]
   rfl
 | none =>
  have hall:∀r∈rows,(r.length:Int)=K∧qM r n:=by
   intro r hr
   obtain⟨j,hj,rfl⟩:=List.getElem_of_mem hr
   have:=fQ.1 hf j _ (List.getElem?_eq_getElem hj)
   by_cases q:(rows[j].length:Int)=K∧qM rows[j] n
   ·exact q
   ·rw[if_neg q]at this;cases this
  rw[if_pos ⟨by omega,by omega,by omega,by omega,by omega,hall⟩]
  simp only[Option.bind_some,Int.toNat_natCast]
  have:=oc (body:=lH rows n (K:Int)) K (fun j=>((j:Int),(tp rows n K).take j)) (r:=tp rows n K) (by omega) (fun j hj=>by
   unfold lH
   dsimp only
   rw[if_pos (by simp;omega),Qw (by omega) (by omega) (by omega) hj (by omega) hall]
   simp only[Option.bind_some,b9 (show j<4611686018427387904 by omega)]
   rw[mN (by simp[kg];omega) (by omega)]
   simp only[Option.bind_some]
   have hjl:j<(tp rows n K).length:=by rw[kg];exact hj
   rw[List.take_succ_eq_append_getElem hjl]
   have e:=EX (rows:=rows) (n:=n) hj
   rw[List.getElem?_eq_getElem hjl,Option.some.injEq]at e
   rw[e]) (by
   unfold lH
   dsimp only
   rw[if_neg (by simp),List.take_of_length_le (by rw[kg];omega)])
  have this':aJ (lH rows n (K:Int)) (0,[])=some (tp rows n K):=by simpa using this
  rw[this']
  rfl
end Go.Proofs.YtpkahnkoecbndaaGreatDoor.P.T
namespace Go.Proofs.YtpkahnkoecbndaaGreatDoor.P.T
open Go.RowKit
set_option linter.unusedSimpArgs false
set_option linter.unusedVariables false
def kD:List Int→Int→Int
 | [],x=>x
 | g::gs,x=>if g≤x then kD gs (x+1) else x
def hZ:List Int→Int→Nat
 | [],_=>0
 | g::gs,x=>if g≤x then hZ gs (x+1)+1 else 0
theorem lA:∀(gs:List Int) (x:Int),kD gs x=x+hZ gs x
 | [],x=>by simp[kD,hZ]
 | g::gs,x=>by
  simp only[kD,hZ]
  split
  ·rw[lA gs (x+1)];omega
  ·omega
theorem vJ:∀(gs:List Int) (x:Int),hZ gs x≤gs.length
 | [],x=>by simp[hZ]
 | g::gs,x=>by
  simp only[hZ]
  split
  ·have:=vJ gs (x+1);simp;omega
  ·omega
theorem Gc:∀(gs:List Int) (x:Int) (i:Nat),i<hZ gs x→∃g,gs[i]? = some g∧g≤x+i
 | [],x,i,h=>by simp[hZ]at h
 | g::gs,x,i,h=>by
  simp only[hZ]at h
  split at h
  ·cases i with
   | zero=>exact⟨g,rfl,by omega⟩
   | succ i =>
    obtain⟨g',h1,h2⟩:=Gc gs (x+1) i (by omega)
    exact⟨g',by simpa using h1,by omega⟩
  ·omega
theorem Bp:∀(gs:List Int) (x g:Int),gs[hZ gs x]? = some g→x+hZ gs x<g
 | [],x,g,h=>by simp[hZ]at h
 | a::gs,x,g,h=>by
  simp only[hZ]at h ⊢
  split at h
  ·rename_i ha
   have:=Bp gs (x+1) g (by simpa using h)
   rw[if_pos ha]
   omega
  ·rename_i ha
   rw[if_neg ha]
   simp only[List.getElem?_cons_zero,Option.some.injEq]at h
   omega
def yJ (l:List Int) (v:Int):Nat:=l.countP fun g=>decide (g≤v)
theorem Hg {l:List Int} {u v:Int} (h:u≤v):yJ l u≤yJ l v:=List.countP_mono_left fun x _ hx=>by simp at hx ⊢;omega
theorem Hf (g:Int) (gs:List Int) (v:Int):yJ (g::gs) v=yJ gs v+if g≤v then 1 else 0:=by
 unfold yJ
 rw[List.countP_cons]
 simp
theorem Pc {gs:List Int} {v:Int} (h:∀g∈gs,v<g):yJ gs v=0:=List.countP_eq_zero.2 fun x hx=>by have:=h x hx;simp;omega
theorem Bc:∀(gs:List Int) (x y:Int),y=x+yJ gs y→kD gs x≤y
 | [],x,y,h=>by simp[yJ]at h;simp[kD];omega
 | g::gs,x,y,h=>by
  rw[Hf]at h
  simp only[kD]
  split
  ·rename_i hg
   have hy:x≤y:=by split at h<;>omega
   rw[if_pos (by omega)]at h
   exact Bc gs (x+1) y (by omega)
  ·split at h<;>omega
theorem FZ (gs:List Int) (x:Int):x≤kD gs x:=by rw[lA];omega
theorem Hh:∀(gs:List Int) (x:Int),gs.Pairwise (· < ·)→yJ gs (kD gs x)=hZ gs x
 | [],x,_=>by simp[yJ,hZ]
 | g::gs,x,h=>by
  obtain⟨h1,h2⟩:=List.pairwise_cons.1 h
  rw[Hf]
  simp only[kD,hZ]
  split
  ·rename_i hg
   have:=FZ gs (x+1)
   rw[Hh gs (x+1) h2,if_pos (by omega)]
  ·rename_i hg
   rw[Pc (fun a ha=>by have:=h1 a ha;omega)]
def Ad (s:List Int×List Int) (x:Int):List Int×List Int:=(s.1++[kD s.2 x],s.2.take (hZ s.2 x)++([kD s.2 x]++s.2.drop (hZ s.2 x)))
def dr (row:List Int):List Int×List Int:=row.foldl Ad ([],[])
theorem u6 (row:List Int) (x:Int):dr (row++[x])=Ad (dr row) x:=by simp[dr]
theorem PX (g:List Int) (i:Nat) (v:Int):(g.take i++([v]++g.drop i)).Perm (g++[v]):=by
 have h:(g.take i++([v]++g.drop i)).Perm (v::(g.take i++g.drop i)):=List.perm_middle
 rw[List.take_append_drop]at h
 exact h.trans (List.perm_append_singleton v g).symm
theorem rn (row:List Int):(dr row).1.length=row.length∧(dr row).2.length=row.length∧(dr row).1.Perm (dr row).2∧(dr row).2.Pairwise (· < ·):=by
 have key:∀l:List Int,(dr l.reverse).1.length=l.length∧(dr l.reverse).2.length=l.length∧(dr l.reverse).1.Perm (dr l.reverse).2∧(dr l.reverse).2.Pairwise (· < ·):=by
  intro l
  induction l with
  | nil=>simp[dr]
  | cons x l ih =>
   obtain⟨i1,i2,i3,i4⟩:=ih
   rw[List.reverse_cons,u6]
   have hp:=vJ (dr l.reverse).2 x
   refine⟨by simp[Ad,i1],by simp[Ad];omega,?_,?_⟩
   ·exact (i3.append_right [_]).trans (PX _ _ _).symm
   ·simp only[Ad]
    have hs:((dr l.reverse).2.take (hZ (dr l.reverse).2 x)++(dr l.reverse).2.drop (hZ (dr l.reverse).2 x)).Pairwise (· < ·):=by rw[List.take_append_drop];exact i4
    obtain⟨s1,s2,s3⟩:=List.pairwise_append.1 hs
    have hv:=lA (dr l.reverse).2 x
    refine List.pairwise_append.2 ⟨s1,?_,?_⟩
    ·rw[List.singleton_append]
     refine List.pairwise_cons.2 ⟨fun b hb =>?_,s2⟩
     obtain⟨j,hj,rfl⟩:=List.getElem_of_mem hb
     rw[List.getElem_drop]
     have hlen:hZ (dr l.reverse).2 x+j<(dr l.reverse).2.length:=by simp at hj;omega
     have h0:hZ (dr l.reverse).2 x<(dr l.reverse).2.length:=by omega
     have e:=Bp (dr l.reverse).2 x _ (List.getElem?_eq_getElem h0)
     rcases Nat.eq_zero_or_pos j with hj0|hj0
     ·subst hj0
      simp only[Nat.add_zero]
      omega
     ·have:=(List.pairwise_iff_getElem.1 i4) _ _ h0 hlen (by omega)
      omega
    ·intro a ha b hb
     rw[List.singleton_append]at hb
     rcases List.mem_cons.1 hb with rfl|hb
     ·obtain⟨j,hj,rfl⟩:=List.getElem_of_mem ha
      rw[List.getElem_take]
      have hj':j<hZ (dr l.reverse).2 x:=by simp at hj;omega
      obtain⟨g,g1,g2⟩:=Gc _ _ _ hj'
      have hjl:j<(dr l.reverse).2.length:=by omega
      rw[List.getElem?_eq_getElem hjl,Option.some.injEq]at g1
      omega
     ·exact s3 a ha b hb
 have:=key row.reverse
 rw[List.reverse_reverse]at this
 simpa using this
theorem RR {gone:List Int} {x:Int} (h0:0≤x) (h1:x≤1099511627776) (hl:gone.length≤1000):aJ (iE gone) (x,0)=some (kD gone x,(hZ gone x:Int)):=by
 have hp:=vJ gone x
 have:=oc (body:=iE gone) (hZ gone x) (fun i=>(x+(i:Int),(i:Int))) (r:=(kD gone x,(hZ gone x:Int))) (by omega) (fun i hi=>by
   obtain⟨g,g1,g2⟩:=Gc gone x i hi
   unfold iE
   dsimp only
   rw[if_pos (by simp;omega)]
   simp only[cN g1,Option.bind_some]
   rw[if_pos (by simp;omega),wrap64 (by omega) (by omega),b9 (by omega)]
   have e:x+(i:Int)+1=x+((i+1:Nat):Int):=by omega
   rw[e]) (by
   unfold iE
   dsimp only
   by_cases hlt:hZ gone x<gone.length
   ·rw[if_pos (by simp;omega)]
    have hx:=List.getElem?_eq_getElem hlt
    have e:=Bp gone x _ hx
    simp only[cN hx,Option.bind_some]
    rw[if_neg (by simp;omega),lA]
   ·rw[if_neg (by simp;omega),lA])
 simpa using this
open Classical in
theorem RS {row:List Int} (n:Int) (hr:row.length<4611686018427387904):jB row n=some (if qM row n then ((dr row).1,0) else ([],1)):=by
 unfold jB
 rw[uL n hr]
 simp only[Option.bind_some]
 by_cases h:qM row n
 ·rw[if_neg (by simp[h]),if_pos h]
  obtain⟨k1,k2,k3,k4,k5⟩:=h
  have hm:IU 8 0 (row.length:Int) (0:Int)=some []:=by
   unfold IU
   have:=sN
   rw[if_pos ⟨by omega,by omega,by omega,by simp;omega⟩]
   rfl
  rw[hm]
  simp only[Option.bind_some]
  have:=oc (body:=iD row) row.length (fun i=>((i:Int),(dr (row.take i)).1,(dr (row.take i)).2)) (r:=(dr row).1) (by omega) (fun i hi=>by
    have hx:=List.getElem?_eq_getElem hi
    obtain⟨b1,b2⟩:=k5 i _ hx
    obtain⟨d1,d2,d3,d4⟩:=rn (row.take i)
    have hl:(row.take i).length=i:=by simp;omega
    unfold iD
    dsimp only
    rw[if_pos (by simp;omega)]
    simp only[cN hx,Option.bind_some]
    rw[RR b1 (by omega) (by omega)]
    simp only[Option.bind_some]
    rw[mN (by simp;omega) (by omega)]
    simp only[Option.bind_some]
    have hp:=vJ (dr (row.take i)).2 row[i]
    have hins:PW 8 (dr (row.take i)).2 (hZ (dr (row.take i)).2 row[i]:Int) [kD (dr (row.take i)).2 row[i]]=some ((dr (row.take i)).2.take (hZ (dr (row.take i)).2 row[i])++([kD (dr (row.take i)).2 row[i]]++(dr (row.take i)).2.drop (hZ (dr (row.take i)).2 row[i]))):=by
     unfold PW
     rw[if_pos ⟨by omega,by omega,by simp,by simp;omega⟩]
     simp
    rw[hins]
    simp only[Option.bind_some,b9 (show i<4611686018427387904 by omega)]
    rw[List.take_succ_eq_append_getElem hi,u6]
    rfl) (by
    unfold iD
    dsimp only
    rw[if_neg (by simp),List.take_length])
  have this':aJ (iD row) (0,[],[])=some (dr row).1:=by simpa [dr] using this
  rw[this']
  rfl
 ·rw[if_pos (by simp[h]),if_neg h]
theorem SC {out:List Int} {v:Int} (hl:out.length≤1000):aJ (nn out v) (0,0)=some (yJ out v:Int):=by
 have:=oc (body:=nn out v) out.length (fun i=>((yJ (out.take i) v:Int),(i:Int))) (r:=(yJ out v:Int)) (by omega) (fun i hi=>by
   have hx:=List.getElem?_eq_getElem hi
   have hc:yJ (out.take i) v≤(out.take i).length:=List.countP_le_length
   have hcl:(out.take i).length≤i:=by simp;omega
   unfold nn
   dsimp only
   rw[if_pos (by simp;omega)]
   simp only[cN hx,Option.bind_some,b9 (show i<4611686018427387904 by omega)]
   have e:yJ (out.take (i+1)) v=yJ (out.take i) v+if out[i]≤v then 1 else 0:=by
    rw[List.take_succ_eq_append_getElem hi]
    unfold yJ
    rw[List.countP_append,List.countP_cons]
    simp
   rw[e]
   by_cases hv:out[i]≤v
   ·rw[if_pos (by simp;omega),if_pos hv,b9 (by omega)]
   ·rw[if_neg (by simp;omega),if_neg hv];rfl) (by
   unfold nn
   dsimp only
   rw[if_neg (by simp),List.take_length])
 simpa [yJ] using this
theorem SD {out gone:List Int} {x:Int} (h0:0≤x) (h1:x≤1099511627776) (hl:out.length≤1000) (hp:out.Perm gone) (hs:gone.Pairwise (· < ·)):Gh out x=some (kD gone x):=by
 unfold Gh
 have hc:∀v,yJ out v=yJ gone v:=fun v=>hp.countP_eq _
 have hle:∀v,yJ out v≤1000:=fun v=>Nat.le_trans List.countP_le_length hl
 have hfix:kD gone x=x+yJ out (kD gone x):=by rw[hc,Hh gone x hs,lA]
 obtain⟨r,hr,rfl⟩:=oK (body:=uB out x) (fun s=>x≤s∧s≤kD gone x∧s≤x+yJ out s) (fun s=>(kD gone x-s).toNat) (fun r=>r=kD gone x) (s:=x) ⟨by omega,FZ _ _,by omega⟩
  (by have:=hle (kD gone x);have:FU=1000000000000000000000000:=rfl;omega) (by
   rintro s ⟨k1,k2,k3⟩
   have q1:=hle s
   have q2:=hle (kD gone x)
   have q3:=Hg (l:=out) k2
   unfold uB
   dsimp only
   rw[SC hl]
   simp only[Option.bind_some]
   rw[wrap64 (by omega) (by omega)]
   by_cases he:s=x+(yJ out s:Int)
   ·rw[if_pos (by simp;exact he)]
    refine .inr ⟨s,rfl,?_⟩
    have:=Bc gone x s (by rw[← hc];exact he)
    omega
   ·rw[if_neg (by simp;exact he)]
    refine .inl ⟨_,rfl,⟨by omega,by omega,?_⟩,by omega⟩
    have:=Hg (l:=out) (u:=s) (v:=x+(yJ out s:Int)) (by omega)
    omega)
 rw[hr]
 rfl
open Classical in
theorem Qt {row:List Int} (n:Int) (hr:row.length<4611686018427387904):BC row n=some (if qM row n then ((dr row).1,0) else ([],1)):=by
 unfold BC
 rw[EE n hr]
 simp only[Option.bind_some]
 by_cases h:qM row n
 ·rw[if_neg (by simp[h]),if_pos h]
  obtain⟨k1,k2,k3,k4,k5⟩:=h
  have:=oc (body:=lF row) row.length (fun i=>((i:Int),(dr (row.take i)).1)) (r:=(dr row).1) (by omega) (fun i hi=>by
    have hx:=List.getElem?_eq_getElem hi
    obtain⟨b1,b2⟩:=k5 i _ hx
    obtain⟨d1,d2,d3,d4⟩:=rn (row.take i)
    have hl:(row.take i).length=i:=by simp;omega
    unfold lF
    dsimp only
    rw[if_pos (by simp;omega)]
    simp only[cN hx,Option.bind_some]
    rw[SD b1 (by omega) (by omega) d3 d4]
    simp only[Option.bind_some]
    rw[mN (by simp;omega) (by omega)]
    simp only[Option.bind_some,b9 (show i<4611686018427387904 by omega)]
    rw[List.take_succ_eq_append_getElem hi,u6]
    rfl) (by
    unfold lF
    dsimp only
    rw[if_neg (by simp),List.take_length])
  have this':aJ (lF row) (0,[])=some (dr row).1:=by simpa [dr] using this
  rw[this']
  rfl
 ·rw[if_pos (by simp[h]),if_neg h]
def low (l:List Int) (y:Int):Nat:=l.countP fun g=>decide (g<y)
def fd (l:List Int):List Int:=(List.range l.length).map fun j=>l.getD j 0-(low (l.take j) (l.getD j 0):Int)
theorem JP {l:List Int} (hl:l.length*8≤140737488351232):il l=some (decide (¬l.Nodup)):=by
 unfold il iT bF ij zk
 simp only[Option.bind_some]
 unfold v7
 rw[if_pos hl]
 simp only[Option.bind_some]
 unfold Mc
 have hlen:=eL l
 rw[if_pos (by omega)]
 simp only[Option.bind_some]
 have hperm:(fl l).Perm l:=List.mergeSort_perm _ _
 have hsort:(fl l).Pairwise (fun a b=>decide (a≤b)=true):=List.pairwise_mergeSort (fun a b c h1 h2=>by simp at *;omega) (fun a b=>by simp;omega) l
 have hpos:∀(s:List Int) (h:s.length=s.length),(Lib.compact s).length≤s.length:=fun s _=>by
  unfold Lib.compact Lib.compactUpTo
  rw[List.length_map]
  refine Nat.le_trans (List.length_filter_le _ _) (by simp)
 by_cases hn:l.Nodup
 ·have hs:(fl l).Nodup:=hperm.nodup_iff.2 hn
  have:Lib.compact (fl l)=fl l:=Lib.compact_all _ fun j hj=>by
   unfold Lib.keeps
   by_cases h0:j=0
   ·simp[h0]
   ·have h1:j-1<(fl l).length:=by omega
    have:=(List.pairwise_iff_getElem.1 hs) (j-1) j h1 hj (by omega)
    simp only[decide_eq_true_eq]
    refine .inr ?_
    simp only[List.getElem!_toArray]
    rw[getElem!_pos (fl l) j hj,getElem!_pos (fl l) (j-1) h1]
    exact fun h=>this h.symm
  rw[this,hlen]
  simp[hn]
 ·have:(Lib.compact (fl l)).length<l.length:=by
   refine Nat.lt_of_le_of_ne (by rw[← hlen];exact hpos _ rfl) fun he=>hn (hperm.nodup_iff.1 ?_)
   unfold Lib.compact Lib.compactUpTo at he
   rw[List.length_map]at he
   have hall:=(List.length_filter_eq_length_iff (l:=List.range (fl l).length) (p:=Lib.keeps (fl l).toArray)).1 (by rw[he,List.length_range,hlen])
   refine List.pairwise_iff_getElem.2 fun i j hi hj hij =>?_
   have hk:=hall j (List.mem_range.2 hj)
   unfold Lib.keeps at hk
   simp only[decide_eq_true_eq]at hk
   have h1:j-1<(fl l).length:=by omega
   rcases hk with hk|hk
   ·omega
   ·simp only[List.getElem!_toArray]at hk
    rw[getElem!_pos (fl l) j hj,getElem!_pos (fl l) (j-1) h1]at hk
    have a2:=(List.pairwise_iff_getElem.1 hsort) (j-1) j h1 hj (by omega)
    simp only[decide_eq_true_eq]at a2
    by_cases hij':i=j-1
    ·subst hij';exact fun h=>hk h.symm
    ·have a1:=(List.pairwise_iff_getElem.1 hsort) i (j-1) hi h1 (by omega)
     simp only[decide_eq_true_eq]at a1
     omega
  simp[hn]
  omega
end Go.Proofs.YtpkahnkoecbndaaGreatDoor.P.T
namespace Go.Proofs.YtpkahnkoecbndaaGreatDoor.P.T
open Go.RowKit
set_option linter.unusedSimpArgs false
set_option linter.unusedVariables false
theorem uS {l:List Int} (hl:l.length≤1000):bd l=some l:=by
 unfold bd
 rw[mN (by simp;omega) (by omega)]
 rfl
theorem P8 {gs:List Int} {v:Int} (h:∀g∈gs,v≤g):low gs v=0:=List.countP_eq_zero.2 fun x hx=>by have:=h x hx;simp;omega
theorem P7 (g:Int) (gs:List Int) (v:Int):low (g::gs) v=low gs v+if g<v then 1 else 0:=by
 unfold low
 rw[List.countP_cons]
 simp
theorem Is:∀(gs:List Int) (x:Int),gs.Pairwise (· < ·)→low gs (kD gs x)=hZ gs x
 | [],x,_=>by simp[low,hZ]
 | g::gs,x,h=>by
  obtain⟨h1,h2⟩:=List.pairwise_cons.1 h
  rw[P7]
  simp only[kD,hZ]
  split
  ·rename_i hg
   have:=FZ gs (x+1)
   rw[Is gs (x+1) h2,if_pos (by omega)]
  ·rename_i hg
   rw[P8 (fun a ha=>by have:=h1 a ha;omega),if_neg (by omega)]
theorem Si (l:List Int) (y:Int):fd (l++[y])=fd l++[y-(low l y:Int)]:=by
 unfold fd
 rw[List.length_append,List.length_singleton,List.range_succ,List.map_append]
 congr 1
 ·apply List.map_congr_left
  intro j hj
  have hj':j<l.length:=List.mem_range.1 hj
  have e1:(l++[y]).getD j 0=l.getD j 0:=by simp[List.getD,List.getElem?_append_left hj']
  have e2:(l++[y]).take j=l.take j:=List.take_append_of_le_length (by omega)
  rw[e1,e2]
 ·simp
theorem Nw (row:List Int):(dr row).1.Nodup:=by
 obtain⟨_,_,h3,h4⟩:=rn row
 refine h3.nodup_iff.2 ?_
 exact h4.imp fun h=>by omega
theorem S1 (row:List Int):fd (dr row).1=row:=by
 have key:∀l:List Int,fd (dr l.reverse).1=l.reverse:=by
  intro l
  induction l with
  | nil=>simp[dr,fd]
  | cons x l ih =>
   obtain⟨_,_,h3,h4⟩:=rn l.reverse
   rw[List.reverse_cons,u6]
   simp only[Ad]
   rw[Si,ih]
   have e:low (dr l.reverse).1 (kD (dr l.reverse).2 x)=hZ (dr l.reverse).2 x:=by
    rw[← Is _ x h4]
    exact h3.countP_eq _
   rw[e,lA]
   congr 2
   omega
 have:=key row.reverse
 rwa [List.reverse_reverse]at this
theorem Ac {row:List Int} {n:Int} (h:∀i x,row[i]? = some x→0≤x∧x<n-(i:Nat)):∀v∈(dr row).1,0≤v∧v<n:=by
 have key:∀k,k≤row.length→∀v∈(dr (row.take k)).1,0≤v∧v<n:=by
  intro k
  induction k with
  | zero=>intro _ v hv;simp[dr]at hv
  | succ k ih =>
   intro hk v hv
   have hkl:k<row.length:=by omega
   rw[List.take_succ_eq_append_getElem hkl,u6]at hv
   simp only[Ad,List.mem_append,List.mem_singleton]at hv
   rcases hv with hv|rfl
   ·exact ih (by omega) v hv
   ·obtain⟨_,h2,_,_⟩:=rn (row.take k)
    have hp:=vJ (dr (row.take k)).2 row[k]
    obtain⟨b1,b2⟩:=h k _ (List.getElem?_eq_getElem hkl)
    have hl:(row.take k).length=k:=by simp;omega
    rw[lA]
    omega
 have:=key row.length (Nat.le_refl _)
 rwa [List.take_length]at this
end Go.Proofs.YtpkahnkoecbndaaGreatDoor.P.T
namespace Go.Proofs.YtpkahnkoecbndaaGreatDoor.P.T
open Go.RowKit
set_option linter.unusedSimpArgs false
set_option linter.unusedVariables false
theorem KO (a:List Int) (x:Int):eg (a++[x])=eg a++(Lib.itoa x++[59]):=by simp[eg]
def Lq (l:List Int):Prop:=∀x∈l,-9223372036854775808≤x∧x≤9223372036854775807
theorem xb:∀ {l:List Int},Lq l→(eg l).length≤22*l.length
 | [],_=>by simp[eg]
 | x::l,h=>by
  have h1:=Lib.itoa_length_le x (h x (by simp)).1 (h x (by simp)).2
  have h2:=xb (l:=l) fun y hy=>h y (by simp[hy])
  have e:eg (x::l)=Lib.itoa x++[59]++eg l:=by simp[eg]
  rw[e]
  simp
  omega
theorem El {l:List Int} (h:Lq l) (hl:l.length≤200):(lB l).length≤5000:=by
 have h1:=xb h
 have h2:=Lib.itoa_length_le (l.length:Int) (by omega) (by omega)
 unfold lB
 simp
 omega
def E1 (l:List Int):ByteArray:=⟨(lB l).toArray⟩
theorem we {l:List Int} (h:Lq l) (hl:l.length≤200):(E1 l).size≤5000:=by
 have:=El h hl
 simpa [E1,ByteArray.size] using this
theorem y6 {l:List Int} (h:Lq l) (hl:l.length≤200):gI l=some (E1 l):=by
 unfold gI sY MB
 have:=El h hl
 rw[if_pos ⟨h,by omega,by omega⟩]
 rfl
theorem VW (a b:List UInt8):(⟨a.toArray⟩:ByteArray)++⟨b.toArray⟩=⟨(a++b).toArray⟩:=by
 apply ByteArray.ext
 simp
theorem O6 {a b:List UInt8} (h:a.length+b.length≤1000000):E8 ⟨a.toArray⟩ ⟨b.toArray⟩=some ⟨(a++b).toArray⟩:=by
 unfold E8
 have e:IntKind.i64.max=9223372036854775807:=by decide
 rw[if_neg (by simp only[e,ByteArray.size,List.size_toArray];omega),VW]
theorem uQ {a b:List UInt8} {x y:ByteArray} (hx:x=⟨a.toArray⟩) (hy:y=⟨b.toArray⟩) (h:a.length+b.length≤1000000):E8 x y=some ⟨(a++b).toArray⟩:=by
 subst hx;subst hy
 exact O6 h
theorem SB {x:Int} (h0 : -9223372036854775808≤x) (h1:x≤9223372036854775807):Gg x=some ⟨(Lib.itoa x++[59]).toArray⟩:=by
 have hlen:=Lib.itoa_length_le x h0 h1
 unfold Gg nk Fb
 by_cases hx:x<0
 ·rw[if_pos (by simp[hx]),if_pos (by omega)]
  simp only[Option.bind_some]
  have e:Lib.itoa x=45::Lib.decDigits x.natAbs:=by unfold Lib.itoa;rw[if_pos hx]
  rw[e]at hlen
  simp only[List.length_cons]at hlen
  rw[uQ (a:=[45]) (b:=Lib.decDigits x.natAbs) rfl rfl (by simp;omega)]
  simp only[Option.bind_some]
  rw[uQ (a:=[45]++Lib.decDigits x.natAbs) (b:=[59]) rfl rfl (by simp;omega),e]
  rfl
 ·have hw:IntKind.i64.wrap (0-x)=0-x:=wrap64 (by omega) (by omega)
  rw[if_neg (by simp;omega),hw,if_pos (by omega)]
  simp only[Option.bind_some]
  have e:Lib.itoa x=Lib.decDigits (0-x).natAbs:=by
   unfold Lib.itoa
   rw[if_neg hx]
   congr 1
   omega
  rw[← e,uQ (a:=Lib.itoa x) (b:=[59]) rfl rfl (by simp;omega)]
  rfl
theorem Qy {l:List Int} (h:Lq l) (hl:l.length≤200):BF l=some (E1 l):=by
 unfold BF Ji nk Fb
 have hw:IntKind.i64.wrap (0-(l.length:Int))=0-(l.length:Int):=wrap64 (by omega) (by omega)
 have hlen:=Lib.itoa_length_le (l.length:Int) (by omega) (by omega)
 have e:Lib.itoa (l.length:Int)=Lib.decDigits (0-(l.length:Int)).natAbs:=by
  unfold Lib.itoa
  rw[if_neg (by omega)]
  congr 1
  omega
 rw[hw,if_pos (by omega)]
 simp only[Option.bind_some]
 rw[← e,uQ (a:=Lib.itoa l.length) (b:=[91]) rfl rfl (by simp;omega)]
 simp only[Option.bind_some]
 have hpre:∀i,(eg (l.take i)).length≤22*i:=fun i=>Nat.le_trans (xb fun x hx=>h x (List.mem_of_mem_take hx)) (by simp;omega)
 have:=oc (body:=lE l) l.length (fun i=>(⟨(Lib.itoa l.length++[91]++eg (l.take i)).toArray⟩,(i:Int))) (r:=⟨(Lib.itoa l.length++[91]++eg l).toArray⟩) (by omega) (fun i hi=>by
   have hx:=List.getElem?_eq_getElem hi
   obtain⟨b1,b2⟩:=h _ (List.getElem_mem hi)
   have h3:=Lib.itoa_length_le _ b1 b2
   have h4:=hpre i
   unfold lE
   dsimp only
   rw[if_pos (by simp;omega)]
   simp only[cN hx,Option.bind_some]
   rw[SB b1 b2]
   simp only[Option.bind_some]
   rw[O6 (by simp;omega)]
   simp only[Option.bind_some,b9 (show i<4611686018427387904 by omega)]
   have e2:eg (l.take (i+1))=eg (l.take i)++(Lib.itoa l[i]++[59]):=by
    rw[List.take_succ_eq_append_getElem hi,KO]
   rw[e2]
   simp only[List.append_assoc]) (by
   unfold lE
   dsimp only
   rw[if_neg (by simp),List.take_length])
 have h5:=hpre l.length
 rw[List.take_length]at h5
 have this':aJ (lE l) (⟨(Lib.itoa l.length++[91]).toArray⟩,0)=some ⟨(Lib.itoa l.length++[91]++eg l).toArray⟩:=by simpa [eg] using this
 rw[this']
 simp only[Option.bind_some]
 rw[uQ (a:=Lib.itoa l.length++[91]++eg l) (b:=[93]) rfl rfl (by simp;omega)]
 simp only[Option.bind_some,E1,lB]
 congr 2
 simp
end Go.Proofs.YtpkahnkoecbndaaGreatDoor.P.T
namespace Go.Proofs.YtpkahnkoecbndaaGreatDoor.P.T
open Go.RowKit
set_option linter.unusedSimpArgs false
set_option linter.unusedVariables false
theorem PV (n h:Int):xl n 0 h=some (decide (0≤n∧n≤h)):=by
 rw[← oV]
 rfl
theorem N5 (x:av):xi x=some (decide (x.ca = -1∧x.bK = -1)):=by
 unfold xi
 by_cases h1:x.ca = -1
 ·rw[if_pos (by simp[h1])]
  by_cases h2:x.bK = -1<;>simp[h1,h2]
 ·rw[if_neg (by simp[h1])];simp[h1]
theorem Qz (x:av):BB x=some (decide (jx x)):=by
 unfold BB
 simp only[N5,PV,Option.bind_some]
 by_cases h1:x.ca = -1∧x.bK = -1
 ·rw[if_pos (decide_eq_true h1)]
  by_cases h3:(x.ct.size:Int)≤8000
  ·rw[if_pos (decide_eq_true h3)]
   by_cases h4:0≤x.aN∧x.aN≤1099511627776
   ·rw[if_pos (decide_eq_true h4)]
    congr 1
    rw[decide_eq_decide]
    exact⟨fun h=>⟨h1.1,h1.2,h3,h4,h⟩,fun h=>h.2.2.2.2⟩
   ·rw[if_neg (by simpa using h4),decide_eq_false (fun h:jx x=>h4 h.2.2.2.1)]
  ·rw[if_neg (by simpa using h3),decide_eq_false (fun h:jx x=>h3 h.2.2.1)]
 ·rw[if_neg (by simp;omega),decide_eq_false (fun h:jx x=>h1 ⟨h.1,h.2.1⟩)]
def Qo (l:List av) (x:av) (u v:av):Prop:=P.idx l x.ca=some u∧P.idx l x.bK=some v∧x.ct=ByteArray.mk #[]∧x.aN=IntKind.i64.wrap (u.aN+v.aN)∧x.aU=IntKind.i64.wrap (u.aU+v.aU)∧x.aN≤1125899906842624∧x.aU≤1125899906842624
theorem N2 {l:List av} {x:av} : rY l x.ca x.bK=(x,0)↔∃u v,Qo l x u v:=by
 unfold rY Qo
 constructor
 ·intro h
  split at h
  ·rename_i u v hu hv
   split at h
   ·exact absurd (congrArg Prod.snd h) (by simp)
   ·rename_i hc
    have e:=congrArg Prod.fst h
    simp only at e
    rw[not_or]at hc
    refine⟨u,v,hu,hv,by rw[← e],by rw[← e],by rw[← e],?_,?_⟩
    ·rw[← e];simp only;omega
    ·rw[← e];simp only;omega
  ·exact absurd (congrArg Prod.snd h) (by simp)
 ·rintro⟨u,v,hu,hv,h1,h2,h3,h4,h5⟩
  rw[hu,hv]
  simp only
  rw[if_neg (by rw[← h2,← h3];omega),← h1,← h2,← h3]
theorem vA {l:List av} {i:Nat} (hi:i≤l.length) (a:Int):P.idx (l.take i) a=if 0≤a∧a<i then P.idx l a else none:=by
 by_cases h:0≤a∧a<i
 ·rw[if_pos h]
  unfold P.idx
  rw[if_pos ⟨h.1,by simp;omega⟩,if_pos ⟨h.1,by omega⟩,List.getElem?_take_of_lt (by omega)]
 ·rw[if_neg h]
  unfold P.idx
  rw[if_neg (by simp;omega)]
open Classical in
theorem N7 (l:List av):∃b,xk ⟨l⟩=some b∧(b=true↔iL l):=by
 unfold xk
 by_cases hlen:l.length≤2000
 ·rw[if_neg (by simp;omega)]
  rcases RY l (body:=mA ⟨l⟩) (fun i x=>jx x∨rY (l.take i) x.ca x.bK=(x,0)) (by omega) (fun i x hx=>by
    have hi:=(List.getElem?_eq_some_iff.1 hx).1
    have hw:IntKind.i64.wrap ((i:Int)-1)=(i:Int)-1:=wrap64 (by omega) (by omega)
    unfold mA
    dsimp only
    rw[if_pos (by simp;omega)]
    simp only[cN hx,Option.bind_some,Qz,PV,hw,b9 (show i<4611686018427387904 by omega),MY]
    by_cases hl:jx x
    ·rw[if_pos (decide_eq_true hl),if_pos (.inl hl)]
    rw[if_neg (by simpa using hl)]
    have hiff:(jx x∨rY (l.take i) x.ca x.bK=(x,0))↔∃u v,Qo (l.take i) x u v:=by rw[N2];exact⟨fun h=>h.resolve_left hl,.inr⟩
    by_cases h1:x.ct=ByteArray.mk #[]
    ·rw[if_neg (by simp[h1])]
     by_cases h2:0≤x.ca∧x.ca≤(i:Int)-1
     ·rw[if_neg (by simp[h2])]
      simp only[Option.bind_some]
      by_cases h3:0≤x.bK∧x.bK≤(i:Int)-1
      ·rw[if_neg (by simp[h3])]
       have hu:=sM (l:=l) h2.1 (by omega)
       have hv:=sM (l:=l) h3.1 (by omega)
       generalize l[x.ca.toNat]'(by omega)=u at hu
       generalize l[x.bK.toNat]'(by omega)=v at hv
       have hu':P.idx (l.take i) x.ca=some u:=by rw[vA (by omega),if_pos (by omega),hu]
       have hv':P.idx (l.take i) x.bK=some v:=by rw[vA (by omega),if_pos (by omega),hv]
       simp only[hu,hv,Option.bind_some]
       by_cases h4:x.aN=IntKind.i64.wrap (u.aN+v.aN)
       ·rw[if_neg (by simp[h4])]
        by_cases h5:x.aU=IntKind.i64.wrap (u.aU+v.aU)
        ·rw[if_neg (by simp[h5])]
         by_cases h6:x.aN>1125899906842624
         ·rw[if_pos (by simp;omega),if_neg]
          rw[hiff]
          rintro⟨_,_,h⟩
          have:=h.2.2.2.2.2.1
          omega
         rw[if_neg (by simp;omega)]
         by_cases h7:x.aU>1125899906842624
         ·rw[if_pos (by simp;omega),if_neg]
          rw[hiff]
          rintro⟨_,_,h⟩
          have:=h.2.2.2.2.2.2
          omega
         rw[if_neg (by simp;omega),if_pos (hiff.2 ⟨u,v,hu',hv',h1,h4,h5,by omega,by omega⟩)]
        ·rw[if_pos (by simpa using h5),if_neg]
         rw[hiff]
         rintro⟨u',v',h⟩
         have e1:=hu'.symm.trans h.1
         have e2:=hv'.symm.trans h.2.1
         cases e1;cases e2
         exact h5 h.2.2.2.2.1
       ·rw[if_pos (by simpa using h4),if_neg]
        rw[hiff]
        rintro⟨u',v',h⟩
        have e1:=hu'.symm.trans h.1
        have e2:=hv'.symm.trans h.2.1
        cases e1;cases e2
        exact h4 h.2.2.2.1
      ·rw[if_pos (by simp;omega),if_neg]
       rw[hiff]
       rintro⟨u',v',h⟩
       have:=h.2.1
       rw[vA (by omega),if_neg (by omega)]at this
       cases this
     ·rw[if_pos (by simp;omega)]
      simp only[Option.bind_some]
      rw[if_pos trivial,if_neg]
      rw[hiff]
      rintro⟨u',v',h⟩
      have:=h.1
      rw[vA (by omega),if_neg (by omega)]at this
      cases this
    ·rw[if_pos (by simp[h1])]
     simp only[Option.bind_some]
     rw[if_pos trivial,if_neg]
     rw[hiff]
     rintro⟨u',v',h⟩
     exact h1 h.2.2.1) (by unfold mA;simp) with⟨h,e⟩|⟨h,e⟩
  ·rw[e]
   exact⟨_,rfl,fun _=>⟨hlen,fun i _ x hx=>h i x hx⟩,fun _=>rfl⟩
  ·rw[e]
   refine⟨_,rfl,⟨(fun h=>by cases h),fun hs=>absurd (fun i x hx =>?_) h⟩⟩
   exact hs.2 i (List.getElem?_eq_some_iff.1 hx).1 x hx
 ·rw[if_pos (by simp;omega)]
  exact⟨_,rfl,⟨(fun h=>by cases h),fun hs=>absurd hs.1 hlen⟩⟩
theorem N6 (v:az) (i:Int) (t:ByteArray) (a b:Int):xj v i t a b=eJ v i t a b:=by
 obtain⟨l⟩:=v
 obtain⟨q1,h1,k1⟩:=N7 l
 obtain⟨q2,h2,k2⟩:=uM ⟨l⟩
 have:q1=q2:=by
  cases q1<;>cases q2
  ·rfl
  ·exact k1.2 (k2.1 rfl)
  ·exact (k2.2 (k1.1 rfl)).symm
  ·rfl
 subst this
 unfold xj eJ
 simp only[h1,h2,Option.bind_some,PV,oV]
def ji (l:List av) (i:Int) (t:ByteArray) (v b:Int):Prop:=iL l∧∃x,P.idx l i=some x∧x.ct=t∧x.aN=v∧x.aU=b
open Classical in
theorem Gx {l:List av} (i:Int) (t:ByteArray) (v b:Int):eJ ⟨l⟩ i t v b=some (decide (ji l i t v b)):=by
 obtain⟨q,h1,h2⟩:=uM ⟨l⟩
 unfold eJ
 rw[h1]
 simp only[Option.bind_some]
 cases q with
 | false =>
  have:¬ji l i t v b:=fun h=>by have:=h2.2 h.1;cases this
  simp[this]
 | true =>
  have hs:iL l:=h2.1 rfl
  have hm:l.length≤maxLen:=Nat.le_trans hs.1 (by decide)
  have hw:IntKind.i64.wrap ((l.length:Int)-1)=(l.length:Int)-1:=wrap64 (by omega) (by have:=small hm;omega)
  simp only[Bool.not_true,Bool.false_eq_true,if_false,oV,hw,Option.bind_some]
  by_cases hi:0≤i∧i<l.length
  ·have hi':0≤i∧i≤(l.length:Int)-1:=by omega
   simp only[hi',and_self,decide_true,Bool.not_true,Bool.false_eq_true,if_false]
   have hx:=sM (l:=l) hi.1 hi.2
   generalize l[i.toNat]'(by omega)=x at hx
   have hop:ji l i t v b↔x.ct=t∧x.aN=v∧x.aU=b:=by
    unfold ji
    rw[hx]
    constructor
    ·rintro⟨_,y,e,h⟩;cases e;exact h
    ·intro h;exact⟨hs,x,rfl,h⟩
   simp only[hx,Option.bind_some,MY]
   by_cases g1:x.ct=t
   ·rw[if_pos (decide_eq_true g1)]
    by_cases g2:x.aN=v
    ·rw[if_pos (by simp[g2])]
     congr 1
     by_cases g3:x.aU=b
     ·have:ji l i t v b:=hop.2 ⟨g1,g2,g3⟩
      simp[this,g3]
     ·have:¬ji l i t v b:=fun h=>g3 (hop.1 h).2.2
      simp[this,g3]
    ·have:¬ji l i t v b:=fun h=>g2 (hop.1 h).2.1
     rw[if_neg (by simp[g2])]
     simp[this]
   ·have:¬ji l i t v b:=fun h=>g1 (hop.1 h).1
    rw[if_neg (by simp[g1])]
    simp[this]
  ·have hi':¬(0≤i∧i≤(l.length:Int)-1):=by omega
   have:¬ji l i t v b:=by
    rintro⟨_,x,e,_⟩
    rw[AW hi]at e
    cases e
   simp[hi',this]
end Go.Proofs.YtpkahnkoecbndaaGreatDoor.P.T
namespace Go.Proofs.YtpkahnkoecbndaaGreatDoor.P.T
open Go.RowKit
set_option linter.unusedSimpArgs false
set_option linter.unusedVariables false
theorem RX {α ρ:Type} (l:List α) {body:Int→Option (Int⊕(Unit⊕ρ))} (p:Nat→α→Prop) (bad:ρ) [∀i x,Decidable (p i x)] (hlen:l.length<4611686018427387904)
  (hb:∀(i:Nat) x,l[i]? = some x→body (i:Int)=some (if p i x then .inl ((i+1:Nat):Int) else .inr (.inr bad))) (he:body (l.length:Int)=some (.inr (.inl ()))) :
  (∃h:(∀i x,l[i]? = some x→p i x),aJ body 0=some (.inl ()))∨(∃h:¬(∀i x,l[i]? = some x→p i x),aJ body 0=some (.inr bad)):=by
 have hs:=QF l (fun i x=>if p i x then none else some bad) hlen (fun i x hx=>by
  rw[hb i x hx]
  by_cases h:p i x
  ·rw[if_pos h,if_pos h]
  ·rw[if_neg h,if_neg h]) he
 cases hf:gX (fun i x=>if p i x then none else some bad) 0 l with
 | none =>
  refine .inl ⟨fun i x hx =>?_,by rw[hs,hf]⟩
  have:=fQ.1 hf i x hx
  simp only[Nat.zero_add]at this
  by_cases h:p i x
  ·exact h
  ·rw[if_neg h]at this;cases this
 | some r =>
  obtain⟨j,x,h1,h2⟩:=jw hf
  simp only[Nat.zero_add]at h2
  by_cases h:p j x
  ·rw[if_pos h]at h2;cases h2
  ·rw[if_neg h]at h2
   cases h2
   exact .inr ⟨fun hall=>h (hall j x h1),by rw[hs,hf]⟩
def nG (v:az) (seals:List Int) (rows:List (List Int)) (blinds:List Int):Prop:=∀i x,seals[i]? = some x→ji v.ak x (E1 (rows.getD i [])) 0 (blinds.getD i 0)
open Classical in
noncomputable def kq (v:az) (seals:List Int) (rows:List (List Int)) (blinds:List Int) (n k:Int):List Int×Int :=
 if QS rows n k then (if seals.length≠rows.length∨blinds.length≠rows.length then ([],2) else if ¬seals.Nodup then ([],5) else if nG v seals rows blinds then (tp rows n k.toNat,0) else ([],22)) else ([],1)
open Classical in
theorem Lx {v:az} {seals:List Int} {rows:List (List Int)} {blinds:List Int} {n k:Int} (h1:rows.length<4611686018427387904) (h2:∀r∈rows,r.length<4611686018427387904∧Lq r) (h3:seals.length*8≤140737488351232) :
  jC v seals rows blinds n k=some (kq v seals rows blinds n k):=by
 unfold jC kq
 rw[RV h1 fun r hr=>(h2 r hr).1]
 simp only[Option.bind_some]
 by_cases hok:QS rows n k
 ·rw[if_pos hok,if_pos hok,if_neg (by simp)]
  by_cases q1:seals.length=rows.length
  ·rw[if_neg (by simp[q1])]
   simp only[Option.bind_some]
   by_cases q2:blinds.length=rows.length
   ·rw[if_neg (by simp[q2]),if_neg (by simp[q1,q2]),JP h3]
    simp only[Option.bind_some]
    by_cases q3:seals.Nodup
    ·rw[if_neg (by simp[q3]),if_neg (by simp[q3])]
     rcases RX seals (body:=kf v seals rows blinds) (fun i x=>ji v.ak x (E1 (rows.getD i [])) 0 (blinds.getD i 0)) ([],22) (by omega) (fun i x hx=>by
       have hi:=(List.getElem?_eq_some_iff.1 hx).1
       have hr:rows[i]? = some (rows[i]'(by omega)):=List.getElem?_eq_getElem (by omega)
       have hb:blinds[i]? = some (blinds[i]'(by omega)):=List.getElem?_eq_getElem (by omega)
       have hm:=List.mem_of_getElem? hr
       unfold kf
       dsimp only
       rw[if_pos (by simp;omega)]
       simp only[cN hx,cN hr,Option.bind_some]
       rw[y6 (h2 _ hm).2 (by have:=(hok.2.2.2.2.2 _ hm).1;have:=hok.2.1;omega)]
       simp only[Option.bind_some,cN hb]
       rw[show v=⟨v.ak⟩ from rfl,Gx]
       have e1:rows.getD i []=rows[i]'(by omega):=by simp[List.getD,hr]
       have e2:blinds.getD i 0=blinds[i]'(by omega):=by simp[List.getD,hb]
       rw[e1,e2]
       simp only[Option.bind_some,b9 (show i<4611686018427387904 by omega)]
       by_cases ho:ji v.ak x (E1 (rows[i]'(by omega))) 0 (blinds[i]'(by omega))
       ·rw[if_neg (by simp[ho]),if_pos ho]
       ·rw[if_pos (by simp[ho]),if_neg ho]) (by unfold kf;simp) with⟨h,e⟩|⟨h,e⟩
     ·rw[e,if_pos (show nG v seals rows blinds from h)];rfl
     ·rw[e,if_neg (show ¬nG v seals rows blinds from h)];rfl
    ·rw[if_pos (by simp[q3]),if_pos q3]
   ·rw[if_pos (by simp;omega),if_pos (.inr q2)]
  ·rw[if_pos (by simp;omega)]
   simp only[Option.bind_some]
   rw[if_pos trivial,if_pos (.inl q1)]
 ·rw[if_neg hok,if_neg hok,if_pos (by simp)]
theorem pN {l:List Int} : l.Nodup↔∀(i:Nat) x,l[i]? = some x→x∉l.take i:=by
 constructor
 ·intro h i x hx hm
  obtain⟨j,hj,e⟩:=List.getElem_of_mem hm
  have hi:=(List.getElem?_eq_some_iff.1 hx).1
  have hj':j<i:=by simp at hj;omega
  have:=(List.pairwise_iff_getElem.1 h) j i (by omega) hi hj'
  rw[List.getElem_take]at e
  rw[List.getElem?_eq_getElem hi,Option.some.injEq]at hx
  exact this (by rw[e,hx])
 ·intro h
  refine List.pairwise_iff_getElem.2 fun i j hi hj hij he =>?_
  refine h j _ (List.getElem?_eq_getElem hj) ?_
  rw[← he]
  exact List.mem_of_getElem? (i:=i) (by rw[List.getElem?_take_of_lt hij];exact List.getElem?_eq_getElem hi)
theorem Qu {l:List Int} {i:Nat} {x:Int} (hx:l[i]? = some x) (hl:l.length<4611686018427387904):aJ (lG l (i:Int)) 0=some (if x∈l.take i then .inr ([],5) else .inl ()):=by
 have hi:=(List.getElem?_eq_some_iff.1 hx).1
 rw[QG l i (body:=lG l (i:Int)) (fun _ y=>if y=x then some ([],5) else none) (by omega) (by omega) (fun j y hj hy=>by
  unfold lG
  dsimp only
  rw[if_pos (by simp;omega)]
  simp only[cN hx,cN hy,Option.bind_some,b9 (show j<4611686018427387904 by omega)]
  by_cases h:y=x
  ·rw[if_pos (by simp[h]),if_pos h]
  ·rw[if_neg (by simp[h]),if_neg h]) (by unfold lG;simp)]
 cases hf:gX (fun (_:Nat) y=>if y=x then some (([],5):List Int×Int) else none) 0 (l.take i) with
 | none =>
  rw[if_neg]
  intro hm
  obtain⟨j,hj,e⟩:=List.getElem_of_mem hm
  have:=fQ.1 hf j _ (List.getElem?_eq_getElem hj)
  rw[if_pos e]at this
  cases this
 | some r =>
  obtain⟨j,y,e1,e2⟩:=jw hf
  by_cases h:y=x
  ·rw[if_pos h]at e2
   cases e2
   rw[if_pos (h ▸ List.mem_of_getElem? e1)]
  ·rw[if_neg h]at e2;cases e2
open Classical in
theorem Qv {v:az} {seals:List Int} {rows:List (List Int)} {blinds:List Int} {n k:Int} (h1:rows.length<4611686018427387904) (h2:∀r∈rows,r.length<4611686018427387904∧Lq r) (h3:seals.length*8≤140737488351232) :
  BD v seals rows blinds n k=some (kq v seals rows blinds n k):=by
 unfold BD kq
 rw[Qx h1 fun r hr=>(h2 r hr).1]
 simp only[Option.bind_some]
 by_cases hok:QS rows n k
 ·rw[if_pos hok,if_pos hok,if_neg (by simp)]
  by_cases q1:seals.length=rows.length
  ·rw[if_neg (by simp[q1])]
   simp only[Option.bind_some]
   by_cases q2:blinds.length=rows.length
   ·rw[if_neg (by simp[q2]),if_neg (by simp[q1,q2])]
    rcases RX seals (body:=n0 seals) (fun i x=>x∉seals.take i) ([],5) (by omega) (fun i x hx=>by
      have hi:=(List.getElem?_eq_some_iff.1 hx).1
      unfold n0
      dsimp only
      rw[if_pos (by simp;omega),Qu hx (by omega)]
      by_cases hm:x∈seals.take i
      ·rw[if_pos hm,if_neg (fun h=>h hm)];rfl
      ·rw[if_neg hm,if_pos hm]
       simp only[Option.bind_some,b9 (show i<4611686018427387904 by omega)]) (by unfold n0;simp) with⟨h,e⟩|⟨h,e⟩
    ·have q3:seals.Nodup:=pN.2 h
     rw[e,if_neg (fun h=>h q3)]
     simp only[Option.bind_some]
     rcases RX seals (body:=n5 v seals rows blinds) (fun i x=>ji v.ak x (E1 (rows.getD i [])) 0 (blinds.getD i 0)) ([],22) (by omega) (fun i x hx=>by
       have hi:=(List.getElem?_eq_some_iff.1 hx).1
       have hr:rows[i]? = some (rows[i]'(by omega)):=List.getElem?_eq_getElem (by omega)
       have hb:blinds[i]? = some (blinds[i]'(by omega)):=List.getElem?_eq_getElem (by omega)
       have hm:=List.mem_of_getElem? hr
       unfold n5
       dsimp only
       rw[if_pos (by simp;omega)]
       simp only[cN hx,cN hr,Option.bind_some]
       rw[Qy (h2 _ hm).2 (by have:=(hok.2.2.2.2.2 _ hm).1;have:=hok.2.1;omega)]
       simp only[Option.bind_some,cN hb]
       rw[N6,show v=⟨v.ak⟩ from rfl,Gx]
       have e1:rows.getD i []=rows[i]'(by omega):=by simp[List.getD,hr]
       have e2:blinds.getD i 0=blinds[i]'(by omega):=by simp[List.getD,hb]
       rw[e1,e2]
       simp only[Option.bind_some,b9 (show i<4611686018427387904 by omega)]
       by_cases ho:ji v.ak x (E1 (rows[i]'(by omega))) 0 (blinds[i]'(by omega))
       ·rw[if_neg (by simp[ho]),if_pos ho]
       ·rw[if_pos (by simp[ho]),if_neg ho]) (by unfold n5;simp) with⟨h,e⟩|⟨h,e⟩
     ·rw[e,if_pos (show nG v seals rows blinds from h)];rfl
     ·rw[e,if_neg (show ¬nG v seals rows blinds from h)];rfl
    ·have q3:¬seals.Nodup:=fun hn=>h (pN.1 hn)
     rw[e,if_pos q3]
     rfl
   ·rw[if_pos (by simp;omega),if_pos (.inr q2)]
  ·rw[if_pos (by simp;omega)]
   simp only[Option.bind_some]
   rw[if_pos trivial,if_pos (.inl q1)]
 ·rw[if_neg hok,if_neg hok,if_pos (by simp)]
theorem put_eq {l:List av} (hl:l.length<10000) (x:av):kJ ⟨l⟩ x=some (⟨l++[x]⟩,(l.length:Int),0):=by
 have hm:=sN
 unfold kJ dD jA eY
 simp only[List.length_nil,Nat.zero_add,List.nil_append,List.length_cons]
 rw[if_pos (by omega)]
 simp only[Option.bind_some]
 rw[if_pos (by omega)]
 simp only[Option.bind_some]
 rw[if_pos (by omega)]
 rfl
theorem yu {l:List av} {x:av} (hs:iL l) (hl:l.length<2000) (hx:jx x):iL (l++[x]):=by
 refine⟨by simp;omega,fun i hi y hy =>?_⟩
 simp only[List.length_append,List.length_cons,List.length_nil]at hi
 by_cases h:i<l.length
 ·rw[List.getElem?_append_left h]at hy
  rw[List.take_append_of_le_length (by omega)]
  exact hs.2 i h y hy
 ·have:i=l.length:=by omega
  subst this
  simp at hy
  subst hy
  exact .inl hx
theorem E3 {l:List av} (hs:iL l) (hl:l.length<1000) {t:ByteArray} (ht:(t.size:Int)≤8000) {b:Int} (hb:0≤b∧b≤1099511627776):gq ⟨l⟩ t 0 b=some (⟨l++[av.mk t 0 b (-1) (-1)]⟩,(l.length:Int),0):=by
 obtain⟨q,h1,h2⟩:=uM ⟨l⟩
 have hq:q=true:=h2.2 hs
 subst hq
 have hleaf:jx (av.mk t 0 b (-1) (-1)):=⟨rfl,rfl,ht,⟨by simp,by simp⟩,hb⟩
 unfold gq
 simp only[h1,Option.bind_some,Bool.not_true,Bool.false_eq_true,if_false,Mt]
 simp only[hleaf,decide_true,Bool.not_true,Bool.false_eq_true,if_false]
 rw[if_neg (by simp;omega),put_eq (by omega)]
 rfl
theorem SL {r:List Int} {n k:Int} (h1:0≤k∧k≤100∧k≤n∧n≤1099511627776) (h2:(r.length:Int)=k) (h3:qM r n):QS [r] n k:=⟨h1.1,h1.2.1,h1.2.2.1,h1.2.2.2,by simp,fun x hx=>by simp at hx;subst hx;exact⟨h2,h3⟩⟩
theorem Wb {a b n:Int} (h:0≤a∧a<n∧0≤b∧b<n-1∧2≤n∧n≤1000):qM [a,b] n:=by
 refine⟨by omega,by omega,by simp,by simp;omega,fun i x hx =>?_⟩
 match i with
 | 0=>simp at hx;subst hx;simp;omega
 | 1=>simp at hx;subst hx;simp;omega
 | i+2=>simp at hx
theorem JU {y:Int} (h:(Lit.int .i64 y).wf=true) : -9223372036854775808≤y∧y≤9223372036854775807:=by
 have h':(decide (IntKind.i64.min≤y)&&decide (y≤IntKind.i64.max))=true:=h
 simp only[Bool.and_eq_true,decide_eq_true_eq]at h'
 exact h'
end Go.Proofs.YtpkahnkoecbndaaGreatDoor.P.T
namespace Go.Proofs.YtpkahnkoecbndaaGreatDoor.P
open Go.RowKit
set_option linter.unusedSimpArgs false
set_option linter.unusedVariables false
def bj (n:Nat):List Int:=if h:n=0 then [] else ((n % 1048576:Nat):Int)::bj (n / 1048576)
termination_by n
decreasing_by omega
def dv:List Int→Int
 | []=>0
 | d::l=>d+1048576*dv l
def Dg (l:List Int):Prop:=∀d∈l,0≤d∧d<1048576
def pw (i:Nat):Int:=1048576 ^ i
theorem vM:pw 0=1:=rfl
theorem nW (i:Nat):pw (i+1)=1048576*pw i:=by unfold pw;rw[Int.pow_succ,Int.mul_comm]
theorem pR (i:Nat):0<pw i:=by unfold pw;exact Int.pow_pos (by decide)
theorem K1 (i j:Nat):pw (i+j)=pw i*pw j:=by unfold pw;rw[Int.pow_add]
theorem vL {i j:Nat} (h:i≤j):pw i≤pw j:=by
 obtain⟨k,rfl⟩:=Nat.le.dest h
 rw[K1]
 have h1:=pR i
 have h2:=pR k
 calc pw i=pw i*1:=by rw[Int.mul_one]
  _≤pw i*pw k:=Int.mul_le_mul_of_nonneg_left (by omega) (by omega)
theorem cU:bj 0=[]:=by rw[bj];rfl
theorem lu {n:Nat} (h:n≠0):bj n=((n % 1048576:Nat):Int)::bj (n / 1048576):=by rw[bj,dif_neg h]
theorem ri {n:Nat} : bj n=[]↔n=0:=by
 constructor
 ·intro h
  rcases Nat.eq_zero_or_pos n with h0|h0
  ·exact h0
  ·rw[lu (by omega)]at h;cases h
 ·rintro rfl;exact cU
theorem eT:∀n:Nat,dv (bj n)=n:=by
 intro n
 induction n using Nat.strongRecOn with
 | _ n ih =>
  rcases Nat.eq_zero_or_pos n with h0|h0
  ·subst h0;rw[cU];rfl
  ·rw[lu (by omega),dv,ih (n / 1048576) (by omega)]
   omega
theorem gh:∀n:Nat,Dg (bj n):=by
 intro n
 induction n using Nat.strongRecOn with
 | _ n ih =>
  rcases Nat.eq_zero_or_pos n with h0|h0
  ·subst h0;rw[cU];intro d hd;cases hd
  ·rw[lu (by omega)]
   intro d hd
   rcases List.mem_cons.1 hd with rfl|hd
   ·omega
   ·exact ih (n / 1048576) (by omega) d hd
theorem Dg.nil:Dg []:=fun d hd=>by cases hd
theorem Dg.cons {d:Int} {l:List Int} (h:Dg (d::l)):(0≤d∧d<1048576)∧Dg l:=⟨h d List.mem_cons_self,fun x hx=>h x (List.mem_cons_of_mem _ hx)⟩
theorem Dg.mk {d:Int} {l:List Int} (h:0≤d∧d<1048576) (hl:Dg l):Dg (d::l):=fun x hx=>by
 rcases List.mem_cons.1 hx with rfl|hx
 ·exact h
 ·exact hl x hx
theorem Dg.append {l m:List Int} (h:Dg l) (hm:Dg m):Dg (l++m):=fun x hx=>(List.mem_append.1 hx).elim (h x) (hm x)
theorem Dg.take {l:List Int} (h:Dg l) (n:Nat):Dg (l.take n):=fun x hx=>h x (List.mem_of_mem_take hx)
theorem Dg.drop {l:List Int} (h:Dg l) (n:Nat):Dg (l.drop n):=fun x hx=>h x (List.mem_of_mem_drop hx)
theorem Dg.rep (n:Nat):Dg (List.replicate n 0):=fun x hx=>by rw[(List.mem_replicate.1 hx).2];omega
theorem Dg.set {l:List Int} (h:Dg l) (i:Nat) {x:Int} (hx:0≤x∧x<1048576):Dg (l.set i x):=fun y hy=>by
 rcases List.mem_or_eq_of_mem_set hy with hy|rfl
 ·exact h y hy
 ·exact hx
theorem Dg.get {l:List Int} (h:Dg l) {i:Nat} (hi:i<l.length):0≤l[i]∧l[i]<1048576:=h _ (List.getElem_mem hi)
theorem cV:∀ {l:List Int},Dg l→0≤dv l
 | [],_=>Int.le_refl _
 | d::l,h=>by
  have h1:=h.cons
  have:=cV h1.2
  simp only[dv]
  omega
theorem oF:∀ {l:List Int},Dg l→dv l<pw l.length
 | [],_=>by simp[dv,vM]
 | d::l,h=>by
  have h1:=h.cons
  have:=oF h1.2
  simp only[dv,List.length_cons,nW]
  omega
theorem ju:∀l m:List Int,dv (l++m)=dv l+pw l.length*dv m
 | [],m=>by simp[dv,vM]
 | d::l,m=>by
  rw[List.cons_append,dv,dv,ju l m,List.length_cons,nW,Int.mul_add,Int.mul_assoc]
  omega
theorem Fi:∀n:Nat,dv (List.replicate n 0)=0
 | 0=>rfl
 | n+1=>by rw[List.replicate_succ,dv,Fi n];rfl
theorem iu {l:List Int} {i:Nat} (h:i<l.length):dv (l.take (i+1))=dv (l.take i)+pw i*l[i]:=by
 have e:l.take (i+1)=l.take i++[l[i]]:=by rw[List.take_add_one];simp[h]
 rw[e,ju,List.length_take,Nat.min_eq_left (by omega)]
 simp[dv]
theorem gU (l:List Int) {i:Nat} (h:i≤l.length):dv l=dv (l.take i)+pw i*dv (l.drop i):=by
 have:=ju (l.take i) (l.drop i)
 rw[List.take_append_drop,List.length_take,Nat.min_eq_left h]at this
 exact this
theorem Ai {l:List Int} {i:Nat} (h:i<l.length) (x:Int):dv (l.set i x)=dv l+pw i*(x-l[i]):=by
 induction l generalizing i with
 | nil=>simp at h
 | cons d l ih =>
  cases i with
  | zero=>simp only[List.set_cons_zero,dv,vM,List.getElem_cons_zero];omega
  | succ i =>
   have:=ih (i:=i) (by simpa using h)
   simp only[List.set_cons_succ,dv,this,nW,List.getElem_cons_succ,Int.mul_add,Int.mul_assoc]
   omega
theorem y8:∀ {l:List Int},Dg l→(∀h:l≠[],l.getLast h≠0)→bj (dv l).toNat=l
 | [],_,_=>by simp[dv,cU]
 | d::l,h,hl=>by
  have h1:=h.cons
  have h2:=cV h1.2
  have hne:(dv (d::l)).toNat≠0:=by
   simp only[dv]
   intro h0
   have hd:d=0:=by omega
   have hv:dv l=0:=by omega
   cases l with
   | nil=>exact hl (by simp) (by simpa using hd)
   | cons e m =>
    have ih:=y8 h1.2 (fun hh=>by have:=hl (by simp);simpa using this)
    rw[hv]at ih
    simp[cU]at ih
  rw[lu hne]
  have e1:(dv (d::l)).toNat % 1048576=d.toNat:=by simp only[dv];omega
  have e2:(dv (d::l)).toNat / 1048576=(dv l).toNat:=by simp only[dv];omega
  rw[e1,e2]
  have hd:(d.toNat:Int)=d:=by omega
  rw[hd]
  cases l with
  | nil=>simp[dv,cU]
  | cons e m=>rw[y8 h1.2 (fun hh=>by have:=hl (by simp);simpa using this)]
theorem Nq:∀(n:Nat) (h:bj n≠[]),(bj n).getLast h≠0:=by
 intro n
 induction n using Nat.strongRecOn with
 | _ n ih =>
  intro h
  have hn:n≠0:=fun h0=>h (ri.2 h0)
  have e:=lu hn
  by_cases hq:n / 1048576=0
  ·have:bj n=[((n % 1048576:Nat):Int)]:=by rw[e,hq,cU]
   simp only[this,List.getLast_singleton]
   omega
  ·have hne:bj (n / 1048576)≠[]:=fun h0=>hq (ri.1 h0)
   have:=ih (n / 1048576) (by omega) hne
   simp only[e]
   rw[List.getLast_cons hne]
   exact this
theorem lr {n k:Nat} (h:(n:Int)<pw k):(bj n).length≤k:=by
 induction k generalizing n with
 | zero =>
  rw[vM]at h
  have:n=0:=by omega
  rw[this,cU];simp
 | succ k ih =>
  by_cases h0:n=0
  ·rw[h0,cU];simp
  ·rw[lu h0,List.length_cons]
   rw[nW]at h
   have:=ih (n:=n / 1048576) (by omega)
   omega
theorem jh (n:Nat):(n:Int)<pw (bj n).length:=by
 have:=oF (gh n)
 rwa [eT]at this
theorem uW {n:Nat} (h:n≠0):pw ((bj n).length-1)≤n∧0<(bj n).length:=by
 induction n using Nat.strongRecOn with
 | _ n ih =>
  rw[lu h,List.length_cons]
  refine⟨?_,by omega⟩
  by_cases hq:n / 1048576=0
  ·rw[hq,cU];simp[vM];omega
  ·obtain⟨h1,h2⟩:=ih (n / 1048576) (by omega) hq
   have:(bj (n / 1048576)).length+1-1=((bj (n / 1048576)).length-1)+1:=by omega
   rw[this,nW]
   omega
theorem zw {x:Int} (h1 : -9223372036854775808≤x) (h2:x<9223372036854775808):ot .and .i64 x 1048575=x % 1048576:=by
 unfold ot
 simp only
 have e1:(BitVec.ofInt IntKind.i64.bits x &&& BitVec.ofInt IntKind.i64.bits 1048575).toNat=((x % 18446744073709551616).toNat) % 1048576:=by
  rw[BitVec.toNat_and,BitVec.toNat_ofInt,BitVec.toNat_ofInt]
  have e:((1048575:Int) % ((2 ^ IntKind.i64.bits:Nat):Int)).toNat=2 ^ 20-1:=by decide
  rw[e,Nat.and_two_pow_sub_one_eq_mod]
  rfl
 rw[e1,wrap64 (by omega) (by omega)]
 omega
theorem QK (x:Int):BU .i64 x 20=some (x / 1048576):=by
 unfold BU
 rw[if_neg (by decide)]
 have e:(2:Int) ^ (min (Int.toNat 20) IntKind.i64.bits)=1048576:=by decide
 rw[e,Int.fdiv_eq_ediv_of_nonneg _ (by decide)]
theorem QJ {x:Int} (h0:0≤x) (h:x<8796093022208):CS .i64 x 20=some (1048576*x):=by
 unfold CS
 rw[if_neg (by decide)]
 have e:(2:Int) ^ (min (Int.toNat 20) IntKind.i64.bits)=1048576:=by decide
 rw[e,wrap64 (by omega) (by omega),Int.mul_comm]
theorem KZ {x y:Int} (h0:0≤x) (h:x<8796093022208) (hy:0≤y∧y<1048576):ot .or .i64 (1048576*x) y=1048576*x+y:=by
 unfold ot
 simp only
 have e1:(BitVec.ofInt IntKind.i64.bits (1048576*x) ||| BitVec.ofInt IntKind.i64.bits y).toNat=1048576*x.toNat+y.toNat:=by
  rw[BitVec.toNat_or,BitVec.toNat_ofInt,BitVec.toNat_ofInt]
  have e:((2 ^ IntKind.i64.bits:Nat):Int)=18446744073709551616:=by decide
  rw[e]
  have e2:((1048576*x) % 18446744073709551616).toNat=x.toNat <<< 20:=by rw[Nat.shiftLeft_eq];omega
  have e3:(y % 18446744073709551616).toNat=y.toNat:=by omega
  rw[e2,e3,← Nat.shiftLeft_add_eq_or_of_lt (by omega),Nat.shiftLeft_eq]
  omega
 rw[e1,wrap64 (by omega) (by omega)]
 omega
theorem V7 {n:Nat} (h:n≤17592186044416):IU 8 (n:Int) (n:Int) (0:Int)=some (List.replicate n 0):=by
 unfold IU
 rw[if_pos]
 ·simp
 ·have:(17592186044416:Int)≤maxLen:=by decide
  refine⟨by omega,by omega,by omega,?_⟩
  simp only[Int.toNat_natCast]
  omega
theorem TK {l m:List Int} (h:l.length+m.length≤17592186044416):eY 8 l m=some (l++m):=by
 unfold eY
 have:(17592186044416:Nat)≤maxLen:=by decide
 rw[if_pos ⟨by omega,by omega⟩]
theorem gY {σ ρ:Type} {body:σ→Option (σ⊕ρ)} (I:Nat→σ→Prop) (n:Nat) (Q:ρ→Prop) {s:σ} (hI:I 0 s) (hn:n+1<FU)
  (hstep:∀i s,i≤n→I i s→(i<n∧∃s',body s=some (.inl s')∧I (i+1) s')∨(∃r,body s=some (.inr r)∧Q r)):∃r,aJ body s=some r∧Q r:=by
 have key:∀(k i:Nat) (s:σ),i≤n→n-i<k→I i s→∃r,lx body k s=some r∧Q r:=by
  intro k
  induction k with
  | zero=>intro i s _ h;omega
  | succ k ih =>
   intro i s hi hk hI
   rcases hstep i s hi hI with⟨hlt,s',h1,h2⟩|⟨r,h1,h2⟩
   ·obtain⟨r,h3,h4⟩:=ih (i+1) s' (by omega) (by omega) h2
    exact⟨r,by simp only[lx,h1];exact h3,h4⟩
   ·exact⟨r,by simp only[lx,h1],h2⟩
 exact key FU 0 s (Nat.zero_le _) (by omega) hI
theorem SA (i:Nat) (x:Int):pw (i+1)*x=pw i*(1048576*x):=by rw[nW,Int.mul_comm 1048576 (pw i),Int.mul_assoc]
theorem K2 (i:Nat) (t:Int):pw i*(t % 1048576)+pw (i+1)*(t / 1048576)=pw i*t:=by
 rw[SA,← Int.mul_add]
 congr 1
 omega
theorem tD {n:Nat} (h:n≤17592186044416):n+1<FU:=by unfold FU;omega
abbrev Fit (l:List Int):Prop:=l.length≤17592186044416
theorem nx {x:Int} (h : -4611686018427387904≤x∧x≤4611686018427387904):IntKind.i64.wrap x=x:=wrap64 (by omega) (by omega)
theorem I1 {α:Type} (o:Option α):(o.bind fun r=>some r)=o:=by cases o<;>rfl
theorem Og {l:List Int} (hl:Fit l):∃r,aJ (lq l) (l.length:Int)=some r∧∃k:Nat,r=k∧k≤l.length∧(∀j (hj:j<l.length),k≤j→l[j]=0)∧(∀h:0<k,∀hk:k-1<l.length,l[k-1]≠0):=by
 unfold Fit at hl
 refine gY (I:=fun i s=>s=((l.length-i:Nat):Int)∧(∀j (hj:j<l.length),l.length-i≤j→l[j]=0)) l.length _ ⟨rfl,fun j hj h=>by omega⟩ (tD hl) ?_
 rintro i s hi ⟨rfl,hz⟩
 generalize hk:l.length-i=k at *
 simp only[lq]
 by_cases h0:0<k
 ·have hk1:k-1<l.length:=by omega
  have e:IntKind.i64.wrap ((k:Int)-1)=((k-1:Nat):Int):=by rw[nx (by omega)];omega
  rw[if_pos (by simp;omega),e,du hk1,Option.bind_some]
  by_cases hx:l[k-1]=0
  ·left
   refine⟨by omega,_,by rw[if_pos (by simpa using hx)],by rw[show l.length-(i+1)=k-1 by omega],fun j hj h =>?_⟩
   by_cases hj':j=k-1
   ·subst hj';exact hx
   ·exact hz j hj (by omega)
  ·right
   exact⟨_,by rw[if_neg (by simpa using hx)],k,rfl,by omega,hz,fun _ _=>hx⟩
 ·right
  exact⟨_,by rw[if_neg (by simp;omega)],k,rfl,by omega,hz,fun h=>absurd h h0⟩
theorem Pw {l:List Int} {k:Nat} (hz:∀j (hj:j<l.length),k≤j→l[j]=0):dv (l.drop k)=0:=by
 have:l.drop k=List.replicate (l.drop k).length 0:=by
  refine List.eq_replicate_of_mem fun x hx =>?_
  obtain⟨i,hi,rfl⟩:=List.mem_iff_getElem.1 hx
  rw[List.getElem_drop]
  exact hz _ _ (by omega)
 rw[this,Fi]
theorem Gr {l:List Int} (hl:Fit l) (hd:Dg l):ee l=some (bj (dv l).toNat):=by
 obtain⟨r,h1,k,rfl,hk,hz,hlast⟩:=Og hl
 unfold ee
 rw[h1,Option.bind_some,zh hk,Option.bind_some]
 congr 1
 have h2:dv l=dv (l.take k):=by rw[gU l hk,Pw hz];omega
 rw[h2]
 refine (y8 (hd.take k) fun hne =>?_).symm
 have hk0:0<k:=by
  rcases Nat.eq_zero_or_pos k with h|h
  ·subst h;simp at hne
  ·exact h
 have:=hlast hk0 (by omega)
 rw[List.getLast_eq_getElem]
 simp only[List.length_take,List.getElem_take,Nat.min_eq_left hk]
 exact this
theorem zi {l:List Int} {n:Nat} (hl:Fit l) (hd:Dg l) (hn:dv l=n):ee l=some (bj n):=by
 rw[Gr hl hd,hn];rfl
def gd (l:List Int) (i:Nat):Int:=if h:i<l.length then l[i] else 0
theorem S3 {l:List Int} (h:Dg l) (i:Nat):0≤gd l i∧gd l i<1048576:=by
 unfold gd
 split
 ·exact h.get _
 ·omega
theorem Mo {l:List Int} (i:Nat):dv (l.take (i+1))=dv (l.take i)+pw i*gd l i:=by
 unfold gd
 split
 ·exact iu _
 ·rw[List.take_of_length_le (by omega),List.take_of_length_le (by omega)];simp
theorem PM {l:List Int} {i:Nat} (h:l.length≤i):dv (l.take i)=dv l:=by rw[List.take_of_length_le h]
theorem uS {l:List Int} (h:Fit l):bd l=some l:=by
 unfold bd
 rw[TK (by simpa using h),List.nil_append]
theorem S5 {l:List Int} {i:Nat} (h:i<l.length):gd l i=l[i]:=by unfold gd;rw[dif_pos h]
theorem S4 {l:List Int} {i:Nat} (h:l.length≤i):gd l i=0:=by unfold gd;rw[dif_neg (by omega)]
theorem kS {l:List Int} {i:Nat} (h:i<l.length):dv (l.drop i)=l[i]+1048576*dv (l.drop (i+1)):=by
 rw[List.drop_eq_getElem_cons h,dv]
theorem UG {x d:Int} (h:0≤x) (hd:0<d) (hx:x<4611686018427387904):zW .i64 x d=some (x / d):=by
 unfold zW
 rw[if_neg (by omega),Int.tdiv_eq_ediv_of_nonneg h,nx]
 have:=Int.ediv_nonneg h (Int.le_of_lt hd)
 have:=Int.ediv_le_self d h
 omega
theorem UY {x d:Int} (h:0≤x) (hd:0<d):vD .i64 x d=some (x % d):=by
 unfold vD
 rw[if_neg (by omega),Int.tmod_eq_emod_of_nonneg h]
theorem K7 {a:List Int} {d:Int} (ha:Dg a) (hd:0<d∧d≤1048576) (hf:Fit a) :
  ∃r,aJ (l9 a d) (0,IntKind.i64.wrap ((a.length:Int)-1),List.replicate a.length 0)=some r∧r.2.length=a.length∧Dg r.2∧(0≤r.1∧r.1<d)∧dv a=d*dv r.2+r.1:=by
 unfold Fit at hf
 have e0:IntKind.i64.wrap ((a.length:Int)-1)=(a.length:Int)-1:=nx (by omega)
 rw[e0]
 refine gY (I:=fun i s=>s.2.1=((a.length-i:Nat):Int)-1∧s.2.2.length=a.length∧Dg s.2.2∧(0≤s.1∧s.1<d)∧dv (a.drop (a.length-i))=d*dv (s.2.2.drop (a.length-i))+s.1)
  a.length _ ⟨rfl,by simp,Dg.rep _,by simp;omega,by simp[dv]⟩ (tD (by omega)) ?_
 rintro i ⟨r,s,l⟩ hi ⟨h1,hl,hg,hr,he⟩
 simp only at h1 hl hg hr he
 subst h1
 generalize hk:a.length-i=k at *
 simp only[l9]
 by_cases h0:0<k
 ·left
  have hk1:k-1<a.length:=by omega
  have hk2:k-1<l.length:=by omega
  have ek:((k:Int)-1)=((k-1:Nat):Int):=by omega
  have ga:=ha.get hk1
  rw[ek,if_pos (by simp),QJ (by omega) (by omega),Option.bind_some,du hk1,Option.bind_some,KZ (by omega) (by omega) ga,UG (by omega) hd.1 (by omega),Option.bind_some,du hk2,Option.bind_some,UY (by omega) hd.1,Option.bind_some]
  have e1:IntKind.i64.wrap (((k-1:Nat):Int)-1)=((k-1:Nat):Int)-1:=nx (by omega)
  have hx0:0≤1048576*r+a[k-1]:=by omega
  have hq0:0≤(1048576*r+a[k-1]) / d:=Int.ediv_nonneg hx0 (by omega)
  have hq1:(1048576*r+a[k-1]) / d<1048576:=by
   apply Int.ediv_lt_of_lt_mul hd.1
   have:1048576*r≤1048576*(d-1):=Int.mul_le_mul_of_nonneg_left (by omega) (by omega)
   omega
  have hm0:=Int.emod_nonneg (1048576*r+a[k-1]) (show d≠0 by omega)
  have hm1:=Int.emod_lt_of_pos (1048576*r+a[k-1]) hd.1
  refine⟨by omega,_,rfl,by rw[e1,show a.length-(i+1)=k-1 by omega],by simpa using hl,hg.set _ ⟨hq0,hq1⟩,⟨hm0,hm1⟩,?_⟩
  simp only[Int.toNat_natCast]
  rw[show a.length-(i+1)=k-1 by omega,kS hk1,kS (l:=l.set (k-1) _) (i:=k-1) (by simpa using hk2),show k-1+1=k by omega,List.getElem_set_self,List.drop_set_of_lt (by omega),he]
  have:=Int.mul_ediv_add_emod (1048576*r+a[k-1]) d
  rw[Int.mul_add,Int.mul_add]
  have e3:d*(1048576*dv (l.drop k))=1048576*(d*dv (l.drop k)):=by rw[← Int.mul_assoc,Int.mul_comm d,Int.mul_assoc]
  rw[e3]
  omega
 ·right
  have:k=0:=by omega
  subst this
  refine⟨(r,l),by rw[if_neg (by simp)],hl,hg,hr,?_⟩
  simpa using he
theorem JB {a:List Int} {d:Int} (ha:Dg a) (hd:0<d∧d≤1048576) (hf:Fit a):jt a d=some (bj (dv a / d).toNat,dv a % d):=by
 obtain⟨⟨r,l⟩,h1,h2,h3,h4,h5⟩:=K7 ha hd hf
 unfold jt
 rw[V7 hf,Option.bind_some,h1,Option.bind_some]
 simp only at h2 h3 h4 h5 ⊢
 rw[Gr (by unfold Fit at *;omega) h3,Option.bind_some]
 have e1:dv a / d=dv l:=by
  rw[h5,Int.mul_comm,Int.add_comm,Int.add_mul_ediv_right _ _ (by omega),Int.ediv_eq_zero_of_lt h4.1 h4.2];omega
 have e2:dv a % d=r:=by
  rw[h5,Int.mul_comm,Int.add_comm,Int.add_mul_emod_self_right]
  exact Int.emod_eq_of_lt h4.1 h4.2
 rw[e1,e2]
theorem NX {b l0:List Int} {x:Int} {i n:Nat} (hb:Dg b) (hx:0≤x∧x<1048576) (h0:Dg l0) (hn:l0.length=n) (hi:i+b.length<n) (hf:n≤17592186044416) (hz:∀j (hj:j<l0.length),i+b.length≤j→l0[j]=0) :
  ∃r,aJ (pt b (i:Int) x) (0,0,l0)=some r∧r.2.length=n∧Dg r.2∧(0≤r.1∧r.1<1048576)∧(∀j (hj:j<r.2.length),i+b.length≤j→r.2[j]=0)∧dv r.2+pw (i+b.length)*r.1=dv l0+pw i*(x*dv b):=by
 refine gY (I:=fun k s=>s.2.1=(k:Int)∧s.2.2.length=n∧Dg s.2.2∧(0≤s.1∧s.1<1048576)∧(∀j (hj:j<s.2.2.length),i+b.length≤j→s.2.2[j]=0)∧dv s.2.2+pw (i+k)*s.1=dv l0+pw i*(x*dv (b.take k)))
  b.length _ ⟨rfl,hn,h0,by simp,hz,by simp[dv]⟩ (tD (by omega)) ?_
 rintro k ⟨c,s,l⟩ hk ⟨h1,hl,hd,hc,hz,he⟩
 simp only at h1 hl hd hc hz he
 subst h1
 simp only[pt]
 by_cases hlt:k<b.length
 ·left
  have hik:i+k<l.length:=by omega
  have ei:IntKind.i64.wrap ((i:Int)+(k:Int))=((i+k:Nat):Int):=by rw[nx (by omega)];omega
  have gb:=hb.get hlt
  have gl:=hd.get hik
  have hm0:0≤x*b[k]:=Int.mul_nonneg hx.1 gb.1
  have hm1:x*b[k]≤1048575*1048575:=Int.mul_le_mul (by omega) (by omega) gb.1 (by omega)
  rw[if_pos (by simpa using hlt),du hlt,Option.bind_some,ei,du hik,Option.bind_some,nx (x:=x*b[k]) (by omega),nx (x:=l[i+k]+x*b[k]) (by omega),nx (x:=l[i+k]+x*b[k]+c) (by omega),QK,Option.bind_some,zw (by omega) (by omega)]
  have e1:IntKind.i64.wrap ((k:Int)+1)=((k+1:Nat):Int):=by rw[nx (by omega)];omega
  refine⟨hlt,_,rfl,e1,by simpa using hl,hd.set _ (by omega),by simp only;omega,fun j hj hij =>?_,?_⟩
  ·simp only[Int.toNat_natCast]at hj ⊢
   rw[List.getElem_set_ne (by omega)]
   exact hz j (by simpa using hj) hij
  ·simp only[Int.toNat_natCast]
   rw[Ai hik,iu hlt]
   have hp:=K2 (i+k) (l[i+k]+x*b[k]+c)
   rw[Int.mul_add (pw (i+k)),Int.mul_add (pw (i+k))]at hp
   have e2:pw i*(x*(dv (b.take k)+pw k*b[k]))=pw i*(x*dv (b.take k))+pw (i+k)*(x*b[k]):=by
    rw[Int.mul_add,Int.mul_add,K1]
    congr 1
    rw[Int.mul_left_comm x,← Int.mul_assoc]
   rw[e2,Int.mul_sub,show i+(k+1)=i+k+1 by omega]
   omega
 ·right
  have hkb:k=b.length:=by omega
  subst hkb
  refine⟨(c,l),by rw[if_neg (by simp)],hl,hd,hc,hz,?_⟩
  rw[he,List.take_length]
theorem NW {a b:List Int} (ha:Dg a) (hb:Dg b) (hf:a.length+b.length≤17592186044416) :
  ∃l,aJ (pr a b) (0,List.replicate (a.length+b.length) 0)=some l∧l.length=a.length+b.length∧Dg l∧dv l=dv a*dv b:=by
 refine gY (I:=fun i s=>s.1=(i:Int)∧s.2.length=a.length+b.length∧Dg s.2∧(∀j (hj:j<s.2.length),i+b.length≤j→s.2[j]=0)∧dv s.2=dv (a.take i)*dv b)
  a.length _ ⟨rfl,by simp,Dg.rep _,fun j hj _=>by simp,by simp[dv,Fi]⟩ (tD (by omega)) ?_
 rintro i ⟨s,l⟩ hi ⟨h1,hl,hd,hz,he⟩
 simp only at h1 hl hd hz he
 subst h1
 simp only[pr]
 by_cases hlt:i<a.length
 ·left
  have ga:=ha.get hlt
  obtain⟨⟨c,m⟩,g1,g2,g3,g4,g5,g6⟩:=NX (i:=i) (n:=a.length+b.length) hb ga hd hl (by omega) hf hz
  rw[if_pos (by simpa using hlt),du hlt,Option.bind_some,g1,Option.bind_some]
  simp only at g2 g3 g4 g5 g6 ⊢
  have ei:IntKind.i64.wrap ((i:Int)+(b.length:Int))=((i+b.length:Nat):Int):=by rw[nx (by omega)];omega
  have hib:i+b.length<m.length:=by omega
  rw[ei,du hib,Option.bind_some,g5 _ hib (Nat.le_refl _),Int.zero_add,nx (x:=c) (by omega)]
  have e1:IntKind.i64.wrap ((i:Int)+1)=((i+1:Nat):Int):=by rw[nx (by omega)];omega
  refine⟨hlt,_,rfl,e1,by simpa using g2,g3.set _ g4,fun j hj hij =>?_,?_⟩
  ·simp only[Int.toNat_natCast]at hj ⊢
   rw[List.getElem_set_ne (by omega)]
   exact g5 j (by simpa using hj) (by omega)
  ·simp only[Int.toNat_natCast]
   rw[Ai hib,g5 _ hib (Nat.le_refl _),Int.sub_zero,g6,he,iu hlt,Int.add_mul,Int.mul_assoc]
 ·right
  have hia:i=a.length:=by omega
  subst hia
  refine⟨l,by rw[if_neg (by simp)],hl,hd,?_⟩
  rw[he,List.take_length]
theorem mul_eq {a b:List Int} (ha:Dg a) (hb:Dg b) (hf:a.length+b.length≤17592186044416):l8 a b=some (bj (dv a*dv b).toNat):=by
 obtain⟨l,h1,h2,h3,h4⟩:=NW ha hb hf
 unfold l8
 have e:IntKind.i64.wrap ((a.length:Int)+(b.length:Int))=((a.length+b.length:Nat):Int):=by rw[nx (by omega)];omega
 rw[e,V7 hf,Option.bind_some,h1,Option.bind_some,I1,Gr (by unfold Fit;omega) h3,h4]
def wN (x y:Int):Int:=if x<y then -1 else if y<x then 1 else 0
theorem Pb (x y:Int):fb x y=some (wN x y):=by
 unfold fb ir wN
 simp only[bne_self_eq_false,Option.bind_some,Bool.false_eq_true,if_false,decide_eq_true_eq]
 split
 ·rfl
 ·split<;>rfl
theorem Hi {a b:List Int} (ha:Dg a) (hb:Dg b) (hf:Fit a) (hl:a.length=b.length):eE a b=some (wN (dv a) (dv b)):=by
 unfold Fit at hf
 unfold eE
 rw[if_neg (by simp;omega)]
 have e0:IntKind.i64.wrap ((a.length:Int)-1)=(a.length:Int)-1:=nx (by omega)
 rw[e0]
 have key:∃r,aJ (jR a b) ((a.length:Int)-1)=some r∧(match r with | .inl _=>wN (dv a) (dv b)=0 | .inr x=>x=wN (dv a) (dv b)):=by
  refine gY (I:=fun i s=>s=((a.length-i:Nat):Int)-1∧a.drop (a.length-i)=b.drop (a.length-i)) a.length _ ⟨rfl,?_⟩ (tD hf) ?_
  ·rw[List.drop_eq_nil_of_le (by omega),List.drop_eq_nil_of_le (by omega)]
  rintro i s hi ⟨rfl,he⟩
  generalize hk:a.length-i=k at *
  simp only[jR]
  by_cases h0:0<k
  ·have h1:k-1<a.length:=by omega
   have h2:k-1<b.length:=by omega
   have ek:((k:Int)-1)=((k-1:Nat):Int):=by omega
   rw[ek,if_pos (by simp),du h1,Option.bind_some,du h2,Option.bind_some]
   by_cases hx:a[k-1]=b[k-1]
   ·left
    rw[if_neg (by simpa using hx)]
    refine⟨by omega,_,rfl,by rw[nx (by omega)];omega,?_⟩
    rw[show a.length-(i+1)=k-1 by omega,List.drop_eq_getElem_cons h1,List.drop_eq_getElem_cons h2,hx,show k-1+1=k by omega,he]
   ·right
    rw[if_pos (by simpa using hx),Pb,Option.bind_some]
    refine⟨_,rfl,?_⟩
    simp only
    have ea:=gU a (i:=k) (by omega)
    have eb:=gU b (i:=k) (by omega)
    have ta:=iu h1
    have tb:=iu h2
    rw[show k-1+1=k by omega]at ta tb
    have la:=oF (ha.take (k-1))
    have lb:=oF (hb.take (k-1))
    rw[List.length_take,Nat.min_eq_left (by omega)]at la lb
    have na:=cV (ha.take (k-1))
    have nb:=cV (hb.take (k-1))
    have hp:=pR (k-1)
    rw[ta]at ea
    rw[tb]at eb
    rw[he]at ea
    unfold wN
    rcases Int.lt_or_gt_of_ne hx with hlt|hlt
    ·have:pw (k-1)*a[k-1]+pw (k-1)≤pw (k-1)*b[k-1]:=by
      have:pw (k-1)*(a[k-1]+1)≤pw (k-1)*b[k-1]:=Int.mul_le_mul_of_nonneg_left (by omega) (by omega)
      rwa [Int.mul_add,Int.mul_one]at this
     rw[if_pos hlt,if_pos (by omega)]
    ·have:pw (k-1)*b[k-1]+pw (k-1)≤pw (k-1)*a[k-1]:=by
      have:pw (k-1)*(b[k-1]+1)≤pw (k-1)*a[k-1]:=Int.mul_le_mul_of_nonneg_left (by omega) (by omega)
      rwa [Int.mul_add,Int.mul_one]at this
     rw[if_neg (by omega),if_pos hlt,if_neg (by omega),if_pos (by omega)]
  ·right
   have:k=0:=by omega
   subst this
   refine⟨.inl (),by rw[if_neg (by simp)],?_⟩
   simp only[List.drop_zero]at he
   simp[he,wN]
 obtain⟨r,h1,h2⟩:=key
 rw[h1,Option.bind_some]
 cases r with
 | inl u=>simp only at h2 ⊢;rw[h2]
 | inr x=>simp only at h2 ⊢;rw[h2]
theorem rh {m n:Nat} (h:(bj m).length<(bj n).length):m<n:=by
 have h1:=jh m
 have hn:n≠0:=fun h0=>by subst h0;rw[cU]at h;simp at h
 have h2:=uW hn
 have h3:=vL (i:=(bj m).length) (j:=(bj n).length-1) (by omega)
 omega
theorem kR {m n:Nat} (h:m≤n):(bj m).length≤(bj n).length:=by
 rcases Nat.lt_or_ge (bj n).length (bj m).length with h1|h1
 ·have:=rh h1;omega
 ·exact h1
theorem Ka {m n:Nat} (hm:Fit (bj m)) (hn:Fit (bj n)):eE (bj m) (bj n)=some (wN m n):=by
 by_cases hl:(bj m).length=(bj n).length
 ·rw[Hi (gh m) (gh n) hm hl,eT,eT]
 ·unfold eE
  rw[if_pos (by simp;omega),Pb,I1]
  unfold wN
  rcases Nat.lt_or_gt_of_ne hl with h|h
  ·have:=rh h
   rw[if_pos (by omega),if_pos (by omega)]
  ·have:=rh h
   rw[if_neg (by omega),if_pos (by omega),if_neg (by omega),if_pos (by omega)]
theorem Gm {u v:List Int} {g:Int} (hu:Dg u) (hv:Dg v) (hg:0≤g∧g≤1048576) (hf:Fit u) (hl:v.length≤u.length) :
  ∃r,aJ (iX u v g) (0,0,u)=some r∧r.2.length=u.length∧Dg r.2∧(0≤r.1∧r.1≤1048576)∧dv r.2+g*dv v=dv u+pw u.length*r.1:=by
 unfold Fit at hf
 refine gY (I:=fun i s=>s.2.1=(i:Int)∧s.2.2.length=u.length∧Dg s.2.2∧(∀j (hj:j<s.2.2.length) (hj':j<u.length),i≤j→s.2.2[j]=u[j])∧(0≤s.1∧s.1≤1048576)∧dv s.2.2+g*dv (v.take i)=dv u+pw i*s.1)
  u.length _ ⟨rfl,rfl,hu,fun j hj _ _=>rfl,by simp,by simp[dv]⟩ (tD (by omega)) ?_
 rintro i ⟨c,s,l⟩ hi ⟨h1,hll,hd,hz,hc,he⟩
 simp only at h1 hll hd hz hc he
 subst h1
 simp only[iX]
 by_cases hlt:i<u.length
 ·left
  have hli:i<l.length:=by omega
  rw[if_pos (by simpa using hlt),du hli,Option.bind_some,hz i hli hlt (Nat.le_refl _)]
  have ga:=hu.get hlt
  have gb:=S3 hv i
  have hm0:0≤g*gd v i:=Int.mul_nonneg hg.1 gb.1
  have hm1:g*gd v i≤1048576*1048575:=Int.mul_le_mul (by omega) (by omega) gb.1 (by omega)
  have hT:(if decide ((i:Int)<(v.length:Int))=true then (P.idx v (i:Int)).bind fun x17=>some (IntKind.i64.wrap ((IntKind.i64.wrap (u[i]-c))-(IntKind.i64.wrap (g*x17)))) else some (IntKind.i64.wrap (u[i]-c)))=some (u[i]-c-g*gd v i):=by
   by_cases hib:i<v.length
   ·rw[if_pos (by simpa using hib),du hib,Option.bind_some]
    rw[S5 hib]at gb hm0 hm1 ⊢
    rw[nx (x:=u[i]-c) (by omega),nx (x:=g*v[i]) (by omega),nx (by omega)]
   ·rw[if_neg (by simpa using hib),S4 (by omega),nx (by omega)];simp
  rw[hT,Option.bind_some,QK,Option.bind_some,zw (by omega) (by omega),nx (x:=0-_) (by omega)]
  have e1:IntKind.i64.wrap ((i:Int)+1)=((i+1:Nat):Int):=by rw[nx (by omega)];omega
  refine⟨hlt,_,rfl,e1,by simpa using hll,hd.set _ (by omega),fun j hj hj' hij =>?_,by simp only;omega,?_⟩
  ·simp only[Int.toNat_natCast]at hj ⊢
   rw[List.getElem_set_ne (by omega)]
   exact hz j (by simpa using hj) hj' (by omega)
  ·simp only[Int.toNat_natCast]
   rw[Ai hli,hz i hli hlt (Nat.le_refl _),Mo]
   have hp:=K2 i (u[i]-c-g*gd v i)
   rw[Int.mul_sub (pw i),Int.mul_sub (pw i)]at hp
   have e2:g*(dv (v.take i)+pw i*gd v i)=g*dv (v.take i)+pw i*(g*gd v i):=by rw[Int.mul_add,Int.mul_left_comm]
   rw[e2,Int.mul_sub (pw i),Int.mul_sub (pw (i+1)),Int.mul_zero]
   omega
 ·right
  have hia:i=u.length:=by omega
  subst hia
  refine⟨(c,l),by rw[if_neg (by simp)],hll,hd,hc,?_⟩
  rw[PM hl]at he
  exact he
theorem Gn {u v:List Int} (hu:Dg u) (hv:Dg v) (hf:Fit u) (hl:v.length≤u.length) :
  ∃l,aJ (iY v u) (0,0,u)=some l∧l.length=u.length∧Dg l∧∃c,0≤c∧dv l+pw u.length*c=dv u+dv v:=by
 unfold Fit at hf
 refine gY (I:=fun i s=>s.2.1=(i:Int)∧s.2.2.length=u.length∧Dg s.2.2∧(∀j (hj:j<s.2.2.length) (hj':j<u.length),i≤j→s.2.2[j]=u[j])∧(0≤s.1∧s.1≤1)∧dv s.2.2+pw i*s.1=dv u+dv (v.take i))
  u.length _ ⟨rfl,rfl,hu,fun j hj _ _=>rfl,by simp,by simp[dv]⟩ (tD (by omega)) ?_
 rintro i ⟨c,s,l⟩ hi ⟨h1,hll,hd,hz,hc,he⟩
 simp only at h1 hll hd hz hc he
 subst h1
 simp only[iY]
 by_cases hlt:i<u.length
 ·left
  have hli:i<l.length:=by omega
  rw[if_pos (by simpa using hlt),du hli,Option.bind_some,hz i hli hlt (Nat.le_refl _)]
  have ga:=hu.get hlt
  have gb:=S3 hv i
  have hT:(if decide ((i:Int)<(v.length:Int))=true then (P.idx v (i:Int)).bind fun x35=>some (IntKind.i64.wrap ((IntKind.i64.wrap (c+u[i]))+x35)) else some (IntKind.i64.wrap (c+u[i])))=some (c+u[i]+gd v i):=by
   by_cases hib:i<v.length
   ·rw[if_pos (by simpa using hib),du hib,Option.bind_some]
    rw[S5 hib]at gb ⊢
    rw[nx (x:=c+u[i]) (by omega),nx (by omega)]
   ·rw[if_neg (by simpa using hib),S4 (by omega),nx (by omega)];simp
  rw[hT,Option.bind_some,QK,Option.bind_some,zw (by omega) (by omega)]
  have e1:IntKind.i64.wrap ((i:Int)+1)=((i+1:Nat):Int):=by rw[nx (by omega)];omega
  refine⟨hlt,_,rfl,e1,by simpa using hll,hd.set _ (by omega),fun j hj hj' hij =>?_,by simp only;omega,?_⟩
  ·simp only[Int.toNat_natCast]at hj ⊢
   rw[List.getElem_set_ne (by omega)]
   exact hz j (by simpa using hj) hj' (by omega)
  ·simp only[Int.toNat_natCast]
   rw[Ai hli,hz i hli hlt (Nat.le_refl _),Mo]
   have hp:=K2 i (c+u[i]+gd v i)
   rw[Int.mul_add (pw i),Int.mul_add (pw i)]at hp
   rw[Int.mul_sub (pw i)]
   omega
 ·right
  have hia:i=u.length:=by omega
  subst hia
  refine⟨l,by rw[if_neg (by simp)],hll,hd,c,hc.1,?_⟩
  rw[PM hl]at he
  exact he
theorem Oa {u v:List Int} {g:Int} (hu:Dg u) (hv:Dg v) (hf:Fit u) (hl:v.length≤u.length) (hV:0<dv v) (hg0:dv u / dv v≤g) (hg1:g≤dv u / dv v+1) (hgB:g≤1048576) :
  ∃l,eA u v g=some (l,dv u / dv v)∧l.length=u.length∧Dg l∧dv l=dv u % dv v:=by
 have hq0:0≤dv u / dv v:=Int.ediv_nonneg (cV hu) (by omega)
 obtain⟨⟨c,l⟩,h1,h2,h3,h4,h5⟩:=Gm hu hv ⟨by omega,hgB⟩ hf hl
 simp only at h2 h3 h4 h5
 have hm:=Int.mul_ediv_add_emod (dv u) (dv v)
 have hm0:=Int.emod_nonneg (dv u) (show dv v≠0 by omega)
 have hm1:=Int.emod_lt_of_pos (dv u) hV
 have hll:=oF h3
 have hl0:=cV h3
 rw[h2]at hll
 have hp:=pR u.length
 have hvl:dv v<pw u.length:=Int.lt_of_lt_of_le (oF hv) (vL hl)
 unfold eA mP
 rw[h1,Option.bind_some]
 simp only
 rcases (show g=dv u / dv v∨g=dv u / dv v+1 by omega) with hg|hg
 ·have hgv:g*dv v=dv v*(dv u / dv v):=by rw[hg,Int.mul_comm]
  have hc0:c=0:=by
   rcases (show c=0∨1≤c by omega) with h|h
   ·exact h
   ·have:pw u.length*1≤pw u.length*c:=Int.mul_le_mul_of_nonneg_left h (by omega)
    omega
  subst hc0
  rw[if_pos (by simp),Option.bind_some,if_pos (by simpa using h2)]
  exact⟨l,by rw[hg],h2,h3,by rw[Int.mul_zero]at h5;omega⟩
 ·have hgv:g*dv v=dv v*(dv u / dv v)+dv v:=by rw[hg,Int.add_mul,Int.one_mul,Int.mul_comm]
  have hc0:c≠0:=by
   intro h
   subst h
   rw[Int.mul_zero]at h5
   omega
  obtain⟨m,g1,g2,g3,d,g4,g5⟩:=Gn h3 hv (by unfold Fit at *;omega) (by omega)
  rw[if_neg (by simpa using hc0),g1,Option.bind_some,Option.bind_some,if_pos (by simp;omega)]
  refine⟨m,by rw[nx (by omega),hg];simp,by omega,g3,?_⟩
  rw[h2]at g5
  have hml:=oF g3
  have hm0':=cV g3
  rw[g2,h2]at hml
  have hcd:c=d:=by
   rcases Int.lt_trichotomy c d with h|h|h
   ·have:pw u.length*(c+1)≤pw u.length*d:=Int.mul_le_mul_of_nonneg_left (by omega) (by omega)
    rw[Int.mul_add,Int.mul_one]at this
    omega
   ·exact h
   ·have:pw u.length*(d+1)≤pw u.length*c:=Int.mul_le_mul_of_nonneg_left (by omega) (by omega)
    rw[Int.mul_add,Int.mul_one]at this
    omega
  subst hcd
  omega
theorem Kw {v u:List Int} {s13:Int} {v1 v2 w2 T V W:Int} {n:Nat} (hn:2≤n) (hlen:v.length=n) (hfv:n≤17592186044416) (i:Nat) (hs:s13=i) (hfi:i+n≤17592186044416)
  (hv2:P.idx v (((n-2:Nat)):Int)=some v2) (hw2:P.idx u (((i+n-2:Nat)):Int)=some w2)
  (b1:524288≤v1∧v1<1048576) (b2:0≤v2∧v2<1048576) (bw:0≤w2∧w2<1048576) (hT0:0≤T) (hT1:T<1048576*1048576)
  (hV:pw (n-2)*(v1*1048576+v2)≤V∧V<pw (n-2)*(v1*1048576+v2+1)) (hW:pw (n-2)*(T*1048576+w2)≤W∧W<pw (n-2)*(T*1048576+w2+1)) (hWV:W<1048576*V) :
  ∃g,aJ (pq v s13 u v1) (T / v1,T % v1)=some g∧W / V≤g∧g≤W / V+1∧g≤1048576:=by
 subst hs
 have hp:=pR (n-2)
 have hVp:0<V:=by
  have:pw (n-2)*1≤pw (n-2)*(v1*1048576+v2):=Int.mul_le_mul_of_nonneg_left (by omega) (by omega)
  omega
 have hW0:0≤W:=by
  have:0≤pw (n-2)*(T*1048576+w2):=Int.mul_nonneg (by omega) (by omega)
  omega
 have hq0:0≤W / V:=Int.ediv_nonneg hW0 (by omega)
 have hqB:W / V<1048576:=Int.ediv_lt_of_lt_mul hVp hWV
 have hm:=Int.mul_ediv_add_emod T v1
 have hm0:=Int.emod_nonneg T (show v1≠0 by omega)
 have hm1:=Int.emod_lt_of_pos T (show 0<v1 by omega)
 have hd0:0≤T / v1:=Int.ediv_nonneg hT0 (by omega)
 have hd1:T / v1≤2097152:=by
  have:T / v1<2097153:=Int.ediv_lt_of_lt_mul (by omega) (by
   have:2097153*524288≤2097153*v1:=Int.mul_le_mul_of_nonneg_left b1.1 (by omega)
   omega)
  omega
 have hge:∀g r:Int,g*v1+r=T→W / V≤g→g*v2>r*1048576+w2→W / V≤g-1:=by
  intro g r h1 h2 h3
  have h4:W<g*V:=by
   have e1:g*(v1*1048576+v2)≥T*1048576+w2+1:=by
    rw[← h1]
    have:g*(v1*1048576+v2)=g*v1*1048576+g*v2:=by rw[Int.mul_add,Int.mul_assoc]
    rw[this,Int.add_mul]
    omega
   have e2:pw (n-2)*(T*1048576+w2+1)≤pw (n-2)*(g*(v1*1048576+v2)):=Int.mul_le_mul_of_nonneg_left e1 (by omega)
   have e3:g*(pw (n-2)*(v1*1048576+v2))≤g*V:=Int.mul_le_mul_of_nonneg_left hV.1 (by omega)
   have e4:pw (n-2)*(g*(v1*1048576+v2))=g*(pw (n-2)*(v1*1048576+v2)):=Int.mul_left_comm _ _ _
   omega
  have:=Int.ediv_lt_of_lt_mul hVp h4
  omega
 have hle:∀g r:Int,g*v1+r=T→0≤g→g≤1048576→g*v2≤r*1048576+w2→g≤W / V+1:=by
  intro g r h1 h0 hB h3
  have e1:g*(v1*1048576+v2)≤T*1048576+w2:=by
   rw[← h1]
   have:g*(v1*1048576+v2)=g*v1*1048576+g*v2:=by rw[Int.mul_add,Int.mul_assoc]
   rw[this,Int.add_mul]
   omega
  have e2:g*V≤W+V:=by
   have f1:g*V≤g*(pw (n-2)*(v1*1048576+v2+1)):=Int.mul_le_mul_of_nonneg_left (by omega) h0
   have f2:g*(pw (n-2)*(v1*1048576+v2+1))=pw (n-2)*(g*(v1*1048576+v2))+pw (n-2)*g:=by
    rw[Int.mul_left_comm,Int.mul_add g,Int.mul_one,Int.mul_add]
   have f3:pw (n-2)*(g*(v1*1048576+v2))≤pw (n-2)*(T*1048576+w2):=Int.mul_le_mul_of_nonneg_left e1 (by omega)
   have f4:pw (n-2)*g≤pw (n-2)*(v1*1048576+v2):=Int.mul_le_mul_of_nonneg_left (by omega) (by omega)
   omega
  have e3:(g-1)*V≤W:=by rw[Int.sub_mul,Int.one_mul];omega
  have:=Int.le_ediv_of_mul_le hVp e3
  omega
 have hbase:W / V≤T / v1:=by
  have e1:W<(T / v1+1)*V:=by
   have f1:T+1≤(T / v1+1)*v1:=by
    have:(T / v1+1)*v1=v1*(T / v1)+v1:=by rw[Int.add_mul,Int.one_mul,Int.mul_comm]
    omega
   have f2:T*1048576+w2+1≤(T / v1+1)*(v1*1048576+v2):=by
    have g1:(T+1)*1048576≤(T / v1+1)*v1*1048576:=Int.mul_le_mul_of_nonneg_right f1 (by omega)
    have g2:0≤(T / v1+1)*v2:=Int.mul_nonneg (by omega) b2.1
    rw[Int.mul_add,← Int.mul_assoc]
    omega
   have f3:pw (n-2)*(T*1048576+w2+1)≤pw (n-2)*((T / v1+1)*(v1*1048576+v2)):=Int.mul_le_mul_of_nonneg_left f2 (by omega)
   have f4:(T / v1+1)*(pw (n-2)*(v1*1048576+v2))≤(T / v1+1)*V:=Int.mul_le_mul_of_nonneg_left hV.1 (by omega)
   have f5:pw (n-2)*((T / v1+1)*(v1*1048576+v2))=(T / v1+1)*(pw (n-2)*(v1*1048576+v2)):=Int.mul_left_comm _ _ _
   omega
  have:=Int.ediv_lt_of_lt_mul hVp e1
  omega
 refine oK (I:=fun (s:Int×Int)=>s.1*v1+s.2=T∧W / V≤s.1∧s.1≤2097152∧0≤s.2) (μ:=fun (s:Int×Int)=>s.1.toNat) _ ⟨?_,hbase,hd1,hm0⟩ (by unfold FU;omega) ?_
 ·show T / v1*v1+T % v1=T
  rw[Int.mul_comm];exact hm
 rintro⟨g,r⟩ ⟨h1,h2,h3,h4⟩
 simp only at h1 h2 h3 h4
 have hgv:0≤g*v1:=Int.mul_nonneg (by omega) (by omega)
 simp only[pq]
 have el:IntKind.i64.wrap ((v.length:Int)-2)=((n-2:Nat):Int):=by rw[hlen,nx (by omega)];omega
 have ei:IntKind.i64.wrap ((IntKind.i64.wrap ((i:Int)+(v.length:Int)))-2)=((i+n-2:Nat):Int):=by rw[hlen,nx (x:=(i:Int)+n) (by omega),nx (by omega)];omega
 rw[el,ei]
 have hstep:W / V≤g-1→∃s':Int×Int,(some (Sum.inl (IntKind.i64.wrap (g-1),IntKind.i64.wrap (r+v1))):Option ((Int×Int)⊕Int))=some (.inl s')∧(s'.1*v1+s'.2=T∧W / V≤s'.1∧s'.1≤2097152∧0≤s'.2)∧s'.1.toNat<g.toNat:=by
  intro hlt
  refine⟨_,rfl,?_⟩
  rw[nx (x:=g-1) (by omega),nx (x:=r+v1) (by omega)]
  simp only
  refine⟨⟨by rw[Int.sub_mul,Int.one_mul];omega,hlt,by omega,by omega⟩,by omega⟩
 by_cases hgB:g≥1048576
 ·rw[if_pos (by simpa using hgB),Option.bind_some,if_pos rfl]
  exact .inl (hstep (by omega))
 ·rw[if_neg (by simpa using hgB)]
  by_cases hr:r<1048576
  ·have hgv2:0≤g*v2:=Int.mul_nonneg (by omega) b2.1
   have hgv2':g*v2≤1048576*1048576:=Int.mul_le_mul (by omega) (by omega) b2.1 (by omega)
   rw[if_pos (by simpa using hr),hv2,Option.bind_some,QJ h4 (by omega),Option.bind_some,hw2,Option.bind_some,nx (x:=g*v2) (by omega),KZ h4 (by omega) bw,Option.bind_some]
   by_cases ht:g*v2>1048576*r+w2
   ·rw[if_pos (by simpa using ht)]
    exact .inl (hstep (hge g r h1 h2 (by omega)))
   ·rw[if_neg (by simpa using ht)]
    exact .inr ⟨g,rfl,h2,hle g r h1 (by omega) (by omega) (by omega),by omega⟩
  ·rw[if_neg (by simpa using hr),Option.bind_some,if_neg (by simp)]
   refine .inr ⟨g,rfl,h2,hle g r h1 (by omega) (by omega) ?_,by omega⟩
   have:g*v2≤1048575*1048575:=Int.mul_le_mul (by omega) (by omega) b2.1 (by omega)
   have:1048576*1048576≤r*1048576:=Int.mul_le_mul_of_nonneg_right (by omega) (by omega)
   omega
theorem Ue {α:Type} {l:List α} {a b:Nat} (h:a≤b) (hb:b≤l.length):yY l (a:Int) (b:Int)=some ((l.drop a).take (b-a)):=by
 unfold yY
 rw[if_pos ⟨by omega,by omega,by omega⟩]
 simp
theorem Sc {l:List Int} {n:Nat} (hl:l.length=n) (hn:2≤n) (hd:Dg l) :
  pw (n-2)*((l[n-1]'(by omega))*1048576+l[n-2]'(by omega))≤dv l∧dv l<pw (n-2)*((l[n-1]'(by omega))*1048576+l[n-2]'(by omega)+1):=by
 have e:=gU l (i:=n-2) (by omega)
 rw[kS (by omega),kS (i:=n-2+1) (by omega),List.drop_eq_nil_of_le (by omega)]at e
 have e1:l[n-2+1]'(by omega)=l[n-1]'(by omega):=by congr 1;omega
 rw[e1]at e
 have h1:=cV (hd.take (n-2))
 have h2:=oF (hd.take (n-2))
 rw[List.length_take,Nat.min_eq_left (by omega)]at h2
 simp only[dv]at e
 have e2:l[n-2]'(by omega)+1048576*(l[n-1]'(by omega)+1048576*0)=(l[n-1]'(by omega))*1048576+l[n-2]'(by omega):=by omega
 rw[e2]at e
 rw[Int.mul_add (pw (n-2)) _ 1,Int.mul_one]
 omega
theorem Sd {l:List Int} {n:Nat} (hl:l.length=n+1) (hn:2≤n) (hd:Dg l) :
  pw (n-2)*((1048576*(l[n]'(by omega))+l[n-1]'(by omega))*1048576+l[n-2]'(by omega))≤dv l∧dv l<pw (n-2)*((1048576*(l[n]'(by omega))+l[n-1]'(by omega))*1048576+l[n-2]'(by omega)+1):=by
 have e:=gU l (i:=n-2) (by omega)
 rw[kS (by omega),kS (i:=n-2+1) (by omega),kS (i:=n-2+1+1) (by omega),List.drop_eq_nil_of_le (by omega)]at e
 have e1:l[n-2+1]'(by omega)=l[n-1]'(by omega):=by congr 1;omega
 have e3:l[n-2+1+1]'(by omega)=l[n]'(by omega):=by congr 1;omega
 rw[e1,e3]at e
 have h1:=cV (hd.take (n-2))
 have h2:=oF (hd.take (n-2))
 rw[List.length_take,Nat.min_eq_left (by omega)]at h2
 simp only[dv]at e
 have e2:l[n-2]'(by omega)+1048576*(l[n-1]'(by omega)+1048576*(l[n]'(by omega)+1048576*0))=(1048576*(l[n]'(by omega))+l[n-1]'(by omega))*1048576+l[n-2]'(by omega):=by omega
 rw[e2]at e
 rw[Int.mul_add (pw (n-2)) _ 1,Int.mul_one]
 omega
theorem Pj {v u0:List Int} {n m:Nat} (hv:Dg v) (hvl:v.length=n) (hn:2≤n) (hv1:524288≤v[n-1]'(by omega)) (hu:Dg u0) (hul:u0.length=m+n) (hf:m+n≤17592186044416) (hdr:dv (u0.drop m)<dv v) :
  ∃r,aJ (po v) ((m:Int)-1,u0,List.replicate m 0)=some r∧r.1.length=m+n∧Dg r.1∧r.2.length=m∧Dg r.2∧dv r.1+dv v*dv r.2=dv u0∧dv r.1<dv v:=by
 have hvn:=oF hv
 rw[hvl]at hvn
 refine gY (I:=fun i s=>s.1=((m-i:Nat):Int)-1∧s.2.1.length=m+n∧Dg s.2.1∧s.2.2.length=m∧Dg s.2.2∧(∀j (hj:j<s.2.2.length),j<m-i→s.2.2[j]=0)∧dv s.2.1+dv v*dv s.2.2=dv u0∧dv (s.2.1.drop (m-i))<dv v)
  m _ ⟨rfl,hul,hu,by simp,Dg.rep _,fun j hj _=>by simp,by simp[Fi],hdr⟩ (tD (by omega)) ?_
 rintro i ⟨s,u,q⟩ hi ⟨h1,hl,hd,hql,hqd,hz,he,hdr⟩
 simp only at h1 hl hd hql hqd hz he hdr
 subst h1
 generalize hk:m-i=k at *
 simp only[po]
 by_cases h0:0<k
 ·left
  have ek:((k:Int)-1)=((k-1:Nat):Int):=by omega
  rw[ek,if_pos (by simp)]
  have e1:IntKind.i64.wrap (((k-1:Nat):Int)+(v.length:Int))=((k-1+n:Nat):Int):=by rw[hvl,nx (by omega)];omega
  have e2:IntKind.i64.wrap (((k-1+n:Nat):Int)-1)=((k-1+n-1:Nat):Int):=by rw[nx (by omega)];omega
  have e3:IntKind.i64.wrap ((v.length:Int)-1)=((n-1:Nat):Int):=by rw[hvl,nx (by omega)];omega
  have e4:IntKind.i64.wrap (((k-1+n:Nat):Int)+1)=((k-1+n+1:Nat):Int):=by rw[nx (by omega)];omega
  have e5:IntKind.i64.wrap (((k-1:Nat):Int)-1)=((k-1:Nat):Int)-1:=nx (by omega)
  rw[e1,e2,e3,e4,e5]
  have i1:k-1+n<u.length:=by omega
  have i2:k-1+n-1<u.length:=by omega
  have i3:k-1+n-2<u.length:=by omega
  have iv:n-1<v.length:=by omega
  have iv2:n-2<v.length:=by omega
  have g1:=hd.get i1
  have g2:=hd.get i2
  have g3:=hd.get i3
  have gv:=hv.get iv
  have gv2:=hv.get iv2
  rw[du i1,Option.bind_some,QJ g1.1 (by omega),Option.bind_some,du i2,Option.bind_some,du iv,Option.bind_some,KZ g1.1 (by omega) g2,UG (by omega) (by omega) (by omega),Option.bind_some,UY (by omega) (by omega),Option.bind_some,Ue (by omega) (by omega),show k-1+n+1-(k-1)=n+1 by omega]
  generalize hw:(u.drop (k-1)).take (n+1)=w
  have hwl:w.length=n+1:=by rw[← hw,List.length_take,List.length_drop];omega
  have hwd:Dg w:=by rw[← hw];exact (hd.drop _).take _
  have hwg:∀j (hj:j<n+1),w[j]'(by omega)=u[k-1+j]'(by omega):=by
   intro j hj
   subst hw
   rw[List.getElem_take,List.getElem_drop]
  have hup:dv (u.drop (k+n))=0:=by
   have s1:=gU (u.drop k) (i:=n) (by rw[List.length_drop];omega)
   rw[List.drop_drop]at s1
   have n1:=cV ((hd.drop k).take n)
   have n2:=cV (hd.drop (k+n))
   have hp:=pR n
   rcases (show dv (u.drop (k+n))=0∨1≤dv (u.drop (k+n)) by omega) with h|h
   ·exact h
   ·have:pw n*1≤pw n*dv (u.drop (k+n)):=Int.mul_le_mul_of_nonneg_left h (by omega)
    omega
  have hW:dv w=dv (u.drop (k-1)):=by
   have s1:=gU (u.drop (k-1)) (i:=n+1) (by rw[List.length_drop];omega)
   rw[List.drop_drop,show k-1+(n+1)=k+n by omega,hup,hw]at s1
   omega
  have hWk:dv w=u[k-1]+1048576*dv (u.drop k):=by
   rw[hW,kS (by omega),show k-1+1=k by omega]
  have gk:=hd.get (show k-1<u.length by omega)
  have hWV:dv w<1048576*dv v:=by omega
  have t2:=Sc hvl hn hv
  have t3:=Sd hwl hn hwd
  rw[hwg n (by omega),hwg (n-1) (by omega),hwg (n-2) (by omega)]at t3
  have a1:u[k-1+(n-1)]'(by omega)=u[k-1+n-1]'(by omega):=by congr 1;omega
  have a2:u[k-1+(n-2)]'(by omega)=u[k-1+n-2]'(by omega):=by congr 1;omega
  rw[a1,a2]at t3
  obtain⟨g,q1,q2,q3,q4⟩:=Kw (s13:=((k-1:Nat):Int)) hn hvl (by omega) (k-1) rfl (by omega) (du iv2) (du i3) ⟨hv1,gv.2⟩ gv2 g3 (T:=1048576*u[k-1+n]+u[k-1+n-1]) (by omega) (by omega) t2 t3 hWV
  rw[q1,Option.bind_some,Option.bind_some]
  have hVp:0<dv v:=by
   have:=cV hwd
   omega
  obtain⟨l,r1,r2,r3,r4⟩:=Oa hwd hv (by unfold Fit;omega) (by omega) hVp q2 q3 q4
  have iq:k-1<q.length:=by omega
  rw[r1,Option.bind_some,du iq,Option.bind_some]
  simp only
  have hq0:0≤dv w / dv v:=Int.ediv_nonneg (cV hwd) (by omega)
  have hqB:dv w / dv v<1048576:=Int.ediv_lt_of_lt_mul hVp hWV
  have hmod:=Int.emod_lt_of_pos (dv w) hVp
  simp only[Int.toNat_natCast]
  have hdl:dv (l++u.drop (k-1+n+1))=dv w % dv v:=by
   rw[ju,show k-1+n+1=k+n by omega,hup,r4];omega
  have hut:(u.take (k-1)).length=k-1:=by rw[List.length_take];omega
  have hdu:dv (u.take (k-1)++(l++u.drop (k-1+n+1)))=dv (u.take (k-1))+pw (k-1)*(dv w % dv v):=by rw[ju,hut,hdl]
  refine⟨by omega,_,rfl,by rw[show m-(i+1)=k-1 by omega],?_,(hd.take _).append (r3.append (hd.drop _)),by simpa using hql,hqd.set _ ⟨hq0,hqB⟩,fun j hj hjk =>?_,?_,?_⟩
  ·simp only[List.length_append,List.length_take,List.length_drop];omega
  ·rw[List.getElem_set_ne (by omega)]
   exact hz j (by simpa using hj) (by omega)
  ·rw[hdu,Ai iq,hz _ iq (by omega),Int.sub_zero,Int.mul_add]
   have s2:=gU u (i:=k-1) (by omega)
   rw[← hW]at s2
   have hm:=Int.mul_ediv_add_emod (dv w) (dv v)
   have:pw (k-1)*dv w=dv v*(pw (k-1)*(dv w / dv v))+pw (k-1)*(dv w % dv v):=by
    rw[Int.mul_left_comm,← Int.mul_add,hm]
   omega
  ·rw[show m-(i+1)=k-1 by omega,List.drop_append,hut,Nat.sub_self,List.drop_zero,List.drop_eq_nil_of_le (by omega),List.nil_append,hdl]
   exact hmod
 ·right
  have:k=0:=by omega
  subst this
  refine⟨(u,q),by rw[if_neg (by simp)],hl,hd,hql,hqd,he,?_⟩
  simpa using hdr
theorem K6 {v:List Int} {t:Int} {n:Nat} (hl:v.length=n) (hn:0<n) (hf:n≤17592186044416) (ht:v[n-1]'(by omega)=t) (h1:1≤t) (h2:t<1048576) :
  ∃s,aJ (pn v) 1=some s∧∃j:Nat,s=2 ^ j∧j≤19∧524288≤t*s∧t*s<1048576:=by
 refine gY (I:=fun i s=>s=2 ^ i∧t*s<1048576) 20 _ ⟨rfl,by omega⟩ (by unfold FU;omega) ?_
 rintro i s hi ⟨rfl,hb⟩
 have hp:(0:Int)<2 ^ i:=Int.pow_pos (by decide)
 have hpt:(2:Int) ^ i≤t*2 ^ i:=by
  have:1*(2:Int) ^ i≤t*2 ^ i:=Int.mul_le_mul_of_nonneg_right h1 (by omega)
  omega
 have hi20:i≤19:=by
  rcases Nat.lt_or_ge 19 i with h|h
  ·have hx:i=20:=by omega
   subst hx
   omega
  ·exact h
 simp only[pn]
 have e:IntKind.i64.wrap ((v.length:Int)-1)=((n-1:Nat):Int):=by rw[hl,nx (by omega)];omega
 rw[e,du (by omega),Option.bind_some,ht,nx (x:=t*2 ^ i) (by omega)]
 by_cases h:t*2 ^ i<524288
 ·left
  rw[if_pos (by simpa using h)]
  refine⟨by omega,_,rfl,by rw[nx (by omega),Int.pow_succ],?_⟩
  rw[nx (by omega),← Int.mul_assoc]
  omega
 ·right
  rw[if_neg (by simpa using h)]
  exact⟨_,rfl,i,rfl,hi20,by omega,hb⟩
theorem div_eq {m n:Nat} (hn:n≠0) (hfm:(bj m).length≤17592186043904) (hfn:(bj n).length≤17592186043904):pk (bj m) (bj n)=some (bj (m / n),bj (m % n)):=by
 unfold pk
 rw[Ka (by unfold Fit;omega) (by unfold Fit;omega),Option.bind_some]
 by_cases hlt:m<n
 ·have:wN (m:Int) n<0:=by unfold wN;rw[if_pos (by omega)];decide
  rw[if_pos (by simpa using this),uS (by unfold Fit;omega),Option.bind_some,Nat.div_eq_of_lt hlt,Nat.mod_eq_of_lt hlt,cU]
 have:¬wN (m:Int) n<0:=by unfold wN;rw[if_neg (by omega)];split<;>decide
 rw[if_neg (by simpa using this)]
 obtain⟨hp1,hp2⟩:=uW hn
 have hnl:=jh n
 by_cases h1:(bj n).length=1
 ·rw[if_pos (by simp;omega)]
  have hnB:(n:Int)<1048576:=by rw[h1]at hnl;simpa [pw] using hnl
  have e:bj n=[(n:Int)]:=by
   rw[lu hn,Nat.div_eq_of_lt (by omega),cU,Nat.mod_eq_of_lt (by omega)]
  have ei:P.idx (bj n) 0=some (n:Int):=by rw[e];rfl
  rw[ei,Option.bind_some,JB (gh m) ⟨by omega,by omega⟩ (by unfold Fit;omega),Option.bind_some,eT]
  have hm1:(m:Int) % n=((m % n:Nat):Int):=(Int.natCast_emod m n).symm
  have hm2:((m:Int) / n).toNat=m / n:=by
   rw[← Int.natCast_ediv];rfl
  have hml:m % n<n:=Nat.mod_lt _ (by omega)
  simp only[hm1,hm2]
  rw[zi (n:=m % n) (by simp[Fit]) (Dg.mk (by omega) Dg.nil) (by simp[dv]),Option.bind_some]
 ·rw[if_neg (by simp;omega)]
  generalize hN:(bj n).length=N at *
  have hN2:2≤N:=by omega
  have hdn:=gh n
  have gt:=hdn.get (show N-1<(bj n).length by omega)
  generalize ht:(bj n)[N-1]'(by omega)=t at gt
  have hsp:=gU (bj n) (i:=N-1) (by omega)
  rw[eT,kS (by omega),List.drop_eq_nil_of_le (by omega),ht]at hsp
  simp only[dv,Int.mul_zero,Int.add_zero]at hsp
  have lo0:=cV (hdn.take (N-1))
  have lo1:=oF (hdn.take (N-1))
  rw[List.length_take,Nat.min_eq_left (by omega)]at lo1
  have hpw:=pR (N-1)
  have ht1:1≤t:=by
   rcases (show t=0∨1≤t by omega) with h|h
   ·subst h;omega
   ·exact h
  obtain⟨s,hs1,j,hs2,hj,hs3,hs4⟩:=K6 hN (by omega) (by omega) ht ht1 gt.2
  have hj2:(2:Int) ^ j≤524288:=by
   have:∀j:Nat,j≤19→(2:Int) ^ j≤524288:=by decide
   exact this j hj
  have hj1:(0:Int)<2 ^ j:=Int.pow_pos (by decide)
  have hts:(t+1)*s≤1048576:=by
   have h20:(1048576:Int)=2 ^ (20-j)*2 ^ j:=by rw[← Int.pow_add,Nat.sub_add_cancel (by omega)];rfl
   rw[h20]at hs4 ⊢
   rw[hs2]at hs4 ⊢
   have:t<2 ^ (20-j):=Int.lt_of_mul_lt_mul_right hs4 (by omega)
   exact Int.mul_le_mul_of_nonneg_right (by omega) (by omega)
  rw[← hs2]at hj1 hj2
  obtain⟨S,rfl⟩:∃S:Nat,s=S:=⟨s.toNat,by omega⟩
  have hSd:Dg [(S:Int)]:=Dg.mk (by omega) Dg.nil
  have hdvS:dv [(S:Int)]=S:=by simp[dv]
  rw[hs1,Option.bind_some,mul_eq (gh m) hSd (by simp;omega),Option.bind_some,eT,hdvS]
  have em:((m:Int)*S).toNat=m*S:=by rw[← Int.natCast_mul];rfl
  have en:((n:Int)*S).toNat=n*S:=by rw[← Int.natCast_mul];rfl
  rw[em]
  have hmS:(bj (m*S)).length≤(bj m).length+1:=by
   apply lr
   rw[nW,Int.natCast_mul]
   have a1:=jh m
   have:(m:Int)*S≤m*1048576:=Int.mul_le_mul_of_nonneg_left (by omega) (by omega)
   omega
  have hU:∃u,((if ((((bj (m*S)++[0]).length:Int))==((bj m).length:Int))=true then (eY 8 (bj (m*S)++[0]) [0]).bind fun x98=>some x98 else some (bj (m*S)++[0]))=some u)∧Dg u∧dv u=(m*S:Nat)∧dv u<pw (u.length-1)∧(bj (m*S)).length+1≤u.length∧u.length≤(bj m).length+3:=by
   have d1:Dg (bj (m*S)++[0]):=(gh _).append (Dg.mk (by omega) Dg.nil)
   have v1:dv (bj (m*S)++[0])=(m*S:Nat):=by rw[ju,eT];simp[dv]
   have v2:=jh (m*S)
   split
   ·rw[TK (by simp;omega),Option.bind_some]
    refine⟨_,rfl,d1.append (Dg.mk (by omega) Dg.nil),by rw[ju,v1];simp[dv],?_,by simp,by simp;omega⟩
    rw[ju,v1]
    simp only[dv,List.length_append,List.length_cons,List.length_nil]
    have:=vL (i:=(bj (m*S)).length) (j:=(bj (m*S)).length+1) (by omega)
    rw[show (bj (m*S)).length+(0+1)+(0+1)-1=(bj (m*S)).length+1 by omega]
    omega
   ·refine⟨_,rfl,d1,v1,?_,by simp,by simp;omega⟩
    rw[v1]
    simpa using v2
  obtain⟨u,hu1,hu2,hu3,hu4,hu5,hu6⟩:=hU
  rw[TK (by simp;omega),Option.bind_some,mul_eq (gh n) hSd (by simp;omega),Option.bind_some,eT,hdvS,en,hu1,Option.bind_some]
  have hVlo:524288*pw (N-1)≤((n*S:Nat):Int):=by
   rw[Int.natCast_mul,hsp,Int.add_mul]
   have a1:0≤dv ((bj n).take (N-1))*S:=Int.mul_nonneg lo0 (by omega)
   have a2:pw (N-1)*524288≤pw (N-1)*(t*S):=Int.mul_le_mul_of_nonneg_left hs3 (by omega)
   rw[Int.mul_assoc]
   omega
  have hVhi:((n*S:Nat):Int)<pw N:=by
   have a0:pw N=1048576*pw (N-1):=by rw[← nW];congr 1;omega
   rw[a0,Int.natCast_mul,hsp]
   have a1:(dv ((bj n).take (N-1))+pw (N-1)*t+1)*S≤(pw (N-1)*(t+1))*S:=Int.mul_le_mul_of_nonneg_right (by rw[Int.mul_add];omega) (by omega)
   have a2:pw (N-1)*((t+1)*S)≤pw (N-1)*1048576:=Int.mul_le_mul_of_nonneg_left hts (by omega)
   rw[Int.mul_assoc]at a1
   rw[Int.add_mul _ 1,Int.one_mul]at a1
   omega
  have hVN:(bj (n*S)).length=N:=by
   have a1:=lr hVhi
   rcases Nat.lt_or_ge (bj (n*S)).length N with h|h
   ·have a2:=jh (n*S)
    have a3:=vL (i:=(bj (n*S)).length) (j:=N-1) (by omega)
    omega
   ·omega
  have hV1:524288≤(bj (n*S))[N-1]'(by omega):=by
   have a1:=gU (bj (n*S)) (i:=N-1) (by omega)
   rw[eT,kS (by omega),List.drop_eq_nil_of_le (by omega)]at a1
   simp only[dv,Int.mul_zero,Int.add_zero]at a1
   have a2:=oF ((gh (n*S)).take (N-1))
   rw[List.length_take,Nat.min_eq_left (by omega)]at a2
   have a3:pw (N-1)*524288<pw (N-1)*((bj (n*S))[N-1]'(by omega)+1):=by rw[Int.mul_add];omega
   have:=Int.lt_of_mul_lt_mul_left a3 (by omega)
   omega
  have hlen:N+1≤u.length:=by
   have:n*S≤m*S:=Nat.mul_le_mul_right _ (by omega)
   have:=kR this
   omega
  obtain⟨M,hM⟩:∃M,u.length=M+N:=⟨u.length-N,by omega⟩
  have e1:IntKind.i64.wrap ((u.length:Int)-((bj (n*S)).length:Int))=(M:Int):=by rw[hVN,hM,nx (by omega)];omega
  rw[e1,V7 (by omega),Option.bind_some,List.length_replicate,nx (x:=(M:Int)-1) (by omega)]
  have hdr:dv (u.drop M)<dv (bj (n*S)):=by
   rw[eT]
   have a1:=gU u (i:=M) (by omega)
   have a2:=cV (hu2.take M)
   have a3:pw M*dv (u.drop M)<pw M*pw (N-1):=by
    rw[← K1,show M+(N-1)=u.length-1 by omega]
    omega
   have:=Int.lt_of_mul_lt_mul_left a3 (by have:=pR M;omega)
   omega
  obtain⟨⟨U,Q⟩,r1,r2,r3,r4,r5,r6,r7⟩:=Pj (gh (n*S)) hVN hN2 hV1 hu2 hM (by omega) hdr
  simp only at r2 r3 r4 r5 r6 r7
  rw[r1,Option.bind_some]
  simp only
  rw[eT,hu3]at r6
  rw[eT]at r7
  have hU0:=cV r3
  have hQ0:=cV r5
  have hS:0<S:=by omega
  have hnS:0<n*S:=Nat.mul_pos (by omega) hS
  obtain⟨U',hU'⟩:∃k:Nat,dv U=k:=⟨(dv U).toNat,by omega⟩
  obtain⟨Q',hQ'⟩:∃k:Nat,dv Q=k:=⟨(dv Q).toNat,by omega⟩
  rw[hU',hQ']at r6
  rw[hU']at r7
  have hnat:U'+n*S*Q'=m*S:=by
   have:((U'+n*S*Q':Nat):Int)=((m*S:Nat):Int):=by rw[Int.natCast_add,Int.natCast_mul (n*S) Q'];exact r6
   omega
  have hUlt:U'<n*S:=by omega
  have hQe:Q'=m / n:=by
   have:m*S / (n*S)=Q':=by
    rw[← hnat,Nat.add_mul_div_left _ _ hnS,Nat.div_eq_of_lt hUlt,Nat.zero_add]
   rw[← this,Nat.mul_div_mul_right _ _ hS]
  have hUe:U'=(m % n)*S:=by
   have:m*S % (n*S)=U':=by rw[← hnat,Nat.add_mul_mod_self_left,Nat.mod_eq_of_lt hUlt]
   rw[← this,Nat.mul_mod_mul_right]
  rw[zi (n:=U') (by unfold Fit;omega) r3 hU',Option.bind_some]
  have hUlen:(bj U').length≤N:=lr (by omega)
  rw[JB (gh U') ⟨by omega,by omega⟩ (by unfold Fit;omega),Option.bind_some,zi (n:=Q') (by unfold Fit;omega) r5 hQ',Option.bind_some,eT,hQe,hUe]
  have:((((m % n)*S:Nat):Int) / (S:Int)).toNat=m % n:=by
   rw[Int.natCast_mul,Int.mul_ediv_cancel _ (by omega)];rfl
  rw[this]
def ze (x:Int):ay:=ay.mk x.sign (bj x.natAbs)
def Ln (x:Int):Nat:=(bj x.natAbs).length
def uj:Nat:=17592186043904
theorem IS:ze 0=ay.mk 0 []:=by unfold ze;rw[show (0:Int).natAbs=0 from rfl,cU];rfl
instance (l:List Int):Decidable (Dg l):=by unfold Dg;infer_instance
def okB (b:ay):Bool:=decide (Dg b.aa)&&(match b.aa.getLast? with|none=>b.ah==0|some d=>(b.ah==1||b.ah == -1)&&d != 0)
theorem F0 {b:ay} : okB b=true↔∃x,b=ze x:=by
 obtain⟨s,l⟩:=b
 unfold okB
 simp only[Bool.and_eq_true,decide_eq_true_eq]
 constructor
 ·rintro⟨hd,h⟩
  cases hl:l.getLast? with
  | none =>
   rw[hl]at h
   have:l=[]:=List.getLast?_eq_none_iff.1 hl
   subst this
   exact⟨0,by rw[IS];simpa using h⟩
  | some d =>
   rw[hl]at h
   simp only[Bool.and_eq_true,Bool.or_eq_true,beq_iff_eq,bne_iff_ne]at h
   have hne:l≠[]:=by intro h0;subst h0;simp at hl
   have hlast:∀h:l≠[],l.getLast h≠0:=by
    intro h'
    rw[List.getLast?_eq_some_getLast h']at hl
    cases hl
    exact h.2
   have e:=y8 hd hlast
   have h0:(dv l).toNat≠0:=by
    intro h0
    rw[h0,cU]at e
    exact hne e.symm
   have hn:=cV hd
   refine⟨s*dv l,?_⟩
   unfold ze
   rcases h.1 with rfl|rfl
   ·rw[Int.one_mul,Int.sign_eq_one_of_pos (by omega)]
    have:(dv l).natAbs=(dv l).toNat:=by omega
    rw[this,e]
   ·rw[Int.neg_mul,Int.one_mul,Int.sign_neg,Int.sign_eq_one_of_pos (by omega)]
    have:(-dv l).natAbs=(dv l).toNat:=by omega
    rw[this,e]
 ·rintro⟨x,hx⟩
  unfold ze at hx
  simp only[ay.mk.injEq]at hx
  obtain⟨rfl,rfl⟩:=hx
  refine⟨gh _,?_⟩
  by_cases h0:x=0
  ·subst h0;simp[cU]
  ·have hne:bj x.natAbs≠[]:=fun h=>h0 (by have:=ri.1 h;omega)
   rw[List.getLast?_eq_some_getLast hne]
   have h1:=Nq _ hne
   simp only[Bool.and_eq_true,Bool.or_eq_true,beq_iff_eq,bne_iff_ne]
   refine⟨?_,h1⟩
   rcases Int.lt_trichotomy x 0 with h|h|h
   ·right;exact Int.sign_eq_neg_one_of_neg h
   ·exact absurd h h0
   ·left;exact Int.sign_eq_one_of_pos h
theorem T7 (x:Int):okB (ze x)=true:=F0.2 ⟨x,rfl⟩
theorem BK {b:ay} (hf:Fit b.aa):dH b=some (okB b):=by
 obtain⟨s,l⟩:=b
 simp only[Fit]at hf
 have key:∃r,aJ (l7 ⟨s,l⟩) 0=some r∧(match r with | .inl _=>Dg l | .inr x=>x=false∧¬Dg l):=by
  refine gY (I:=fun i s=>s=(i:Int)∧Dg (l.take i)) l.length _ ⟨rfl,by simpa using Dg.nil⟩ (tD hf) ?_
  rintro i s hi ⟨rfl,hd⟩
  simp only[l7]
  by_cases hlt:i<l.length
  ·rw[if_pos (by simpa using hlt),du hlt,Option.bind_some]
   by_cases h1:l[i]<0
   ·right
    exact⟨.inr false,by rw[if_pos (by simpa using h1)],rfl,fun hh=>by have:=hh.get hlt;omega⟩
   ·by_cases h2:l[i]>1048575
    ·right
     exact⟨.inr false,by rw[if_neg (by simpa using h1),if_pos (by simpa using h2)],rfl,fun hh=>by have:=hh.get hlt;omega⟩
    ·left
     refine⟨hlt,_,by rw[if_neg (by simpa using h1),if_neg (by simpa using h2)],by rw[nx (by omega)];omega,?_⟩
     have e:l.take (i+1)=l.take i++[l[i]]:=by rw[List.take_add_one];simp[hlt]
     rw[e]
     exact hd.append (Dg.mk (by omega) Dg.nil)
  ·right
   have:i=l.length:=by omega
   subst this
   rw[List.take_length]at hd
   exact⟨.inl (),by rw[if_neg (by simp)],hd⟩
 obtain⟨r,h1,h2⟩:=key
 unfold dH okB
 rw[h1,Option.bind_some]
 cases r with
 | inr x =>
  obtain⟨rfl,h⟩:=h2
  simp[h]
 | inl u =>
  simp only at h2 ⊢
  simp only[h2,decide_true,Bool.true_and]
  by_cases h0:l=[]
  ·subst h0;simp
  ·have hp:0<l.length:=List.length_pos_iff.2 h0
   have e:IntKind.i64.wrap ((l.length:Int)-1)=((l.length-1:Nat):Int):=by rw[nx (by omega)];omega
   rw[if_neg (by simpa using h0),e,du (by omega),List.getLast?_eq_some_getLast h0,List.getLast_eq_getElem]
   simp only[Option.bind_some]
   by_cases hs:s=1
   ·subst hs;simp
   ·rw[if_neg (by simpa using hs)]
    by_cases hs':s = -1
    ·subst hs';simp
    ·rw[if_neg (by simpa using hs')]
     simp[hs,hs']
theorem BL {x:Int} (h:Ln x≤17592186044416):dH (ze x)=some true:=by
 rw[BK (show Fit (ze x).aa from h),T7]
theorem Ob {s:Int} {l:List Int} (x:Int) (hf:Fit l) (hd:Dg l) (hv:dv l=x.natAbs) (hs:x≠0→s=x.sign):fq s l=some (ze x):=by
 unfold fq
 rw[zi hf hd hv,Option.bind_some]
 by_cases h0:x=0
 ·subst h0
  rw[show (0:Int).natAbs=0 from rfl,cU,IS];rfl
 ·have:bj x.natAbs≠[]:=fun h=>h0 (by have:=ri.1 h;omega)
  rw[if_neg (by simpa using this),hs h0];rfl
theorem E9 (b:ay):e9 true b=some (b,0):=rfl
theorem JC (x:Int):x.sign=1∧x=x.natAbs∧0<x∨x.sign = -1∧x = -x.natAbs∧x<0∨x.sign=0∧x=0:=by
 rcases Int.lt_trichotomy x 0 with h|h|h
 ·right;left;exact⟨Int.sign_eq_neg_one_of_neg h,by omega,h⟩
 ·subst h;right;right;exact⟨rfl,rfl⟩
 ·left;exact⟨Int.sign_eq_one_of_pos h,by omega,h⟩
theorem Od {x:Int} {s:Int} {n:Nat} (hn:n=x.natAbs) (hs:x≠0→s=x.sign) (hL:n≠0→(bj n).length≤17592186044416):fq s (bj n)=some (ze x):=by
 subst hn
 refine Ob x ?_ (gh _) (eT _) hs
 unfold Fit
 by_cases h:x.natAbs=0
 ·rw[h,cU];simp
 ·exact hL h
def lg (n:Nat):Nat:=if n=0 then 0 else n.log2+1
theorem UR {r x:Nat} (h:2*r<x):lg r<lg x:=by
 unfold lg
 rw[if_neg (show x≠0 by omega)]
 by_cases h0:r=0
 ·rw[if_pos h0];omega
 ·rw[if_neg h0]
  have h1:=Nat.log2_self_le h0
  have h2:=@Nat.lt_log2_self x
  have:2 ^ (r.log2+1)<2 ^ (x.log2+1):=by rw[Nat.pow_succ];omega
  have:=(Nat.pow_lt_pow_iff_right (by decide:1<2)).1 this
  omega
theorem Tm {n k:Nat} (h:(n:Int)<pw k):lg n≤20*k:=by
 unfold lg
 by_cases h0:n=0
 ·rw[if_pos h0];omega
 ·rw[if_neg h0]
  have:n<2 ^ (20*k):=by
   have:pw k=((2 ^ (20*k):Nat):Int):=by
    unfold pw
    rw[Nat.pow_mul,Int.natCast_pow];rfl
   omega
  have:=(Nat.log2_lt h0).2 this
  omega
theorem PL {a b:Nat} (ha:(bj a).length≤uj) (hb:(bj b).length≤uj):aJ mO (bj a,bj b)=some (bj (Nat.gcd a b)):=by
 have hL:uj=17592186043904:=rfl
 have key:∃r,aJ mO (bj a,bj b)=some r∧r=bj (Nat.gcd a b):=by
  have la:=Tm (jh a)
  have lb:=Tm (jh b)
  let val:List Int→Nat:=fun l=>(dv l).toNat
  have hval:∀n,val (bj n)=n:=fun n=>by show (dv (bj n)).toNat=n;rw[eT];rfl
  refine oK (I:=fun (s:List Int×List Int)=>∃x y,s=(bj x,bj y)∧Nat.gcd x y=Nat.gcd a b∧(bj x).length≤uj∧(bj y).length≤uj)
   (μ:=fun (s:List Int×List Int)=>lg (val s.1)+lg (val s.2)+(if val s.1<val s.2 then 1 else 0)) _ ⟨a,b,rfl,rfl,ha,hb⟩ (by simp only[hval];unfold FU;split<;>omega) ?_
  rintro _ ⟨x,y,rfl,hg,hx,hy⟩
  simp only[mO]
  by_cases h0:y=0
  ·right
   subst h0
   refine⟨_,by rw[cU,if_neg (by simp)],?_⟩
   rw[← hg,Nat.gcd_zero_right]
  ·left
   have hne:0<(bj y).length:=List.length_pos_iff.2 (fun h=>h0 (ri.1 h))
   rw[if_pos (by simpa using hne),div_eq h0 (by omega) (by omega),Option.bind_some]
   have hlt:=Nat.mod_lt x (Nat.pos_of_ne_zero h0)
   refine⟨_,rfl,⟨y,x % y,rfl,?_,hy,?_⟩,?_⟩
   ·rw[← hg,Nat.gcd_comm y,← Nat.gcd_rec,Nat.gcd_comm]
   ·have:=kR (Nat.mod_le x y);omega
   ·simp only[hval]
    rw[if_neg (by omega)]
    by_cases hxy:x<y
    ·rw[if_pos hxy,Nat.mod_eq_of_lt hxy];omega
    ·rw[if_neg hxy]
     have:lg (x % y)<lg x:=by
      apply UR
      have h1:=Nat.div_add_mod x y
      have h2:1≤x / y:=(Nat.one_le_div_iff (by omega)).2 (by omega)
      have h3:y*1≤y*(x / y):=Nat.mul_le_mul_left _ h2
      omega
     omega
 obtain⟨r,h1,rfl⟩:=key
 exact h1
theorem TF {x y:Int} (hx:Ln x≤uj) (hy:Ln y≤uj):pf (ze x) (ze y)=some (ze (Int.gcd x y),0):=by
 have hL:uj=17592186043904:=rfl
 unfold pf
 rw[BL (by omega),Option.bind_some]
 simp only[Bool.not_true,Bool.false_eq_true,if_false]
 rw[BL (by omega),Option.bind_some,Option.bind_some]
 simp only[Bool.not_true,Bool.false_eq_true,if_false]
 have hxd:(ze x).aa=bj x.natAbs:=rfl
 have hyd:(ze y).aa=bj y.natAbs:=rfl
 rw[hxd,hyd]
 have fx:(bj x.natAbs).length≤17592186043904:=by show Ln x≤_;omega
 have fy:(bj y.natAbs).length≤17592186043904:=by show Ln y≤_;omega
 have fg:(bj (Nat.gcd x.natAbs y.natAbs)).length≤17592186043904:=by
  by_cases h:y.natAbs=0
  ·rw[h,Nat.gcd_zero_right];exact fx
  ·have:=kR (Nat.gcd_le_right x.natAbs (Nat.pos_of_ne_zero h));omega
 rw[uS (by unfold Fit;omega),Option.bind_some,PL (by omega) (by omega),Option.bind_some,uS (by unfold Fit;omega),Option.bind_some]
 have hgn:Nat.gcd x.natAbs y.natAbs=((Int.gcd x y:Nat):Int).natAbs:=rfl
 rw[Od (x:=(Int.gcd x y:Int)) hgn ?_ (fun _=>by omega),Option.bind_some,E9,Option.bind_some]
 intro h
 rw[Int.sign_eq_one_of_pos (by omega)]
theorem VM (x:Int):IntKind.u64.wrap x=x % 18446744073709551616:=by
 unfold IntKind.wrap
 simp only[IntKind.bits,IntKind.signed,Bool.false_and,Bool.false_eq_true,if_false]
 rfl
theorem wu {x:Int} (h:0≤x∧x<18446744073709551616):IntKind.u64.wrap x=x:=by rw[VM];omega
theorem Wc {d:Int} {i:Nat} (hi:i≤3) (hd:0≤d∧d<1048576) (h8:i=3→d≤8):CS .u64 (IntKind.u64.wrap d) (IntKind.i64.wrap (20*(i:Int)))=some (pw i*d):=by
 rw[wu (by omega),nx (by omega)]
 unfold CS
 rw[if_neg (by omega)]
 have e:(2:Int) ^ (min (20*(i:Int)).toNat IntKind.u64.bits)=pw i:=by
  have:∀i:Nat,i≤3→(2:Int) ^ (min (20*(i:Int)).toNat IntKind.u64.bits)=pw i:=by decide
  exact this i hi
 rw[e,wu,Int.mul_comm]
 rcases (show i=0∨i=1∨i=2∨i=3 by omega) with rfl|rfl|rfl|rfl
 ·rw[show pw 0=1 by decide];omega
 ·rw[show pw 1=1048576 by decide];omega
 ·rw[show pw 2=1099511627776 by decide];omega
 ·rw[show pw 3=1152921504606846976 by decide];have:=h8 rfl;omega
theorem U1 {u d:Int} {i:Nat} (hi:i≤3) (hu:0≤u∧u<pw i) (hd:0≤d∧pw i*d<9223372036854775809):ot .or .u64 u (pw i*d)=u+pw i*d:=by
 have hp:=pR i
 have hpd:0≤pw i*d:=Int.mul_nonneg (by omega) hd.1
 have hpw:pw i=((2 ^ (20*i):Nat):Int):=by unfold pw;rw[Nat.pow_mul,Int.natCast_pow];rfl
 have hp3:pw i≤1152921504606846976:=by
  have:=vL hi
  rwa [show pw 3=1152921504606846976 by decide]at this
 unfold ot
 simp only
 have e1:(BitVec.ofInt IntKind.u64.bits u ||| BitVec.ofInt IntKind.u64.bits (pw i*d)).toNat=(u+pw i*d).toNat:=by
  rw[BitVec.toNat_or,BitVec.toNat_ofInt,BitVec.toNat_ofInt]
  have e:((2 ^ IntKind.u64.bits:Nat):Int)=18446744073709551616:=by decide
  rw[e]
  have e2:(u % 18446744073709551616).toNat=u.toNat:=by omega
  have e3:((pw i*d) % 18446744073709551616).toNat=d.toNat <<< (20*i):=by
   rw[Nat.shiftLeft_eq,Int.emod_eq_of_lt hpd (by omega),hpw]
   have:d=(d.toNat:Int):=by omega
   rw[this,← Int.natCast_mul,Int.toNat_natCast,Int.toNat_natCast,Nat.mul_comm]
  rw[e2,e3,Nat.or_comm,← Nat.shiftLeft_add_eq_or_of_lt (by omega),Nat.shiftLeft_eq]
  have:pw i*d=((d.toNat*2 ^ (20*i):Nat):Int):=by
   rw[hpw,Int.natCast_mul,Int.mul_comm]
   congr 1
   omega
  omega
 rw[e1,wu (by omega)]
 omega
theorem T9 {g:Nat} (h:(bj g).length≤uj):nd (ze g)=some (decide (g=1)):=by
 have hL:uj=17592186043904:=rfl
 have hgd:(ze (g:Int)).aa=bj g:=rfl
 have hLn:Ln (g:Int)=(bj g).length:=rfl
 unfold nd
 have hsmall:g=1→(bj g).length≤4:=by
  rintro rfl
  exact Nat.le_trans (lr (k:=1) (by decide)) (by decide)
 suffices hI:∃r,pg (ze g)=some r∧((if r.2=true then some (r.1==1) else some false)=some (decide (g=1))) by
  obtain⟨r,h1,h2⟩:=hI
  rw[h1,Option.bind_some,h2]
 unfold pg
 rw[BL (by rw[hLn];omega),Option.bind_some]
 simp only[Bool.not_true,Bool.false_eq_true,if_false,Option.bind_some,hgd]
 by_cases h4:(bj g).length>4
 ·rw[if_pos (by simp;omega)]
  refine⟨_,rfl,?_⟩
  have:g≠1:=fun hh=>by have:=hsmall hh;omega
  simp[this]
 rw[if_neg (by simp;omega)]
 have key:∃r,aJ (pj (ze g)) (0,0)=some r∧(match r with | .inl u=>u=(g:Int) | .inr x=>x=(0,false)∧g≠1):=by
  refine gY (I:=fun i s=>s.2=(i:Int)∧s.1=dv ((bj g).take i)) (bj g).length _ ⟨rfl,rfl⟩ (tD (by omega)) ?_
  rintro i ⟨u,s⟩ hi ⟨h1,h2⟩
  simp only at h1 h2
  subst h1 h2
  simp only[pj,hgd]
  have hdg:=(gh g).take i
  have hu0:=cV hdg
  have hu1:=oF hdg
  rw[List.length_take,Nat.min_eq_left hi]at hu1
  by_cases hlt:i<(bj g).length
  ·have gd:=(gh g).get hlt
   rw[if_pos (by simpa using hlt),du hlt,Option.bind_some]
   have hT:(if ((i:Int)==3)=true then some (decide ((bj g)[i]>8)) else some false)=some (decide (i=3∧(bj g)[i]>8)):=by
    by_cases h3:i=3
    ·subst h3;simp
    ·rw[if_neg (by simp;omega)];simp[h3]
   rw[hT,Option.bind_some]
   by_cases h8:i=3∧(bj g)[i]>8
   ·right
    rw[if_pos (by simpa using h8)]
    refine⟨.inr (0,false),rfl,rfl,?_⟩
    rintro rfl
    have:=lr (n:=1) (k:=1) (by decide)
    omega
   ·left
    rw[if_neg (by simpa using h8),Wc (by omega) gd (by omega),Option.bind_some]
    have hb:pw i*(bj g)[i]<9223372036854775809:=by
     rcases (show i=0∨i=1∨i=2∨i=3 by omega) with h|h|h|h
     ·have:pw i=1:=by rw[h];decide
      rw[this];omega
     ·have:pw i=1048576:=by rw[h];decide
      rw[this];omega
     ·have:pw i=1099511627776:=by rw[h];decide
      rw[this];omega
     ·have:pw i=1152921504606846976:=by rw[h];decide
      rw[this];omega
    rw[U1 (by omega) ⟨hu0,hu1⟩ ⟨gd.1,hb⟩]
    exact⟨hlt,_,rfl,by rw[nx (by omega)];omega,by rw[iu hlt]⟩
  ·right
   have:i=(bj g).length:=by omega
   subst this
   exact⟨.inl (dv ((bj g).take (bj g).length)),by rw[if_neg (by simp)],by rw[List.take_length,eT]⟩
 obtain⟨r,h1,h2⟩:=key
 rw[h1,Option.bind_some]
 cases r with
 | inr x=>obtain⟨rfl,h⟩:=h2;exact⟨_,rfl,by simp[h]⟩
 | inl u =>
  simp only at h2
  subst h2
  have hs:(ze (g:Int)).ah=(g:Int).sign:=rfl
  have hs0:¬(g:Int).sign<0:=by have:=JC (g:Int);omega
  simp only[hs]
  rw[if_neg (by simp),Option.bind_some,if_neg (by simp),if_pos (by simp)]
  by_cases hg:(g:Int)<9223372036854775808
  ·rw[if_pos (by simpa using hg)]
   refine⟨_,rfl,?_⟩
   simp only[if_true]
   rw[wrap64 (by omega) hg]
   congr 1
   by_cases h:g=1
   ·subst h;rfl
   ·have:¬((g:Int)=1):=by omega
    simp[h,this]
  ·rw[if_neg (by simpa using hg)]
   have:g≠1:=by omega
   exact⟨_,rfl,by simp[this]⟩
def WC (q:Rat):ba:=ba.mk (ze q.num) (ze q.den)
def okF (f:ba):Bool:=okB f.cH&&okB f.cB&&(f.cB.ah==1)&&decide (Nat.gcd (dv f.cH.aa).toNat (dv f.cB.aa).toNat=1)
def TE (f:ba):Prop:=f.cH.aa.length≤uj∧f.cB.aa.length≤uj
theorem uL {f:ba} (hf:TE f):eR f=some (okF f):=by
 have hL:uj=17592186043904:=rfl
 obtain⟨p,q⟩:=f
 simp only[TE]at hf
 unfold eR okF
 rw[BK (show Fit p.aa by unfold Fit;omega),Option.bind_some]
 by_cases h1:okB p=true
 ·simp only[h1,Bool.not_true,Bool.false_eq_true,if_false,Bool.true_and]
  rw[BK (show Fit q.aa by unfold Fit;omega),Option.bind_some]
  by_cases h2:okB q=true
  ·simp only[h2,Bool.not_true,Bool.false_eq_true,if_false,Bool.true_and,Option.bind_some]
   by_cases h3:q.ah=1
   ·rw[if_neg (by simp[h3])]
    obtain⟨x,rfl⟩:=F0.1 h1
    obtain⟨y,rfl⟩:=F0.1 h2
    rw[TF hf.1 hf.2,Option.bind_some]
    simp only[beq_self_eq_true,if_true]
    have h5:(dv (ze x).aa).toNat=x.natAbs:=by show (dv (bj _)).toNat=_;rw[eT];rfl
    have h6:(dv (ze y).aa).toNat=y.natAbs:=by show (dv (bj _)).toNat=_;rw[eT];rfl
    rw[T9,Option.bind_some,h5,h6]
    ·rw[h3];rfl
    ·have hy:0<y.natAbs:=by
      have:y.sign=1:=h3
      rcases JC y with⟨a,b,c⟩|⟨a,b,c⟩|⟨a,b⟩<;>omega
     have:=kR (Nat.gcd_le_right x.natAbs hy)
     have h7:(bj y.natAbs).length≤uj:=hf.2
     show (bj (Nat.gcd x.natAbs y.natAbs)).length≤_
     omega
   ·rw[if_pos (by simpa using h3)]
    simp[h3]
  ·simp only[h2,Bool.not_false,if_true,Option.bind_some,Bool.false_and]
 ·simp only[h1,Bool.not_false,if_true,Option.bind_some,Bool.false_and]
instance:DecidableEq ay:=fun a b=>decidable_of_iff (a.ah=b.ah∧a.aa=b.aa) (by cases a;cases b;simp)
instance:DecidableEq ba:=fun a b=>decidable_of_iff (a.cH=b.cH∧a.cB=b.cB) (by cases a;cases b;simp)
end Go.Proofs.YtpkahnkoecbndaaGreatDoor.P
namespace Go.Proofs.YtpkahnkoecbndaaGreatDoor.P
open Go.RowKit T
set_option linter.unusedSimpArgs false
set_option linter.unusedVariables false
theorem least {Q:Nat→Prop} : ∀n,Q n→∃m,m≤n∧Q m∧∀j,j<m→¬Q j:=by
 intro n
 induction n using Nat.strongRecOn with
 | _ n ih =>
  intro hn
  by_cases h:∃j,j<n∧Q j
  ·obtain⟨j,h1,h2⟩:=h
   obtain⟨m,m1,m2⟩:=ih j h1 h2
   exact⟨m,by omega,m2⟩
  ·exact⟨n,Nat.le_refl _,hn,fun j hj hq=>h ⟨j,hj,hq⟩⟩
theorem allI {α ρ:Type} (l:List α) {body:Int→Option (Int⊕(Unit⊕ρ))} (p:Nat→α→Prop) (bad:ρ) [∀i x,Decidable (p i x)] (hlen:l.length<4611686018427387904)
  (hb:∀(i:Nat) x,l[i]? = some x→(∀j y,j<i→l[j]? = some y→p j y)→body (i:Int)=some (if p i x then .inl ((i+1:Nat):Int) else .inr (.inr bad))) (he:body (l.length:Int)=some (.inr (.inl ()))) :
  (∃h:(∀i x,l[i]? = some x→p i x),aJ body 0=some (.inl ()))∨(∃h:¬(∀i x,l[i]? = some x→p i x),aJ body 0=some (.inr bad)):=by
 by_cases hall:∀i x,l[i]? = some x→p i x
 ·refine .inl ⟨hall,oc l.length (fun i=>(i:Int)) hlen (fun i hi =>?_) he⟩
  rw[hb i l[i] (List.getElem?_eq_getElem hi) (fun j y _ hj=>hall j y hj),if_pos (hall i _ (List.getElem?_eq_getElem hi))]
 ·have:∃n x,l[n]? = some x∧¬p n x:=by
   refine Classical.byContradiction fun hc=>hall fun i x hx=>Classical.byContradiction fun hp=>hc ⟨i,x,hx,hp⟩
  obtain⟨n,hn⟩:=this
  obtain⟨m,-,⟨x,hx,hp⟩,hm⟩:=least (Q:=fun n=>∃x,l[n]? = some x∧¬p n x) n hn
  have hbefore:∀j y,j<m→l[j]? = some y→p j y:=fun j y hj hy=>Classical.byContradiction fun hq=>hm j hj ⟨y,hy,hq⟩
  have hml:=(List.getElem?_eq_some_iff.1 hx).1
  refine .inr ⟨hall,oc m (fun i=>(i:Int)) (by omega) (fun i hi =>?_) ?_⟩
  ·have hil:i<l.length:=by omega
   rw[hb i l[i] (List.getElem?_eq_getElem hil) (fun j y hj hy=>hbefore j y (by omega) hy),if_pos (hbefore i _ hi (List.getElem?_eq_getElem hil))]
  ·rw[hb m x hx hbefore,if_neg hp]
theorem R8 {l:List Int} (h:l.length*8≤140737488351232):bd l=some l:=by
 unfold bd eY
 rw[if_pos ⟨by simp[maxLen];omega,by simp;omega⟩]
 rfl
theorem xr {l:List Int} (hl:l.length*8≤140737488351232):fN l=some (decide (¬l.Nodup)):=by
 have ht:=T.JP hl
 unfold il iT bF zk at ht
 simp only[Option.bind_some]at ht
 unfold v7 at ht
 rw[if_pos hl]at ht
 simp only[Option.bind_some]at ht
 unfold fN jk
 rw[R8 hl]
 simp only[Option.bind_some]
 rw[if_pos (by omega)]
 exact ht
theorem AV {α:Type} {l:List α} {i:Int} {x:α} (h:P.idx l i=some x):0≤i∧i<l.length:=by
 unfold P.idx at h
 split at h
 ·assumption
 ·cases h
theorem FF {α:Type} {l:List α} {i:Int} {x:α} (h:P.idx l i=some x):l[i.toNat]? = some x:=by
 unfold P.idx at h
 split at h
 ·exact h
 ·cases h
theorem TZ {α:Type} {l:List α} {i:Int} (h:0≤i∧i<l.length):∃x,P.idx l i=some x:=by
 refine⟨l[i.toNat]'(by omega),vz h.1 ?_⟩
 exact List.getElem?_eq_getElem _
def PF (f:ba):Prop:=f.cH.aa.length≤4∧f.cB.aa.length≤4
theorem PF.fit {f:ba} (h:PF f):TE f:=by
 have hB:uj=17592186043904:=rfl
 exact⟨by have:=h.1;omega,by have:=h.2;omega⟩
def sH (s:gx) (n:Int):Bool:=(oS s (WC n)).getD false
def off (ms:List aK) (leaf value:Int):Bool:=ms.any fun m=>m.eu==leaf && !sH m.cc value
theorem AF (x y:bt):((x.eu==y.eu)&&(x.jU==y.jU))=true↔x=y:=by
 obtain⟨x1,x2⟩:=x
 obtain⟨y1,y2⟩:=y
 simp
open Classical in
theorem Ud {a b:List bt} (ha:a.length<4611686018427387904):np a b=some (decide (a=b)):=by
 unfold np
 by_cases hl:a.length=b.length
 ·rw[if_neg (by simp[hl])]
  have hloop:=allI a (body:=lJ a b) (fun i x=>b[i]? = some x) false ha (fun i x hx _=>by
    have hi:=(List.getElem?_eq_some_iff.1 hx).1
    have hb:b[i]? = some (b[i]'(by omega)):=List.getElem?_eq_getElem _
    simp only[lJ]
    rw[if_pos (by simp;omega),cN hx,cN hb]
    simp only[Option.bind_some]
    by_cases h:x=b[i]'(by omega)
    ·rw[if_neg (by rw[(AF x _).2 h];decide),if_pos (by rw[hb,h]),b9 (by omega)]
    ·have:((x.eu==(b[i]'(by omega)).eu)&&(x.jU==(b[i]'(by omega)).jU))=false:=by
      rw[Bool.eq_false_iff]
      exact fun hq=>h ((AF _ _).1 hq)
     rw[this,if_pos (by decide),if_neg (fun hq=>h (by rw[hb]at hq;exact (Option.some.inj hq).symm))]) (by simp only[lJ];rw[if_neg (by simp)])
  rcases hloop with⟨h,he⟩|⟨h,he⟩
  ·rw[he]
   simp only[Option.bind_some]
   have:a=b:=by
    apply List.ext_getElem hl
    intro i h1 h2
    have:=h i a[i] (List.getElem?_eq_getElem h1)
    rw[List.getElem?_eq_getElem h2]at this
    exact (Option.some.inj this).symm
   rw[decide_eq_true this]
  ·rw[he]
   simp only[Option.bind_some]
   have:¬a=b:=by
    rintro rfl
    exact h fun i x hx=>hx
   rw[decide_eq_false this]
 ·rw[if_pos (by simp;omega),decide_eq_false (fun h=>hl (by rw[h]))]
def Ov:List av:=[⟨⟨#[97]⟩,30,7,-1,-1⟩,⟨⟨#[98]⟩,20,8,-1,-1⟩,⟨⟨#[99]⟩,10,9,-1,-1⟩,⟨⟨#[]⟩,50,15,0,1⟩,⟨⟨#[]⟩,60,24,3,2⟩]
theorem PB:kI ⟨[]⟩ [ByteArray.mk #[97],ByteArray.mk #[98],ByteArray.mk #[99]] [30,20,10] [7,8,9]=some (⟨Ov⟩,4,[0,1,2],0):=by kernel_rfl
def JX (n:Int):ba:=⟨⟨1,[n]⟩,⟨1,[1]⟩⟩
theorem AE:fR 19 21=some ⟨JX 19,JX 21⟩∧fR 21 22=some ⟨JX 21,JX 22⟩:=⟨by kernel_rfl,by kernel_rfl⟩
def Wm (n:Int):List bQ:=[⟨1,[4,3,1],⟨#[98]⟩,n,8⟩]
theorem HG:dp ⟨Ov⟩=some true:=by kernel_rfl
theorem HF {asked:List Int} {ops:List bQ} {ms:List aK} {b:Bool} {out:List bt} (h1:aH ms=some false) (h2:asked.length≤10) (h3:b=decide (¬asked.Nodup)) (h4:b=false→aJ (jQ ⟨Ov⟩ 4 60 24 asked ops ms) (0,[])=some out):fM ⟨Ov⟩ 4 60 24 asked ops ms=some (if b then ([],5) else (out,0)):=by
 unfold fM
 rw[HG]
 simp only[Option.bind_some,Bool.not_true,Bool.false_eq_true,if_false]
 rw[if_neg (by decide)]
 simp only[Option.bind_some]
 rw[if_neg (by decide),h1]
 simp only[Option.bind_some,Bool.false_eq_true,if_false]
 rw[xr (by omega),← h3]
 simp only[Option.bind_some]
 cases b with
 | true=>rfl
 | false =>
  simp only[Bool.false_eq_true,if_false]
  rw[h4 rfl]
  rfl
theorem zb {asked:List Int} {n:Int} {ms:List aK} {out want:List bt} (h1:aH ms=some false) (h2:asked.length≤10) (h3:asked.Nodup) (h4:aJ (jQ ⟨Ov⟩ 4 60 24 asked (Wm n) ms) (0,[])=some out) (h5:out=want) (h6:out.length<10):iN ⟨Ov⟩ asked n ms want=some true:=by
 unfold iN
 have:=HF (b:=false) h1 h2 (by simp[h3]) (fun _=>h4)
 unfold Wm at this
 rw[this]
 simp only[Bool.false_eq_true,if_false,Option.bind_some,beq_self_eq_true,if_true]
 rw[Ud (by omega)]
 simp[h5]
theorem QL:kB=some true:=by
 have hsd:iL Ov:=by
  obtain⟨b,hb,hs⟩:=T.uM ⟨Ov⟩
  rw[HG]at hb
  cases hb
  exact hs.1 rfl
 have wf20:Lq [2,0]:=fun x hx=>by simp at hx;omega
 have hs:(E1 [2,0]).size≤5000:=we wf20 (by simp)
 have hL:=E3 hsd (by decide) (t:=E1 [2,0]) (by omega) (b:=5) (by omega)
 have hsd2:iL (Ov++[av.mk (E1 [2,0]) 0 5 (-1) (-1)]):=yu hsd (by decide) ⟨rfl,rfl,by simp only;omega,⟨by simp,by simp⟩,⟨by simp,by simp⟩⟩
 have hT:tp [[2,0]] 3 2=[2,0]:=by decide
 have hO:jC ⟨Ov++[av.mk (E1 [2,0]) 0 5 (-1) (-1)]⟩ [5] [[2,0]] [5] 3 2=some ([2,0],0):=by
  rw[T.Lx (by simp) (fun r hr=>by simp at hr;subst hr;exact⟨by simp,wf20⟩) (by simp)]
  unfold kq
  rw[if_pos (SL (by omega) (by simp) (Wb (by omega))),if_neg (by simp),if_neg (by simp),if_pos]
  ·rw[← hT];rfl
  ·intro i x hx
   match i with
   | 0 =>
    simp at hx;subst hx
    exact⟨hsd2,_,rfl,rfl,rfl,rfl⟩
   | i+1=>simp at hx
 have hD:dY ⟨Ov++[av.mk (E1 [2,0]) 0 5 (-1) (-1)]⟩ [5] [[2,0]] [5] [0,1,2] 2=some ([2,0],0):=by
  unfold dY
  rw[show (([0,1,2]:List Int).length:Int)=3 by rfl,hO]
  simp only[Option.bind_some]
  rw[if_neg (by decide),xr (by decide)]
  simp only[Option.bind_some]
  rw[if_neg (by decide),show jB [2,0] 3=some ([2,0],0) by kernel_rfl]
  simp only[Option.bind_some]
  rw[show aJ (jP [0,1,2] ([2,0],0)) (0,[])=some [2,0] by kernel_rfl]
  rfl
 have c1:aH [⟨1,⟨JX 19,JX 21⟩⟩]=some false:=by kernel_rfl
 have c2:aH []=some false:=by kernel_rfl
 have c3:aH [⟨1,⟨JX 19,JX 21⟩⟩,⟨1,⟨JX 21,JX 22⟩⟩]=some false:=by kernel_rfl
 have s1:=zb (asked:=[1]) (n:=20) (ms:=[⟨1,⟨JX 19,JX 21⟩⟩]) (out:=[]) (want:=[]) c1 (by decide) (by decide) (by kernel_rfl) rfl (by decide)
 have s2:=zb (asked:=[1,2]) (n:=20) (ms:=[]) (out:=[⟨2,0⟩]) (want:=[⟨2,0⟩]) c2 (by decide) (by decide) (by kernel_rfl) rfl (by decide)
 have s3:=zb (asked:=[1]) (n:=21) (ms:=[]) (out:=[⟨1,1⟩]) (want:=[⟨1,1⟩]) c2 (by decide) (by decide) (by kernel_rfl) rfl (by decide)
 have s4:=zb (asked:=[1]) (n:=20) (ms:=[⟨1,⟨JX 19,JX 21⟩⟩,⟨1,⟨JX 21,JX 22⟩⟩]) (out:=[⟨1,2⟩]) (want:=[⟨1,2⟩]) c3 (by decide) (by decide) (by kernel_rfl) rfl (by decide)
 have j1:=HF (asked:=[1,1]) (ops:=[]) (ms:=[]) (b:=true) (out:=[]) c2 (by decide) (by decide) (fun h=>by cases h)
 have hI:fh [0,1,2] [0,1,2]=some true:=by kernel_rfl
 have hI2:fh [2,0] [2,0]=some true:=by kernel_rfl
 unfold kB
 rw[PB]
 simp only[Option.bind_some]
 rw[if_neg (by decide),if_neg (by decide),hI]
 simp only[Option.bind_some,Bool.not_true,Bool.false_eq_true,if_false]
 rw[AE.1,AE.2]
 simp only[Option.bind_some]
 rw[s1,s2,s3,s4,j1,T.y6 wf20 (by simp)]
 simp only[Option.bind_some,if_true]
 rw[hL]
 simp only[Option.bind_some]
 rw[show ((Ov.length:Nat):Int)=5 by rfl,hD]
 simp only[Option.bind_some]
 rw[if_pos (by decide),if_pos (by decide),if_pos (by decide),hI2]
 rfl
theorem N8 {l:List Int} {i:Nat} {x:Int} (hx:l[i]? = some x) (hl:l.length<4611686018427387904):aJ (iC l (i:Int)) 0=some (if x∈l.take i then .inr true else .inl ()):=by
 have hi:=(List.getElem?_eq_some_iff.1 hx).1
 rw[QG l i (body:=iC l (i:Int)) (fun _ y=>if y=x then some true else none) (by omega) (by omega) (fun j y hj hy=>by
  unfold iC
  dsimp only
  rw[if_pos (by simp;omega)]
  simp only[cN hy,cN hx,Option.bind_some,b9 (show j<4611686018427387904 by omega)]
  by_cases h:y=x
  ·rw[if_pos (by simp[h]),if_pos h]
  ·rw[if_neg (by simp[h]),if_neg h]) (by unfold iC;simp)]
 by_cases hm:x∈l.take i
 ·rw[if_pos hm]
  obtain⟨j,hj,hjx⟩:=List.getElem_of_mem hm
  cases hf:gX (fun (_:Nat) y=>if y=x then some true else none) 0 (l.take i) with
  | none =>
   have:=fQ.1 hf j _ (List.getElem?_eq_getElem hj)
   rw[if_pos hjx]at this
   cases this
  | some r =>
   obtain⟨j',y,-,h2⟩:=jw hf
   split at h2
   ·cases h2;rfl
   ·cases h2
 ·rw[if_neg hm]
  have:gX (fun (_:Nat) y=>if y=x then some true else none) 0 (l.take i)=none:=fQ.2 fun j y hy=>if_neg fun h:y=x=>hm (h ▸ List.mem_of_getElem? hy)
  rw[this]
theorem EF {l:List Int} (hl:l.length<4611686018427387904):jz l=some (decide (¬l.Nodup)):=by
 unfold jz
 rcases RX l (body:=ka l) (fun i x=>x∉l.take i) true hl (fun i x hx=>by
   have hi:=(List.getElem?_eq_some_iff.1 hx).1
   unfold ka
   dsimp only
   rw[if_pos (by simp;omega),N8 hx hl]
   simp only[Option.bind_some]
   by_cases hm:x∈l.take i
   ·rw[if_pos hm,if_neg (fun h=>h hm)]
   ·rw[if_neg hm,if_pos hm,← b9 (show i<4611686018427387904 by omega)]) (by unfold ka;simp) with⟨h,he⟩|⟨h,he⟩
 ·rw[he]
  simp only[Option.bind_some]
  rw[decide_eq_false (fun hn:¬l.Nodup=>hn (pN.2 h))]
 ·rw[he]
  simp only[Option.bind_some]
  rw[decide_eq_true (show ¬l.Nodup from fun hn=>h (pN.1 hn))]
open Classical in
noncomputable def wP (l:List av) (seals:List Int) (rows:List (List Int)) (blinds leaves:List Int) (k:Int):List Int×Int :=
 if (kq ⟨l⟩ seals rows blinds leaves.length k).2=0 then (if leaves.Nodup then ((dr (kq ⟨l⟩ seals rows blinds leaves.length k).1).1.map fun i=>leaves.getD i.toNat 0,0) else ([],5)) else ([],(kq ⟨l⟩ seals rows blinds leaves.length k).2)
theorem Sw {v:az} {seals:List Int} {rows:List (List Int)} {blinds:List Int} {n k:Int} (h:(kq v seals rows blinds n k).2=0):QS rows n k∧kq v seals rows blinds n k=(tp rows n k.toNat,0)∧seals.length=rows.length∧seals.Nodup:=by
 unfold kq at h ⊢
 split at h
 ·rename_i h1
  rw[if_pos h1]
  split at h
  ·cases h
  ·rename_i h2
   rw[if_neg h2]
   split at h
   ·cases h
   ·rename_i h3
    rw[if_neg h3]
    split at h
    ·rename_i h4
     rw[if_pos h4]
     exact⟨h1,rfl,by omega,by simpa using h3⟩
    ·cases h
 ·cases h
theorem RA {rows:List (List Int)} {n k:Int} (h:QS rows n k):qM (tp rows n k.toNat) n:=by
 obtain⟨h1,h2,h3,h4,h5,h6⟩:=h
 refine⟨by omega,h4,by rw[kg];omega,by rw[kg];omega,fun i x hx =>?_⟩
 have hi:=(List.getElem?_eq_some_iff.1 hx).1
 rw[kg]at hi
 rw[EX hi]at hx
 cases hx
 exact⟨Int.emod_nonneg _ (by omega),Int.emod_lt_of_pos _ (by omega)⟩
theorem DN {body:(Int×List Int)→Option ((Int×List Int)⊕List Int)} {leaves d:List Int} (hd:d.length≤1000) (hr:∀x∈d,0≤x∧x<leaves.length)
  (hb:∀s,body s=(if decide (s.1<(d.length:Int)) then (P.idx d s.1).bind fun x13=>(P.idx leaves x13).bind fun x14=>(eY 8 s.2 [x14]).bind fun x15=>some (.inl (IntKind.i64.wrap (s.1+1),x15)) else some (.inr s.2))) :
  aJ body (0,[])=some (d.map fun i=>leaves.getD i.toNat 0):=by
 have hloop:=oc (body:=body) d.length (fun i=>((i:Int),(d.take i).map fun i=>leaves.getD i.toNat 0)) (r:=d.map fun i=>leaves.getD i.toNat 0) (by omega) (fun i hi=>by
  have hx:d[i]? = some d[i]:=List.getElem?_eq_getElem hi
  have hxr:=hr d[i] (List.getElem_mem hi)
  obtain⟨y,hy⟩:=TZ hxr
  have hyl:=FF hy
  rw[hb]
  dsimp only
  rw[if_pos (by simp;omega),cN hx]
  simp only[Option.bind_some,hy]
  rw[mN (by simp;omega) (by decide)]
  simp only[Option.bind_some]
  rw[b9 (by omega),List.take_succ_eq_append_getElem hi,List.map_append]
  simp[List.getD,hyl]) (by
  rw[hb]
  dsimp only
  rw[if_neg (by simp),List.take_length])
 exact hloop
open Classical in
theorem Ae {l:List av} {seals:List Int} {rows:List (List Int)} {blinds leaves:List Int} {k:Int} (h1:rows.length<4611686018427387904) (h2:∀r∈rows,r.length<4611686018427387904∧Lq r) (h3:seals.length*8≤140737488351232) (h4:leaves.length*8≤140737488351232) :
  dY ⟨l⟩ seals rows blinds leaves k=some (wP l seals rows blinds leaves k)∧ED ⟨l⟩ seals rows blinds leaves k=some (wP l seals rows blinds leaves k):=by
 unfold dY ED wP
 rw[T.Lx h1 h2 h3,T.Qv h1 h2 h3,xr h4,EF (by omega)]
 simp only[Option.bind_some]
 by_cases ho:(kq ⟨l⟩ seals rows blinds leaves.length k).2=0
 ·have e1:((kq ⟨l⟩ seals rows blinds leaves.length k).2 != 0)=false:=by simp[ho]
  simp only[e1,Bool.false_eq_true,if_false,if_pos ho]
  by_cases hn:leaves.Nodup
  ·have e2:decide (¬leaves.Nodup)=false:=by simp[hn]
   simp only[e2,Bool.false_eq_true,if_false,if_pos hn]
   obtain⟨o1,o2,-,-⟩:=Sw ho
   rw[o2]
   have hr:=RA o1
   have hkl:(tp rows (leaves.length:Int) k.toNat).length≤100:=hr.2.2.1
   dsimp only
   rw[T.RS _ (by omega),T.Qt _ (by omega),if_pos hr]
   simp only[Option.bind_some]
   have hrange:=Ac hr.2.2.2.2
   have hlen:=(rn (tp rows (leaves.length:Int) k.toNat)).1
   constructor
   ·rw[DN (body:=jP leaves ((dr (tp rows (leaves.length:Int) k.toNat)).1,0)) (leaves:=leaves) (d:=(dr (tp rows (leaves.length:Int) k.toNat)).1) (by omega) hrange (fun s=>by obtain⟨s1,s2⟩:=s;rfl)]
    rfl
   ·rw[DN (body:=vY leaves ((dr (tp rows (leaves.length:Int) k.toNat)).1,0)) (leaves:=leaves) (d:=(dr (tp rows (leaves.length:Int) k.toNat)).1) (by omega) hrange (fun s=>by obtain⟨s1,s2⟩:=s;rfl)]
    rfl
  ·have e2:decide (¬leaves.Nodup)=true:=by simp[hn]
   simp only[e2,if_true,if_neg hn]
   exact⟨trivial,trivial⟩
 ·have e1:((kq ⟨l⟩ seals rows blinds leaves.length k).2 != 0)=true:=by simpa using ho
  simp only[e1,if_true,if_neg ho]
  exact⟨trivial,trivial⟩
def tO (row:List Int) (i:Nat):av:=av.mk (E1 row) 0 i (-1) (-1)
def iG (rows:List (List Int)) (m:Nat):List av:=(List.range m).map fun i=>tO (rows.getD i []) i
def upto (m:Nat):List Int:=(List.range m).map fun (i:Nat)=>(i:Int)
theorem kF (rows:List (List Int)) (m:Nat):(iG rows m).length=m:=by simp[iG]
theorem iV (m:Nat):(upto m).length=m:=by simp[upto]
theorem zj {m i:Nat} (h:i<m):(upto m)[i]? = some (i:Int):=by simp[upto,h]
theorem JA {rows:List (List Int)} {m i:Nat} (h:i<m):(iG rows m)[i]? = some (tO (rows.getD i []) i):=by simp[iG,h]
theorem K5 (rows:List (List Int)) (m:Nat):iG rows (m+1)=iG rows m++[tO (rows.getD m []) m]:=by simp[iG,List.range_succ]
theorem sW (m:Nat):upto (m+1)=upto m++[(m:Int)]:=by simp[upto,List.range_succ]
theorem B6 (m:Nat):(upto m).Nodup:=by
 unfold upto
 refine List.pairwise_map.2 (List.pairwise_iff_getElem.2 fun i j hi hj hij =>?_)
 simp only[List.getElem_range]
 omega
def Gj (rows:List (List Int)):Prop:=rows.length≤8∧∀r∈rows,r.length≤102∧Lq r
theorem Uc {rows:List (List Int)} (h:Gj rows) (i:Nat):(rows.getD i []).length≤102∧Lq (rows.getD i []):=by
 by_cases hi:i<rows.length
 ·have:rows.getD i []=rows[i]:=by simp[List.getD,hi]
  rw[this]
  exact h.2 _ (List.getElem_mem hi)
 ·have:rows.getD i []=[]:=by simp[List.getD,List.getElem?_eq_none (Nat.le_of_not_lt hi)]
  rw[this]
  exact⟨by simp,fun x hx=>by cases hx⟩
theorem ES {row:List Int} {i:Nat} (h:row.length≤102∧Lq row) (hi:i≤1000):jx (tO row i):=by
 have:=we h.2 (by omega)
 refine⟨rfl,rfl,?_,⟨by simp[tO],by simp[tO]⟩,⟨?_,?_⟩⟩
 ·simp only[tO];omega
 ·simp only[tO];omega
 ·simp only[tO];omega
theorem Gp {l:List av} (hl:l.length≤2000) (h:∀x∈l,jx x):iL l:=⟨hl,fun i _ x hx =>.inl (h x (List.mem_of_getElem? hx))⟩
theorem yt {rows:List (List Int)} (h:Gj rows) {m:Nat} (hm:m≤8):iL (iG rows m):=Gp (by rw[kF];omega) fun x hx=>by
 unfold iG at hx
 obtain⟨i,hi,rfl⟩:=List.mem_map.1 hx
 have:=List.mem_range.1 hi
 exact ES (Uc h i) (by omega)
theorem Ps {rows:List (List Int)} (h:Gj rows) (b:Bool):aJ (ep rows b) (0,[],[],[])=some (.inl (iG rows rows.length,upto rows.length,upto rows.length)):=by
 have hloop:=oc (body:=ep rows b) rows.length (fun i=>((i:Int),iG rows i,upto i,upto i)) (r := .inl (iG rows rows.length,upto rows.length,upto rows.length)) (by have:=h.1;omega) (fun i hi=>by
  have h8:=h.1
  have hx:rows[i]? = some rows[i]:=List.getElem?_eq_getElem hi
  have hr:=h.2 _ (List.getElem_mem hi)
  have hg:rows.getD i []=rows[i]:=by simp[List.getD,hi]
  have hts:=we hr.2 (by omega)
  simp only[ep]
  rw[if_pos (by simp;omega),cN hx]
  simp only[Option.bind_some]
  rw[T.y6 hr.2 (by omega)]
  simp only[Option.bind_some]
  rw[T.E3 (yt h (by omega)) (by rw[kF];omega) (by omega) (b:=(i:Int)) (by omega)]
  simp only[Option.bind_some,bne_self_eq_false,Bool.false_eq_true,if_false]
  rw[mN (by rw[iV];simp;omega) (by decide)]
  simp only[Option.bind_some]
  rw[mN (by rw[iV];simp;omega) (by decide)]
  simp only[Option.bind_some]
  rw[K5,sW,hg,kF,b9 (by omega)]
  rfl) (by
  simp only[ep]
  rw[if_neg (by simp)])
 exact hloop
theorem ux {l:List av} (hs:iL l) {i:Nat} {row:List Int} {k:Nat} (h:l[i]? = some (tO row k)):ji l (i:Int) (E1 row) 0 (k:Int):=⟨hs,_,cN h,rfl,rfl,rfl⟩
theorem vI {l:List av} {seals:List Int} {rows:List (List Int)} {n k:Int} (hok:QS rows n k) (h1:seals.length=rows.length) (h2:seals.Nodup) (h3:nG ⟨l⟩ seals rows (upto rows.length)):kq ⟨l⟩ seals rows (upto rows.length) n k=(tp rows n k.toNat,0):=by
 unfold kq
 rw[if_pos hok,if_neg (by rw[iV];omega),if_neg (by simpa using h2),if_pos h3]
theorem Ba {leaves:List Int} {x:Int} (h:0≤x∧x<leaves.length):leaves[x.toNat]? = some (leaves.getD x.toNat 0):=by
 have:x.toNat<leaves.length:=by omega
 simp[List.getD,this]
theorem map_inj {leaves:List Int} (hn:leaves.Nodup) {x y:Int} (hx:0≤x∧x<leaves.length) (hy:0≤y∧y<leaves.length) (h:leaves.getD x.toNat 0=leaves.getD y.toNat 0):x=y:=by
 have h1:=Ba hx
 have h2:=Ba hy
 obtain⟨g1,e1⟩:=List.getElem?_eq_some_iff.1 h1
 obtain⟨g2,e2⟩:=List.getElem?_eq_some_iff.1 h2
 rcases Nat.lt_trichotomy x.toNat y.toNat with hlt|heq|hlt
 ·exact absurd (by rw[e1,e2,h]) (List.pairwise_iff_getElem.1 hn _ _ g1 g2 hlt)
 ·omega
 ·exact absurd (by rw[e1,e2,h]) (List.pairwise_iff_getElem.1 hn _ _ g2 g1 hlt)
theorem NV {leaves d:List Int} (hn:leaves.Nodup) (hd:d.Nodup) (hr:∀x∈d,0≤x∧x<leaves.length):(d.map fun i=>leaves.getD i.toNat 0).Nodup:=by
 refine List.pairwise_map.2 (List.pairwise_iff_getElem.2 fun i j hi hj hij he =>?_)
 exact List.pairwise_iff_getElem.1 hd i j hi hj hij (map_inj hn (hr _ (List.getElem_mem hi)) (hr _ (List.getElem_mem hj)) he)
theorem Qc {leaves d e:List Int} (hn:leaves.Nodup) (hd:∀x∈d,0≤x∧x<leaves.length) (he:∀x∈e,0≤x∧x<leaves.length) (h:(d.map fun i=>leaves.getD i.toNat 0)=e.map fun i=>leaves.getD i.toNat 0):d=e:=by
 have hl:=congrArg List.length h
 simp only[List.length_map]at hl
 apply List.ext_getElem hl
 intro i h1 h2
 have:=congrArg (fun l:List Int=>l[i]?) h
 simp only[List.getElem?_map,List.getElem?_eq_getElem h1,List.getElem?_eq_getElem h2,Option.map_some,Option.some.injEq]at this
 exact map_inj hn (hd _ (List.getElem_mem h1)) (he _ (List.getElem_mem h2)) this
theorem Pu {leaves:List Int} {r:List Int×Int} {i:Nat} {a:Int} (hl:leaves.length≤1000) (ha:r.1[i]? = some a) (hm:a∈leaves):aJ (dA leaves r (i:Int)) (false,0)=some true:=by
 have hloop:=oc (body:=dA leaves r (i:Int)) leaves.length (fun j=>(decide (a∈leaves.take j),(j:Int))) (r:=decide (a∈leaves)) (by omega) (fun j hj=>by
  have hx:leaves[j]? = some leaves[j]:=List.getElem?_eq_getElem hj
  simp only[dA]
  rw[if_pos (by simp;omega),List.take_succ_eq_append_getElem hj]
  by_cases h:a∈leaves.take j
  ·rw[if_pos (by rw[decide_eq_true h]),b9 (by omega),decide_eq_true (List.mem_append_left _ h)]
  ·rw[if_neg (by rw[decide_eq_false h];decide),cN hx,cN ha,b9 (by omega)]
   simp only[Option.bind_some]
   by_cases he:leaves[j]=a
   ·rw[decide_eq_true (List.mem_append_right _ (by rw[he];exact List.mem_singleton.2 rfl)),he,beq_self_eq_true]
   ·rw[decide_eq_false (fun hq=>(List.mem_append.1 hq).elim h fun hq2=>he (List.mem_singleton.1 hq2).symm)]
    have:(leaves[j]==a)=false:=by simpa using he
    rw[this]) (by
  simp only[dA]
  rw[if_neg (by simp),List.take_length])
 have hloop':aJ (dA leaves r (i:Int)) (false,0)=some (decide (a∈leaves)):=by
  rw[← hloop];simp
 rw[hloop',decide_eq_true hm]
theorem Pt {leaves:List Int} {r:List Int×Int} (hl:leaves.length≤1000) (hr:r.1.length≤1000) (hm:∀a∈r.1,a∈leaves):aJ (er leaves r) 0=some (.inl ()):=by
 refine oc (body:=er leaves r) r.1.length (fun i=>(i:Int)) (by omega) (fun i hi =>?_) ?_
 ·have hx:r.1[i]? = some r.1[i]:=List.getElem?_eq_getElem hi
  simp only[er]
  rw[if_pos (by simp;omega),Pu hl hx (hm _ (List.getElem_mem hi))]
  simp only[Option.bind_some,Bool.not_true,Bool.false_eq_true,if_false]
  rw[b9 (by omega)]
 ·simp only[er]
  rw[if_neg (by simp)]
theorem Of {a:List (List Int)} {r s:List Int} {n:Int} {k:Nat} (hr:qM r n) (hs:qM s n) (hrl:r.length=k) (hsl:s.length=k) (h:tp (a++[r]) n k=tp (a++[s]) n k):r=s:=by
 apply List.ext_getElem (by omega)
 intro j h1 h2
 have h3:=congrArg (fun l:List Int=>l[j]?) h
 simp only[EX (show j<k by omega),Option.some.injEq,wO]at h3
 have e1:r.getD j 0=r[j]:=by simp[List.getD,h1]
 have e2:s.getD j 0=s[j]:=by simp[List.getD,h2]
 rw[e1,e2]at h3
 have b1:=hr.2.2.2.2 j r[j] (List.getElem?_eq_getElem h1)
 have b2:=hs.2.2.2.2 j s[j] (List.getElem?_eq_getElem h2)
 have h4:(r[j]-s[j]) % (n-(j:Nat))=0:=by
  have:r[j]-s[j]=(s6 a j+r[j])-(s6 a j+s[j]):=by omega
  rw[this]
  exact Int.emod_eq_emod_iff_emod_sub_eq_zero.1 h3
 have h5:=Int.dvd_of_emod_eq_zero h4
 obtain⟨q,hq⟩:=h5
 have hN:0<n-(j:Nat):=by omega
 rcases Int.lt_trichotomy q 0 with hq0|hq0|hq0
 ·have:(n-(j:Nat))*q≤(n-(j:Nat))*(-1):=Int.mul_le_mul_of_nonneg_left (by omega) (by omega)
  omega
 ·subst hq0;simp at hq;omega
 ·have:(n-(j:Nat))*1≤(n-(j:Nat))*q:=Int.mul_le_mul_of_nonneg_left (by omega) (by omega)
  omega
theorem Oe {m i:Nat} (h:i≤m):(upto m).take i=upto i:=by
 unfold upto
 rw[← List.map_take,List.take_range,Nat.min_eq_left h]
open Classical in
theorem J0 (rows:List (List Int)) (leaves:List Int) (k:Int) (other:List Int) (h0:rows.length*24≤140737488351232∧∀y∈rows,(y.length*8≤140737488351232∧∀z∈y,(Lit.int .i64 z).wf=true)) (h1:leaves.length*8≤140737488351232)
  (h3:other.length*8≤140737488351232∧∀z∈other,(Lit.int .i64 z).wf=true):ef rows leaves k other=some true:=by
 unfold ef
 rw[QL]
 simp only[Option.bind_some]
 obtain⟨b,hb,hb2⟩:=T.TD rows (by omega)
 rw[hb]
 simp only[Option.bind_some]
 cases b with
 | false=>rfl
 | true =>
 simp only[Bool.not_true,Bool.false_eq_true,if_false]
 by_cases q0:rows.length=0
 ·rw[if_pos (by simp[q0])];rfl
 rw[if_neg (by simp;exact fun h=>q0 (by rw[h];rfl))]
 by_cases q1:(rows.length:Int)>8
 ·rw[if_pos (by simpa using q1)];rfl
 rw[if_neg (by simpa using q1)]
 by_cases q2:(leaves.length:Int)>20
 ·rw[if_pos (by simpa using q2)];rfl
 rw[if_neg (by simpa using q2)]
 obtain⟨c,hc,hc2⟩:=T.CX other
 rw[hc]
 simp only[Option.bind_some]
 cases c with
 | false=>rfl
 | true =>
 have hol:=hc2 rfl
 simp only[Bool.not_true,Bool.false_eq_true,if_false]
 have hrows:Gj rows:=⟨by omega,fun r hr=>⟨(hb2 rfl).2 r hr,fun x hx=>T.JU ((h0.2 r hr).2 x hx)⟩⟩
 have hwo:Lq other:=fun x hx=>T.JU (h3.2 x hx)
 have hw:∀r∈rows,r.length<4611686018427387904∧Lq r:=fun r hr=>⟨by have:=(hrows.2 r hr).1;omega,(hrows.2 r hr).2⟩
 rw[Ps hrows]
 simp only[Option.bind_some]
 have hup:(upto rows.length).length=rows.length:=iV _
 obtain⟨d1,-⟩:=Ae (l:=iG rows rows.length) (seals:=upto rows.length) (rows:=rows) (blinds:=upto rows.length) (leaves:=leaves) (k:=k) (by omega) hw (by omega) h1
 rw[d1]
 simp only[Option.bind_some]
 have hsd:=yt hrows (m:=rows.length) (by omega)
 by_cases hok:QS rows leaves.length k
 ·have hall:nG ⟨iG rows rows.length⟩ (upto rows.length) rows (upto rows.length):=by
   intro i x hx
   have hi:=(List.getElem?_eq_some_iff.1 hx).1
   rw[iV]at hi
   rw[zj hi]at hx
   cases hx
   have:(upto rows.length).getD i 0=(i:Int):=by simp[List.getD,zj hi]
   rw[this]
   exact ux hsd (JA hi)
  have hO:=vI hok (iV _) (B6 _) hall
  unfold wP
  rw[hO]
  by_cases hn:leaves.Nodup
  ·simp only[if_true,if_pos hn]
   have hrt:=RA hok
   have hrange:=Ac hrt.2.2.2.2
   have hlen:(dr (tp rows (leaves.length:Int) k.toNat)).1.length=k.toNat:=by rw[(rn _).1,kg]
   have hk:=hok.1
   have hk2:=hok.2.1
   generalize hA:((dr (tp rows (leaves.length:Int) k.toNat)).1.map fun i=>leaves.getD i.toNat 0)=A
   have hAl:A.length=k.toNat:=by rw[← hA,List.length_map,hlen]
   have hAn:A.Nodup:=by rw[← hA];exact NV hn (Nw _) hrange
   have hAm:∀a∈A,a∈leaves:=by
    intro a ha
    rw[← hA]at ha
    obtain⟨x,hx,rfl⟩:=List.mem_map.1 ha
    exact List.mem_of_getElem? (Ba (hrange x hx))
   rw[if_neg (by decide),if_neg (by simp[hAl];omega),EF (by omega)]
   simp only[Option.bind_some]
   rw[if_neg (by simp[hAn]),Pt (by omega) (by simp only;omega) hAm]
   simp only[Option.bind_some]
   rw[T.uL _ (by omega)]
   simp only[Option.bind_some]
   by_cases hro:qM other leaves.length
   ·rw[if_neg (by simp[hro])]
    by_cases hlo:(other.length:Int)=k
    ·rw[if_neg (by simp[hlo])]
     have hm1:IntKind.i64.wrap ((rows.length:Int)-1)=((rows.length-1:Nat):Int):=by rw[wrap64 (by omega) (by omega)];omega
     obtain⟨m,hm⟩:∃m,rows.length=m+1:=⟨rows.length-1,by omega⟩
     have hmr:rows.length-1=m:=by omega
     have hlast:rows[m]? = some (rows[m]'(by omega)):=List.getElem?_eq_getElem _
     rw[hm1,hmr,cN hlast]
     simp only[Option.bind_some]
     rw[T.Jy (by omega)]
     simp only[Option.bind_some]
     by_cases hs:other=rows[m]'(by omega)
     ·rw[if_pos (by simp[hs])]
     ·rw[if_neg (by simp[hs])]
      have hts:=we hwo (by omega)
      rw[T.y6 hwo (by omega)]
      simp only[Option.bind_some]
      rw[T.E3 hsd (by rw[kF];omega) (by omega) (b:=(m:Int)) (by omega)]
      simp only[Option.bind_some]
      rw[zh (by omega)]
      simp only[Option.bind_some]
      rw[mN (by simp;omega) (by decide)]
      simp only[Option.bind_some]
      rw[mN (by simp;omega) (by decide)]
      simp only[Option.bind_some]
      rw[zh (by omega)]
      simp only[Option.bind_some]
      rw[mN (by simp;omega) (by decide)]
      simp only[Option.bind_some]
      rw[mN (by simp;omega) (by decide)]
      simp only[Option.bind_some]
      rw[Oe (by omega)]
      have hmorel:(rows.take m++[other]).length=rows.length:=by simp;omega
      have hmore:∀r∈rows.take m++[other],r.length<4611686018427387904∧Lq r:=by
       intro r hr
       rcases List.mem_append.1 hr with h|h
       ·exact hw r (List.mem_of_mem_take h)
       ·simp at h;subst h;exact⟨by omega,hwo⟩
      have hsl:(upto m++[((iG rows rows.length).length:Int)]).length=rows.length:=by simp[iV];omega
      obtain⟨e1,-⟩:=Ae (l:=iG rows rows.length++[av.mk (E1 other) 0 m (-1) (-1)]) (seals:=upto m++[((iG rows rows.length).length:Int)]) (rows:=rows.take m++[other]) (blinds:=upto rows.length) (leaves:=leaves) (k:=k) (by omega) hmore (by omega) h1
      rw[e1]
      simp only[Option.bind_some,if_true]
      have hsd2:iL (iG rows rows.length++[av.mk (E1 other) 0 m (-1) (-1)]):=yu hsd (by rw[kF];omega) (ES (i:=m) ⟨hol,hwo⟩ (by omega))
      have hok2:QS (rows.take m++[other]) leaves.length k:=by
       obtain⟨t1,t2,t3,t4,t5,t6⟩:=hok
       refine⟨t1,t2,t3,t4,by omega,fun r hr =>?_⟩
       rcases List.mem_append.1 hr with h|h
       ·exact t6 r (List.mem_of_mem_take h)
       ·simp at h;subst h;exact⟨hlo,hro⟩
      have hnd:(upto m++[((iG rows rows.length).length:Int)]).Nodup:=by
       refine List.nodup_append.2 ⟨B6 m,by simp,?_⟩
       intro x hx y hy
       simp at hy
       subst hy
       unfold upto at hx
       obtain⟨i,hi,rfl⟩:=List.mem_map.1 hx
       have:=List.mem_range.1 hi
       rw[kF]
       omega
      have hall2:nG ⟨iG rows rows.length++[av.mk (E1 other) 0 m (-1) (-1)]⟩ (upto m++[((iG rows rows.length).length:Int)]) (rows.take m++[other]) (upto rows.length):=by
       intro i x hx
       have hi:=(List.getElem?_eq_some_iff.1 hx).1
       rw[hsl]at hi
       have hbl:(upto rows.length).getD i 0=(i:Int):=by simp[List.getD,zj hi]
       rw[hbl]
       by_cases him:i<m
       ·rw[List.getElem?_append_left (by rw[iV];exact him),zj him]at hx
        cases hx
        have hg:(rows.take m++[other]).getD i []=rows.getD i []:=by
         simp only[List.getD]
         rw[List.getElem?_append_left (by simp;omega),List.getElem?_take_of_lt him]
        rw[hg]
        exact ux hsd2 (by rw[List.getElem?_append_left (by rw[kF];omega),JA (by omega)])
       ·have:i=m:=by omega
        subst this
        rw[List.getElem?_append_right (by rw[iV];omega),iV,Nat.sub_self]at hx
        simp only[List.getElem?_cons_zero,Option.some.injEq]at hx
        subst hx
        have hg:(rows.take i++[other]).getD i []=other:=by
         simp only[List.getD]
         rw[List.getElem?_append_right (by simp;omega)]
         have:i-(rows.take i).length=0:=by simp;omega
         rw[this];rfl
        rw[hg]
        exact ux hsd2 (k:=i) (by rw[List.getElem?_append_right (Nat.le_refl _),Nat.sub_self];rfl)
      have hO2:=vI hok2 (by rw[hsl,hmorel]) hnd (by rw[hmorel];exact hall2)
      rw[hmorel]at hO2
      unfold wP
      rw[hO2]
      simp only[if_true,if_pos hn,beq_self_eq_true]
      have hrt2:=RA hok2
      have hrange2:=Ac hrt2.2.2.2.2
      have hlen2:(dr (tp (rows.take m++[other]) (leaves.length:Int) k.toNat)).1.length=k.toNat:=by rw[(rn _).1,kg]
      rw[List.length_map,hlen2,if_pos (by simp;omega),T.Jy (by omega)]
      simp only[Option.bind_some]
      rw[decide_eq_false]
      ·rfl
      ·intro he
       rw[← hA]at he
       have hd:=Qc hn hrange hrange2 he
       have ht:tp rows (leaves.length:Int) k.toNat=tp (rows.take m++[other]) (leaves.length:Int) k.toNat:=by rw[← S1 (tp rows (leaves.length:Int) k.toNat),hd,S1]
       have hsplit:rows=rows.take m++[rows[m]'(by omega)]:=by
        have:=List.take_succ_eq_append_getElem (l:=rows) (i:=m) (by omega)
        rw[← hm,List.take_length]at this
        exact this
       have hlr:=hok.2.2.2.2.2 _ (List.getElem_mem (show m<rows.length by omega))
       refine hs (Of (a:=rows.take m) (n:=(leaves.length:Int)) (k:=k.toNat) hlr.2 hro (by have:=hlr.1;omega) (by omega) ?_).symm
       rw[← hsplit]
       exact ht
    ·rw[if_pos (by simpa using hlo)];rfl
   ·rw[if_pos (by simp[hro])];rfl
  ·simp only[if_true,if_neg hn]
   rfl
 ·have:kq ⟨iG rows rows.length⟩ (upto rows.length) rows (upto rows.length) leaves.length k=([],1):=by
   unfold kq
   rw[if_neg hok]
  unfold wP
  rw[this]
  rfl
end Go.Proofs.YtpkahnkoecbndaaGreatDoor.P
