/- Part of a proof, made small by a program (wip/mini.py). -/
import Derived.Test.YtchndpjlijbplaaKf
namespace Go.Proofs.Ytchndpjlijbplaa.P
open Go.RowKit
set_option linter.unusedSimpArgs false
set_option linter.unusedVariables false
theorem sw {n : bW} {l : List al} {K M : Nat} (hK : K <= 1000000) (hn : Sl n K) (hl : W4 l K) (hlen : l.length <= 17592186044416) (hM : n.aF <= (M : Int) ∨ 2000 < n.aF) (hS : 2 * (2 ^ M * (4 ^ M * (K + 1))) + 100 <= eD) :
    (¬ NQ n l ∧ dV n l = some ([], 1)) ∨
    ∃ N tk d r, n = mT N tk ∧ iT N tk ∧ l = eZ N d ∧ N <= M ∧ (∀ t ∈ tk, LF t.2.2 <= K) ∧ (∀ p, p < N -> LF (d p) <= K) ∧ iy n = some ((List.range N).map r) ∧ mU N tk r ∧
      ((j3 N r ≠ [] ∧ dV n l = some ([], 24)) ∨
       (j3 N r = [] ∧ ∃ x, T2 N tk d x ∧ dV n l = some (eZ N x, 0) ∧ ∀ p, p < N -> LF (x p) <= 2 ^ (N - 1 - p) * (4 ^ N * (K + 1)))) := by
  have hKb : K <= pA := aco hK (by unfold pA; omega)
  obtain ⟨b, hb1, hb2⟩ := GI hK hn
  have ham := NV n.aF hlen fun f hf => ⟨aco (hl f hf).1 hKb, aco (hl f hf).2 hKb⟩
  have hbad : ¬ NQ n l -> dV n l = some ([], 1) := by
    intro hv
    unfold dV
    rw [hb1, adS, ham, adS]
    cases b with
    | false => simp
    | true =>
      obtain ⟨N, tk, rfl, hR⟩ := hb2.1 rfl
      have : (decide ((l.length : Int) = (mT N tk).aF) && l.all okF) = false := by
        by_cases h1 : (l.length : Int) = (mT N tk).aF
        · cases h2 : l.all okF with
          | false => rw [Bool.and_false]
          | true =>
            have h3 : l.length = N := by simp only [mT] at h1; omega
            obtain ⟨d, hd⟩ := Vv h3 h2
            exact absurd ⟨N, tk, d, rfl, hR, hd⟩ hv
        · rw [decide_eq_false h1, aek]
      rw [this]; simp
  by_cases hv : NQ n l
  rotate_left
  · exact .inl ⟨hv, hbad hv⟩
  obtain ⟨N, tk, d, rfl, hR, rfl⟩ := hv
  obtain rfl : b = true := hb2.2 ⟨N, tk, rfl, hR⟩
  have hN := hR.ports
  have hNM : N <= M := by simp only [mT] at hM; omega
  have hs := Zz hn
  have hd := Cm hl
  obtain ⟨r, hr1, hr2⟩ := VX hR hK hs
  have htr := PJ hN hr1
  refine .inr ⟨N, tk, d, r, rfl, hR, rfl, hNM, hs, hd, hr1, hr2, ?_⟩
  have hpre : ∀ (q : List Int), gS (mT N tk) = some q -> dV (mT N tk) (eZ N d) = if decide ((q.length : Int) > 0) = true then some ([], 24) else
      (cw (mT N tk) (eZ N d)).bind fun r6 =>
      (ba (jk r6) (0, (FA r6))).bind fun l32bx =>
      (D0 64 (mT N tk).aF (mT N tk).aF (al.mk (an.mk 0 ([])) (an.mk 0 ([])))).bind fun x58 =>
      (ba (jl l32bx) (IntKind.i64.wrap (((l32bx).length : Int) - 1), x58)).bind fun l9ex =>
      some (l9ex, 0) := by
    intro q hq
    unfold dV
    rw [hb1, adS, ham, adS, hq]
    rw [decide_eq_true (show ((eZ N d).length : Int) = (mT N tk).aF by rw [fm]; rfl), SU]
    simp only [adJ, acX, if_false, Bool.and_self, Option.bind_some]
  rw [hpre _ htr]
  by_cases ht : j3 N r = []
  rotate_left
  · refine .inl ⟨ht, ?_⟩
    have : 0 < (j3 N r).length := aeb.2 ht
    rw [if_pos (by rw [mM]; simp; omega)]
  refine .inr ⟨ht, ?_⟩
  have h0 := Nr hr2 ht
  rw [if_neg (by rw [mM, ht]; simp)]
  have hE := Kf hR hr2 h0 (elim0 hR hd hs)
  have hpow : 2 ^ N * (4 ^ N * (K + 1)) <= 2 ^ M * (4 ^ M * (K + 1)) := aeQ (ae0 (by decide) hNM) (ac9 _ (ae0 (by decide) hNM))
  obtain ⟨x, _, hx, _⟩ := AW (ff (QX d tk) N) 1 N (hE N (acm _)).up (fun _ => 0)
  have hsem := ((hE N (acm _)).sem 1 x hx).1
  have hsz := Wb (hE N (acm _)) hx
  refine ⟨x, fun p hp => by have := hsem p hp; grind, ?_, fun p hp => (hsz p hp).2⟩
  rw [HK hR, adS]
  have e1 : FA ((List.range N).map fun p => mkEq (QX d tk p)) = IU (QX d tk) N 0 := by
    unfold FA IU
    rw [List.map_map]
    exact adN fun p _ => by simp [ff]
  have hKs : ∀ p, p < N -> 10 * IF K p + 50 <= eD := fun p hp => by
    have h1 := Pt K p
    have h2 : 4 ^ p * (K + 1) * 4 <= 4 ^ N * (K + 1) := by
      rw [Nat.mul_right_comm, <- Nat.pow_succ]
      exact ac9 _ (ae0 (by decide) (by omega))
    have h3 : 2 * (4 ^ N * (K + 1)) <= 2 ^ N * (4 ^ N * (K + 1)) := ac9 _ (by
      have : 2 ^ 1 <= 2 ^ N := ae0 (by decide) (by omega)
      omega)
    omega
  rw [e1, SE hN hE (fun p hp => Gn hR hr2 h0 (hE p (by omega)) hp) hKs (by simp), adS]
  have e2 : (mT N tk).aF = (N : Int) := rfl
  have e3 : (IU (QX d tk) N N).length = N := yD _
  have e4 : List.replicate N zF = yy x N 0 := by
    refine hX (by simp) fun j hj => ?_
    rw [aeW, if_pos hj, if_neg (by omega)]
  rw [e2, L7 _ (by omega) hN, adS, e3, wrap64 (by omega) (by omega), e4, NZ hN (hE N (acm _)) hx (by omega), adS]
set_option maxRecDepth 100000
theorem XY:nF=some true:=by kernel_rfl
theorem Yl {l:List al} (k:Int) (hl:l.length<=17592186044416):∃b,pj l k=some b∧(b=true->l.length<=14∧∀f∈l,(f.aH.aa.length:Int)<=k∧(f.aK.aa.length:Int)<=k):=by
 unfold pj
 have htl:(l.take 15).length=min 15 l.length:=acG
 rw[GP (l.take 15) (fun i x=>if decide ((x.aH.aa.length:Int)<=k∧(x.aK.aa.length:Int)<=k)=true then none else some false) (by omega) (fun i x hx =>?_) (by
  simp only[ru]
  by_cases h:15<l.length
  ·rw[if_pos (by rw[htl];simp;omega),adS,if_neg (by rw[htl];simp;omega)]
  ·rw[if_neg (by rw[htl];simp;omega),adS];rfl)]
 ·rw[adS]
  cases hfs:iY (fun (i:Nat) (x:al)=>if decide ((x.aH.aa.length:Int)<=k∧(x.aK.aa.length:Int)<=k)=true then none else some false) 0 (l.take 15) with
  | none =>
   refine⟨_,rfl,fun h =>?_⟩
   have h14:l.length<=14:=by have:=of_decide_eq_true h;omega
   refine⟨h14,fun f hf =>?_⟩
   obtain⟨j,hj⟩:=acJ hf
   have:=iZ.1 hfs j f (by rw[adH (by omega)];exact hj)
   split at this
   ·rename_i h;exact of_decide_eq_true h
   ·cases this
  | some r =>
   obtain⟨j,x,_,h2,_⟩:=kH hfs
   split at h2
   ·cases h2
   ·cases h2;exact⟨false,rfl,fun h=>by cases h⟩
 ·have hi:=cP hx
  rw[htl]at hi
  rw[acD,if_pos (by omega)]at hx
  simp only[ru]
  rw[if_pos (by simp;omega),adS,if_pos (by simp;omega),bV hx,adS,Zl,adS]
  by_cases hc:(x.aH.aa.length:Int)<=k∧(x.aK.aa.length:Int)<=k
  ·rw[decide_eq_true hc,cy (by omega)];rfl
  ·rw[decide_eq_false hc];rfl
theorem Zm {n:bW} (hl:n.ax.length<=17592186044416):∃b,kv n=some b∧(b=true->n.ax.length<=40∧Sl n 6∧(n.aF<=12∨2000<n.aF)):=by
 unfold kv
 have htl:(n.ax.take 40).length=min 40 n.ax.length:=acG
 rw[GP (n.ax.take 40) (fun i x=>if decide ((x.bg.aH.aa.length:Int)<=6∧(x.bg.aK.aa.length:Int)<=6)=true then none else some false) (by omega) (fun i x hx =>?_) (by
  simp only[my]
  by_cases h:40<n.ax.length
  ·rw[if_pos (by rw[htl];simp;omega),adS,if_neg (by rw[htl];simp;omega)]
  ·rw[if_neg (by rw[htl];simp;omega),adS];rfl)]
 ·rw[adS]
  cases hfs:iY (fun (i:Nat) (x:di)=>if decide ((x.bg.aH.aa.length:Int)<=6∧(x.bg.aK.aa.length:Int)<=6)=true then none else some false) 0 (n.ax.take 40) with
  | none =>
   have hmain:(n.ax.length:Int)<=40->Sl n 6:=fun h t ht=>by
    obtain⟨j,hj⟩:=acJ ht
    have:=iZ.1 hfs j t (by rw[adH (by omega)];exact hj)
    split at this
    ·rename_i h;have:=of_decide_eq_true h;omega
    ·cases this
   simp only
   by_cases h1:n.aF<=12
   ·rw[if_pos (by simpa using h1)]
    exact⟨_,rfl,fun h=>by have h':=of_decide_eq_true h;exact⟨by omega,hmain h',.inl h1⟩⟩
   ·rw[if_neg (by simpa using h1)]
    by_cases h2:n.aF>2000
    ·rw[if_pos (by simpa using h2)]
     exact⟨_,rfl,fun h=>by have h':=of_decide_eq_true h;exact⟨by omega,hmain h',.inr h2⟩⟩
    ·rw[if_neg (by simpa using h2)]
     exact⟨_,rfl,fun h=>by cases h⟩
  | some r =>
   obtain⟨j,x,_,h2,_⟩:=kH hfs
   split at h2
   ·cases h2
   ·cases h2;exact⟨false,rfl,fun h=>by cases h⟩
 ·have hi:=cP hx
  rw[htl]at hi
  rw[acD,if_pos (by omega)]at hx
  simp only[my]
  rw[if_pos (by simp;omega),adS,if_pos (by simp;omega),bV hx,adS,Zl,adS]
  by_cases hc:(x.bg.aH.aa.length:Int)<=6∧(x.bg.aK.aa.length:Int)<=6
  ·rw[decide_eq_true hc,cy (by omega)];rfl
  ·rw[decide_eq_false hc];rfl
structure abq (n:bW) (l:List al):Prop where
 takes:n.ax.length<=40
 net:Sl n 6
 ports:n.aF<=(12:Nat)∨2000<n.aF
 len:l.length<=14
 amounts:W4 l 4
theorem U7 {n:bW} {l:List al} (hn:n.ax.length<=17592186044416) (hl:l.length<=17592186044416):∃b,qZ n l=some b∧(b=true->abq n l):=by
 obtain⟨b1,e1,f1⟩:=Zm hn
 obtain⟨b2,e2,f2⟩:=Yl 4 hl
 unfold qZ
 rw[e1,adS]
 cases b1 with
 | false=>exact⟨false,rfl,fun h=>by cases h⟩
 | true =>
  rw[if_pos rfl,e2]
  refine⟨b2,rfl,fun h =>?_⟩
  obtain⟨h1,h2,h3⟩:=f1 rfl
  obtain⟨h4,h5⟩:=f2 h
  exact⟨h1,h2,h3,h4,fun f hf=>by have:=h5 f hf;omega⟩
theorem W4.mono {l:List al} {K K':Nat} (h:W4 l K) (hk:K<=K'):W4 l K':=fun f hf=>⟨aco (h f hf).1 hk,aco (h f hf).2 hk⟩
theorem Sl.mono {n:bW} {K K':Nat} (h:Sl n K) (hk:K<=K'):Sl n K':=fun f hf=>⟨aco (h f hf).1 hk,aco (h f hf).2 hk⟩
def Xs (K:Nat):Nat:=2 ^ 11*(4 ^ 12*(K+1))
theorem ZY {K N p x:Nat} (hN:N<=12) (hp:p<N) (h:x<=2 ^ (N-1-p)*(4 ^ N*(K+1))):x<=Xs K:=by
 unfold Xs
 exact aco h (aeQ (ae0 (by decide) (by omega)) (ac9 _ (ae0 (by decide) hN)))
theorem GS:2*(2 ^ 12*(4 ^ 12*(9+1)))+100<=eD:=by decide
theorem RM {a b:Rat} (h:LF a<=eD):j0 (dg a) (dg b)=some (decide (a=b)):=by
 have:=Ap h
 rw[aay (by unfold Fit eD at *;omega) (by unfold Fit eD at *;omega)]
 congr 1
 by_cases hab:a=b
 ·rw[hab,decide_eq_true rfl,decide_eq_true rfl]
 ·rw[decide_eq_false (fun h=>hab (Ib h)),decide_eq_false hab]
variable {N:Nat} {tk:List Tk} {r:Nat->Int}
theorem Nq {r r':Nat->Int} (h:(List.range N).map r=(List.range N).map r'):j3 N r=j3 N r':=by
 unfold j3
 refine List.filter_congr fun p hp =>?_
 have hp':=adZ.1 hp
 have h1:=cc r hp'
 rw[h,cc r' hp']at h1
 rw[Option.some.inj h1]
theorem I0 {K M:Nat} {e:Nat->Rat} (hK:K<=1000000) (hR:iT N tk) (hs:∀t∈tk,LF t.2.2<=K) (he:∀p,p<N->LF (e p)<=K) (hr:iy (mT N tk)=some ((List.range N).map r)) (ht:j3 N r=[]) (hM:N<=M) (hS:2*(2 ^ M*(4 ^ M*(K+1)))+100<=eD) :
  ∃z,T2 N tk e z∧dV (mT N tk) (eZ N e)=some (eZ N z,0)∧∀p,p<N->LF (z p)<=2 ^ (N-1-p)*(4 ^ N*(K+1)):=by
 have hN:=hR.ports
 rcases sw (n:=mT N tk) (l:=eZ N e) hK (Y1 hs) (SV he) (by rw[fm];omega) (.inl (by simp only[mT];omega)) hS with⟨hnv,_⟩|⟨N',tk',d,r',he',hR',hl,_,_,_,hr1,hr2,hcase⟩
 ·exact absurd ⟨N,tk,e,rfl,hR,rfl⟩ hnv
 ·obtain⟨rfl,rfl⟩:=Ie he'
  rw[hr]at hr1
  have ht':j3 N r'=[]:=by rw[<- Nq (Option.some.inj hr1)];exact ht
  have hd:=(SW hl).2
  rcases hcase with⟨h,_⟩|⟨_,z,hz,hO,hsz⟩
  ·exact absurd ht' h
  ·exact⟨z,fun p hp=>by rw[hd p hp];exact hz p hp,hO,hsz⟩
theorem Pg {α:Type} (f:Nat->α) (n:Nat):(List.range n).map f++[f n]=(List.range (n+1)).map f:=by rw[List.range_succ,adL];rfl
theorem Ej {n:Nat} (f:Nat->Rat) (hn:n<=2000) {v:Rat} (hv:v=f n):km 64 (eZ n f) [dg v]=some (eZ (n+1) f):=by
 unfold km
 have:(2001:Nat)<=maxLen:=by decide
 rw[if_pos ⟨by rw[fm];simp;omega,by rw[fm];simp;omega⟩,hv]
 exact congrArg some (Pg (fun p=>dg (f p)) n)
def Is (d:Nat->Rat):Nat->Bool
 | 0=>true
 | i+1=>Is d i&&decide (0<=d i)
theorem MH {d:Nat->Rat} : ∀ {n},Is d n=true↔∀i,i<n->0<=d i
 | 0=>by simp[Is]
 | n+1=>by
  rw[Is,acY,MH,decide_eq_true_eq]
  constructor
  ·rintro⟨h1,h2⟩ i hi
   by_cases h:i=n
   ·subst h;exact h2
   ·exact h1 i (by omega)
  ·intro h
   exact⟨fun i hi=>h i (by omega),h n (by omega)⟩
theorem V2 {q:Rat} : q.num.sign>=0↔0<=q:=by
 have:=uN (q:=q)
 constructor
 ·intro h
  have:¬q<0:=fun h'=>by have:=this.2 h';omega
  grind
 ·intro h
  have:¬q.num.sign<0:=fun h'=>by have:=this.1 h';grind
  omega
theorem ID {x N p:Nat} (hN:N<=12) (hp:p<N) (h:x<=2 ^ (N-1-p)*(4 ^ N*(9+1))):x<=343597383680:=ZY (K:=9) hN hp h
theorem AQ (a0:bW) (a1 a2:List al) (a3:al) (h0:a0.ax.length<=17592186044416) (h1:a1.length<=17592186044416) (h2:a2.length<=17592186044416):eT a0 a1 a2 a3=some true:=by
 obtain⟨b,e1,e2⟩:=U7 h0 h1
 obtain⟨b2,f1,f2⟩:=Yl 4 h2
 unfold eT
 rw[XY,adS,e1,adS]
 cases b with
 | false=>rfl
 | true =>
 have hF:=e2 rfl
 simp only[adJ,acX,if_false]
 rw[f1,adS]
 cases b2 with
 | false=>rfl
 | true =>
 obtain⟨hl2,hs2'⟩:=f2 rfl
 have hs2:W4 a2 4:=fun f hf=>by have:=hs2' f hf;omega
 simp only[adJ,acX,if_false]
 rw[Zl,adS]
 by_cases h3:(a3.aH.aa.length:Int)<=4∧(a3.aK.aa.length:Int)<=4
 rotate_left
 ·rw[decide_eq_false h3];rfl
 rw[decide_eq_true h3]
 simp only[adJ,acX,if_false]
 rw[wF ⟨by unfold pA;omega,by unfold pA;omega⟩,adS,adS]
 cases hok:okF a3 with
 | false=>rfl
 | true =>
 obtain⟨q,rfl⟩:=xk.1 hok
 have hq:LF q<=4:=wC (by omega) (by omega)
 simp only[adJ,acX,if_false]
 rcases sw (K:=9) (M:=12) (by decide) (Sl.mono hF.net (by decide)) (W4.mono hF.amounts (by decide)) h1 hF.ports GS with⟨_,hO⟩|⟨N,tk,d,r,rfl,hR,rfl,hN,hs,hd9,hr1,hr2,⟨_,hO⟩|⟨ht,x,hx,hO,hxs⟩⟩
 ·rw[hO,adS]
  rcases sw (K:=9) (M:=12) (by decide) (Sl.mono hF.net (by decide)) (W4.mono hs2 (by decide)) h2 hF.ports GS with⟨_,hO2⟩|⟨_,_,_,_,_,_,_,_,_,_,_,_,⟨_,hO2⟩|⟨_,_,_,hO2,_⟩⟩<;>(rw[hO2];rfl)
 ·rw[hO,adS]
  rcases sw (K:=9) (M:=12) (by decide) (Sl.mono hF.net (by decide)) (W4.mono hs2 (by decide)) h2 hF.ports GS with⟨_,hO2⟩|⟨_,_,_,_,_,_,_,_,_,_,_,_,⟨_,hO2⟩|⟨_,_,_,hO2,_⟩⟩<;>(rw[hO2];rfl)
 rw[hO,adS]
 have hd:=Cm hF.amounts
 rcases sw (K:=9) (M:=12) (by decide) (Sl.mono hF.net (by decide)) (W4.mono hs2 (by decide)) h2 hF.ports GS with⟨_,hO2⟩|⟨N',tk',d2,r',he',_,rfl,_,_,_,_,_,⟨_,hO2⟩|⟨_,y,hy,hO2,hys⟩⟩
 ·rw[hO2];rfl
 ·rw[hO2];rfl
 obtain⟨rfl,rfl⟩:=Ie he'
 rw[hO2,adS]
 simp only[fm]
 rw[if_neg (by simp),adS,if_neg (by simp),if_neg (by simp),if_neg (by simp),adS,if_neg (by simp)]
 have hd2:=Cm hs2
 have hLm:eD=4398046511104:=rfl
 have hN2:=hR.ports
 have h0r:=Nr hr2 ht
 have key:=fun hst=>dm (body:=gZ (eZ N d) (eZ N d2) (dg q)) (fun i (s:Bool×Int×List al×List al)=>s=(Is d2 i,(i:Int),eZ i (fun p=>d p+d2 p),eZ i (fun p=>d p*q))) N
  (fun s=>s=(Is d2 N,eZ N (fun p=>d p+d2 p),eZ N (fun p=>d p*q))) (s:=(true,(0:Int),[],[])) rfl (lv (by omega)) hst
 obtain⟨s,s1,rfl⟩:=key (by
  rintro i _ hi rfl
  simp only[gZ]
  by_cases hc:i<N
  ·left
   refine⟨hc,_,?_,rfl⟩
   have k1:=hd i hc
   have k2:=hd2 i hc
   rw[if_pos (by rw[fm];simp;omega),bV (iw d hc),adS,bV (iw d2 hc),adS,PY (by omega),adS,TV (by omega),adS,Ej (fun p=>d p+d2 p) (by omega) rfl,adS,Ej (fun p=>d p*q) (by omega) rfl,adS,cy (by omega)]
   rw[Is]
   cases hp:Is d2 i with
   | false=>rfl
   | true =>
    rw[if_pos rfl,AP (by omega),adS,adK]
    by_cases h:0<=d2 i
    ·rw[decide_eq_true h,decide_eq_true (V2.2 h)]
    ·rw[decide_eq_false h,decide_eq_false (fun h'=>h (V2.1 h'))]
  ·right
   have:i=N:=by omega
   subst this
   exact⟨_,by rw[if_neg (by rw[fm];simp)],rfl⟩)
 rw[s1,adS]
 simp only
 obtain⟨z,hz,hO3,hzs⟩:=I0 (K:=9) (M:=12) (e:=fun p=>d p+d2 p) (by decide) hR hs (fun p hp=>by
  have:=hd p hp
  have:=hd2 p hp
  have:=AG (d p) (d2 p)
  omega) hr1 ht hN GS
 obtain⟨w,hw,hO4,hws⟩:=I0 (K:=9) (M:=12) (e:=fun p=>d p*q) (by decide) hR hs (fun p hp=>by
  have:=hd p hp
  have:=yc (d p) q
  omega) hr1 ht hN GS
 rw[hO3,adS,hO4,adS]
 simp only[fm]
 rw[if_neg (by simp),if_neg (by simp),if_neg (by simp),adS,if_neg (by simp)]
 have hzx:∀p,p<N->z p=x p+y p:=Df hR hr2 h0r hz fun p hp=>by
  have:=hx p hp
  have:=hy p hp
  rw[Xw]
  grind
 have hwx:∀p,p<N->w p=x p*q:=Df hR hr2 h0r hw fun p hp=>by
  have h1:=hx p hp
  have h2:=Au tk q x p
  have h3:oC tk (fun j=>x j*q) p=oC tk (fun j=>q*x j) p:=FM fun t _ _=>Rat.mul_comm ..
  rw[h3,h2]
  grind
 rw[GP (eZ N x) (fun _ _=>(none:Option Bool)) (by rw[fm];omega) (fun i f hf =>?_) (by simp only[g9];rw[if_neg (by simp)])]
 ·have hno:∀(l:List al) i,iY (fun _ _=>(none:Option Bool)) i l=none:=by
   intro l
   induction l with
   | nil=>intro i;rfl
   | cons a l ih=>intro i;simp only[iY];exact ih _
  rw[hno];rfl
 ·have hi:i<N:=by have:=cP hf;rwa [fm]at this
  have q1:=ID hN hi (hxs i hi)
  have q2:=ID hN hi (hys i hi)
  have q3:=ID hN hi (hzs i hi)
  have q4:=ID hN hi (hws i hi)
  simp only[g9]
  rw[if_pos (by rw[fm];simp;omega),bV (iw x hi),adS,bV (iw y hi),adS,PY (by omega),adS,TV (by omega),adS,bV (iw z hi),adS]
  simp only
  rw[RM (by omega),adS,decide_eq_true (hzx i hi)]
  simp only[adJ,acX,if_false]
  rw[bV (iw w hi),adS,RM (by omega),adS,decide_eq_true (hwx i hi)]
  simp only[adJ,acX,if_false]
  cases hp:Is d2 N with
  | false=>rw[if_neg (by simp),cy (by omega)]
  | true =>
   have hy0:=Pr hR hr2 h0r hy (MH.1 hp) i hi
   rw[if_pos rfl,AP (by omega),adS,if_neg (by simp only[decide_eq_true_eq];intro h;have:=uN.1 h;grind),Sj (by omega),adS,if_neg ?_,cy (by omega)]
   simp only[decide_eq_true_eq]
   have hge:¬z i<x i:=by rw[hzx i hi];grind
   unfold Xi
   rw[if_neg hge]
   split<;>omega
end Go.Proofs.Ytchndpjlijbplaa.P
