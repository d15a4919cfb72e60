/- Part of a proof, made small by a program (wip/mini.py). -/
import Derived.Test.YtchndpjlijbplaaJf
namespace Go.Proofs.Ytchndpjlijbplaa.P
open Go.RowKit
set_option linter.unusedSimpArgs false
set_option linter.unusedVariables false
theorem aa9 {N K:Nat} {e:QE} (he:Rf N K e.T) (hN:N<=2000) {k:Nat} {v:Rat} (h:K+LF v+10<=dx):dN (mkEq e) (k:Int) (bR v)=some (mkEq (aa8 e k v),()):=by
 have hl:=he.len
 unfold dN
 rw[find_eq he.sorted (by omega),ae4]
 simp only
 have hLF1:=OR
 rcases vR (k:=k) he.sorted with⟨g1,g2⟩|⟨c,g1,g2⟩
 ·rw[g1]
  simp only[Option.isSome_none,aea,if_false]
  have hll:(kl e.T k).length<=e.T.length:=agd ..
  have hins:Wr 72 (mkEq e).bk ((kl e.T k).length:Int) [dL.mk (k:Int) (bR v)]=some ((BG e.T k v).map iR):=by
   unfold Wr mkEq
   simp only[ad4,List.length_cons,List.length_nil,Int.toNat_natCast]
   rw[if_pos ⟨by omega,by omega,by omega,by omega⟩]
   congr 1
   have e1:e.T.map iR=(kl e.T k).map iR++(yK e.T k).map iR:=by rw[<- aeX,<- g2]
   unfold BG Ja
   rw[g1,e1,List.take_left' (by simp),List.drop_left' (by simp),aeX,adG]
   simp only[Option.getD_none,List.cons_append,List.nil_append]
   congr 2
   unfold iR
   simp only
   congr 1
   rw[aga]
  rw[hins];rfl
 ·rw[g1]
  simp only[Option.isSome_some,if_true]
  have hgT:e.T[(kl e.T k).length]? = some (k,c):=by
   have:(kl e.T k++(k,c)::yK e.T k)[(kl e.T k).length]? = some (k,c):=by simp
   rwa [<- g2]at this
  have hg:(e.T.map iR)[(kl e.T k).length]? = some (iR (k,c)):=by rw[adx,hgT];rfl
  have hck:LF c<=K:=he.sz (k,c) (m8 g1)
  have e0:(mkEq e).bk=e.T.map iR:=rfl
  rw[e0,bO hg,ae4,aat,ae4]
  simp only[iR]
  rw[zl (by omega),ae4,aez]
  unfold aa8 BG Ja mkEq
  rw[g1]
  simp only[Option.getD_some]
  have e1:e.T.map iR=(kl e.T k).map iR++iR (k,c)::(yK e.T k).map iR:=by rw[<- adG,<- aeX,<- g2]
  have e2:((e.T.map fun t=>dL.mk (t.1:Int) (bR t.2)).set (kl e.T k).length (dL.mk (k:Int) (bR (c+v*1))))=(kl e.T k++(k,c+v)::yK e.T k).map iR:=by
   show (e.T.map iR).set (kl e.T k).length _=_
   rw[e1,List.set_append_right _ _ (by simp),ad4,aeE,List.set_cons_zero,aeX,adG]
   unfold iR
   simp only
   congr 4
   grind
  rw[<- e2];rfl
def hZ (e:QE) (p:Nat):QE:=match eg e.T p with|none=>e|some c=>⟨e.D / (1-c),(je e.T p).map fun t=>(t.1,t.2 / (1-c))⟩
theorem VN {T:List Tm} {k:Nat} {c:Rat} (hl:T.length<=2000) (g:T=kl T k++(k,c)::yK T k):VM (T.map iR) ((kl T k).length:Int) (IntKind.i64.wrap (((kl T k).length:Int)+1))=some ((je T k).map iR):=by
 have hlen:T.length=(kl T k).length+1+(yK T k).length:=by
  have:=congrArg List.length g
  simp only[aeC,List.length_cons]at this
  omega
 rw[cp (by omega)]
 unfold VM
 have:(2000:Nat)<=maxLen:=by decide
 rw[if_pos ⟨by omega,by omega,by simp;omega,by simp;omega⟩,aez,aez]
 have e1:T.map iR=(kl T k).map iR++iR (k,c)::(yK T k).map iR:=by rw[<- adG,<- aeX,<- g]
 rw[e1,List.take_left' (by simp)]
 have e2:((kl T k).map iR++iR (k,c)::(yK T k).map iR).drop ((kl T k).length+1)=(yK T k).map iR:=by
  rw[afh,afi (by simp)]
  simp
 rw[e2]
 unfold je
 rw[aeX]
theorem Zp {a b:Rat} (h:LF a+LF b<=dx) (h0:b≠0):lL (bR a) (bR b)=some (bR (a / b),0):=aa2 h h0
theorem YE {N K:Nat} {e:QE} (he:Rf N K e.T) (hD:LF e.D<=K) (hN:N<=2000) (hK:2*K+10<=dx) {p:Nat} (hc:∀c,eg e.T p=some c->1-c≠0):de (mkEq e) (p:Int)=some (mkEq (hZ e p),()):=by
 have hl:=he.len
 unfold de
 rw[find_eq he.sorted (by omega),ae4]
 simp only
 have hLF1:=OR
 unfold hZ
 rcases vR (k:=p) he.sorted with⟨g1,g2⟩|⟨c,g1,g2⟩
 ·rw[g1];rfl
 ·rw[g1]
  simp only[Option.isSome_some,aeV,aea,if_false]
  have hgT:e.T[(kl e.T p).length]? = some (p,c):=by
   have:(kl e.T p++(p,c)::yK e.T p)[(kl e.T p).length]? = some (p,c):=by simp
   rwa [<- g2]at this
  have hg:(e.T.map iR)[(kl e.T p).length]? = some (iR (p,c)):=by rw[adx,hgT];rfl
  have hck:LF c<=K:=he.sz (p,c) (m8 g1)
  have h0:=hc c g1
  have e0:(mkEq e).bk=e.T.map iR:=rfl
  have e3:(mkEq e).aO=bR e.D:=rfl
  rw[aat,ae4,e0,bO hg,ae4]
  simp only[iR]
  have hs1:=OS 1 c
  rw[Zk (by omega),ae4]
  have hd:fH (e.T.map iR) ((kl e.T p).length:Int) (IntKind.i64.wrap (((kl e.T p).length:Int)+1))=some ((je e.T p).map iR):=by unfold fH;exact VN (by omega) g2
  rw[hd,ae4,e3]
  simp only
  rw[Zp (by omega) h0,ae4]
  have hrl:=(he.rem p).len
  have key:=fun hs hend=>xV (body:=dU (bR (1-c),0) ((je e.T p).map iR)) (je e.T p) (by omega) (fun i (l:List dL)=>l.length=(je e.T p).length∧∀(j:Nat) t,(je e.T p)[j]? = some t->l[j]? = some (if j<i then iR (t.1,t.2 / (1-c)) else iR t)) (fun l=>l=((je e.T p).map fun t=>(t.1,t.2 / (1-c))).map iR) (s0:=(je e.T p).map iR)
   ⟨by simp,fun j t ht=>by rw[adx,ht,if_neg (by omega)];rfl⟩ hs hend
  obtain⟨r,h1,rfl⟩:=key (by
   rintro i t l ht ⟨hl1,hI⟩
   have hi:=b7 ht
   have hgl:=hI i t ht
   rw[if_neg (by omega)]at hgl
   have hst:=he.sz t (iG.1 (ad2 ht)).1
   refine⟨l.set i (iR (t.1,t.2 / (1-c))),?_,by simpa using hl1,fun j u hu =>?_⟩
   ·simp only[dU]
    rw[if_pos (by simp;omega),bO hgl,ae4]
    simp only[iR]
    rw[Zp (by omega) h0,ae4,cp (by omega),aez]
   ·rw[List.getElem?_set]
    by_cases hij:i=j
    ·subst hij
     rw[hu]at ht
     cases ht
     rw[if_pos rfl,if_pos (by omega),if_pos (by omega)]
    ·rw[if_neg hij,hI j u hu]
     by_cases hj:j<i
     ·rw[if_pos hj,if_pos (by omega)]
     ·rw[if_neg hj,if_neg (by omega)]) (by
   rintro l ⟨hl1,hI⟩
   refine⟨l,?_,?_⟩
   ·simp only[dU];rw[if_neg (by simp)]
   ·apply afB
    intro j
    rw[adx,adx]
    cases hj:(je e.T p)[j]? with
    | none =>
     have:(je e.T p).length<=j:=by simpa using hj
     rw[ae6 (by omega)];rfl
    | some t=>rw[hI j t hj,if_pos (b7 hj)];rfl)
  rw[h1,ae4]
  rfl
def ji (c:Rat):List Tm->List Tm->List Tm
 | [],T=>T
 | b::B,T=>ji c B (BG T b.1 (c*b.2))
def zm (e:QE) (p:Nat) (b:QE):QE:=match eg e.T p with|none=>e|some c=>⟨e.D+c*b.D,ji c b.T (je e.T p)⟩
theorem rP (c:Rat):∀(A B T:List Tm),ji c (A++B) T=ji c B (ji c A T)
 | [],_,_=>rfl
 | a::A,B,T=>by rw[afp,ji,ji,rP c A B]
theorem Fq {T:List Tm} (h:il T) (k:Nat) (v:Rat):il (BG T k v):=Xg h k _
theorem CL (c:Rat):∀(B:List Tm) {T:List Tm},il T->il (ji c B T)
 | [],_,h=>h
 | b::B,_,h=>CL c B (Fq h _ _)
theorem MF (c:Rat) (x:Nat->Rat):∀(B:List Tm) {T:List Tm},il T->cd (ji c B T) x=cd T x+c*cd B x
 | [],T,_=>by simp only[ji,cd];grind
 | b::B,T,h=>by
  rw[ji,MF c x B (Fq h _ _),YB h,cd]
  grind
theorem w7 (c:Rat) {R:Nat->Prop} : ∀(B:List Tm) {T:List Tm},(∀t∈T,R t.1)->(∀b∈B,R b.1)->∀t∈ji c B T,R t.1
 | [],_,h,_=>h
 | b::B,T,h,hB=>w7 c B (T:=BG T b.1 (c*b.2)) (fun t ht=>by
   rcases Jl.1 ht with rfl|ht
   ·exact hB b (ae0 ..)
   ·exact h t (iG.1 ht).1) fun u hu=>hB u (ae1 _ hu)
theorem LM {c:Rat} (hc:0<=c):∀(B:List Tm) {T:List Tm},(∀t∈T,0<=t.2)->(∀b∈B,0<=b.2)->∀t∈ji c B T,0<=t.2
 | [],_,h,_=>h
 | b::B,T,h,hB=>LM hc B (T:=BG T b.1 (c*b.2)) (fun t ht=>by
   rcases Jl.1 ht with rfl|ht
   ·have h1:=agk hc (hB b (ae0 ..))
    simp only
    cases hcf:eg T b.1 with
    | none=>simp only[Option.getD_none];grind
    | some a=>have:=h _ (m8 hcf);simp only[Option.getD_some]at *;grind
   ·exact h t (iG.1 ht).1) fun u hu=>hB u (ae1 _ hu)
theorem Sc {K1 K2:Nat} {c:Rat} (hc:LF c<=K1):∀(A B:List Tm) {T:List Tm},il (A++B)->(∀b∈A++B,LF b.2<=K2)->(∀t∈T,LF t.2<=K1)->∀t∈ji c A T,LF t.2<=2*K1+K2+1∧((∀a∈A,a.1≠t.1)->LF t.2<=K1)
 | [],_,_,_,_,h,t,ht=>⟨by have:=h t ht;omega,fun _=>h t ht⟩
 | a::A,B,T,hs,hz,h,t,ht=>by
  obtain⟨A',z,hA⟩:∃A' z,a::A=A'++[z]:=⟨(a::A).dropLast,(a::A).getLast (by simp),(List.dropLast_concat_getLast (by simp)).symm⟩
  have hlen:A'.length<(a::A).length:=by rw[hA];simp
  rw[hA,rP]at ht
  simp only[ji]at ht
  rw[hA,aeO]at hs hz
  have ih:=Sc hc A' ([z]++B) (T:=T) hs hz h
  have hzK:=hz z (adP _ (adO _ (ae0 ..)))
  rw[hA]
  rcases Jl.1 ht with rfl|ht
  ·refine⟨?_,fun hn=>absurd rfl (hn z (adP _ (ae0 ..)))⟩
   simp only
   have hm:=wT c z.2
   cases hcf:eg (ji c A' T) z.1 with
   | none=>rw[agm,aga];omega
   | some y =>
    have h1:=(ih _ (m8 hcf)).2 fun u hu=>by
     have:=(ae9.1 hs).2.2 u hu z (adO _ (ae0 ..))
     simp only;omega
    have:=yT y (c*z.2)
    rw[aep]
    simp only at h1
    omega
  ·obtain⟨h1,h2⟩:=ih t (iG.1 ht).1
   exact⟨h1,fun hn=>h2 fun u hu=>hn u (adO _ hu)⟩
 termination_by A=>A.length
structure Re (N K:Nat) (e:QE):Prop where
 t:Rf N K e.T
 d:LF e.D<=K
theorem Re.mono {N K K':Nat} {e:QE} (h:Re N K e) (hk:K<=K'):Re N K' e:=⟨h.t.mono hk,adC h.d hk⟩
theorem TX (c:Rat) {B:List Tm} {i:Nat} {b:Tm} (h:B[i]? = some b) (T:List Tm):ji c (B.take (i+1)) T=BG (ji c (B.take i) T) b.1 (c*b.2):=by
 obtain⟨hi,he⟩:=ad3.1 h
 rw[agb hi,rP,he];rfl
theorem LJ {N K1 K2:Nat} {c:Rat} (hc:LF c<=K1) {B T:List Tm} (hB:Rf N K2 B) (hT:Rf N K1 T) (i:Nat):Rf N (2*K1+K2+1) (ji c (B.take i) T) where
 sorted:=CL c _ hT.sorted
 lt:=w7 c (R:=fun p=>p<N) _ hT.lt fun b hb=>hB.lt b (aek hb)
 sz t ht:=(Sc (K1:=K1) (K2:=K2) hc (B.take i) (B.drop i) (by rw[afl];exact hB.sorted) (by rw[afl];exact hB.sz) hT.sz t ht).1
theorem YR {N K1 K2:Nat} {e b:QE} (he:Re N K1 e) (hb:Re N K2 b) (p:Nat):Re N (2*K1+K2+1) (zm e p b):=by
 unfold zm
 cases hcf:eg e.T p with
 | none=>exact he.mono (by omega)
 | some c =>
  have hc:LF c<=K1:=he.t.sz _ (m8 hcf)
  have h1:=LJ hc hb.t (he.t.rem p) b.T.length
  rw[afA]at h1
  refine⟨h1,?_⟩
  have h2:=yT e.D (c*b.D)
  have h3:=wT c b.D
  have:=he.d
  have:=hb.d
  simp only
  omega
theorem G4 {N K:Nat} {e:QE} (he:Re N K e) (p:Nat) (h0:∀c,eg e.T p=some c->1-c≠0):Re N (2*K+2) (hZ e p):=by
 unfold hZ
 cases hcf:eg e.T p with
 | none=>exact he.mono (by omega)
 | some c =>
  have hc:LF c<=K:=he.t.sz _ (m8 hcf)
  have h1:=OS 1 c
  have h2:=OR
  have h3:=h0 c hcf
  refine⟨⟨?_,?_,?_⟩,?_⟩
  ·simp only
   rw[il,List.pairwise_map]
   exact (Ed he.t.sorted p)
  ·intro t ht
   simp only[adz]at ht
   obtain⟨u,hu,rfl⟩:=ht
   exact he.t.lt u (iG.1 hu).1
  ·intro t ht
   simp only[adz]at ht
   obtain⟨u,hu,rfl⟩:=ht
   have:=he.t.sz u (iG.1 hu).1
   have:=UY (a:=u.2) h3
   simp only
   omega
  ·have:=he.d
   have:=UY (a:=e.D) h3
   simp only
   omega
theorem abB {N K1 K2:Nat} {e b:QE} (he:Re N K1 e) (hb:Re N K2 b) (hN:N<=2000) (hK:4*K1+3*K2+20<=dx) (p:Nat):dO (mkEq e) (p:Int) (mkEq b)=some (mkEq (zm e p b),()):=by
 have hl:=he.t.len
 unfold dO
 rw[find_eq he.t.sorted (by omega),ae4]
 simp only
 unfold zm
 rcases vR (k:=p) he.t.sorted with⟨g1,g2⟩|⟨c,g1,g2⟩
 ·rw[g1];rfl
 ·rw[g1]
  simp only[Option.isSome_some,aeV,aea,if_false]
  have hgT:e.T[(kl e.T p).length]? = some (p,c):=by
   have:(kl e.T p++(p,c)::yK e.T p)[(kl e.T p).length]? = some (p,c):=by simp
   rwa [<- g2]at this
  have hg:(e.T.map iR)[(kl e.T p).length]? = some (iR (p,c)):=by rw[adx,hgT];rfl
  have hck:LF c<=K1:=he.t.sz (p,c) (m8 g1)
  have hDe:=he.d
  have hDb:=hb.d
  have hbl:=hb.t.len
  have e0:(mkEq e).bk=e.T.map iR:=rfl
  have e1:(mkEq b).bk=b.T.map iR:=rfl
  have e2:(mkEq b).aO=bR b.D:=rfl
  have e3:(mkEq e).aO=bR e.D:=rfl
  have hd:fH (e.T.map iR) ((kl e.T p).length:Int) (IntKind.i64.wrap (((kl e.T p).length:Int)+1))=some ((je e.T p).map iR):=by unfold fH;exact VN (by omega) g2
  rw[e0,bO hg,ae4,hd,ae4,e3,e2]
  have e4:(iR (p,c)).dD=bR c:=rfl
  rw[e4,zl (by omega),ae4]
  have key:=fun hs hend=>xV (body:=eF (mkEq b) (iR (p,c))) b.T (by omega) (fun i (s:Int×List Int×Int×List Int×List dL)=>s=((bR (e.D+c*b.D)).aH.ag,(bR (e.D+c*b.D)).aH.aa,(bR (e.D+c*b.D)).aK.ag,(bR (e.D+c*b.D)).aK.aa,(ji c (b.T.take i) (je e.T p)).map iR))
   (fun s=>s=((bR (e.D+c*b.D)).aH.ag,(bR (e.D+c*b.D)).aH.aa,(bR (e.D+c*b.D)).aK.ag,(bR (e.D+c*b.D)).aK.aa,(ji c b.T (je e.T p)).map iR)) (s0:=((bR (e.D+c*b.D)).aH.ag,(bR (e.D+c*b.D)).aH.aa,(bR (e.D+c*b.D)).aK.ag,(bR (e.D+c*b.D)).aK.aa,(je e.T p).map iR)) rfl hs hend
  obtain⟨r,h1,rfl⟩:=key (by
   rintro i t _ ht rfl
   have hi:=b7 ht
   have htm:=ad2 ht
   have htz:=hb.t.sz t htm
   have hsz:=LJ hck hb.t (he.t.rem p) i
   have hm:=wT c t.2
   have hg2:(b.T.map iR)[i]? = some (iR t):=by rw[adx,ht];rfl
   have hn:=IA
   refine⟨_,?_,rfl⟩
   simp only[eF]
   rw[if_pos (by rw[e1];simp;omega),e1,bO hg2,ae4,abi,ae4]
   have e5:(iR t).dD=bR t.2:=rfl
   have e6:(iR t).ka=(t.1:Int):=rfl
   rw[e4,e5,zl (by omega),ae4,aga,e6]
   have e7:aw.mk (ak.mk (al.mk (bR (e.D+c*b.D)).aH.ag (bR (e.D+c*b.D)).aH.aa) (al.mk (bR (e.D+c*b.D)).aK.ag (bR (e.D+c*b.D)).aK.aa)) ((ji c (b.T.take i) (je e.T p)).map iR)=mkEq ⟨e.D+c*b.D,ji c (b.T.take i) (je e.T p)⟩:=rfl
   rw[e7,aa9 (e:=⟨e.D+c*b.D,ji c (b.T.take i) (je e.T p)⟩) hsz hN (by omega),ae4,cp (by omega),TX c ht]
   rfl) (by
   rintro _ rfl
   refine⟨_,?_,rfl⟩
   simp only[eF]
   rw[if_neg (by rw[e1];simp),afA])
  rw[h1,ae4]
  rfl
theorem RO {T:List Tm} {k:Nat} (h:eg T k=none):∀t∈T,t.1≠k:=by
 induction T with
 | nil=>intro t ht;cases ht
 | cons u T ih =>
  rw[eg]at h
  split at h
  ·cases h
  ·rename_i hne
   intro t ht
   rcases adH.1 ht with rfl|ht
   ·exact hne
   ·exact ih h t ht
theorem T8 {e:QE} (hs:il e.T) {p:Nat} (h0:∀c,eg e.T p=some c->1-c≠0) (s:Rat) (x:Nat->Rat):(1-(eg e.T p).getD 0)*(s*(hZ e p).D+cd (hZ e p).T x)=s*e.D+cd e.T x-(eg e.T p).getD 0*x p:=by
 unfold hZ
 have h1:=vx hs p x
 cases hcf:eg e.T p with
 | none=>simp only[Option.getD_none];grind
 | some c =>
  have hc:=h0 c hcf
  rw[hcf]at h1
  simp only[Option.getD_some]at h1 ⊢
  rw[YC]
  have h2:(1-c)*(e.D / (1-c))=e.D:=by rw[Rat.mul_comm];exact Rat.div_mul_cancel hc
  have h3:(1-c)*(cd (je e.T p) x / (1-c))=cd (je e.T p) x:=by rw[Rat.mul_comm];exact Rat.div_mul_cancel hc
  have h4:(1-c)*(s*(e.D / (1-c))+cd (je e.T p) x / (1-c))=s*((1-c)*(e.D / (1-c)))+(1-c)*(cd (je e.T p) x / (1-c)):=by grind
  rw[h4,h2,h3]
  grind
theorem YS {e b:QE} (hs:il e.T) (p:Nat) (s:Rat) (x:Nat->Rat):s*(zm e p b).D+cd (zm e p b).T x=s*e.D+cd e.T x+(eg e.T p).getD 0*(s*b.D+cd b.T x-x p):=by
 unfold zm
 have h1:=vx hs p x
 cases hcf:eg e.T p with
 | none=>simp only[Option.getD_none];grind
 | some c =>
  rw[hcf]at h1
  simp only[Option.getD_some]at h1 ⊢
  rw[MF c x _ (Ed hs p)]
  grind
def fA (E0:Nat->QE):Nat->Nat->QE
 | 0,k=>E0 k
 | p+1,k=>if k<p then fA E0 p k else if k=p then hZ (fA E0 p p) p else zm (fA E0 p k) p (hZ (fA E0 p p) p)
def JN (K0:Nat):Nat->Nat
 | 0=>K0
 | p+1=>4*JN K0 p+3
theorem QA (K0:Nat):∀p,JN K0 p+1=4 ^ p*(K0+1)
 | 0=>by simp[JN]
 | p+1=>by
  have ih:=QA K0 p
  simp only[JN,Nat.pow_succ]
  rw[aex (4 ^ p) 4,Nat.mul_assoc,<- ih]
  omega
def aaU (x:Nat->Rat) (p:Nat) (v:Rat):Nat->Rat:=fun j=>if j=p then v else x j
theorem BL (E:Nat->QE) (s:Rat):∀(p:Nat),(∀k,k<p->∀t∈(E k).T,k<t.1)->∀z:Nat->Rat,∃x:Nat->Rat,(∀j,p<=j->x j=z j)∧(∀k,k<p->x k=s*(E k).D+cd (E k).T x)∧(s=0->(∀j,0<=z j)->(∀k,k<p->∀t∈(E k).T,0<=t.2)->∀j,0<=x j)
 | 0,_,z=>⟨z,fun _ _=>rfl,fun k hk=>by omega,fun _ h _=>h⟩
 | p+1,hp,z=>by
  obtain⟨x,h1,h2,h3⟩:=BL E s p (fun k hk=>hp k (by omega)) (aaU z p (s*(E p).D+cd (E p).T z))
  refine⟨x,fun j hj =>?_,fun k hk =>?_,fun hs hz hpos =>?_⟩
  ·rw[h1 j (by omega)];exact if_neg (by omega)
  ·by_cases hkp:k=p
   ·subst hkp
    rw[h1 k (adA _),show aaU z k (s*(E k).D+cd (E k).T z) k=s*(E k).D+cd (E k).T z from if_pos rfl]
    congr 1
    refine G0 fun t ht =>?_
    have:=hp k (by omega) t ht
    rw[h1 t.1 (by omega)]
    exact (if_neg (by omega)).symm
   ·exact h2 k (by omega)
  ·refine h3 hs (fun j =>?_) fun k hk=>hpos k (by omega)
   unfold aaU
   split
   ·have:=sk (x:=z) (hpos p (by omega)) fun t _=>hz t.1
    subst hs
    grind
   ·exact hz j
theorem aai {a b:Rat} (ha:0<=a) (hb:0<b):0<=a / b:=by
 have h1:a / b*b=a:=Rat.div_mul_cancel (by grind)
 by_cases h:0<=a / b
 ·exact h
 ·exfalso
  have h2:0 <= -(a / b)*b:=agk (by grind) (by grind)
  have h3:a / b*b=0:=by grind
  rcases Rat.mul_eq_zero.1 h3 with h4|h4<;>grind
variable {N:Nat} {tk:List Tk} {r:Nat->Int}
structure qZ (N:Nat) (tk:List Tk) (d:Nat->Rat) (K0:Nat) (E:Nat->QE) (p:Nat):Prop where
 sz:∀k,k<N->p<=k->Re N (JN K0 p) (E k)
 szd:∀k,k<p->Re N (2*JN K0 k+2) (E k)
 up:∀k,k<p->∀t∈(E k).T,k<t.1
 ge:∀k,k<N->p<=k->∀t∈(E k).T,p<=t.1
 pos:∀k,k<N->∀t∈(E k).T,0<=t.2
 sem:∀(s:Rat) (x:Nat->Rat),(∀q,q<p->x q=s*(E q).D+cd (E q).T x)->(∀k,k<p->x k=s*d k+lP tk x k)∧∀k,k<N->p<=k->s*(E k).D+cd (E k).T x=s*d k+lP tk x k
theorem Hw (hR:jb N tk) (hr:oJ N tk r) (h0:∀p,p<N->0<=r p) {d:Nat->Rat} {K0:Nat} {E:Nat->QE} {p:Nat} (hE:qZ N tk d K0 E p) (hp:p<N):∀c,eg (E p).T p=some c->c<1:=by
 intro c hc
 by_cases hlt:c<1
 ·exact hlt
 exfalso
 obtain⟨x,h1,h2,h3⟩:=BL E 0 p hE.up (fun j=>if j=p then 1 else 0)
 have hx:=h3 rfl (fun j=>by split<;>grind) fun k hk=>hE.pos k (by omega)
 obtain⟨g1,g2⟩:=hE.sem 0 x h2
 have hxp:x p=1:=by rw[h1 p (adA _),if_pos rfl]
 have hxq:∀j,p<j->x j=0:=fun j hj=>by rw[h1 j (by omega),if_neg (by omega)]
 have:=EA hR hr h0 (y:=x) (fun q _=>hx q) (fun q hq=>by
  rcases agl q p with h|h|h
  ·have:=g1 q h;grind
  ·subst h
   have e1:=g2 q hq (adA _)
   have e2:=vx (hE.sz q hq (adA _)).t.sorted q x
   rw[hc,hxp]at e2
   have e3:0<=cd (je (E q).T q) x:=sk (fun t ht=>hE.pos q hq t (iG.1 ht).1) fun t _=>hx t.1
   simp only[Option.getD_some]at e2
   grind
  ·have e1:=g2 q hq (by omega)
   have e3:0<=cd (E q).T x:=sk (hE.pos q hq) fun t _=>hx t.1
   have:=hxq q h
   grind) p hp
 grind
theorem TR (hR:jb N tk) (hr:oJ N tk r) (h0:∀p,p<N->0<=r p) {d:Nat->Rat} {K0:Nat} {E0:Nat->QE} {p:Nat} (hE:qZ N tk d K0 (fA E0 p) p) (hp:p<N):qZ N tk d K0 (fA E0 (p+1)) (p+1):=by
 have hpiv:=Hw hR hr h0 hE hp
 generalize hEp:fA E0 p=E at *
 have hv:∀k,fA E0 (p+1) k=if k<p then E k else if k=p then hZ (E p) p else zm (E k) p (hZ (E p) p):=fun k=>by rw[fA,hEp]
 have hv1:∀k,k<p->fA E0 (p+1) k=E k:=fun k hk=>by rw[hv,if_pos hk]
 have hv2:fA E0 (p+1) p=hZ (E p) p:=by rw[hv,if_neg (by omega),if_pos rfl]
 have hv3:∀k,p<k->fA E0 (p+1) k=zm (E k) p (hZ (E p) p):=fun k hk=>by rw[hv,if_neg (by omega),if_neg (by omega)]
 have hne:∀c,eg (E p).T p=some c->1-c≠0:=fun c hc=>by have:=hpiv c hc;grind
 have hszp:=hE.sz p hp (adA _)
 have hL:=G4 hszp p hne
 have hup:∀t∈(hZ (E p) p).T,p<t.1:=by
  intro t ht
  unfold hZ at ht
  cases hcf:eg (E p).T p with
  | none =>
   rw[hcf]at ht
   have h1:=hE.ge p hp (adA _) t ht
   have h2:=RO hcf t ht
   omega
  | some c =>
   rw[hcf]at ht
   simp only[adz]at ht
   obtain⟨u,hu,rfl⟩:=ht
   have h1:=hE.ge p hp (adA _) u (iG.1 hu).1
   have h2:=(iG.1 hu).2
   simp only
   omega
 have hlpos:∀t∈(hZ (E p) p).T,0<=t.2:=by
  intro t ht
  unfold hZ at ht
  cases hcf:eg (E p).T p with
  | none=>rw[hcf]at ht;exact hE.pos p hp t ht
  | some c =>
   rw[hcf]at ht
   simp only[adz]at ht
   obtain⟨u,hu,rfl⟩:=ht
   have h1:=hE.pos p hp u (iG.1 hu).1
   have h2:=hpiv c hcf
   simp only
   have h3:0<1-c:=by grind
   exact aai h1 h3
 constructor
 ·intro k hk hpk
  rw[hv3 k (by omega)]
  have:=YR (hE.sz k hk (by omega)) hL p
  exact this.mono (by simp only[JN];omega)
 ·intro k hk
  by_cases hkp:k=p
  ·subst hkp;rw[hv2];exact hL
  ·rw[hv1 k (by omega)];exact hE.szd k (by omega)
 ·intro k hk
  by_cases hkp:k=p
  ·subst hkp;rw[hv2];exact hup
  ·rw[hv1 k (by omega)];exact hE.up k (by omega)
 ·intro k hk hpk
  rw[hv3 k (by omega)]
  unfold zm
  cases hcf:eg (E k).T p with
  | none =>
   intro t ht
   have h1:=hE.ge k hk (by omega) t ht
   have h2:=RO hcf t ht
   omega
  | some c =>
   refine w7 c (R:=fun q=>p+1<=q) _ (fun t ht =>?_) hup
   have h1:=hE.ge k hk (by omega) t (iG.1 ht).1
   have h2:=(iG.1 ht).2
   omega
 ·intro k hk
  rcases agl k p with h|h|h
  ·rw[hv1 k h];exact hE.pos k hk
  ·subst h;rw[hv2];exact hlpos
  ·rw[hv3 k h]
   unfold zm
   cases hcf:eg (E k).T p with
   | none=>exact hE.pos k hk
   | some c=>exact LM (hE.pos k hk _ (m8 hcf)) _ (fun t ht=>hE.pos k hk t (iG.1 ht).1) hlpos
 ·intro s x hx
  have hxp:=hx p (by omega)
  rw[hv2]at hxp
  obtain⟨g1,g2⟩:=hE.sem s x fun q hq=>by have:=hx q (by omega);rwa [hv1 q hq]at this
  have hpe:x p=s*(E p).D+cd (E p).T x:=by
   have h1:=T8 hszp.t.sorted hne s x
   rw[<- hxp]at h1
   grind
  refine⟨fun k hk =>?_,fun k hk hpk =>?_⟩
  ·by_cases hkp:k=p
   ·subst hkp;rw[hpe,g2 k hp (adA _)]
   ·exact g1 k (by omega)
  ·rw[hv3 k (by omega),YS (hE.sz k hk (by omega)).t.sorted,<- hxp,g2 k hk (by omega)]
   grind
theorem Lq (hR:jb N tk) (hr:oJ N tk r) (h0:∀p,p<N->0<=r p) {d:Nat->Rat} {K0:Nat} {E0:Nat->QE} (hE:qZ N tk d K0 E0 0):∀p,p<=N->qZ N tk d K0 (fA E0 p) p
 | 0,_=>hE
 | p+1,h=>TR hR hr h0 (Lq hR hr h0 hE p (by omega)) (by omega)
end Go.Proofs.Ytchndpjlijbplaa.P
namespace Go.Proofs.Ytchndpjlijbplaa.P
open Go.RowKit
set_option linter.unusedSimpArgs false
set_option linter.unusedVariables false
def AJ:List Tm->(Nat->Rat)->Nat
 | [],_=>0
 | t::l,x=>LF t.2+LF (x t.1)+1+AJ l x
theorem sM (a b:List Tm) (x:Nat->Rat):AJ (a++b) x=AJ a x+AJ b x:=by
 induction a with
 | nil=>simp[AJ]
 | cons t a ih=>simp only[List.cons_append,AJ,ih];omega
theorem Xo (T:List Tm) (i:Nat) (x:Nat->Rat):AJ (T.take i) x<=AJ T x:=by
 have:=sM (T.take i) (T.drop i) x
 rw[afl]at this
 omega
theorem C9 {T:List Tm} {i:Nat} {t:Tm} (h:T[i]? = some t) (x:Nat->Rat):cd (T.take (i+1)) x=cd (T.take i) x+t.2*x t.1:=by
 obtain⟨hi,he⟩:=ad3.1 h
 rw[agb hi,nh,he]
 simp only[cd];grind
theorem Bt (a:Rat) (x:Nat->Rat) {T:List Tm} : ∀i,i<=T.length->LF (a+cd (T.take i) x)<=LF a+AJ (T.take i) x
 | 0,_=>by
  rw[afv]
  simp only[cd,AJ]
  rw[agn];exact adA _
 | i+1,h=>by
  have ih:=Bt a x (T:=T) i (by omega)
  have hg:T[i]? = some T[i]:=adN (by omega)
  rw[C9 hg,<- Rat.add_assoc,agb (by omega),sM]
  have h1:=yT (a+cd (T.take i) x) (T[i].2*x T[i].1)
  have h2:=wT T[i].2 (x T[i].1)
  simp only[AJ]
  omega
theorem Wz:∀ {T:List Tm} {a N:Nat},il T->(∀t∈T,a<=t.1∧t.1<N)->T.length<=N-a
 | [],_,_,_,_=>by simp
 | t::T,a,N,hs,h=>by
  obtain⟨h1,h2⟩:=ae8.1 hs
  have ht:=h t (ae0 ..)
  have:=Wz (a:=t.1+1) (N:=N) h2 fun u hu=>⟨h1 u hu,(h u (ae1 _ hu)).2⟩
  rw[ad0];omega
theorem Qz {K Q:Nat} {x:Nat->Rat} : ∀ {T:List Tm} {a N:Nat},il T->(∀t∈T,a<=t.1∧t.1<N)->(∀t∈T,LF t.2<=K)->(∀j,a<=j->j<N->LF (x j)<=2 ^ (N-1-j)*Q)->AJ T x+Q<=T.length*(K+1)+2 ^ (N-a)*Q
 | [],a,N,_,_,_,_=>by
  simp only[AJ,List.length_nil,afm,aen]
  exact Nat.le_mul_of_pos_left _ (Nat.pow_pos (by decide))
 | t::T,a,N,hs,h,hk,hx=>by
  obtain⟨h1,h2⟩:=ae8.1 hs
  have ht:=h t (ae0 ..)
  have ih:=Qz (K:=K) (Q:=Q) (x:=x) (T:=T) (a:=t.1+1) (N:=N) h2 (fun u hu=>⟨h1 u hu,(h u (ae1 _ hu)).2⟩) (fun u hu=>hk u (ae1 _ hu)) fun j hj hjN=>hx j (by omega) hjN
  have hkt:=hk t (ae0 ..)
  have hxt:=hx t.1 ht.1 ht.2
  simp only[AJ,List.length_cons]
  rw[aew]
  have e1:N-(t.1+1)=N-1-t.1:=by omega
  rw[e1]at ih
  have e2:2 ^ (N-t.1)=2 ^ (N-1-t.1)*2:=by rw[<- Nat.pow_succ];congr 1;omega
  have e3:2 ^ (N-t.1)*Q<=2 ^ (N-a)*Q:=aem _ (ago (by decide) (by omega))
  have e4:2 ^ (N-t.1)*Q=2 ^ (N-1-t.1)*Q+2 ^ (N-1-t.1)*Q:=by rw[e2,Nat.mul_assoc,aex 2 Q,<- Nat.mul_assoc,Nat.mul_two]
  omega
theorem Ik:∀m:Nat,3*m<=4 ^ m
 | 0=>by decide
 | m+1=>by
  have:=Ik m
  rw[Nat.pow_succ]
  have:0<4 ^ m:=Nat.pow_pos (by decide)
  cases m with
  | zero=>decide
  | succ m=>omega
variable {N:Nat} {tk:List Tk} {r:Nat->Int}
theorem Xe {d:Nat->Rat} {K0:Nat} {E:Nat->QE} (hE:qZ N tk d K0 E N) {x:Nat->Rat} (hx:∀k,k<N->x k=1*(E k).D+cd (E k).T x) :
  ∀k,k<N->LF (E k).D+AJ (E k).T x+1<=2 ^ (N-1-k)*(4 ^ N*(K0+1))∧LF (x k)<=2 ^ (N-1-k)*(4 ^ N*(K0+1)):=by
 have key:∀m k,k+m=N-1->k<N->LF (E k).D+AJ (E k).T x+1<=2 ^ (N-1-k)*(4 ^ N*(K0+1))∧LF (x k)<=2 ^ (N-1-k)*(4 ^ N*(K0+1)):=by
  intro m
  induction m using Nat.strongRecOn with
  | ind m ih =>
   intro k hkm hk
   have hz:=hE.szd k hk
   have hup:=hE.up k hk
   have hrng:∀t∈(E k).T,k+1<=t.1∧t.1<N:=fun t ht=>⟨hup t ht,hz.t.lt t ht⟩
   have h1:=Qz (K:=2*JN K0 k+2) (Q:=4 ^ N*(K0+1)) (x:=x) hz.t.sorted hrng hz.t.sz fun j hj hjN=>(ih (N-1-j) (by omega) j (by omega) hjN).2
   have h2:=Wz hz.t.sorted hrng
   have h3:=hz.d
   have h4:=QA K0 k
   have h5:(N-k)*(2*JN K0 k+3)<=4 ^ N*(K0+1):=by
    have g1:(N-k)*(2*JN K0 k+3)<=(N-k)*(3*(4 ^ k*(K0+1))):=Nat.mul_le_mul_left _ (by
     have:0<4 ^ k*(K0+1):=Nat.mul_pos (Nat.pow_pos (by decide)) (by omega)
     omega)
    have g2:(N-k)*(3*(4 ^ k*(K0+1)))=3*(N-k)*(4 ^ k*(K0+1)):=by rw[aex 3 (N-k),Nat.mul_assoc]
    have g3:3*(N-k)*(4 ^ k*(K0+1))<=4 ^ (N-k)*(4 ^ k*(K0+1)):=aem _ (Ik _)
    have g4:4 ^ (N-k)*(4 ^ k*(K0+1))=4 ^ N*(K0+1):=by rw[<- Nat.mul_assoc,<- Nat.pow_add];congr 2;omega
    omega
   have h6:(E k).T.length*(2*JN K0 k+3)<=(N-1-k)*(2*JN K0 k+3):=aem _ (by omega)
   have h7:(N-k)*(2*JN K0 k+3)=(N-1-k)*(2*JN K0 k+3)+(2*JN K0 k+3):=by
    rw[<- aew];congr 1;omega
   have e1:N-(k+1)=N-1-k:=by omega
   rw[e1]at h1
   have h8:=Bt (E k).D x (T:=(E k).T) (E k).T.length (adA _)
   rw[afA]at h8
   have e2:x k=(E k).D+cd (E k).T x:=by rw[hx k hk];grind
   rw[e2]
   have e3:2*JN K0 k+2+1=2*JN K0 k+3:=rfl
   rw[e3]at h1
   omega
 intro k hk
 exact key (N-1-k) k (by omega) hk
def bs (tk:List Tk) (p:Nat):List Tm:=(tk.filter fun t=>decide (t.2.1=p)).map fun t=>(t.1,t.2.2)
theorem mA {p:Nat} {u:Tm} : u∈bs tk p↔∃t∈tk,t.2.1=p∧u=(t.1,t.2.2):=by
 unfold bs
 simp only[adz,ae7,decide_eq_true_eq]
 constructor
 ·rintro⟨t,⟨h1,h2⟩,rfl⟩;exact⟨t,h1,h2,rfl⟩
 ·rintro⟨t,h1,h2,rfl⟩;exact⟨t,⟨h1,h2⟩,rfl⟩
theorem QP {i:Nat} {t:Tk} (h:tk[i]? = some t) (p:Nat):bs (tk.take (i+1)) p=if t.2.1=p then bs (tk.take i) p++[(t.1,t.2.2)] else bs (tk.take i) p:=by
 obtain⟨hi,he⟩:=ad3.1 h
 unfold bs
 rw[agb hi,age,aeX,he]
 by_cases hc:t.2.1=p
 ·rw[if_pos hc,agf (by simpa using hc)];rfl
 ·rw[if_neg hc,agh (by simpa using hc)];simp
theorem zf (x:Nat->Rat) (p:Nat):∀l:List Tk,cd (bs l p) x=lP l x p
 | []=>rfl
 | t::l=>by
  have ih:=zf x p l
  unfold bs at ih ⊢
  simp only[lP]
  by_cases hc:t.2.1=p
  ·rw[if_pos hc,agf (by simpa using hc),adG,cd,ih]
  ·rw[if_neg hc,agh (by simpa using hc),ih];grind
theorem Ee (hs:tk.Pairwise X8) (p:Nat):il (bs tk p):=by
 unfold bs
 rw[il,List.pairwise_map]
 refine (hs.filter _).imp_of_mem fun {a b} ha hb h =>?_
 have h1:a.2.1=p:=by simpa using (ae7.1 ha).2
 have h2:b.2.1=p:=by simpa using (ae7.1 hb).2
 unfold X8 at h
 simp only
 omega
theorem vS (p:Nat):(bs tk p).length<=tk.length:=by
 unfold bs
 rw[ad4]
 exact agd ..
def J1 (d:Nat->Rat) (tk:List Tk) (p:Nat):QE:=⟨d p,bs tk p⟩
def eL (N:Nat) (x:Nat->Rat):List ak:=(List.range N).map fun p=>bR (x p)
theorem jR (x:Nat->Rat):(eL N x).length=N:=zn _
theorem lf (x:Nat->Rat) {p:Nat} (h:p<N):(eL N x)[p]? = some (bR (x p)):=b8 _ h
abbrev zF:ak:=ak.mk (al.mk 0 []) (al.mk 0 [])
theorem xU (hR:jb N tk) (d:Nat->Rat):cK (kP N tk) (eL N d)=some ((List.range N).map fun p=>mkEq (J1 d tk p)):=by
 have hN:=hR.ports
 have hlen:=hR.takes
 unfold cK kP
 simp only
 rw[G7 _ (by omega) hN,ae4]
 have k1:=fun hs he=>xV (body:=fQ (eL N d) (List.replicate N (aw.mk zF []))) (List.range N) (by simp;omega) (fun i (l:List aw)=>l=(List.range N).map fun p=>aw.mk (if p<i then bR (d p) else zF) []) (fun l=>l=(List.range N).map fun p=>mkEq (J1 d (tk.take 0) p)) (s0:=List.replicate N (aw.mk zF []))
  (gL (by simp) fun j hj=>by rw[agj,if_pos hj,if_neg (by omega)]) hs he
 obtain⟨r1,h1,rfl⟩:=k1 (by
  rintro i x _ hx rfl
  have hi:i<N:=by have:=b7 hx;simpa using this
  refine⟨_,?_,rfl⟩
  simp only[fQ]
  rw[if_pos (by simp;omega),bO (lf d hi),ae4,bO (b8 _ hi),ae4,cp (by omega),aez,ie]
  congr 3
  refine congrArg (fun f=>(List.range N).map f) (funext fun p =>?_)
  by_cases h:p=i
  ·subst h;rw[if_pos rfl,if_pos (show p<p+1 by omega)]
  ·rw[if_neg h]
   by_cases h3:p<i
   ·rw[if_pos h3,if_pos (show p<i+1 by omega)]
   ·rw[if_neg h3,if_neg (show ¬p<i+1 by omega)]) (by
  rintro _ rfl
  refine⟨(List.range N).map fun p=>aw.mk (if p<(List.range N).length then bR (d p) else zF) [],?_,?_⟩
  ·simp only[fQ];rw[if_neg (by simp)]
  ·refine gL (by simp) fun j hj =>?_
   rw[b8 _ hj,ad5,if_pos hj,afv];rfl)
 rw[h1,ae4]
 have k2:=fun hs he=>xV (body:=fR (bY.mk (N:Int) (tk.map tn))) tk (by omega) (fun i (l:List aw)=>l=(List.range N).map fun p=>mkEq (J1 d (tk.take i) p)) (fun l=>l=(List.range N).map fun p=>mkEq (J1 d tk p)) (s0:=(List.range N).map fun p=>mkEq (J1 d (tk.take 0) p)) rfl hs he
 obtain⟨r2,h2,rfl⟩:=k2 (by
  rintro i t _ ht rfl
  have hi:=b7 ht
  have hto:=(hR.UA t (ad2 ht)).2
  have hg:(tk.map tn)[i]? = some (tn t):=by rw[adx,ht];rfl
  have hbl:=vS (tk:=tk.take i) t.2.1
  rw[adT]at hbl
  refine⟨_,?_,rfl⟩
  simp only[fR]
  have happ:mo 72 (mkEq (J1 d (tk.take i) t.2.1)).bk [dL.mk (tn t).cR (tn t).ba]=some ((bs (tk.take i) t.2.1++[(t.1,t.2.2)]).map iR):=by
   unfold mo mkEq J1
   have:(17592186044416:Nat)<=maxLen:=by decide
   rw[if_pos ⟨by simp;omega,by simp;omega⟩,aeX];rfl
  have e1:(tn t).kM=(t.2.1:Int):=rfl
  rw[if_pos (by simp;omega),bO hg,ae4,e1,bO (b8 _ hto),ae4,happ,ae4,cp (by omega),aez,ie]
  congr 3
  refine congrArg (fun f=>(List.range N).map f) (funext fun p =>?_)
  unfold J1
  rw[QP ht]
  by_cases h:p=t.2.1
  ·subst h;rw[if_pos rfl,if_pos rfl];rfl
  ·rw[if_neg h,if_neg (fun e=>h e.symm)]) (by
  rintro _ rfl
  refine⟨_,?_,rfl⟩
  simp only[fR]
  rw[if_neg (by simp),afA])
 rw[h2,ae4]
theorem elim0 (hR:jb N tk) {K0:Nat} {d:Nat->Rat} (hd:∀p,p<N->LF (d p)<=K0) (hs:∀t∈tk,LF t.2.2<=K0):qZ N tk d K0 (J1 d tk) 0 where
 sz k hk _:=⟨⟨Ee hR.sorted k,fun t ht=>by obtain⟨u,h1,h2,rfl⟩:=mA.1 ht;exact (hR.UA u h1).1,fun t ht=>by obtain⟨u,h1,h2,rfl⟩:=mA.1 ht;exact hs u h1⟩,hd k hk⟩
 szd k hk:=by omega
 up k hk:=by omega
 ge k hk _ t _:=adB _
 pos k hk t ht:=by obtain⟨u,h1,h2,rfl⟩:=mA.1 ht;exact hR.pos u h1
 sem s x _:=⟨fun k hk=>by omega,fun k _ _=>by unfold J1;rw[zf]⟩
def J2 (E0:Nat->QE) (N p:Nat):List (Bool×aw):=(List.range N).map fun k=>(decide (k<p),mkEq (fA E0 p k))
def v5 (E:Nat->QE) (N p:Nat) (L:QE) (k:Nat):List (Bool×aw):=(List.range N).map fun j=>if j<p then (true,mkEq (E j)) else if j=p then (true,mkEq L) else if j<k then (false,mkEq (zm (E j) p L)) else (false,mkEq (E j))
theorem Pp {E:Nat->QE} {L:QE} {p K:Nat} (hN:N<=2000) (hp:p<N) (hE:∀k,k<N->p<=k->Re N K (E k)) (hL:Re N (2*K+2) L) (hK:10*K+50<=dx) :
  aY (lv (p:Int)) (((p+1:Nat):Int),v5 E N p L (p+1))=some (v5 E N p L N):=by
 have key:=fun hs=>cD (body:=lv (p:Int)) (fun i (s:Int×List (Bool×aw))=>s=(((p+1+i:Nat):Int),v5 E N p L (p+1+i))) (N-(p+1)) (fun l=>l=v5 E N p L N) (s:=(((p+1:Nat):Int),v5 E N p L (p+1))) rfl (jl (by omega)) hs
 refine (key ?_).elim fun x ⟨h1,hx⟩=>hx ▸ h1
 rintro i _ hi rfl
 have hlen:(v5 E N p L (p+1+i)).length=N:=zn _
 by_cases hc:p+1+i<N
 ·refine .inl ⟨by omega,_,?_,rfl⟩
  simp only[lv]
  have g1:(v5 E N p L (p+1+i))[p+1+i]? = some (false,mkEq (E (p+1+i))):=by
   unfold v5
   rw[b8 _ hc,if_neg (by omega),if_neg (by omega),if_neg (by omega)]
  have g2:(v5 E N p L (p+1+i))[p]? = some (true,mkEq L):=by
   unfold v5
   rw[b8 _ hp,if_neg (by omega),if_pos rfl]
  have e1:Oi (true,mkEq L)=some (mkEq L):=rfl
  have e2:NQ (false,mkEq (E (p+1+i)))=some (mkEq (E (p+1+i))):=rfl
  rw[if_pos (by rw[hlen];simp;omega),bO g1,ae4,bO g2,ae4,e1,ae4,e2,ae4,abB (hE _ hc (by omega)) hL hN (by omega),ae4,cp (by omega),aez]
  refine congrArg some (congrArg Sum.inl (Prod.ext (by simp only;omega) ?_))
  simp only
  unfold v5
  rw[ie]
  refine congrArg (fun f=>(List.range N).map f) (funext fun j =>?_)
  by_cases h:j=p+1+i
  ·subst h
   rw[if_pos rfl,if_neg (by omega),if_neg (by omega),if_pos (by omega)]
  ·rw[if_neg h]
   by_cases h1:j<p
   ·rw[if_pos h1,if_pos h1]
   ·rw[if_neg h1,if_neg h1]
    by_cases h2:j=p
    ·rw[if_pos h2,if_pos h2]
    ·rw[if_neg h2,if_neg h2]
     by_cases h3:j<p+1+i
     ·rw[if_pos h3,if_pos (by omega)]
     ·rw[if_neg h3,if_neg (by omega)]
 ·refine .inr ⟨v5 E N p L (p+1+i),?_,?_⟩
  ·simp only[lv]
   rw[if_neg (by rw[hlen];simp;omega)]
  ·congr 1;omega
theorem TQ {E0:Nat->QE} {K0:Nat} {d:Nat->Rat} (hN:N<=2000) (hE:∀p,p<=N->qZ N tk d K0 (fA E0 p) p) (hpiv:∀p,p<N->∀c,eg (fA E0 p p).T p=some c->c<1) (hK:∀p,p<N->10*JN K0 p+50<=dx) {r6:List aw} (h6:r6.length=N) :
  aY (jH r6) ((0:Int),J2 E0 N 0)=some (J2 E0 N N):=by
 have key:=fun hs=>cD (body:=jH r6) (fun i (s:Int×List (Bool×aw))=>s=((i:Int),J2 E0 N i)) N (fun l=>l=J2 E0 N N) (s:=((0:Int),J2 E0 N 0)) rfl (jl (by omega)) hs
 refine (key ?_).elim fun x ⟨h1,hx⟩=>hx ▸ h1
 rintro p _ hp rfl
 by_cases hc:p<N
 ·refine .inl ⟨hc,_,?_,rfl⟩
  have hEp:=hE p (by omega)
  have hne:∀c,eg (fA E0 p p).T p=some c->1-c≠0:=fun c h=>by have:=hpiv p hc c h;grind
  have hz:=hEp.sz p hc (adA _)
  have hKp:=hK p hc
  have hL:=G4 hz p hne
  simp only[jH]
  have g1:(J2 E0 N p)[p]? = some (false,mkEq (fA E0 p p)):=by
   unfold J2
   rw[b8 _ hc,decide_eq_false (by omega)]
  have e2:NQ (false,mkEq (fA E0 p p))=some (mkEq (fA E0 p p)):=rfl
  have e3:(J2 E0 N p).set p (true,mkEq (hZ (fA E0 p p) p))=v5 (fA E0 p) N p (hZ (fA E0 p p) p) (p+1):=by
   unfold J2 v5
   rw[ie]
   refine congrArg (fun f=>(List.range N).map f) (funext fun j =>?_)
   rcases agl j p with h|h|h
   ·rw[if_neg (by omega),if_pos h,decide_eq_true h]
   ·rw[if_pos h,if_neg (by omega),if_pos h]
   ·rw[if_neg (by omega),if_neg (by omega),if_neg (by omega),if_neg (by omega),decide_eq_false (by omega)]
  have e4:v5 (fA E0 p) N p (hZ (fA E0 p p) p) N=J2 E0 N (p+1):=by
   unfold J2 v5
   refine aeZ fun j hj =>?_
   have hjN:=afb.1 hj
   rw[fA]
   rcases agl j p with h|h|h
   ·rw[if_pos h,if_pos h,decide_eq_true (by omega)]
   ·rw[if_neg (by omega),if_pos h,if_neg (by omega),if_pos h,decide_eq_true (by omega)]
   ·rw[if_neg (by omega),if_neg (by omega),if_pos hjN,if_neg (by omega),if_neg (by omega),decide_eq_false (by omega)]
  rw[if_pos (by simp;omega),bO g1,ae4,e2,ae4,YE hz.t hz.d hN (by omega) hne,ae4,cp (by omega),aez,e3,Pp hN hc (fun k hk hpk=>hEp.sz k hk hpk) hL hKp,ae4,e4]
 ·have:p=N:=by omega
  subst this
  refine .inr ⟨_,?_,rfl⟩
  simp only[jH]
  rw[if_neg (by simp;omega)]
def zk (x:Nat->Rat) (N i:Nat):List ak:=(List.range N).map fun j=>if N<=j+i then bR (x j) else zF
theorem O5 {E0:Nat->QE} {K0:Nat} {d x:Nat->Rat} (hN:N<=2000) (hE:qZ N tk d K0 (fA E0 N) N) (hx:∀k,k<N->x k=1*(fA E0 N k).D+cd (fA E0 N k).T x) (hsz:2*(2 ^ N*(4 ^ N*(K0+1)))+100<=dx) :
  aY (jI (J2 E0 N N)) ((N:Int)-1,zk x N 0)=some (eL N x):=by
 have hs:=Xe hE hx
 have key:=fun hs=>cD (body:=jI (J2 E0 N N)) (fun i (s:Int×List ak)=>s=((N:Int)-1-i,zk x N i)) N (fun l=>l=eL N x) (s:=((N:Int)-1,zk x N 0)) (by simp) (jl (by omega)) hs
 refine (key ?_).elim fun x ⟨h1,hx⟩=>hx ▸ h1
 rintro i _ hi rfl
 by_cases hc:i<N
 ·refine .inl ⟨hc,_,?_,rfl⟩
  obtain⟨p,hp⟩:∃p,p+i+1=N:=⟨N-1-i,by omega⟩
  have hpN:p<N:=by omega
  have e0:(N:Int)-1-(i:Int)=(p:Int):=by omega
  obtain⟨hs1,hs2⟩:=hs p hpN
  have hz:=hE.szd p hpN
  have hup:=hE.up p hpN
  have hle:2 ^ (N-1-p)*(4 ^ N*(K0+1))<=2 ^ N*(4 ^ N*(K0+1)):=aem _ (ago (by decide) (by omega))
  have hxp:=hx p hpN
  generalize hEp:fA E0 N p=e at *
  simp only[jI]
  have g1:(J2 E0 N N)[p]? = some (true,mkEq e):=by
   unfold J2
   rw[b8 _ hpN,decide_eq_true hpN,hEp]
  have e1:Oi (true,mkEq e)=some (mkEq e):=rfl
  have e2:(mkEq e).aO=bR e.D:=rfl
  have e3:(mkEq e).bk=e.T.map iR:=rfl
  have hn:=IA
  rw[e0,if_pos (by simp),bO g1,ae4,e1,ae4,abi,ae4,e2,zl (by omega),ae4]
  have e4:e.D+0*0=e.D:=by grind
  rw[e4]
  have htl:=hz.t.len
  have k7:=fun hst hend=>xV (body:=nE (zk x N i) (mkEq e)) e.T (by omega) (fun j (s:Int×List Int×Int×List Int)=>s=((bR (e.D+cd (e.T.take j) x)).aH.ag,(bR (e.D+cd (e.T.take j) x)).aH.aa,(bR (e.D+cd (e.T.take j) x)).aK.ag,(bR (e.D+cd (e.T.take j) x)).aK.aa))
   (fun s=>s=((bR (x p)).aH.ag,(bR (x p)).aH.aa,(bR (x p)).aK.ag,(bR (x p)).aK.aa)) (s0:=((bR e.D).aH.ag,(bR e.D).aH.aa,(bR e.D).aK.ag,(bR e.D).aK.aa)) (by rw[afv,cd,agn]) hst hend
  obtain⟨r7,h7,rfl⟩:=k7 (by
   rintro j t _ ht rfl
   have hj:=b7 ht
   have htm:=ad2 ht
   have hlt:=hz.t.lt t htm
   have hpt:=hup t htm
   have hg:(e.T.map iR)[j]? = some (iR t):=by rw[adx,ht];rfl
   have hgo:(zk x N i)[t.1]? = some (bR (x t.1)):=by
    unfold zk
    rw[b8 _ hlt,if_pos (by omega)]
   have hLl:=Bt e.D x (T:=e.T) j (by omega)
   have hszt:=Xo e.T j x
   have hst2:LF t.2+LF (x t.1)+1<=AJ e.T x:=by
    have:=sM (e.T.take j) (e.T.drop j) x
    rw[afl,afu hj]at this
    simp only[AJ]at this
    have he:e.T[j]=t:=(ad3.1 ht).2
    rw[he]at this
    omega
   refine⟨_,?_,rfl⟩
   simp only[nE]
   have e5:(iR t).dD=bR t.2:=rfl
   have e6:(iR t).ka=(t.1:Int):=rfl
   have e7:ak.mk (al.mk (bR (e.D+cd (e.T.take j) x)).aH.ag (bR (e.D+cd (e.T.take j) x)).aH.aa) (al.mk (bR (e.D+cd (e.T.take j) x)).aK.ag (bR (e.D+cd (e.T.take j) x)).aK.aa)=bR (e.D+cd (e.T.take j) x):=rfl
   rw[if_pos (by rw[e3];simp;omega),e3,bO hg,ae4,e6,bO hgo,ae4,e5,e7,zl (by omega),ae4,cp (by omega),C9 ht,<- Rat.add_assoc]) (by
   rintro _ rfl
   refine⟨((bR (e.D+cd (e.T.take e.T.length) x)).aH.ag,(bR (e.D+cd (e.T.take e.T.length) x)).aH.aa,(bR (e.D+cd (e.T.take e.T.length) x)).aK.ag,(bR (e.D+cd (e.T.take e.T.length) x)).aK.aa),?_,?_⟩
   ·simp only[nE];rw[if_neg (by rw[e3];simp)]
   ·have:e.D+cd (e.T.take e.T.length) x=x p:=by rw[afA,hxp];grind
    rw[this])
  rw[h7,ae4]
  have hgp:(zk x N i)[p]? = some zF:=by
   unfold zk
   rw[b8 _ hpN,if_neg (by omega)]
  simp only
  rw[bO hgp,ae4,aez]
  have hw:IntKind.i64.wrap ((p:Int)-1)=(N:Int)-1-((i+1:Nat):Int):=by rw[wrap64 (by omega) (by omega)];omega
  rw[hw]
  refine congrArg some (congrArg Sum.inl (congrArg (Prod.mk _) ?_))
  show (zk x N i).set p (bR (x p))=zk x N (i+1)
  unfold zk
  rw[ie]
  refine congrArg (fun f=>(List.range N).map f) (funext fun j =>?_)
  by_cases h:j=p
  ·subst h;rw[if_pos rfl,if_pos (by omega)]
  ·rw[if_neg h]
   by_cases h1:N<=j+i
   ·rw[if_pos h1,if_pos (by omega)]
   ·rw[if_neg h1,if_neg (by omega)]
 ·have:i=N:=by omega
  subst this
  refine .inr ⟨_,?_,rfl⟩
  simp only[jI]
  rw[if_neg (by simp;omega)]
  congr 2
  unfold zk eL
  exact aeZ fun j _=>if_pos (by omega)
end Go.Proofs.Ytchndpjlijbplaa.P
namespace Go.Proofs.Ytchndpjlijbplaa.P
open Go.RowKit
set_option linter.unusedSimpArgs false
set_option linter.unusedVariables false
theorem oL {l:List ak} (n:Int) (hl:l.length<=17592186044416) (hf:∀f∈l,Iw f):eQ l n=some (decide ((l.length:Int)=n)&&l.all okF):=by
 unfold eQ
 by_cases hn:(l.length:Int)=n
 rotate_left
 ·rw[if_neg (by simpa using hn),decide_eq_false hn];rfl
 rw[if_pos (by simpa using hn),decide_eq_true hn,aeW]
 unfold bC bS
 rw[AH l (fun i x=>if okF x=true then none else some (i:Int)) (by omega) (fun i x hx =>?_) (by simp only[cA];rw[if_neg (by simp)])]
 ·rw[ae4]
  cases hfs:jd (fun i x=>if okF x=true then none else some (i:Int)) 0 l with
  | none =>
   simp only
   rw[ae4,decide_eq_false (by decide),ae4]
   have:l.all okF=true:=adL.2 fun x hx=>by
    obtain⟨j,hj⟩:=adW hx
    have:=fC.1 hfs j x hj
    by_cases h:okF x=true
    ·exact h
    ·rw[if_neg h]at this;cases this
   rw[this];rfl
  | some r =>
   obtain⟨j,x,h1,h2,_⟩:=gx hfs
   by_cases h:okF x=true
   ·rw[if_pos h]at h2;cases h2
   ·rw[if_neg h]at h2
    cases h2
    simp only
    rw[ae4,decide_eq_true (by omega),ae4]
    have:l.all okF=false:=by
     cases hall:l.all okF with
     | false=>rfl
     | true=>exact absurd (adL.1 hall x (ad2 h1)) h
    rw[this];rfl
 ·have hi:=b7 hx
  simp only[cA,gp]
  rw[if_pos (by simp;omega),bO hx,ae4,BE (hf x (ad2 hx)),ae4,ae4]
  cases okF x with
  | true=>rw[cp (by omega)];rfl
  | false=>rfl
theorem yf {l:List ak} {N:Nat} (hl:l.length=N) (h:l.all okF=true):∃d:Nat->Rat,l=eL N d:=by
 obtain⟨qs,hq,_⟩:=xb (mk:=bR) (R:=fun _=>True) (l:=l) fun x hx=>by
  obtain⟨q,hq⟩:=Bh.1 (adL.1 h x hx)
  exact⟨q,hq,trivial⟩
 refine⟨fun p=>qs.getD p 0,?_⟩
 subst hq
 rw[ad4]at hl
 refine gL (by simpa using hl) fun j hj =>?_
 have e:(fun p=>qs.getD p 0) j=qs[j]'(by omega):=by
  show qs.getD j 0=_
  rw[aed,adN (by omega)];rfl
 rw[adx,adN (by omega),e]
 rfl
theorem vA (N:Nat) (d:Nat->Rat):(eL N d).all okF=true:=adL.2 fun x hx=>by
 unfold eL at hx
 obtain⟨p,_,rfl⟩:=adz.1 hx
 exact Qe _
theorem T6 {N M:Nat} {d e:Nat->Rat} (h:eL N d=eL M e):N=M∧∀p,p<N->d p=e p:=by
 have hl:=congrArg List.length h
 rw[jR,jR]at hl
 subst hl
 refine⟨rfl,fun p hp =>?_⟩
 have h1:=lf (N:=N) d hp
 rw[h,lf e hp]at h1
 exact (Sz (Option.some.inj h1)).symm
theorem MG {N:Nat} {d e:Nat->Rat} (h:∀p,p<N->d p=e p):eL N d=eL N e:=aeZ fun p hp=>by rw[h p (afb.1 hp)]
theorem Da {N K:Nat} {d:Nat->Rat} (h:∀f∈eL N d,f.aH.aa.length<=K∧f.aK.aa.length<=K):∀p,p<N->LF (d p)<=K:=fun p hp=>by
 have:=h _ (ad2 (lf d hp))
 exact Ba this.1 this.2
theorem G1 {N K:Nat} {d:Nat->Rat} (h:∀p,p<N->LF (d p)<=K):∀f∈eL N d,f.aH.aa.length<=K∧f.aK.aa.length<=K:=fun f hf=>by
 unfold eL at hf
 obtain⟨p,hp,rfl⟩:=adz.1 hf
 exact IH (h p (afb.1 hp))
def yV (n:bY) (l:List ak):Prop:=∃N tk d,n=kP N tk∧jb N tk∧l=eL N d
abbrev X7 (n:bY) (K:Nat):Prop:=∀t∈n.av,t.ba.aH.aa.length<=K∧t.ba.aK.aa.length<=K
abbrev U8 (l:List ak) (K:Nat):Prop:=∀f∈l,f.aH.aa.length<=K∧f.aK.aa.length<=K
theorem aaa {N K:Nat} {tk:List Tk} (h:∀t∈tk,LF t.2.2<=K):X7 (kP N tk) K:=fun t ht=>by
 simp only[kP,adz]at ht
 obtain⟨u,hu,rfl⟩:=ht
 exact IH (h u hu)
theorem aaB {N K:Nat} {tk:List Tk} (h:X7 (kP N tk) K):∀t∈tk,LF t.2.2<=K:=fun t ht=>by
 have:=h (tn t) (by simp only[kP];exact List.mem_map_of_mem ht)
 exact Ba this.1 this.2
theorem OD {N:Nat} {tk:List Tk} {r:Nat->Int} (hr:oJ N tk r) (h:bM N r=[]):∀p,p<N->0<=r p:=by
 intro p hp
 have h1:=hr.ge p hp
 have h2:r p ≠ -1:=fun e=>by
  have:p∈bM N r:=ae7.2 ⟨afb.2 hp,by simpa using e⟩
  rw[h]at this;cases this
 omega
theorem U2 {n : bY} {l : List ak} {K M : Nat} (hK : K <= 1000000) (hn : X7 n K) (hl : U8 l K) (hlen : l.length <= 17592186044416) (hM : n.aD <= (M : Int) ∨ 2000 < n.aD) (hS : 2 * (2 ^ M * (4 ^ M * (K + 1))) + 100 <= dx) :
    (¬ yV n l ∧ fP n l = some ([], 1)) ∨
    ∃ N tk d r, n = kP N tk ∧ jb N tk ∧ l = eL N d ∧ N <= M ∧ (∀ t ∈ tk, LF t.2.2 <= K) ∧ (∀ p, p < N -> LF (d p) <= K) ∧ jT n = some ((List.range N).map r) ∧ oJ N tk r ∧
      ((bM N r ≠ [] ∧ fP n l = some ([], 24)) ∨
       (bM N r = [] ∧ ∃ x, Tw N tk d x ∧ fP n l = some (eL N x, 0) ∧ ∀ p, p < N -> LF (x p) <= 2 ^ (N - 1 - p) * (4 ^ N * (K + 1)))) := by
  have hKb : K <= iD := adC hK (by unfold iD; omega)
  obtain ⟨b, hb1, hb2⟩ := qT hK hn
  have ham := oL n.aD hlen fun f hf => ⟨adC (hl f hf).1 hKb, adC (hl f hf).2 hKb⟩
  have hbad : ¬ yV n l -> fP n l = some ([], 1) := by
    intro hv
    unfold fP
    rw [hb1, ae4, ham, ae4]
    cases b with
    | false => simp
    | true =>
      obtain ⟨N, tk, rfl, hR⟩ := hb2.1 rfl
      have : (decide ((l.length : Int) = (kP N tk).aD) && l.all okF) = false := by
        by_cases h1 : (l.length : Int) = (kP N tk).aD
        · cases h2 : l.all okF with
          | false => rw [Bool.and_false]
          | true =>
            have h3 : l.length = N := by simp only [kP] at h1; omega
            obtain ⟨d, hd⟩ := yf h3 h2
            exact absurd ⟨N, tk, d, rfl, hR, hd⟩ hv
        · rw [decide_eq_false h1, afx]
      rw [this]; simp
  by_cases hv : yV n l
  rotate_left
  · exact .inl ⟨hv, hbad hv⟩
  obtain ⟨N, tk, d, rfl, hR, rfl⟩ := hv
  obtain rfl : b = true := hb2.2 ⟨N, tk, rfl, hR⟩
  have hN := hR.ports
  have hNM : N <= M := by simp only [kP] at hM; omega
  have hs := aaB hn
  have hd := Da hl
  obtain ⟨r, hr1, hr2⟩ := W2 hR hK hs
  have htr := En hN hr1
  refine .inr ⟨N, tk, d, r, rfl, hR, rfl, hNM, hs, hd, hr1, hr2, ?_⟩
  have hpre : ∀ (q : List Int), gC (kP N tk) = some q -> fP (kP N tk) (eL N d) = if decide ((q.length : Int) > 0) = true then some ([], 24) else
      (cK (kP N tk) (eL N d)).bind fun r6 =>
      (aY (jH r6) (0, (GF r6))).bind fun l32bx =>
      (EC 64 (kP N tk).aD (kP N tk).aD (ak.mk (al.mk 0 ([])) (al.mk 0 ([])))).bind fun x58 =>
      (aY (jI l32bx) (IntKind.i64.wrap (((l32bx).length : Int) - 1), x58)).bind fun l9ex =>
      some (l9ex, 0) := by
    intro q hq
    unfold fP
    rw [hb1, ae4, ham, ae4, hq]
    rw [decide_eq_true (show ((eL N d).length : Int) = (kP N tk).aD by rw [jR]; rfl), vA]
    simp only [aeV, aea, if_false, aft, Option.bind_some]
  rw [hpre _ htr]
  by_cases ht : bM N r = []
  rotate_left
  · refine .inl ⟨ht, ?_⟩
    have : 0 < (bM N r).length := afn.2 ht
    rw [if_pos (by rw [jy]; simp; omega)]
  refine .inr ⟨ht, ?_⟩
  have h0 := OD hr2 ht
  rw [if_neg (by rw [jy, ht]; simp)]
  have hE := Lq hR hr2 h0 (elim0 hR hd hs)
  have hpow : 2 ^ N * (4 ^ N * (K + 1)) <= 2 ^ M * (4 ^ M * (K + 1)) := agc (ago (by decide) hNM) (aem _ (ago (by decide) hNM))
  obtain ⟨x, _, hx, _⟩ := BL (fA (J1 d tk) N) 1 N (hE N (adA _)).up (fun _ => 0)
  have hsem := ((hE N (adA _)).sem 1 x hx).1
  have hsz := Xe (hE N (adA _)) hx
  refine ⟨x, fun p hp => by have := hsem p hp; grind, ?_, fun p hp => (hsz p hp).2⟩
  rw [xU hR, ae4]
  have e1 : GF ((List.range N).map fun p => mkEq (J1 d tk p)) = J2 (J1 d tk) N 0 := by
    unfold GF J2
    rw [List.map_map]
    exact aeZ fun p _ => by simp [fA]
  have hKs : ∀ p, p < N -> 10 * JN K p + 50 <= dx := fun p hp => by
    have h1 := QA K p
    have h2 : 4 ^ p * (K + 1) * 4 <= 4 ^ N * (K + 1) := by
      rw [Nat.mul_right_comm, <- Nat.pow_succ]
      exact aem _ (ago (by decide) (by omega))
    have h3 : 2 * (4 ^ N * (K + 1)) <= 2 ^ N * (4 ^ N * (K + 1)) := aem _ (by
      have : 2 ^ 1 <= 2 ^ N := ago (by decide) (by omega)
      omega)
    omega
  rw [e1, TQ hN hE (fun p hp => Hw hR hr2 h0 (hE p (by omega)) hp) hKs (by simp), ae4]
  have e2 : (kP N tk).aD = (N : Int) := rfl
  have e3 : (J2 (J1 d tk) N N).length = N := zn _
  have e4 : List.replicate N zF = zk x N 0 := by
    refine gL (by simp) fun j hj => ?_
    rw [agj, if_pos hj, if_neg (by omega)]
  rw [e2, G7 _ (by omega) hN, ae4, e3, wrap64 (by omega) (by omega), e4, O5 hN (hE N (adA _)) hx (by omega), ae4]
theorem Si (a:Rat) (x:Nat->Rat) (tk:List Tk) (p:Nat):a+cd (bs tk p) x=a+lP tk x p:=by rw[zf]
theorem J4 {N K:Nat} {tk:List Tk} {d x:Nat->Rat} (hR:jb N tk) (hK:K<=1000000) (hs:∀t∈tk,LF t.2.2<=K) (hd:∀p,p<N->LF (d p)<=K) (hx:∀p,p<N->LF (x p)<=dx) (hsz:∀p,p<N->LF (d p)+AJ (bs tk p) x+LF (x p)+10<=dx) :
  ∃b,dS (kP N tk) (eL N d) (eL N x)=some b∧(b=true↔Tw N tk d x):=by
 have hN:=hR.ports
 have hKb:K<=iD:=adC hK (by unfold iD;omega)
 obtain⟨b,hb1,hb2⟩:=qT (n:=kP N tk) hK (aaa hs)
 obtain rfl:b=true:=hb2.2 ⟨N,tk,rfl,hR⟩
 have ham1:=oL (l:=eL N d) (kP N tk).aD (by rw[jR];omega) fun f hf=>by
  have:=G1 hd f hf
  exact⟨adC this.1 hKb,adC this.2 hKb⟩
 have ham2:=oL (l:=eL N x) (kP N tk).aD (by rw[jR];omega) fun f hf=>by
  have:=G1 hx f hf
  exact⟨adC this.1 (by decide),adC this.2 (by decide)⟩
 have e0:(kP N tk).aD=(N:Int):=rfl
 unfold dS
 rw[hb1,ae4,ham1,ae4,ham2,ae4,jR,jR,vA,vA,e0]
 simp only[aeV,aea,if_false,aft,decide_true,Option.bind_some]
 rw[xU hR,ae4]
 have hscan:=AH (List.range N) (body:=jF (eL N x) ((List.range N).map fun p=>mkEq (J1 d tk p))) (fun i _=>if d i+lP tk x i=x i then none else some false) (by simp;omega) (fun i p hp=>by
  have hi:i<N:=by have:=b7 hp;simpa using this
  simp only[jF]
  have e1:(mkEq (J1 d tk i)).bk=(bs tk i).map iR:=rfl
  have e2:(mkEq (J1 d tk i)).aO=bR (d i):=rfl
  have hsi:=hsz i hi
  have htl:=vS (tk:=tk) i
  have hlen:=hR.takes
  have k4:=fun hst hend=>xV (body:=jG (eL N x) (mkEq (J1 d tk i))) (bs tk i) (by omega) (fun j (s:Int×List Int×Int×List Int)=>s=((bR (d i+cd ((bs tk i).take j) x)).aH.ag,(bR (d i+cd ((bs tk i).take j) x)).aH.aa,(bR (d i+cd ((bs tk i).take j) x)).aK.ag,(bR (d i+cd ((bs tk i).take j) x)).aK.aa))
   (fun s=>s=((bR (d i+lP tk x i)).aH.ag,(bR (d i+lP tk x i)).aH.aa,(bR (d i+lP tk x i)).aK.ag,(bR (d i+lP tk x i)).aK.aa)) (s0:=((bR (d i)).aH.ag,(bR (d i)).aH.aa,(bR (d i)).aK.ag,(bR (d i)).aK.aa)) (by rw[afv,cd,agn]) hst hend
  obtain⟨r4,h4,rfl⟩:=k4 (by
   rintro j t _ ht rfl
   have hj:=b7 ht
   have htm:=ad2 ht
   obtain⟨u,hu1,hu2,hu3⟩:=mA.1 htm
   have hlt:t.1<N:=by rw[hu3];exact (hR.UA u hu1).1
   have hg:((bs tk i).map iR)[j]? = some (iR t):=by rw[adx,ht];rfl
   have hLl:=Bt (d i) x (T:=bs tk i) j (by omega)
   have hst2:AJ ((bs tk i).take j) x+(LF t.2+LF (x t.1)+1)<=AJ (bs tk i) x:=by
    have:=sM ((bs tk i).take j) ((bs tk i).drop j) x
    rw[afl,afu hj]at this
    simp only[AJ]at this
    have he:(bs tk i)[j]=t:=(ad3.1 ht).2
    rw[he]at this
    omega
   refine⟨_,?_,rfl⟩
   simp only[jG]
   have e5:(iR t).dD=bR t.2:=rfl
   have e6:(iR t).ka=(t.1:Int):=rfl
   have e7:ak.mk (al.mk (bR (d i+cd ((bs tk i).take j) x)).aH.ag (bR (d i+cd ((bs tk i).take j) x)).aH.aa) (al.mk (bR (d i+cd ((bs tk i).take j) x)).aK.ag (bR (d i+cd ((bs tk i).take j) x)).aK.aa)=bR (d i+cd ((bs tk i).take j) x):=rfl
   rw[if_pos (by rw[e1];simp;omega),e1,bO hg,ae4,e6,bO (lf x hlt),ae4,e5,e7,zl (by omega),ae4,cp (by omega),C9 ht,<- Rat.add_assoc]) (by
   rintro _ rfl
   refine⟨((bR (d i+cd ((bs tk i).take (bs tk i).length) x)).aH.ag,(bR (d i+cd ((bs tk i).take (bs tk i).length) x)).aH.aa,(bR (d i+cd ((bs tk i).take (bs tk i).length) x)).aK.ag,(bR (d i+cd ((bs tk i).take (bs tk i).length) x)).aK.aa),?_,?_⟩
   ·simp only[jG];rw[if_neg (by rw[e1];simp)]
   ·rw[afA,Si])
  have hLt:=Bt (d i) x (T:=bs tk i) (bs tk i).length (adA _)
  rw[afA,Si]at hLt
  rw[if_pos (by simp;omega),bO (b8 _ hi),ae4,e2,h4,ae4]
  simp only
  rw[bO (lf x hi),ae4]
  have e7:ak.mk (al.mk (bR (d i+lP tk x i)).aH.ag (bR (d i+lP tk x i)).aH.aa) (al.mk (bR (d i+lP tk x i)).aK.ag (bR (d i+lP tk x i)).aK.aa)=bR (d i+lP tk x i):=rfl
  rw[e7,Tu (by omega),ae4]
  by_cases he:d i+lP tk x i=x i
  ·have:O8 (d i+lP tk x i) (x i)=0:=by unfold O8;rw[he];rw[if_neg (by grind),if_neg (by grind)]
   rw[this,if_pos he,cp (by omega)];rfl
  ·have:O8 (d i+lP tk x i) (x i)≠0:=by unfold O8;split<;>(try split)<;>first|decide|(exfalso;grind)
   rw[if_pos (by simpa using this),if_neg he]) (by
  simp only[jF];rw[if_neg (by simp)])
 rw[hscan,ae4]
 cases hfs:jd (fun i _=>if d i+lP tk x i=x i then none else some false) 0 (List.range N) with
 | none =>
  refine⟨true,rfl,?_⟩
  simp only[true_iff]
  intro p hp
  have:=fC.1 hfs p p (by simp[hp])
  simp only[aen]at this
  split at this
  ·rename_i h;exact h.symm
  ·cases this
 | some r =>
  obtain⟨j,y,h1,h2,_⟩:=gx hfs
  simp only[aen]at h2
  split at h2
  ·cases h2
  ·rename_i hne
   cases h2
   refine⟨false,rfl,?_⟩
   simp only[aea,false_iff]
   intro hsol
   have hj:j<N:=by have:=b7 h1;simpa using this
   exact hne (hsol j hj).symm
theorem Tt {n:bY} {l b:List ak} {K:Nat} (hK:K<=1000000) (hn:X7 n K) (hl:U8 l K) (hb:U8 b iD) (hlen:l.length<=17592186044416) (hlenb:b.length<=17592186044416) (h:¬(yV n l∧∃x,b=eL l.length x)):dS n l b=some false:=by
 have hKb:K<=iD:=adC hK (by unfold iD;omega)
 obtain⟨c,hc1,hc2⟩:=qT hK hn
 have ham1:=oL n.aD hlen fun f hf=>⟨adC (hl f hf).1 hKb,adC (hl f hf).2 hKb⟩
 have ham2:=oL n.aD hlenb fun f hf=>⟨(hb f hf).1,(hb f hf).2⟩
 unfold dS
 rw[hc1,ae4,ham1,ae4,ham2,ae4]
 cases c with
 | false=>simp
 | true =>
  obtain⟨N,tk,rfl,hR⟩:=hc2.1 rfl
  have e0:(kP N tk).aD=(N:Int):=rfl
  rw[e0]
  by_cases g1:(decide ((l.length:Int)=(N:Int))&&l.all okF)=true
  rotate_left
  ·rw[Bool.eq_false_iff.2 g1];simp
  by_cases g2:(decide ((b.length:Int)=(N:Int))&&b.all okF)=true
  rotate_left
  ·rw[g1,Bool.eq_false_iff.2 g2];simp
  exfalso
  rw[aeb,decide_eq_true_eq]at g1 g2
  have h1:l.length=N:=by omega
  obtain⟨d,hd⟩:=yf h1 g1.2
  obtain⟨x,hx⟩:=yf (show b.length=N by omega) g2.2
  exact h ⟨⟨N,tk,d,rfl,hR,hd⟩,x,by rw[h1];exact hx⟩
set_option maxRecDepth 100000
theorem YW:ox=some true:=by kernel_rfl
theorem Zq {l:List ak} (k:Int) (hl:l.length<=17592186044416):∃b,qk l k=some b∧(b=true->l.length<=14∧∀f∈l,(f.aH.aa.length:Int)<=k∧(f.aK.aa.length:Int)<=k):=by
 unfold qk
 have htl:(l.take 15).length=min 15 l.length:=adT
 rw[AH (l.take 15) (fun i x=>if decide ((x.aH.aa.length:Int)<=k∧(x.aK.aa.length:Int)<=k)=true then none else some false) (by omega) (fun i x hx =>?_) (by
  simp only[sD]
  by_cases h:15<l.length
  ·rw[if_pos (by rw[htl];simp;omega),ae4,if_neg (by rw[htl];simp;omega)]
  ·rw[if_neg (by rw[htl];simp;omega),ae4];rfl)]
 ·rw[ae4]
  cases hfs:jd (fun (i:Nat) (x:ak)=>if decide ((x.aH.aa.length:Int)<=k∧(x.aK.aa.length:Int)<=k)=true then none else some false) 0 (l.take 15) with
  | none =>
   refine⟨_,rfl,fun h =>?_⟩
   have h14:l.length<=14:=by have:=of_decide_eq_true h;omega
   refine⟨h14,fun f hf =>?_⟩
   obtain⟨j,hj⟩:=adW hf
   have:=fC.1 hfs j f (by rw[aeT (by omega)];exact hj)
   split at this
   ·rename_i h;exact of_decide_eq_true h
   ·cases this
  | some r =>
   obtain⟨j,x,_,h2,_⟩:=gx hfs
   split at h2
   ·cases h2
   ·cases h2;exact⟨false,rfl,fun h=>by cases h⟩
 ·have hi:=b7 hx
  rw[htl]at hi
  rw[adQ,if_pos (by omega)]at hx
  simp only[sD]
  rw[if_pos (by simp;omega),ae4,if_pos (by simp;omega),bO hx,ae4,abg,ae4]
  by_cases hc:(x.aH.aa.length:Int)<=k∧(x.aK.aa.length:Int)<=k
  ·rw[decide_eq_true hc,cp (by omega)];rfl
  ·rw[decide_eq_false hc];rfl
theorem aan {n:bY} (hl:n.av.length<=17592186044416):∃b,kT n=some b∧(b=true->n.av.length<=40∧X7 n 6∧(n.aD<=12∨2000<n.aD)):=by
 unfold kT
 have htl:(n.av.take 40).length=min 40 n.av.length:=adT
 rw[AH (n.av.take 40) (fun i x=>if decide ((x.ba.aH.aa.length:Int)<=6∧(x.ba.aK.aa.length:Int)<=6)=true then none else some false) (by omega) (fun i x hx =>?_) (by
  simp only[m0]
  by_cases h:40<n.av.length
  ·rw[if_pos (by rw[htl];simp;omega),ae4,if_neg (by rw[htl];simp;omega)]
  ·rw[if_neg (by rw[htl];simp;omega),ae4];rfl)]
 ·rw[ae4]
  cases hfs:jd (fun (i:Nat) (x:dy)=>if decide ((x.ba.aH.aa.length:Int)<=6∧(x.ba.aK.aa.length:Int)<=6)=true then none else some false) 0 (n.av.take 40) with
  | none =>
   have hmain:(n.av.length:Int)<=40->X7 n 6:=fun h t ht=>by
    obtain⟨j,hj⟩:=adW ht
    have:=fC.1 hfs j t (by rw[aeT (by omega)];exact hj)
    split at this
    ·rename_i h;have:=of_decide_eq_true h;omega
    ·cases this
   simp only
   by_cases h1:n.aD<=12
   ·rw[if_pos (by simpa using h1)]
    exact⟨_,rfl,fun h=>by have h':=of_decide_eq_true h;exact⟨by omega,hmain h',.inl h1⟩⟩
   ·rw[if_neg (by simpa using h1)]
    by_cases h2:n.aD>2000
    ·rw[if_pos (by simpa using h2)]
     exact⟨_,rfl,fun h=>by have h':=of_decide_eq_true h;exact⟨by omega,hmain h',.inr h2⟩⟩
    ·rw[if_neg (by simpa using h2)]
     exact⟨_,rfl,fun h=>by cases h⟩
  | some r =>
   obtain⟨j,x,_,h2,_⟩:=gx hfs
   split at h2
   ·cases h2
   ·cases h2;exact⟨false,rfl,fun h=>by cases h⟩
 ·have hi:=b7 hx
  rw[htl]at hi
  rw[adQ,if_pos (by omega)]at hx
  simp only[m0]
  rw[if_pos (by simp;omega),ae4,if_pos (by simp;omega),bO hx,ae4,abg,ae4]
  by_cases hc:(x.ba.aH.aa.length:Int)<=6∧(x.ba.aK.aa.length:Int)<=6
  ·rw[decide_eq_true hc,cp (by omega)];rfl
  ·rw[decide_eq_false hc];rfl
structure acB (n:bY) (l:List ak):Prop where
 takes:n.av.length<=40
 net:X7 n 6
 ports:n.aD<=(12:Nat)∨2000<n.aD
 len:l.length<=14
 amounts:U8 l 4
theorem We {n:bY} {l:List ak} (hn:n.av.length<=17592186044416) (hl:l.length<=17592186044416):∃b,sj n l=some b∧(b=true->acB n l):=by
 obtain⟨b1,e1,f1⟩:=aan hn
 obtain⟨b2,e2,f2⟩:=Zq 4 hl
 unfold sj
 rw[e1,ae4]
 cases b1 with
 | false=>exact⟨false,rfl,fun h=>by cases h⟩
 | true =>
  rw[if_pos rfl,e2]
  refine⟨b2,rfl,fun h =>?_⟩
  obtain⟨h1,h2,h3⟩:=f1 rfl
  obtain⟨h4,h5⟩:=f2 h
  exact⟨h1,h2,h3,h4,fun f hf=>by have:=h5 f hf;omega⟩
theorem U8.mono {l:List ak} {K K':Nat} (h:U8 l K) (hk:K<=K'):U8 l K':=fun f hf=>⟨adC (h f hf).1 hk,adC (h f hf).2 hk⟩
theorem X7.mono {n:bY} {K K':Nat} (h:X7 n K) (hk:K<=K'):X7 n K':=fun f hf=>⟨adC (h f hf).1 hk,adC (h f hf).2 hk⟩
def Xs (K:Nat):Nat:=2 ^ 11*(4 ^ 12*(K+1))
theorem aa5 {K N p x:Nat} (hN:N<=12) (hp:p<N) (h:x<=2 ^ (N-1-p)*(4 ^ N*(K+1))):x<=Xs K:=by
 unfold Xs
 exact adC h (agc (ago (by decide) (by omega)) (aem _ (ago (by decide) hN)))
theorem abJ:2*(2 ^ 12*(4 ^ 12*(6+1)))+100<=dx:=by decide
theorem abj:ov 0=some (bR 0):=acC (n:=0) (by decide)
theorem aaK {a b:List ak} (hl:a.length<=17592186044416) (ha:∀f∈a,Iw f):nD a b=some (decide (a=b)):=by
 unfold nD
 by_cases hlen:a.length=b.length
 rotate_left
 ·rw[if_pos (by simp;omega),decide_eq_false (fun h=>hlen (by rw[h]))]
 rw[if_neg (by simp;omega)]
 rw[AH a (fun i x=>if b[i]? = some x then none else some false) (by omega) (fun i x hx =>?_) (by simp only[ql];rw[if_neg (by simp)])]
 ·rw[ae4]
  cases hfs:jd (fun (i:Nat) (x:ak)=>if b[i]? = some x then none else some false) 0 a with
  | none =>
   have hall:=fC.1 hfs
   have:a=b:=by
    apply afB
    intro j
    cases hj:a[j]? with
    | none =>
     have:a.length<=j:=by simpa using hj
     rw[ae6 (by omega)]
    | some x =>
     have:=hall j x hj
     simp only[aen]at this
     split at this
     ·rename_i h;exact h.symm
     ·cases this
   rw[decide_eq_true this]
  | some r =>
   obtain⟨j,x,h1,h2,_⟩:=gx hfs
   simp only[aen]at h2
   split at h2
   ·cases h2
   ·rename_i h
    cases h2
    rw[decide_eq_false (fun e=>h (by rw[<- e];exact h1))]
 ·have hi:=b7 hx
  have hf:=ha x (ad2 hx)
  have hg:b[i]? = some b[i]:=adN (by omega)
  have hf2:Fit x.aH.aa∧Fit x.aK.aa:=⟨adC hf.1 (by decide),adC hf.2 (by decide)⟩
  simp only[ql]
  rw[if_pos (by simp;omega),bO hx,ae4,bO hg,ae4,abG hf2.1 hf2.2,ae4,hg]
  by_cases he:x=b[i]
  ·rw[decide_eq_true he,if_neg (by simp),cp (by omega),if_pos (by rw[he])]
  ·rw[decide_eq_false he,if_neg (fun h=>he (Option.some.inj h).symm)];rfl
theorem TA {l:List ak} (n:Int) (hl:l.length<=17592186044416) (ha:∀f∈l,Iw f):jE l n=some (l.all okF&&decide ((l.length:Int)=n)):=by
 unfold jE
 rw[AH l (fun i x=>if okF x=true then none else some false) (by omega) (fun i x hx =>?_) (by simp only[l5];rw[if_neg (by simp)])]
 ·rw[ae4]
  cases hfs:jd (fun (i:Nat) (x:ak)=>if okF x=true then none else some false) 0 l with
  | none =>
   have:l.all okF=true:=adL.2 fun x hx=>by
    obtain⟨j,hj⟩:=adW hx
    have:=fC.1 hfs j x hj
    by_cases h:okF x=true
    ·exact h
    ·rw[if_neg h]at this;cases this
   rw[this,aeW]
   simp only
   congr 1
  | some r =>
   obtain⟨j,x,h1,h2,_⟩:=gx hfs
   by_cases h:okF x=true
   ·rw[if_pos h]at h2;cases h2
   ·rw[if_neg h]at h2
    cases h2
    have:l.all okF=false:=by
     cases hall:l.all okF with
     | false=>rfl
     | true=>exact absurd (adL.1 hall x (ad2 h1)) h
    rw[this];rfl
 ·have hi:=b7 hx
  simp only[l5]
  rw[if_pos (by simp;omega),bO hx,ae4,Z9 (ha x (ad2 hx)),ae4]
  cases okF x with
  | true=>rw[cp (by omega)];rfl
  | false=>rfl
theorem Q5 {K:Nat} (hK:K<=iD) {l:List ak} (h:U8 l K):∀f∈l,Iw f:=fun f hf=>⟨adC (h f hf).1 hK,adC (h f hf).2 hK⟩
theorem Is {n:bY} {l:List ak} : yV n l↔(∃N tk,n=kP N tk∧jb N tk)∧l.all okF=true∧(l.length:Int)=n.aD:=by
 constructor
 ·rintro⟨N,tk,d,rfl,hR,rfl⟩
  exact⟨⟨N,tk,rfl,hR⟩,vA N d,by rw[jR];rfl⟩
 ·rintro⟨⟨N,tk,rfl,hR⟩,h1,h2⟩
  obtain⟨d,hd⟩:=yf (N:=N) (by simp only[kP]at h2;omega) h1
  exact⟨N,tk,d,rfl,hR,hd⟩
def eX (d:Nat->Rat):List Nat->Rat
 | []=>0
 | p::l=>d p+eX d l
theorem AI (d:Nat->Rat) (a b:List Nat):eX d (a++b)=eX d a+eX d b:=by
 induction a with
 | nil=>rw[aff,eX,aga]
 | cons p a ih=>rw[afp,eX,eX,ih];grind
theorem Ii (d:Nat->Rat) {l:List Nat} {i p:Nat} (h:l[i]? = some p):eX d (l.take (i+1))=eX d (l.take i)+d p:=by
 obtain⟨hi,he⟩:=ad3.1 h
 rw[agb hi,AI,he]
 simp only[eX];grind
theorem Ij (d:Nat->Rat) (r:Nat->Int):∀n,eX d (bM n r)=sm n fun p=>if decide (r p = -1)=true then d p else 0
 | 0=>rfl
 | n+1=>by
  rw[Em,sm,<- Ij d r n]
  by_cases h:r n = -1
  ·rw[if_pos h,AI,decide_eq_true h,if_pos rfl];simp only[eX];grind
  ·rw[if_neg h,decide_eq_false h,if_neg (by simp)];grind
theorem Q7 {d:Nat->Rat} {K:Nat} {l:List Nat} (h:∀p∈l,LF (d p)<=K):∀i,i<=l.length->LF (eX d (l.take i))<=1+i*(K+1)
 | 0,_=>by rw[afv];simp only[eX];exact adC IA (by omega)
 | i+1,hi=>by
  have ih:=Q7 h i (by omega)
  have hg:l[i]? = some l[i]:=adN (by omega)
  rw[Ii d hg,aew]
  have:=yT (eX d (l.take i)) (d l[i])
  have:=h _ (adM (show i<l.length by omega))
  omega
theorem EK (T:Nat->Bool) (x:Nat->Rat) (a b:List Tk):dA T x (a++b)=dA T x a+dA T x b:=by
 induction a with
 | nil=>rw[aff,dA,aga]
 | cons t a ih=>rw[afp,dA,dA,ih];grind
theorem zT (T:Nat->Bool) (x:Nat->Rat) {tk:List Tk} {i:Nat} {t:Tk} (h:tk[i]? = some t):dA T x (tk.take (i+1))=dA T x (tk.take i)+(if T t.2.1 && !T t.1 then t.2.2*x t.1 else 0):=by
 obtain⟨hi,he⟩:=ad3.1 h
 rw[agb hi,EK,he]
 simp only[dA];grind
theorem J7 (a0:bY) (a1 a2:List ak) (h0:a0.av.length<=17592186044416) (h1:a1.length<=17592186044416) (h2:a2.length<=17592186044416):iF a0 a1 a2=some true:=by
 obtain⟨b,e1,e2⟩:=We h0 h1
 obtain⟨b2,f1,f2⟩:=Zq 6 h2
 unfold iF
 rw[YW,ae4,e1,ae4]
 cases b with
 | false=>rfl
 | true =>
 have hF:=e2 rfl
 simp only[aeV,aea,if_false]
 rw[f1,ae4]
 cases b2 with
 | false=>rfl
 | true =>
 obtain⟨hl2,hs2'⟩:=f2 rfl
 have hs2:U8 a2 6:=fun f hf=>by have:=hs2' f hf;omega
 obtain⟨rb,g1,g2⟩:=qT (K:=6) (by decide) hF.net
 simp only[aeV,aea,if_false]
 rw[g1,ae4]
 cases rb with
 | false=>rfl
 | true =>
 simp only[aeV,aea,if_false]
 rw[TA _ h1 (Q5 (by decide) hF.amounts),ae4,ae4]
 by_cases hv:yV a0 a1
 rotate_left
 ·have:(a1.all okF&&decide ((a1.length:Int)=a0.aD))=false:=by
   cases hc:(a1.all okF&&decide ((a1.length:Int)=a0.aD)) with
   | false=>rfl
   | true =>
    rw[aeb,decide_eq_true_eq]at hc
    exact absurd (Is.2 ⟨g2.1 rfl,hc.1,hc.2⟩) hv
  rw[this];rfl
 have hcond:(a1.all okF&&decide ((a1.length:Int)=a0.aD))=true:=by
  obtain⟨_,k1,k2⟩:=Is.1 hv
  rw[k1,decide_eq_true k2];rfl
 rw[hcond]
 simp only[aeV,aea,if_false]
 rcases U2 (K:=6) (M:=12) (by decide) hF.net (U8.mono hF.amounts (by decide)) h1 hF.ports abJ with⟨hnv,_⟩|⟨N,tk,d,r,rfl,hR,rfl,hN,hs,hd,hr1,hr2,hcase⟩
 ·exact absurd hv hnv
 have hN2:=hR.ports
 have htr:=En hN2 hr1
 have hLm:dx=4398046511104:=rfl
 have hl40:tk.length<=40:=by have:=hF.takes;simpa [kP] using this
 have hck:∃c,dS (kP N tk) (eL N d) a2=some c∧(c=true↔∃y,a2=eL N y∧Tw N tk d y):=by
  by_cases hy:∃y,a2=eL N y
  ·obtain⟨y,rfl⟩:=hy
   have hy6:=Da hs2
   obtain⟨c,c1,c2⟩:=J4 (x:=y) hR (by decide) hs hd (fun p hp=>by have:=hy6 p hp;omega) (fun p hp=>by
    have k1:=hd p hp
    have k2:=hy6 p hp
    have k3:AJ (bs tk p) y<=(bs tk p).length*13:=by
     have:∀T:List Tm,(∀t∈T,LF t.2<=6∧LF (y t.1)<=6)->AJ T y<=T.length*13:=by
      intro T
      induction T with
      | nil=>intro _;simp[AJ]
      | cons t T ih =>
       intro h
       have:=h t (ae0 ..)
       have:=ih fun u hu=>h u (ae1 _ hu)
       simp only[AJ,List.length_cons];omega
     refine this _ fun t ht =>?_
     obtain⟨u,hu1,_,hu3⟩:=mA.1 ht
     rw[hu3]
     exact⟨hs u hu1,hy6 _ (hR.UA u hu1).1⟩
    have k4:=vS (tk:=tk) p
    omega)
   refine⟨c,c1,c2.trans ⟨fun h=>⟨y,rfl,h⟩,?_⟩⟩
   rintro⟨z,hz,hsol⟩
   have:=(T6 hz).2
   intro p hp
   rw[this p hp,hsol p hp,GU (l:=tk) (p:=p) (x:=z) (y:=y) fun t ht _=>(this _ (hR.UA t ht).1).symm]
  ·refine⟨false,Tt (K:=6) (by decide) hF.net (U8.mono hF.amounts (by decide)) (fun f hf=>⟨adC (hs2 f hf).1 (by decide),adC (hs2 f hf).2 (by decide)⟩) h1 h2 ?_,?_⟩
   ·rintro⟨_,y,hy'⟩
    rw[jR]at hy'
    exact hy ⟨y,hy'⟩
   ·simp only[aea,false_iff]
    rintro⟨y,hy',_⟩
    exact hy ⟨y,hy'⟩
 obtain⟨c,c1,c2⟩:=hck
 rcases hcase with⟨ht,hO⟩|⟨ht,x,hx,hO,hxs⟩
 rotate_left
 ·have hX:∀p,p<N->LF (x p)<=Xs 6:=fun p hp=>aa5 hN hp (hxs p hp)
  have hXs:Xs 6=240518168576:=by decide
  obtain⟨c',c1',c2'⟩:=J4 (x:=x) hR (by decide) hs hd (fun p hp=>by have:=hX p hp;omega) (fun p hp=>by
   have k1:=hd p hp
   have k2:=hX p hp
   have k3:=Qz (K:=6) (Q:=4 ^ N*(6+1)) (x:=x) (T:=bs tk p) (a:=0) (N:=N) (Ee hR.sorted p) (fun t ht=>by
    obtain⟨u,hu1,_,hu3⟩:=mA.1 ht
    rw[hu3];exact⟨adB _,(hR.UA u hu1).1⟩) (fun t ht=>by
    obtain⟨u,hu1,_,hu3⟩:=mA.1 ht
    rw[hu3];exact hs u hu1) (fun j _ hj=>hxs j hj)
   have k4:=vS (tk:=tk) p
   have k5:2 ^ (N-0)*(4 ^ N*(6+1))<=2 ^ 12*(4 ^ 12*(6+1)):=agc (ago (by decide) (by omega)) (aem _ (ago (by decide) hN))
   have k6:2 ^ 12*(4 ^ 12*(6+1))=481036337152:=by decide
   omega)
  have hc':c'=true:=c2'.2 hx
  subst hc'
  rw[hO,ae4,htr,ae4,c1,ae4,ht,if_pos (by rfl),if_pos trivial,if_pos (by rfl),c1',ae4,if_pos rfl,aaK h2 (Q5 (by decide) hs2),ae4]
  have:c=decide (a2=eL N x):=by
   have h0:=OD hr2 ht
   cases hcc:c with
   | true =>
    obtain⟨y,hy,hsol⟩:=c2.1 hcc
    have:=Qy hR hr2 h0 hsol hx
    rw[decide_eq_true]
    rw[hy];exact MG this
   | false =>
    rw[decide_eq_false]
    intro he
    have:=c2.2 ⟨x,he,hx⟩
    rw[hcc]at this;cases this
  rw[<- this]
  simp
 ·have hlen:0<(bM N r).length:=afn.2 ht
  rw[hO,ae4,htr,ae4,c1,ae4,if_neg (by rw[jy];simp;omega)]
  simp only
  rw[if_neg (by simp)]
  simp only[List.length_nil,Option.bind_some]
  rw[if_neg (by simp)]
  cases hcc:c with
  | false=>rfl
  | true =>
  obtain⟨y,rfl,hsol⟩:=c2.1 hcc
  have hy6:=Da hs2
  simp only[aeV,aea,if_false]
  have e0:(kP N tk).aD=(N:Int):=rfl
  rw[e0,G7 _ (by omega) hN2,ae4,abj,ae4]
  have hmem:∀p,p∈bM N r↔p<N∧r p = -1:=fun p=>by unfold bM;simp[ae7]
  have htl:(bM N r).length<=N:=by have:=agd (fun p=>decide (r p = -1)) (List.range N);unfold bM;simpa using this
  have hLs:=Q7 (d:=d) (K:=6) (l:=bM N r) fun p hp=>hd p ((hmem p).1 hp).1
  have k4:=fun hst hend=>xV (body:=iO (kP N tk) (eL N d) (jx (bM N r))) (bM N r) (by omega)
   (fun i (s:List Bool×Int×List Int×Int×List Int)=>s=((List.range N).map (fun p=>decide (p∈(bM N r).take i)),(bR (eX d ((bM N r).take i))).aH.ag,(bR (eX d ((bM N r).take i))).aH.aa,(bR (eX d ((bM N r).take i))).aK.ag,(bR (eX d ((bM N r).take i))).aK.aa))
   (fun s=>s=.inl ((List.range N).map (fun p=>decide (r p = -1)),(bR (eX d (bM N r))).aH.ag,(bR (eX d (bM N r))).aH.aa,(bR (eX d (bM N r))).aK.ag,(bR (eX d (bM N r))).aK.aa))
   (s0:=(List.replicate N false,(bR 0).aH.ag,(bR 0).aH.aa,(bR 0).aK.ag,(bR 0).aK.aa)) (by
    rw[afv]
    refine Prod.ext ?_ rfl
    exact gL (by simp) fun j hj=>by rw[agj,if_pos hj];simp) hst hend
  obtain⟨s,s1,rfl⟩:=k4 (by
   rintro i p _ hp rfl
   have hi:=b7 hp
   have hpm:=(hmem p).1 (ad2 hp)
   have hLi:=hLs i (by omega)
   have hdp:=hd p hpm.1
   have w1:ak.mk (al.mk (bR (eX d ((bM N r).take i))).aH.ag (bR (eX d ((bM N r).take i))).aH.aa) (al.mk (bR (eX d ((bM N r).take i))).aK.ag (bR (eX d ((bM N r).take i))).aK.aa)=bR (eX d ((bM N r).take i)):=rfl
   refine⟨_,?_,rfl⟩
   simp only[iO]
   rw[if_pos (by rw[jy];simp;omega),bO (Nk hp),ae4,if_neg (by simp),ae4,e0,if_neg (by simp;omega),bO (b8 _ hpm.1),ae4,bO (lf d hpm.1),ae4,w1,Q3 (by omega),ae4,cp (by omega),aez,ie,Ii d hp]
   refine congrArg some (congrArg Sum.inl (congrArg (Prod.mk _) (Prod.ext ?_ rfl)))
   refine congrArg (fun f=>(List.range N).map f) (funext fun q =>?_)
   have htk:(bM N r).take (i+1)=(bM N r).take i++[p]:=by rw[agb hi,(ad3.1 hp).2]
   rw[htk]
   by_cases h:q=p
   ·subst h;rw[if_pos rfl];simp
   ·rw[if_neg h];simp[h]) (by
   rintro _ rfl
   refine⟨.inl ((List.range N).map (fun p=>decide (p∈(bM N r).take (bM N r).length)),(bR (eX d ((bM N r).take (bM N r).length))).aH.ag,(bR (eX d ((bM N r).take (bM N r).length))).aH.aa,(bR (eX d ((bM N r).take (bM N r).length))).aK.ag,(bR (eX d ((bM N r).take (bM N r).length))).aK.aa),?_,?_⟩
   ·simp only[iO];rw[if_neg (by rw[jy];simp)]
   ·rw[afA]
    refine congrArg Sum.inl (Prod.ext ?_ rfl)
    refine aeZ fun q hq =>?_
    have:=afb.1 hq
    by_cases h:r q = -1
    ·rw[decide_eq_true h,decide_eq_true ((hmem q).2 ⟨this,h⟩)]
    ·rw[decide_eq_false h,decide_eq_false fun h'=>h ((hmem q).1 h').2])
  rw[s1,ae4]
  simp only
  have hLt:=hLs (bM N r).length (adA _)
  rw[afA]at hLt
  have hLc:∀i,i<=tk.length->LF (eX d (bM N r)+dA (fun p=>decide (r p = -1)) y (tk.take i))<=200+i*13:=by
   intro i
   induction i with
   | zero=>intro _;rw[afv];simp only[dA];rw[agn];omega
   | succ i ih =>
    intro hi
    have:=ih (by omega)
    have hg:tk[i]? = some tk[i]:=adN (by omega)
    rw[zT _ _ hg,<- Rat.add_assoc]
    split
    ·have k1:=yT (eX d (bM N r)+dA (fun p=>decide (r p = -1)) y (tk.take i)) (tk[i].2.2*y tk[i].1)
     have k2:=wT tk[i].2.2 (y tk[i].1)
     have k3:=hs _ (adM (show i<tk.length by omega))
     have k4:=hy6 _ (hR.UA _ (adM (show i<tk.length by omega))).1
     omega
    ·rw[agn];omega
  have k7:=fun hst hend=>xV (body:=iP (kP N tk) (eL N y) ((List.range N).map (fun p=>decide (r p = -1)))) tk (by omega)
   (fun i (s:Int×List Int×Int×List Int)=>s=((bR (eX d (bM N r)+dA (fun p=>decide (r p = -1)) y (tk.take i))).aH.ag,(bR (eX d (bM N r)+dA (fun p=>decide (r p = -1)) y (tk.take i))).aH.aa,(bR (eX d (bM N r)+dA (fun p=>decide (r p = -1)) y (tk.take i))).aK.ag,(bR (eX d (bM N r)+dA (fun p=>decide (r p = -1)) y (tk.take i))).aK.aa))
   (fun s=>s=((bR 0).aH.ag,(bR 0).aH.aa,(bR 0).aK.ag,(bR 0).aK.aa))
   (s0:=((bR (eX d (bM N r))).aH.ag,(bR (eX d (bM N r))).aH.aa,(bR (eX d (bM N r))).aK.ag,(bR (eX d (bM N r))).aK.aa)) (by rw[afv];simp only[dA];rw[agn]) hst hend
  obtain⟨s',s1',rfl⟩:=k7 (by
   rintro i t _ ht rfl
   have hi:=b7 ht
   have htm:=ad2 ht
   obtain⟨q1,q2⟩:=hR.UA t htm
   have hg:(tk.map tn)[i]? = some (tn t):=by rw[adx,ht];rfl
   have hLi:=hLc i (by omega)
   have k3:=hs t htm
   have k4:=hy6 _ q1
   have k5:=wT t.2.2 (y t.1)
   have e3:(kP N tk).av=tk.map tn:=rfl
   have w1:ak.mk (al.mk (bR (eX d (bM N r)+dA (fun p=>decide (r p = -1)) y (tk.take i))).aH.ag (bR (eX d (bM N r)+dA (fun p=>decide (r p = -1)) y (tk.take i))).aH.aa) (al.mk (bR (eX d (bM N r)+dA (fun p=>decide (r p = -1)) y (tk.take i))).aK.ag (bR (eX d (bM N r)+dA (fun p=>decide (r p = -1)) y (tk.take i))).aK.aa)=bR (eX d (bM N r)+dA (fun p=>decide (r p = -1)) y (tk.take i)):=rfl
   have w2:(tn t).kM=(t.2.1:Int):=rfl
   have w3:(tn t).cR=(t.1:Int):=rfl
   have w4:(tn t).ba=bR t.2.2:=rfl
   refine⟨_,?_,rfl⟩
   simp only[iP]
   rw[if_pos (by rw[e3];simp;omega),e3,bO hg,ae4,w2,bO (b8 _ q2),ae4,w3,bO (b8 _ q1),ae4,zT _ _ ht,<- Rat.add_assoc,cp (by omega)]
   by_cases hc:(decide (r t.2.1 = -1) && !decide (r t.1 = -1))=true
   ·have hc':=hc
    rw[aeb]at hc'
    rw[hc'.1,hc'.2,if_pos rfl,ae4,if_pos rfl,bO (lf y q1),ae4,w4,Y7 (by omega),ae4,w1]
    simp only
    rw[Q3 (by omega),ae4,aft,if_pos rfl]
   ·rw[Bool.eq_false_iff.2 hc]
    have:(if decide (r t.2.1 = -1)=true then some (!decide (r t.1 = -1)) else some false)=some false:=by
     by_cases h:r t.2.1 = -1
     ·rw[decide_eq_true h]at hc ⊢
      rw[if_pos rfl]
      simpa using hc
     ·rw[decide_eq_false h];rfl
    rw[this,ae4,if_neg (by simp),if_neg (by simp),agn]) (by
   rintro _ rfl
   refine⟨((bR (eX d (bM N r)+dA (fun p=>decide (r p = -1)) y (tk.take tk.length))).aH.ag,(bR (eX d (bM N r)+dA (fun p=>decide (r p = -1)) y (tk.take tk.length))).aH.aa,(bR (eX d (bM N r)+dA (fun p=>decide (r p = -1)) y (tk.take tk.length))).aK.ag,(bR (eX d (bM N r)+dA (fun p=>decide (r p = -1)) y (tk.take tk.length))).aK.aa),?_,?_⟩
   ·have e3:(kP N tk).av=tk.map tn:=rfl
    simp only[iP];rw[if_neg (by rw[e3];simp)]
   ·have hz:eX d (bM N r)+dA (fun p=>decide (r p = -1)) y tk=0:=by
     rw[Ij]
     refine Xf hR hsol (T:=fun p=>decide (r p = -1)) (fun t ht h =>?_) (fun p hp h =>?_)
     ·simp only[decide_eq_true_eq]at h ⊢
      have q2:=(hR.UA t ht).2
      have:=hr2.ge t.2.1 q2
      by_cases h2:0<=r t.2.1
      ·have:=(hr2.near t ht h2).1;omega
      ·omega
     ·simp only[decide_eq_true_eq]at h
      have h1:=hR.leak p hp
      have h2:=hr2.zero p hp
      have h3:¬0<dE tk p:=fun h'=>by have:=h2.2 h';omega
      grind
    rw[afA,hz])
  rw[s1',ae4]
  have w5:ak.mk (al.mk (bR 0).aH.ag (bR 0).aH.aa) (al.mk (bR 0).aK.ag (bR 0).aK.aa)=bR 0:=rfl
  simp only[if_true]
  rw[w5,IB (by have:=IA;omega)]
  rfl
end Go.Proofs.Ytchndpjlijbplaa.P
