/- Part of a proof. -/
import Derived.Test.YtchndpjlijbplaaIf
set_option linter.unusedSimpArgs false
set_option linter.unusedVariables false
noncomputable section
namespace Go.Proofs.Ytchndpjlijbplaa.P
open Go.RowKit
theorem acq {N K:Nat} {e:QE} (he:R3 N K e.T) (hN:N<=2000) {k:Nat} {v:Rat} (h:K+LF v+10<=eF):dJ (mkEq e) (k:Int) (bL v)=some (mkEq (acp e k v),()):=by
 have hl:=he.len
 unfold dJ
 rw[find_eq he.sorted (by omega),agi]
 simp only
 have hLF1:=PB
 rcases wk (k:=k) he.sorted with⟨g1,g2⟩|⟨c,g1,g2⟩
 ·rw[g1]
  simp only[Option.isSome_none,afo,if_false]
  have hll:(kI e.T k).length<=e.T.length:=ahk ..
  have hins:Xt 72 (mkEq e).bA ((kI e.T k).length:Int) [dH.mk (k:Int) (bL v)]=some ((Cr e.T k v).map jF):=by
   unfold Xt mkEq
   simp only[afi,List.length_cons,List.length_nil,Int.toNat_natCast]
   rw[if_pos ⟨by omega,by omega,by omega,by omega⟩]
   congr 1
   have e1:e.T.map jF=(kI e.T k).map jF++(zo e.T k).map jF:=by rw[<- aga,<- g2]
   unfold Cr JP
   rw[g1,e1,List.take_left' (by simp),List.drop_left' (by simp),aga,aeU]
   simp only[Option.getD_none,List.cons_append,List.nil_append]
   congr 2
   unfold jF
   simp only
   congr 1
   rw[Rat.zero_add]
  rw[hins];rfl
 ·rw[g1]
  simp only[Option.isSome_some,if_true]
  have hgT:e.T[(kI e.T k).length]? = some (k,c):=by
   have:(kI e.T k++(k,c)::zo e.T k)[(kI e.T k).length]? = some (k,c):=by simp
   rwa [<- g2]at this
  have hg:(e.T.map jF)[(kI e.T k).length]? = some (jF (k,c)):=by rw[aeL,hgT];rfl
  have hck:LF c<=K:=he.sz (k,c) (nG g1)
  have e0:(mkEq e).bA=e.T.map jF:=rfl
  rw[e0,bG hg,agi,abJ,agi]
  simp only[jF]
  rw[EC (by omega),agi,afM]
  unfold acp Cr JP mkEq
  rw[g1]
  simp only[Option.getD_some]
  have e1:e.T.map jF=(kI e.T k).map jF++jF (k,c)::(zo e.T k).map jF:=by rw[<- aeU,<- aga,<- g2]
  have e2:((e.T.map fun t=>dH.mk (t.1:Int) (bL t.2)).set (kI e.T k).length (dH.mk (k:Int) (bL (c+v*1))))=(kI e.T k++(k,c+v)::zo e.T k).map jF:=by
   show (e.T.map jF).set (kI e.T k).length _=_
   rw[e1,List.set_append_right _ _ (by simp),afi,afR,List.set_cons_zero,aga,aeU]
   unfold jF
   simp only
   congr 4
   grind
  rw[<- e2];rfl
def il (e:QE) (p:Nat):QE:=match ef e.T p with|none=>e|some c=>⟨e.D / (1-c),(jv e.T p).map fun t=>(t.1,t.2 / (1-c))⟩
theorem WM {T:List Tm} {k:Nat} {c:Rat} (hl:T.length<=2000) (g:T=kI T k++(k,c)::zo T k):WL (T.map jF) ((kI T k).length:Int) (IntKind.i64.wrap (((kI T k).length:Int)+1))=some ((jv T k).map jF):=by
 have hlen:T.length=(kI T k).length+1+(zo T k).length:=by
  have:=congrArg List.length g
  simp only[afP,List.length_cons]at this
  omega
 rw[bX (by omega)]
 unfold WL
 have:(2000:Nat)<=maxLen:=by decide
 rw[if_pos ⟨by omega,by omega,by simp;omega,by simp;omega⟩,afM,afM]
 have e1:T.map jF=(kI T k).map jF++jF (k,c)::(zo T k).map jF:=by rw[<- aeU,<- aga,<- g]
 rw[e1,List.take_left' (by simp)]
 have e2:((kI T k).map jF++jF (k,c)::(zo T k).map jF).drop ((kI T k).length+1)=(zo T k).map jF:=by
  rw[agw,agx (by simp)]
  simp
 rw[e2]
 unfold jv
 rw[aga]
theorem aaD {a b:Rat} (h:LF a+LF b<=eF) (h0:b≠0):jL (bL a) (bL b)=some (bL (a / b),0):=aap h h0
theorem ZP {N K:Nat} {e:QE} (he:R3 N K e.T) (hD:LF e.D<=K) (hN:N<=2000) (hK:2*K+10<=eF) {p:Nat} (hc:∀c,ef e.T p=some c->1-c≠0):cY (mkEq e) (p:Int)=some (mkEq (il e p),()):=by
 have hl:=he.len
 unfold cY
 rw[find_eq he.sorted (by omega),agi]
 simp only
 have hLF1:=PB
 unfold il
 rcases wk (k:=p) he.sorted with⟨g1,g2⟩|⟨c,g1,g2⟩
 ·rw[g1];rfl
 ·rw[g1]
  simp only[Option.isSome_some,af8,afo,if_false]
  have hgT:e.T[(kI e.T p).length]? = some (p,c):=by
   have:(kI e.T p++(p,c)::zo e.T p)[(kI e.T p).length]? = some (p,c):=by simp
   rwa [<- g2]at this
  have hg:(e.T.map jF)[(kI e.T p).length]? = some (jF (p,c)):=by rw[aeL,hgT];rfl
  have hck:LF c<=K:=he.sz (p,c) (nG g1)
  have h0:=hc c g1
  have e0:(mkEq e).bA=e.T.map jF:=rfl
  have e3:(mkEq e).aX=bL e.D:=rfl
  rw[abJ,agi,e0,bG hg,agi]
  simp only[jF]
  have hs1:=zE 1 c
  rw[R1 (by omega),agi]
  have hd:fP (e.T.map jF) ((kI e.T p).length:Int) (IntKind.i64.wrap (((kI e.T p).length:Int)+1))=some ((jv e.T p).map jF):=by unfold fP;exact WM (by omega) g2
  rw[hd,agi,e3]
  simp only
  rw[aaD (by omega) h0,agi]
  have hrl:=(he.rem p).len
  have key:=fun hs hend=>yo (body:=dP (bL (1-c),0) ((jv e.T p).map jF)) (jv e.T p) (by omega) (fun i (l:List dH)=>l.length=(jv e.T p).length∧∀(j:Nat) t,(jv e.T p)[j]? = some t->l[j]? = some (if j<i then jF (t.1,t.2 / (1-c)) else jF t)) (fun l=>l=((jv e.T p).map fun t=>(t.1,t.2 / (1-c))).map jF) (s0:=(jv e.T p).map jF)
   ⟨by simp,fun j t ht=>by rw[aeL,ht,if_neg (by omega)];rfl⟩ hs hend
  obtain⟨r,h1,rfl⟩:=key (by
   rintro i t l ht ⟨hl1,hI⟩
   have hi:=bW ht
   have hgl:=hI i t ht
   rw[if_neg (by omega)]at hgl
   have hst:=he.sz t (iS.1 (afg ht)).1
   refine⟨l.set i (jF (t.1,t.2 / (1-c))),?_,by simpa using hl1,fun j u hu =>?_⟩
   ·simp only[dP]
    rw[if_pos (by simp;omega),bG hgl,agi]
    simp only[jF]
    rw[aaD (by omega) h0,agi,bX (by omega),afM]
   ·rw[List.getElem?_set]
    by_cases hij:i=j
    ·subst hij
     rw[hu]at ht
     cases ht
     rw[if_pos rfl,if_pos (by omega),if_pos (by omega)]
    ·rw[if_neg hij,hI j u hu]
     by_cases hj:j<i
     ·rw[if_pos hj,if_pos (by omega)]
     ·rw[if_neg hj,if_neg (by omega)]) (by
   rintro l ⟨hl1,hI⟩
   refine⟨l,?_,?_⟩
   ·simp only[dP];rw[if_neg (by simp)]
   ·apply agP
    intro j
    rw[aeL,aeL]
    cases hj:(jv e.T p)[j]? with
    | none =>
     have:(jv e.T p).length<=j:=by simpa using hj
     rw[agk (by omega)];rfl
    | some t=>rw[hI j t hj,if_pos (bW hj)];rfl)
  rw[h1,agi]
  rfl
def jx (c:Rat):List Tm->List Tm->List Tm
 | [],T=>T
 | b::B,T=>jx c B (Cr T b.1 (c*b.2))
def Ac (e:QE) (p:Nat) (b:QE):QE:=match ef e.T p with|none=>e|some c=>⟨e.D+c*b.D,jx c b.T (jv e.T p)⟩
theorem sd (c:Rat):∀(A B T:List Tm),jx c (A++B) T=jx c B (jx c A T)
 | [],_,_=>rfl
 | a::A,B,T=>by rw[agE,jx,jx,sd c A B]
theorem Ga {T:List Tm} (h:iD T) (k:Nat) (v:Rat):iD (Cr T k v):=Yk h k _
theorem DD (c:Rat):∀(B:List Tm) {T:List Tm},iD T->iD (jx c B T)
 | [],_,h=>h
 | b::B,_,h=>DD c B (Ga h _ _)
theorem Nt (c:Rat) (x:Nat->Rat):∀(B:List Tm) {T:List Tm},iD T->cG (jx c B T) x=cG T x+c*cG B x
 | [],T,_=>by simp only[jx,cG];grind
 | b::B,T,h=>by
  rw[jx,Nt c x B (Ga h _ _),ZM h,cG]
  grind
theorem xp (c:Rat) {R:Nat->Prop} : ∀(B:List Tm) {T:List Tm},(∀t∈T,R t.1)->(∀b∈B,R b.1)->∀t∈jx c B T,R t.1
 | [],_,h,_=>h
 | b::B,T,h,hB=>xp c B (T:=Cr T b.1 (c*b.2)) (fun t ht=>by
   rcases J3.1 ht with rfl|ht
   ·exact hB b (agd ..)
   ·exact h t (iS.1 ht).1) fun u hu=>hB u (age _ hu)
theorem Mz {c:Rat} (hc:0<=c):∀(B:List Tm) {T:List Tm},(∀t∈T,0<=t.2)->(∀b∈B,0<=b.2)->∀t∈jx c B T,0<=t.2
 | [],_,h,_=>h
 | b::B,T,h,hB=>Mz hc B (T:=Cr T b.1 (c*b.2)) (fun t ht=>by
   rcases J3.1 ht with rfl|ht
   ·have h1:=ahq hc (hB b (agd ..))
    simp only
    cases hcf:ef T b.1 with
    | none=>simp only[Option.getD_none];grind
    | some a=>have:=h _ (nG hcf);simp only[Option.getD_some]at *;grind
   ·exact h t (iS.1 ht).1) fun u hu=>hB u (age _ hu)
theorem S2 {K1 K2:Nat} {c:Rat} (hc:LF c<=K1):∀(A B:List Tm) {T:List Tm},iD (A++B)->(∀b∈A++B,LF b.2<=K2)->(∀t∈T,LF t.2<=K1)->∀t∈jx c A T,LF t.2<=2*K1+K2+1∧((∀a∈A,a.1≠t.1)->LF t.2<=K1)
 | [],_,_,_,_,h,t,ht=>⟨by have:=h t ht;omega,fun _=>h t ht⟩
 | a::A,B,T,hs,hz,h,t,ht=>by
  obtain⟨A',z,hA⟩:∃A' z,a::A=A'++[z]:=⟨(a::A).dropLast,(a::A).getLast (by simp),(List.dropLast_concat_getLast (by simp)).symm⟩
  have hlen:A'.length<(a::A).length:=by rw[hA];simp
  rw[hA,sd]at ht
  simp only[jx]at ht
  rw[hA,af1]at hs hz
  have ih:=S2 hc A' ([z]++B) (T:=T) hs hz h
  have hzK:=hz z (ae3 _ (ae2 _ (agd ..)))
  rw[hA]
  rcases J3.1 ht with rfl|ht
  ·refine⟨?_,fun hn=>absurd rfl (hn z (ae3 _ (agd ..)))⟩
   simp only
   have hm:=Cg c z.2
   cases hcf:ef (jx c A' T) z.1 with
   | none=>rw[ahs,Rat.zero_add];omega
   | some y =>
    have h1:=(ih _ (nG hcf)).2 fun u hu=>by
     have:=(ago.1 hs).2.2 u hu z (ae2 _ (agd ..))
     simp only;omega
    have:=Ce y (c*z.2)
    rw[afD]
    simp only at h1
    omega
  ·obtain⟨h1,h2⟩:=ih t (iS.1 ht).1
   exact⟨h1,fun hn=>h2 fun u hu=>hn u (ae2 _ hu)⟩
 termination_by A=>A.length
structure R2 (N K:Nat) (e:QE):Prop where
 t:R3 N K e.T
 d:LF e.D<=K
theorem R2.mono {N K K':Nat} {e:QE} (h:R2 N K e) (hk:K<=K'):R2 N K' e:=⟨h.t.mono hk,aeQ h.d hk⟩
theorem UP (c:Rat) {B:List Tm} {i:Nat} {b:Tm} (h:B[i]? = some b) (T:List Tm):jx c (B.take (i+1)) T=Cr (jx c (B.take i) T) b.1 (c*b.2):=by
 obtain⟨hi,he⟩:=afh.1 h
 rw[ahi hi,sd,he];rfl
theorem My {N K1 K2:Nat} {c:Rat} (hc:LF c<=K1) {B T:List Tm} (hB:R3 N K2 B) (hT:R3 N K1 T) (i:Nat):R3 N (2*K1+K2+1) (jx c (B.take i) T) where
 sorted:=DD c _ hT.sorted
 lt:=xp c (R:=fun p=>p<N) _ hT.lt fun b hb=>hB.lt b (afy hb)
 sz t ht:=(S2 (K1:=K1) (K2:=K2) hc (B.take i) (B.drop i) (by rw[agA];exact hB.sorted) (by rw[agA];exact hB.sz) hT.sz t ht).1
theorem Z3 {N K1 K2:Nat} {e b:QE} (he:R2 N K1 e) (hb:R2 N K2 b) (p:Nat):R2 N (2*K1+K2+1) (Ac e p b):=by
 unfold Ac
 cases hcf:ef e.T p with
 | none=>exact he.mono (by omega)
 | some c =>
  have hc:LF c<=K1:=he.t.sz _ (nG hcf)
  have h1:=My hc hb.t (he.t.rem p) b.T.length
  rw[agO]at h1
  refine⟨h1,?_⟩
  have h2:=Ce e.D (c*b.D)
  have h3:=Cg c b.D
  have:=he.d
  have:=hb.d
  simp only
  omega
theorem HH {N K:Nat} {e:QE} (he:R2 N K e) (p:Nat) (h0:∀c,ef e.T p=some c->1-c≠0):R2 N (2*K+2) (il e p):=by
 unfold il
 cases hcf:ef e.T p with
 | none=>exact he.mono (by omega)
 | some c =>
  have hc:LF c<=K:=he.t.sz _ (nG hcf)
  have h1:=zE 1 c
  have h2:=PB
  have h3:=h0 c hcf
  refine⟨⟨?_,?_,?_⟩,?_⟩
  ·simp only
   rw[iD,List.pairwise_map]
   exact (E4 he.t.sorted p)
  ·intro t ht
   simp only[aeN]at ht
   obtain⟨u,hu,rfl⟩:=ht
   exact he.t.lt u (iS.1 hu).1
  ·intro t ht
   simp only[aeN]at ht
   obtain⟨u,hu,rfl⟩:=ht
   have:=he.t.sz u (iS.1 hu).1
   have:=VU (a:=u.2) h3
   simp only
   omega
  ·have:=he.d
   have:=VU (a:=e.D) h3
   simp only
   omega
theorem acX {N K1 K2:Nat} {e b:QE} (he:R2 N K1 e) (hb:R2 N K2 b) (hN:N<=2000) (hK:4*K1+3*K2+20<=eF) (p:Nat):dK (mkEq e) (p:Int) (mkEq b)=some (mkEq (Ac e p b),()):=by
 have hl:=he.t.len
 unfold dK
 rw[find_eq he.t.sorted (by omega),agi]
 simp only
 unfold Ac
 rcases wk (k:=p) he.t.sorted with⟨g1,g2⟩|⟨c,g1,g2⟩
 ·rw[g1];rfl
 ·rw[g1]
  simp only[Option.isSome_some,af8,afo,if_false]
  have hgT:e.T[(kI e.T p).length]? = some (p,c):=by
   have:(kI e.T p++(p,c)::zo e.T p)[(kI e.T p).length]? = some (p,c):=by simp
   rwa [<- g2]at this
  have hg:(e.T.map jF)[(kI e.T p).length]? = some (jF (p,c)):=by rw[aeL,hgT];rfl
  have hck:LF c<=K1:=he.t.sz (p,c) (nG g1)
  have hDe:=he.d
  have hDb:=hb.d
  have hbl:=hb.t.len
  have e0:(mkEq e).bA=e.T.map jF:=rfl
  have e1:(mkEq b).bA=b.T.map jF:=rfl
  have e2:(mkEq b).aX=bL b.D:=rfl
  have e3:(mkEq e).aX=bL e.D:=rfl
  have hd:fP (e.T.map jF) ((kI e.T p).length:Int) (IntKind.i64.wrap (((kI e.T p).length:Int)+1))=some ((jv e.T p).map jF):=by unfold fP;exact WM (by omega) g2
  rw[e0,bG hg,agi,hd,agi,e3,e2]
  have e4:(jF (p,c)).dW=bL c:=rfl
  rw[e4,EC (by omega),agi]
  have key:=fun hs hend=>yo (body:=eJ (mkEq b) (jF (p,c))) b.T (by omega) (fun i (s:Int×List Int×Int×List Int×List dH)=>s=((bL (e.D+c*b.D)).aJ.ah,(bL (e.D+c*b.D)).aJ.aa,(bL (e.D+c*b.D)).aL.ah,(bL (e.D+c*b.D)).aL.aa,(jx c (b.T.take i) (jv e.T p)).map jF))
   (fun s=>s=((bL (e.D+c*b.D)).aJ.ah,(bL (e.D+c*b.D)).aJ.aa,(bL (e.D+c*b.D)).aL.ah,(bL (e.D+c*b.D)).aL.aa,(jx c b.T (jv e.T p)).map jF)) (s0:=((bL (e.D+c*b.D)).aJ.ah,(bL (e.D+c*b.D)).aJ.aa,(bL (e.D+c*b.D)).aL.ah,(bL (e.D+c*b.D)).aL.aa,(jv e.T p).map jF)) rfl hs hend
  obtain⟨r,h1,rfl⟩:=key (by
   rintro i t _ ht rfl
   have hi:=bW ht
   have htm:=afg ht
   have htz:=hb.t.sz t htm
   have hsz:=My hck hb.t (he.t.rem p) i
   have hm:=Cg c t.2
   have hg2:(b.T.map jF)[i]? = some (jF t):=by rw[aeL,ht];rfl
   have hn:=VW
   refine⟨_,?_,rfl⟩
   simp only[eJ]
   rw[if_pos (by rw[e1];simp;omega),e1,bG hg2,agi,acF,agi]
   have e5:(jF t).dW=bL t.2:=rfl
   have e6:(jF t).l5=(t.1:Int):=rfl
   rw[e4,e5,EC (by omega),agi,Rat.zero_add,e6]
   have e7:az.mk (al.mk (aq.mk (bL (e.D+c*b.D)).aJ.ah (bL (e.D+c*b.D)).aJ.aa) (aq.mk (bL (e.D+c*b.D)).aL.ah (bL (e.D+c*b.D)).aL.aa)) ((jx c (b.T.take i) (jv e.T p)).map jF)=mkEq ⟨e.D+c*b.D,jx c (b.T.take i) (jv e.T p)⟩:=rfl
   rw[e7,acq (e:=⟨e.D+c*b.D,jx c (b.T.take i) (jv e.T p)⟩) hsz hN (by omega),agi,bX (by omega),UP c ht]
   rfl) (by
   rintro _ rfl
   refine⟨_,?_,rfl⟩
   simp only[eJ]
   rw[if_neg (by rw[e1];simp),agO])
  rw[h1,agi]
  rfl
theorem SD {T:List Tm} {k:Nat} (h:ef T k=none):∀t∈T,t.1≠k:=by
 induction T with
 | nil=>intro t ht;cases ht
 | cons u T ih =>
  rw[ef]at h
  split at h
  ·cases h
  ·rename_i hne
   intro t ht
   rcases aeV.1 ht with rfl|ht
   ·exact hne
   ·exact ih h t ht
theorem U0 {e:QE} (hs:iD e.T) {p:Nat} (h0:∀c,ef e.T p=some c->1-c≠0) (s:Rat) (x:Nat->Rat):(1-(ef e.T p).getD 0)*(s*(il e p).D+cG (il e p).T x)=s*e.D+cG e.T x-(ef e.T p).getD 0*x p:=by
 unfold il
 have h1:=vS hs p x
 cases hcf:ef e.T p with
 | none=>simp only[Option.getD_none];grind
 | some c =>
  have hc:=h0 c hcf
  rw[hcf]at h1
  simp only[Option.getD_some]at h1 ⊢
  rw[ZN]
  have h2:(1-c)*(e.D / (1-c))=e.D:=by rw[Rat.mul_comm];exact Rat.div_mul_cancel hc
  have h3:(1-c)*(cG (jv e.T p) x / (1-c))=cG (jv e.T p) x:=by rw[Rat.mul_comm];exact Rat.div_mul_cancel hc
  have h4:(1-c)*(s*(e.D / (1-c))+cG (jv e.T p) x / (1-c))=s*((1-c)*(e.D / (1-c)))+(1-c)*(cG (jv e.T p) x / (1-c)):=by grind
  rw[h4,h2,h3]
  grind
theorem Z4 {e b:QE} (hs:iD e.T) (p:Nat) (s:Rat) (x:Nat->Rat):s*(Ac e p b).D+cG (Ac e p b).T x=s*e.D+cG e.T x+(ef e.T p).getD 0*(s*b.D+cG b.T x-x p):=by
 unfold Ac
 have h1:=vS hs p x
 cases hcf:ef e.T p with
 | none=>simp only[Option.getD_none];grind
 | some c =>
  rw[hcf]at h1
  simp only[Option.getD_some]at h1 ⊢
  rw[Nt c x _ (E4 hs p)]
  grind
def fI (E0:Nat->QE):Nat->Nat->QE
 | 0,k=>E0 k
 | p+1,k=>if k<p then fI E0 p k else if k=p then il (fI E0 p p) p else Ac (fI E0 p k) p (il (fI E0 p p) p)
def Ku (K0:Nat):Nat->Nat
 | 0=>K0
 | p+1=>4*Ku K0 p+3
theorem Rn (K0:Nat):∀p,Ku K0 p+1=4 ^ p*(K0+1)
 | 0=>by simp[Ku]
 | p+1=>by
  have ih:=Rn K0 p
  simp only[Ku,Nat.pow_succ]
  rw[afK (4 ^ p) 4,Nat.mul_assoc,<- ih]
  omega
def aca (x:Nat->Rat) (p:Nat) (v:Rat):Nat->Rat:=fun j=>if j=p then v else x j
theorem Cw (E:Nat->QE) (s:Rat):∀(p:Nat),(∀k,k<p->∀t∈(E k).T,k<t.1)->∀z:Nat->Rat,∃x:Nat->Rat,(∀j,p<=j->x j=z j)∧(∀k,k<p->x k=s*(E k).D+cG (E k).T x)∧(s=0->(∀j,0<=z j)->(∀k,k<p->∀t∈(E k).T,0<=t.2)->∀j,0<=x j)
 | 0,_,z=>⟨z,fun _ _=>rfl,fun k hk=>by omega,fun _ h _=>h⟩
 | p+1,hp,z=>by
  obtain⟨x,h1,h2,h3⟩:=Cw E s p (fun k hk=>hp k (by omega)) (aca z p (s*(E p).D+cG (E p).T z))
  refine⟨x,fun j hj =>?_,fun k hk =>?_,fun hs hz hpos =>?_⟩
  ·rw[h1 j (by omega)];exact if_neg (by omega)
  ·by_cases hkp:k=p
   ·subst hkp
    rw[h1 k (aeO _),show aca z k (s*(E k).D+cG (E k).T z) k=s*(E k).D+cG (E k).T z from if_pos rfl]
    congr 1
    refine HE fun t ht =>?_
    have:=hp k (by omega) t ht
    rw[h1 t.1 (by omega)]
    exact (if_neg (by omega)).symm
   ·exact h2 k (by omega)
  ·refine h3 hs (fun j =>?_) fun k hk=>hpos k (by omega)
   unfold aca
   split
   ·have:=sD (x:=z) (hpos p (by omega)) fun t _=>hz t.1
    subst hs
    grind
   ·exact hz j
theorem abz {a b:Rat} (ha:0<=a) (hb:0<b):0<=a / b:=by
 have h1:a / b*b=a:=Rat.div_mul_cancel (by grind)
 by_cases h:0<=a / b
 ·exact h
 ·exfalso
  have h2:0 <= -(a / b)*b:=ahq (by grind) (by grind)
  have h3:a / b*b=0:=by grind
  rcases Rat.mul_eq_zero.1 h3 with h4|h4<;>grind
variable {N:Nat} {tk:List Tk} {r:Nat->Int}
structure rC (N:Nat) (tk:List Tk) (d:Nat->Rat) (K0:Nat) (E:Nat->QE) (p:Nat):Prop where
 sz:∀k,k<N->p<=k->R2 N (Ku K0 p) (E k)
 szd:∀k,k<p->R2 N (2*Ku K0 k+2) (E k)
 up:∀k,k<p->∀t∈(E k).T,k<t.1
 ge:∀k,k<N->p<=k->∀t∈(E k).T,p<=t.1
 pos:∀k,k<N->∀t∈(E k).T,0<=t.2
 sem:∀(s:Rat) (x:Nat->Rat),(∀q,q<p->x q=s*(E q).D+cG (E q).T x)->(∀k,k<p->x k=s*d k+mU tk x k)∧∀k,k<N->p<=k->s*(E k).D+cG (E k).T x=s*d k+mU tk x k
theorem H8 (hR:jI N tk) (hr:mO N tk r) (h0:∀p,p<N->0<=r p) {d:Nat->Rat} {K0:Nat} {E:Nat->QE} {p:Nat} (hE:rC N tk d K0 E p) (hp:p<N):∀c,ef (E p).T p=some c->c<1:=by
 intro c hc
 by_cases hlt:c<1
 ·exact hlt
 exfalso
 obtain⟨x,h1,h2,h3⟩:=Cw E 0 p hE.up (fun j=>if j=p then 1 else 0)
 have hx:=h3 rfl (fun j=>by split<;>grind) fun k hk=>hE.pos k (by omega)
 obtain⟨g1,g2⟩:=hE.sem 0 x h2
 have hxp:x p=1:=by rw[h1 p (aeO _),if_pos rfl]
 have hxq:∀j,p<j->x j=0:=fun j hj=>by rw[h1 j (by omega),if_neg (by omega)]
 have:=xL hR hr h0 (y:=x) (fun q _=>hx q) (fun q hq=>by
  rcases ahr q p with h|h|h
  ·have:=g1 q h;grind
  ·subst h
   have e1:=g2 q hq (aeO _)
   have e2:=vS (hE.sz q hq (aeO _)).t.sorted q x
   rw[hc,hxp]at e2
   have e3:0<=cG (jv (E q).T q) x:=sD (fun t ht=>hE.pos q hq t (iS.1 ht).1) fun t _=>hx t.1
   simp only[Option.getD_some]at e2
   grind
  ·have e1:=g2 q hq (by omega)
   have e3:0<=cG (E q).T x:=sD (hE.pos q hq) fun t _=>hx t.1
   have:=hxq q h
   grind) p hp
 grind
theorem UH (hR:jI N tk) (hr:mO N tk r) (h0:∀p,p<N->0<=r p) {d:Nat->Rat} {K0:Nat} {E0:Nat->QE} {p:Nat} (hE:rC N tk d K0 (fI E0 p) p) (hp:p<N):rC N tk d K0 (fI E0 (p+1)) (p+1):=by
 have hpiv:=H8 hR hr h0 hE hp
 generalize hEp:fI E0 p=E at *
 have hv:∀k,fI E0 (p+1) k=if k<p then E k else if k=p then il (E p) p else Ac (E k) p (il (E p) p):=fun k=>by rw[fI,hEp]
 have hv1:∀k,k<p->fI E0 (p+1) k=E k:=fun k hk=>by rw[hv,if_pos hk]
 have hv2:fI E0 (p+1) p=il (E p) p:=by rw[hv,if_neg (by omega),if_pos rfl]
 have hv3:∀k,p<k->fI E0 (p+1) k=Ac (E k) p (il (E p) p):=fun k hk=>by rw[hv,if_neg (by omega),if_neg (by omega)]
 have hne:∀c,ef (E p).T p=some c->1-c≠0:=fun c hc=>by have:=hpiv c hc;grind
 have hszp:=hE.sz p hp (aeO _)
 have hL:=HH hszp p hne
 have hup:∀t∈(il (E p) p).T,p<t.1:=by
  intro t ht
  unfold il at ht
  cases hcf:ef (E p).T p with
  | none =>
   rw[hcf]at ht
   have h1:=hE.ge p hp (aeO _) t ht
   have h2:=SD hcf t ht
   omega
  | some c =>
   rw[hcf]at ht
   simp only[aeN]at ht
   obtain⟨u,hu,rfl⟩:=ht
   have h1:=hE.ge p hp (aeO _) u (iS.1 hu).1
   have h2:=(iS.1 hu).2
   simp only
   omega
 have hlpos:∀t∈(il (E p) p).T,0<=t.2:=by
  intro t ht
  unfold il at ht
  cases hcf:ef (E p).T p with
  | none=>rw[hcf]at ht;exact hE.pos p hp t ht
  | some c =>
   rw[hcf]at ht
   simp only[aeN]at ht
   obtain⟨u,hu,rfl⟩:=ht
   have h1:=hE.pos p hp u (iS.1 hu).1
   have h2:=hpiv c hcf
   simp only
   have h3:0<1-c:=by grind
   exact abz h1 h3
 constructor
 ·intro k hk hpk
  rw[hv3 k (by omega)]
  have:=Z3 (hE.sz k hk (by omega)) hL p
  exact this.mono (by simp only[Ku];omega)
 ·intro k hk
  by_cases hkp:k=p
  ·subst hkp;rw[hv2];exact hL
  ·rw[hv1 k (by omega)];exact hE.szd k (by omega)
 ·intro k hk
  by_cases hkp:k=p
  ·subst hkp;rw[hv2];exact hup
  ·rw[hv1 k (by omega)];exact hE.up k (by omega)
 ·intro k hk hpk
  rw[hv3 k (by omega)]
  unfold Ac
  cases hcf:ef (E k).T p with
  | none =>
   intro t ht
   have h1:=hE.ge k hk (by omega) t ht
   have h2:=SD hcf t ht
   omega
  | some c =>
   refine xp c (R:=fun q=>p+1<=q) _ (fun t ht =>?_) hup
   have h1:=hE.ge k hk (by omega) t (iS.1 ht).1
   have h2:=(iS.1 ht).2
   omega
 ·intro k hk
  rcases ahr k p with h|h|h
  ·rw[hv1 k h];exact hE.pos k hk
  ·subst h;rw[hv2];exact hlpos
  ·rw[hv3 k h]
   unfold Ac
   cases hcf:ef (E k).T p with
   | none=>exact hE.pos k hk
   | some c=>exact Mz (hE.pos k hk _ (nG hcf)) _ (fun t ht=>hE.pos k hk t (iS.1 ht).1) hlpos
 ·intro s x hx
  have hxp:=hx p (by omega)
  rw[hv2]at hxp
  obtain⟨g1,g2⟩:=hE.sem s x fun q hq=>by have:=hx q (by omega);rwa [hv1 q hq]at this
  have hpe:x p=s*(E p).D+cG (E p).T x:=by
   have h1:=U0 hszp.t.sorted hne s x
   rw[<- hxp]at h1
   grind
  refine⟨fun k hk =>?_,fun k hk hpk =>?_⟩
  ·by_cases hkp:k=p
   ·subst hkp;rw[hpe,g2 k hp (aeO _)]
   ·exact g1 k (by omega)
  ·rw[hv3 k (by omega),Z4 (hE.sz k hk (by omega)).t.sorted,<- hxp,g2 k hk (by omega)]
   grind
theorem Mi (hR:jI N tk) (hr:mO N tk r) (h0:∀p,p<N->0<=r p) {d:Nat->Rat} {K0:Nat} {E0:Nat->QE} (hE:rC N tk d K0 E0 0):∀p,p<=N->rC N tk d K0 (fI E0 p) p
 | 0,_=>hE
 | p+1,h=>UH hR hr h0 (Mi hR hr h0 hE p (by omega)) (by omega)
end Go.Proofs.Ytchndpjlijbplaa.P
namespace Go.Proofs.Ytchndpjlijbplaa.P
open Go.RowKit
def KM:List Tm->(Nat->Rat)->Nat
 | [],_=>0
 | t::l,x=>LF t.2+LF (x t.1)+1+KM l x
theorem xF (a b:List Tm) (x:Nat->Rat):KM (a++b) x=KM a x+KM b x:=by
 induction a with
 | nil=>simp[KM]
 | cons t a ih=>simp only[List.cons_append,KM,ih];omega
theorem Yu (T:List Tm) (i:Nat) (x:Nat->Rat):KM (T.take i) x<=KM T x:=by
 have:=xF (T.take i) (T.drop i) x
 rw[agA]at this
 omega
theorem Nu {T:List Tm} {i:Nat} {t:Tm} (h:T[i]? = some t) (x:Nat->Rat):cG (T.take (i+1)) x=cG (T.take i) x+t.2*x t.1:=by
 obtain⟨hi,he⟩:=afh.1 h
 rw[ahi hi,nK,he]
 simp only[cG];grind
theorem PA (a:Rat) (x:Nat->Rat) {T:List Tm} : ∀i,i<=T.length->LF (a+cG (T.take i) x)<=LF a+KM (T.take i) x
 | 0,_=>by
  rw[agJ]
  simp only[cG,KM]
  rw[Rat.add_zero];exact aeO _
 | i+1,h=>by
  have ih:=PA a x (T:=T) i (by omega)
  have hg:T[i]? = some T[i]:=ae1 (by omega)
  rw[Nu hg,<- Rat.add_assoc,ahi (by omega),xF]
  have h1:=Ce (a+cG (T.take i) x) (T[i].2*x T[i].1)
  have h2:=Cg T[i].2 (x T[i].1)
  simp only[KM]
  omega
theorem XB:∀ {T:List Tm} {a N:Nat},iD T->(∀t∈T,a<=t.1∧t.1<N)->T.length<=N-a
 | [],_,_,_,_=>by simp
 | t::T,a,N,hs,h=>by
  obtain⟨h1,h2⟩:=agn.1 hs
  have ht:=h t (agd ..)
  have:=XB (a:=t.1+1) (N:=N) h2 fun u hu=>⟨h1 u hu,(h u (age _ hu)).2⟩
  rw[afe];omega
theorem Yt {K Q:Nat} {x:Nat->Rat} : ∀ {T:List Tm} {a N:Nat},iD T->(∀t∈T,a<=t.1∧t.1<N)->(∀t∈T,LF t.2<=K)->(∀j,a<=j->j<N->LF (x j)<=2 ^ (N-1-j)*Q)->KM T x+Q<=T.length*(K+1)+2 ^ (N-a)*Q
 | [],a,N,_,_,_,_=>by
  simp only[KM,List.length_nil,agB,afB]
  exact Nat.le_mul_of_pos_left _ (Nat.pow_pos (by decide))
 | t::T,a,N,hs,h,hk,hx=>by
  obtain⟨h1,h2⟩:=agn.1 hs
  have ht:=h t (agd ..)
  have ih:=Yt (K:=K) (Q:=Q) (x:=x) (T:=T) (a:=t.1+1) (N:=N) h2 (fun u hu=>⟨h1 u hu,(h u (age _ hu)).2⟩) (fun u hu=>hk u (age _ hu)) fun j hj hjN=>hx j (by omega) hjN
  have hkt:=hk t (agd ..)
  have hxt:=hx t.1 ht.1 ht.2
  simp only[KM,List.length_cons]
  rw[afJ]
  have e1:N-(t.1+1)=N-1-t.1:=by omega
  rw[e1]at ih
  have e2:2 ^ (N-t.1)=2 ^ (N-1-t.1)*2:=by rw[<- Nat.pow_succ];congr 1;omega
  have e3:2 ^ (N-t.1)*Q<=2 ^ (N-a)*Q:=afA _ (aht (by decide) (by omega))
  have e4:2 ^ (N-t.1)*Q=2 ^ (N-1-t.1)*Q+2 ^ (N-1-t.1)*Q:=by rw[e2,Nat.mul_assoc,afK 2 Q,<- Nat.mul_assoc,Nat.mul_two]
  omega
theorem I1:∀m:Nat,3*m<=4 ^ m
 | 0=>by decide
 | m+1=>by
  have:=I1 m
  rw[Nat.pow_succ]
  have:0<4 ^ m:=Nat.pow_pos (by decide)
  cases m with
  | zero=>decide
  | succ m=>omega
variable {N:Nat} {tk:List Tk} {r:Nat->Int}
theorem Yj {d:Nat->Rat} {K0:Nat} {E:Nat->QE} (hE:rC N tk d K0 E N) {x:Nat->Rat} (hx:∀k,k<N->x k=1*(E k).D+cG (E k).T x) :
  ∀k,k<N->LF (E k).D+KM (E k).T x+1<=2 ^ (N-1-k)*(4 ^ N*(K0+1))∧LF (x k)<=2 ^ (N-1-k)*(4 ^ N*(K0+1)):=by
 have key:∀m k,k+m=N-1->k<N->LF (E k).D+KM (E k).T x+1<=2 ^ (N-1-k)*(4 ^ N*(K0+1))∧LF (x k)<=2 ^ (N-1-k)*(4 ^ N*(K0+1)):=by
  intro m
  induction m using Nat.strongRecOn with
  | ind m ih =>
   intro k hkm hk
   have hz:=hE.szd k hk
   have hup:=hE.up k hk
   have hrng:∀t∈(E k).T,k+1<=t.1∧t.1<N:=fun t ht=>⟨hup t ht,hz.t.lt t ht⟩
   have h1:=Yt (K:=2*Ku K0 k+2) (Q:=4 ^ N*(K0+1)) (x:=x) hz.t.sorted hrng hz.t.sz fun j hj hjN=>(ih (N-1-j) (by omega) j (by omega) hjN).2
   have h2:=XB hz.t.sorted hrng
   have h3:=hz.d
   have h4:=Rn K0 k
   have h5:(N-k)*(2*Ku K0 k+3)<=4 ^ N*(K0+1):=by
    have g1:(N-k)*(2*Ku K0 k+3)<=(N-k)*(3*(4 ^ k*(K0+1))):=Nat.mul_le_mul_left _ (by
     have:0<4 ^ k*(K0+1):=Nat.mul_pos (Nat.pow_pos (by decide)) (by omega)
     omega)
    have g2:(N-k)*(3*(4 ^ k*(K0+1)))=3*(N-k)*(4 ^ k*(K0+1)):=by rw[afK 3 (N-k),Nat.mul_assoc]
    have g3:3*(N-k)*(4 ^ k*(K0+1))<=4 ^ (N-k)*(4 ^ k*(K0+1)):=afA _ (I1 _)
    have g4:4 ^ (N-k)*(4 ^ k*(K0+1))=4 ^ N*(K0+1):=by rw[<- Nat.mul_assoc,<- Nat.pow_add];congr 2;omega
    omega
   have h6:(E k).T.length*(2*Ku K0 k+3)<=(N-1-k)*(2*Ku K0 k+3):=afA _ (by omega)
   have h7:(N-k)*(2*Ku K0 k+3)=(N-1-k)*(2*Ku K0 k+3)+(2*Ku K0 k+3):=by
    rw[<- afJ];congr 1;omega
   have e1:N-(k+1)=N-1-k:=by omega
   rw[e1]at h1
   have h8:=PA (E k).D x (T:=(E k).T) (E k).T.length (aeO _)
   rw[agO]at h8
   have e2:x k=(E k).D+cG (E k).T x:=by rw[hx k hk];grind
   rw[e2]
   have e3:2*Ku K0 k+2+1=2*Ku K0 k+3:=rfl
   rw[e3]at h1
   omega
 intro k hk
 exact key (N-1-k) k (by omega) hk
def jD (tk:List Tk) (p:Nat):List Tm:=(tk.filter fun t=>decide (t.2.1=p)).map fun t=>(t.1,t.2.2)
theorem z6 {p:Nat} {u:Tm} : u∈jD tk p↔∃t∈tk,t.2.1=p∧u=(t.1,t.2.2):=by
 unfold jD
 simp only[aeN,agm,decide_eq_true_eq]
 constructor
 ·rintro⟨t,⟨h1,h2⟩,rfl⟩;exact⟨t,h1,h2,rfl⟩
 ·rintro⟨t,h1,h2,rfl⟩;exact⟨t,⟨h1,h2⟩,rfl⟩
theorem RB {i:Nat} {t:Tk} (h:tk[i]? = some t) (p:Nat):jD (tk.take (i+1)) p=if t.2.1=p then jD (tk.take i) p++[(t.1,t.2.2)] else jD (tk.take i) p:=by
 obtain⟨hi,he⟩:=afh.1 h
 unfold jD
 rw[ahi hi,ahl,aga,he]
 by_cases hc:t.2.1=p
 ·rw[if_pos hc,ahm (by simpa using hc)];rfl
 ·rw[if_neg hc,ahn (by simpa using hc)];simp
theorem HF (x:Nat->Rat) (p:Nat):∀l:List Tk,cG (jD l p) x=mU l x p
 | []=>rfl
 | t::l=>by
  have ih:=HF x p l
  unfold jD at ih ⊢
  simp only[mU]
  by_cases hc:t.2.1=p
  ·rw[if_pos hc,ahm (by simpa using hc),aeU,cG,ih]
  ·rw[if_neg hc,ahn (by simpa using hc),ih];grind
theorem Rm (hs:tk.Pairwise Zf) (p:Nat):iD (jD tk p):=by
 unfold jD
 rw[iD,List.pairwise_map]
 refine (hs.filter _).imp_of_mem fun {a b} ha hb h =>?_
 have h1:a.2.1=p:=by simpa using (agm.1 ha).2
 have h2:b.2.1=p:=by simpa using (agm.1 hb).2
 unfold Zf at h
 simp only
 omega
theorem VA (p:Nat):(jD tk p).length<=tk.length:=by
 unfold jD
 rw[afi]
 exact ahk ..
def SV (d:Nat->Rat) (tk:List Tk) (p:Nat):QE:=⟨d p,jD tk p⟩
def gw (N:Nat) (x:Nat->Rat):List al:=(List.range N).map fun p=>bL (x p)
theorem jk (x:Nat->Rat):(gw N x).length=N:=Ag _
theorem oS (x:Nat->Rat) {p:Nat} (h:p<N):(gw N x)[p]? = some (bL (x p)):=bK _ h
abbrev zF:al:=al.mk (aq.mk 0 []) (aq.mk 0 [])
theorem Jz (hR:jI N tk) (d:Nat->Rat):eD (lN N tk) (gw N d)=some ((List.range N).map fun p=>mkEq (SV d tk p)):=by
 have hN:=hR.ports
 have hlen:=hR.takes
 unfold eD lN
 simp only
 rw[Eb _ (by omega) hN,agi]
 have k1:=fun hs he=>yo (body:=fZ (gw N d) (List.replicate N (az.mk zF []))) (List.range N) (by simp;omega) (fun i (l:List az)=>l=(List.range N).map fun p=>az.mk (if p<i then bL (d p) else zF) []) (fun l=>l=(List.range N).map fun p=>mkEq (SV d (tk.take 0) p)) (s0:=List.replicate N (az.mk zF []))
  (eM (by simp) fun j hj=>by rw[ahp,if_pos hj,if_neg (by omega)]) hs he
 obtain⟨r1,h1,rfl⟩:=k1 (by
  rintro i x _ hx rfl
  have hi:i<N:=by have:=bW hx;simpa using this
  refine⟨_,?_,rfl⟩
  simp only[fZ]
  rw[if_pos (by simp;omega),bG (oS d hi),agi,bG (bK _ hi),agi,bX (by omega),afM,fQ]
  congr 3
  refine congrArg (fun f=>(List.range N).map f) (funext fun p =>?_)
  by_cases h:p=i
  ·subst h;rw[if_pos rfl,if_pos (show p<p+1 by omega)]
  ·rw[if_neg h]
   by_cases h3:p<i
   ·rw[if_pos h3,if_pos (show p<i+1 by omega)]
   ·rw[if_neg h3,if_neg (show ¬p<i+1 by omega)]) (by
  rintro _ rfl
  refine⟨(List.range N).map fun p=>az.mk (if p<(List.range N).length then bL (d p) else zF) [],?_,?_⟩
  ·simp only[fZ];rw[if_neg (by simp)]
  ·refine eM (by simp) fun j hj =>?_
   rw[bK _ hj,afj,if_pos hj,agJ];rfl)
 rw[h1,agi]
 have k2:=fun hs he=>yo (body:=gf (de.mk (N:Int) (tk.map uH))) tk (by omega) (fun i (l:List az)=>l=(List.range N).map fun p=>mkEq (SV d (tk.take i) p)) (fun l=>l=(List.range N).map fun p=>mkEq (SV d tk p)) (s0:=(List.range N).map fun p=>mkEq (SV d (tk.take 0) p)) rfl hs he
 obtain⟨r2,h2,rfl⟩:=k2 (by
  rintro i t _ ht rfl
  have hi:=bW ht
  have hto:=(hR.rng t (afg ht)).2
  have hg:(tk.map uH)[i]? = some (uH t):=by rw[aeL,ht];rfl
  have hbl:=VA (tk:=tk.take i) t.2.1
  rw[ae7]at hbl
  refine⟨_,?_,rfl⟩
  simp only[gf]
  have happ:iB 72 (mkEq (SV d (tk.take i) t.2.1)).bA [dH.mk (uH t).dq (uH t).bR]=some ((jD (tk.take i) t.2.1++[(t.1,t.2.2)]).map jF):=by
   unfold iB mkEq SV
   have:(17592186044416:Nat)<=maxLen:=by decide
   rw[if_pos ⟨by simp;omega,by simp;omega⟩,aga];rfl
  have e1:(uH t).lJ=(t.2.1:Int):=rfl
  rw[if_pos (by simp;omega),bG hg,agi,e1,bG (bK _ hto),agi,happ,agi,bX (by omega),afM,fQ]
  congr 3
  refine congrArg (fun f=>(List.range N).map f) (funext fun p =>?_)
  unfold SV
  rw[RB ht]
  by_cases h:p=t.2.1
  ·subst h;rw[if_pos rfl,if_pos rfl];rfl
  ·rw[if_neg h,if_neg (fun e=>h e.symm)]) (by
  rintro _ rfl
  refine⟨_,?_,rfl⟩
  simp only[gf]
  rw[if_neg (by simp),agO])
 rw[h2,agi]
theorem elim0 (hR:jI N tk) {K0:Nat} {d:Nat->Rat} (hd:∀p,p<N->LF (d p)<=K0) (hs:∀t∈tk,LF t.2.2<=K0):rC N tk d K0 (SV d tk) 0 where
 sz k hk _:=⟨⟨Rm hR.sorted k,fun t ht=>by obtain⟨u,h1,h2,rfl⟩:=z6.1 ht;exact (hR.rng u h1).1,fun t ht=>by obtain⟨u,h1,h2,rfl⟩:=z6.1 ht;exact hs u h1⟩,hd k hk⟩
 szd k hk:=by omega
 up k hk:=by omega
 ge k hk _ t _:=aeP _
 pos k hk t ht:=by obtain⟨u,h1,h2,rfl⟩:=z6.1 ht;exact hR.pos u h1
 sem s x _:=⟨fun k hk=>by omega,fun k _ _=>by unfold SV;rw[HF]⟩
def KL (E0:Nat->QE) (N p:Nat):List (Bool×az):=(List.range N).map fun k=>(decide (k<p),mkEq (fI E0 p k))
def wC (E:Nat->QE) (N p:Nat) (L:QE) (k:Nat):List (Bool×az):=(List.range N).map fun j=>if j<p then (true,mkEq (E j)) else if j=p then (true,mkEq L) else if j<k then (false,mkEq (Ac (E j) p L)) else (false,mkEq (E j))
theorem Qc {E:Nat->QE} {L:QE} {p K:Nat} (hN:N<=2000) (hp:p<N) (hE:∀k,k<N->p<=k->R2 N K (E k)) (hL:R2 N (2*K+2) L) (hK:10*K+50<=eF) :
  aO (lG (p:Int)) (((p+1:Nat):Int),wC E N p L (p+1))=some (wC E N p L N):=by
 have key:=fun hs=>cP (body:=lG (p:Int)) (fun i (s:Int×List (Bool×az))=>s=(((p+1+i:Nat):Int),wC E N p L (p+1+i))) (N-(p+1)) (fun l=>l=wC E N p L N) (s:=(((p+1:Nat):Int),wC E N p L (p+1))) rfl (ku (by omega)) hs
 refine (key ?_).elim fun x ⟨h1,hx⟩=>hx ▸ h1
 rintro i _ hi rfl
 have hlen:(wC E N p L (p+1+i)).length=N:=Ag _
 by_cases hc:p+1+i<N
 ·refine .inl ⟨by omega,_,?_,rfl⟩
  simp only[lG]
  have g1:(wC E N p L (p+1+i))[p+1+i]? = some (false,mkEq (E (p+1+i))):=by
   unfold wC
   rw[bK _ hc,if_neg (by omega),if_neg (by omega),if_neg (by omega)]
  have g2:(wC E N p L (p+1+i))[p]? = some (true,mkEq L):=by
   unfold wC
   rw[bK _ hp,if_neg (by omega),if_pos rfl]
  have e1:O4 (true,mkEq L)=some (mkEq L):=rfl
  have e2:OC (false,mkEq (E (p+1+i)))=some (mkEq (E (p+1+i))):=rfl
  rw[if_pos (by rw[hlen];simp;omega),bG g1,agi,bG g2,agi,e1,agi,e2,agi,acX (hE _ hc (by omega)) hL hN (by omega),agi,bX (by omega),afM]
  refine congrArg some (congrArg Sum.inl (Prod.ext (by simp only;omega) ?_))
  simp only
  unfold wC
  rw[fQ]
  refine congrArg (fun f=>(List.range N).map f) (funext fun j =>?_)
  by_cases h:j=p+1+i
  ·subst h
   rw[if_pos rfl,if_neg (by omega),if_neg (by omega),if_pos (by omega)]
  ·rw[if_neg h]
   by_cases h1:j<p
   ·rw[if_pos h1,if_pos h1]
   ·rw[if_neg h1,if_neg h1]
    by_cases h2:j=p
    ·rw[if_pos h2,if_pos h2]
    ·rw[if_neg h2,if_neg h2]
     by_cases h3:j<p+1+i
     ·rw[if_pos h3,if_pos (by omega)]
     ·rw[if_neg h3,if_neg (by omega)]
 ·refine .inr ⟨wC E N p L (p+1+i),?_,?_⟩
  ·simp only[lG]
   rw[if_neg (by rw[hlen];simp;omega)]
  ·congr 1;omega
theorem UG {E0:Nat->QE} {K0:Nat} {d:Nat->Rat} (hN:N<=2000) (hE:∀p,p<=N->rC N tk d K0 (fI E0 p) p) (hpiv:∀p,p<N->∀c,ef (fI E0 p p).T p=some c->c<1) (hK:∀p,p<N->10*Ku K0 p+50<=eF) {r6:List az} (h6:r6.length=N) :
  aO (jX r6) ((0:Int),KL E0 N 0)=some (KL E0 N N):=by
 have key:=fun hs=>cP (body:=jX r6) (fun i (s:Int×List (Bool×az))=>s=((i:Int),KL E0 N i)) N (fun l=>l=KL E0 N N) (s:=((0:Int),KL E0 N 0)) rfl (ku (by omega)) hs
 refine (key ?_).elim fun x ⟨h1,hx⟩=>hx ▸ h1
 rintro p _ hp rfl
 by_cases hc:p<N
 ·refine .inl ⟨hc,_,?_,rfl⟩
  have hEp:=hE p (by omega)
  have hne:∀c,ef (fI E0 p p).T p=some c->1-c≠0:=fun c h=>by have:=hpiv p hc c h;grind
  have hz:=hEp.sz p hc (aeO _)
  have hKp:=hK p hc
  have hL:=HH hz p hne
  simp only[jX]
  have g1:(KL E0 N p)[p]? = some (false,mkEq (fI E0 p p)):=by
   unfold KL
   rw[bK _ hc,decide_eq_false (by omega)]
  have e2:OC (false,mkEq (fI E0 p p))=some (mkEq (fI E0 p p)):=rfl
  have e3:(KL E0 N p).set p (true,mkEq (il (fI E0 p p) p))=wC (fI E0 p) N p (il (fI E0 p p) p) (p+1):=by
   unfold KL wC
   rw[fQ]
   refine congrArg (fun f=>(List.range N).map f) (funext fun j =>?_)
   rcases ahr j p with h|h|h
   ·rw[if_neg (by omega),if_pos h,decide_eq_true h]
   ·rw[if_pos h,if_neg (by omega),if_pos h]
   ·rw[if_neg (by omega),if_neg (by omega),if_neg (by omega),if_neg (by omega),decide_eq_false (by omega)]
  have e4:wC (fI E0 p) N p (il (fI E0 p p) p) N=KL E0 N (p+1):=by
   unfold KL wC
   refine agc fun j hj =>?_
   have hjN:=agq.1 hj
   rw[fI]
   rcases ahr j p with h|h|h
   ·rw[if_pos h,if_pos h,decide_eq_true (by omega)]
   ·rw[if_neg (by omega),if_pos h,if_neg (by omega),if_pos h,decide_eq_true (by omega)]
   ·rw[if_neg (by omega),if_neg (by omega),if_pos hjN,if_neg (by omega),if_neg (by omega),decide_eq_false (by omega)]
  rw[if_pos (by simp;omega),bG g1,agi,e2,agi,ZP hz.t hz.d hN (by omega) hne,agi,bX (by omega),afM,e3,Qc hN hc (fun k hk hpk=>hEp.sz k hk hpk) hL hKp,agi,e4]
 ·have:p=N:=by omega
  subst this
  refine .inr ⟨_,?_,rfl⟩
  simp only[jX]
  rw[if_neg (by simp;omega)]
def Ab (x:Nat->Rat) (N i:Nat):List al:=(List.range N).map fun j=>if N<=j+i then bL (x j) else zF
theorem PT {E0:Nat->QE} {K0:Nat} {d x:Nat->Rat} (hN:N<=2000) (hE:rC N tk d K0 (fI E0 N) N) (hx:∀k,k<N->x k=1*(fI E0 N k).D+cG (fI E0 N k).T x) (hsz:2*(2 ^ N*(4 ^ N*(K0+1)))+100<=eF) :
  aO (jY (KL E0 N N)) ((N:Int)-1,Ab x N 0)=some (gw N x):=by
 have hs:=Yj hE hx
 have key:=fun hs=>cP (body:=jY (KL E0 N N)) (fun i (s:Int×List al)=>s=((N:Int)-1-i,Ab x N i)) N (fun l=>l=gw N x) (s:=((N:Int)-1,Ab x N 0)) (by simp) (ku (by omega)) hs
 refine (key ?_).elim fun x ⟨h1,hx⟩=>hx ▸ h1
 rintro i _ hi rfl
 by_cases hc:i<N
 ·refine .inl ⟨hc,_,?_,rfl⟩
  obtain⟨p,hp⟩:∃p,p+i+1=N:=⟨N-1-i,by omega⟩
  have hpN:p<N:=by omega
  have e0:(N:Int)-1-(i:Int)=(p:Int):=by omega
  obtain⟨hs1,hs2⟩:=hs p hpN
  have hz:=hE.szd p hpN
  have hup:=hE.up p hpN
  have hle:2 ^ (N-1-p)*(4 ^ N*(K0+1))<=2 ^ N*(4 ^ N*(K0+1)):=afA _ (aht (by decide) (by omega))
  have hxp:=hx p hpN
  generalize hEp:fI E0 N p=e at *
  simp only[jY]
  have g1:(KL E0 N N)[p]? = some (true,mkEq e):=by
   unfold KL
   rw[bK _ hpN,decide_eq_true hpN,hEp]
  have e1:O4 (true,mkEq e)=some (mkEq e):=rfl
  have e2:(mkEq e).aX=bL e.D:=rfl
  have e3:(mkEq e).bA=e.T.map jF:=rfl
  have hn:=VW
  rw[e0,if_pos (by simp),bG g1,agi,e1,agi,acF,agi,e2,EC (by omega),agi]
  have e4:e.D+0*0=e.D:=by grind
  rw[e4]
  have htl:=hz.t.len
  have k7:=fun hst hend=>yo (body:=nU (Ab x N i) (mkEq e)) e.T (by omega) (fun j (s:Int×List Int×Int×List Int)=>s=((bL (e.D+cG (e.T.take j) x)).aJ.ah,(bL (e.D+cG (e.T.take j) x)).aJ.aa,(bL (e.D+cG (e.T.take j) x)).aL.ah,(bL (e.D+cG (e.T.take j) x)).aL.aa))
   (fun s=>s=((bL (x p)).aJ.ah,(bL (x p)).aJ.aa,(bL (x p)).aL.ah,(bL (x p)).aL.aa)) (s0:=((bL e.D).aJ.ah,(bL e.D).aJ.aa,(bL e.D).aL.ah,(bL e.D).aL.aa)) (by rw[agJ,cG,Rat.add_zero]) hst hend
  obtain⟨r7,h7,rfl⟩:=k7 (by
   rintro j t _ ht rfl
   have hj:=bW ht
   have htm:=afg ht
   have hlt:=hz.t.lt t htm
   have hpt:=hup t htm
   have hg:(e.T.map jF)[j]? = some (jF t):=by rw[aeL,ht];rfl
   have hgo:(Ab x N i)[t.1]? = some (bL (x t.1)):=by
    unfold Ab
    rw[bK _ hlt,if_pos (by omega)]
   have hLl:=PA e.D x (T:=e.T) j (by omega)
   have hszt:=Yu e.T j x
   have hst2:LF t.2+LF (x t.1)+1<=KM e.T x:=by
    have:=xF (e.T.take j) (e.T.drop j) x
    rw[agA,agI hj]at this
    simp only[KM]at this
    have he:e.T[j]=t:=(afh.1 ht).2
    rw[he]at this
    omega
   refine⟨_,?_,rfl⟩
   simp only[nU]
   have e5:(jF t).dW=bL t.2:=rfl
   have e6:(jF t).l5=(t.1:Int):=rfl
   have e7:al.mk (aq.mk (bL (e.D+cG (e.T.take j) x)).aJ.ah (bL (e.D+cG (e.T.take j) x)).aJ.aa) (aq.mk (bL (e.D+cG (e.T.take j) x)).aL.ah (bL (e.D+cG (e.T.take j) x)).aL.aa)=bL (e.D+cG (e.T.take j) x):=rfl
   rw[if_pos (by rw[e3];simp;omega),e3,bG hg,agi,e6,bG hgo,agi,e5,e7,EC (by omega),agi,bX (by omega),Nu ht,<- Rat.add_assoc]) (by
   rintro _ rfl
   refine⟨((bL (e.D+cG (e.T.take e.T.length) x)).aJ.ah,(bL (e.D+cG (e.T.take e.T.length) x)).aJ.aa,(bL (e.D+cG (e.T.take e.T.length) x)).aL.ah,(bL (e.D+cG (e.T.take e.T.length) x)).aL.aa),?_,?_⟩
   ·simp only[nU];rw[if_neg (by rw[e3];simp)]
   ·have:e.D+cG (e.T.take e.T.length) x=x p:=by rw[agO,hxp];grind
    rw[this])
  rw[h7,agi]
  have hgp:(Ab x N i)[p]? = some zF:=by
   unfold Ab
   rw[bK _ hpN,if_neg (by omega)]
  simp only
  rw[bG hgp,agi,afM]
  have hw:IntKind.i64.wrap ((p:Int)-1)=(N:Int)-1-((i+1:Nat):Int):=by rw[wrap64 (by omega) (by omega)];omega
  rw[hw]
  refine congrArg some (congrArg Sum.inl (congrArg (Prod.mk _) ?_))
  show (Ab x N i).set p (bL (x p))=Ab x N (i+1)
  unfold Ab
  rw[fQ]
  refine congrArg (fun f=>(List.range N).map f) (funext fun j =>?_)
  by_cases h:j=p
  ·subst h;rw[if_pos rfl,if_pos (by omega)]
  ·rw[if_neg h]
   by_cases h1:N<=j+i
   ·rw[if_pos h1,if_pos (by omega)]
   ·rw[if_neg h1,if_neg (by omega)]
 ·have:i=N:=by omega
  subst this
  refine .inr ⟨_,?_,rfl⟩
  simp only[jY]
  rw[if_neg (by simp;omega)]
  congr 2
  unfold Ab gw
  exact agc fun j _=>if_pos (by omega)
end Go.Proofs.Ytchndpjlijbplaa.P
namespace Go.Proofs.Ytchndpjlijbplaa.P
open Go.RowKit
theorem PO {l:List al} (n:Int) (hl:l.length<=17592186044416) (hf:∀f∈l,Zj f):gV l n=some (decide ((l.length:Int)=n)&&l.all okF):=by
 unfold gV
 by_cases hn:(l.length:Int)=n
 rotate_left
 ·rw[if_neg (by simpa using hn),decide_eq_false hn];rfl
 rw[if_pos (by simpa using hn),decide_eq_true hn,af9]
 unfold bx bN
 rw[y9 l (fun i x=>if okF x=true then none else some (i:Int)) (by omega) (fun i x hx =>?_) (by simp only[cp];rw[if_neg (by simp)])]
 ·rw[agi]
  cases hfs:fl (fun i x=>if okF x=true then none else some (i:Int)) 0 l with
  | none =>
   simp only
   rw[agi,decide_eq_false (by decide),agi]
   have:l.all okF=true:=aeZ.2 fun x hx=>by
    obtain⟨j,hj⟩:=afa hx
    have:=gK.1 hfs j x hj
    by_cases h:okF x=true
    ·exact h
    ·rw[if_neg h]at this;cases this
   rw[this];rfl
  | some r =>
   obtain⟨j,x,h1,h2,_⟩:=iG hfs
   by_cases h:okF x=true
   ·rw[if_pos h]at h2;cases h2
   ·rw[if_neg h]at h2
    cases h2
    simp only
    rw[agi,decide_eq_true (by omega),agi]
    have:l.all okF=false:=by
     cases hall:l.all okF with
     | false=>rfl
     | true=>exact absurd (aeZ.1 hall x (afg h1)) h
    rw[this];rfl
 ·have hi:=bW hx
  simp only[cp,gG]
  rw[if_pos (by simp;omega),bG hx,agi,Cp (hf x (afg hx)),agi,agi]
  cases okF x with
  | true=>rw[bX (by omega)];rfl
  | false=>rfl
theorem XD {l:List al} {N:Nat} (hl:l.length=N) (h:l.all okF=true):∃d:Nat->Rat,l=gw N d:=by
 obtain⟨qs,hq,_⟩:=xt (mk:=bL) (R:=fun _=>True) (l:=l) fun x hx=>by
  obtain⟨q,hq⟩:=B2.1 (aeZ.1 h x hx)
  exact⟨q,hq,trivial⟩
 refine⟨fun p=>qs.getD p 0,?_⟩
 subst hq
 rw[afi]at hl
 refine eM (by simpa using hl) fun j hj =>?_
 have e:(fun p=>qs.getD p 0) j=qs[j]'(by omega):=by
  show qs.getD j 0=_
  rw[afr,ae1 (by omega)];rfl
 rw[aeL,ae1 (by omega),e]
 rfl
theorem UY (N:Nat) (d:Nat->Rat):(gw N d).all okF=true:=aeZ.2 fun x hx=>by
 unfold gw at hx
 obtain⟨p,_,rfl⟩:=aeN.1 hx
 exact QW _
theorem XC {N K:Nat} {d:Nat->Rat} (h:∀f∈gw N d,f.aJ.aa.length<=K∧f.aL.aa.length<=K):∀p,p<N->LF (d p)<=K:=fun p hp=>by
 have:=h _ (afg (oS d hp))
 exact BV this.1 this.2
def PI (n:de) (l:List al):Prop:=∃N tk d,n=lN N tk∧jI N tk∧l=gw N d
abbrev SzN (n:de) (K:Nat):Prop:=∀t∈n.aw,t.bR.aJ.aa.length<=K∧t.bR.aL.aa.length<=K
abbrev SzL (l:List al) (K:Nat):Prop:=∀f∈l,f.aJ.aa.length<=K∧f.aL.aa.length<=K
theorem abn {N K:Nat} {tk:List Tk} (h:∀t∈tk,LF t.2.2<=K):SzN (lN N tk) K:=fun t ht=>by
 simp only[lN,aeN]at ht
 obtain⟨u,hu,rfl⟩:=ht
 exact BY (h u hu)
theorem abQ {N K:Nat} {tk:List Tk} (h:SzN (lN N tk) K):∀t∈tk,LF t.2.2<=K:=fun t ht=>by
 have:=h (uH t) (by simp only[lN];exact List.mem_map_of_mem ht)
 exact BV this.1 this.2
theorem Ff {N:Nat} {tk:List Tk} {r:Nat->Int} (hr:mO N tk r) (h:oh N r=[]):∀p,p<N->0<=r p:=by
 intro p hp
 have h1:=hr.ge p hp
 have h2:r p ≠ -1:=fun e=>by
  have:p∈oh N r:=agm.2 ⟨agq.2 hp,by simpa using e⟩
  rw[h]at this;cases this
 omega
theorem KR {n : de} {l : List al} {K M : Nat} (hK : K <= 1000000) (hn : SzN n K) (hl : SzL l K) (hlen : l.length <= 17592186044416) (hM : n.aG <= (M : Int) ∨ 2000 < n.aG) (hS : 2 * (2 ^ M * (4 ^ M * (K + 1))) + 100 <= eF) :
    (¬ PI n l ∧ iA n l = some ([], 1)) ∨
    ∃ N tk d r, n = lN N tk ∧ jI N tk ∧ l = gw N d ∧ N <= M ∧ (∀ t ∈ tk, LF t.2.2 <= K) ∧ (∀ p, p < N -> LF (d p) <= K) ∧ kc n = some ((List.range N).map r) ∧ mO N tk r ∧
      ((oh N r ≠ [] ∧ iA n l = some ([], 24)) ∨
       (oh N r = [] ∧ ∃ x, Ul N tk d x ∧ iA n l = some (gw N x, 0) ∧ ∀ p, p < N -> LF (x p) <= 2 ^ (N - 1 - p) * (4 ^ N * (K + 1)))) := by
  have hKb : K <= rM := aeQ hK (by unfold rM; omega)
  obtain ⟨b, hb1, hb2⟩ := Iu hK hn
  have ham := PO n.aG hlen fun f hf => ⟨aeQ (hl f hf).1 hKb, aeQ (hl f hf).2 hKb⟩
  have hbad : ¬ PI n l -> iA n l = some ([], 1) := by
    intro hv
    unfold iA
    rw [hb1, agi, ham, agi]
    cases b with
    | false => simp
    | true =>
      obtain ⟨N, tk, rfl, hR⟩ := hb2.1 rfl
      have : (decide ((l.length : Int) = (lN N tk).aG) && l.all okF) = false := by
        by_cases h1 : (l.length : Int) = (lN N tk).aG
        · cases h2 : l.all okF with
          | false => rw [Bool.and_false]
          | true =>
            have h3 : l.length = N := by simp only [lN] at h1; omega
            obtain ⟨d, hd⟩ := XD h3 h2
            exact absurd ⟨N, tk, d, rfl, hR, hd⟩ hv
        · rw [decide_eq_false h1, agL]
      rw [this]; simp
  by_cases hv : PI n l
  rotate_left
  · exact .inl ⟨hv, hbad hv⟩
  obtain ⟨N, tk, d, rfl, hR, rfl⟩ := hv
  obtain rfl : b = true := hb2.2 ⟨N, tk, rfl, hR⟩
  have hN := hR.ports
  have hNM : N <= M := by simp only [lN] at hM; omega
  have hs := abQ hn
  have hd := XC hl
  obtain ⟨r, hr1, hr2⟩ := X6 hR hK hs
  have htr := RE hN hr1
  refine .inr ⟨N, tk, d, r, rfl, hR, rfl, hNM, hs, hd, hr1, hr2, ?_⟩
  have hpre : ∀ (q : List Int), iI (lN N tk) = some q -> iA (lN N tk) (gw N d) = if decide ((q.length : Int) > 0) = true then some ([], 24) else
      (eD (lN N tk) (gw N d)).bind fun r6 =>
      (aO (jX r6) (0, (Hl r6))).bind fun l32bx =>
      (B1 64 (lN N tk).aG (lN N tk).aG (al.mk (aq.mk 0 ([])) (aq.mk 0 ([])))).bind fun x58 =>
      (aO (jY l32bx) (IntKind.i64.wrap (((l32bx).length : Int) - 1), x58)).bind fun l9ex =>
      some (l9ex, 0) := by
    intro q hq
    unfold iA
    rw [hb1, agi, ham, agi, hq]
    rw [decide_eq_true (show ((gw N d).length : Int) = (lN N tk).aG by rw [jk]; rfl), UY]
    simp only [af8, afo, if_false, Bool.and_self, Option.bind_some]
  rw [hpre _ htr]
  by_cases ht : oh N r = []
  rotate_left
  · refine .inl ⟨ht, ?_⟩
    have : 0 < (oh N r).length := agC.2 ht
    rw [if_pos (by rw [nN]; simp; omega)]
  refine .inr ⟨ht, ?_⟩
  have h0 := Ff hr2 ht
  rw [if_neg (by rw [nN, ht]; simp)]
  have hE := Mi hR hr2 h0 (elim0 hR hd hs)
  have hpow : 2 ^ N * (4 ^ N * (K + 1)) <= 2 ^ M * (4 ^ M * (K + 1)) := ahj (aht (by decide) hNM) (afA _ (aht (by decide) hNM))
  obtain ⟨x, _, hx, _⟩ := Cw (fI (SV d tk) N) 1 N (hE N (aeO _)).up (fun _ => 0)
  have hsem := ((hE N (aeO _)).sem 1 x hx).1
  have hsz := Yj (hE N (aeO _)) hx
  refine ⟨x, fun p hp => by have := hsem p hp; grind, ?_, fun p hp => (hsz p hp).2⟩
  rw [Jz hR, agi]
  have e1 : Hl ((List.range N).map fun p => mkEq (SV d tk p)) = KL (SV d tk) N 0 := by
    unfold Hl KL
    rw [List.map_map]
    exact agc fun p _ => by simp [fI]
  have hKs : ∀ p, p < N -> 10 * Ku K p + 50 <= eF := fun p hp => by
    have h1 := Rn K p
    have h2 : 4 ^ p * (K + 1) * 4 <= 4 ^ N * (K + 1) := by
      rw [Nat.mul_right_comm, <- Nat.pow_succ]
      exact afA _ (aht (by decide) (by omega))
    have h3 : 2 * (4 ^ N * (K + 1)) <= 2 ^ N * (4 ^ N * (K + 1)) := afA _ (by
      have : 2 ^ 1 <= 2 ^ N := aht (by decide) (by omega)
      omega)
    omega
  rw [e1, UG hN hE (fun p hp => H8 hR hr2 h0 (hE p (by omega)) hp) hKs (by simp), agi]
  have e2 : (lN N tk).aG = (N : Int) := rfl
  have e3 : (KL (SV d tk) N N).length = N := Ag _
  have e4 : List.replicate N zF = Ab x N 0 := by
    refine eM (by simp) fun j hj => ?_
    rw [ahp, if_pos hj, if_neg (by omega)]
  rw [e2, Eb _ (by omega) hN, agi, e3, wrap64 (by omega) (by omega), e4, PT hN (hE N (aeO _)) hx (by omega), agi]
set_option maxRecDepth 100000
theorem aaE {l:List al} (k:Int) (hl:l.length<=17592186044416):∃b,qB l k=some b∧(b=true->l.length<=14∧∀f∈l,(f.aJ.aa.length:Int)<=k∧(f.aL.aa.length:Int)<=k):=by
 unfold qB
 have htl:(l.take 15).length=min 15 l.length:=ae7
 rw[y9 (l.take 15) (fun i x=>if decide ((x.aJ.aa.length:Int)<=k∧(x.aL.aa.length:Int)<=k)=true then none else some false) (by omega) (fun i x hx =>?_) (by
  simp only[sN]
  by_cases h:15<l.length
  ·rw[if_pos (by rw[htl];simp;omega),agi,if_neg (by rw[htl];simp;omega)]
  ·rw[if_neg (by rw[htl];simp;omega),agi];rfl)]
 ·rw[agi]
  cases hfs:fl (fun (i:Nat) (x:al)=>if decide ((x.aJ.aa.length:Int)<=k∧(x.aL.aa.length:Int)<=k)=true then none else some false) 0 (l.take 15) with
  | none =>
   refine⟨_,rfl,fun h =>?_⟩
   have h14:l.length<=14:=by have:=of_decide_eq_true h;omega
   refine⟨h14,fun f hf =>?_⟩
   obtain⟨j,hj⟩:=afa hf
   have:=gK.1 hfs j f (by rw[af6 (by omega)];exact hj)
   split at this
   ·rename_i h;exact of_decide_eq_true h
   ·cases this
  | some r =>
   obtain⟨j,x,_,h2,_⟩:=iG hfs
   split at h2
   ·cases h2
   ·cases h2;exact⟨false,rfl,fun h=>by cases h⟩
 ·have hi:=bW hx
  rw[htl]at hi
  rw[ae4,if_pos (by omega)]at hx
  simp only[sN]
  rw[if_pos (by simp;omega),agi,if_pos (by simp;omega),bG hx,agi,acC,agi]
  by_cases hc:(x.aJ.aa.length:Int)<=k∧(x.aL.aa.length:Int)<=k
  ·rw[decide_eq_true hc,bX (by omega)];rfl
  ·rw[decide_eq_false hc];rfl
theorem abE {n:de} (hl:n.aw.length<=17592186044416):∃b,ll n=some b∧(b=true->n.aw.length<=40∧SzN n 6∧(n.aG<=12∨2000<n.aG)):=by
 unfold ll
 have htl:(n.aw.take 40).length=min 40 n.aw.length:=ae7
 rw[y9 (n.aw.take 40) (fun i x=>if decide ((x.bR.aJ.aa.length:Int)<=6∧(x.bR.aL.aa.length:Int)<=6)=true then none else some false) (by omega) (fun i x hx =>?_) (by
  simp only[nB]
  by_cases h:40<n.aw.length
  ·rw[if_pos (by rw[htl];simp;omega),agi,if_neg (by rw[htl];simp;omega)]
  ·rw[if_neg (by rw[htl];simp;omega),agi];rfl)]
 ·rw[agi]
  cases hfs:fl (fun (i:Nat) (x:fa)=>if decide ((x.bR.aJ.aa.length:Int)<=6∧(x.bR.aL.aa.length:Int)<=6)=true then none else some false) 0 (n.aw.take 40) with
  | none =>
   have hmain:(n.aw.length:Int)<=40->SzN n 6:=fun h t ht=>by
    obtain⟨j,hj⟩:=afa ht
    have:=gK.1 hfs j t (by rw[af6 (by omega)];exact hj)
    split at this
    ·rename_i h;have:=of_decide_eq_true h;omega
    ·cases this
   simp only
   by_cases h1:n.aG<=12
   ·rw[if_pos (by simpa using h1)]
    exact⟨_,rfl,fun h=>by have h':=of_decide_eq_true h;exact⟨by omega,hmain h',.inl h1⟩⟩
   ·rw[if_neg (by simpa using h1)]
    by_cases h2:n.aG>2000
    ·rw[if_pos (by simpa using h2)]
     exact⟨_,rfl,fun h=>by have h':=of_decide_eq_true h;exact⟨by omega,hmain h',.inr h2⟩⟩
    ·rw[if_neg (by simpa using h2)]
     exact⟨_,rfl,fun h=>by cases h⟩
  | some r =>
   obtain⟨j,x,_,h2,_⟩:=iG hfs
   split at h2
   ·cases h2
   ·cases h2;exact⟨false,rfl,fun h=>by cases h⟩
 ·have hi:=bW hx
  rw[htl]at hi
  rw[ae4,if_pos (by omega)]at hx
  simp only[nB]
  rw[if_pos (by simp;omega),agi,if_pos (by simp;omega),bG hx,agi,acC,agi]
  by_cases hc:(x.bR.aJ.aa.length:Int)<=6∧(x.bR.aL.aa.length:Int)<=6
  ·rw[decide_eq_true hc,bX (by omega)];rfl
  ·rw[decide_eq_false hc];rfl
def Xs (K:Nat):Nat:=2 ^ 11*(4 ^ 12*(K+1))
theorem ack {K N p x:Nat} (hN:N<=12) (hp:p<N) (h:x<=2 ^ (N-1-p)*(4 ^ N*(K+1))):x<=Xs K:=by
 unfold Xs
 exact aeQ h (ahj (aht (by decide) (by omega)) (afA _ (aht (by decide) hN)))
theorem aba:2*(2 ^ 12*(4 ^ 12*(6+1)))+100<=eF:=by decide
theorem Z9 {a b:Rat} (h:LF a<=eF):mw (bL a) (bL b)=some (decide (a=b)):=by
 have:=BY h
 rw[ac0 (by unfold Fit eF at *;omega) (by unfold Fit eF at *;omega)]
 congr 1
 by_cases hab:a=b
 ·rw[hab,decide_eq_true rfl,decide_eq_true rfl]
 ·rw[decide_eq_false (fun h=>hab (vT h)),decide_eq_false hab]
variable {N:Nat} {tk:List Tk} {r:Nat->Int}
theorem Rc {α:Type} (f:Nat->α) (n:Nat):(List.range n).map f++[f n]=(List.range (n+1)).map f:=by rw[List.range_succ,aga];rfl
theorem Uo {n:Nat} (f:Nat->Rat) (hn:n<=2000) {v:Rat} (hv:v=f n):iB 64 (gw n f) [bL v]=some (gw (n+1) f):=by
 unfold iB
 have:(2001:Nat)<=maxLen:=by decide
 rw[if_pos ⟨by rw[jk];simp;omega,by rw[jk];simp;omega⟩,hv]
 exact congrArg some (Rc (fun p=>bL (f p)) n)
theorem XN {x:Int} {n:Nat} (hx:(Lit.int .u8 x).wf=true) (hn:0<n):∃a:Nat,a<n∧uI .i64 (IntKind.i64.wrap x) (n:Int)=some (a:Int):=by
 have hx2:0<=x∧x<=255:=by
  simp only[Lit.wf,afp,decide_eq_true_eq]at hx
  have h1:IntKind.u8.min=0:=by decide
  have h2:IntKind.u8.max=255:=by decide
  omega
 refine⟨x.toNat % n,Nat.mod_lt _ hn,?_⟩
 rw[j0 (by omega),abR (by omega) (by omega)]
 obtain⟨k,rfl⟩:∃k:Nat,x=k:=⟨x.toNat,by omega⟩
 simp
def pR (s:Nat->Bool) (t:Tk):Nat->Bool:=if s t.1=true then fun p=>if p=t.2.1 then true else s p else s
def mz (tk:List Tk) (s:Nat->Bool):Nat->Bool:=tk.foldl pR s
def fK (tk:List Tk) (s:Nat->Bool):Nat->Nat->Bool
 | 0=>s
 | i+1=>mz tk (fK tk s i)
theorem E7 (s:Nat->Bool) (t:Tk) {p:Nat} (h:s p=true):pR s t p=true:=by
 unfold pR
 split
 ·show (if p=t.2.1 then true else s p)=true
  split
  ·rfl
  ·exact h
 ·exact h
theorem qC {p:Nat} : ∀(tk:List Tk) {s:Nat->Bool},s p=true->mz tk s p=true
 | [],_,h=>h
 | t::tk,s,h=>qC tk (s:=pR s t) (E7 s t h)
theorem Qy {s:Nat->Bool} {p:Nat} {i:Nat} (h:s p=true):fK tk s i p=true:=by
 induction i with
 | zero=>exact h
 | succ i ih=>exact qC tk ih
theorem Pm {s s':Nat->Bool} {t:Tk} (ht:t.1<N∧t.2.1<N) (h:∀p,p<N->s p=s' p):∀p,p<N->pR s t p=pR s' t p:=by
 intro p hp
 unfold pR
 rw[h t.1 ht.1]
 split
 ·show (if p=t.2.1 then true else s p)=(if p=t.2.1 then true else s' p)
  split
  ·rfl
  ·exact h p hp
 ·exact h p hp
theorem y5:∀ {tk:List Tk} {s s':Nat->Bool},(∀t∈tk,t.1<N∧t.2.1<N)->(∀p,p<N->s p=s' p)->∀p,p<N->mz tk s p=mz tk s' p
 | [],_,_,_,h=>h
 | t::tk,s,s',ht,h=>y5 (tk:=tk) (s:=pR s t) (s':=pR s' t) (fun u hu=>ht u (age _ hu)) (Pm (ht t (agd ..)) h)
theorem y6:∀ {tk:List Tk} {s0 s:Nat->Bool},(∀t∈tk,t.1<N∧t.2.1<N)->(∀p,s0 p=true->s p=true)->(∀p,p<N->mz tk s p=true->s0 p=true)->∀t∈tk,s0 t.1=true->s0 t.2.1=true
 | [],_,_,_,_,_,t,ht,_=>by cases ht
 | u::tk,s0,s,hr,h1,h2,t,ht,hs=>by
  have hsu:∀p,s0 p=true->pR s u p=true:=fun p hp=>E7 s u (h1 p hp)
  rcases aeV.1 ht with rfl|ht
  ·have h3:pR s t t.2.1=true:=by unfold pR;rw[if_pos (h1 _ hs)];exact if_pos rfl
   exact h2 _ (hr t (agd ..)).2 (qC tk h3)
  ·exact y6 (tk:=tk) (s0:=s0) (s:=pR s u) (fun v hv=>hr v (age _ hv)) hsu h2 t ht hs
def Jj (s:Nat->Bool):Nat->Nat
 | 0=>0
 | n+1=>Jj s n+(if s n=true then 1 else 0)
theorem SC (s:Nat->Bool):∀n,Jj s n<=n
 | 0=>aeO _
 | n+1=>by have:=SC s n;simp only[Jj];split<;>omega
theorem Jk {s s':Nat->Bool} : ∀ {n},(∀p,p<n->s p=true->s' p=true)->Jj s n<=Jj s' n∧((∃p,p<n∧s p≠s' p)->Jj s n<Jj s' n)
 | 0,_=>⟨aeO _,fun⟨p,hp,_⟩=>by omega⟩
 | n+1,h=>by
  obtain⟨h1,h2⟩:=Jk (n:=n) fun p hp=>h p (by omega)
  have h3:=h n (by omega)
  simp only[Jj]
  refine⟨?_,fun⟨p,hp,hne⟩ =>?_⟩
  ·cases e1:s n<;>cases e2:s' n<;>simp_all<;>omega
  ·by_cases hpn:p=n
   ·subst hpn
    cases e1:s p<;>cases e2:s' p<;>simp_all<;>omega
   ·have:=h2 ⟨p,by omega,hne⟩
    cases e1:s n<;>cases e2:s' n<;>simp_all<;>omega
theorem Nd {s:Nat->Bool} (htk:∀t∈tk,t.1<N∧t.2.1<N) {k:Nat} (hk:k<N) (hsk:s k=true):∀t∈tk,fK tk s N t.1=true->fK tk s N t.2.1=true:=by
 have hex:∃i,i<N∧∀p,p<N->fK tk s i p=fK tk s (i+1) p:=by
  by_cases hc:∃i,i<N∧∀p,p<N->fK tk s i p=fK tk s (i+1) p
  ·exact hc
  exfalso
  have hgrow:∀i,i<=N->i+1<=Jj (fK tk s i) N:=by
   intro i
   induction i with
   | zero =>
    intro _
    have:=(Jk (s:=fun _=>false) (s':=s) (n:=N) fun p _ h=>by cases h).2 ⟨k,hk,by rw[hsk];decide⟩
    simp only[fK];omega
   | succ i ih =>
    intro hi
    have h1:=ih (by omega)
    have h2:=(Jk (s:=fK tk s i) (s':=fK tk s (i+1)) (n:=N) fun p _ h=>qC tk h).2
    have h3:∃p,p<N∧fK tk s i p≠fK tk s (i+1) p:=by
     by_cases h:∃p,p<N∧fK tk s i p≠fK tk s (i+1) p
     ·exact h
     ·exact absurd ⟨i,by omega,fun p hp=>by
       by_cases he:fK tk s i p=fK tk s (i+1) p
       ·exact he
       ·exact absurd ⟨p,hp,he⟩ h⟩ hc
    have:=h2 h3
    omega
  have h1:=hgrow N (aeO _)
  have h2:=SC (fK tk s N) N
  omega
 obtain⟨i,hi,hfix⟩:=hex
 have hstay:∀m,∀p,p<N->fK tk s (i+m) p=fK tk s i p:=by
  intro m
  induction m with
  | zero=>intro p _;rfl
  | succ m ih =>
   intro p hp
   have:fK tk s (i+(m+1)) p=mz tk (fK tk s (i+m)) p:=rfl
   rw[this,y5 htk ih p hp]
   exact (hfix p hp).symm
 have hN:∀p,p<N->mz tk (fK tk s N) p=fK tk s N p:=fun p hp=>by
  have e1:=hstay (N-i) p hp
  have e2:=hstay (N+1-i) p hp
  rw[show i+(N-i)=N by omega]at e1
  rw[show i+(N+1-i)=N+1 by omega]at e2
  rw[e1];exact e2
 exact y6 htk (s:=fK tk s N) (fun _ h=>h) fun p hp h=>by rw[<- hN p hp];exact h
theorem Qf {i:Nat} {t:Tk} (h:tk[i]? = some t) (s:Nat->Bool):mz (tk.take (i+1)) s=pR (mz (tk.take i) s) t:=by
 obtain⟨hi,he⟩:=afh.1 h
 unfold mz
 rw[ahi hi,List.foldl_append,he];rfl
theorem UM (hlen:tk.length<=8000) (htk:∀t∈tk,t.1<N∧t.2.1<N) (s:Nat->Bool):aO (ja (lN N tk)) ((0:Int),(List.range N).map s)=some ((List.range N).map (mz tk s)):=by
 have key:=fun hst hend=>yo (body:=ja (lN N tk)) tk (by omega) (fun i (l:List Bool)=>l=(List.range N).map (mz (tk.take i) s)) (fun l=>l=(List.range N).map (mz tk s)) (s0:=(List.range N).map s) rfl hst hend
 have e3:(lN N tk).aw=tk.map uH:=rfl
 refine (key ?_ ?_).elim fun x ⟨h1,hx⟩=>hx ▸ h1
 ·rintro i t _ ht rfl
  have hi:=bW ht
  obtain⟨q1,q2⟩:=htk t (afg ht)
  have hg:(tk.map uH)[i]? = some (uH t):=by rw[aeL,ht];rfl
  have w2:(uH t).lJ=(t.2.1:Int):=rfl
  have w3:(uH t).dq=(t.1:Int):=rfl
  refine⟨_,?_,rfl⟩
  simp only[ja]
  rw[if_pos (by rw[e3];simp;omega),e3,bG hg,agi,w3,bG (bK _ q1),agi,Qf ht,bX (by omega)]
  unfold pR
  by_cases h:mz (tk.take i) s t.1=true
  ·rw[if_pos h,if_pos h,w2,bG (bK _ q2),agi,afM,fQ]
  ·rw[if_neg h,if_neg h]
 ·rintro _ rfl
  refine⟨_,?_,rfl⟩
  simp only[ja]
  rw[if_neg (by rw[e3];simp),agO]
theorem UN (hN:N<=2000) (hlen:tk.length<=8000) (htk:∀t∈tk,t.1<N∧t.2.1<N) (s:Nat->Bool) {l:List al} (hl:l.length=N):aO (iZ (lN N tk) l) ((0:Int),(List.range N).map s)=some ((List.range N).map (fK tk s N)):=by
 have key:=fun hst hend=>yo (body:=iZ (lN N tk) l) l (by omega) (fun i (q:List Bool)=>q=(List.range N).map (fK tk s i)) (fun q=>q=(List.range N).map (fK tk s N)) (s0:=(List.range N).map s) rfl hst hend
 refine (key ?_ ?_).elim fun x ⟨h1,hx⟩=>hx ▸ h1
 ·rintro i t _ ht rfl
  have hi:=bW ht
  refine⟨_,?_,rfl⟩
  simp only[iZ]
  rw[if_pos (by simp;omega),UM hlen htk,agi,bX (by omega)]
  rfl
 ·rintro _ rfl
  refine⟨_,?_,rfl⟩
  simp only[iZ]
  rw[if_neg (by simp),hl]
end Go.Proofs.Ytchndpjlijbplaa.P
namespace Go.Proofs.Ytchndpjlijbplaa.P
open Go.RowKit
def cg:Nat->(Nat->Rat)->Rat
 | 0,_=>0
 | n+1,f=>cg n f+f n
def BX:Nat->Nat->Nat
 | 0,_=>0
 | n+1,s=>BX n s+(if s.testBit n then 1 else 0)
theorem ep {n:Nat} {f g:Nat->Rat} (h:∀i,i<n->f i=g i):cg n f=cg n g:=by
 induction n with
 | zero=>rfl
 | succ n ih=>rw[cg,cg,ih (fun i hi=>h i (by omega)),h n (by omega)]
theorem Ys (n:Nat) (f g:Nat->Rat):cg n (fun i=>f i+g i)=cg n f+cg n g:=by
 induction n with
 | zero=>simp[cg,Rat.zero_add]
 | succ n ih=>simp only[cg];rw[ih];grind
theorem zc (n:Nat) (f g:Nat->Rat):cg n (fun i=>f i-g i)=cg n f-cg n g:=by
 induction n with
 | zero=>simp only[cg];grind
 | succ n ih=>simp only[cg];rw[ih];grind
theorem Pp (n s:Nat) (c:Rat):cg n (fun i=>if s.testBit i then c else 0)=(BX n s:Rat)*c:=by
 induction n with
 | zero=>simp only[cg,BX];grind
 | succ n ih =>
  simp only[cg,BX]
  rw[ih]
  split
  ·rw[Rat.natCast_add];grind
  ·rw[afn];grind
theorem Zl {n K:Nat} {x0:Rat} {f:Nat->Rat} (h:∀i,i<n->LF (f i)<=K):LF (x0+cg n f)<=LF x0+n*(K+1):=by
 induction n with
 | zero=>simp only[cg,Rat.add_zero];omega
 | succ n ih =>
  have h1:=ih (fun i hi=>h i (by omega))
  have h2:=Ce (x0+cg n f) (f n)
  have h3:=h n (by omega)
  rw[cg,<- Rat.add_assoc,afJ]
  omega
theorem RV:LF 0<=1:=Cf (n:=0) (by decide)
def Kh (V:Nat->Rat) (n:Nat):Nat->Nat->Rat
 | 0,_=>0
 | k+1,s=>if s=0 then 0 else (V s-V 0+cg n (fun i=>if s.testBit i then Kh V n k (s-2 ^ i) else 0)) / (BX n s:Rat)
def Kg (V:Nat->Rat) (n s:Nat):Rat:=Kh V n 5 s
theorem acu:∀n,n<6->∀s,s<2 ^ n->(s≠0->BX n s≠0)∧BX n s<=5:=by decide +kernel
theorem acv:∀n,n<6->∀s,s<2 ^ n->∀i,i<n->s.testBit i=false∨(2 ^ i<=s∧BX n (s-2 ^ i)+1=BX n s∧s-2 ^ i<s):=by decide +kernel
theorem jh (n:Nat) (hn:n<=5) (s:Nat) (hs:s<2 ^ n):(s≠0->BX n s≠0)∧BX n s<=5∧(∀i,i<n->s.testBit i=true->2 ^ i<=s∧BX n (s-2 ^ i)+1=BX n s∧s-2 ^ i<s):=by
 have h:=acu n (by omega) s hs
 refine⟨h.1,h.2,fun i hi hb =>?_⟩
 rcases acv n (by omega) s hs i hi with h|h
 ·rw[hb]at h;cases h
 ·exact h
section
variable {V:Nat->Rat} {n:Nat}
theorem OF (hn:n<=5):∀(k s:Nat),s<2 ^ n->BX n s<=k->Kh V n k s=Kh V n (k+1) s:=by
 intro k
 induction k with
 | zero =>
  intro s hs hc
  have:s=0:=by
   rcases ae6 s with h|h
   ·exact h
   ·exact absurd (by omega) ((jh n hn s hs).1 (by omega))
  subst this
  simp[Kh]
 | succ k ih =>
  intro s hs hc
  rw[Kh,Kh]
  by_cases h0:s=0
  ·rw[if_pos h0,if_pos h0]
  ·rw[if_neg h0,if_neg h0]
   congr 2
   refine ep fun i hi =>?_
   by_cases hb:s.testBit i=true
   ·rw[if_pos hb,if_pos hb]
    have:=(jh n hn s hs).2.2 i hi hb
    exact ih _ (by omega) (by omega)
   ·rw[if_neg hb,if_neg hb]
theorem X3:Kg V n 0=0:=by unfold Kg Kh;rw[if_pos rfl]
theorem TG (hn:n<=5) {s:Nat} (hs:s<2 ^ n) (h0:s≠0):Kg V n s=(V s-V 0+cg n (fun i=>if s.testBit i then Kg V n (s-2 ^ i) else 0)) / (BX n s:Rat):=by
 have hb:=jh n hn s hs
 unfold Kg
 rw[Kh,if_neg h0]
 congr 2
 refine ep fun i hi =>?_
 by_cases hbt:s.testBit i=true
 ·rw[if_pos hbt,if_pos hbt]
  have:=hb.2.2 i hi hbt
  exact OF hn 4 _ (by omega) (by omega)
 ·rw[if_neg hbt,if_neg hbt]
theorem PW (hn:n<=5) {s:Nat} (hs:s<2 ^ n) (h0:s≠0):(BX n s:Rat)≠0:=by
 have:=(jh n hn s hs).1 h0
 intro h
 have h2:((BX n s:Nat):Rat)=((0:Nat):Rat):=h
 rw[Rat.natCast_inj]at h2
 exact this h2
theorem X2 (hn:n<=5) {s:Nat} (hs:s<2 ^ n) (h0:s≠0):cg n (fun i=>if s.testBit i then Kg V n s-Kg V n (s-2 ^ i) else 0)=V s-V 0:=by
 have h1:=TG (V:=V) hn hs h0
 have h2:=PW hn hs h0
 have e:cg n (fun i=>if s.testBit i then Kg V n s-Kg V n (s-2 ^ i) else 0)=cg n (fun i=>if s.testBit i then Kg V n s else 0)-cg n (fun i=>if s.testBit i then Kg V n (s-2 ^ i) else 0):=by
  rw[<- zc]
  refine ep fun i hi =>?_
  split
  ·rfl
  ·grind
 rw[e,Pp]
 grind
theorem Ra (hn:n<=5) {p:Nat->Rat} (hp0:p 0=0) (hp:∀s,s<2 ^ n->s≠0->cg n (fun i=>if s.testBit i then p s-p (s-2 ^ i) else 0)=V s-V 0):∀s,s<2 ^ n->p s=Kg V n s:=by
 intro s
 induction s using Nat.strongRecOn with
 | _ s ih =>
  intro hs
  by_cases h0:s=0
  ·subst h0;rw[hp0,X3]
  ·have h1:=hp s hs h0
   have h2:=X2 (V:=V) hn hs h0
   have h3:=PW hn hs h0
   have e:∀q:Nat->Rat,cg n (fun i=>if s.testBit i then q s-q (s-2 ^ i) else 0)=(BX n s:Rat)*q s-cg n (fun i=>if s.testBit i then q (s-2 ^ i) else 0):=by
    intro q
    rw[<- Pp,<- zc]
    refine ep fun i hi =>?_
    split
    ·rfl
    ·grind
   rw[e p]at h1
   rw[e (Kg V n)]at h2
   have h4:cg n (fun i=>if s.testBit i then p (s-2 ^ i) else 0)=cg n (fun i=>if s.testBit i then Kg V n (s-2 ^ i) else 0):=by
    refine ep fun i hi =>?_
    by_cases hb:s.testBit i=true
    ·rw[if_pos hb,if_pos hb]
     have:=(jh n hn s hs).2.2 i hi hb
     exact ih _ this.2.2 (by omega)
    ·rw[if_neg hb,if_neg hb]
   have h5:(BX n s:Rat)*p s=(BX n s:Rat)*Kg V n s:=by grind
   grind
def shr (V:Nat->Rat) (n i:Nat):Rat:=Kg V n (2 ^ n-1)-Kg V n (2 ^ n-1-2 ^ i)
theorem abl (hn:n<=5) {s:Nat} (hs:s<2 ^ n):LF (BX n s:Rat)<=1:=by
 have:=(jh n hn s hs).2.1
 have h:=Cf (n:=(BX n s:Int)) (by omega)
 rwa [Rat.intCast_natCast]at h
end
set_option maxRecDepth 100000
theorem aae:oR=some true:=by kernel_rfl
theorem vR {α:Type} (l:List α) (t:Nat):idx l (t:Int)=l[t]?:=by
 unfold idx
 by_cases h:t<l.length
 ·rw[if_pos (by omega)];rfl
 ·rw[if_neg (by omega)];exact (agk (by omega)).symm
theorem Ut:∀s,s<8->∀i,i<3->(cV .and .i64 ((s:Nat):Int) ((2 ^ i:Nat):Int) != 0)=s.testBit i:=by decide +kernel
theorem Uu:∀s,s<8->∀i,i<3->s.testBit i=false∨cV .andNot .i64 ((s:Nat):Int) ((2 ^ i:Nat):Int)=((s-2 ^ i:Nat):Int):=by decide +kernel
theorem Vs:∀n,n<4->∀s,s<2 ^ n->ey (IntKind.u64.wrap ((s:Nat):Int))=some ((BX n s:Nat):Int):=by decide +kernel
theorem Rb {n:Nat} (hn:n<=3):2 ^ n<=8∧0<2 ^ n:=⟨aht (by decide) hn,Nat.pow_pos (by decide)⟩
theorem VX:∀n:Nat,n<4->jl (IntKind.u64.wrap ((2 ^ n:Nat):Int))=some ((n+1:Nat):Int):=by decide +kernel
theorem Vx:∀n:Nat,n<4->tK .i64 1 (n:Int)=some ((2 ^ n:Nat):Int):=by decide +kernel
theorem Uv:∀s,s<8->∀i,i<3->∃q,nc .i64 ((s:Nat):Int) ((i:Nat):Int)=some q∧(cV .and .i64 q 1==1)=s.testBit i:=fun s hs i hi=>by
 have h:∀s,s<8->∀i,i<3->((nc .i64 ((s:Nat):Int) ((i:Nat):Int)).map fun q=>cV .and .i64 q 1==1)=some (s.testBit i):=by decide +kernel
 have:=h s hs i hi
 obtain⟨q,h1,h2⟩:=aeM.1 this
 exact⟨q,h1,h2⟩
theorem Z6 {qs:List Rat} (hl:qs.length<=1000) (hq:∀q∈qs,LF q<=eF):fC (qs.map bL)=some true:=by
 unfold fC
 rw[y9 (qs.map bL) (fun _ _=>(none:Option Bool)) (by simp;omega) (fun i f hf =>?_) (by simp only[kQ];rw[if_neg (by simp)])]
 ·have hno:∀(l:List al) i,fl (fun _ _=>(none:Option Bool)) i l=none:=by
   intro l
   induction l with
   | nil=>intro i;rfl
   | cons a l ih=>intro i;simp only[fl];exact ih _
  rw[hno];rfl
 ·have hi:=bW hf
  obtain⟨q,hq',rfl⟩:=aeN.1 (afg hf)
  have hL:qs.length=(qs.map bL).length:=by simp
  simp only[kQ]
  rw[if_pos (by simp at hi;simpa using hi),bG hf,agi,kE (hq q hq'),agi,bX (by omega)]
  rfl
theorem SN {qs:List Rat} {n:Nat} (hn:n<=3) (hl:qs.length=2 ^ n) (hq:∀q∈qs,LF q<=eF):fB (qs.map bL)=some ((n:Int),true):=by
 have hL:(qs.map bL).length=2 ^ n:=by simpa using hl
 have h32:=Rb hn
 unfold fB
 rw[hL,VX n (by omega),agi]
 have e:IntKind.i64.wrap (((n+1:Nat):Int)-1)=(n:Int):=by rw[j0 (by omega)];omega
 rw[e,if_neg (by simp),if_neg (by simp;omega),Vx n (by omega),agi,if_neg (by simp),Z6 (by omega) hq,agi]
 rfl
theorem abb {a b:Rat} (h:LF a+LF b+1<=eF):fU (bL a) (bL b)=some (bL (a-b)):=by
 unfold fU
 rw[R1 h];rfl
theorem aco {a b:Rat} (h:LF a+LF b+1<=eF):iO (bL a) (bL b)=some (bL (a+b)):=by
 unfold iO
 rw[VO h];rfl
section
variable {V:Nat->Rat} {n:Nat}
theorem ZJ (hn:n<=3) {s:Nat} (hs:s<2 ^ n) {x0:Rat} {K:Nat} (hK:4*(K+1)+K<=eF) (hx:LF x0<=K) {G:Nat->Rat} {l:List al} (hl:∀t,t<s->l[t]? = some (bL (G t))) (hG:∀t,t<s->LF (G t)<=K) (hK0:1<=K) :
  aO (fv ((n:Int),true) (s:Int) l) (0,(bL x0).aJ.ah,(bL x0).aJ.aa,(bL x0).aL.ah,(bL x0).aL.aa) =
   some ((bL (x0+cg n (fun i=>if s.testBit i then G (s-2 ^ i) else 0))).aJ.ah,(bL (x0+cg n (fun i=>if s.testBit i then G (s-2 ^ i) else 0))).aJ.aa,(bL (x0+cg n (fun i=>if s.testBit i then G (s-2 ^ i) else 0))).aL.ah,(bL (x0+cg n (fun i=>if s.testBit i then G (s-2 ^ i) else 0))).aL.aa)
  ∧ LF (x0+cg n (fun i=>if s.testBit i then G (s-2 ^ i) else 0))<=4*(K+1):=by
 have hbf:=(jh n (by omega) s hs).2.2
 have h32:=Rb hn
 have hLF:∀i,i<=n->LF (x0+cg i (fun i=>if s.testBit i then G (s-2 ^ i) else 0))+1<=4*(K+1):=by
  intro i hi
  have:=Zl (n:=i) (K:=K) (x0:=x0) (f:=fun i=>if s.testBit i then G (s-2 ^ i) else 0) (by
   intro j hj
   split
   ·rename_i hb
    exact hG _ (hbf j (by omega) hb).2.2
   ·have:=RV;omega)
  have h5:i*(K+1)<=3*(K+1):=afA _ (by omega)
  omega
 refine⟨?_,by have:=hLF n (aeO _);omega⟩
 obtain⟨r,h1,h2⟩:=cP (body:=fv ((n:Int),true) (s:Int) l)
  (I:=fun i st=>st=((i:Int),(bL (x0+cg i (fun i=>if s.testBit i then G (s-2 ^ i) else 0))).aJ.ah,(bL (x0+cg i (fun i=>if s.testBit i then G (s-2 ^ i) else 0))).aJ.aa,(bL (x0+cg i (fun i=>if s.testBit i then G (s-2 ^ i) else 0))).aL.ah,(bL (x0+cg i (fun i=>if s.testBit i then G (s-2 ^ i) else 0))).aL.aa))
  n (fun r=>r=((bL (x0+cg n (fun i=>if s.testBit i then G (s-2 ^ i) else 0))).aJ.ah,(bL (x0+cg n (fun i=>if s.testBit i then G (s-2 ^ i) else 0))).aJ.aa,(bL (x0+cg n (fun i=>if s.testBit i then G (s-2 ^ i) else 0))).aL.ah,(bL (x0+cg n (fun i=>if s.testBit i then G (s-2 ^ i) else 0))).aL.aa))
  (s:=(0,(bL x0).aJ.ah,(bL x0).aJ.aa,(bL x0).aL.ah,(bL x0).aL.aa)) (by simp only[cg,Rat.add_zero];rfl) (ku (by omega)) (by
   rintro i st hi rfl
   simp only[fv]
   by_cases hin:i<n
   ·left
    refine⟨hin,?_⟩
    have e1:IntKind.i64.wrap ((i:Int)+1)=((i+1:Nat):Int):=by rw[j0 (by omega)];omega
    rw[if_pos (by simp;omega),Vx i (by omega),agi,Ut s (by omega) i (by omega),e1]
    by_cases hb:s.testBit i=true
    ·have hbb:=hbf i hin hb
     have hN:cV .andNot .i64 ((s:Nat):Int) ((2 ^ i:Nat):Int)=((s-2 ^ i:Nat):Int):=by
      rcases Uu s (by omega) i (by omega) with h|h
      ·rw[hb]at h;cases h
      ·exact h
     rw[if_pos hb,hN,vR,hl _ hbb.2.2,agi]
     have ha:iO (bL (x0+cg i (fun i=>if s.testBit i then G (s-2 ^ i) else 0))) (bL (G (s-2 ^ i)))=some (bL (x0+cg (i+1) (fun i=>if s.testBit i then G (s-2 ^ i) else 0))):=by
      rw[aco (by have:=hLF i (by omega);have:=hG _ hbb.2.2;omega),Rat.add_assoc]
      congr 3
      simp only[cg]
      rw[if_pos hb]
     exact⟨_,by erw [ha];rfl,rfl⟩
    ·rw[if_neg hb]
     refine⟨_,rfl,?_⟩
     have:cg (i+1) (fun i=>if s.testBit i then G (s-2 ^ i) else 0)=cg i (fun i=>if s.testBit i then G (s-2 ^ i) else 0):=by
      simp only[cg]
      rw[if_neg hb,Rat.add_zero]
     rw[this]
   ·right
    have:i=n:=by omega
    subst this
    exact⟨_,by rw[if_neg (by simp)],rfl⟩)
 rw[h1,h2]
def abj (V:Nat->Rat) (n:Nat):Prop:=∀s,s<2 ^ n->V s=V 0+cg n (fun i=>if s.testBit i then V (2 ^ i)-V 0 else 0)
theorem aaA:∀n,n<4->∀s,s<2 ^ n->∀i,i<n->s.testBit i=false∨∀j,j<n->(s-2 ^ i).testBit j=(s.testBit j&&decide (j≠i)):=by decide +kernel
theorem E9 {n i:Nat} (hi:i<n) (c:Rat):cg n (fun j=>if j=i then c else 0)=c:=by
 have hz:∀m,m<=i->cg m (fun j=>if j=i then c else 0)=0:=by
  intro m
  induction m with
  | zero=>intro _;rfl
  | succ m ih=>intro h;simp only[cg];rw[ih (by omega),if_neg (by omega)];grind
 have:∀m,i<m->cg m (fun j=>if j=i then c else 0)=c:=by
  intro m
  induction m with
  | zero=>intro h;omega
  | succ m ih =>
   intro h
   simp only[cg]
   by_cases hm:m=i
   ·rw[hz m (by omega),if_pos hm];grind
   ·rw[ih (by omega),if_neg hm];grind
 exact this n hi
theorem Sa (hn:n<=3) (h:abj V n):∀s,s<2 ^ n->Kg V n s=V s-V 0:=by
 intro s hs
 refine (Ra (V:=V) (p:=fun s=>V s-V 0) (by omega) (by grind) (fun s hs _ =>?_) s hs).symm
 have h1:=h s hs
 have h2:V s-V 0=cg n (fun i=>if s.testBit i then V (2 ^ i)-V 0 else 0):=by grind
 rw[h2]
 refine ep fun i hi =>?_
 by_cases hb:s.testBit i=true
 ·rw[if_pos hb,if_pos hb]
  have hlt:=((jh n (by omega) s hs).2.2 i hi hb).2.2
  have h3:=h (s-2 ^ i) (by omega)
  have h4:cg n (fun j=>if s.testBit j then V (2 ^ j)-V 0 else 0)-cg n (fun j=>if (s-2 ^ i).testBit j then V (2 ^ j)-V 0 else 0)=V (2 ^ i)-V 0:=by
   rw[<- zc,<- E9 hi (V (2 ^ i)-V 0)]
   refine ep fun j hj =>?_
   have h5:(s-2 ^ i).testBit j=(s.testBit j&&decide (j≠i)):=by
    rcases aaA n (by omega) s hs i hi with h|h
    ·rw[hb]at h;cases h
    ·exact h j hj
   rw[h5]
   by_cases hji:j=i
   ·subst hji
    rw[if_pos hb,if_neg (by simp),if_pos rfl];grind
   ·rw[if_neg hji]
    cases s.testBit j
    ·rw[if_neg (by simp),if_neg (by simp)];grind
    ·rw[if_pos rfl,if_pos (by simpa using hji)];grind
  grind
 ·rw[if_neg hb,if_neg hb]
end
def Vq (qs:List Rat) (s:Nat):Rat:=qs.getD s 0
theorem V6 {qs:List Rat} {s:Nat} (h:s<qs.length):(qs.map bL)[s]? = some (bL (Vq qs s)):=by
 unfold Vq
 simp[h]
theorem V7 {qs:List Rat} {s:Nat} (hs:s<qs.length):Vq qs s∈qs:=by
 unfold Vq
 rw[afr,ae1 hs]
 exact ae0 hs
def Pa (V:Nat->Rat) (n:Nat):List al:=(List.range n).map (fun s=>bL (V s-V 0))
variable {n:Nat}
theorem KS {qs:List Rat} {K:Nat} (hn:n<=3) (hl:qs.length=2 ^ n) (hq:∀q∈qs,LF q<=K) (hK0:1<=K) (hK:5*(2*K+2)<=eF) (hA:abj (Vq qs) n):df (qs.map bL)=some (Pa (Vq qs) (2 ^ n)):=by
 have h32:=Rb hn
 have hV:∀s,s<2 ^ n->LF (Vq qs s)<=K:=fun s hs=>hq _ (V7 (by omega))
 have hL:(qs.map bL).length=2 ^ n:=by simpa using hl
 have hP:=Sa hn hA
 have hGG:∀s,s<2 ^ n->LF (Vq qs s-Vq qs 0)<=2*K+1:=fun s hs=>by
  have h4:=zE (Vq qs s) (Vq qs 0)
  have:=hV _ hs
  have:=hV 0 h32.2
  omega
 have hLm:eF=4398046511104:=rfl
 unfold df
 rw[SN hn hl (fun q h=>by have:=hq q h;omega),agi,if_neg (by simp),hL]
 have hmk:B1 64 ((2 ^ n:Nat):Int) ((2 ^ n:Nat):Int) (al.mk (aq.mk 0 ([])) (aq.mk 0 ([])))=some (List.replicate (2 ^ n) (al.mk (aq.mk 0 ([])) (aq.mk 0 ([])))):=Eb _ (by omega) (by omega)
 have h00:idx (List.replicate (2 ^ n) (al.mk (aq.mk 0 ([])) (aq.mk 0 ([])))) 0=some (al.mk (aq.mk 0 ([])) (aq.mk 0 ([]))):=bG (i:=0) (by rw[ahp,if_pos h32.2])
 rw[hmk,agi,RU (by omega),agi,h00,agi]
 obtain⟨r,h1,h2⟩:=cP (body:=g9 (qs.map bL) ((n:Int),true))
  (I:=fun i st=>st.1=((i+1:Nat):Int)∧st.2.length=2 ^ n∧∀t,t<i+1->st.2[t]? = some (bL (Vq qs t-Vq qs 0))) (2 ^ n-1) (fun r=>r=Pa (Vq qs) (2 ^ n))
  (s:=(1,(List.replicate (2 ^ n) (al.mk (aq.mk 0 ([])) (aq.mk 0 ([])))).set (0:Nat) (bL 0))) ⟨rfl,by simp,fun t ht=>by
   have:t=0:=by omega
   subst this
   rw[ahg (by rw[List.length_replicate];exact h32.2),Rat.sub_self]⟩ (ku (by omega)) (by
   rintro i ⟨s,l⟩ hi ⟨hs,hll,hPp⟩
   simp only at hs hll hPp
   subst hs
   simp only[g9]
   rw[hL]
   by_cases hin:i+1<2 ^ n
   ·left
    refine⟨by omega,?_⟩
    have e0:idx (qs.map bL) 0=some (bL (Vq qs 0)):=by rw[show (0:Int)=((0:Nat):Int) from rfl,vR,V6 (by omega)]
    have hc:=Vs n (by omega) (i+1) hin
    have hcnt:=(jh n (by omega) (i+1) hin).2.1
    have hx0:=hGG _ hin
    rw[if_pos (decide_eq_true (by omega)),vR,V6 (by omega),agi,e0,agi,
     abb (by have:=hV _ hin;have:=hV 0 (by omega);omega),agi]
    obtain⟨hin1,hin2⟩:=ZJ hn hin (x0:=Vq qs (i+1)-Vq qs 0) (K:=2*K+1) (by omega) hx0 (G:=fun t=>Vq qs t-Vq qs 0) hPp (fun t ht=>hGG t (by omega)) (by omega)
    rw[hin1,agi]
    simp only
    rw[hc,agi,RU (by omega),agi]
    have hLc:=abl (n:=n) (by omega) hin
    have hpr:=TG (V:=Vq qs) (n:=n) (by omega) hin (by omega)
    have hsum:cg n (fun j=>if (i+1).testBit j then Kg (Vq qs) n (i+1-2 ^ j) else 0)=cg n (fun j=>if (i+1).testBit j then (fun t=>Vq qs t-Vq qs 0) (i+1-2 ^ j) else 0):=ep fun j hj=>by
     by_cases hb:(i+1).testBit j=true
     ·rw[if_pos hb,if_pos hb,hP _ (Nat.lt_of_le_of_lt (Nat.sub_le _ _) hin)]
     ·rw[if_neg hb,if_neg hb]
    rw[hsum,hP _ hin]at hpr
    have hd:jL (bL (Vq qs (i+1)-Vq qs 0+cg n (fun j=>if (i+1).testBit j then (fun t=>Vq qs t-Vq qs 0) (i+1-2 ^ j) else 0))) (bL (((BX n (i+1):Nat):Int):Rat))=some (bL (Vq qs (i+1)-Vq qs 0),0):=by
     rw[Rat.intCast_natCast,aap (by have h9:LF (Vq qs (i+1)-Vq qs 0+cg n (fun j=>if (i+1).testBit j then (fun t=>Vq qs t-Vq qs 0) (i+1-2 ^ j) else 0))<=4*(2*K+1+1):=hin2;omega) (PW (by omega) hin (by omega)),<- hpr]
    erw [hd]
    rw[agi]
    rw[vR,ae1 (by omega),agi]
    refine⟨_,rfl,by rw[j0 (by omega)];omega,by simpa using hll,fun t ht =>?_⟩
    simp only[Int.toNat_natCast]
    by_cases htt:t=i+1
    ·subst htt
     rw[ahg (by omega)]
    ·rw[ahh (by omega)]
     exact hPp t (by omega)
   ·right
    refine⟨_,by rw[if_neg (by rw[decide_eq_true_eq];omega)],?_⟩
    exact eM hll fun t ht=>hPp t (by omega))
 erw [h1]
 rw[h2]
 rfl
theorem aaj:∀n,n<4->∀i,i<n->cV .andNot .i64 ((2 ^ n-1:Nat):Int) ((2 ^ i:Nat):Int)=((2 ^ n-1-2 ^ i:Nat):Int)∧(2 ^ n-1).testBit i=true:=by decide +kernel
theorem V4 {qs:List Rat} {K:Nat} (hn:n<=3) (hl:qs.length=2 ^ n) (hq:∀q∈qs,LF q<=K) (hK0:1<=K) (hK:5*(2*K+2)<=eF) (hA:abj (Vq qs) n):eQ (qs.map bL)=some ((List.range n).map (fun i=>bL (Vq qs (2 ^ i)-Vq qs 0)),0):=by
 have h32:=Rb hn
 have hV:∀s,s<2 ^ n->LF (Vq qs s)<=K:=fun s hs=>hq _ (V7 (by omega))
 have hL:(qs.map bL).length=2 ^ n:=by simpa using hl
 have hP:=Sa hn hA
 have hGG:∀s,s<2 ^ n->LF (Vq qs s-Vq qs 0)<=2*K+1:=fun s hs=>by
  have h4:=zE (Vq qs s) (Vq qs 0)
  have:=hV _ hs
  have:=hV 0 h32.2
  omega
 have hget:∀s,s<2 ^ n->(Pa (Vq qs) (2 ^ n))[s]? = some (bL (Vq qs s-Vq qs 0)):=fun s hs=>bK (fun s=>bL (Vq qs s-Vq qs 0)) hs
 have hLm:eF=4398046511104:=rfl
 have hall:IntKind.i64.wrap (((2 ^ n:Nat):Int)-1)=((2 ^ n-1:Nat):Int):=by rw[j0 (by omega)];omega
 unfold eQ
 rw[SN hn hl (fun q h=>by have:=hq q h;omega),agi,if_neg (by simp),KS hn hl hq hK0 hK hA,agi]
 obtain⟨r,h1,h2⟩:=cP (body:=j2 (qs.map bL) ((n:Int),true) (Pa (Vq qs) (2 ^ n)))
  (I:=fun i st=>st=((i:Int),(List.range i).map (fun i=>bL (Vq qs (2 ^ i)-Vq qs 0)))) n (fun r=>r=(List.range n).map (fun i=>bL (Vq qs (2 ^ i)-Vq qs 0))) (s:=(0,[])) rfl (ku (by omega)) (by
   rintro i st hi rfl
   simp only[j2]
   rw[hL]
   by_cases hin:i<n
   ·left
    obtain⟨t1,t2⟩:=aaj n (by omega) i hin
    have hlt:=(jh n (by omega) (2 ^ n-1) (by omega)).2.2 i hin t2
    have h2i:2 ^ i<2 ^ n:=by omega
    have hval:Vq qs (2 ^ n-1)-Vq qs 0-(Vq qs (2 ^ n-1-2 ^ i)-Vq qs 0)=Vq qs (2 ^ i)-Vq qs 0:=by
     have h5:=X2 (V:=Vq qs) (n:=n) (by omega) (s:=2 ^ i) h2i (by have:=Nat.pow_pos (show 0<2 by decide) (n:=i);omega)
     have a1:=hA (2 ^ n-1) (by omega)
     have a2:=hA (2 ^ n-1-2 ^ i) (by omega)
     have a3:cg n (fun j=>if (2 ^ n-1).testBit j then Vq qs (2 ^ j)-Vq qs 0 else 0)-cg n (fun j=>if (2 ^ n-1-2 ^ i).testBit j then Vq qs (2 ^ j)-Vq qs 0 else 0)=Vq qs (2 ^ i)-Vq qs 0:=by
      rw[<- zc,<- E9 hin (Vq qs (2 ^ i)-Vq qs 0)]
      refine ep fun j hj =>?_
      have h5:(2 ^ n-1-2 ^ i).testBit j=((2 ^ n-1).testBit j&&decide (j≠i)):=by
       rcases aaA n (by omega) (2 ^ n-1) (by omega) i hin with h|h
       ·rw[t2]at h;cases h
       ·exact h j hj
      rw[h5]
      by_cases hji:j=i
      ·subst hji
       rw[if_pos t2,if_neg (by simp),if_pos rfl];grind
      ·rw[if_neg hji]
       cases (2 ^ n-1).testBit j
       ·rw[if_neg (by simp),if_neg (by simp)];grind
       ·rw[if_pos rfl,if_pos (by simpa using hji)];grind
     grind
    refine⟨hin,?_⟩
    rw[if_pos (by simpa using hin),hall,Vx i (by omega),vR,hget _ (by omega),agi,agi,t1,vR,hget _ (by omega),agi,
     abb (by have:=hGG (2 ^ n-1) (by omega);have:=hGG (2 ^ n-1-2 ^ i) (by omega);omega),agi,hval]
    have happ:iB 64 ((List.range i).map (fun i=>bL (Vq qs (2 ^ i)-Vq qs 0))) [bL (Vq qs (2 ^ i)-Vq qs 0)]=some ((List.range (i+1)).map (fun i=>bL (Vq qs (2 ^ i)-Vq qs 0))):=Uo (fun i=>Vq qs (2 ^ i)-Vq qs 0) (by omega) rfl
    rw[happ,agi]
    refine⟨_,rfl,?_⟩
    rw[j0 (by omega)]
    rfl
   ·right
    have:i=n:=by omega
    subst this
    exact⟨_,by rw[if_neg (by simp)],rfl⟩)
 rw[h1,h2]
 rfl
end Go.Proofs.Ytchndpjlijbplaa.P
namespace Go.Proofs.Ytchndpjlijbplaa.P
open Go.RowKit
def A2 (D:Nat->al) (P:Nat->Nat) (A:Nat->al) (s:Nat):Nat->Nat->al
 | 0,p=>D p
 | i+1,p=>if s.testBit i=true∧p=P i then A i else A2 D P A s i p
section
variable {D A:Nat->al} {P:Nat->Nat} {s m:Nat}
theorem JC (hd:∀i j,i<j->j<m->P i≠P j) {i:Nat} (hs:s.testBit i=true):∀k,i<k->k<=m->A2 D P A s k (P i)=A i
 | 0,h,_=>by omega
 | j+1,h,hk=>by
  simp only[A2]
  by_cases hij:i=j
  ·subst hij;rw[if_pos ⟨hs,rfl⟩]
  ·rw[if_neg (fun h2=>hd i j (by omega) (by omega) h2.2)]
   exact JC hd hs j (by omega) (by omega)
theorem pF {p:Nat} : ∀k,(∀i,i<k->s.testBit i=true->p≠P i)->A2 D P A s k p=D p
 | 0,_=>rfl
 | j+1,h=>by
  simp only[A2]
  rw[if_neg (fun h2=>h j (by omega) h2.1 h2.2)]
  exact pF j fun i hi=>h i (by omega)
theorem Xj {p:Nat} : ∀k,A2 D P A s k p=D p∨∃i,i<k∧A2 D P A s k p=A i
 | 0 =>.inl rfl
 | j+1=>by
  simp only[A2]
  by_cases h:s.testBit j=true∧p=P j
  ·rw[if_pos h];exact .inr ⟨j,by omega,rfl⟩
  ·rw[if_neg h]
   rcases Xj (p:=p) j with h1|⟨i,hi,h1⟩
   ·exact .inl h1
   ·exact .inr ⟨i,by omega,h1⟩
end
variable {N m:Nat} {tk:List Tk} {r:Nat->Int} {P:Nat->Nat} {A D:Nat->al}
def xS (N m:Nat) (p3:List Int) (P:Nat->Nat):Prop:=p3.length=m∧∀i,i<m->∃x,p3[i]? = some x∧uI .i64 (IntKind.i64.wrap x) (N:Int)=some (P i:Int)∧P i<N
theorem E3 {p1:List al} {p3:List Int} {p4:List al} {s:Nat} (h1:p1.length=N) (h3:xS N m p3 P) (hm:m<=3) (h4:∀i,i<m->p4[i]? = some (A i)) (hs:s<8) :
  aO (du p1 p3 p4 (s:Int)) (0,(List.range N).map D)=some ((List.range N).map (A2 D P A s m)):=by
 obtain⟨hl,hP⟩:=h3
 have key:=fun hst hend=>yo (body:=du p1 p3 p4 (s:Int)) p3 (by omega) (fun i (l:List al)=>l=(List.range N).map (A2 D P A s i)) (fun l=>l=(List.range N).map (A2 D P A s m)) (s0:=(List.range N).map D) rfl hst hend
 refine (key ?_ ?_).elim fun x ⟨h1,hx⟩=>hx ▸ h1
 ·rintro i x _ hx rfl
  have hi:=bW hx
  obtain⟨x',q1,q2,q3⟩:=hP i (by omega)
  obtain⟨q,t1,t2⟩:=Uv s hs i (by omega)
  rw[q1]at hx;cases hx
  refine⟨_,?_,rfl⟩
  simp only[du]
  rw[if_pos (by simp;omega),t1,agi,t2,bX (by omega)]
  by_cases hb:s.testBit i=true
  ·rw[if_pos hb,bG q1,agi,h1,q2,agi,bG (h4 i (by omega)),agi,bG (bK _ q3),agi,afM,fQ]
   have:(fun j=>if j=P i then A i else A2 D P A s i j)=A2 D P A s (i+1):=funext fun p=>by simp only[A2,hb,true_and]
   rw[this]
  ·rw[if_neg hb]
   have:A2 D P A s i=A2 D P A s (i+1):=funext fun p=>by simp only[A2];rw[if_neg (fun h=>hb h.1)]
   rw[this]
 ·rintro _ rfl
  refine⟨_,?_,rfl⟩
  simp only[du]
  rw[if_neg (by simp),hl]
def Cd (N m:Nat) (tk:List Tk) (D:Nat->al) (P:Nat->Nat) (A:Nat->al) (s:Nat) (e z:Nat->Rat):Prop :=
 (∀p,p<N->A2 D P A s m p=bL (e p))∧Ul N tk e z∧∀p,p<N->LF (z p)<=Xs 6
theorem adU {l:List al} (x:al) (hl:l.length<=100):iB 64 l [x]=some (l++[x]):=by
 unfold iB
 have:(17592186044416:Nat)<=maxLen:=by decide
 rw[if_pos ⟨by simp;omega,by simp;omega⟩]
theorem YY {p3:List Int} {p4:List al} {d:Nat->Rat} {a:Nat} (hN:N<=12) (ha:a<N) (hs:∀t∈tk,LF t.2.2<=6) (hd:∀p,p<N->LF (d p)<=6)
  (h3:xS N m p3 P) (hm:m<=3) (h4:∀i,i<m->p4[i]? = some (A i)) (hA:∀i,i<m->(A i).aJ.aa.length<=6∧(A i).aL.aa.length<=6) :
  ∃q,aO (dt (lN N tk) (gw N d) p3 p4 true (a:Int)) (0,[])=some q ∧
   (q=.inr true∨∃e z:Nat->Nat->Rat,q=.inl (gw (2 ^ m) (fun s=>z s a))∧∀s,s<2 ^ m->Cd N m tk (fun p=>bL (d p)) P A s (e s) (z s)):=by
 have h8:=Rb hm
 refine cP (body:=dt (lN N tk) (gw N d) p3 p4 true (a:Int))
  (fun i st=>st.1=(i:Int)∧st.2.length=i∧∀s,s<i->∃ez:(Nat->Rat)×(Nat->Rat),Cd N m tk (fun p=>bL (d p)) P A s ez.1 ez.2∧st.2[s]? = some (bL (ez.2 a))) (2 ^ m) _ (s:=(0,[])) ⟨rfl,rfl,fun s h=>by omega⟩ (ku (by omega)) ?_
 rintro i ⟨k,l⟩ hi ⟨hk,hl,hG⟩
 simp only at hk hl hG
 subst hk
 simp only[dt]
 rw[h3.1,Vx m (by omega),agi]
 by_cases him:i<2 ^ m
 ·rw[if_pos (decide_eq_true (by omega))]
  have happ:iB 64 [] (gw N d)=some (gw N d):=by
   unfold iB
   have:(17592186044416:Nat)<=maxLen:=by decide
   rw[if_pos ⟨by simp[jk];omega,by simp[jk];omega⟩,agu]
  have hlp:=E3 (D:=fun p=>bL (d p)) (p1:=gw N d) (s:=i) (jk d) h3 hm h4 (by omega)
  have hlp':aO (du (gw N d) p3 p4 (i:Int)) (0,gw N d)=some ((List.range N).map (A2 (fun p=>bL (d p)) P A i m)):=hlp
  rw[happ,agi,hlp',agi]
  have hsz:SzL ((List.range N).map (A2 (fun p=>bL (d p)) P A i m)) 6:=fun f hf=>by
   obtain⟨p,hp,rfl⟩:=aeN.1 hf
   have hp:=agq.1 hp
   rcases Xj (D:=fun p=>bL (d p)) (P:=P) (A:=A) (s:=i) (p:=p) m with h|⟨j,hj,h⟩
   ·rw[h];exact BY (hd p hp)
   ·rw[h];exact hA j hj
  rcases KR (K:=6) (M:=12) (n:=lN N tk) (by decide) (abn hs) hsz (by simp;omega) (.inl (by simp only[lN];omega)) aba with⟨_,hO⟩|⟨N',tk',e,r',g1,g2,g3,_,_,_,_,_,⟨_,hO⟩|⟨_,z,hz,hO,hzs⟩⟩
  ·right
   exact⟨_,by rw[hO];rfl,.inl rfl⟩
  ·right
   exact⟨_,by rw[hO];rfl,.inl rfl⟩
  ·left
   obtain⟨rfl,rfl⟩:=Ts g1
   refine⟨him,(((i+1:Nat):Int),l++[bL (z a)]),?_,rfl,?_,?_⟩
   rotate_left
   ·simp[hl]
   ·intro s hs'
    by_cases hsi:s=i
    ·subst hsi
     refine⟨(e,z),⟨fun p hp =>?_,hz,fun p hp=>ack hN hp (hzs p hp)⟩,?_⟩
     ·have:=bK (A2 (fun p=>bL (d p)) P A s m) hp
      rw[g3,oS e hp]at this
      exact (Option.some.inj this).symm
     ·simp only
      rw[aft (by omega),hl,afR];rfl
    ·obtain⟨ez,t1,t2⟩:=hG s (by omega)
     exact⟨ez,t1,by simp only;rw[afs (by omega)];exact t2⟩
   ·rw[hO,agi]
    simp only[jk]
    rw[if_neg (by simp),if_neg (by simp),bG (oS z ha),agi,adU _ (by omega),agi,bX (by omega)]
 ·right
  have:i=2 ^ m:=by omega
  subst this
  rw[if_neg (by rw[decide_eq_true_eq];omega)]
  refine⟨_,rfl,.inr ?_⟩
  have hG':∀s,∃ez:(Nat->Rat)×(Nat->Rat),s<2 ^ m->Cd N m tk (fun p=>bL (d p)) P A s ez.1 ez.2∧l[s]? = some (bL (ez.2 a)):=fun s=>by
   by_cases h:s<2 ^ m
   ·obtain⟨ez,h⟩:=hG s h;exact⟨ez,fun _=>h⟩
   ·exact⟨(fun _=>0,fun _=>0),fun h'=>absurd h' h⟩
  obtain⟨f,hf⟩:=Classical.axiomOfChoice hG'
  refine⟨fun s=>(f s).1,fun s=>(f s).2,?_,fun s hs=>(hf s hs).1⟩
  rw[eM hl fun s hs=>(hf s hs).2]
  rfl
theorem I0:∀n,cg n (fun _=>0)=0
 | 0=>rfl
 | n+1=>by simp only[cg,I0 n];grind
theorem M7 (l:List Tk) (p:Nat):mU l (fun _=>0) p=0:=by
 have:=JM l 0 (fun _=>0) p
 simpa using this
theorem M6 (l:List Tk) (p:Nat) (g:Nat->Nat->Rat):∀n,mU l (fun j=>cg n (fun i=>g i j)) p=cg n (fun i=>mU l (g i) p)
 | 0=>M7 l p
 | n+1=>by
  simp only[cg]
  rw[<- M6 l p g n,<- Ta]
theorem abp {d:Nat->Rat} {e z:Nat->Nat->Rat} (hdis:∀i j,i<j->j<m->P i≠P j) (hg:∀s,s<2 ^ m->Cd N m tk (fun p=>bL (d p)) P A s (e s) (z s)) {s p:Nat} (hs:s<2 ^ m) (hp:p<N) :
  e s p=e 0 p+cg m (fun i=>if s.testBit i then e (2 ^ i) p-e 0 p else 0):=by
 have hpow:∀i,i<m->2 ^ i<2 ^ m:=fun i hi=>Nat.pow_lt_pow_right (by omega) hi
 have h0:A2 (fun p=>bL (d p)) P A 0 m p=bL (d p):=pF m fun i _ h=>by simp at h
 have he0:bL (e 0 p)=bL (d p):=by rw[<- (hg 0 (Nat.two_pow_pos m)).1 p hp,h0]
 have hmiss:∀j,j<m->p≠P j->e (2 ^ j) p=e 0 p:=fun j hj hne=>by
  have:A2 (fun p=>bL (d p)) P A (2 ^ j) m p=bL (d p):=pF m fun i hi h=>by
   have:j=i:=by simpa [agl] using h
   subst this;exact hne
  apply vT
  rw[he0,<- this,(hg _ (hpow j hj)).1 p hp]
 by_cases hex:∃i,i<m∧s.testBit i=true∧p=P i
 ·obtain⟨i,hi,hb,rfl⟩:=hex
  have h1:e s (P i)=e (2 ^ i) (P i):=by
   apply vT
   rw[<- (hg s hs).1 _ hp,<- (hg _ (hpow i hi)).1 _ hp,JC hdis hb m hi (aeO _),JC hdis (by simp[agl]) m hi (aeO _)]
  have h2:cg m (fun j=>if s.testBit j then e (2 ^ j) (P i)-e 0 (P i) else 0)=cg m (fun j=>if j=i then e s (P i)-e 0 (P i) else 0):=ep fun j hj=>by
   by_cases hji:j=i
   ·subst hji;rw[if_pos hb,if_pos rfl,h1]
   ·rw[if_neg hji]
    have hne:P i≠P j:=by
     rcases afz i j with h|h
     ·exact hdis i j h hj
     ·exact fun h'=>hdis j i (by omega) hi h'.symm
    by_cases hbj:s.testBit j=true
    ·rw[if_pos hbj,hmiss j hj hne,Rat.sub_self]
    ·rw[if_neg hbj]
  rw[h2,E9 hi];grind
 ·have h1:e s p=e 0 p:=by
   apply vT
   rw[he0,<- (hg s hs).1 _ hp]
   exact pF m fun i hi hb h=>hex ⟨i,hi,hb,h⟩
  have h2:cg m (fun j=>if s.testBit j then e (2 ^ j) p-e 0 p else 0)=cg m (fun _=>0):=ep fun j hj=>by
   by_cases hbj:s.testBit j=true
   ·rw[if_pos hbj,hmiss j hj (fun h=>hex ⟨j,hj,hbj,h⟩),Rat.sub_self]
   ·rw[if_neg hbj]
  rw[h2,I0,h1];grind
theorem abq {d:Nat->Rat} {e z:Nat->Nat->Rat} (hR:jI N tk) (hr:mO N tk r) (h0:∀p,p<N->0<=r p) (hdis:∀i j,i<j->j<m->P i≠P j) (hg:∀s,s<2 ^ m->Cd N m tk (fun p=>bL (d p)) P A s (e s) (z s)) {s:Nat} (hs:s<2 ^ m) :
  ∀p,p<N->z s p=z 0 p+cg m (fun i=>if s.testBit i then z (2 ^ i) p-z 0 p else 0):=by
 have hpow:∀i,i<m->2 ^ i<2 ^ m:=fun i hi=>Nat.pow_lt_pow_right (by omega) hi
 refine Rl hR hr h0 (hg s hs).2.1 (fun p hp =>?_)
 have hz0:=(hg 0 (Nat.two_pow_pos m)).2.1 p hp
 have hin:mU tk (fun p=>z 0 p+cg m (fun i=>if s.testBit i then z (2 ^ i) p-z 0 p else 0)) p=mU tk (z 0) p+cg m (fun i=>if s.testBit i then mU tk (z (2 ^ i)) p-mU tk (z 0) p else 0):=by
  rw[Ta tk (z 0),M6 tk p (fun i p=>if s.testBit i then z (2 ^ i) p-z 0 p else 0)]
  congr 1
  refine ep fun i hi =>?_
  by_cases hb:s.testBit i=true
  ·simp only[if_pos hb]
   rw[JN]
  ·simp only[if_neg hb]
   exact M7 tk p
 have hE:=abp hdis hg hs hp
 have hsum:cg m (fun i=>if s.testBit i then z (2 ^ i) p-z 0 p else 0)=cg m (fun i=>if s.testBit i then e (2 ^ i) p-e 0 p else 0)+cg m (fun i=>if s.testBit i then mU tk (z (2 ^ i)) p-mU tk (z 0) p else 0):=by
  rw[<- Ys]
  refine ep fun i hi =>?_
  by_cases hb:s.testBit i=true
  ·simp only[if_pos hb]
   have:=(hg _ (hpow i hi)).2.1 p hp
   grind
  ·simp only[if_neg hb];grind
 rw[hin,hE,hsum]
 grind
theorem Ms (hN:N<=2000) (hlen:tk.length<=8000) (htk:∀t∈tk,t.1<N∧t.2.1<N) (s:Nat->Bool) {l:List al} (hl:l.length=N):aO (iR (lN N tk) l) ((0:Int),(List.range N).map s)=some ((List.range N).map (fK tk s N)):=by
 have h:=UN hN hlen htk s hl
 have e:iR (lN N tk) l=iZ (lN N tk) l:=rfl
 rw[e];exact h
theorem aby {p1:List al} {p3:List Int} (h1:p1.length=N) (h3:xS N m p3 P) (hm:m<=3) :
  aO (ej p1 p3 true) 0=some (.inr true)∨(aO (ej p1 p3 true) 0=some (.inl ())∧∀i j,i<j->j<m->P i≠P j):=by
 obtain⟨hl,hP⟩:=h3
 have hin:∀i,i<m->aO (fe p1 p3 true (i:Int)) 0=some (match fl (fun k (_:Int)=>if P k=P i then some true else none) 0 (p3.take i) with|none =>.inl ()|some r =>.inr r):=fun i hi=>by
  obtain⟨xi,a1,a2,a3⟩:=hP i hi
  have hlt:(p3.take i).length=i:=by simp;omega
  refine Eq.trans (y9 (p3.take i) (body:=fe p1 p3 true (i:Int)) (fun k (_:Int)=>if P k=P i then some true else none) (by omega) (fun k x hx =>?_) ?_) (by cases fl (fun k (_:Int)=>if P k=P i then some true else none) 0 (p3.take i)<;>rfl)
  ·have hk:=bW hx
   obtain⟨xk,b1,b2,b3⟩:=hP k (by omega)
   simp only[fe]
   rw[if_pos (by simp;omega),bG b1,agi,h1,b2,agi,bG a1,agi,a2,agi,bX (by omega)]
   by_cases h:P k=P i
   ·rw[if_pos (by rw[h];simp),if_pos h]
   ·rw[if_neg (by simp;omega),if_neg h]
  ·rw[hlt]
   simp only[fe]
   rw[if_neg (by simp)]
 have hout:=y9 p3 (body:=ej p1 p3 true) (fun i _=>fl (fun k (_:Int)=>if P k=P i then some true else none) 0 (p3.take i)) (by omega) (fun i x hx=>by
  have hi:=bW hx
  simp only[ej]
  rw[if_pos (by simp;omega),hin i (by omega),agi,bX (by omega)]
  cases fl (fun k (_:Int)=>if P k=P i then some true else none) 0 (p3.take i)<;>rfl) (by
  simp only[ej]
  rw[if_neg (by simp)])
 rw[hout]
 cases hf:fl (fun (i:Nat) (_:Int)=>fl (fun k (_:Int)=>if P k=P i then some true else none) 0 (p3.take i)) 0 p3 with
 | none =>
  refine .inr ⟨rfl,fun i j hij hj he =>?_⟩
  obtain⟨xj,a1,_,_⟩:=hP j hj
  obtain⟨xi,b1,_,_⟩:=hP i (by omega)
  have h1:=gK.1 hf j xj a1
  rw[afB]at h1
  have h2:=gK.1 h1 i xi (by rw[List.getElem?_take_of_lt hij];exact b1)
  rw[afB,if_pos he]at h2
  cases h2
 | some q =>
  left
  obtain⟨j,x,_,h2,_⟩:=iG hf
  obtain⟨k,y,_,h3,_⟩:=iG h2
  split at h3
  ·cases h3;rfl
  ·cases h3
theorem Fp (a0:de) (a1:List al) (a2:Int) (a3:List Int) (a4:List al) (h0:a0.aw.length<=17592186044416) (h1:a1.length<=17592186044416) (h2:(Lit.int .u8 a2).wf=true) (h3:∀y∈a3,(Lit.int .u8 y).wf=true) (h4:a4.length<=17592186044416):fW a0 a1 a2 a3 a4=some true:=by
 obtain⟨b1,e1,f1⟩:=abE h0
 obtain⟨b2,e2,f2⟩:=aaE 4 h1
 obtain⟨b3,e3,f3⟩:=aaE 4 h4
 unfold fW
 rw[aae,agi,e1,agi]
 cases b1 with
 | false=>rfl
 | true =>
 obtain⟨ht40,hnet,hports⟩:=f1 rfl
 simp only[af8,afo,if_false]
 rw[e2,agi]
 cases b2 with
 | false=>rfl
 | true =>
 obtain⟨hl14,ham'⟩:=f2 rfl
 have ham:SzL a1 6:=fun f hf=>by have:=ham' f hf;omega
 simp only[af8,afo,if_false]
 by_cases hl0:a1.length=0
 ·rw[hl0];rfl
 rw[if_neg (by simpa using hl0)]
 by_cases hl3:a3.length<=3
 rotate_left
 ·rw[if_pos (by simp;omega)];rfl
 rw[if_neg (by simp;omega)]
 by_cases hl4:a4.length<a3.length
 ·rw[if_pos (by simp;omega)];rfl
 rw[if_neg (by simp;omega),e3,agi]
 cases b3 with
 | false=>rfl
 | true =>
 obtain⟨hl14b,ham4⟩:=f3 rfl
 obtain⟨a,ha,hmod⟩:=XN h2 (show 0<a1.length by omega)
 simp only[af8,afo,if_false,Option.bind_some]
 rw[hmod,agi]
 have hPx:∀i,∃P:Nat,i<a3.length->∃x,a3[i]? = some x∧uI .i64 (IntKind.i64.wrap x) (a1.length:Int)=some (P:Int)∧P<a1.length:=fun i=>by
  by_cases hi:i<a3.length
  ·obtain⟨P,q1,q2⟩:=XN (h3 _ (ae0 hi)) (show 0<a1.length by omega)
   exact⟨P,fun _=>⟨_,ae1 hi,q2,q1⟩⟩
  ·exact⟨0,fun h=>absurd h hi⟩
 obtain⟨P,hP⟩:=Classical.axiomOfChoice hPx
 have hPA:xS a1.length a3.length a3 P:=⟨rfl,hP⟩
 rcases aby rfl hPA hl3 with hd|⟨hd,hdis⟩
 ·rw[hd];rfl
 rw[hd,agi]
 simp only
 have hA4:∀i,i<a3.length->a4[i]? = some (a4.getD i zF):=fun i hi=>by rw[afr,ae1 (by omega)];rfl
 have hAs:∀i,i<a3.length->(a4.getD i zF).aJ.aa.length<=6∧(a4.getD i zF).aL.aa.length<=6:=fun i hi=>by
  have:=ham4 _ (afg (hA4 i hi));omega
 have hstop:∀c:Int,c≠0->iA a0 a1=some ([],c)->aO (dt a0 a1 a3 a4 true (a:Int)) (0,[])=some (.inr true):=fun c hc hO=>by
  have h8:=Rb hl3
  obtain⟨D,hD⟩:∃D:Nat->al,a1=(List.range a1.length).map D:=⟨fun p=>a1.getD p zF,eM rfl fun p hp=>by rw[afr,ae1 hp];rfl⟩
  have hset:=E3 (D:=D) (p1:=a1) (s:=0) rfl hPA hl3 hA4 (by omega)
  rw[<- hD]at hset
  have hsame:(List.range a1.length).map (A2 D P (fun i=>a4.getD i zF) 0 a3.length)=a1:=by
   refine Eq.trans (agc fun p _ =>?_) hD.symm
   exact pF _ fun i _ h=>by simp at h
  rw[hsame]at hset
  have happ:iB 64 [] a1=some a1:=by
   unfold iB
   have:(17592186044416:Nat)<=maxLen:=by decide
   rw[if_pos ⟨by simp;omega,by simp;omega⟩,agu]
  have hbody:dt a0 a1 a3 a4 true (a:Int) (0,[])=some (.inr (.inr true)):=by
   have hset':aO (du a1 a3 a4 0) (0,a1)=some a1:=hset
   simp only[dt]
   rw[Vx a3.length (by omega),agi,if_pos (decide_eq_true (by omega)),happ,agi,hset',agi,hO,agi,if_pos (by simpa using hc)]
  exact DU (n:=FU-1) hbody
 rcases KR (K:=6) (M:=12) (by decide) hnet ham h1 hports aba with⟨hnv,hO⟩|⟨N,tk,d,r,rfl,hR,hld,hN,hs,hds,hr1,hr2,⟨_,hO⟩|⟨ht,x,hx,hO,hxs⟩⟩
 ·rw[hstop 1 (by decide) hO];rfl
 ·rw[hstop 24 (by decide) hO];rfl
 have hNl:a1.length=N:=by rw[hld,jk]
 rw[hNl]at hPA ha
 subst hld
 obtain⟨q,hq1,hq2⟩:=YY (P:=P) (A:=fun i=>a4.getD i zF) (a:=a) (p3:=a3) (p4:=a4) (m:=a3.length) hN ha hs hds hPA hl3 hA4 hAs
 rw[hq1,agi]
 rcases hq2 with rfl|⟨e,z,rfl,hg⟩
 ·rfl
 simp only
 have h8:=Rb hl3
 have hN2:=hR.ports
 have hXs:Xs 6=240518168576:=by decide
 have hLm:eF=4398046511104:=rfl
 have hpow:∀i,i<a3.length->2 ^ i<2 ^ a3.length:=fun i hi=>Nat.pow_lt_pow_right (by omega) hi
 have hV:∀s,s<2 ^ a3.length->LF (z s a)<=Xs 6:=fun s hs=>(hg s hs).2.2 a ha
 have hVq:∀s,s<2 ^ a3.length->Vq ((List.range (2 ^ a3.length)).map fun s=>z s a) s=z s a:=fun s hs=>by
  unfold Vq
  rw[afr,bK _ hs];rfl
 have hSh:=V4 (n:=a3.length) (qs:=(List.range (2 ^ a3.length)).map fun s=>z s a) (K:=Xs 6) hl3 (by simp) (fun q hq=>by
  obtain⟨s,hs,rfl⟩:=aeN.1 hq
  exact hV s (agq.1 hs)) (by omega) (by omega) (fun s hs=>by
  rw[hVq s hs,hVq 0 h8.2,abq hR hr2 (Ff hr2 ht) hdis hg hs a ha]
  congr 1
  refine ep fun i hi =>?_
  rw[hVq _ (hpow i hi)])
 rw[show ((List.range (2 ^ a3.length)).map fun s=>z s a).map bL=gw (2 ^ a3.length) (fun s=>z s a) by unfold gw;rw[List.map_map];rfl]at hSh
 rw[hSh,agi]
 simp only[afi,afj]
 rw[if_neg (by simp),agi,if_neg (by simp)]
 rw[y9 a3 (fun _ _=>(none:Option Bool)) (by omega) (fun i f hf =>?_) (by simp only[jA];rw[if_neg (by simp)])]
 ·have hno:∀(l:List Int) i,fl (fun _ _=>(none:Option Bool)) i l=none:=by
   intro l
   induction l with
   | nil=>intro i;rfl
   | cons a l ih=>intro i;simp only[fl];exact ih _
  rw[hno];rfl
 ·have hi:=bW hf
  obtain⟨y,q1,q2,q3⟩:=hPA.2 i hi
  have hi2:=hpow i hi
  have hV0:=hV 0 h8.2
  have hVi:=hV _ hi2
  have hLs:=zE (z (2 ^ i) a) (z 0 a)
  have hz0:idx (gw (2 ^ a3.length) (fun s=>z s a)) 0=some (bL (z 0 a)):=bG (i:=0) (oS (fun s=>z s a) h8.2)
  simp only[jA]
  rw[if_pos (by simp;omega),Vx i (by omega),agi,bG (oS (fun s=>z s a) hi2),agi,hz0,agi,R1 (by omega),agi,bG (bK _ hi),agi,hVq _ hi2,hVq 0 h8.2,Z9 (by omega),agi,decide_eq_true rfl,if_neg (by simp)]
  simp only[jk]
  rw[Eb _ (by omega) hN2,agi,bG q1,agi,q2,agi,bG (x:=false) (by rw[ahp,if_pos q3]),agi,afM]
  have hini:(List.replicate N false).set (P i) true=(List.range N).map fun p=>decide (p=P i):=by
   have:List.replicate N false=(List.range N).map fun _=>false:=eM (by simp) fun j hj=>by rw[ahp,if_pos hj]
   rw[this,fQ]
   exact agc fun p _=>by
    by_cases h:p=P i
    ·rw[if_pos h,decide_eq_true h]
    ·rw[if_neg h,decide_eq_false h]
  rw[hini,Ms hN2 hR.takes hR.rng _ (jk d),agi,bG (bK _ ha),agi,bX (by omega)]
  by_cases hreach:fK tk (fun p=>decide (p=P i)) N a=true
  ·rw[hreach];rfl
  ·have hclosed:=Nd (s:=fun p=>decide (p=P i)) hR.rng q3 (by simp)
   have hsame:=aaf hR hr2 (Ff hr2 ht) (hg _ hi2).2.1 (hg 0 h8.2).2.1 (fun p=>fK tk (fun p=>decide (p=P i)) N p=true) hclosed (fun p hp hn=>by
    have hpk:p≠P i:=fun h=>hn (Qy (by simpa using h))
    have h1:A2 (fun p=>bL (d p)) P (fun i=>a4.getD i zF) (2 ^ i) a3.length p=bL (d p):=pF _ fun j hj h=>by
     have:i=j:=by simpa [agl] using h
     subst this;exact hpk
    have h2:A2 (fun p=>bL (d p)) P (fun i=>a4.getD i zF) 0 a3.length p=bL (d p):=pF _ fun j _ h=>by simp at h
    apply vT
    rw[<- (hg _ hi2).1 p hp,<- (hg 0 h8.2).1 p hp,h1,h2]) a ha hreach
   rw[Bool.eq_false_iff.2 hreach]
   simp only[agM,if_true]
   rw[hsame,Rat.sub_self,Jd (by have:=RV;omega),agi]
   rfl
end Go.Proofs.Ytchndpjlijbplaa.P
