import Derived.Test.YtobnihfgnbnncaaGreatHf
set_option linter.unusedSimpArgs false
set_option linter.unusedVariables false
set_option linter.defProp false
noncomputable section
open Go.Proofs.Tryz
namespace Go.Proofs.YtobnihfgnbnncaaGreat.P
open Go.RowKit
def ahr{N K:Nat}{e:QE}(d:Vp N K e.T)(q:N<=2000){k:Nat}{v:Rat}(h:K+LF v+10<=fb):fC (mkEq e) (k:Int) (cw v)=some (mkEq (ahq e k v),()):=by
 have r:=d.len;unfold fC;rw[find_eq d.sorted (by omega),alC];simp only;have g:=My;rcases zB (k:=k) d.sorted with⟨a,i⟩|⟨c,a,i⟩
 ·rw[a];simp only[Option.isSome_none,akN,if_false];have j:(pN e.T k).length<=e.T.length:=amH ..;have b:abE 72 (mkEq e).cB ((pN e.T k).length:Int) [fU.mk (k:Int) (cw v)]=some ((FH e.T k v).map kp):=by
   unfold abE mkEq;simp only[akJ,List.length_cons,List.length_nil,Int.toNat_natCast];rw[if_pos ⟨by omega,by omega,by omega,by omega⟩];congr 1;have f:e.T.map kp=(pN e.T k).map kp++(Fk e.T k).map kp:=by grind
   unfold FH Ni;rw[a,f,List.take_left' (by simp),List.drop_left' (by simp),als,akn];simp only[Option.getD_none,List.cons_append,List.nil_append];congr 2;unfold kp;grind
  rw[b];rfl
 ·rw[a];simp only[Option.isSome_some,if_true];have l:e.T[(pN e.T k).length]? = some (k,c):=by
   grind
  have m:(e.T.map kp)[(pN e.T k).length]? = some (kp (k,c)):=by grind
  have n:LF c<=K:=d.sz (k,c) (qT a);have o:(mkEq e).cB=e.T.map kp:=rfl;rw[o,aR m,alC,ad9,alC];simp only[kp];rw[H7 (by omega),alC,ak8];unfold ahq FH Ni mkEq;rw[a];simp only[Option.getD_some];have f:e.T.map kp=(pN e.T k).map kp++kp (k,c)::(Fk e.T k).map kp:=by grind
  have p:((e.T.map fun t=>fU.mk (t.1:Int) (cw t.2)).set (pN e.T k).length (fU.mk (k:Int) (cw (c+v*1))))=(pN e.T k++(k,c+v)::Fk e.T k).map kp:=by
   show (e.T.map kp).set (pN e.T k).length _=_;rw[f,List.set_append_right _ _ (by simp),akJ,aln,List.set_cons_zero,als,akn];unfold kp;grind
  rw[<- p];rfl
def jY(e:QE)(p:Nat):QE:=match gj e.T p with|none=>e|some c=>⟨e.D / (1-c),(n5 e.T p).map fun t=>(t.1,t.2 / (1-c))⟩
def aaJ{T:List Tm}{k:Nat}{c:Rat}(e:T.length<=2000)(g:T=pN T k++(k,c)::Fk T k):aaI (T.map kp) ((pN T k).length:Int) (IntKind.i64.wrap (((pN T k).length:Int)+1))=some ((n5 T k).map kp):=by
 have a:T.length=(pN T k).length+1+(Fk T k).length:=by
  grind
 rw[bc (by omega)];unfold aaI;have:(2000:Nat)<=maxLen:=by decide
 rw[if_pos ⟨by omega,by omega,by simp;omega,by simp;omega⟩,ak8,ak8];have b:T.map kp=(pN T k).map kp++kp (k,c)::(Fk T k).map kp:=by grind
 rw[b,List.take_left' (by simp)];have d:((pN T k).map kp++kp (k,c)::(Fk T k).map kp).drop ((pN T k).length+1)=(Fk T k).map kp:=by
  rw[alL,alM (by simp)];simp
 rw[d];unfold n5;grind
def afh{a b:Rat}(h:LF a+LF b<=fb)(c:b≠0):qX (cw a) (cw b)=some (cw (a / b),0):=ahf h c
def aef{N K:Nat}{e:QE}(a:Vp N K e.T)(G:LF e.D<=K)(H:N<=2000)(I:2*K+10<=fb){p:Nat}(s:∀c,gj e.T p=some c->1-c≠0):eF (mkEq e) (p:Int)=some (mkEq (jY e p),()):=by
 have J:=a.len;unfold eF;rw[find_eq a.sorted (by omega),alC];simp only;have m:=My;unfold jY;rcases zB (k:=p) a.sorted with⟨b,n⟩|⟨c,b,n⟩
 ·rw[b];rfl
 ·rw[b];simp only[Option.isSome_some,alG,akN,if_false];have v:e.T[(pN e.T p).length]? = some (p,c):=by
   grind
  have w:(e.T.map kp)[(pN e.T p).length]? = some (kp (p,c)):=by grind
  have x:LF c<=K:=a.sz (p,c) (qT b);have o:=s c b;have y:(mkEq e).cB=e.T.map kp:=rfl;have z:(mkEq e).bK=cw e.D:=rfl;rw[ad9,alC,y,aR w,alC];simp only[kp];have A:=S7 1 c;rw[afa (by omega),alC];have B:iE (e.T.map kp) ((pN e.T p).length:Int) (IntKind.i64.wrap (((pN e.T p).length:Int)+1))=some ((n5 e.T p).map kp):=by unfold iE;exact aaJ (by omega) n
  rw[B,alC,z];simp only;rw[afh (by omega) o,alC];have C:=(a.rem p).len;have key:=fun D d=>sg (body:=fK (cw (1-c),0) ((n5 e.T p).map kp)) (n5 e.T p) (by omega) (fun i (l:List fU)=>l.length=(n5 e.T p).length∧∀(j:Nat) t,(n5 e.T p)[j]? = some t->l[j]? = some (if j<i then kp (t.1,t.2 / (1-c)) else kp t)) (fun l=>l=((n5 e.T p).map fun t=>(t.1,t.2 / (1-c))).map kp) (s0:=(n5 e.T p).map kp)
   ⟨by simp,fun j t h=>by grind⟩ D d
  obtain⟨r,E,rfl⟩:=key (by
   rintro i t l h ⟨f,q⟩;have M:=aS h;have g:=q i t h;rw[if_neg (by omega)]at g;have F:=a.sz t (ko.1 (akG h)).1;refine⟨l.set i (kp (t.1,t.2 / (1-c))),?_,by simpa using f,fun j u O =>?_⟩
   ·simp only[fK];rw[if_pos (by simp;omega),aR g,alC];simp only[kp];rw[afh (by omega) o,alC,bc (by omega),ak8]
   ·rw[List.getElem?_set];grind) (by
   rintro l ⟨f,q⟩;refine⟨l,?_,?_⟩
   ·simp only[fK];grind
   ·apply ame;grind)
  rw[E,alC];rfl
def ll(c:Rat):List Tm->List Tm->List Tm
 | [],T=>T
 | b::B,T=>ll c B (FH T b.1 (c*b.2))
def Dr(e:QE)(p:Nat)(b:QE):QE:=match gj e.T p with|none=>e|some c=>⟨e.D+c*b.D,ll c b.T (n5 e.T p)⟩
def wo(c:Rat):∀(A B T:List Tm),ll c (A++B) T=ll c B (ll c A T)
 | [],_,_=>rfl
 | a::A,B,T=>by rw[alY,ll,ll,wo c A B]
def JI{T:List Tm}(h:ke T)(k:Nat)(v:Rat):ke (FH T k v):=acM h k _
def GJ(c:Rat):∀(B:List Tm){T:List Tm},ke T->ke (ll c B T)
 | [],_,h=>h
 | b::B,_,h=>GJ c B (JI h _ _)
def QI(c:Rat)(x:Nat->Rat):∀(B:List Tm){T:List Tm},ke T->eH (ll c B T) x=eH T x+c*eH B x
 | [],T,_=>by simp only[ll,eH];grind
 | b::B,T,h=>by
  rw[ll,QI c x B (JI h _ _),aeb h,eH];grind
def AB(c:Rat){R:Nat->Prop}:∀(B:List Tm){T:List Tm},(∀t∈T,R t.1)->(∀b∈B,R b.1)->∀t∈ll c B T,R t.1
 | [],_,h,_=>h
 | b::B,T,h,hB=>AB c B (T:=FH T b.1 (c*b.2)) (fun t a=>by
   rcases No.1 a with rfl|a
   ·simp_all
   ·exact h t (ko.1 a).1) fun u d=>hB u (alx _ d)
def P7{c:Rat}(f:0<=c):∀(B:List Tm){T:List Tm},(∀t∈T,0<=t.2)->(∀b∈B,0<=b.2)->∀t∈ll c B T,0<=t.2
 | [],_,h,_=>h
 | b::B,T,h,hB=>P7 f B (T:=FH T b.1 (c*b.2)) (fun t d=>by
   rcases No.1 d with rfl|d
   ·have i:=amF f (hB b (alw ..));simp only;cases e:gj T b.1 with
    | none=>grind
    | some a=>have:=h _ (qT e);grind
   ·exact h t (ko.1 d).1) fun u g=>hB u (alx _ g)
def Wd{K1 K2:Nat}{c:Rat}(n:LF c<=K1):∀(A B:List Tm){T:List Tm},ke (A++B)->(∀b∈A++B,LF b.2<=K2)->(∀t∈T,LF t.2<=K1)->∀t∈ll c A T,LF t.2<=2*K1+K2+1∧((∀a∈A,a.1≠t.1)->LF t.2<=K1)
 | [],_,_,_,_,h,t,d=>⟨by have:=h t d;omega,fun _=>h t d⟩
 | a::A,B,T,hs,g,h,t,d=>by
  obtain⟨e,z,f⟩:∃e z,a::A=e++[z]:=⟨(a::A).dropLast,(a::A).getLast (by simp),(List.dropLast_concat_getLast (by simp)).symm⟩;have j:e.length<(a::A).length:=by rw[f];simp
  rw[f,wo]at d;simp only[ll]at d;rw[f,alZ]at hs g;have k:=Wd n e ([z]++B) (T:=T) hs g h;have o:=g z (akw _ (akv _ (alw ..)));rw[f];rcases No.1 d with rfl|d
  ·refine⟨?_,fun hn=>absurd rfl (hn z (akw _ (alw ..)))⟩;simp only;have p:=vU c z.2;cases i:gj (ll c e T) z.1 with
   | none=>grind
   | some y =>
    have l:=(k _ (qT i)).2 fun u m=>by
     grind
    have:=xz y (c*z.2);grind
  ·obtain⟨l,h2⟩:=k t (ko.1 d).1;exact⟨l,fun hn=>h2 fun u m=>hn u (akv _ m)⟩
 termination_by A=>A.length
structure Vo(N K:Nat)(e:QE):Prop where
 t:Vp N K e.T
 d:LF e.D<=K
def Vo.mono{N K a:Nat}{e:QE}(h:Vo N K e)(b:K<=a):Vo N a e:=⟨h.t.mono b,akk h.d b⟩
def Yo(c:Rat){B:List Tm}{i:Nat}{b:Tm}(h:B[i]? = some b)(T:List Tm):ll c (B.take (i+1)) T=FH (ll c (B.take i) T) b.1 (c*b.2):=by
 obtain⟨a,d⟩:=akI.1 h;rw[amB a,wo,d];rfl
def P5{N a d:Nat}{c:Rat}(f:LF c<=a){B T:List Tm}(hB:Vp N d B)(e:Vp N a T)(i:Nat):Vp N (2*a+d+1) (ll c (B.take i) T) where
 sorted:=GJ c _ e.sorted
 lt:=AB c (R:=fun p=>p<N) _ e.lt fun b g=>hB.lt b (akU g)
 sz t h:=(Wd (K1:=a) (K2:=d) f (B.take i) (B.drop i) (by rw[alS];exact hB.sorted) (by rw[alS];exact hB.sz) e.sz t h).1
def aew{N d g:Nat}{e b:QE}(a:Vo N d e)(h:Vo N g b)(p:Nat):Vo N (2*d+g+1) (Dr e p b):=by
 unfold Dr;cases f:gj e.T p with
 | none=>exact a.mono (by omega)
 | some c =>
  have j:LF c<=d:=a.t.sz _ (qT f);have i:=P5 j h.t (a.t.rem p) b.T.length;rw[amd]at i;refine⟨i,?_⟩;have k:=xz e.D (c*b.D);have l:=vU c b.D;have:=a.d;have:=h.d;simp only;omega
def Le{N K:Nat}{e:QE}(b:Vo N K e)(p:Nat)(i:∀c,gj e.T p=some c->1-c≠0):Vo N (2*K+2) (jY e p):=by
 unfold jY;cases d:gj e.T p with
 | none=>exact b.mono (by omega)
 | some c =>
  have j:LF c<=K:=b.t.sz _ (qT d);have k:=S7 1 c;have l:=My;have h:=i c d;refine⟨⟨?_,?_,?_⟩,?_⟩
  ·simp only;rw[ke,amg];exact (Iu b.t.sorted p)
  ·intro t f;simp only[akh]at f;obtain⟨u,g,rfl⟩:=f;exact b.t.lt u (ko.1 g).1
  ·intro t f;simp only[akh]at f;obtain⟨u,g,rfl⟩:=f;have:=b.t.sz u (ko.1 g).1;have:=ZU (a:=u.2) h;grind
  ·have:=b.d;have:=ZU (a:=e.D) h;grind
def ah4{N h q:Nat}{e b:QE}(a:Vo N h e)(f:Vo N q b)(w:N<=2000)(O:4*h+3*q+20<=fb)(p:Nat):fD (mkEq e) (p:Int) (mkEq b)=some (mkEq (Dr e p b),()):=by
 have P:=a.t.len;unfold fD;rw[find_eq a.t.sorted (by omega),alC];simp only;unfold Dr;rcases zB (k:=p) a.t.sorted with⟨g,u⟩|⟨c,g,u⟩
 ·rw[g];rfl
 ·rw[g];simp only[Option.isSome_some,alG,akN,if_false];have x:e.T[(pN e.T p).length]? = some (p,c):=by
   grind
  have y:(e.T.map kp)[(pN e.T p).length]? = some (kp (p,c)):=by grind
  have j:LF c<=h:=a.t.sz (p,c) (qT g);have z:=a.d;have A:=f.d;have B:=f.t.len;have C:(mkEq e).cB=e.T.map kp:=rfl;have D:(mkEq b).cB=b.T.map kp:=rfl;have E:(mkEq b).bK=cw b.D:=rfl;have F:(mkEq e).bK=cw e.D:=rfl;have G:iE (e.T.map kp) ((pN e.T p).length:Int) (IntKind.i64.wrap (((pN e.T p).length:Int)+1))=some ((n5 e.T p).map kp):=by unfold iE;exact aaJ (by omega) u
  rw[C,aR y,alC,G,alC,F,E];have v:(kp (p,c)).jh=cw c:=rfl;rw[v,H7 (by omega),alC];have key:=fun H d=>sg (body:=gw (mkEq b) (kp (p,c))) b.T (by omega) (fun i (s:Int×List Int×Int×List Int×List fU)=>s=((cw (e.D+c*b.D)).bX.aq,(cw (e.D+c*b.D)).bX.aa,(cw (e.D+c*b.D)).b8.aq,(cw (e.D+c*b.D)).b8.aa,(ll c (b.T.take i) (n5 e.T p)).map kp))
   (fun s=>s=((cw (e.D+c*b.D)).bX.aq,(cw (e.D+c*b.D)).bX.aa,(cw (e.D+c*b.D)).b8.aq,(cw (e.D+c*b.D)).b8.aa,(ll c b.T (n5 e.T p)).map kp)) (s0:=((cw (e.D+c*b.D)).bX.aq,(cw (e.D+c*b.D)).bX.aa,(cw (e.D+c*b.D)).b8.aq,(cw (e.D+c*b.D)).b8.aa,(n5 e.T p).map kp)) rfl H d
  obtain⟨r,I,rfl⟩:=key (by
   rintro i t _ l rfl;have Q:=aS l;have m:=akG l;have J:=f.t.sz t m;have n:=P5 j f.t (a.t.rem p) i;have R:=vU c t.2;have o:(b.T.map kp)[i]? = some (kp t):=by grind
   have S:=ZW;refine⟨_,?_,rfl⟩;simp only[gw];rw[if_pos (by grind),D,aR o,alC,agf,alC];have K:(kp t).jh=cw t.2:=rfl;have L:(kp t).qf=(t.1:Int):=rfl;rw[v,K,H7 (by omega),alC,Rat.zero_add,L];have M:aJ.mk (ak.mk (aN.mk (cw (e.D+c*b.D)).bX.aq (cw (e.D+c*b.D)).bX.aa) (aN.mk (cw (e.D+c*b.D)).b8.aq (cw (e.D+c*b.D)).b8.aa)) ((ll c (b.T.take i) (n5 e.T p)).map kp)=mkEq ⟨e.D+c*b.D,ll c (b.T.take i) (n5 e.T p)⟩:=rfl;rw[M,ahr (e:=⟨e.D+c*b.D,ll c (b.T.take i) (n5 e.T p)⟩) n w (by omega),alC,bc (by omega),Yo c l];rfl) (by
   rintro _ rfl;refine⟨_,?_,rfl⟩;simp only[gw];grind)
  rw[I,alC];rfl
def VN{T:List Tm}{k:Nat}(h:gj T k=none):∀t∈T,t.1≠k:=by
 induction T with
 | nil=>simp_all
 | cons u T a =>
  rw[gj]at h;grind
def YI{e:QE}(d:ke e.T){p:Nat}(f:∀c,gj e.T p=some c->1-c≠0)(s:Rat)(x:Nat->Rat):(1-(gj e.T p).getD 0)*(s*(jY e p).D+eH (jY e p).T x)=s*e.D+eH e.T x-(gj e.T p).getD 0*x p:=by
 unfold jY;have b:=zm d p x;cases a:gj e.T p with
 | none=>grind
 | some c =>
  have g:=f c a;rw[a]at b;simp only[Option.getD_some]at b ⊢;rw[aec];grind
def aey{e b:QE}(d:ke e.T)(p:Nat)(s:Rat)(x:Nat->Rat):s*(Dr e p b).D+eH (Dr e p b).T x=s*e.D+eH e.T x+(gj e.T p).getD 0*(s*b.D+eH b.T x-x p):=by
 unfold Dr;have f:=zm d p x;cases a:gj e.T p with
 | none=>grind
 | some c =>
  rw[a]at f;simp only[Option.getD_some]at f ⊢;rw[QI c x _ (Iu d p)];grind
def iB(E0:Nat->QE):Nat->Nat->QE
 | 0,k=>E0 k
 | p+1,k=>if k<p then iB E0 p k else if k=p then jY (iB E0 p p) p else Dr (iB E0 p k) p (jY (iB E0 p p) p)
def SK(K0:Nat):Nat->Nat
 | 0=>K0
 | p+1=>4*SK K0 p+3
def UE(a:Nat):∀p,SK a p+1=4 ^ p*(a+1)
 | 0=>by simp[SK]
 | p+1=>by
  have b:=UE a p;simp only[SK,Nat.pow_succ];grind
def ag4(x:Nat->Rat)(p:Nat)(v:Rat):Nat->Rat:=fun j=>if j=p then v else x j
def FO(E:Nat->QE)(s:Rat):∀(p:Nat),(∀k,k<p->∀t∈(E k).T,k<t.1)->∀z:Nat->Rat,∃x:Nat->Rat,(∀j,p<=j->x j=z j)∧(∀k,k<p->x k=s*(E k).D+eH (E k).T x)∧(s=0->(∀j,0<=z j)->(∀k,k<p->∀t∈(E k).T,0<=t.2)->∀j,0<=x j)
 | 0,_,z=>⟨z,fun _ _=>rfl,fun k a=>by omega,fun _ h _=>h⟩
 | p+1,hp,z=>by
  obtain⟨x,b,g,d⟩:=FO E s p (fun k a=>hp k (by omega)) (ag4 z p (s*(E p).D+eH (E p).T z));refine⟨x,fun j i =>?_,fun k a =>?_,fun e hz hpos =>?_⟩
  ·rw[b j (by omega)];exact if_neg (by omega)
  ·by_cases c:k=p
   ·subst c;rw[b k (aki _),show ag4 z k (s*(E k).D+eH (E k).T z) k=s*(E k).D+eH (E k).T z from if_pos rfl];congr 1;refine K9 fun t f =>?_;have:=hp k (by omega) t f;rw[b t.1 (by omega)];exact (if_neg (by omega)).symm
   grind
  ·refine d e (fun j =>?_) fun k a=>hpos k (by omega);unfold ag4;split
   ·have:=wF (x:=z) (hpos p (by omega)) fun t _=>hz t.1;grind
   ·exact hz j
def af3{a b:Rat}(c:0<=a)(d:0<b):0<=a / b:=by
 have e:a / b*b=a:=Rat.div_mul_cancel (by grind)
 by_cases h:0<=a / b
 ·exact h
 ·exfalso;have f:0 <= -(a / b)*b:=amF (by grind) (by grind);grind[Rat.mul_eq_zero]
variable {N:Nat} {tk:List Tk} {r:Nat->Int}
structure vK(N:Nat)(tk:List Tk)(d:Nat->Rat)(K0:Nat)(E:Nat->QE)(p:Nat):Prop where
 sz:∀k,k<N->p<=k->Vo N (SK K0 p) (E k)
 szd:∀k,k<p->Vo N (2*SK K0 k+2) (E k)
 up:∀k,k<p->∀t∈(E k).T,k<t.1
 ge:∀k,k<N->p<=k->∀t∈(E k).T,p<=t.1
 pos:∀k,k<N->∀t∈(E k).T,0<=t.2
 sem:∀(s:Rat)(x:Nat->Rat),(∀q,q<p->x q=s*(E q).D+eH (E q).T x)->(∀k,k<p->x k=s*d k+vG tk x k)∧∀k,k<N->p<=k->s*(E k).D+eH (E k).T x=s*d k+vG tk x k
def LH(g:kZ N tk)(i:pX N tk r)(l:∀p,p<N->0<=r p){d:Nat->Rat}{m:Nat}{E:Nat->QE}{p:Nat}(hE:vK N tk d m E p)(n:p<N):∀c,gj (E p).T p=some c->c<1:=by
 intro c o
 by_cases b:c<1
 ·exact b
 exfalso;obtain⟨x,C,s,u⟩:=FO E 0 p hE.up (fun j=>if j=p then 1 else 0);have hx:=u rfl (fun j=>by split<;>grind) fun k D=>hE.pos k (by omega);obtain⟨F,f⟩:=hE.sem 0 x s;have e:x p=1:=by simp_all
 have v:∀j,p<j->x j=0:=fun j G=>by grind
 have:=Bj g i l (y:=x) (fun q _=>hx q) (fun q a=>by
  rcases Nat.lt_trichotomy q p with h|h|h
  ·grind
  ·subst h;have w:=f q a (aki _);have z:=zm (hE.sz q a (aki _)).t.sorted q x;rw[o,e]at z;have A:0<=eH (n5 (E q).T q) x:=wF (fun t B=>hE.pos q a t (ko.1 B).1) fun t _=>hx t.1;grind
  ·have w:=f q a (by omega);have A:0<=eH (E q).T x:=wF (hE.pos q a) fun t _=>hx t.1;grind) p n
 grind
def Yi(H:kZ N tk)(I:pX N tk r)(J:∀p,p<N->0<=r p){d:Nat->Rat}{G:Nat}{i:Nat->QE}{p:Nat}(hE:vK N tk d G (iB i p) p)(m:p<N):vK N tk d G (iB i (p+1)) (p+1):=by
 have o:=LH H I J hE m;generalize B:iB i p=E at *;have K:∀k,iB i (p+1) k=if k<p then E k else if k=p then jY (E p) p else Dr (E k) p (jY (E p) p):=fun k=>by rw[iB,B]
 have j:∀k,k<p->iB i (p+1) k=E k:=fun k e=>by rw[K,if_pos e]
 have C:iB i (p+1) p=jY (E p) p:=by simp_all
 have f:∀k,p<k->iB i (p+1) k=Dr (E k) p (jY (E p) p):=fun k e=>by grind
 have v:∀c,gj (E p).T p=some c->1-c≠0:=fun c S=>by grind
 have g:=hE.sz p m (aki _);have L:=Le g p v;have D:∀t∈(jY (E p) p).T,p<t.1:=by
  intro t b;unfold jY at b;cases a:gj (E p).T p with
  | none =>
   rw[a]at b;have n:=hE.ge p m (aki _) t b;have z:=VN a t b;omega
  | some c =>
   rw[a]at b;simp only[akh]at b;obtain⟨u,A,rfl⟩:=b;have n:=hE.ge p m (aki _) u (ko.1 A).1;have z:=(ko.1 A).2;omega
 have l:∀t∈(jY (E p) p).T,0<=t.2:=by
  intro t b;unfold jY at b;cases a:gj (E p).T p with
  | none=>rw[a]at b;exact hE.pos p m t b
  | some c =>
   rw[a]at b;simp only[akh]at b;obtain⟨u,A,rfl⟩:=b;have n:=hE.pos p m u (ko.1 A).1;have z:=o c a;simp only;have M:0<1-c:=by grind
   exact af3 n M
 constructor
 ·intro k e w;rw[f k (by omega)];have:=aew (hE.sz k e (by omega)) L p;exact this.mono (by simp only[SK];omega)
 ·intro k e
  by_cases F:k=p
  ·simp_all
  ·rw[j k (by omega)];exact hE.szd k (by omega)
 ·intro k e
  by_cases F:k=p
  ·grind
  ·rw[j k (by omega)];exact hE.up k (by omega)
 ·intro k e w;rw[f k (by omega)];unfold Dr;cases a:gj (E k).T p with
  | none =>
   intro t b;have n:=hE.ge k e (by omega) t b;have z:=VN a t b;omega
  | some c =>
   refine AB c (R:=fun q=>p+1<=q) _ (fun t b =>?_) D;have n:=hE.ge k e (by omega) t (ko.1 b).1;have z:=(ko.1 b).2;omega
 ·intro k e;rcases Nat.lt_trichotomy k p with h|h|h
  ·rw[j k h];exact hE.pos k e
  ·grind
  ·rw[f k h];unfold Dr;cases a:gj (E k).T p with
   | none=>exact hE.pos k e
   | some c=>exact P7 (hE.pos k e _ (qT a)) _ (fun t b=>hE.pos k e t (ko.1 b).1) l
 ·intro s x O;have y:=O p (by omega);rw[C]at y;obtain⟨T,P⟩:=hE.sem s x fun q U=>by grind
  have Q:x p=s*(E p).D+eH (E p).T x:=by
   have n:=YI g.t.sorted v s x;grind
  refine⟨fun k e =>?_,fun k e w =>?_⟩
  ·grind
  ·rw[f k (by omega),aey (hE.sz k e (by omega)).t.sorted,<- y,P k e (by omega)];grind
def PN(a:kZ N tk)(b:pX N tk r)(c:∀p,p<N->0<=r p){d:Nat->Rat}{e:Nat}{f:Nat->QE}(hE:vK N tk d e f 0):∀p,p<=N->vK N tk d e (iB f p) p
 | 0,_=>hE
 | p+1,h=>Yi a b c (PN a b c hE p (by omega)) (by omega)
end Go.Proofs.YtobnihfgnbnncaaGreat.P
namespace Go.Proofs.YtobnihfgnbnncaaGreat.P
open Go.RowKit
def Ov:List Tm->(Nat->Rat)->Nat
 | [],_=>0
 | t::l,x=>LF t.2+LF (x t.1)+1+Ov l x
def Bb(a b:List Tm)(x:Nat->Rat):Ov (a++b) x=Ov a x+Ov b x:=by
 induction a with
 | nil=>simp[Ov]
 | cons t a c=>grind[Ov]
def acV(T:List Tm)(i:Nat)(x:Nat->Rat):Ov (T.take i) x<=Ov T x:=by
 have:=Bb (T.take i) (T.drop i) x;simp_all
def QJ{T:List Tm}{i:Nat}{t:Tm}(h:T[i]? = some t)(x:Nat->Rat):eH (T.take (i+1)) x=eH (T.take i) x+t.2*x t.1:=by
 grind[eH,List.getElem?_eq_some_iff,List.take_succ_eq_append_getElem,uq]
def S6(a:Rat)(x:Nat->Rat){T:List Tm}:∀i,i<=T.length->LF (a+eH (T.take i) x)<=LF a+Ov (T.take i) x
 | 0,_=>by
  rw[al4];simp only[eH,Ov];grind
 | i+1,h=>by
  have c:=S6 a x (T:=T) i (by omega);have b:T[i]? = some T[i]:=aku (by omega);rw[QJ b,<- Rat.add_assoc,amB (by omega),Bb];have d:=xz (a+eH (T.take i) x) (T[i].2*x T[i].1);have e:=vU T[i].2 (x T[i].1);simp only[Ov];omega
def abT:∀{T:List Tm}{a N:Nat},ke T->(∀t∈T,a<=t.1∧t.1<N)->T.length<=N-a
 | [],_,_,_,_=>by simp
 | t::T,a,N,hs,h=>by
  obtain⟨c,d⟩:=alF.1 hs;have e:=h t (alw ..);have:=abT (a:=t.1+1) (N:=N) d fun u b=>⟨c u b,(h u (alx _ b)).2⟩;grind
def acU{K Q:Nat}{x:Nat->Rat}:∀{T:List Tm}{a N:Nat},ke T->(∀t∈T,a<=t.1∧t.1<N)->(∀t∈T,LF t.2<=K)->(∀j,a<=j->j<N->LF (x j)<=2 ^ (N-1-j)*Q)->Ov T x+Q<=T.length*(K+1)+2 ^ (N-a)*Q
 | [],a,N,_,_,_,_=>by
  simp only[Ov,List.length_nil,alT,alf];exact Nat.le_mul_of_pos_left _ (Nat.pow_pos (by decide))
 | t::T,a,N,hs,h,hk,hx=>by
  obtain⟨e,f⟩:=alF.1 hs;have d:=h t (alw ..);have g:=acU (K:=K) (Q:=Q) (x:=x) (T:=T) (a:=t.1+1) (N:=N) f (fun u b=>⟨e u b,(h u (alx _ b)).2⟩) (fun u b=>hk u (alx _ b)) fun j m c=>hx j (by omega) c;have i:=hk t (alw ..);have k:=hx t.1 d.1 d.2;simp only[Ov,List.length_cons];rw[alP];have l:N-(t.1+1)=N-1-t.1:=by omega
  rw[l]at g;have n:2 ^ (N-t.1)=2 ^ (N-1-t.1)*2:=by rw[<- Nat.pow_succ];congr 1;omega
  have o:2 ^ (N-t.1)*Q<=2 ^ (N-a)*Q:=akW _ (amI (by decide) (by omega));have p:2 ^ (N-t.1)*Q=2 ^ (N-1-t.1)*Q+2 ^ (N-1-t.1)*Q:=by grind
  omega
def Mk:∀m:Nat,3*m<=4 ^ m
 | 0=>by decide
 | m+1=>by
  have:=Mk m;grind
variable {N:Nat} {tk:List Tk} {r:Nat->Int}
def acJ{d:Nat->Rat}{a:Nat}{E:Nat->QE}(h:vK N tk d a E N){x:Nat->Rat}(q:∀k,k<N->x k=1*(E k).D+eH (E k).T x) :
  ∀k,k<N->LF (E k).D+Ov (E k).T x+1<=2 ^ (N-1-k)*(4 ^ N*(a+1))∧LF (x k)<=2 ^ (N-1-k)*(4 ^ N*(a+1)):=by
 have key:∀m k,k+m=N-1->k<N->LF (E k).D+Ov (E k).T x+1<=2 ^ (N-1-k)*(4 ^ N*(a+1))∧LF (x k)<=2 ^ (N-1-k)*(4 ^ N*(a+1)):=by
  intro m
  induction m using Nat.strongRecOn with
  | ind m l =>
   intro k n e;have c:=h.szd k e;have f:=h.up k e;have b:∀t∈(E k).T,k+1<=t.1∧t.1<N:=fun t i=>⟨f t i,c.t.lt t i⟩;have o:=acU (K:=2*SK a k+2) (Q:=4 ^ N*(a+1)) (x:=x) c.t.sorted b c.t.sz fun j r g=>(l (N-1-j) (by omega) j (by omega) g).2;have s:=abT c.t.sorted b;have u:=c.d;have v:=UE a k;have w:(N-k)*(2*SK a k+3)<=4 ^ N*(a+1):=by
    have y:(N-k)*(2*SK a k+3)<=(N-k)*(3*(4 ^ k*(a+1))):=Nat.mul_le_mul_left _ (by
     omega)
    have z:(N-k)*(3*(4 ^ k*(a+1)))=3*(N-k)*(4 ^ k*(a+1)):=by grind
    have A:3*(N-k)*(4 ^ k*(a+1))<=4 ^ (N-k)*(4 ^ k*(a+1)):=akW _ (Mk _);have B:4 ^ (N-k)*(4 ^ k*(a+1))=4 ^ N*(a+1):=by rw[<- Nat.mul_assoc,<- Nat.pow_add];congr 2;omega
    omega
   have C:(E k).T.length*(2*SK a k+3)<=(N-1-k)*(2*SK a k+3):=akW _ (by omega);have D:(N-k)*(2*SK a k+3)=(N-1-k)*(2*SK a k+3)+(2*SK a k+3):=by
    rw[<- alP];congr 1;omega
   have p:N-(k+1)=N-1-k:=by omega
   rw[p]at o;have F:=S6 (E k).D x (T:=(E k).T) (E k).T.length (aki _);grind
 intro k e;exact key (N-1-k) k (by omega) e
def lr(tk:List Tk)(p:Nat):List Tm:=(tk.filter fun t=>decide (t.2.1=p)).map fun t=>(t.1,t.2.2)
def Dd{p:Nat}{u:Tm}:u∈lr tk p↔∃t∈tk,t.2.1=p∧u=(t.1,t.2.2):=by
 unfold lr;simp only[akh,alE,decide_eq_true_eq];grind
def UO{i:Nat}{t:Tk}(h:tk[i]? = some t)(p:Nat):lr (tk.take (i+1)) p=if t.2.1=p then lr (tk.take i) p++[(t.1,t.2.2)] else lr (tk.take i) p:=by
 obtain⟨a,b⟩:=akI.1 h;unfold lr;rw[amB a,amD,als,b];grind
def La(x:Nat->Rat)(p:Nat):∀l:List Tk,eH (lr l p) x=vG l x p
 | []=>rfl
 | t::l=>by
  have a:=La x p l;unfold lr at a ⊢;simp only[vG]
  by_cases b:t.2.1=p
  ·rw[if_pos b,amG (by simpa using b),akn,eH,a]
  grind
def UC(c:tk.Pairwise Wx)(p:Nat):ke (lr tk p):=by
 unfold lr;rw[ke,amg];refine (c.filter _).imp_of_mem fun {a b} d e h =>?_;have f:a.2.1=p:=by simp_all
 have g:b.2.1=p:=by simp_all
 unfold Wx at h;simp only;omega
def Zt(p:Nat):(lr tk p).length<=tk.length:=by
 unfold lr;grind
def V5(d:Nat->Rat)(tk:List Tk)(p:Nat):QE:=⟨d p,lr tk p⟩
def cY(N:Nat)(x:Nat->Rat):List ak:=(List.range N).map fun p=>cw (x p)
def eS(x:Nat->Rat):(cY N x).length=N:=zr _
theorem iG(x:Nat->Rat){p:Nat}(h:p<N):(cY N x)[p]? = some (cw (x p)):=dI _ h
abbrev zF:ak:=ak.mk (aN.mk 0 []) (aN.mk 0 [])
def M0(b:kZ N tk)(d:Nat->Rat):gu (pK N tk) (cY N d)=some ((List.range N).map fun p=>mkEq (V5 d tk p)):=by
 have r:=b.ports;have q:=b.takes;unfold gu pK;simp only;rw[B6 _ (by omega) r,alC];have s:=fun c e=>sg (body:=iW (cY N d) (List.replicate N (aJ.mk zF []))) (List.range N) (by simp;omega) (fun i (l:List aJ)=>l=(List.range N).map fun p=>aJ.mk (if p<i then cw (d p) else zF) []) (fun l=>l=(List.range N).map fun p=>mkEq (V5 d (tk.take 0) p)) (s0:=List.replicate N (aJ.mk zF []))
  (ic (by simp) fun j g=>by simp_all) c e
 obtain⟨A,v,rfl⟩:=s (by
  rintro i x _ B rfl;have k:i<N:=by grind
  refine⟨_,?_,rfl⟩;simp only[iW];rw[if_pos (by simp;omega),aR (iG d k),alC,aR (dI _ k),alC,bc (by omega),ak8,gZ];grind) (by
  rintro _ rfl;refine⟨(List.range N).map fun p=>aJ.mk (if p<(List.range N).length then cw (d p) else zF) [],?_,?_⟩
  ·simp only[iW];simp_all
  ·refine ic (by simp) fun j g =>?_;rw[dI _ g,akK,if_pos g,al4];rfl)
 rw[v,alC];have w:=fun c e=>sg (body:=iX (fW.mk (N:Int) (tk.map vH))) tk (by omega) (fun i (l:List aJ)=>l=(List.range N).map fun p=>mkEq (V5 d (tk.take i) p)) (fun l=>l=(List.range N).map fun p=>mkEq (V5 d tk p)) (s0:=(List.range N).map fun p=>mkEq (V5 d (tk.take 0) p)) rfl c e;obtain⟨C,D,rfl⟩:=w (by
  rintro i t _ m rfl;have k:=aS m;have n:=(b.rng t (akG m)).2;have y:(tk.map vH)[i]? = some (vH t):=by simp_all
  have o:=Zt (tk:=tk.take i) t.2.1;rw[aky]at o;refine⟨_,?_,rfl⟩;simp only[iX];have a:oQ 72 (mkEq (V5 d (tk.take i) t.2.1)).cB [fU.mk (vH t).db (vH t).fj]=some ((lr (tk.take i) t.2.1++[(t.1,t.2.2)]).map kp):=by
   unfold oQ mkEq V5;have:(17592186044416:Nat)<=maxLen:=by decide
   rw[if_pos ⟨by simp;omega,by simp;omega⟩,als];rfl
  have z:(vH t).jM=(t.2.1:Int):=rfl;rw[if_pos (by simp;omega),aR y,alC,z,aR (dI _ n),alC,a,alC,bc (by omega),ak8,gZ];congr 3;refine congrArg (fun f=>(List.range N).map f) (funext fun p =>?_);unfold V5;rw[UO m]
  by_cases h:p=t.2.1
  ·subst h;rw[if_pos rfl,if_pos rfl];rfl
  grind) (by
  rintro _ rfl;refine⟨_,?_,rfl⟩;simp only[iX];simp_all)
 simp_all
def elim0(e:kZ N tk){f:Nat}{d:Nat->Rat}(h:∀p,p<N->LF (d p)<=f)(i:∀t∈tk,LF t.2.2<=f):vK N tk d f (V5 d tk) 0 where
 sz k a _:=⟨⟨UC e.sorted k,fun t b=>by obtain⟨u,c,g,rfl⟩:=Dd.1 b;exact (e.rng u c).1,fun t b=>by obtain⟨u,c,g,rfl⟩:=Dd.1 b;exact i u c⟩,h k a⟩
 szd k a:=by omega
 up k a:=by omega
 ge k a _ t _:=akj _
 pos k a t b:=by obtain⟨u,c,g,rfl⟩:=Dd.1 b;exact e.pos u c
 sem s x _:=⟨fun k a=>by omega,fun k _ _=>by unfold V5;rw[La]⟩
def Ou(a:Nat->QE)(N p:Nat):List (Bool×aJ):=(List.range N).map fun k=>(decide (k<p),mkEq (iB a p k))
def zO(E:Nat->QE)(N p:Nat)(L:QE)(k:Nat):List (Bool×aJ):=(List.range N).map fun j=>if j<p then (true,mkEq (E j)) else if j=p then (true,mkEq L) else if j<k then (false,mkEq (Dr (E j) p L)) else (false,mkEq (E j))
def TM{E:Nat->QE}{L:QE}{p K:Nat}(b:N<=2000)(o:p<N)(c:∀k,k<N->p<=k->Vo N K (E k))(d:Vo N (2*K+2) L)(q:10*K+50<=fb) :
  aT (oA (p:Int)) (((p+1:Nat):Int),zO E N p L (p+1))=some (zO E N p L N):=by
 have key:=fun e=>dz (body:=oA (p:Int)) (fun i (s:Int×List (Bool×aJ))=>s=(((p+1+i:Nat):Int),zO E N p L (p+1+i))) (N-(p+1)) (fun l=>l=zO E N p L N) (s:=(((p+1:Nat):Int),zO E N p L (p+1))) rfl (kH (by omega)) e;refine (key ?_).elim fun x ⟨f,hx⟩=>hx ▸ f;rintro i _ r rfl;have a:(zO E N p L (p+1+i)).length=N:=zr _
 by_cases g:p+1+i<N
 ·refine .inl ⟨by omega,_,?_,rfl⟩;simp only[oA];have h:(zO E N p L (p+1+i))[p+1+i]? = some (false,mkEq (E (p+1+i))):=by
   unfold zO;grind
  have j:(zO E N p L (p+1+i))[p]? = some (true,mkEq L):=by
   unfold zO;simp_all
  have m:Ss (true,mkEq L)=some (mkEq L):=rfl;have n:RL (false,mkEq (E (p+1+i)))=some (mkEq (E (p+1+i))):=rfl;rw[if_pos (by grind),aR h,alC,aR j,alC,m,alC,n,alC,ah4 (c _ g (by omega)) d b (by omega),alC,bc (by omega),ak8];refine congrArg some (congrArg Sum.inl (Prod.ext (by simp only;omega) ?_));simp only;unfold zO;rw[gZ];grind
 ·refine .inr ⟨zO E N p L (p+1+i),?_,?_⟩
  ·simp only[oA];grind
  ·congr 1;omega
def Yh{a:Nat->QE}{o:Nat}{d:Nat->Rat}(q:N<=2000)(t:∀p,p<=N->vK N tk d o (iB a p) p)(r:∀p,p<N->∀c,gj (iB a p p).T p=some c->c<1)(u:∀p,p<N->10*SK o p+50<=fb){f:List aJ}(G:f.length=N) :
  aT (lV f) ((0:Int),Ou a N 0)=some (Ou a N N):=by
 have key:=fun v=>dz (body:=lV f) (fun i (s:Int×List (Bool×aJ))=>s=((i:Int),Ou a N i)) N (fun l=>l=Ou a N N) (s:=((0:Int),Ou a N 0)) rfl (kH (by omega)) v;refine (key ?_).elim fun x ⟨w,hx⟩=>hx ▸ w;rintro p _ H rfl
 by_cases e:p<N
 ·refine .inl ⟨e,_,?_,rfl⟩;have hEp:=t p (by omega);have b:∀c,gj (iB a p p).T p=some c->1-c≠0:=fun c h=>by grind
  have g:=hEp.sz p e (aki _);have m:=u p e;have y:=Le g p b;simp only[lV];have z:(Ou a N p)[p]? = some (false,mkEq (iB a p p)):=by
   unfold Ou;simp_all
  have A:RL (false,mkEq (iB a p p))=some (mkEq (iB a p p)):=rfl;have B:(Ou a N p).set p (true,mkEq (jY (iB a p p) p))=zO (iB a p) N p (jY (iB a p p) p) (p+1):=by
   unfold Ou zO;rw[gZ];grind
  have C:zO (iB a p) N p (jY (iB a p p) p) N=Ou a N (p+1):=by
   unfold Ou zO;refine alA fun j D =>?_;have E:=alH.1 D;rw[iB];rcases Nat.lt_trichotomy j p with h|h|h
   ·grind
   ·simp_all
   grind
  rw[if_pos (by simp;omega),aR z,alC,A,alC,aef g.t g.d q (by omega) b,alC,bc (by omega),ak8,B,TM q e (fun k F n=>hEp.sz k F n) y m,alC,C]
 ·have:p=N:=by omega
  subst this;refine .inr ⟨_,?_,rfl⟩;simp only[lV];simp_all
def Dn(x:Nat->Rat)(N i:Nat):List ak:=(List.range N).map fun j=>if N<=j+i then cw (x j) else zF
def Tn{b:Nat->QE}{h:Nat}{d x:Nat->Rat}(hN:N<=2000)(m:vK N tk d h (iB b N) N)(hx:∀k,k<N->x k=1*(iB b N k).D+eH (iB b N k).T x)(B:2*(2 ^ N*(4 ^ N*(h+1)))+100<=fb) :
  aT (lW (Ou b N N)) ((N:Int)-1,Dn x N 0)=some (cY N x):=by
 have n:=acJ m hx;have key:=fun n=>dz (body:=lW (Ou b N N)) (fun i (s:Int×List ak)=>s=((N:Int)-1-i,Dn x N i)) N (fun l=>l=cY N x) (s:=((N:Int)-1,Dn x N 0)) (by simp) (kH (by omega)) n;refine (key ?_).elim fun x ⟨C,hx⟩=>hx ▸ C;rintro i _ hi rfl
 by_cases D:i<N
 ·refine .inl ⟨D,_,?_,rfl⟩;obtain⟨p,hp⟩:∃p,p+i+1=N:=⟨N-1-i,by omega⟩;have a:p<N:=by omega
  have E:(N:Int)-1-(i:Int)=(p:Int):=by omega
  obtain⟨F,G⟩:=n p a;have y:=m.szd p a;have o:=m.up p a;have H:2 ^ (N-1-p)*(4 ^ N*(h+1))<=2 ^ N*(4 ^ N*(h+1)):=akW _ (amI (by decide) (by omega));have I:=hx p a;generalize J:iB b N p=e at *;simp only[lW];have K:(Ou b N N)[p]? = some (true,mkEq e):=by
   unfold Ou;simp_all
  have L:Ss (true,mkEq e)=some (mkEq e):=rfl;have M:(mkEq e).bK=cw e.D:=rfl;have O:(mkEq e).cB=e.T.map kp:=rfl;have hn:=ZW;rw[E,if_pos (by simp),aR K,alC,L,alC,agf,alC,M,H7 (by omega),alC];have P:e.D+0*0=e.D:=by grind
  rw[P];have Q:=y.t.len;have R:=fun q c=>sg (body:=rm (Dn x N i) (mkEq e)) e.T (by omega) (fun j (s:Int×List Int×Int×List Int)=>s=((cw (e.D+eH (e.T.take j) x)).bX.aq,(cw (e.D+eH (e.T.take j) x)).bX.aa,(cw (e.D+eH (e.T.take j) x)).b8.aq,(cw (e.D+eH (e.T.take j) x)).b8.aa))
   (fun s=>s=((cw (x p)).bX.aq,(cw (x p)).bX.aa,(cw (x p)).b8.aq,(cw (x p)).b8.aa)) (s0:=((cw e.D).bX.aq,(cw e.D).bX.aa,(cw e.D).b8.aq,(cw e.D).b8.aa)) (by rw[al4,eH,Rat.add_zero]) q c
  obtain⟨r7,S,rfl⟩:=R (by
   rintro j t _ r rfl;have U:=aS r;have g:=akG r;have u:=y.t.lt t g;have V:=o t g;have W:(e.T.map kp)[j]? = some (kp t):=by simp_all
   have v:(Dn x N i)[t.1]? = some (cw (x t.1)):=by
    unfold Dn;rw[dI _ u,if_pos (by omega)]
   have X:=S6 e.D x (T:=e.T) j (by omega);have z:=acV e.T j x;have A:LF t.2+LF (x t.1)+1<=Ov e.T x:=by
    have:=Bb (e.T.take j) (e.T.drop j) x;rw[alS,al3 U]at this;simp only[Ov]at this;grind
   refine⟨_,?_,rfl⟩;simp only[rm];have Y:(kp t).jh=cw t.2:=rfl;have Z:(kp t).qf=(t.1:Int):=rfl;have e7:ak.mk (aN.mk (cw (e.D+eH (e.T.take j) x)).bX.aq (cw (e.D+eH (e.T.take j) x)).bX.aa) (aN.mk (cw (e.D+eH (e.T.take j) x)).b8.aq (cw (e.D+eH (e.T.take j) x)).b8.aa)=cw (e.D+eH (e.T.take j) x):=rfl;rw[if_pos (by simp_all),O,aR W,alC,Z,aR v,alC,Y,e7,H7 (by omega),alC,bc (by omega),QJ r,<- Rat.add_assoc]) (by
   rintro _ rfl;refine⟨((cw (e.D+eH (e.T.take e.T.length) x)).bX.aq,(cw (e.D+eH (e.T.take e.T.length) x)).bX.aa,(cw (e.D+eH (e.T.take e.T.length) x)).b8.aq,(cw (e.D+eH (e.T.take e.T.length) x)).b8.aa),?_,?_⟩
   ·simp only[rm];simp_all
   simp_all)
  rw[S,alC];have w:(Dn x N i)[p]? = some zF:=by
   unfold Dn;grind
  simp only;rw[aR w,alC,ak8];have hw:IntKind.i64.wrap ((p:Int)-1)=(N:Int)-1-((i+1:Nat):Int):=by rw[wrap64 (by omega) (by omega)];omega
  rw[hw];refine congrArg some (congrArg Sum.inl (congrArg (Prod.mk _) ?_));show (Dn x N i).set p (cw (x p))=Dn x N (i+1);unfold Dn;rw[gZ];refine congrArg (fun f=>(List.range N).map f) (funext fun j =>?_);grind
 ·have:i=N:=by omega
  subst this;refine .inr ⟨_,?_,rfl⟩;simp only[lW];rw[if_neg (by simp;omega)];congr 2;unfold Dn cY;simp_all
end Go.Proofs.YtobnihfgnbnncaaGreat.P
namespace Go.Proofs.YtobnihfgnbnncaaGreat.P
open Go.RowKit
def Tg{l:List ak}(n:Int)(g:l.length<=17592186044416)(d:∀f∈l,adx f):kV l n=some (decide ((l.length:Int)=n)&&l.all okF):=by
 unfold kV
 by_cases c:(l.length:Int)=n
 rotate_left
 ·simp_all
 rw[if_pos (by simpa using c),decide_eq_true c,al9];unfold cO dh;rw[nA l (fun i x=>if okF x=true then none else some (i:Int)) (by omega) (fun i x a =>?_) (by simp only[dF];simp_all)]
 ·rw[alC];cases b:eE (fun i x=>if okF x=true then none else some (i:Int)) 0 l with
  | none =>
   simp only;rw[alC,decide_eq_false (by decide),alC];have:l.all okF=true:=aks.2 fun x a=>by
    obtain⟨j,e⟩:=akB a;have:=cN.1 b j x e;simp_all
   rw[this];rfl
  | some r =>
   obtain⟨j,x,h,k,_⟩:=de b;grind
 ·have m:=aS a;simp only[dF,kM];rw[if_pos (by simp;omega),aR a,alC,xB (d x (akG a)),alC,alC];cases okF x with
  | true=>rw[bc (by omega)];rfl
  | false=>rfl
def abW{l:List ak}{N:Nat}(a:l.length=N)(h:l.all okF=true):∃d:Nat->Rat,l=cY N d:=by
 obtain⟨qs,b,_⟩:=AU (mk:=cw) (R:=fun _=>True) (l:=l) fun x c=>by
  obtain⟨q,b⟩:=qM.1 (aks.1 h x c);grind
 refine⟨fun p=>qs.getD p 0,?_⟩;subst b;rw[akJ]at a;refine ic (by simpa using a) fun j e =>?_;simp_all
def YF(N:Nat)(d:Nat->Rat):(cY N d).all okF=true:=aks.2 fun x a=>by
 unfold cY at a;obtain⟨p,_,rfl⟩:=akh.1 a;exact HE _
def Lb{N M:Nat}{d e:Nat->Rat}(h:cY N d=cY M e):N=M∧∀p,p<N->d p=e p:=by
 have a:=congrArg List.length h;rw[eS,eS]at a;subst a;refine⟨rfl,fun p b =>?_⟩;have c:=iG (N:=N) d b;rw[h,iG e b]at c;exact (uu (amf c)).symm
def QK{N:Nat}{d e:Nat->Rat}(h:∀p,p<N->d p=e p):cY N d=cY N e:=alA fun p a=>by simp_all
def abV{N K:Nat}{d:Nat->Rat}(h:∀f∈cY N d,f.bX.aa.length<=K∧f.b8.aa.length<=K):∀p,p<N->LF (d p)<=K:=fun p a=>by
 have:=h _ (akG (iG d a));exact rT this.1 this.2
def YG{N K:Nat}{d:Nat->Rat}(h:∀p,p<N->LF (d p)<=K):∀f∈cY N d,f.bX.aa.length<=K∧f.b8.aa.length<=K:=fun f a=>by
 unfold cY at a;obtain⟨p,b,rfl⟩:=akh.1 a;exact zh (h p (alH.1 b))
def Td(n:fW)(l:List ak):Prop:=∃N tk d,n=pK N tk∧kZ N tk∧l=cY N d
abbrev SzN(n:fW)(K:Nat):Prop:=∀t∈n.aZ,t.fj.bX.aa.length<=K∧t.fj.b8.aa.length<=K
abbrev SzL(l:List ak)(K:Nat):Prop:=∀f∈l,f.bX.aa.length<=K∧f.b8.aa.length<=K
def afV{N K:Nat}{tk:List Tk}(h:∀t∈tk,LF t.2.2<=K):SzN (pK N tk) K:=fun t a=>by
 simp only[pK,akh]at a;obtain⟨u,b,rfl⟩:=a;exact zh (h u b)
def ago{N K:Nat}{tk:List Tk}(h:SzN (pK N tk) K):∀t∈tk,LF t.2.2<=K:=fun t a=>by
 have:=h (vH t) (by simp only[pK];grind);exact rT this.1 this.2
def ID{N:Nat}{tk:List Tk}{r:Nat->Int}(b:pX N tk r)(h:oD N r=[]):∀p,p<N->0<=r p:=by
 intro p a;have c:=b.ge p a;have d:r p ≠ -1:=fun e=>by
  have:p∈oD N r:=alE.2 ⟨alH.2 a,by simpa using e⟩;simp_all
 omega
def ZY{n:fW}{l:List ak}{K M:Nat}(C:K <= 1000000)(O:SzN n K)(D:SzL l K)(i:l.length <= 17592186044416)(Y:n.aF <= (M:Int) ∨ 2000 < n.aF)(hS:2 * (2 ^ M * (4 ^ M * (K + 1))) + 100 <= fb) :
    (¬ Td n l ∧ kL n l = some ([], 1)) ∨
    ∃ N tk d r, n = pK N tk ∧ kZ N tk ∧ l = cY N d ∧ N <= M ∧ (∀ t ∈ tk, LF t.2.2 <= K) ∧ (∀ p, p < N -> LF (d p) <= K) ∧ jZ n = some ((List.range N).map r) ∧ pX N tk r ∧
      ((oD N r ≠ [] ∧ kL n l = some ([], 24)) ∨
       (oD N r = [] ∧ ∃ x, XO N tk d x ∧ kL n l = some (cY N x, 0) ∧ ∀ p, p < N -> LF (x p) <= 2 ^ (N - 1 - p) * (4 ^ N * (K + 1)))):=by
  have k:K <= sQ:=akk C (by unfold sQ; omega);obtain ⟨b, m, o⟩:=LS C O;have s:=Tg n.aF i fun f P => ⟨akk (D f P).1 k, akk (D f P).2 k⟩;have Q:¬ Td n l -> kL n l = some ([], 1):=by
    intro E;unfold kL;rw [m, alC, s, alC];cases b with
    | false => simp
    | true =>
      obtain ⟨N, tk, rfl, c⟩:=o.1 rfl;have:(decide ((l.length:Int) = (pK N tk).aF) && l.all okF) = false:=by
        by_cases R:(l.length:Int) = (pK N tk).aF
        · cases S:l.all okF with
          | false => rw [Bool.and_false]
          | true =>
            have T:l.length = N:=by simp only [pK] at R; omega
            obtain ⟨d, A⟩:=abW T S;exact absurd ⟨N, tk, d, rfl, c, A⟩ E
        simp_all
      rw [this]; simp
  by_cases E:Td n l
  rotate_left
  · simp_all
  obtain ⟨N, tk, d, rfl, c, rfl⟩:=E;obtain rfl:b = true:=o.2 ⟨N, tk, rfl, c⟩;have B:=c.ports;have g:N <= M:=by simp only [pK] at Y; omega
  have F:=ago O;have A:=abV D;obtain ⟨r, u, e⟩:=acv c C F;have G:=US B u;refine .inr ⟨N, tk, d, r, rfl, c, rfl, g, F, A, u, e, ?_⟩;have v:∀(q:List Int), lN (pK N tk) = some q -> kL (pK N tk) (cY N d) = if decide ((q.length:Int) > 0) = true then some ([], 24) else
      (gu (pK N tk) (cY N d)).bind fun U =>
      (aT (lV U) (0, (KR U))).bind fun a =>
      (Hr 64 (pK N tk).aF (pK N tk).aF (ak.mk (aN.mk 0 ([])) (aN.mk 0 ([])))).bind fun H =>
      (aT (lW a) (IntKind.i64.wrap (((a).length:Int) - 1), H)).bind fun w =>
      some (w, 0):=by
    intro q Z;unfold kL;rw [m, alC, s, alC, Z];rw [decide_eq_true (show ((cY N d).length:Int) = (pK N tk).aF by rw [eS]; rfl), YF];simp_all
  rw [v _ G]
  by_cases y:oD N r = []
  rotate_left
  · refine .inl ⟨y, ?_⟩
    have:0 < (oD N r).length:=alW.2 y;rw [if_pos (by rw [q9]; simp; omega)]
  refine .inr ⟨y, ?_⟩;have V:=ID e y;rw [if_neg (by rw [q9, y]; simp)];have h:=PN c e V (elim0 c A F);have W:2 ^ N * (4 ^ N * (K + 1)) <= 2 ^ M * (4 ^ M * (K + 1)):=amC (amI (by decide) g) (akW _ (amI (by decide) g));obtain ⟨x, _, I, _⟩:=FO (iB (V5 d tk) N) 1 N (h N (aki _)).up (fun _ => 0);have X:=((h N (aki _)).sem 1 x I).1;have J:=acJ (h N (aki _)) I;refine ⟨x, fun p z => by simp_all, ?_, fun p z => (J p z).2⟩;rw [M0 c, alC];have e1:KR ((List.range N).map fun p => mkEq (V5 d tk p)) = Ou (V5 d tk) N 0:=by
    unfold KR Ou;rw [List.map_map];exact alA fun p _ => by simp [iB]
  have L:∀ p, p < N -> 10 * SK K p + 50 <= fb:=fun p z => by
    have R:=UE K p;have S:4 ^ p * (K + 1) * 4 <= 4 ^ N * (K + 1):=by
      rw [Nat.mul_right_comm, <- Nat.pow_succ];exact akW _ (amI (by decide) (by omega))
    have T:2 * (4 ^ N * (K + 1)) <= 2 ^ N * (4 ^ N * (K + 1)):=akW _ (by
      have:2 ^ 1 <= 2 ^ N:=amI (by decide) (by omega);omega)
    omega
  rw [e1, Yh B h (fun p z => LH c e V (h p (by omega)) z) L (by simp), alC];have e2:(pK N tk).aF = (N:Int):=rfl;have e3:(Ou (V5 d tk) N N).length = N:=zr _;have e4:List.replicate N zF = Dn x N 0:=by
    refine ic (by simp) fun j hj => ?_;grind
  rw [e2, B6 _ (by omega) B, alC, e3, wrap64 (by omega) (by omega), e4, Tn B (h N (aki _)) I (by omega), alC]
set_option maxRecDepth 100000
def SzL.mono{l:List ak}{K a:Nat}(h:SzL l K)(b:K<=a):SzL l a:=fun f c=>⟨akk (h f c).1 b,akk (h f c).2 b⟩
def SzN.mono{n:fW}{K a:Nat}(h:SzN n K)(b:K<=a):SzN n a:=fun f c=>⟨akk (h f c).1 b,akk (h f c).2 b⟩
section
variable {N:Nat} {tk:List Tk} {r:Nat->Int}
end
def pD:List Rat->Rat
 | []=>0
 | q::l=>q+pD l
def SI(a b:List Rat):pD (a++b)=pD a+pD b:=by
 induction a with
 | nil=>rw[alO,pD,Rat.zero_add]
 | cons q a c=>grind[pD]
def Vg{K:Nat}{l:List Rat}(h:∀q∈l,LF q<=K):LF (pD l)<=1+l.length*(K+1):=by
 induction l with
 | nil=>simp only[pD];exact akk (Ap (n:=0) (by decide)) (by omega)
 | cons q l a =>
  have c:=h q (alw ..);have d:=a fun x b=>h x (alx _ b);have e:=xz q (pD l);simp only[pD,List.length_cons];grind
def X1{a b:Rat}:X0 a b=0↔a=b:=by
 unfold X0;grind
def Cz(l:List ak):Prop:=∃a:List Rat,l=a.map cw∧(∀q∈a,0<=q)∧pD a=1
def afe{a b:Rat}(h:LF a+LF b+1<=fb):sj (cw a) (cw b)=some (cw (a+b)):=by
 unfold sj;rw[U9 h];rfl
def adh{l:List ak}(B:l.length<=100)(C:∀f∈l,f.bX.aa.length<=6∧f.b8.aa.length<=6):∃b,sC l=some b∧(b=true↔Cz l):=by
 have D:fb=4398046511104:=rfl;have g:gm 0=some (cw 0):=Vd (n:=0) (by decide);unfold sC;rw[g,alC];obtain⟨q,o,r⟩:=dz (body:=sk l)
  (fun i E=>∃c:List Rat,l.take i=c.map cw∧(∀q∈c,0<=q∧LF q<=6)∧E=((i:Int),(cw (pD c)).bX.aq,(cw (pD c)).bX.aa,(cw (pD c)).b8.aq,(cw (pD c)).b8.aa)) l.length
  (fun q=>(q=.inr false∧¬Cz l)∨∃c:List Rat,l=c.map cw∧(∀q∈c,0<=q∧LF q<=6)∧q=.inl ((cw (pD c)).bX.aq,(cw (pD c)).bX.aa,(cw (pD c)).b8.aq,(cw (pD c)).b8.aa))
  (s:=(0,(cw 0).bX.aq,(cw 0).bX.aa,(cw 0).b8.aq,(cw 0).b8.aa)) ⟨[],rfl,fun q m=>by simp at m,rfl⟩ (kH (by omega)) (by
   rintro i _ O ⟨c,F,m,rfl⟩;simp only[sk];have G:c.length=i:=by
    have:=congrArg List.length F;grind
   by_cases e:i<l.length
   ·have A:l[i]? = some l[i]:=aku e;have t:=C _ (akt e);have u:l.take (i+1)=l.take i++[l[i]]:=amB e;have d:l[i]∈l:=akt e;generalize l[i]=f at A t u d;rw[if_pos (by simpa using e),aR A,alC,xB ⟨by unfold sQ;omega,by unfold sQ;omega⟩,alC];cases j:okF f with
    | false =>
     right;refine⟨_,rfl,.inl ⟨rfl,?_⟩⟩;rintro⟨p,o,_,_⟩;rw[o]at d;obtain⟨q,_,rfl⟩:=akh.1 d;rw[HE]at j;cases j
    | true =>
     obtain⟨q,rfl⟩:=qM.1 j;have H:LF q<=6:=rT t.1 t.2;simp only[alG,akN,if_false];rw[Aq (by omega),alC]
     by_cases hneg:q<0
     ·right;refine⟨_,by rw[if_pos (decide_eq_true (so.2 hneg))],.inl ⟨rfl,?_⟩⟩;rintro⟨p,o,r,_⟩;rw[o]at d;obtain⟨I,v,w⟩:=akh.1 d;have:=r I v;rw[uu w]at this;grind
     ·left;refine⟨e,?_⟩;have y:=Vg (K:=6) (l:=c) fun x z=>(m x z).2;have J:sj (cw (pD c)) (cw q)=some (cw (pD c+q)):=afe (by omega);rw[if_neg (by rw[decide_eq_true_eq];exact fun h=>hneg (so.1 h)),bc (by omega)];refine⟨_,by erw [J];rfl,c++[q],?_,?_,?_⟩
      ·simp_all
      ·grind
      ·have:pD (c++[q])=pD c+q:=by rw[SI];simp only[pD];grind
       rw[this]
   grind)
 erw [o];rw[alC];rcases r with⟨rfl,L⟩|⟨c,rfl,m,rfl⟩
 ·simp_all
 ·have k:gm 1=some (cw 1):=ad9;simp only[akJ]at B;have y:=Vg (K:=6) (l:=c) fun x z=>(m x z).2;have M:LF (1:Rat)<=1:=Ap (n:=1) (by decide);have N:kl (cw (pD c)) (cw 1)=some (X0 (pD c) 1):=XJ (by omega);simp only;rw[k,alC];refine⟨_,by erw [N];rfl,?_⟩;rw[beq_iff_eq,X1];constructor
  ·intro h;exact⟨c,rfl,fun q h=>(m q h).1,h⟩
  ·rintro⟨p,w,_,h⟩;rw[(List.map_inj_right fun a b=>uu).1 w];exact h
def CB(f:fh)(i:Nat):List ak:=f.aO.map fun l=>(l[i]?).getD (ak.mk (aN.mk 0 ([])) (aN.mk 0 ([])))
structure Fx(f:fh):Prop where
 srcs:f.au.length<=100
 outs:f.aQ.length<=100
 rows:f.aO.length=f.aQ.length
 out:∀x∈f.aQ,0<=x.bn∧x.bn<=3∧0<=x.aX
 row:∀l∈f.aO,l.length=f.au.length
 src:∀x∈f.au,0<=x.bn∧x.bn<=2∧0<=x.aX
 col:∀i,i<f.au.length->Cz (CB f i)
structure rK(f:fh):Prop where
 srcs:f.au.length<=5
 outs:f.aQ.length<=5
 rows:f.aO.length<=8
 row:∀l∈f.aO,l.length<=8∧∀x∈l,x.bX.aa.length<=4∧x.b8.aa.length<=4
def aaC{f:fh}{i:Nat}(r:i<f.au.length)(s:f.aO.length=f.aQ.length)(a:∀l∈f.aO,l.length=f.au.length)(t:f.aQ.length<=100) :
  ∃c:List ak,aT (iI f (i:Int)) ((0:Int),List.replicate f.aQ.length (ak.mk (aN.mk 0 ([])) (aN.mk 0 ([]))))=some c∧f.aO.map (fun l=>l[i]?)=c.map some:=by
 have key:=fun e b=>sg (body:=iI f (i:Int)) f.aQ (by omega)
  (fun k (c:List ak)=>c.length=f.aQ.length∧∀j,j<k->(f.aO.map (fun l=>l[i]?))[j]? = some c[j]?) (fun c=>f.aO.map (fun l=>l[i]?)=c.map some) (s0:=List.replicate f.aQ.length (ak.mk (aN.mk 0 ([])) (aN.mk 0 ([]))))
  ⟨by simp,fun j u=>by omega⟩ e b
 refine (key ?_ ?_)
 ·rintro k x c n ⟨d,o⟩;have p:=aS n;have g:f.aO[k]? = some (f.aO[k]'(by omega)):=aku _;have q:=a _ (akG g);generalize f.aO[k]'(by omega)=l at g q;have h:l[i]? = some (l[i]'(by omega)):=aku _;have m:c[k]? = some (c[k]'(by omega)):=aku _;refine⟨c.set k (l[i]'(by omega)),?_,?_,?_⟩;rotate_left
  ·simpa using d
  ·grind
  ·simp only[iI];rw[if_pos (by simpa using p),aR g,alC,aR h,alC,aR m,alC,ak8,bc (by omega)]
 ·rintro c ⟨d,o⟩;refine⟨_,by simp only[iI];rw[if_neg (by simp)],?_⟩;apply ame;grind
def af2{f:fh}{i:Nat}{c:List ak}(h:f.aO.map (fun l=>l[i]?)=c.map some):c=CB f i:=by
 have:=congrArg (List.map fun x:Option ak=>x.getD (ak.mk (aN.mk 0 ([])) (aN.mk 0 ([])))) h;rw[List.map_map,List.map_map]at this;have a:c.map ((fun x:Option ak=>x.getD (ak.mk (aN.mk 0 ([])) (aN.mk 0 ([])))) ∘ some)=c:=by
  rw[show ((fun x:Option ak=>x.getD (ak.mk (aN.mk 0 ([])) (aN.mk 0 ([])))) ∘ some)=id from rfl,List.map_id]
 rw[a]at this;exact this.symm
def NO{f:fh}(v:rK f):∃b,kS f=some b∧(b=true↔Fx f):=by
 open Classical in
 have D:=v.srcs;have E:=v.outs;unfold kS;rw[if_neg (by simp;omega),if_neg (by simp;omega),alC]
 by_cases hr:f.aO.length=f.aQ.length
 rotate_left
 ·rw[if_pos (by grind)];exact⟨false,rfl,by simp only[akN,false_iff];exact fun h=>hr h.rows⟩
 rw[if_neg (by simp[hr])];rw[nA f.aQ (fun i x=>if (0<=x.bn∧x.bn<=3)∧0<=x.aX∧(f.aO.getD i []).length=f.au.length then none else some false) (by omega) (fun i x e =>?_) (by simp only[mC];simp_all)];rotate_left
 ·have u:=aS e;have w:f.aO[i]? = some (f.aO.getD i []):=by simp_all
  simp only[mC];rw[if_pos (by simpa using u),aR e,alC,mK,alC,bc (by omega)]
  by_cases g:0<=x.bn∧x.bn<=3
  ·rw[decide_eq_true g,if_neg (by simp)]
   by_cases a:x.aX<0
   ·grind
   ·rw[if_neg (by simpa using a),aR w,alC];grind
  grind
 rw[alC];cases o:eE (fun (i:Nat) (x:tS)=>if (0<=x.bn∧x.bn<=3)∧0<=x.aX∧(f.aO.getD i []).length=f.au.length then none else some false) 0 f.aQ with
 | some q =>
  obtain⟨j,x,g,a,_⟩:=de o;rw[alf]at a;have m:=aS g;split at a
  ·cases a
  ·rename_i d;cases a;refine⟨false,rfl,?_⟩;simp only[akN,false_iff];intro p;have n:=p.out x (akG g);have w:f.aO[j]? = some (f.aO.getD j []):=by simp_all
   exact d ⟨⟨n.1,n.2.1⟩,n.2.2,p.row _ (akG w)⟩
 | none =>
  have r:∀(j:Nat) x,f.aQ[j]? = some x->(0<=x.bn∧x.bn<=3)∧0<=x.aX∧(f.aO.getD j []).length=f.au.length:=fun j x h=>by
   have:=cN.1 o j x h;simp_all
  have k:∀l∈f.aO,l.length=f.au.length:=fun l z=>by
   obtain⟨j,m,rfl⟩:=ami z;have h:=(r j _ (aku (by omega))).2.2;grind
  simp only;rw[nA f.au (fun i x=>if (0<=x.bn∧x.bn<=2)∧0<=x.aX∧Cz (CB f i) then none else some false) (by omega) (fun i x e =>?_) (by simp only[mD];simp_all)];rotate_left
  ·have u:=aS e;obtain⟨c,B,C⟩:=aaC u hr k (by omega);obtain rfl:=af2 C;obtain⟨b,F,G⟩:=adh (l:=CB f i) (by unfold CB;grind) (fun y A=>by
    unfold CB at A;obtain⟨l,z,rfl⟩:=akh.1 A;have g:=(v.row l z).2;grind)
   simp only[mD];rw[if_pos (by simpa using u),aR e,alC,B6 _ (by omega) (by omega),alC,B,alC,mK,alC,bc (by omega)];grind
  rw[alC];cases s:eE (fun (i:Nat) (x:gY)=>if (0<=x.bn∧x.bn<=2)∧0<=x.aX∧Cz (CB f i) then none else some false) 0 f.au with
  | some q =>
   obtain⟨j,x,g,a,_⟩:=de s;rw[alf]at a;have m:=aS g;split at a
   ·cases a
   ·rename_i d;cases a;refine⟨false,rfl,?_⟩;simp only[akN,false_iff];intro p;have n:=p.src x (akG g);exact d ⟨⟨n.1,n.2.1⟩,n.2.2,p.col j m⟩
  | none =>
   have t:∀(j:Nat) x,f.au[j]? = some x->(0<=x.bn∧x.bn<=2)∧0<=x.aX∧Cz (CB f j):=fun j x h=>by
    have:=cN.1 s j x h;simp_all
   refine⟨true,rfl,?_⟩;simp only[true_iff];exact⟨by omega,by omega,hr,fun x e=>by
    obtain⟨j,m⟩:=akB e;grind,k,fun x e=>by
    obtain⟨j,m⟩:=akB e;grind,fun j m=>(t j _ (aku m)).2.2⟩
def wV(n:Nat):List Int:=(List.range n).map fun (i:Nat)=>(i:Int)
def SP{n i:Nat}(h:i<n):(wV n)[i]? = some (i:Int):=dI (fun (i:Nat)=>(i:Int)) h
def IL(n:Nat):(wV n).length=n:=zr _
def SQ(n:Nat):(wV n).Pairwise (fun x y=>x<=y):=by
 grind[wV,List.pairwise_lt_range]
def It(l:List Int):(rO l).Perm l:=List.mergeSort_perm l _
def NU(l:List Int):(rO l).Pairwise (fun x y=>x<=y):=by
 have:=List.pairwise_mergeSort (le:=fun x y:Int=>decide (x<=y)) (fun a b c d e=>by grind) (fun a b=>by grind) l;exact this.imp fun h=>by simpa using h
def Y9:∀{l m:List Int},l.Perm m->l.Pairwise (fun x y=>x<=y)->m.Pairwise (fun x y=>x<=y)->l=m:=fun e c d=>List.Perm.eq_of_pairwise (le:=fun x y:Int=>x<=y) (fun a b _ _ c d=>by omega) c d e
def HA{l:List Int}(t:l.length<=100)(n:Nat):∃b,lO l (n:Int)=some b∧(b=true↔l.Perm (wV n)):=by
 unfold lO qO dn Od Ft;rw[alC,if_pos (by omega),alC];have p:=sD l;have a:l.Perm (wV n)↔rO l=wV n:=⟨fun h=>Y9 ((It l).trans h) (NU l) (SQ n),fun h=>h ▸ (It l).symm⟩;rw[a];rw[nA (rO l) (fun i x=>if (i:Int)=x then none else some false) (by omega) (fun i x g =>?_) (by simp only[pk];simp_all)];rotate_left
 ·have r:=aS g;simp only[pk];rw[if_pos (by simpa using r),aR g,alC,bc (by omega)];grind
 rw[alC];cases k:eE (fun (i:Nat) (x:Int)=>if (i:Int)=x then none else some false) 0 (rO l) with
 | some q =>
  obtain⟨j,x,f,d,_⟩:=de k;rw[alf]at d;split at d
  ·cases d
  ·rename_i m;cases d;refine⟨false,rfl,?_⟩;simp only[akN,false_iff];intro s;rw[s]at f;have e:=aS f;rw[IL]at e;rw[SP e]at f;simp_all
 | none =>
  have c:∀(j:Nat) x,(rO l)[j]? = some x->(j:Int)=x:=fun j x h=>by
   have:=cN.1 k j x h;simp_all
  refine⟨_,rfl,?_⟩;rw[beq_iff_eq];constructor
  ·intro h;apply ame;intro j
   by_cases e:j<n
   ·have o:(rO l)[j]? = some ((rO l)[j]'(by omega)):=aku _;rw[SP e,o,<- c j _ o]
   ·rw[amA (by omega),amA (by rw[IL];omega)]
  ·intro h;rw[h,IL]
structure xx(m:bz)(ports:Nat):Prop where
 flow:Fx m.az
 takes:((m.az.au.filter fun x=>x.bn==1).map (·.aX)).Perm (wV m.ba.length)
 gives:((m.az.aQ.filter fun x=>x.bn==0).map (·.aX)).Perm (wV m.aF.length)
 uses:∀u∈m.ba,(0<=u.bQ∧u.bQ<ports)∧1<=u.aV∧u.aV<=1099511627776
 ports:∀p∈m.aF,0<=p∧p<(ports:Int)
def SL{m:bz}(h:m.az.au.length<=100):aT (ou m) ((0:Int),[])=some ((m.az.au.filter fun x=>x.bn==1).map (·.aX)):=by
 have key:=fun b a=>sg (body:=ou m) m.az.au (by omega) (fun i (l:List Int)=>l=((m.az.au.take i).filter fun x=>x.bn==1).map (·.aX)) (fun l=>l=(m.az.au.filter fun x=>x.bn==1).map (·.aX)) (s0:=[]) rfl b a;refine (key ?_ ?_).elim fun x ⟨g,hx⟩=>hx ▸ g
 ·rintro i x _ hx rfl;have j:=aS hx;have c:m.az.au.take (i+1)=m.az.au.take i++[x]:=by
   obtain⟨d,k⟩:=akI.1 hx;rw[amB d,k]
  have e:=amH (fun x:gY=>x.bn==1) (m.az.au.take i);rw[aky]at e;refine⟨_,?_,rfl⟩;simp only[ou];rw[if_pos (by simpa using j),aR hx,alC,bc (by omega),c,amD]
  by_cases f:x.bn=1
  ·rw[if_pos (by simpa using f),I1 (by grind),alC,amG (by simpa using f),als];rfl
  simp_all
 ·rintro _ rfl;refine⟨_,?_,rfl⟩;simp only[ou];simp_all
def Qo{m:bz}(h:m.az.aQ.length<=100):aT (ov m) ((0:Int),[])=some ((m.az.aQ.filter fun x=>x.bn==0).map (·.aX)):=by
 have key:=fun b a=>sg (body:=ov m) m.az.aQ (by omega) (fun i (l:List Int)=>l=((m.az.aQ.take i).filter fun x=>x.bn==0).map (·.aX)) (fun l=>l=(m.az.aQ.filter fun x=>x.bn==0).map (·.aX)) (s0:=[]) rfl b a;refine (key ?_ ?_).elim fun x ⟨g,hx⟩=>hx ▸ g
 ·rintro i x _ hx rfl;have j:=aS hx;have c:m.az.aQ.take (i+1)=m.az.aQ.take i++[x]:=by
   obtain⟨d,k⟩:=akI.1 hx;rw[amB d,k]
  have e:=amH (fun x:tS=>x.bn==0) (m.az.aQ.take i);rw[aky]at e;refine⟨_,?_,rfl⟩;simp only[ov];rw[if_pos (by simpa using j),aR hx,alC,bc (by omega),c,amD]
  by_cases f:x.bn=0
  ·rw[if_pos (by simpa using f),I1 (by grind),alC,amG (by simpa using f),als];rfl
  simp_all
 ·rintro _ rfl;refine⟨_,?_,rfl⟩;simp only[ov];simp_all
def agr(u:ie){a:Nat}(d:a<=2000):∃b,qo u (a:Int)=some b∧(b=false↔(0<=u.bQ∧u.bQ<a)∧1<=u.aV∧u.aV<=1099511627776):=by
 unfold qo;rw[mK,alC,mJ (by omega)]
 by_cases c:0<=u.bQ∧u.bQ<=(a:Int)-1
 ·rw[decide_eq_true c,if_neg (by simp),mK,alC];grind
 ·rw[decide_eq_false c,if_pos (by simp)];grind
def aga(p:Int){a:Nat}(c:a<=2000):∃b,qp p (a:Int)=some b∧(b=false↔0<=p∧p<a):=by
 unfold qp;rw[mK,alC,mJ (by omega)];grind
def aer{l:List ie}(r:l.length<=100){a:Nat}(g:a<=2000):∃b,cr l (a:Int)=some b∧(b=false↔∀u∈l,(0<=u.bQ∧u.bQ<a)∧1<=u.aV∧u.aV<=1099511627776):=by
 unfold cr dp;rw[nA l (fun i u=>if (0<=u.bQ∧u.bQ<a)∧1<=u.aV∧u.aV<=1099511627776 then none else some (i:Int)) (by omega) (fun i x e =>?_) (by simp only[dM];rw[if_neg (by simp)])];rotate_left
 ·have k:=aS e;obtain⟨b,m,c⟩:=agr x g;simp only[dM];rw[if_pos (by simpa using k),aR e,alC,m,alC,bc (by omega)];cases b with
  | false=>rw[if_pos (c.1 rfl)];rfl
  | true =>
   simp only[amJ,false_iff]at c;simp only[if_true];rw[if_neg c]
 cases f:eE (fun (i:Nat) (u:ie)=>if (0<=u.bQ∧u.bQ<a)∧1<=u.aV∧u.aV<=1099511627776 then none else some (i:Int)) 0 l with
 | none =>
  refine⟨false,rfl,?_⟩;simp only[true_iff];intro u n;obtain⟨j,o⟩:=akB n;have:=cN.1 f j u o;split at this
  ·assumption
  ·cases this
 | some q =>
  obtain⟨j,x,p,d,_⟩:=de f;split at d
  ·cases d
  ·rename_i hbad;cases d;refine⟨true,by simp,?_⟩;simp only[amJ,false_iff];exact fun h=>hbad (h x (akG p))
def ad0{l:List Int}(s:l.length<=100){a:Nat}(g:a<=2000):∃b,ct l (a:Int)=some b∧(b=false↔∀p∈l,0<=p∧p<(a:Int)):=by
 unfold ct dq;rw[nA l (fun i p=>if 0<=p∧p<(a:Int) then none else some (i:Int)) (by omega) (fun i x e =>?_) (by simp only[dN];rw[if_neg (by simp)])];rotate_left
 ·have k:=aS e;obtain⟨b,m,c⟩:=aga x g;simp only[dN];rw[if_pos (by simpa using k),aR e,alC,m,alC,bc (by omega)];cases b with
  | false=>rw[if_pos (c.1 rfl)];rfl
  | true =>
   simp only[amJ,false_iff]at c;simp only[if_true];rw[if_neg c]
 cases f:eE (fun (i:Nat) (p:Int)=>if 0<=p∧p<(a:Int) then none else some (i:Int)) 0 l with
 | none =>
  refine⟨false,rfl,?_⟩;simp only[true_iff];intro u n;obtain⟨j,o⟩:=akB n;have:=cN.1 f j u o;split at this
  ·assumption
  ·cases this
 | some q =>
  obtain⟨j,x,r,d,_⟩:=de f;split at d
  ·cases d
  ·rename_i hbad;cases d;refine⟨true,by simp,?_⟩;simp only[amJ,false_iff];exact fun h=>hbad (h x (akG r))
def ad1{m:bz}{ports:Nat}(c:ports<=2000)(a:rK m.az)(A:m.ba.length<=6)(j:m.aF.length<=6):∃b,vu m (ports:Int)=some b∧(b=true↔xx m ports):=by
 have B:=a.srcs;have C:=a.outs;obtain⟨k,n,d⟩:=NO a;unfold vu;rw[n,alC];cases k with
 | false=>exact⟨false,rfl,by simp only[akN,false_iff];exact fun h=>by have:=d.2 h.flow;cases this⟩
 | true =>
 have o:=d.1 rfl;have p:=amH (fun x:gY=>x.bn==1) m.az.au;have q:=amH (fun x:tS=>x.bn==0) m.az.aQ;obtain⟨r,s,e⟩:=HA (l:=(m.az.au.filter fun x=>x.bn==1).map (·.aX)) (by grind) m.ba.length;obtain⟨t,u,f⟩:=HA (l:=(m.az.aQ.filter fun x=>x.bn==0).map (·.aX)) (by grind) m.aF.length;obtain⟨v,w,g⟩:=aer (l:=m.ba) (by omega) c;obtain⟨y,z,i⟩:=ad0 (l:=m.aF) (by omega) c;simp only[alG,akN,if_false];rw[SL (by omega),alC,Qo (by omega),alC,s,alC];cases r with
 | false=>exact⟨false,rfl,by simp only[akN,false_iff];exact fun h=>by have:=e.2 h.takes;cases this⟩
 | true =>
 simp only[if_true];rw[u,alC];cases t with
 | false=>exact⟨false,rfl,by simp only[akN,false_iff];exact fun h=>by have:=f.2 h.gives;cases this⟩
 | true =>
 simp only[if_true];rw[w,alC];cases v with
 | true=>exact⟨false,rfl,by simp only[akN,false_iff];exact fun h=>by have:=g.2 h.uses;cases this⟩
 | false =>
 simp only[Bool.not_false,if_true];rw[z,alC];refine⟨_,rfl,?_⟩;cases y with
 | true=>simp only[alG,akN,false_iff];exact fun h=>by have:=i.2 h.ports;cases this
 | false=>simp only[Bool.not_false,true_iff];exact⟨o,e.1 rfl,f.1 rfl,g.1 rfl,i.1 rfl⟩
def agc{l:List ak}(f:l.length<=8):(aT (fp l) 0=some (.inl ())∧∀x∈l,x.bX.aa.length<=4∧x.b8.aa.length<=4)∨aT (fp l) 0=some (.inr false):=by
 have b:=nA l (body:=fp l) (fun (i:Nat) (x:ak)=>if (x.bX.aa.length:Int)<=4∧(x.b8.aa.length:Int)<=4 then none else some false) (by omega) (fun i x a=>by
  have d:=aS a;simp only[fp];rw[if_pos (by simpa using d),aR a,alC,agb,alC,bc (by omega)];grind) (by simp only[fp];simp_all)
 rw[b];cases c:eE (fun (i:Nat) (x:ak)=>if (x.bX.aa.length:Int)<=4∧(x.b8.aa.length:Int)<=4 then none else some false) 0 l with
 | none =>
  refine .inl ⟨rfl,fun x a =>?_⟩;obtain⟨j,e⟩:=akB a;have:=cN.1 c j x e;grind
 | some q =>
  obtain⟨j,x,_,g,_⟩:=de c;simp_all
def Ym(f:fh):∃b,lT f=some b∧(b=true->rK f):=by
 unfold lT
 by_cases n:f.au.length<=5
 rotate_left
 ·exact⟨false,by grind,fun h=>by cases h⟩
 by_cases k:f.aQ.length<=5
 rotate_left
 ·exact⟨false,by grind,fun h=>by cases h⟩
 by_cases o:f.aO.length<=8
 rotate_left
 ·exact⟨false,by grind,fun h=>by cases h⟩
 rw[if_neg (by simp;omega),if_neg (by simp;omega),decide_eq_false (by omega),alC,if_neg (by simp)]
 open Classical in
 rw[nA f.aO (fun i l=>if l.length<=8∧∀x∈l,x.bX.aa.length<=4∧x.b8.aa.length<=4 then none else some false) (by omega) (fun i l c =>?_) (by simp only[pA];simp_all)];rotate_left
 ·have d:=aS c;simp only[pA];rw[if_pos (by simpa using d),aR c,alC,bc (by omega)]
  by_cases h:l.length<=8
  ·rw[if_neg (by simp;omega)];rcases agc h with⟨e,v⟩|e
   ·simp_all
   ·rw[e]
    by_cases p:∀x∈l,x.bX.aa.length<=4∧x.b8.aa.length<=4
    ·exfalso;have g:=nA l (body:=fp l) (fun (i:Nat) (x:ak)=>(none:Option Bool)) (by omega) (fun i x c=>by
      have d:=aS c;have:=p x (akG c);simp only[fp];rw[if_pos (by simpa using d),aR c,alC,agb,alC,bc (by omega),decide_eq_true (by omega),if_neg (by simp)]) (by simp only[fp];simp_all)
     rw[e]at g;have r:∀(l:List ak) i,eE (fun _ _=>(none:Option Bool)) i l=none:=by
      intro l
      induction l with
      | nil=>intro i;rfl
      | cons a l s=>intro i;simp only[eE];exact s _
     simp_all
    grind
  grind
 rw[alC];cases m:eE (fun (i:Nat) (l:List ak)=>if l.length<=8∧∀x∈l,x.bX.aa.length<=4∧x.b8.aa.length<=4 then none else some false) 0 f.aO with
 | none =>
  refine⟨true,rfl,fun _=>⟨n,k,o,fun l t =>?_⟩⟩;obtain⟨j,u⟩:=akB t;have:=cN.1 m j l u;simp_all
 | some q =>
  obtain⟨j,x,_,k,_⟩:=de m;simp_all
structure ru(w:aU):Prop where
 given:w.av.length<=6
 mills:w.an.length<=5
 mill:∀m∈w.an,rK m.az∧m.ba.length<=6∧m.aF.length<=6
def abi(w:aU):∃b,zp w=some b∧(b=true->ru w):=by
 unfold zp
 by_cases f:w.av.length<=6
 rotate_left
 ·exact⟨false,by grind,fun h=>by cases h⟩
 by_cases c:w.an.length<=5
 rotate_left
 ·exact⟨false,by grind,fun h=>by cases h⟩
 rw[if_neg (by simp;omega),decide_eq_false (by omega),alC,if_neg (by simp)];have a:∀m:bz,∃b,lT m.az=some b∧(b=true->rK m.az):=fun m=>Ym m.az;obtain⟨B,a⟩:=Classical.axiomOfChoice a;rw[nA w.an (fun i m=>if B m=true∧m.ba.length<=6∧m.aF.length<=6 then none else some false) (by omega) (fun i m d =>?_) (by simp only[wL];simp_all)];rotate_left
 ·have g:=aS d;simp only[wL];rw[if_pos (by simpa using g),aR d,alC,(a m).1,alC,bc (by omega)];grind
 rw[alC];cases e:eE (fun (i:Nat) (m:bz)=>if B m=true∧m.ba.length<=6∧m.aF.length<=6 then none else some false) 0 w.an with
 | none =>
  refine⟨true,rfl,fun _=>⟨f,c,fun m k =>?_⟩⟩;obtain⟨j,l⟩:=akB k;have:=cN.1 e j m l;simp_all
 | some q =>
  obtain⟨j,x,_,c,_⟩:=de e;simp_all
def adX(w:aU):Option (Int×Int):=eE (fun (i:Nat) (n:Int)=>if 1<=n∧n<=1099511627776 then none else some ((3:Int),(i:Int))) 0 w.av
def T4{w:aU}(h:w.av.length<=2000):aT (mo w) 0=some (match adX w with|none =>.inl ()|some r =>.inr r):=by
 refine Eq.trans (nA w.av (body:=mo w) (fun (i:Nat) (n:Int)=>if 1<=n∧n<=1099511627776 then none else some ((3:Int),(i:Int))) (by omega) (fun i x a =>?_) ?_) ?_
 ·have b:=aS a;simp only[mo];rw[if_pos (by simpa using b),aR a,alC,mK,alC,bc (by omega)];grind
 ·simp only[mo];simp_all
 ·unfold adX;grind
def UP{m:bz}{N:Nat}(v:N<=2000)(w:m.aF.length<=6)(g:∀p∈m.aF,0<=p∧p<(N:Int))(t:Nat->Int)(h:∀q,q<N->0<=t q∧t q<=1000000) :
  aT (mq m) ((0:Int),(List.range N).map t)=some ((List.range N).map fun q=>t q+(m.aF.count (q:Int):Int)):=by
 have key:=fun b a=>sg (body:=mq m) m.aF (by omega) (fun i (l:List Int)=>l=(List.range N).map fun q=>t q+((m.aF.take i).count (q:Int):Int)) (fun l=>l=(List.range N).map fun q=>t q+(m.aF.count (q:Int):Int)) (s0:=(List.range N).map t)
  (alA fun q _=>by simp) b a
 refine (key ?_ ?_).elim fun x ⟨e,hx⟩=>hx ▸ e
 ·rintro i p _ hx rfl;have n:=aS hx;obtain⟨e,y⟩:=g p (akG hx);obtain⟨k,rfl⟩:∃k:Nat,p=k:=⟨p.toNat,by omega⟩;have f:k<N:=by omega
  have o:∀q:Nat,(m.aF.take i).count (q:Int)<=6:=fun q=>akk (List.count_le_length ..) (by grind);have r:=o k;have c:m.aF.take (i+1)=m.aF.take i++[(k:Int)]:=by
   obtain⟨d,s⟩:=akI.1 hx;rw[amB d,s]
  have z:=h k f;refine⟨_,?_,rfl⟩;simp only[mq];rw[if_pos (by simpa using n),aR hx,alC,aR (dI _ f),alC,ak8,gZ,bc (by omega),mJ (by omega),c];have:(fun j=>if j=k then t k+((m.aF.take i).count (k:Int):Int)+1 else t j+((m.aF.take i).count (j:Int):Int))=fun q=>t q+((m.aF.take i++[(k:Int)]).count (q:Int):Int):=funext fun q=>by
   rw[List.count_append]
   by_cases u:q=k
   ·grind
   ·rw[if_neg u,List.count_cons_of_ne (by omega)];simp
  rw[this]
 ·rintro _ rfl;refine⟨_,?_,rfl⟩;simp only[mq];simp_all
def JD(q:Nat)(x:Int)(u:ie):Int:=if u.bQ=(q:Int) then (if 1099511627777<x+u.aV then 1099511627777 else x+u.aV) else x
def pF(q:Nat)(l:List ie)(x:Int):Int:=l.foldl (JD q) x
def IM{q:Nat}{x:Int}{u:ie}(a:0<=x∧x<=1099511627777)(b:1<=u.aV∧u.aV<=1099511627776):0<=JD q x u∧JD q x u<=1099511627777:=by
 unfold JD;omega
def uI{q:Nat}:∀{l:List ie}{x:Int},(0<=x∧x<=1099511627777)->(∀u∈l,1<=u.aV∧u.aV<=1099511627776)->0<=pF q l x∧pF q l x<=1099511627777
 | [],_,hx,_=>hx
 | u::l,x,hx,h=>uI (l:=l) (x:=JD q x u) (IM hx (h u (alw ..))) fun v a=>h v (alx _ a)
def ZD{m:bz}{N:Nat}(w:N<=2000)(y:m.ba.length<=6)(f:∀u∈m.ba,(0<=u.bQ∧u.bQ<(N:Int))∧1<=u.aV∧u.aV<=1099511627776)(t:Nat->Int)(o:∀q,q<N->0<=t q∧t q<=1099511627777) :
  aT (mu m) ((0:Int),(List.range N).map t)=some ((List.range N).map fun q=>pF q m.ba (t q)):=by
 have key:=fun c a=>sg (body:=mu m) m.ba (by omega) (fun i (l:List Int)=>l=(List.range N).map fun q=>pF q (m.ba.take i) (t q)) (fun l=>l=(List.range N).map fun q=>pF q m.ba (t q)) (s0:=(List.range N).map t)
  (alA fun q _=>by simp[pF]) c a
 refine (key ?_ ?_).elim fun x ⟨g,hx⟩=>hx ▸ g
 ·rintro i u _ hx rfl;have p:=aS hx;obtain⟨⟨g,z⟩,A⟩:=f u (akG hx);obtain⟨k,b⟩:∃k:Nat,u.bQ=k:=⟨u.bQ.toNat,by omega⟩;have h:k<N:=by omega
  have d:m.ba.take (i+1)=m.ba.take i++[u]:=by
   obtain⟨e,r⟩:=akI.1 hx;rw[amB e,r]
  have B:=uI (q:=k) (l:=m.ba.take i) (o k h) fun v s=>(f v (akU s)).2;refine⟨_,?_,rfl⟩;simp only[mu];rw[if_pos (by simpa using p),aR hx,alC,b,aR (dI _ h),alC,ak8,gZ,bc (by omega),mJ (by omega),d];have:(fun j=>if j=k then (if 1099511627777<pF k (m.ba.take i) (t k)+u.aV then 1099511627777 else pF k (m.ba.take i) (t k)+u.aV) else pF j (m.ba.take i) (t j))=fun q=>pF q (m.ba.take i++[u]) (t q):=funext fun q=>by
   unfold pF;rw[List.foldl_append];simp only[List.foldl_cons,List.foldl_nil]
   by_cases n:q=k
   ·subst n;rw[if_pos rfl]
    conv=>rhs;rw[JD]
    rw[if_pos b]
   ·rw[if_neg n]
    conv=>rhs;rw[JD]
    omega
  rw[this]
 ·rintro _ rfl;refine⟨_,?_,rfl⟩;simp only[mu];simp_all
def KO{α ρ:Type}{st:Nat->α->Option ρ}{r:ρ}:∀{l:List α}{k i:Nat}{x:α},l[i]? = some x->st (k+i) x=some r->(∀j y,j<i->l[j]? = some y->st (k+j) y=none)->eE st k l=some r
 | [],_,_,_,h,_,_=>by simp at h
 | a::l,k,0,x,h,hs,_=>by
  simp only[List.getElem?_cons_zero,akq]at h;subst h;rw[akO]at hs;simp only[eE,hs]
 | a::l,k,i+1,x,h,hs,c=>by
  have b:=c 0 a (by omega) rfl;rw[akO]at b;simp only[eE,b];refine KO (k:=k+1) (i:=i) (x:=x) (by simpa using h) (by grind) fun j y d e =>?_;grind
open Classical in
def TN(N:Nat)(a:List bz):Option (Int×Int):=eE (fun (i:Nat) (m:bz)=>if xx m N then none else some ((1:Int),(i:Int))) 0 a
def IX(a:List bz)(q:Nat):Int:=a.foldl (fun x m=>x+(m.aF.count (q:Int):Int)) 0
def ZC(a:List bz)(q:Nat):Int:=a.foldl (fun x m=>pF q m.ba x) 0
def Uc{w:aU}(g:ru w) :
  (∃r,TN w.av.length w.an=some r∧aT (kq w) ((0:Int),List.replicate w.av.length 0,List.replicate w.av.length 0)=some (.inr r)) ∨
  (TN w.av.length w.an=none∧(∀m∈w.an,xx m w.av.length)∧aT (kq w) ((0:Int),List.replicate w.av.length 0,List.replicate w.av.length 0)=some (.inl ((List.range w.av.length).map (IX w.an),(List.range w.av.length).map (ZC w.an)))):=by
 have E:=g.given;have n:=g.mills;have f:List.replicate w.av.length (0:Int)=(List.range w.av.length).map fun _=>0:=ic (by simp) fun j t=>by simp_all
 obtain⟨q,F,G⟩:=dz (body:=kq w)
  (fun i st=>st=((i:Int),(List.range w.av.length).map (IX (w.an.take i)),(List.range w.av.length).map (ZC (w.an.take i)))∧(∀m∈w.an.take i,xx m w.av.length)∧∀q,(0<=IX (w.an.take i) q∧IX (w.an.take i) q<=6*i)∧0<=ZC (w.an.take i) q∧ZC (w.an.take i) q<=1099511627777) w.an.length
  (fun q=>(∃r,TN w.av.length w.an=some r∧q=.inr r)∨(TN w.av.length w.an=none∧(∀m∈w.an,xx m w.av.length)∧q=.inl ((List.range w.av.length).map (IX w.an),(List.range w.av.length).map (ZC w.an))))
  (s:=((0:Int),List.replicate w.av.length 0,List.replicate w.av.length 0)) ⟨by rw[f];rfl,fun m n=>by simp at n,fun q=>by simp[IX,ZC]⟩ (kH (by omega)) (by
   rintro i _ H ⟨rfl,a,h⟩
   by_cases c:i<w.an.length
   ·have d:w.an[i]? = some w.an[i]:=aku c;have e:w.an.take (i+1)=w.an.take i++[w.an[i]]:=amB c;generalize w.an[i]=m at d e;obtain⟨v,o,k⟩:=g.mill m (akG d);obtain⟨b,z,A⟩:=ad1 (m:=m) (ports:=w.av.length) (by omega) v o k;simp only[kq];rw[if_pos (by simpa using c),aR d,alC,z,alC];cases b with
    | false =>
     right;refine⟨_,rfl,.inl ⟨_,?_,rfl⟩⟩;unfold TN;refine KO (i:=i) (x:=m) d ?_ fun j y t p =>?_
     ·simp_all
     ·rw[if_pos (a y (akG (i:=j) (by grind)))]
    | true =>
     have l:=A.1 rfl;left;refine⟨c,?_⟩;have B:∀q,IX (w.an.take (i+1)) q=IX (w.an.take i) q+(m.aF.count (q:Int):Int):=fun q=>by rw[e];unfold IX;simp_all
     have C:∀q,ZC (w.an.take (i+1)) q=pF q m.ba (ZC (w.an.take i) q):=fun q=>by rw[e];unfold ZC;simp_all
     simp only[alG,akN,if_false];rw[UP (by omega) k l.ports _ (fun q _=>by grind),alC,ZD (by omega) o l.uses _ (fun q _=>(h q).2),alC,bc (by omega)];refine⟨_,rfl,?_,fun y p =>?_,fun q =>?_⟩
     ·simp_all
     ·grind
     ·have I:m.aF.count (q:Int)<=6:=akk (List.count_le_length ..) k;have J:=(h q).1;rw[B,C];exact⟨by omega,uI (h q).2 fun u D=>(l.uses u D).2⟩
   ·right;have:i=w.an.length:=by omega
    subst this;rw[amd]at a ⊢;refine⟨_,by simp only[kq];simp_all,.inr ⟨?_,a,rfl⟩⟩;unfold TN;refine cN.2 fun j y p =>?_;grind)
 simp_all
def adY(l:List Int):Option (Int×Int):=eE (fun (i:Nat) (x:Int)=>if x=0 then some ((21:Int),(i:Int)) else if 1<x then some (5,(i:Int)) else none) 0 l
def af9(w:aU)(l:List Int):Option (Int×Int):=eE (fun (i:Nat) (x:Int)=>if w.av.getD i 0<x then some ((25:Int),(i:Int)) else none) 0 l
def UQ{l:List Int}(h:l.length<=2000):aT (mv l) 0=some (match adY l with|none =>.inl ()|some r =>.inr r):=by
 refine Eq.trans (nA l (body:=mv l) (fun (i:Nat) (x:Int)=>if x=0 then some ((21:Int),(i:Int)) else if 1<x then some (5,(i:Int)) else none) (by omega) (fun i x a =>?_) ?_) ?_
 ·have b:=aS a;simp only[mv];rw[if_pos (by simpa using b),aR a,alC,bc (by omega)];grind
 ·simp only[mv];simp_all
 ·unfold adY;grind
def ZE{w:aU}{l:List Int}(h:l.length<=2000)(d:l.length=w.av.length):aT (mw w l) 0=some (match af9 w l with|none =>.inl ()|some r =>.inr r):=by
 refine Eq.trans (nA l (body:=mw w l) (fun (i:Nat) (x:Int)=>if w.av.getD i 0<x then some ((25:Int),(i:Int)) else none) (by omega) (fun i x a =>?_) ?_) ?_
 ·have b:=aS a;have c:w.av[i]? = some (w.av.getD i 0):=by simp_all
  simp only[mw];rw[if_pos (by simpa using b),aR a,alC,aR c,alC,bc (by omega)];grind
 ·simp only[mw];simp_all
 ·unfold af9;grind
def BP(w:aU):Option (Int×Int):=(((adX w).or (TN w.av.length w.an)).or (adY ((List.range w.av.length).map (IX w.an)))).or (af9 w ((List.range w.av.length).map (ZC w.an)))
def Bt{w:aU}(a:ru w):ot w=some ((BP w).getD (0,0)):=by
 have d:=a.given;have e:=a.mills;unfold ot BP;rw[if_neg (by simp;omega),decide_eq_false (by omega),alC,if_neg (by simp),T4 (by omega),alC];cases adX w with
 | some r=>rfl
 | none =>
 simp only[Option.none_or];rw[B6 _ (by omega) (by omega),alC];rcases Uc a with⟨r,b,c⟩|⟨b,_,c⟩
 ·rw[c,b];rfl
 rw[c,b,alC];simp only[Option.none_or];rw[UQ (by simp;omega),alC];cases adY ((List.range w.av.length).map (IX w.an)) with
 | some r=>rfl
 | none =>
 simp only[Option.none_or];rw[ZE (by simp;omega) (by simp),alC];grind
section
variable {κ α:Type} [DecidableEq κ]
theorem yt{n:κ}:∀{m:List (κ×α)},pJ m n=true↔n∈m.map (·.1)
 | []=>by simp[pJ]
 | (k,v)::m=>by
  simp only[pJ,akn,ako]
  by_cases h:k=n
  ·subst h;simp
  ·have:=yt (n:=n) (m:=m);grind
def Dq{n:κ}{x:α}:∀{m:List (κ×α)},(tH m n x).map (·.1)=if pJ m n=true then m.map (·.1) else m.map (·.1)++[n]
 | []=>by simp[tH,pJ]
 | (k,v)::m=>by
  have a:=Dq (n:=n) (x:=x) (m:=m);simp only[tH,pJ];grind
def Uo{n:κ}{x:α}{m:List (κ×α)}(h:(m.map (·.1)).Nodup):((tH m n x).map (·.1)).Nodup:=by
 rw[Dq];split
 ·exact h
 ·rename_i hn;have hn:n∉m.map (·.1):=fun a=>hn (yt.2 a);grind
def LJ{z x:α}{n k:κ}:∀{m:List (κ×α)},gI z (tH m n x) k=if k=n then x else gI z m k
 | []=>by
  simp only[tH,gI];grind
 | (a,v)::m=>by
  have b:=LJ (z:=z) (x:=x) (n:=n) (k:=k) (m:=m);simp only[tH]
  by_cases h:a=n
  ·rw[if_pos h];simp only[gI];grind
  ·rw[if_neg h];simp only[gI];grind
def QW{z:α}{k:κ}{v:α}:∀{m:List (κ×α)},(m.map (·.1)).Nodup->((k,v)∈m↔pJ m k=true∧gI z m k=v)
 | [],_=>by simp[pJ]
 | (a,x)::m,h=>by
  rw[akn,List.nodup_cons]at h;have b:=QW (z:=z) (k:=k) (v:=v) (m:=m) h.2;simp only[pJ,gI,ako,Prod.mk.injEq];grind
end
abbrev MQ:=List ((Int×Int)×Rat)
def lu(m:MQ):List ((Int×Int)×ak):=m.map fun p=>(p.1,cw p.2)
theorem Hl(m:MQ):(lu m).length=m.length:=akJ ..
def YK(m:MQ):(lu m).map (·.1)=m.map (·.1):=by unfold lu;simp_all
theorem Q0(m:MQ)(k:Int×Int):pJ (lu m) k=pJ m k:=by
 induction m with
 | nil=>rfl
 | cons p m b =>
  obtain⟨a,v⟩:=p;rw[show lu ((a,v)::m)=(a,cw v)::lu m from rfl];simp only[pJ,b]
def YL{z:ak}{m:MQ}{k:Int×Int}(h:pJ m k=true):gI z (lu m) k=cw (gI 0 m k):=by
 induction m with
 | nil=>cases h
 | cons p m c =>
  obtain⟨a,v⟩:=p;show (if a=k then cw v else gI z (lu m) k)=cw (if a=k then v else gI 0 m k)
  by_cases b:a=k
  ·simp_all
  ·rw[if_neg b,if_neg b];exact c (by simpa [pJ,b] using h)
theorem Q1(m:MQ)(k:Int×Int)(q:Rat):tH (lu m) k (cw q)=lu (tH m k q):=by
 induction m with
 | nil=>rfl
 | cons p m c =>
  obtain⟨a,v⟩:=p;show (if a=k then (a,cw q)::lu m else (a,cw v)::tH (lu m) k (cw q))=lu (if a=k then (a,q)::m else (a,v)::tH m k q)
  by_cases b:a=k
  ·rw[if_pos b,if_pos b];rfl
  ·rw[if_neg b,if_neg b,c];rfl
theorem aee{m:MQ}{k:Int×Int}(h:pJ m k=false):gI 0 m k=0:=by
 induction m with
 | nil=>rfl
 | cons p m b =>
  obtain⟨a,v⟩:=p;simp only[pJ,Bool.or_eq_false_iff,beq_eq_false_iff_ne]at h;simp only[gI];simp_all
def l8(m:MQ)(c:(Int×Int)×Rat):MQ:=tH m c.1 (gI 0 m c.1+c.2)
def XS(m:MQ)(c:(Int×Int)×Rat)(k:Int×Int):gI 0 (l8 m c) k=gI 0 m k+(if k=c.1 then c.2 else 0):=by
 unfold l8;rw[LJ];grind
def wU(k:Int×Int):List ((Int×Int)×Rat)->Rat
 | []=>0
 | c::l=>(if k=c.1 then c.2 else 0)+wU k l
def CJ:∀(l:List ((Int×Int)×Rat))(m:MQ)(k:Int×Int),gI 0 (l.foldl l8 m) k=gI 0 m k+wU k l
 | [],m,k=>by simp only[List.foldl_nil,wU];grind
 | c::l,m,k=>by
  rw[akX,CJ l,XS];simp only[wU];grind
def AA:∀(l:List ((Int×Int)×Rat))(m:MQ),(m.map (·.1)).Nodup->((l.foldl l8 m).map (·.1)).Nodup
 | [],_,h=>h
 | c::l,m,h=>AA l (l8 m c) (Uo h)
theorem ahk{p q:Int}(a : -9223372036854775808<=p∧p<9223372036854775808)(b : -9223372036854775808<=q∧q<9223372036854775808)(c:q≠0):uj p q=some (cw (Rat.divInt p q),0):=by
 grind[uj,ZZ,MC,afR]
open Classical in
def Ur(f:ak):Rat:=if h:∃q,f=cw q then Classical.choose h else 0
def zt(q:Rat):Ur (cw q)=q:=by
 have h:∃p,cw q=cw p:=⟨q,rfl⟩;unfold Ur;rw[dif_pos h];grind[uu,Classical.choose_spec]
def Fp(f:fh)(k i:Nat):Rat:=Ur ((f.aO.getD k []).getD i (ak.mk (aN.mk 0 ([])) (aN.mk 0 ([]))))
theorem tN{f:fh}(o:rK f)(g:Fx f){k i:Nat}(p:k<f.aQ.length)(r:i<f.au.length) :
  ∃a,f.aO[k]? = some a∧a[i]? = some (cw (Fp f k i))∧0<=Fp f k i∧LF (Fp f k i)<=4:=by
 have d:k<f.aO.length:=by rw[g.rows];exact p
 have m:f.aO[k]? = some (f.aO[k]):=aku d;have h:=akt d;have s:f.aO.getD k []=f.aO[k]:=by simp_all
 have t:=g.row _ h;have n:=(o.row _ h).2;unfold Fp;rw[s];have b:(CB f i)[k]? = some ((f.aO[k][i]?).getD (ak.mk (aN.mk 0 ([])) (aN.mk 0 ([])))):=by
  unfold CB;simp_all
 generalize f.aO[k]=a at m h t n b ⊢;have c:a[i]? = some (a[i]'(by omega)):=aku _;have j:=n _ (akG c);have l:a.getD i (ak.mk (aN.mk 0 ([])) (aN.mk 0 ([])))=a[i]'(by omega):=by simp_all
 rw[c]at b;rw[l];obtain⟨w,u,x,_⟩:=g.col i r;rw[u]at b;rw[akf]at b;obtain⟨q,v,e⟩:=akg.1 b;simp only[Option.getD_some]at e;rw[<- e]at c j ⊢;refine⟨a,m,?_,?_,?_⟩
 ·rw[zt];exact c
 ·rw[zt];grind
 ·rw[zt];exact rT j.1 j.2
def Y6{f:fh}(m:rK f)(b:Fx f){i:Nat}(e:i<f.au.length):pD ((List.range f.aQ.length).map fun k=>Fp f k i)=1:=by
 obtain⟨g,h,_,p⟩:=b.col i e;have:g=(List.range f.aQ.length).map fun k=>Fp f k i:=by
  have a:g.length=f.aQ.length:=by
   have:=congrArg List.length h;unfold CB at this;simp only[akJ]at this;rw[<- b.rows];exact this.symm
  refine ic a fun j n =>?_;obtain⟨o,r,s,_,_⟩:=tN m b n e;have l:(CB f i)[j]? = some (cw (Fp f j i)):=by
   unfold CB;simp_all
  rw[h,akf]at l;obtain⟨q,c,d⟩:=akg.1 l;rw[c,uu d]
 simp_all
abbrev DJ:=(Int×Int)×Rat
def zJ(m:bz)(i:Nat)(u:ie)(r:Rat)(k:Nat):List DJ :=
 match m.az.aQ[k]? with
 | some y=>if y.bn=0∧Fp m.az k i≠0 then [((u.bQ,m.aF.getD y.aX.toNat 0),r*Fp m.az k i)] else []
 | none=>[]
def OI(g:List Int)(u:ie):Rat:=Rat.divInt u.aV (g.getD u.bQ.toNat 0)
def rq(m:bz)(n:Int):ie:=m.ba.getD n.toNat (ie.mk 0 0)
def ER(g:List Int)(m:bz)(i:Nat):List DJ :=
 match m.az.au[i]? with
 | some x=>if x.bn=1 then (List.range m.az.aQ.length).flatMap (zJ m i (rq m x.aX) (OI g (rq m x.aX))) else []
 | none=>[]
def pM(g:List Int)(m:bz):List DJ:=(List.range m.az.au.length).flatMap (ER g m)
def rC(w:aU):List DJ:=w.an.flatMap (pM w.av)
def Fg:LF 0<=1:=Ap (n:=0) (by decide)
def Mz{K:Nat}{k:Int×Int}:∀{l:List DJ},(∀c∈l,LF c.2<=K)->LF (wU k l)<=1+l.length*(K+1)
 | [],_=>by simp only[wU];have:=Fg;simp;omega
 | c::l,h=>by
  have b:=Mz (k:=k) (l:=l) fun x a=>h x (alx _ a);have d:=h c (alw ..);simp only[wU,List.length_cons];have e:=xz (if k=c.1 then c.2 else 0) (wU k l);grind
def aex{z:ak}{M:MQ}{k:Int×Int}{v:Rat}{K:Nat}(h:LF (gI 0 M k)<=K)(c:LF v<=K)(d:K<=1000000000) :
  (pJ (lu M) k=true->sj (gI z (lu M) k) (cw v)=some (cw (gI 0 M k+v))∧tH (lu M) k (cw (gI 0 M k+v))=lu (l8 M (k,v)))∧(pJ (lu M) k=false->tH (lu M) k (cw v)=lu (l8 M (k,v))):=by
 have b:fb=4398046511104:=rfl;constructor
 ·intro a;rw[Q0]at a;rw[YL a,afe (by omega),Q1];exact⟨rfl,rfl⟩
 grind[l8,Q0,Q1,aee]
def G4{m:bz}{N:Nat}(a:xx m N){y:tS}(b:y∈m.az.aQ)(c:y.bn=0):∃j:Nat,y.aX=j∧j<m.aF.length:=by
 have:y.aX∈wV m.aF.length:=a.gives.mem_iff.1 (akh.2 ⟨y,alE.2 ⟨b,by simpa using c⟩,rfl⟩);unfold wV at this;grind
def ac6{m:bz}{N:Nat}(a:xx m N){x:gY}(b:x∈m.az.au)(c:x.bn=1):∃j:Nat,x.aX=j∧j<m.ba.length:=by
 have:x.aX∈wV m.ba.length:=a.takes.mem_iff.1 (akh.2 ⟨x,alE.2 ⟨b,by simpa using c⟩,rfl⟩);unfold wV at this;grind
structure IZ(n:Nat)(h:List DJ):Prop where
 len:h.length<=n
 sz:∀c∈h,LF c.2<=20
def IZ.look{n:Nat}{h:List DJ}(H:IZ n h)(k:Int×Int):LF (gI 0 (h.foldl l8 []) k)<=1+n*21:=by
 rw[CJ,show gI 0 ([]:MQ) k=0 from rfl,show (0:Rat)+wU k h=wU k h by grind];have a:=Mz (k:=k) H.sz;have b:=H.len;omega
def IZ.app{n a:Nat}{h l:List DJ}(H:IZ n h)(e:l.length<=a)(b:∀c∈l,LF c.2<=20):IZ (n+a) (h++l) :=
 ⟨by rw[alh];have:=H.len;omega,fun c d=>(alv.1 d).elim (H.sz c) (b c)⟩
def OJ(m:bz)(i:Nat)(u:ie)(r:Rat)(k:Nat):(zJ m i u r k).length<=1:=by
 unfold zJ;grind
def qW{α:Type}{f:Nat->List α}{b:Nat}(h:∀i,(f i).length<=b):∀n,((List.range n).flatMap f).length<=n*b
 | 0=>by simp
 | n+1=>by
  have:=qW h n;have a:=h n;rw[amE,List.flatMap_append,alh,alP];grind
def KV{α:Type}{f:Nat->List α}(n:Nat):(List.range (n+1)).flatMap f=(List.range n).flatMap f++f n:=by
 grind[List.range_succ]
theorem adL{m:bz}{i:Nat}{u:ie}{r:Rat}{k:Nat}(a:rK m.az)(b:Fx m.az)(d:i<m.az.au.length)(e:LF r<=10):∀c∈zJ m i u r k,LF c.2<=20:=by
 grind[zJ,Fp,List.mem_singleton,tN,aS,vU]
def WR{m:bz}{i:Nat}{u:ie}{r:Rat}{n:Nat}(a:rK m.az)(b:Fx m.az)(d:i<m.az.au.length)(e:LF r<=10):∀c∈(List.range n).flatMap (zJ m i u r),LF c.2<=20:=by
 intro c f;grind[adL]
def YU{m:bz}{N i n:Nat}{u:ie}{r:Rat}{h:List DJ}(d:rK m.az)(e:xx m N)(o:i<m.az.au.length)(w:LF r<=10)(H:IZ n h)(L:n<=1000) :
  aT (iH m (i:Int) u (cw r,0)) ((0:Int),lu (h.foldl l8 []))=some (lu ((h++(List.range m.az.aQ.length).flatMap (zJ m i u r)).foldl l8 [])):=by
 have y:fb=4398046511104:=rfl;have O:=d.outs;have key:=fun f b=>sg (body:=iH m (i:Int) u (cw r,0)) m.az.aQ (by omega)
  (fun k (c:List ((Int×Int)×ak))=>c=lu ((h++(List.range k).flatMap (zJ m i u r)).foldl l8 [])) (fun c=>c=lu ((h++(List.range m.az.aQ.length).flatMap (zJ m i u r)).foldl l8 [])) (s0:=lu (h.foldl l8 [])) (by simp) f b
 refine (key ?_ ?_).elim fun x ⟨A,hx⟩=>hx ▸ A
 ·rintro k x _ hx rfl;have p:=aS hx;have Q:=qW (fun k=>OJ m i u r k) k;have q:=H.app (a:=k) (by omega) (WR (u:=u) (n:=k) d e.flow o w);obtain⟨B,C,s,R,S⟩:=tN d e.flow p o;rw[KV,<- alZ];generalize h++(List.range k).flatMap (zJ m i u r)=D at q;have g:=q.look;have E:zJ m i u r k=if x.bn=0∧Fp m.az k i≠0 then [((u.bQ,m.aF.getD x.aX.toNat 0),r*Fp m.az k i)] else []:=by unfold zJ;rw[hx]
  refine⟨_,?_,rfl⟩;simp only[iH];rw[if_pos (by simpa using p),aR hx,alC,bc (by omega),E]
  by_cases l:x.bn=0
  ·rw[if_neg (by simp[l]),aR C,alC,aR s,alC,Aq (by omega),alC,alC]
   by_cases F:Fp m.az k i=0
   ·simp_all
   ·obtain⟨j,G,T⟩:=G4 e (akG hx) l;have t:m.aF[j]? = some (m.aF.getD x.aX.toNat 0):=by simp_all
    have I:=vU r (Fp m.az k i);rw[if_neg (by simp_all),if_pos ⟨l,F⟩];rw[show P.idx m.aF x.aX=some (m.aF.getD x.aX.toNat 0) by rw[G]at t ⊢;exact aR t];rw[alC,alC,aR s,alC,Vj (by omega),alC];have J:=aex (z:=ak.mk (aN.mk 0 ([])) (aN.mk 0 ([]))) (M:=D.foldl l8 []) (k:=(u.bQ,m.aF.getD x.aX.toNat 0)) (v:=r*Fp m.az k i) (K:=20+(n+k)*21) (akk (g _) (by omega)) (by omega) (by omega);simp_all
  simp_all
 ·rintro _ rfl;refine⟨_,?_,rfl⟩;simp only[iH];simp_all
theorem XM{x:Int}(a:1<=x)(b:x<=1099511627776):Ln x<=3:=Oz (by grind[pt,uD])
def Ao(g:List Int):Prop:=∀x∈g,1<=x∧x<=1099511627776
def G2{g:List Int}(b:Ao g){p:Int}(h:0<=p∧p<(g.length:Int)):∃j:Nat,p=j∧j<g.length∧g[j]? = some (g.getD p.toNat 0)∧1<=g.getD p.toNat 0∧g.getD p.toNat 0<=1099511627776:=by
 obtain⟨j,rfl⟩:∃j:Nat,p=j:=⟨p.toNat,by omega⟩;have c:j<g.length:=by omega
 have a:g[j]? = some (g.getD (j:Int).toNat 0):=by simp_all
 exact⟨j,rfl,c,a,b _ (akG a)⟩
def yS{m:bz}{N:Nat}(b:xx m N){x:gY}(c:x∈m.az.au)(d:x.bn=1):P.idx m.ba x.aX=some (rq m x.aX)∧rq m x.aX∈m.ba:=by
 obtain⟨j,e,f⟩:=ac6 b c d;have a:m.ba[j]? = some (rq m x.aX):=by unfold rq;simp_all
 exact⟨by rw[e]at a ⊢;exact aR a,akG a⟩
def MG{g:List Int}{m:bz}(b:Ao g)(c:xx m g.length){u:ie}(d:u∈m.ba):LF (OI g u)<=10∧0<OI g u:=by
 obtain⟨e,a⟩:=c.uses u d;obtain⟨j,i,k,l,f,h⟩:=G2 b e;have n:=XM a.1 a.2;have o:=XM f h;unfold OI;have r:=u7 (p:=u.aV) (q:=g.getD u.bQ.toNat 0) (by omega);refine⟨by omega,?_⟩;rw[Rat.divInt_eq_div,Rat.div_def];exact Rat.mul_pos (by exact_mod_cast (show (0:Int)<u.aV by omega)) (Rat.inv_pos.2 (by exact_mod_cast (show (0:Int)<g.getD u.bQ.toNat 0 by omega)))
theorem VD{g:List Int}{m:bz}(e:Ao g)(b:rK m.az)(a:xx m g.length)(i:Nat):(ER g m i).length<=5∧∀c∈ER g m i,LF c.2<=20:=by
 unfold ER;split
 ·rename_i x d;split
  ·rename_i f;have h:=b.outs;have j:=qW (fun k=>OJ m i (rq m x.aX) (OI g (rq m x.aX)) k) m.az.aQ.length;refine⟨by omega,WR b a.flow (aS d) (MG e a (yS a (akG d) f).2).1⟩
  simp_all
 simp_all
def W6{g:List Int}{m:bz}(a:Ao g)(b:rK m.az)(d:xx m g.length)(n:Nat):((List.range n).flatMap (ER g m)).length<=n*5∧∀c∈(List.range n).flatMap (ER g m),LF c.2<=20:=by
 refine⟨qW (fun i=>(VD a b d i).1) n,fun c e =>?_⟩;grind[VD]
def Tr{g:List Int}{m:bz}{n:Nat}{h:List DJ}(o:Ao g)(p:rK m.az)(b:xx m g.length)(H:IZ n h)(I:n<=900) :
  jJ (lu (h.foldl l8 [])) g m=some (lu ((h++pM g m).foldl l8 []),()):=by
 have A:fb=4398046511104:=rfl;have J:=p.srcs;have key:=fun q d=>sg (body:=j8 g m) m.az.au (by omega)
  (fun k (c:List ((Int×Int)×ak))=>c=lu ((h++(List.range k).flatMap (ER g m)).foldl l8 [])) (fun c=>c=lu ((h++pM g m).foldl l8 [])) (s0:=lu (h.foldl l8 [])) (by simp) q d
 unfold jJ;refine (key ?_ ?_).elim fun c t =>?_
 ·rintro i x _ l rfl;have v:=aS l;obtain⟨B,C⟩:=W6 o p b i;have w:=H.app (a:=i*5) B C;rw[KV,<- alZ];generalize h++(List.range i).flatMap (ER g m)=K at w;have t:ER g m i=if x.bn=1 then (List.range m.az.aQ.length).flatMap (zJ m i (rq m x.aX) (OI g (rq m x.aX))) else []:=by unfold ER;rw[l]
  refine⟨_,?_,rfl⟩;simp only[j8];rw[if_pos (by simpa using v),aR l,alC,bc (by omega),t]
  by_cases s:x.bn=1
  ·obtain⟨D,y⟩:=yS b (akG l) s;have E:=MG o b y;obtain⟨F,L⟩:=b.uses _ y;obtain⟨j,G,M,z,N,O⟩:=G2 o F;have e:P.idx g (rq m x.aX).bQ=some (g.getD (rq m x.aX).bQ.toNat 0):=by
    rw[G]at z ⊢;exact aR z
   rw[if_neg (by simp[s]),D,alC,e,alC,ahk (by omega) (by omega) (by omega),alC,if_pos s];have f:=YU (u:=rq m x.aX) (r:=OI g (rq m x.aX)) p b v E.1 w (by omega);unfold OI at f ⊢;erw [f];rfl
  simp_all
 ·rintro _ rfl;refine⟨_,?_,rfl⟩;simp only[j8];rw[if_neg (by simp)];rfl
 simp_all
def aaq{g:List Int}{m:bz}(b:Ao g)(a:rK m.az)(d:xx m g.length):(pM g m).length<=25∧∀c∈pM g m,LF c.2<=20:=by
 have:=W6 b a d m.az.au.length;have e:=a.srcs;grind[pM]
def Z8{m:MQ}{c:DJ}{k:Int×Int}:pJ (l8 m c) k=true↔pJ m k=true∨c.1=k:=by
 unfold l8;rw[yt,Dq];split
 ·grind[yt]
 ·rw[alv,akC,eq_comm (a:=k),yt]
def P6:∀(l:List DJ)(m:MQ)(k:Int×Int),pJ (l.foldl l8 m) k=true↔pJ m k=true∨∃c∈l,c.1=k
 | [],m,k=>by simp
 | c::l,m,k=>by
  rw[akX,P6 l,Z8];grind
def Co{k:Int×Int}:∀{l:List DJ},(∀c∈l,0<c.2)->0<=wU k l∧(0<wU k l↔∃c∈l,c.1=k)
 | [],_=>⟨by simp only[wU];grind,by simp only[wU];simp⟩
 | c::l,h=>by
  obtain⟨b,d⟩:=Co (k:=k) (l:=l) fun x a=>h x (alx _ a);have e:=h c (alw ..);simp only[wU,ako,exists_eq_or_imp];grind
def kc(N:Nat)(S:Nat->Nat->Rat):List Tk:=(List.range N).flatMap fun a=>((List.range N).filter fun b=>decide (0<S a b)).map fun b=>(a,b,S a b)
def B5{N:Nat}{S:Nat->Nat->Rat}{t:Tk}:t∈kc N S↔t.1<N∧t.2.1<N∧0<S t.1 t.2.1∧t.2.2=S t.1 t.2.1:=by
 unfold kc;simp only[alu,akh,alE,alH,decide_eq_true_eq];grind
def N8(N:Nat)(S:Nat->Nat->Rat):(kc N S).Pairwise Wx:=by
 unfold kc;rw[List.pairwise_flatMap];constructor
 ·intro a _;rw[amg];exact (List.Pairwise.filter _ (alI (n:=N))).imp fun h =>.inr ⟨rfl,h⟩
 ·refine (alI (n:=N)).imp fun {a b} h x c y d =>?_;obtain⟨_,_,rfl⟩:=akh.1 c;obtain⟨_,_,rfl⟩:=akh.1 d;exact .inl h
theorem SM(N:Nat)(S:Nat->Nat->Rat):(kc N S).length<=N*N:=by
 unfold kc;refine qW (fun a =>?_) N;grind
def mO(L:List DJ)(a b:Nat):Rat:=wU ((a:Int),(b:Int)) L
structure ZO(N:Nat)(L:List DJ):Prop where
 pos:∀c∈L,0<c.2
 from_:∀c∈L,0<=c.1.1∧c.1.1<(N:Int)
 to_:∀c∈L,0<=c.1.2∧c.1.2<(N:Int)
def Mj{N:Nat}{L:List DJ}(H:ZO N L) :
  rL (lq cA.db cA.jM) ((lu (L.foldl l8 [])).map fun q=>cA.mk q.1.1 q.1.2 q.2)=(kc N (mO L)).map vH:=by
 have m:((L.foldl l8 []).map (·.1)).Nodup:=AA L [] (by simp);have w:((lu (L.foldl l8 [])).map fun q=>cA.mk q.1.1 q.1.2 q.2)=(L.foldl l8 []).map fun p=>cA.mk p.1.1 p.1.2 (cw p.2):=by unfold lu;simp_all
 rw[w];have d:∀p:DJ,p∈L.foldl l8 []↔(∃c∈L,c.1=p.1)∧wU p.1 L=p.2:=by
  rintro⟨k,v⟩;rw[QW (z:=0) m,P6,CJ];simp only[pJ,gI,akN,false_or];grind
 have f:((L.foldl l8 []).map fun p:DJ=>cA.mk p.1.1 p.1.2 (cw p.2)).Nodup:=by
  grind
 have g:((kc N (mO L)).map vH).Nodup:=by
  unfold List.Nodup;rw[amg];refine (N8 N (mO L)).imp fun {a b} h e =>?_;have:=WD e;subst this;unfold Wx at h;omega
 have i:∀x,x∈((L.foldl l8 []).map fun p:DJ=>cA.mk p.1.1 p.1.2 (cw p.2))↔x∈(kc N (mO L)).map vH:=by
  intro x;rw[akh,akh];constructor
  ·rintro⟨p,A,rfl⟩;obtain⟨j,l⟩:=(d p).1 A;obtain⟨c,n,s⟩:=j;have f1:=H.from_ c n;have f2:=H.to_ c n;rw[s]at f1 f2;have E:((p.1.1.toNat:Nat):Int)=p.1.1:=by omega
   have F:((p.1.2.toNat:Nat):Int)=p.1.2:=by omega
   have u:mO L p.1.1.toNat p.1.2.toNat=p.2:=by unfold mO;simp_all
   refine⟨(p.1.1.toNat,p.1.2.toNat,p.2),B5.2 ⟨by simp only;omega,by simp only;omega,?_,u.symm⟩,?_⟩
   ·simp only;rw[u,<- l];exact (Co H.pos).2.2 ⟨c,n,s⟩
   ·unfold vH;simp_all
  ·rintro⟨t,B,rfl⟩;obtain⟨j,l,C,D⟩:=B5.1 B;refine⟨(((t.1:Int),(t.2.1:Int)),t.2.2),(d _).2 ⟨(Co H.pos).2.1 C,D.symm⟩,rfl⟩
 refine qP (c:=lq cA.db cA.jM) ((jH _ _).trans ((List.perm_ext_iff_of_nodup f g).2 i)) ?_ (o0 (yP _ _) _) ?_
 ·intro x o y r j l;have o:=(jH _ _).mem_iff.1 o;have r:=(jH _ _).mem_iff.1 r;obtain⟨p,G,rfl⟩:=akh.1 o;obtain⟨q,I,rfl⟩:=akh.1 r;rw[yO]at j l;grind
 ·rw[amg];refine (N8 N (mO L)).imp fun {a b} h =>?_;rw[yO];simp only[vH];unfold Wx at h;omega
def V6{w:aU}{r:Int×Int}(h:BP w=some r):r.1≠0:=by
 unfold BP at h;simp only[Option.or_eq_some_iff]at h;rcases h with ((h|⟨_,h⟩)|⟨_,h⟩)|⟨_,h⟩
 ·obtain⟨j,x,_,a,_⟩:=de h;grind
 ·obtain⟨j,x,_,a,_⟩:=de h;grind
 ·obtain⟨j,x,_,a,_⟩:=de h;grind
 ·obtain⟨j,x,_,a,_⟩:=de h;grind
structure kd(w:aU):Prop where
 given:Ao w.av
 fit:∀m∈w.an,xx m w.av.length
 once:∀q,q<w.av.length->IX w.an q=1∨IX w.an q<0
 used:∀q,q<w.av.length->ZC w.an q<=w.av.getD q 0
def G5{w:aU}(h:BP w=none):kd w:=by
 unfold BP at h;simp only[Option.or_eq_none_iff]at h;obtain⟨⟨⟨c,d⟩,e⟩,f⟩:=h;refine⟨fun x g =>?_,fun m i =>?_,fun q a =>?_,fun q a =>?_⟩
 ·obtain⟨j,b⟩:=akB g;have:=cN.1 c j x b;simp_all
 ·obtain⟨j,b⟩:=akB i;have:=cN.1 d j m b;simp_all
 ·have:=cN.1 e q _ (dI _ a);grind
 ·have:=cN.1 f q _ (dI _ a);simp_all
def ahz{w:aU}(n:ru w)(d:kd w):ZO w.av.length (rC w):=by
 have key:∀c∈rC w,0<c.2∧(0<=c.1.1∧c.1.1<(w.av.length:Int))∧0<=c.1.2∧c.1.2<(w.av.length:Int):=by
  intro c a;unfold rC at a;obtain⟨m,e,a⟩:=alu.1 a;have o:=(n.mill m e).1;have b:=d.fit m e;unfold pM at a;obtain⟨i,f,a⟩:=alu.1 a;rw[alH]at f;unfold ER at a;split at a
  ·rename_i x p;split at a
   ·rename_i q;obtain⟨k,g,a⟩:=alu.1 a;rw[alH]at g;unfold zJ at a;split at a
    ·rename_i y r;split at a
     ·rename_i s;rw[akC.1 a];obtain⟨_,l⟩:=yS b (akG p) q;obtain⟨j,u,v⟩:=G4 b (akG r) s.1;obtain⟨_,_,_,z,_⟩:=tN o b.flow g f;have t:m.aF.getD y.aX.toNat 0∈m.aF:=by
       simp_all
      refine⟨Rat.mul_pos (MG d.given b l).2 ?_,(b.uses _ l).1,b.ports _ t⟩;grind
     ·cases a
    ·cases a
   ·cases a
  ·cases a
 exact⟨fun c h=>(key c h).1,fun c h=>(key c h).2.1,fun c h=>(key c h).2.2⟩
def Ca{w:aU}(f:ru w)(e:kd w):aT (sB w) ((0:Int),[])=some (lu ((rC w).foldl l8 []))∧IZ 125 (rC w):=by
 have g:=f.mills;have i:∀k,((w.an.take k).flatMap (pM w.av)).length<=k*25∧∀c∈(w.an.take k).flatMap (pM w.av),LF c.2<=20:=by
  intro k;have p:∀m∈w.an.take k,(pM w.av m).length<=25∧∀c∈pM w.av m,LF c.2<=20:=fun m h=>by
   have g:=akU h;exact aaq e.given (f.mill m g).1 (e.fit m g)
  have t:(w.an.take k).length<=k:=by grind
  refine⟨?_,fun c u =>?_⟩
  ·have q:∀l:List bz,(∀m∈l,(pM w.av m).length<=25)->(l.flatMap (pM w.av)).length<=l.length*25:=by
    intro l
    induction l with
    | nil=>intro _;simp
    | cons a l v =>
     grind
   grind
  grind
 have key:=fun j d=>sg (body:=sB w) w.an (by omega)
  (fun k (c:List ((Int×Int)×ak))=>c=lu (((w.an.take k).flatMap (pM w.av)).foldl l8 [])) (fun c=>c=lu ((rC w).foldl l8 [])) (s0:=[]) rfl j d
 constructor
 ·refine (key ?_ ?_).elim fun x ⟨p,hx⟩=>hx ▸ p
  ·rintro k m _ hx rfl;have r:=aS hx;have n:w.an.take (k+1)=w.an.take k++[m]:=by
    obtain⟨o,s⟩:=akI.1 hx;rw[amB o,s]
   have b:=akG hx;have H:IZ (k*25) ((w.an.take k).flatMap (pM w.av)):=⟨(i k).1,(i k).2⟩;refine⟨_,?_,rfl⟩;simp only[sB];rw[if_pos (by simpa using r),aR hx,alC,Tr e.given (f.mill m b).1 (e.fit m b) H (by omega),alC,bc (by omega),n,List.flatMap_append];simp
  ·rintro _ rfl;refine⟨_,?_,rfl⟩;simp only[sB];rw[if_neg (by simp),amd];rfl
 ·have:=i w.an.length;rw[amd]at this;exact⟨by have:=this.1;unfold rC;omega,this.2⟩
def abk{N:Nat}{L:List DJ}(H:ZO N L):(L.foldl l8 []).length<=N*N:=by
 have h:=Mj H;have:=congrArg List.length h;grind[mO,qk,List.length_map,Hl,SM]
def Rh(w:aU)(L:List DJ):fW:=pK w.av.length (kc w.av.length (mO L))
def of_eq{w:aU}(a:ru w):AY w=some (match BP w with|some r=>(fW.mk 0 [],r.1)|none=>(Rh w (rC w),0)):=by
 have b:=a.given;unfold AY;rw[Bt a,alC];cases c:BP w with
 | some r =>
  have:=V6 c;simp_all
 | none =>
  have d:=G5 c;obtain⟨g,_⟩:=Ca a d;have e:=ahz a d;have f:=abk e;have h:w.av.length*w.av.length<=6*6:=amC b b;rw[if_neg (by simp),g,alC,if_neg (by rw[decide_eq_true_eq,Hl];omega)];unfold Fl;rw[if_pos ⟨by rw[Hl];omega,by rw[YK];exact AA _ _ (by simp)⟩,Mj e];rfl
def Y0{a b:Rat}(h:LF a<=fb):tK (cw a) (cw b)=some (decide (a=b)):=by
 have:=zh h;rw[aic (by unfold Fit fb at *;omega) (by unfold Fit fb at *;omega)];congr 1
 by_cases hab:a=b
 ·simp_all
 ·rw[decide_eq_false (fun h=>hab (uu h)),decide_eq_false hab]
def B7{α ρ:Type}:∀(l:List α)(i:Nat),eE (fun _ _=>(none:Option ρ)) i l=none
 | [],_=>rfl
 | _::l,i=>by simp only[eE];exact B7 l _
def Nt{N:Nat}{L:List DJ}(a:N<=6)(H:IZ 125 L):(kc N (mO L)).length<=36∧∀t∈kc N (mO L),LF t.2.2<=2700:=by
 have d:=SM N (mO L);have e:N*N<=6*6:=amC a a;refine⟨by omega,fun t b =>?_⟩;obtain⟨_,_,_,c⟩:=B5.1 b;rw[c];unfold mO;have f:=Mz (k:=((t.1:Int),(t.2.1:Int))) H.sz;have g:=akW 21 H.len;omega
def zP(q:Nat)(l:List ie):Int:=l.foldl (fun x u=>x+if u.bQ=(q:Int) then u.aV else 0) 0
def qg{α:Type}(f:α->Int):∀(l:List α)(x:Int),l.foldl (fun x u=>x+f u) x=x+l.foldl (fun x u=>x+f u) 0
 | [],x=>by simp
 | a::l,x=>by rw[akX,akX,qg f l (x+f a),qg f l (0+f a)];omega
def SS{q:Nat}:∀{l:List ie}{x:Int},(0<=x∧x<=1099511627777)->(∀u∈l,1<=u.aV∧u.aV<=1099511627776)->pF q l x=min 1099511627777 (x+zP q l)∧0<=zP q l
 | [],x,a,_=>by simp only[pF,zP,List.foldl_nil];omega
 | u::l,x,a,h=>by
  have c:=h u (alw ..);have b:=IM (q:=q) a c;obtain⟨d,i⟩:=SS (q:=q) (l:=l) (x:=JD q x u) b fun v f=>h v (alx _ f);have e:zP q (u::l)=(if u.bQ=(q:Int) then u.aV else 0)+zP q l:=by
   unfold zP;rw[akX,qg (fun u:ie=>if u.bQ=(q:Int) then u.aV else 0)];omega
  have g:pF q (u::l) x=pF q l (JD q x u):=rfl;rw[g,d,e];unfold JD at b ⊢;omega
def yQ(q:Nat)(a:List bz):Int:=a.foldl (fun x m=>x+zP q m.ba) 0
def aeW{q:Nat}{ms:List bz}(h:∀m∈ms,∀u∈m.ba,1<=u.aV∧u.aV<=1099511627776):ZC ms q=min 1099511627777 (yQ q ms)∧0<=yQ q ms:=by
 have key:∀(ms:List bz)(x:Int),(0<=x∧x<=1099511627777)->(∀m∈ms,∀u∈m.ba,1<=u.aV∧u.aV<=1099511627776)->ms.foldl (fun x m=>pF q m.ba x) x=min 1099511627777 (x+yQ q ms)∧0<=yQ q ms:=by
  intro ms
  induction ms with
  | nil=>intro x a _;simp only[List.foldl_nil,yQ];omega
  | cons m ms b =>
   intro x a h;obtain⟨d,f⟩:=SS (q:=q) a (h m (alw ..));obtain⟨g,i⟩:=b (pF q m.ba x) (uI a (h m (alw ..))) fun m c=>h m (alx _ c);have e:yQ q (m::ms)=zP q m.ba+yQ q ms:=by
    unfold yQ;rw[akX,qg (fun m:bz=>zP q m.ba)];omega
   grind
 have:=key ms 0 (by omega) h;unfold ZC;omega
section
variable {α β:Type}
def cg:List α->(α->Rat)->Rat
 | [],_=>0
 | a::l,f=>f a+cg l f
def oB(f:α->Rat)(b:List α):∀a:List α,cg (a++b) f=cg a f+cg b f
 | []=>by simp only[List.nil_append,cg];grind
 | x::a=>by simp only[List.cons_append,cg,oB f b a];grind
def Zq{f:α->Rat}{a b:List α}(h:a.Perm b):cg a f=cg b f:=by
 induction h with
 | nil=>rfl
 | cons x _ c=>simp only[cg];rw[c]
 | swap x y l=>simp only[cg];grind
 | trans _ _ h1 h2=>exact h1.trans h2
def dB{f g:α->Rat}:∀{l:List α},(∀a∈l,f a=g a)->cg l f=cg l g
 | [],_=>rfl
 | a::l,h=>by
  simp only[cg];rw[h a (alw ..),dB fun x b=>h x (alx _ b)]
def Ix(f g:α->Rat):∀l:List α,cg l (fun a=>f a+g a)=cg l f+cg l g
 | []=>by simp only[cg];grind
 | a::l=>by simp only[cg,Ix f g l];grind
def Iz(f g:α->Rat):∀l:List α,cg l (fun a=>f a-g a)=cg l f-cg l g
 | []=>by simp only[cg];grind
 | a::l=>by simp only[cg,Iz f g l];grind
def oC:∀l:List α,cg l (fun _=>0)=0
 | []=>rfl
 | a::l=>by simp only[cg,oC l];grind
def Cm(c:Rat)(f:α->Rat):∀l:List α,cg l (fun a=>c*f a)=c*cg l f
 | []=>by simp only[cg];grind
 | a::l=>by simp only[cg,Cm c f l];grind
def Xg{f g:α->Rat}:∀{l:List α},(∀a∈l,f a<=g a)->cg l f<=cg l g
 | [],_=>by simp only[cg];grind
 | a::l,h=>by
  have c:=h a (alw ..);have d:=Xg (l:=l) fun x b=>h x (alx _ b);simp only[cg];grind
def Cl(h:β->α)(f:α->Rat):∀l:List β,cg (l.map h) f=cg l fun a=>f (h a)
 | []=>rfl
 | a::l=>by simp only[akn,cg,Cl h f l]
def vC(h:β->List α)(f:α->Rat):∀l:List β,cg (l.flatMap h) f=cg l fun a=>cg (h a) f
 | []=>rfl
 | a::l=>by rw[List.flatMap_cons,oB];simp only[cg,vC h f l]
def yL(p:α->Bool)(f:α->Rat):∀l:List α,cg (l.filter p) f=cg l fun a=>if p a=true then f a else 0
 | []=>rfl
 | a::l=>by
  rw[List.filter_cons];have b:=yL p f l;split
  ·rename_i h;simp only[cg,b,h,if_true]
  ·rename_i h;simp only[cg,b,h,if_false];grind
def Mi(f:α->β->Rat)(m:List β):∀l:List α,cg l (fun a=>cg m (f a))=cg m fun b=>cg l fun a=>f a b
 | []=>by simp only[cg];exact (oC m).symm
 | a::l=>by simp only[cg,Mi f m l];rw[<- Ix]
def acS{N p:Nat}(b:N<=p)(F:Nat->Rat):cg (List.range N) (fun a=>if a=p then F a else 0)=0:=by
 rw[dB (g:=fun _=>0) fun a c=>if_neg (by grind),oC]
def wT{N p:Nat}(b:p<N)(F:Nat->Rat):cg (List.range N) (fun a=>if a=p then F a else 0)=F p:=by
 induction N with
 | zero=>omega
 | succ N c =>
  rw[amE,oB];simp only[cg]
  by_cases h:p=N
  ·subst h;rw[acS (aki _),if_pos rfl];grind
  grind
def Iy(l:List α)(f:α->Rat):cg (List.range l.length) (fun i=>(l[i]?).elim 0 f)=cg l f:=by
 have key:∀l:List α,cg (List.range l.reverse.length) (fun i=>(l.reverse[i]?).elim 0 f)=cg l.reverse f:=by
  intro l
  induction l with
  | nil=>rfl
  | cons a l b =>
   rw[List.reverse_cons,alh,List.length_singleton,amE,oB,oB];congr 1
   ·rw[<- b];exact dB fun i c=>by grind
   ·simp only[cg];simp_all
 have:=key l.reverse;simp_all
def Cn{f:α->Rat}{l:List α}(h:∀a∈l,0<=f a):0<=cg l f:=by
 rw[<- oC l];exact Xg h
def Vf{K:Nat}{f:α->Rat}:∀{l:List α},(∀a∈l,LF (f a)<=K)->LF (cg l f)<=1+l.length*(K+1)
 | [],_=>by simp only[cg];have:=Fg;omega
 | a::l,h=>by
  have c:=h a (alw ..);have d:=Vf (l:=l) fun x b=>h x (alx _ b);have e:=xz (f a) (cg l f);simp only[cg,List.length_cons];grind
end
def Xh(k:Int×Int):∀L:List DJ,wU k L=cg L fun c=>if k=c.1 then c.2 else 0
 | []=>rfl
 | c::L=>by simp only[wU,cg,Xh k L]
def WM(p:Nat):∀tk:List Tk,vx tk p=cg tk fun t=>if t.1=p then t.2.2 else 0
 | []=>rfl
 | t::tk=>by simp only[vx,cg,WM p tk]
def Xi{α:Type}(f:α->Rat):∀l:List α,pD (l.map f)=cg l f
 | []=>rfl
 | a::l=>by simp only[akn,pD,cg,Xi f l]
def YT{N p:Nat}{S:Nat->Nat->Rat}(c:p<N)(d:∀b,0<=S p b):vx (kc N S) p=cg (List.range N) (S p):=by
 rw[WM];unfold kc;rw[vC,dB (g:=fun a=>if a=p then cg (List.range N) (S a) else 0) fun a _ =>?_,wT c fun a=>cg (List.range N) (S a)];rw[Cl,yL]
 by_cases h:a=p
 ·subst h;rw[if_pos rfl];refine dB fun b _ =>?_;grind
 ·rw[if_neg h];refine Eq.trans (dB (g:=fun _=>0) fun b _ =>?_) (oC _);simp[h]
def Ac(p:Nat)(L:List DJ):Rat:=cg L fun c=>if c.1.1=(p:Int) then c.2 else 0
def acT{N p:Nat}{L:List DJ}(H:ZO N L):cg (List.range N) (mO L p)=Ac p L:=by
 refine Eq.trans (dB (l:=List.range N) (g:=fun b:Nat=>cg L fun c=>if ((p:Int),(b:Int))=c.1 then c.2 else 0) fun b _=>by unfold mO;exact Xh _ _) ?_;rw[Mi];unfold Ac;refine dB fun c a =>?_;obtain⟨d,f⟩:=H.to_ c a;obtain⟨j,h⟩:∃j:Nat,c.1.2=j:=⟨c.1.2.toNat,by omega⟩
 by_cases hp:c.1.1=(p:Int)
 ·rw[if_pos hp,dB (g:=fun b=>if b=j then c.2 else 0) fun b _ =>?_,wT (by omega) fun _=>c.2];grind
 ·rw[if_neg hp];exact Eq.trans (dB (g:=fun _=>0) fun b _=>if_neg (fun e=>hp (by rw[<- e]))) (oC _)
def YE{N p:Nat}{L:List DJ}(H:ZO N L)(a:p<N):gT (kc N (mO L)) p=1-Ac p L:=by
 unfold gT;rw[YT a fun b=>(Co H.pos).1,acT H]
def gk(m:bz)(k:Nat):Bool:=match m.az.aQ[k]? with|some y=>y.bn==0|none=>false
def gv(m:bz)(i:Nat):Rat:=cg (List.range m.az.aQ.length) fun k=>if gk m k=true then Fp m.az k i else 0
def ls(m:bz)(i:Nat):Rat:=cg (List.range m.az.aQ.length) fun k=>if gk m k=true then 0 else Fp m.az k i
def afm{m:bz}{i:Nat}(b:rK m.az)(c:Fx m.az)(d:i<m.az.au.length):gv m i+ls m i=1∧0<=gv m i∧0<=ls m i:=by
 have f:∀k∈List.range m.az.aQ.length,0<=Fp m.az k i:=fun k a=>by
  obtain⟨_,_,_,h,_⟩:=tN b c (alH.1 a) d;exact h
 refine⟨?_,Cn fun k a =>?_,Cn fun k a =>?_⟩
 ·have e:=Y6 b c d;rw[Xi]at e;rw[<- e];unfold gv ls;rw[<- Ix];grind
 ·grind
 grind
def EE(m:bz)(i:Nat)(F:ie->Rat):Rat:=(m.az.au[i]?).elim 0 fun x=>if x.bn=1 then F (rq m x.aX) else 0
def yE(p:Nat)(u:ie)(q:Rat):Rat:=if u.bQ=(p:Int) then q else 0
def Yq(g:List Int)(m:bz)(p:Nat):Ac p (pM g m)=cg (List.range m.az.au.length) fun i=>EE m i fun u=>yE p u (OI g u*gv m i):=by
 unfold Ac pM;rw[vC];refine dB fun i _ =>?_;unfold ER EE;cases d:m.az.au[i]? with
 | none=>rfl
 | some x =>
  simp only[Option.elim_some]
  by_cases a:x.bn=1
  ·rw[if_pos a,if_pos a,vC];generalize rq m x.aX=u;have hk:∀k,cg (zJ m i u (OI g u) k) (fun c=>if c.1.1=(p:Int) then c.2 else 0)=yE p u (OI g u*if gk m k=true then Fp m.az k i else 0):=by
    intro k;unfold zJ gk yE;cases m.az.aQ[k]? with
    | none=>show cg [] _=_;simp[cg]
    | some y =>
     simp only
     by_cases h0:y.bn=0
     ·by_cases b:Fp m.az k i=0
      ·rw[if_neg (fun h=>h.2 b),b];show (0:Rat)=_;split<;>simp
      ·rw[if_pos ⟨h0,b⟩];simp only[cg,h0];grind
     ·rw[if_neg (fun h=>h0 h.1)];show (0:Rat)=_;split<;>simp[h0]
   rw[dB fun k _=>hk k];unfold yE gv;split
   ·rw[Cm]
   ·exact oC _
  ·rw[if_neg a,if_neg a];rfl
def adf{m:bz}{N:Nat}(a:xx m N)(F:ie->Rat):cg (List.range m.az.au.length) (fun i=>EE m i F)=cg m.ba F:=by
 unfold EE;refine Eq.trans (Iy m.az.au fun x=>if x.bn=1 then F (rq m x.aX) else 0) ?_;rw[dB (g:=fun x=>if (x.bn==1)=true then F (rq m x.aX) else 0) fun x _=>by simp_all,<- yL (fun x:gY=>x.bn==1) fun x=>F (rq m x.aX)];rw[<- Cl (fun x:gY=>x.aX) fun n=>F (rq m n),Zq a.takes];unfold wV;rw[Cl];refine Eq.trans (dB fun j b =>?_) (Iy m.ba F);unfold rq;simp_all
def abm(w:aU)(p:Nat):Ac p (rC w)=cg w.an fun m=>Ac p (pM w.av m):=by
 unfold rC Ac;exact vC ..
def ai3(p:Nat)(m:bz):Rat:=cg m.ba fun u=>yE p u (u.aV:Rat)
def Xj(p:Nat):∀l:List ie,cg l (fun u=>yE p u (u.aV:Rat))=((zP p l:Int):Rat)
 | []=>by simp[cg,zP]
 | u::l=>by
  have e:zP p (u::l)=(if u.bQ=(p:Int) then u.aV else 0)+zP p l:=by
   unfold zP;rw[akX,qg (fun u:ie=>if u.bQ=(p:Int) then u.aV else 0)];omega
  simp only[cg];rw[Xj p l,e,Rat.intCast_add];congr 1;unfold yE;split<;>simp
def SJ(p:Nat):∀a:List bz,cg a (ai3 p)=((yQ p a:Int):Rat)
 | []=>by simp[cg,yQ]
 | m::a=>by
  have e:yQ p (m::a)=zP p m.ba+yQ p a:=by
   unfold yQ;rw[akX,qg (fun m:bz=>zP p m.ba)];omega
  simp only[cg];rw[SJ p a,e,Rat.intCast_add];congr 1;exact Xj p _
def ahx{g:List Int}{p:Nat}{u:ie}(h:u.bQ=(p:Int))(a:1<=g.getD p 0):OI g u*((g.getD p 0:Int):Rat)=(u.aV:Rat):=by
 unfold OI;rw[h,ak8,Rat.divInt_eq_div];have:((g.getD p 0:Int):Rat)≠0:=by exact_mod_cast (show g.getD p 0≠0 by omega)
 grind
def TO{w:aU}(d:ru w)(a:kd w){p:Nat}(j:p<w.av.length) :
  Ac p (rC w)*((w.av.getD p 0:Int):Rat)=((yQ p w.an:Int):Rat)-cg w.an fun m=>cg (List.range m.az.au.length) fun i=>EE m i fun u=>yE p u ((u.aV:Rat)*ls m i):=by
 have e:=a.given (w.av.getD p 0) (by simp_all);rw[abm,Rat.mul_comm,<- Cm,<- SJ,<- Iz];refine dB fun m b =>?_;have f:=(d.mill m b).1;have c:=a.fit m b;rw[Yq,<- Cm];unfold ai3;rw[<- adf c,<- Iz];refine dB fun i g =>?_;obtain⟨k,_,_⟩:=afm f c.flow (alH.1 g);unfold EE;cases m.az.au[i]? with
 | none=>grind
 | some x =>
  simp only[Option.elim_some];split
  ·unfold yE;split
   ·rename_i h;have:=ahx h e.1;grind
   ·grind
  ·grind
def U0{w:aU}(a:kd w){p:Nat}(b:p<w.av.length):0<=yQ p w.an∧yQ p w.an<=w.av.getD p 0:=by
 have e:=a.given (w.av.getD p 0) (by simp_all);have f:=a.used p b;have g:=aeW (q:=p) (ms:=w.an) fun m c u d=>((a.fit m c).uses u d).2;omega
def aeg{w:aU}(c:ru w)(d:kd w)(p:Nat):0<=cg w.an fun m=>cg (List.range m.az.au.length) fun i=>EE m i fun u=>yE p u ((u.aV:Rat)*ls m i):=by
 refine Cn fun m b=>Cn fun i e =>?_;have a:=d.fit m b;obtain⟨_,_,f⟩:=afm (c.mill m b).1 a.flow (alH.1 e);unfold EE;cases g:m.az.au[i]? with
 | none=>simp
 | some x =>
  simp only[Option.elim_some];split
  ·rename_i h;have j:=(a.uses _ (yS a (akG g) h).2).2;unfold yE;split
   ·exact amF (by exact_mod_cast (show (0:Int)<=(rq m x.aX).aV by omega)) f
   ·simp
  ·simp
def ad2{w:aU}(b:ru w)(a:kd w){p:Nat}(c:p<w.av.length):Ac p (rC w)<=1:=by
 have f:=a.given (w.av.getD p 0) (by simp_all);have d:=TO b a c;have g:=aeg b a p;have h:((yQ p w.an:Int):Rat)<=((w.av.getD p 0:Int):Rat):=by exact_mod_cast (U0 a c).2
 have e:(0:Rat)<((w.av.getD p 0:Int):Rat):=by exact_mod_cast (show (0:Int)<w.av.getD p 0 by omega)
 refine Rat.le_of_mul_le_mul_right ?_ e;rw[d];grind
def wH{w:aU}(a:ru w)(b:kd w):kZ w.av.length (kc w.av.length (mO (rC w))) where
 ports:=by have:=a.given;omega
 takes:=by have:=(Nt a.given (Ca a b).2).1;omega
 ok t d:=by
  obtain⟨e,f,g,h⟩:=B5.1 d;simp_all
 sorted:=N8 _ _
 leak p c:=by
  rw[YE (ahz a b) c];have:=ad2 a b c;grind
section
variable {w:aU} {p:Nat} {d:Int}
end
def Zk(q:Rat):Int×List Int×Int×List Int:=((cw q).bX.aq,(cw q).bX.aa,(cw q).b8.aq,(cw q).b8.aa)
def Zr(f:Nat->Rat)(n:Nat):cg (List.range (n+1)) f=cg (List.range n) f+f n:=by
 rw[amE,oB];simp only[cg];grind
def ahi{n:Int}(b:0<=n)(a:n<=1099511627776):LF (n:Rat)<=3:=by
 unfold LF;rw[Rat.num_intCast,Rat.den_intCast];have c:=OA (x:=((1:Nat):Int)) (by decide)
 by_cases h:n=0
 ·subst h;rw[adz];omega
 ·have:=XM (x:=n) (by omega) a;omega
def Oy{K n:Nat}{f:Nat->Rat}(h:∀i,i<n->LF (f i)<=K):LF (cg (List.range n) f)<=1+n*(K+1):=by
 have:=Vf (f:=f) (l:=List.range n) fun a b=>h a (alH.1 b);simp_all
section
variable {m:bz} {N:Nat}
end
section
variable {w:aU}
end
def ait:2*(2 ^ 6*(4 ^ 6*(2700+1)))+100<=fb:=by decide
def XsW{N p x:Nat}(a:N<=6)(h:x<=2 ^ (N-1-p)*(4 ^ N*(2700+1))):x<=1000000000:=by
 have b:2 ^ (N-1-p)<=2 ^ 6:=amI (by decide) (by omega);have c:4 ^ N<=4 ^ 6:=amI (by decide) a;have d:=amC b (akW (2700+1) c);omega
open Classical in
def NR{α ρ:Type}(l:List α)(Q:Nat->α->Prop)(v:ρ){body:Int->Option (Int⊕(Unit⊕ρ))}(k:l.length<=2000)(f:∀(i:Nat) x,l[i]? = some x->body (i:Int)=if Q i x then some (.inl ((i+1:Nat):Int)) else some (.inr (.inr v)))(g:body (l.length:Int)=some (.inr (.inl ()))) :
  (aT body 0=some (.inl ())∧∀(i:Nat) x,l[i]? = some x->Q i x)∨(aT body 0=some (.inr v)∧∃(i:Nat)(x:α),l[i]? = some x∧¬Q i x):=by
 have b:=nA l (fun i x=>if Q i x then none else some v) (by omega) (fun i x e=>by rw[f i x e];split<;>rfl) g;cases c:eE (fun (i:Nat) (x:α)=>if Q i x then none else some v) 0 l with
 | none =>
  left;rw[c]at b;refine⟨b,fun i x e =>?_⟩;have:=cN.1 c i x e;rw[alf]at this;split at this
  ·assumption
  ·cases this
 | some q =>
  right;rw[c]at b;obtain⟨j,x,h,d,_⟩:=de c;rw[alf]at d;split at d
  ·cases d
  ·rename_i a;cases d;exact⟨b,j,x,h,a⟩
open Classical in
def Sm{α:Type}(l:List α)(Q:Nat->α->Prop){body:Int->Option (Int⊕(Unit⊕Bool))}(a:l.length<=2000)(b:∀(i:Nat) x,l[i]? = some x->body (i:Int)=if Q i x then some (.inl ((i+1:Nat):Int)) else some (.inr (.inr false)))(c:body (l.length:Int)=some (.inr (.inl ()))) :
  (aT body 0=some (.inl ())∧∀(i:Nat) x,l[i]? = some x->Q i x)∨(aT body 0=some (.inr false)∧∃(i:Nat)(x:α),l[i]? = some x∧¬Q i x):=NR l Q false a b c
def afT{α:Type}(l:List α)(p:α->Bool)(i:Nat):Prop:=(∃x,l[i]? = some x∧p x=true)∧∀(j:Nat) y,l[j]? = some y->p y=true->j=i
def UY(n:Nat):(wV n).Nodup:=by
 unfold wV List.Nodup;rw[amg];exact (alI (n:=n)).imp fun h=>by omega
def ab0{n:Nat}{x:Int}:x∈wV n↔∃j:Nat,j<n∧x=j:=by
 unfold wV;grind
section
variable {α:Type} {l:List α} {p:α->Bool} {g:α->Int} {n:Nat}
def NF(h:((l.filter p).map g).Perm (wV n)){j:Nat}(o:j<n):∃i,afT l (fun x=>p x&&g x==(j:Int)) i:=by
 have q:(j:Int)∈(l.filter p).map g:=h.mem_iff.2 (ab0.2 ⟨j,o,rfl⟩);obtain⟨x,r,d⟩:=akh.1 q;obtain⟨e,f⟩:=alE.1 r;obtain⟨i,s⟩:=akB e;refine⟨i,⟨x,s,by simp[f,d]⟩,fun k y A t =>?_⟩;simp only[akP,beq_iff_eq]at t;have c:((l.filter p).map g).Nodup:=h.nodup_iff.2 (UY n);unfold List.Nodup at c;rw[amg,List.pairwise_filter]at c;have key:∀(a b:Nat)(u v:α),a<b->l[a]? = some u->l[b]? = some v->p u=true->p v=true->g u≠g v:=fun a b u v m w z B C=>by
  have D:=amh.1 c a b (aS w) (aS z) m;grind
 grind
end
def aju{ρ:Type}(g:(Int×List Int×Int×List Int)->ρ)(n:Nat)(F:Nat->Rat){K:Nat}{body:Int×(Int×List Int×Int×List Int)->Option ((Int×(Int×List Int×Int×List Int))⊕ρ)}{A:Rat}(h:n<=2000)(hF:∀i,i<n->LF (F i)<=K)
  (b:∀(i:Nat)(s:Rat),i<n->LF s<=LF A+i*(K+1)+2->body ((i:Int),Zk s)=some (.inl (((i+1:Nat):Int),Zk (s+F i))))
  (k:∀s,body ((n:Int),Zk s)=some (.inr (g (Zk s)))):aT body (0,Zk A)=some (g (Zk (A+cg (List.range n) F))):=by
 have c:A=A+cg (List.range 0) F:=by simp only[List.range_zero,cg];grind
 obtain⟨q,d,e⟩:=dz (body:=body) (fun i st=>st=((i:Int),Zk (A+cg (List.range i) F))) n (fun q=>q=g (Zk (A+cg (List.range n) F))) (s:=(0,Zk A)) (by rw[<- c];rfl) (kH (by omega)) (by
  rintro i _ l rfl
  by_cases a:i<n
  ·left;have m:=Oy (n:=i) (f:=F) fun j o=>hF j (by omega);have p:=xz A (cg (List.range i) F);refine⟨a,_,b i _ a (by omega),?_⟩;rw[Zr];grind
  grind)
 rw[d,e]
def Y7{row:List ak}{n:Nat}{c a:Nat->Rat}{K:Nat}(k:n<=100)(g:∀i,i<n->row[i]? = some (cw (c i))∧LF (c i)<=4)(h:∀i,i<n->LF (a i)<=K)(l:K<=10000000000) :
  js row (cY n a)=some (cw (cg (List.range n) fun i=>c i*a i))∧LF (cg (List.range n) fun i=>c i*a i)<=1+n*(K+5):=by
 have j:fb=4398046511104:=rfl;have d:∀i,i<n->LF (c i*a i)<=K+4:=fun i b=>by
  have m:=vU (c i) (a i);grind
 refine⟨?_,Oy (K:=K+4) (f:=fun i=>c i*a i) d⟩;have o:=Fg;have key:aT (kC row (cY n a)) (0,Zk 0)=some (Zk (0+cg (List.range n) fun i=>c i*a i)):=by
  refine aju id n (fun i=>c i*a i) (by omega) d (fun i s b p =>?_) (fun s=>by
   simp only[kC,Zk];rw[eS,if_neg (by simp)];rfl)
  have q:i*(K+4+1)<=100*10000000005:=amC (by omega) (by omega);have r:=d i b;have t:=(g i b).2;have u:=h i b;have e:nk (ak.mk (aN.mk (cw s).bX.aq (cw s).bX.aa) (aN.mk (cw s).b8.aq (cw s).b8.aa)) (cw (c i*a i))=some (cw (s+c i*a i),0):=U9 (by omega);simp only[kC,Zk];rw[eS,if_pos (by simpa using b),aR (iG a b),alC,aR (g i b).1,alC,Vj (by omega),alC,e,alC,bc (by omega)]
 unfold js;rw[agf,alC];erw [key];rw[show (0:Rat)+(cg (List.range n) fun i=>c i*a i)=cg (List.range n) fun i=>c i*a i by grind];rfl
structure ahg(l:List (List ak)):Prop where
 len:l.length<=8
 row:∀r∈l,r.length<=8∧∀f∈r,f.bX.aa.length<=3∧f.b8.aa.length<=3
def ahD(l:List (List ak)):∃b,zq l=some b∧(b=true->ahg l):=by
 have d:(l.take 9).length=min 9 l.length:=aky;have g:∀r:List ak,r.length<=8->(aT (qu r) 0=some (.inl ())∧∀(i:Nat) x,r[i]? = some x->(x.bX.aa.length:Int)<=3∧(x.b8.aa.length:Int)<=3)∨(aT (qu r) 0=some (.inr false)∧∃(i:Nat)(x:ak),r[i]? = some x∧¬((x.bX.aa.length:Int)<=3∧(x.b8.aa.length:Int)<=3)):=fun r n =>
  Sm r (fun _ x=>(x.bX.aa.length:Int)<=3∧(x.b8.aa.length:Int)<=3) (by omega) (fun i x a=>by
   have c:=aS a;simp only[qu];rw[if_pos (by simpa using c),aR a,alC,agb,alC,bc (by omega)];grind) (by simp only[qu];simp_all)
 have k:=Sm (l.take 9) (fun _ r=>r.length<=8∧∀(i:Nat) x,r[i]? = some x->(x.bX.aa.length:Int)<=3∧(x.b8.aa.length:Int)<=3) (body:=tL l) (by omega) (fun i r a=>by
  have c:=aS a;rw[d]at c;rw[akH,if_pos (by omega)]at a;simp only[tL];rw[if_pos (by simp;omega),alC,if_pos (by simp;omega),aR a,alC]
  by_cases m:r.length<=8
  ·rw[if_neg (by simp;omega)];rcases g r m with⟨e,h⟩|⟨e,j,x,o,p⟩
   ·rw[e,if_pos ⟨m,h⟩,bc (by omega)];rfl
   grind
  grind) (by
  simp only[tL];grind)
 unfold zq;rcases k with⟨e,h⟩|⟨e,_⟩
 ·rw[e,alC];refine⟨_,rfl,fun q =>?_⟩;have m:=of_decide_eq_true q;refine⟨by omega,fun r n =>?_⟩;obtain⟨i,c⟩:=akB n;obtain⟨o,p⟩:=h i r (by grind);refine⟨o,fun f s =>?_⟩;obtain⟨j,t⟩:=akB s;grind
 simp_all
def Kg{l:List Int}{q:Int}{j:Nat}(h:l[j]? = some q):0<l.count q:=List.count_pos_iff.2 (akG h)
def Kf{q:Int}:∀{l:List Int}{i j:Nat},l.count q=1->l[i]? = some q->l[j]? = some q->i=j
 | [],_,_,h,_,_=>by simp at h
 | x::l,0,0,_,_,_=>rfl
 | x::l,0,j+1,h,h1,h2=>by
  grind
 | x::l,i+1,0,h,h1,h2=>by
  grind
 | x::l,i+1,j+1,h,h1,h2=>by
  have a:l[i]? = some q:=by simpa using h1
  have b:l[j]? = some q:=by simpa using h2
  have:=Kg a;have c:l.count q=1:=by
   grind
  rw[Kf c a b]
def Cp(m:bz)(a:List bz)(q:Nat):IX (m::a) q=(m.aF.count (q:Int):Int)+IX a q:=by
 unfold IX;rw[akX,qg (fun m:bz=>(m.aF.count (q:Int):Int)) a (0+_)];omega
def N9(q:Nat):∀a:List bz,0<=IX a q
 | []=>by simp[IX]
 | m::a=>by have:=N9 q a;rw[Cp];omega
def Xy{q:Nat}:∀{ms:List bz}{i:Nat}{m:bz},ms[i]? = some m->(m.aF.count (q:Int):Int)<=IX ms q
 | [],_,_,h=>by simp at h
 | a::ms,0,m,h=>by
  simp only[List.getElem?_cons_zero,akq]at h;subst h;have:=N9 q ms;rw[Cp];omega
 | a::ms,i+1,m,h=>by
  have:=Xy (q:=q) (ms:=ms) (i:=i) (m:=m) (by simpa using h);rw[Cp];omega
def Xz{q:Nat}:∀{ms:List bz},IX ms q=1->∃(i:Nat)(m:bz),ms[i]? = some m∧m.aF.count (q:Int)=1∧∀(k:Nat)(n:bz),ms[k]? = some n->0<n.aF.count (q:Int)->k=i
 | [],h=>by simp[IX]at h
 | a::ms,h=>by
  have f:=N9 q ms;rw[Cp]at h
  by_cases g:a.aF.count (q:Int)=0
  ·obtain⟨i,m,c,d,j⟩:=Xz (q:=q) (ms:=ms) (by omega);refine⟨i+1,m,by simpa using c,d,fun k n b e =>?_⟩;grind
  ·refine⟨0,a,rfl,by omega,fun k n b e =>?_⟩;cases k with
   | zero=>rfl
   | succ k =>
    have:=Xy (q:=q) (ms:=ms) (i:=k) (m:=n) (by simpa using b);omega
def rA(w:aU)(p i k:Nat):Prop:=∃m y,w.an[i]? = some m∧m.az.aQ[k]? = some y∧y.bn=0∧m.aF.getD y.aX.toNat 0=(p:Int)
def G3{m:bz}{N:Nat}(a:xx m N){k:Nat}{y:tS}(b:m.az.aQ[k]? = some y)(c:y.bn=0):∃j:Nat,y.aX=j∧m.aF[j]? = some (m.aF.getD y.aX.toNat 0):=by
 obtain⟨j,d,e⟩:=G4 a (akG b) c;grind
def C6{w:aU}(c:kd w){p:Nat}(r:p<w.av.length):∃i k,rA w p i k∧∀i' d,rA w p i' d->i'=i∧d=k:=by
 have s:IX w.an p=1:=by
  have:=c.once p r;have:=N9 p w.an;omega
 obtain⟨i,m,e,t,u⟩:=Xz s;have v:=c.fit m (akG e);obtain⟨j,o⟩:=akB (List.count_pos_iff.1 (show 0<m.aF.count (p:Int) by omega));obtain⟨k,⟨y,x,b⟩,z⟩:=NF v.gives (aS o);simp only[akP,beq_iff_eq]at b;refine⟨i,k,⟨m,y,e,x,b.1,?_⟩,?_⟩
 ·grind
 ·rintro i' d ⟨q,A,a,f,g,h⟩;have l:=c.fit q (akG a);obtain⟨B,C,n⟩:=G3 l f g;rw[h]at n;obtain rfl:=u i' q a (Kg n);rw[e]at a;obtain rfl:=amf a;obtain rfl:=Kf t o n;grind
def abw(w:aU)(p:Nat)(F:Nat->Nat->Rat):Rat:=cg (List.range w.an.length) fun i=>(w.an[i]?).elim 0 fun m=>cg (List.range m.az.aQ.length) fun k=>(m.az.aQ[k]?).elim 0 fun y=>if y.bn=0∧m.aF.getD y.aX.toNat 0=(p:Int) then F i k else 0
def G1{w:aU}(q:kd w){p:Nat}(r:p<w.av.length){i k:Nat}(h:rA w p i k)(F:Nat->Nat->Rat):abw w p F=F i k:=by
 obtain⟨u,v,x,l⟩:=C6 q r;obtain⟨rfl,rfl⟩:=l i k h;obtain⟨m,y,o,s,A,B⟩:=h;unfold abw;rw[dB (g:=fun a=>if a=i then F i k else 0) fun a f =>?_,wT (aS o)];have f:=alH.1 f;have c:w.an[a]? = some w.an[a]:=aku f;generalize w.an[a]=n at c;rw[c,Option.elim_some];rw[dB (g:=fun b=>if b=k then (if a=i then F i k else 0) else 0) fun b j =>?_]
 ·by_cases e:a=i
  ·subst e;rw[o]at c;obtain rfl:=amf c;rw[wT (aS s)]
  ·rw[if_neg e];exact Eq.trans (dB (g:=fun _=>0) fun b _=>by split<;>rfl) (oC _)
 ·have j:=alH.1 j;have d:n.az.aQ[b]? = some n.az.aQ[b]:=aku j;generalize n.az.aQ[b]=z at d;rw[d,Option.elim_some]
  by_cases t:z.bn=0∧n.aF.getD z.aX.toNat 0=(p:Int)
  ·obtain⟨rfl,rfl⟩:=l a b ⟨n,z,c,d,t⟩;simp_all
  grind
structure XN(w:aU)(S:List (List ak))(s:Nat->Nat->Rat):Prop where
 len:S.length=w.an.length
 row:∀(i:Nat) m,w.an[i]? = some m->S[i]? = some (cY m.az.au.length (s i))
 nn:∀(i:Nat) m,w.an[i]? = some m->∀k,k<m.az.au.length->0<=s i k∧LF (s i k)<=100
 tk:∀(i:Nat) m,w.an[i]? = some m->∀(k:Nat) x,m.az.au[k]? = some x->x.bn=1->s i k=0
def afl(f:fh)(k:Nat)(x:ak):Prop:=okF x=true∧∀y,f.au[k]? = some y->y.bn=1->x.bX.aq=0
def ZR(f:fh)(l:List ak):Prop:=l.length=f.au.length∧∀(k:Nat) x,l[k]? = some x->afl f k x
def SzA(K:Nat)(S:List (List ak)):Prop:=∀r∈S,∀f∈r,f.bX.aa.length<=K∧f.b8.aa.length<=K
def I4{f:fh}{l:List ak}(u:f.au.length<=100)(p:∀x∈l,x.bX.aa.length<=100∧x.b8.aa.length<=100):∃b,p5 f l=some b∧(b=true↔ZR f l):=by
 have r:fb=4398046511104:=rfl;unfold p5 ZR
 by_cases a:l.length=f.au.length
 rotate_left
 ·exact⟨false,by grind,by simp[a]⟩
 rw[if_neg (by simp[a])];rcases NR l (afl f) false (body:=ng f l) (by omega) (fun i x d=>by
  have s:=aS d;have n:=p x (akG d);have g:f.au[i]? = some (f.au[i]'(by omega)):=aku _;generalize f.au[i]'(by omega)=y at g;simp only[ng];rw[if_pos (by simpa using s),aR d,alC,xB ⟨by unfold sQ;omega,by unfold sQ;omega⟩,alC,bc (by omega)];cases c:okF x with
  | false=>rw[if_pos (by simp),if_neg (fun h=>by have:=h.1;simp_all)]
  | true =>
   rw[if_neg (by simp),aR g,alC]
   by_cases j:y.bn=1
   ·obtain⟨q,rfl⟩:=qM.1 c;rw[if_pos (by simpa using j),Aq (by have:=rT n.1 n.2;omega),alC]
    by_cases h2:q.num.sign=0
    ·rw[if_neg (by simp[h2]),if_pos ⟨c,fun t k _=>h2⟩]
    ·rw[if_pos (by simpa using h2),if_neg (fun h=>h2 (h.2 y g j))]
   ·rw[if_neg (by simpa using j),if_pos ⟨c,fun t k v=>by simp_all⟩]) (by simp only[ng];simp_all) with⟨e,h⟩|⟨e,i,x,d,o⟩
 ·simp_all
 ·rw[e];exact⟨false,rfl,by grind⟩
def Re{l:List ak}(f:l.length<=2000)(m:∀x∈l,okF x=true∧x.bX.aa.length<=100∧x.b8.aa.length<=100):∃b,cy l=some b∧(b=false↔∀x∈l,0<=x.bX.aq):=by
 have n:fb=4398046511104:=rfl;unfold cy dA;rw[nA l (fun i x=>if 0<=x.bX.aq then none else some (i:Int)) (by omega) (fun i x a =>?_) (by simp only[dY];simp_all)]
 ·cases g:eE (fun (i:Nat) (x:ak)=>if 0<=x.bX.aq then none else some (i:Int)) 0 l with
  | none =>
   refine⟨false,rfl,?_⟩;simp only[true_iff];intro x a;obtain⟨j,o⟩:=akB a;have:=cN.1 g j x o;simp_all
  | some q =>
   obtain⟨j,x,r,c,_⟩:=de g;split at c
   ·cases c
   ·rename_i h;cases c;refine⟨true,by simp,?_⟩;grind
 ·have p:=aS a;obtain⟨d,k⟩:=m x (akG a);obtain⟨q,rfl⟩:=qM.1 d;have e:(cw q).bX.aq=q.num.sign:=rfl;simp only[dY,nf];rw[if_pos (by simpa using p),aR a,alC,Aq (by have:=rT k.1 k.2;omega),alC,alC,bc (by omega),e];grind
def xK{w:aU}(W:w.an.length<=5)(P:∀m∈w.an,rK m.az){S:List (List ak)}(I:SzA 100 S) :
  ∃e,lA w S=some e∧(e=0↔∃s,XN w S s)∧(e=0∨e=1∨e=3∧∃r∈S,∃x∈r,x.bX.aq<0):=by
 have D:∀{s:Nat->Nat->Rat},XN w S s->∀(i:Nat) m,w.an[i]? = some m->∃r,S[i]? = some r∧ZR m.az r:=fun {s} h i m d=>by
  refine⟨_,h.row i m d,eS _,fun k x a =>?_⟩;have t:k<m.az.au.length:=by have:=aS a;rwa [eS]at this
  rw[iG _ t]at a;obtain rfl:=amf a;refine⟨HE _,fun y Q u =>?_⟩;rw[h.tk i m d k y Q u];rfl
 unfold lA
 by_cases n:S.length=w.an.length
 rotate_left
 ·exact⟨1,by grind,⟨fun h=>by simp at h,fun⟨s,h⟩=>absurd h.len n⟩,.inr (.inl rfl)⟩
 rw[if_neg (by simp[n])];rcases NR w.an (fun i m=>∃r,S[i]? = some r∧ZR m.az r) (1:Int) (body:=lB w S) (by omega) (fun i m a=>by
  have d:=aS a;have v:S[i]? = some (S[i]'(by omega)):=aku _;have g:=akt (show i<S.length by omega);generalize S[i]'(by omega)=r at v g;have R:=P m (akG a);obtain⟨b,J,T⟩:=I4 (f:=m.az) (l:=r) (by have:=R.srcs;omega) (I r g);simp only[lB];rw[if_pos (by simpa using d),aR a,alC,aR v,alC,J,alC,bc (by omega)];cases b with
  | true=>simp_all
  | false=>simp_all) (by simp only[lB];simp_all) with⟨e,o⟩|⟨e,i,m,a,p⟩
 rotate_left
 ·rw[e];exact⟨1,rfl,⟨fun h=>by simp at h,fun⟨s,h⟩=>absurd (D h i m a) p⟩,.inr (.inl rfl)⟩
 rw[e,alC];simp only;have z:∀r∈S,∃m∈w.an,ZR m.az r:=fun r v=>by
  obtain⟨j,X,rfl⟩:=ami v;have c:w.an[j]? = some (w.an[j]'(by omega)):=aku _;grind
 have K:∀r∈S,r.length<=100∧∀x∈r,okF x=true∧x.bX.aa.length<=100∧x.b8.aa.length<=100:=fun r v=>by
  obtain⟨m,L,u,A⟩:=z r v;have:=(P m L).srcs;refine⟨by omega,fun x a =>?_⟩;obtain⟨k,t⟩:=akB a;exact⟨(A k x t).1,I r v x a⟩
 rcases NR S (fun _ r=>∀x∈r,0<=x.bX.aq) (3:Int) (body:=lC S) (by omega) (fun i r a=>by
  have d:=aS a;obtain⟨Y,U⟩:=K r (akG a);obtain⟨b,J,T⟩:=Re (l:=r) (by omega) U;simp only[lC];rw[if_pos (by simpa using d),aR a,alC,J,alC,bc (by omega)];grind) (by simp only[lC];simp_all) with⟨e,M⟩|⟨e,i,r,a,p⟩
 ·rw[e];refine⟨0,rfl,⟨fun _ =>?_,fun _=>rfl⟩,.inl rfl⟩;refine⟨fun i k=>Ur ((S.getD i []).getD k zF),n,fun i m d =>?_,fun i m d k t =>?_,fun i m d k x t u =>?_⟩
  ·obtain⟨r,u,A,B⟩:=o i m d;have F:S.getD i []=r:=by simp_all
   rw[u,F];refine congrArg some (ic A fun k t =>?_);show r[k]? = some (cw (Ur (r.getD k zF)));have c:r[k]? = some (r[k]'(by omega)):=aku _;obtain⟨q,C⟩:=qM.1 (B k _ c).1;rw[c,akQ,c,ak0,C,zt]
  ·obtain⟨r,u,A,B⟩:=o i m d;have F:S.getD i []=r:=by simp_all
   have c:r[k]? = some (r[k]'(by omega)):=aku _;have g:=akG u;have a:=akG c;obtain⟨q,C⟩:=qM.1 (B k _ c).1;have H:=M i r u _ a;have N:=I r g _ a;rw[C]at H N;have O:Ur ((S.getD i []).getD k zF)=q:=by rw[F,akQ,c,ak0,C,zt]
   rw[O];have Z:¬q<0:=fun h=>by have:=so.2 h;have e:(cw q).bX.aq=q.num.sign:=rfl;omega
   exact⟨by grind,rT N.1 N.2⟩
  ·obtain⟨r,g1,A,B⟩:=o i m d;have F:S.getD i []=r:=by simp_all
   have V:=aS t;have c:r[k]? = some (r[k]'(by omega)):=aku _;obtain⟨q,C⟩:=qM.1 (B k _ c).1;have H:=(B k _ c).2 x t u;rw[C]at H;have O:Ur ((S.getD i []).getD k zF)=q:=by rw[F,akQ,c,ak0,C,zt]
   exact O.trans (acA.1 H)
 ·rw[e];refine⟨3,rfl,⟨fun h=>by simp at h,fun⟨s,h⟩ =>?_⟩,.inr (.inr ⟨rfl,r,akG a,?_⟩)⟩
  ·refine absurd (fun x G =>?_) p;have d:i<w.an.length:=by grind
   have c:w.an[i]? = some (w.an[i]):=aku d;have:=h.row i _ c;rw[a]at this;rw[amf this]at G;obtain⟨k,t,rfl⟩:=akh.1 G;have u:=(h.nn i _ c k (alH.1 t)).1;have A:¬s i k<0:=by grind
   have B:=mt so.1 A;have e:(cw (s i k)).bX.aq=(s i k).num.sign:=rfl;omega
  simp_all
def adE{B:Nat}{α:Type}{l m:List α}(a:B<=1000)(h:l.length+m.length<=1000):oQ B l m=some (l++m):=by
 unfold oQ;have:(1000:Nat)<=maxLen:=by decide
 have b:(l.length+m.length)*B<=1000*1000:=amC h a;grind
def Wl{α:Type}{P Q:Prop}{c:Decidable P}{d:Decidable Q}{a b:α}(h:P↔Q):(if P then a else b)=if Q then a else b:=by
 simp_all
def A3(w:aU)(a:Nat->Nat->Rat)(i k:Nat):Rat:=(w.an[i]?).elim 0 fun m=>cg (List.range m.az.au.length) fun j=>Fp m.az k j*a i j
def Aw(w:aU)(s:Nat->Nat->Rat)(p:Nat):Rat:=abw w p (A3 w s)
section
variable {w:aU} {S:List (List ak)} {s:Nat->Nat->Rat} {N:Nat}
def Dx(l:ru w)(n:kd w){i:Nat}{m:bz}(c:w.an[i]? = some m){k:Nat}(d:k<m.az.aQ.length){a:Nat->Nat->Rat}{K:Nat}(o:K<=10000000000)(p:∀j,j<m.az.au.length->LF (a i j)<=K) :
  ∃row,m.az.aO[k]? = some row∧js row (cY m.az.au.length (a i))=some (cw (A3 w a i k))∧LF (A3 w a i k)<=1+5*(K+5):=by
 have b:=akG c;have f:=(l.mill m b).1;have g:=(n.fit m b).flow;have q:=f.srcs;have r:m.az.aO[k]? = some (m.az.aO[k]'(by rw[g.rows];exact d)):=aku _;generalize m.az.aO[k]'(by grind)=row at r;have s:∀j,j<m.az.au.length->row[j]? = some (cw (Fp m.az k j))∧LF (Fp m.az k j)<=4:=fun j t=>by
  obtain⟨h,u,v,_,x⟩:=tN f g d t;simp_all
 obtain⟨y,z⟩:=Y7 (by omega) s p o;have e:A3 w a i k=cg (List.range m.az.au.length) fun j=>Fp m.az k j*a i j:=by unfold A3;rw[c];rfl
 have A:=akW (K+5) q;grind
def aeu(e:kd w){i k:Nat}{m:bz}{y:tS}(a:w.an[i]? = some m)(b:m.az.aQ[k]? = some y)(c:y.bn=0):∃p:Nat,p<w.av.length∧P.idx m.aF y.aX=some (p:Int)∧rA w p i k:=by
 have d:=e.fit m (akG a);obtain⟨j,g,f⟩:=G3 d b c;have h:=d.ports _ (akG f);refine⟨(m.aF.getD y.aX.toNat 0).toNat,by omega,?_,m,y,a,b,c,by omega⟩;grind[Int.toNat_of_nonneg,aR]
open Classical in
def uL(w:aU)(s:Nat->Nat->Rat)(i k:Nat):List ak:=(List.range w.av.length).map fun p=>if ∃a b,rA w p a b∧(a<i∨a=i∧b<k) then cw (Aw w s p) else zF
def F7{i k c d:Nat}(h:∀p,p<w.av.length->∀a b,rA w p a b->((a<i∨a=i∧b<k)↔(a<c∨a=c∧b<d))):uL w s i k=uL w s c d:=by
 unfold uL;refine alA fun p e =>?_;have e:=alH.1 e;have:(∃a b,rA w p a b∧(a<i∨a=i∧b<k))↔∃a b,rA w p a b∧(a<c∨a=c∧b<d):=by
  grind
 exact Wl this
theorem aaO(l:kd w){i k p:Nat}(m:p<w.av.length)(f:rA w p i k):(uL w s i k).set p (cw (A3 w s i k))=uL w s i (k+1):=by
 unfold uL;rw[gZ];refine alA fun q g =>?_;have g:=alH.1 g
 by_cases d:q=p
 ·subst d;rw[if_pos rfl,if_pos ⟨i,k,f,.inr ⟨rfl,by omega⟩⟩];unfold Aw;rw[G1 l g f]
 ·rw[if_neg d];have:(∃c e,rA w q c e∧(c<i∨c=i∧e<k))↔∃c e,rA w q c e∧(c<i∨c=i∧e<k+1):=by
   constructor
   ·grind
   ·rintro⟨a,b,j,n⟩;refine⟨a,b,j,?_⟩
    by_cases h:a=i∧b=k
    ·exfalso;obtain⟨rfl,rfl⟩:=h;obtain⟨o,r,t,u,_,v⟩:=j;obtain⟨x,y,z,A,_,B⟩:=f;grind
    ·omega
  exact Wl this
theorem X5{i k:Nat}{m:bz}{y:tS}(e:w.an[i]? = some m)(f:m.az.aQ[k]? = some y)(g:y.bn≠0):uL w s i k=uL w s i (k+1):=by
 refine F7 fun p j a b c =>?_;constructor
 ·intro h;omega
 ·intro h
  by_cases d:a=i∧b=k
  ·exfalso;obtain⟨rfl,rfl⟩:=d;obtain⟨l,n,o,q,r,_⟩:=c;simp_all
  ·omega
def aaM{i:Nat}{m:bz}(e:w.an[i]? = some m):uL w s i m.az.aQ.length=uL w s (i+1) 0:=by
 refine F7 fun p f a b c =>?_;constructor
 ·intro h;omega
 ·intro h;rcases h with h|h
  ·by_cases d:a=i
   ·subst d;obtain⟨g,j,k,l,_,_⟩:=c;grind
   omega
  ·omega
def Ts:List.replicate w.av.length zF=uL w s 0 0:=by
 unfold uL;refine ic (by simp) fun j a =>?_;simp_all
def X4(a:kd w):uL w s w.an.length 0=cY w.av.length (Aw w s):=by
 refine alA fun p b =>?_;obtain⟨i,k,h,_⟩:=C6 a (alH.1 b);obtain⟨m,y,c,_⟩:=id h;rw[if_pos ⟨i,k,h,.inl (aS c)⟩]
def aaN{i k p:Nat}(a:p<w.av.length):∃z,(uL w s i k)[p]? = some z:=⟨_,aku (by unfold uL;simp_all)⟩
def X7(h:ru w)(n:kd w)(o:XN w S s){i:Nat}{m:bz}(b:w.an[i]? = some m) :
  aT (jl S (i:Int) m) ((0:Int),uL w s i 0)=some (uL w s (i+1) 0):=by
 have c:=akG b;have r:=(h.mill m c).1;have F:=r.outs;have key:=fun e d=>sg (body:=jl S (i:Int) m) m.az.aQ (by omega) (fun k (l:List ak)=>l=uL w s i k) (fun l=>l=uL w s (i+1) 0) (s0:=uL w s i 0) rfl e d;refine (key ?_ ?_).elim fun x ⟨t,hx⟩=>hx ▸ t
 ·rintro k y _ f rfl;have q:=aS f;simp only[jl];rw[if_pos (by simpa using q),aR f,alC,bc (by omega)]
  by_cases g:y.bn=0
  ·obtain⟨p,u,v,G⟩:=aeu n b f g;obtain⟨A,B,C,_⟩:=Dx h n b q (a:=s) (K:=100) (by omega) fun j D=>(o.nn i m b j D).2;obtain⟨z,E⟩:=aaN (s:=s) (i:=i) (k:=k) u;rw[if_pos (by simpa using g),v,alC,aR B,alC,aR (o.row i m b),alC,C,alC,aR E,alC,ak8];grind[aaO]
  ·rw[if_neg (by simpa using g)];grind[X5]
 ·rintro _ rfl;refine⟨_,?_,rfl⟩;simp_all[jl,if_neg,aaM]
def X6(b:ru w)(e:kd w)(f:XN w S s):ma w S=some (cY w.av.length (Aw w s)):=by
 have h:=b.mills;have j:=b.given;have key:=fun c a=>sg (body:=jk w S) w.an (by omega) (fun i (l:List ak)=>l=uL w s i 0) (fun l=>l=cY w.av.length (Aw w s)) (s0:=List.replicate w.av.length zF) Ts c a;have d:aT (jk w S) ((0:Int),List.replicate w.av.length zF)=some (cY w.av.length (Aw w s)):=by
  refine (key ?_ ?_).elim fun x ⟨d,hx⟩=>hx ▸ d
  ·rintro i m _ hx rfl;have g:=aS hx;refine⟨_,?_,rfl⟩;simp only[jk];rw[if_pos (by simpa using g),aR hx,alC,X7 b e f hx,alC,bc (by omega)]
  ·rintro _ rfl;refine⟨_,?_,rfl⟩;simp_all[jk,if_neg,X4]
 grind[ma,B6]
def Pp(a:kd w){p:Nat}(b:p<w.av.length):∃i k,rA w p i k∧Aw w s p=A3 w s i k:=by
 obtain⟨i,k,h,_⟩:=C6 a b;exact⟨i,k,h,G1 a b h _⟩
def WQ(b:ru w)(c:kd w){i k:Nat}{m:bz}{y:tS}(d:w.an[i]? = some m)(e:m.az.aQ[k]? = some y){a:Nat->Nat->Rat}{K:Nat}(f:K<=10000000000)(g:∀j,j<m.az.au.length->LF (a i j)<=K):LF (A3 w a i k)<=1+5*(K+5):=by
 obtain⟨_,_,_,h⟩:=Dx b c d (aS e) f g;exact h
def WN(e:ru w)(f:kd w){i k:Nat}{m:bz}{y:tS}(d:w.an[i]? = some m)(g:m.az.aQ[k]? = some y){a:Nat->Nat->Rat}(l:∀j,j<m.az.au.length->0<=a i j):0<=A3 w a i k:=by
 have b:=akG d;unfold A3;rw[d,Option.elim_some];refine Cn fun j c =>?_;have c:=alH.1 c;obtain⟨_,_,_,h,_⟩:=tN (e.mill m b).1 (f.fit m b).flow (aS g) c;exact amF h (l j c)
def VQ(f:ru w)(c:kd w)(g:XN w S s){p:Nat}(l:p<w.av.length):LF (Aw w s p)<=2700∧0<=Aw w s p:=by
 obtain⟨i,k,⟨m,y,b,h,_,_⟩,e⟩:=Pp (s:=s) c l;rw[e];have:=WQ f c b h (a:=s) (K:=100) (by omega) fun j d=>(g.nn i m b j d).2;exact⟨by omega,WN f c b h fun j d=>(g.nn i m b j d).1⟩
def FK(w:aU)(s:Nat->Nat->Rat)(x:Nat->Rat)(i j:Nat):Rat:=(w.an[i]?).elim 0 fun m=>(m.az.au[j]?).elim 0 fun y=>if y.bn=1 then OI w.av (rq m y.aX)*x (rq m y.aX).bQ.toNat else s i j
def tG(w:aU)(s:Nat->Nat->Rat)(x:Nat->Rat)(i k:Nat):Rat:=A3 w (FK w s x) i k
def Ae(w:aU)(i:Nat):Nat:=(w.an[i]?).elim 0 fun m=>m.az.aQ.length
def uB(w:aU)(s:Nat->Nat->Rat)(x:Nat->Rat)(n:Nat):List (List ak):=(List.range n).map fun i=>cY (Ae w i) (tG w s x i)
def aet(d:kd w){x:Nat->Rat}{p:Nat}(i:p<w.av.length)(k:LF (x p)<=1000000000){a:Int}(l : -1099511627776<=a∧a<=1099511627776) :
  lD w (cY w.av.length x) (p:Int) a=some (cw (Rat.divInt a (w.av.getD p 0)*x p))∧LF (Rat.divInt a (w.av.getD p 0)*x p)<=1000000020:=by
 have e:fb=4398046511104:=rfl;obtain⟨j,m,n,f,b,c⟩:=G2 d.given (p:=(p:Int)) (by omega);obtain rfl:p=j:=by omega
 rw[ak8]at f b c;have g:w.av.getD p 0≠0:=by omega
 have o:=u7 (p:=a) g;have q:=XM b c;have r:Ln a<=10:=by
  rcases Int.lt_trichotomy a 0 with h|h|h
  ·have:=XM (x := -a) (by omega) (by omega);rw[MB]at this;omega
  ·subst h;exact akk LF_zero_ln (by decide)
  grind[Nat.le_trans,XM]
 have s:=vU (Rat.divInt a (w.av.getD p 0)) (x p);refine⟨?_,by omega⟩;unfold lD;grind[aR,ahk,iG,Vj]
where
 LF_zero_ln:Ln 0<=1:=by have:=Fg;have h:=mQ 0;exact akk h this
end
section
variable {w:aU} {S:List (List ak)} {s:Nat->Nat->Rat} {x:Nat->Rat}
def u9{i j:Nat}{m:bz}{y:gY}(a:w.an[i]? = some m)(b:m.az.au[j]? = some y):FK w s x i j=if y.bn=1 then OI w.av (rq m y.aX)*x (rq m y.aX).bQ.toNat else s i j:=by
 unfold FK;simp_all
def IN(c:kd w)(d:∀p,p<w.av.length->LF (x p)<=1000000000){m:bz}(e:m∈w.an){u:ie}(f:u∈m.ba) :
  lD w (cY w.av.length x) u.bQ u.aV=some (cw (OI w.av u*x u.bQ.toNat))∧LF (OI w.av u*x u.bQ.toNat)<=1000000020∧u.bQ.toNat<w.av.length:=by
 obtain⟨g,h⟩:=(c.fit m e).uses u f;have b:u.bQ.toNat<w.av.length:=by omega
 have:=aet c b (d _ b) (a:=u.aV) (by omega);rw[Int.toNat_of_nonneg g.1]at this;exact⟨this.1,this.2,b⟩
def aaf(c:kd w)(f:XN w S s)(g:∀p,p<w.av.length->LF (x p)<=1000000000){i:Nat}{m:bz}(b:w.an[i]? = some m):∀j,j<m.az.au.length->LF (FK w s x i j)<=1000000020:=fun j d=>by
 have e:m.az.au[j]? = some m.az.au[j]:=aku d;have a:=akG b;rw[u9 b e];split
 ·rename_i h;obtain⟨_,k⟩:=yS (c.fit m a) (akG e) h;exact (IN c g a k).2.1
 ·have:=(f.nn i m b j d).2;omega
def O7(q:ru w)(n:kd w)(u:XN w S s)(hx:∀p,p<w.av.length->LF (x p)<=1000000000){i:Nat}{m:bz}(g:w.an[i]? = some m){e:Int} :
  aT (jU w (cY w.av.length x,e) m) ((0:Int),cY m.az.au.length (s i))=some (cY m.az.au.length (FK w s x i)):=by
 have a:=akG g;have v:=(q.mill m a).1.srcs;have key:=fun h c=>sg (body:=jU w (cY w.av.length x,e) m) m.az.au (by omega) (fun k (l:List ak)=>l=(List.range m.az.au.length).map fun j=>if j<k then cw (FK w s x i j) else cw (s i j)) (fun l=>l=cY m.az.au.length (FK w s x i)) (s0:=cY m.az.au.length (s i)) (alA fun j _=>by simp_all) h c;refine (key ?_ ?_).elim fun x ⟨b,hx⟩=>hx ▸ b
 ·rintro k y _ d rfl;have o:=aS d;simp only[jU];rw[if_pos (by simpa using o),aR d,alC,bc (by omega)]
  by_cases b:y.bn=1
  ·obtain⟨r,t⟩:=yS (n.fit m a) (akG d) b;rw[if_pos (by simpa using b),r,alC,(IN n hx a t).1,alC,aR (dI _ o),alC,ak8,gZ];refine⟨_,rfl,alA fun j _ =>?_⟩
   by_cases f:j=k
   ·subst f;rw[if_pos rfl,if_pos (by omega),u9 g d,if_pos b]
   grind
  ·rw[if_neg (by simpa using b)];refine⟨_,rfl,alA fun j _ =>?_⟩
   by_cases f:j=k
   ·subst f;rw[if_neg (by omega),if_pos (by omega),u9 g d,if_neg b]
   grind
 ·rintro _ rfl;refine⟨_,?_,rfl⟩;simp only[jU];rw[if_neg (by simp)];refine congrArg some (congrArg Sum.inr (alA fun j f =>?_));simp_all
def Tq(h:ru w)(f:kd w)(o:XN w S s)(hx:∀p,p<w.av.length->LF (x p)<=1000000000){i:Nat}{m:bz}(e:w.an[i]? = some m) :
  aT (jV m (cY m.az.au.length (FK w s x i))) ((0:Int),[])=some (cY (Ae w i) (tG w s x i)):=by
 have c:=akG e;have q:=(h.mill m c).1;have z:=q.outs;have A:=(f.fit m c).flow.rows;have r:Ae w i=m.az.aQ.length:=by unfold Ae;rw[e];rfl
 rw[r];have key:=fun g d=>sg (body:=jV m (cY m.az.au.length (FK w s x i))) m.az.aO (by omega) (fun k (l:List ak)=>l=cY k (tG w s x i)) (fun l=>l=cY m.az.aQ.length (tG w s x i)) (s0:=[]) rfl g d;refine (key ?_ ?_).elim fun x ⟨t,hx⟩=>hx ▸ t
 ·rintro k u _ b rfl;have v:=aS b;obtain⟨j,n,y,_⟩:=Dx h f e (k:=k) (by omega) (a:=FK w s x) (K:=1000000020) (by omega) (aaf f o hx e);rw[b]at n;obtain rfl:=amf n;refine⟨_,?_,rfl⟩;simp only[jV];rw[if_pos (by simpa using v),aR b,alC,y,alC,adE (by omega) (by rw[eS];simp;omega),alC,bc (by omega)];unfold cY tG;rw[amE,als];rfl
 ·rintro _ rfl;refine⟨_,?_,rfl⟩;simp only[jV];simp_all
def O6(c:ru w)(g:kd w)(d:XN w S s)(hx:∀p,p<w.av.length->LF (x p)<=1000000000){e:Int} :
  aT (iN w S (cY w.av.length x,e)) ((0:Int),[])=some (uB w s x w.an.length):=by
 have k:=c.mills;have key:=fun f b=>sg (body:=iN w S (cY w.av.length x,e)) w.an (by omega) (fun i (l:List (List ak))=>l=uB w s x i) (fun l=>l=uB w s x w.an.length) (s0:=[]) rfl f b;refine (key ?_ ?_).elim fun x ⟨h,hx⟩=>hx ▸ h
 ·rintro i m _ a rfl;have j:=aS a;have n:=(c.mill m (akG a)).1.srcs;refine⟨_,?_,rfl⟩;simp only[iN];rw[if_pos (by simpa using j),aR a,alC,aR (d.row i m a),alC];unfold gO;rw[adE (by omega) (by rw[eS];simp;omega),alO,alC,O7 c g d hx a,alC,Tq c g d hx a,alC,adE (by omega) (by unfold uB;simp;omega),alC,bc (by omega)];unfold uB;rw[amE,als];rfl
 ·rintro _ rfl;refine⟨_,?_,rfl⟩;simp only[iN];simp_all
structure xv(w:aU)(S:List (List ak))(s:Nat->Nat->Rat)(x:Nat->Rat)(r:Nat->Int):Prop where
 err:BP w=none
 amt:XN w S s
 sol:XO w.av.length (kc w.av.length (mO (rC w))) (Aw w s) x
 acu:jZ (Rh w (rC w))=some ((List.range w.av.length).map r)
 rank:pX w.av.length (kc w.av.length (mO (rC w))) r
 trap:oD w.av.length r=[]
 sz:∀p,p<w.av.length->LF (x p)<=1000000000
 out:fI w S=some (uB w s x w.an.length,cY w.av.length x,0)
def aaz(a:ru w)(D:SzA 100 S)(i:BP w=none)(c:XN w S s) :
  (fI w S=some ([],[],24)∧∃r,jZ (Rh w (rC w))=some ((List.range w.av.length).map r)∧oD w.av.length r≠[])∨∃x r,xv w S s x r:=by
 have E:=a.given;have f:=G5 i;obtain⟨e,F,G,_⟩:=xK (w:=w) a.mills (fun m H=>(a.mill m H).1) D;obtain rfl:e=0:=G.2 ⟨s,c⟩;have I:=wH a f;have k:=Nt E (Ca a f).2;have n:SzN (Rh w (rC w)) 2700:=afV k.2;have J:∀p,p<w.av.length->LF (Aw w s p)<=2700:=fun p b=>(VQ a f c b).1;have o:SzL (cY w.av.length (Aw w s)) 2700:=YG J;have g:fI w S=(kL (Rh w (rC w)) (cY w.av.length (Aw w s))).bind fun j=>if (j.2 != 0)=true then some ([],[],j.2) else (aT (iN w S j) (0,[])).bind fun l=>some (l,j.1,0):=by
  unfold fI;rw[Bt a,alC,i,if_neg (by simp),F,alC,if_neg (by simp),of_eq a,i,alC,if_neg (by simp),X6 a f c,alC]
 rw[g];rcases ZY (K:=2700) (M:=6) (by decide) n o (by rw[eS];omega) (.inl (by show ((w.av.length:Nat):Int)<=_;omega)) ait with⟨L,q⟩|⟨N,tk,d,r,A,O,t,P,_,_,u,v,⟨B,q⟩|⟨B,x,Q,q,y⟩⟩
 ·exact absurd ⟨_,_,_,rfl,I,rfl⟩ L
 ·obtain⟨rfl,rfl⟩:=Nq A;grind
 ·obtain⟨rfl,rfl⟩:=Nq A;obtain⟨_,z⟩:=Lb t;have C:∀p,p<w.av.length->LF (x p)<=1000000000:=fun p b=>XsW P (y p b);right;have h:XO w.av.length (kc w.av.length (mO (rC w))) (Aw w s) x:=fun p b=>by rw[z p b];exact Q p b
  refine⟨x,r,i,c,h,u,v,B,C,?_⟩;rw[g,q,alC,if_neg (by simp),O6 a f c C,alC]
def DW(a:ru w)(f:SzA 100 S) :
  (∃e,fI w S=some ([],[],e)∧e≠0∧((∃r,BP w=some r∧e=r.1)∨(BP w=none∧lA w S=some e)∨(BP w=none∧e=24∧∃r,jZ (Rh w (rC w))=some ((List.range w.av.length).map r)∧oD w.av.length r≠[]))) ∨
  ∃s x r,xv w S s x r:=by
 cases c:BP w with
 | some r =>
  have b:=V6 c;left;refine⟨r.1,?_,b,.inl ⟨r,rfl,rfl⟩⟩;unfold fI;rw[Bt a,alC,c,if_pos (by simpa using b)];rfl
 | none =>
 obtain⟨e,g,i,_⟩:=xK (w:=w) a.mills (fun m j=>(a.mill m j).1) f
 by_cases d:e=0
 ·obtain⟨s,k⟩:=i.1 d;rcases aaz a f c k with⟨l,n⟩|⟨x,r,h⟩
  ·simp_all
  grind
 ·left;refine⟨e,?_,d,.inr (.inl ⟨rfl,g⟩)⟩;unfold fI;rw[Bt a,alC,c,if_neg (by simp),g,alC,if_pos (by simpa using d)]
end
section
variable {w:aU} {S:List (List ak)} {s:Nat->Nat->Rat} {x:Nat->Rat} {r:Nat->Int}
end
section
variable {w:aU} {x:Nat->Rat}
end
def agC:yx=some true:=by kernel_rfl
def abf{l m:List Int}(d:l.length<4611686018427387904):mH l m=some (decide (l=m)):=by
 unfold mH
 by_cases hlen:l.length=m.length
 rotate_left
 ·rw[if_pos (by grind),decide_eq_false (fun h=>hlen (by rw[h]))]
 rw[if_neg (by simp[hlen]),nA l (fun i x=>if m[i]? = some x then none else some false) d (fun i x b =>?_) (by simp only[nP];simp_all),alC]
 ·cases c:eE (fun (i:Nat) (x:Int)=>if m[i]? = some x then none else some false) 0 l with
  | none =>
   have:l=m:=ame fun j=>by
    by_cases e:j<l.length
    ·have h:=cN.1 c j _ (aku e);simp_all
    simp_all
   simp_all
  | some q =>
   obtain⟨j,x,k,a,_⟩:=de c;rw[alf]at a;split at a
   ·cases a
   ·rename_i hbad;cases a;rw[decide_eq_false (fun h=>hbad (by simp_all))]
 ·have f:=aS b;have g:m[i]? = some (m[i]'(by omega)):=aku _;simp only[nP];rw[if_pos (by simpa using f),aR b,alC,aR g,alC,bc (by omega)];grind
def VA{b c:aN}(h:b.aa.length<4611686018427387904):sU b c=some (decide (b=c)):=by
 obtain⟨s,l⟩:=b;obtain⟨t,m⟩:=c;unfold sU;simp only at h ⊢
 by_cases a:s=t
 ·rw[if_pos (by simpa using a),abf h,alC];simp_all
 simp_all
def agB{a b:Rat}(h:LF a<=fb):sA (cw a) (cw b)=some (decide (a=b)):=by
 have c:=zh h;unfold fb at c;unfold sA;rw[VA (by omega),alC]
 by_cases h1:(cw a).bX=(cw b).bX
 ·rw[if_pos (decide_eq_true h1),VA (by omega),alC]
  by_cases h2:(cw a).b8=(cw b).b8
  ·have:cw a=cw b:=by
    cases d:cw a;simp_all
   rw[decide_eq_true h2,decide_eq_true (uu this)]
  ·rw[decide_eq_false h2,decide_eq_false (fun e=>h2 (by rw[e]))]
 ·rw[if_neg (by simpa using h1),decide_eq_false (fun e=>h1 (by rw[e]))]
section
variable {w:aU} {S:List (List ak)} {s:Nat->Nat->Rat} {x:Nat->Rat} {r:Nat->Int}
def aay(b:ru w)(a:xv w S s x r):∀p,p<w.av.length->0<=x p:=by
 have c:=G5 a.err;exact UA (wH b c) a.rank (ID a.rank a.trap) a.sol fun p d=>(VQ b c a.amt d).2
def agu(f:ru w)(d:xv w S s x r){i k:Nat}{m:bz}{y:tS}(e:w.an[i]? = some m)(g:m.az.aQ[k]? = some y):0<=tG w s x i k∧LF (tG w s x i k)<=5000000126:=by
 have c:=G5 d.err;have b:=akG e;have h:=WQ f c e g (a:=FK w s x) (K:=1000000020) (by omega) (aaf c d.amt d.sz e);refine⟨WN f c e g fun j l =>?_,by unfold tG;omega⟩;have n:m.az.au[j]? = some m.az.au[j]:=aku l;rw[u9 e n];split
 ·rename_i p;obtain⟨_,o⟩:=yS (c.fit m b) (akG n) p;exact amF (Rat.le_of_lt (MG c.given (c.fit m b) o).2) (aay f d _ (IN c d.sz b o).2.2)
 ·exact (d.amt.nn i m e j l).1
end
def Y1{n:Nat}{f:Nat->Rat}(d:n<=100)(c:∀k,k<n->LF (f k)<=fb):nz (cY n f) (cY n f)=some true:=by
 unfold nz;rw[if_neg (by simp),nA (cY n f) (fun _ _=>(none:Option Bool)) (by rw[eS];omega) (fun k y b =>?_) (by simp only[uF];simp_all)]
 ·rw[B7];rfl
 ·have a:k<n:=by have:=aS b;rwa [eS]at this
  rw[iG f a]at b;obtain rfl:=amf b;simp only[uF];rw[eS,if_pos (by simpa using a),aR (iG f a),alC,alC,Y0 (c k a),decide_eq_true rfl,alC,if_neg (by simp),bc (by omega)]
section
variable {w:aU} {S:List (List ak)} {s s':Nat->Nat->Rat} {x x':Nat->Rat} {r:Nat->Int} {t:Rat}
end
def adB{S:List (List ak)}(h:ahg S):SzA 100 S:=fun r a f b=>by have:=(h.row r a).2 f b;omega
def MA(l m:List Bool):Prop:=m.length=l.length∧∀j:Nat,l[j]? = some true->m[j]? = some true
def MA.refl(l:List Bool):MA l l:=⟨rfl,fun _ h=>h⟩
def MA.trans{a b c:List Bool}(h:MA a b)(k:MA b c):MA a c:=⟨k.1.trans h.1,fun j d=>k.2 j (h.2 j d)⟩
def MA.set(l:List Bool)(j:Nat):MA l (l.set j true):=⟨by simp,fun i a=>by
 rw[List.getElem?_set];split
 ·rename_i h;subst h;rw[if_pos (aS a)]
 ·exact a⟩
def G0{l:List Bool}{N j:Nat}(h:l.length=N)(a:j<N):l[j]? = some true∨l[j]? = some false:=by
 have:l[j]? = some (l[j]'(by omega)):=aku _;rw[this];cases l[j]'(by omega)<;>simp
def adQ{l:List Bool}{j:Nat}(h:l[j]? = some false):(l.set j true).count true=l.count true+1:=by
 obtain⟨a,b⟩:=akI.1 h;rw[List.count_set a,b];simp
section
variable {N:Nat} {n:fW}
def Yp{fr:List Int}(t:N<=2000)(u:fr.length<=2000){l0:List Bool}(n:l0.length=N) :
  ∃l,aT (lI fr) (0,l0)=some l∧l.length=N∧∀q∈fr,0<=q->q<(N:Int)->l[q.toNat]? = some true:=by
 obtain⟨l,c,d⟩:=dz (body:=lI fr) (fun i o=>∃l:List Bool,o=((i:Int),l)∧l.length=N∧∀q∈fr.take i,0<=q->q<(N:Int)->l[q.toNat]? = some true) fr.length (fun l=>l.length=N∧∀q∈fr,0<=q->q<(N:Int)->l[q.toNat]? = some true) (s:=(0,l0)) ⟨l0,rfl,n,by simp⟩ (kH (by omega)) (by
  rintro i _ v ⟨l,rfl,f,g⟩;simp only[lI]
  by_cases b:i<fr.length
  rotate_left
  ·right;refine⟨_,by rw[if_neg (by simpa using b)],f,?_⟩
   rwa [alV (by omega)]at g
  left;have m:fr[i]? = some fr[i]:=aku b;have k:fr.take (i+1)=fr.take i++[fr[i]]:=amB b;generalize fr[i]=q at m k;rw[if_pos (by simpa using b),aR m,alC,bc (by omega),f]
  by_cases h:0<=q∧q<(N:Int)
  ·obtain⟨j,rfl⟩:∃j:Nat,q=j:=⟨q.toNat,by omega⟩;have p:l[j]? = some (l[j]'(by omega)):=aku _;rw[if_pos (by simp),alC,if_pos (by simpa using h.2),aR p,alC,ak8];refine⟨b,_,rfl,_,rfl,by simpa using f,fun q a c d =>?_⟩;rw[k]at a;rcases alv.1 a with a|a
   ·exact (MA.set l j).2 _ (g q a c d)
   ·rw[akC.1 a,ak8,List.getElem?_set_self (by omega)]
  ·have e:(if decide (q>=0) then some (decide (q<(N:Int))) else some false)=some false:=by
    by_cases a:q>=0
    ·rw[if_pos (by simpa using a),decide_eq_false (by omega)]
    ·rw[if_neg (by simpa using a)]
   rw[e,alC,if_neg (by simp)];refine⟨b,_,rfl,_,rfl,f,fun r a c d =>?_⟩;rw[k]at a;rcases alv.1 a with a|a
   ·exact g r a c d
   ·rw[akC.1 a]at c d;exact absurd ⟨c,d⟩ h)
 exact⟨l,c,d⟩
def Ud{tk:List Tk}(K:tk.length<=8000)(p:∀t∈tk,t.1<N∧t.2.1<N){l:List Bool}(z:l.length=N) :
  ∃b m,aT (lJ (pK N tk)) (false,0,l)=some (b,m)∧MA l m∧(b=true->l.count true<m.count true)∧(b=false->m=l∧∀t∈tk,l[t.1]? = some true->l[t.2.1]? = some true):=by
 have A:(pK N tk).aZ=tk.map vH:=rfl;obtain⟨⟨b,m⟩,B,C⟩:=dz (body:=lJ (pK N tk)) (fun i D=>∃(b:Bool)(m:List Bool),D=(b,(i:Int),m)∧MA l m∧l.count true<=m.count true∧(b=true->l.count true<m.count true)∧(b=false->m=l∧∀t∈tk.take i,l[t.1]? = some true->l[t.2.1]? = some true)) tk.length
  (fun r=>MA l r.2∧(r.1=true->l.count true<r.2.count true)∧(r.1=false->r.2=l∧∀t∈tk,l[t.1]? = some true->l[t.2.1]? = some true)) (s:=(false,0,l)) ⟨false,l,rfl,MA.refl l,aki _,(fun h=>by cases h),fun _=>⟨rfl,by simp⟩⟩ (kH (by omega)) (by
  rintro i _ L ⟨b,m,rfl,g,y,q,d⟩;simp only[lJ];rw[A,akJ]
  by_cases c:i<tk.length
  rotate_left
  ·right;refine⟨_,by rw[if_neg (by simpa using c)],g,q,?_⟩
   rwa [alV (by omega)]at d
  left;have u:tk[i]? = some tk[i]:=aku c;have e:tk.take (i+1)=tk.take i++[tk[i]]:=amB c;generalize tk[i]=t at u e;obtain⟨E,F⟩:=p t (akG u);have v:(tk.map vH)[i]? = some (vH t):=by rw[akf,u];rfl
  have f1:(vH t).db=(t.1:Int):=rfl;have f2:(vH t).jM=(t.2.1:Int):=rfl;have j:m.length=N:=g.1.trans z;rw[if_pos (by simpa using c),aR v,alC,f1,f2,bc (by omega)];have w:∀(k:Bool)(m':List Bool),MA l m'->l.count true<=m'.count true->(k=true->l.count true<m'.count true)->(k=false->m'=l∧∀t∈tk.take (i+1),l[t.1]? = some true->l[t.2.1]? = some true)->∃s',some (Sum.inl (k,((i+1:Nat):Int),m'))=(some (.inl s'):Option ((Bool×Int×List Bool)⊕(Bool×List Bool)))∧∃(b:Bool)(m:List Bool),s'=(b,((i+1:Nat):Int),m)∧MA l m∧l.count true<=m.count true∧(b=true->l.count true<m.count true)∧(b=false->m=l∧∀t∈tk.take (i+1),l[t.1]? = some true->l[t.2.1]? = some true):=fun k m' G H I J=>⟨_,rfl,k,m',rfl,G,H,I,J⟩;refine⟨c,?_⟩;rcases G0 j E with o|o
  ·rw[aR o,alC,if_pos rfl];rcases G0 j F with n|n
   ·rw[aR n,alC,alC,if_neg (by simp)];refine w b m g y q fun f=>⟨(d f).1,fun x a h =>?_⟩;rw[e]at a;rcases alv.1 a with a|a
    ·exact (d f).2 x a h
    ·rw[akC.1 a,<- (d f).1];exact n
   ·rw[aR n,alC,alC,if_pos (by simp),alC,ak8];have M:=adQ n;exact w true _ (g.trans (MA.set m _)) (by omega) (fun _=>by omega) fun h=>by cases h
  ·rw[aR o,alC,if_neg (by simp),alC,if_neg (by simp)];refine w b m g y q fun f=>⟨(d f).1,fun x a h =>?_⟩;rw[e]at a;rcases alv.1 a with a|a
   ·exact (d f).2 x a h
   ·rw[akC.1 a,<- (d f).1,o]at h;cases h)
 exact⟨b,m,B,C⟩
def Us{tk:List Tk}{fr:List Int}(j:N<=2000)(o:fr.length<=2000)(p:tk.length<=8000)(d:∀t∈tk,t.1<N∧t.2.1<N) :
  ∃l,lH (pK N tk) fr=some l∧l.length=N∧(∀q∈fr,0<=q->q<(N:Int)->l[q.toNat]? = some true)∧∀t∈tk,l[t.1]? = some true->l[t.2.1]? = some true:=by
 obtain⟨c,r,k,u⟩:=Yp (fr:=fr) j o (l0:=List.replicate N false) (by simp);obtain⟨l,v,k2⟩:=dz (body:=pb (pK N tk)) (fun i w=>∃(b:Bool)(m:List Bool),w=(b,m)∧MA c m∧(b=true->i<=m.count true)∧(b=false->∀t∈tk,m[t.1]? = some true->m[t.2.1]? = some true)) (N+1)
  (fun m=>MA c m∧∀t∈tk,m[t.1]? = some true->m[t.2.1]? = some true) (s:=(true,c)) ⟨true,c,rfl,MA.refl _,fun _=>akj _,fun h=>by cases h⟩ (kH (by omega)) (by
  rintro i _ H ⟨b,m,rfl,e,n,x⟩;simp only[pb];cases b with
  | false=>right;exact⟨_,rfl,e,x rfl⟩
  | true =>
   left;have f:m.length=N:=e.1.trans k;have I:m.count true<=m.length:=List.count_le_length;obtain⟨y,z,A,B,C,D⟩:=Ud p d f;rw[if_pos rfl,A,alC];refine⟨by have:=n rfl;omega,_,rfl,y,z,rfl,e.trans B,fun g=>by have:=n rfl;have:=C g;omega,fun g =>?_⟩;obtain⟨rfl,E⟩:=D g;exact E)
 have F:(pK N tk).aF=(N:Int):=rfl;unfold lH;rw[F,B6 false (by omega) j,alC,r,alC,v,alC];exact⟨l,rfl,k2.1.1.trans k,fun q G a b=>k2.1.2 _ (u q G a b),k2.2⟩
end
section
variable {w:aU} {S S':List (List ak)} {s s':Nat->Nat->Rat} {x x':Nat->Rat} {r r':Nat->Int}
def Sj(c:XN w S s)(d:XN w S' s'){i:Nat}(h:S[i]? = S'[i]?){m:bz}(a:w.an[i]? = some m):∀j,j<m.az.au.length->s i j=s' i j:=by
 have b:=c.row i m a;have e:=d.row i m a;rw[h,e]at b;exact fun j f=>((Lb (amf b)).2 j f).symm
def Zs{n:Nat}{f g:Nat->Rat}(h:∀i,i<n->f i=g i):cg (List.range n) f=cg (List.range n) g:=dB fun i a=>h i (alH.1 a)
def H0{a b:Nat->Nat->Rat}{i:Nat}(k:Nat){m:bz}(c:w.an[i]? = some m)(h:∀j,j<m.az.au.length->a i j=b i j):A3 w a i k=A3 w b i k:=by
 unfold A3;rw[c,Option.elim_some,Option.elim_some];exact Zs fun j d=>by rw[h j d]
def Yl(u:ru w)(a:xv w S s x r)(b:xv w S' s' x' r'){f:Nat}{h:bz}(c:w.an[f]? = some h)(v:∀i,i≠f->S[i]? = S'[i]?){L:List Bool}
  (z:∀q∈h.aF,0<=q->q<(w.av.length:Int)->L[q.toNat]? = some true) (A:∀t∈kc w.av.length (mO (rC w)),L[t.1]? = some true->L[t.2.1]? = some true) :
  ∀p,p<w.av.length->L[p]?≠some true->x p=x' p:=by
 have d:=G5 a.err;refine aeQ (wH u d) a.rank (ID a.rank a.trap) a.sol b.sol (fun p=>L[p]? = some true) A fun p l B =>?_;obtain⟨i,k,n,C⟩:=Pp (s:=s) d l;have D:Aw w s' p=A3 w s' i k:=G1 d l n _;rw[C,D];obtain⟨m,y,e,E,F,g⟩:=n;have G:i≠f:=by
  rintro rfl;rw[e]at c;cases c;obtain⟨j,_,o⟩:=G3 (d.fit _ (akG e)) E F;rw[g]at o;exact B (by have:=z _ (akG o) (by omega) (by omega);simpa using this)
 exact H0 k e (Sj a.amt b.amt (v i G) e)
def abh(o:ru w)(d:xv w S s x r)(c:xv w S' s' x' r'){i:Nat}{m:bz}(a:w.an[i]? = some m)(f:S[i]? = S'[i]?)(g:∀u∈m.ba,x u.bQ.toNat=x' u.bQ.toNat)(k:Nat):tG w s x i k=tG w s' x' i k:=by
 have h:=G5 d.err;unfold tG;refine H0 k a fun j e =>?_;have b:m.az.au[j]? = some m.az.au[j]:=aku e;generalize m.az.au[j]=y at b;rw[u9 a b,u9 a b];split
 ·rename_i l;obtain⟨_,n⟩:=yS (h.fit m (akG a)) (akG b) l;rw[g _ n]
 ·exact Sj d.amt c.amt f a j e
def Oa{L:List Bool}{N i:Nat}{m:bz}(x:L.length=N)(n:w.an[i]? = some m)(y:m.ba.length<=2000)(o:∀u∈m.ba,0<=u.bQ∧u.bQ<(N:Int))(b0:Bool) :
  ∃b,aT (iS w L (i:Int)) (b0,0)=some b∧(b=false->b0=false∧∀u∈m.ba,L[u.bQ.toNat]? = some false):=by
 obtain⟨b,p,q⟩:=dz (body:=iS w L (i:Int)) (fun k r=>∃b:Bool,r=(b,(k:Int))∧(b=false->b0=false∧∀u∈m.ba.take k,L[u.bQ.toNat]? = some false)) m.ba.length (fun b=>b=false->b0=false∧∀u∈m.ba,L[u.bQ.toNat]? = some false) (s:=(b0,0)) ⟨b0,rfl,fun h=>⟨h,by simp⟩⟩ (kH (by omega)) (by
  rintro k _ z ⟨b,rfl,g⟩;simp only[iS];rw[aR n,alC]
  by_cases a:k<m.ba.length
  rotate_left
  ·right;refine⟨_,by rw[if_neg (by simpa using a)],?_⟩
   rwa [alV (by omega)]at g
  left;have d:m.ba[k]? = some m.ba[k]:=aku a;have e:m.ba.take (k+1)=m.ba.take k++[m.ba[k]]:=amB a;generalize m.ba[k]=u at d e;rw[if_pos (by simpa using a),bc (by omega)];cases b with
  | true=>rw[if_pos rfl];exact⟨a,_,rfl,true,rfl,fun h=>by cases h⟩
  | false =>
   obtain⟨A,B⟩:=o u (akG d);obtain⟨j,f⟩:∃j:Nat,u.bQ=j:=⟨u.bQ.toNat,by omega⟩;have l:L[j]? = some (L[j]'(by omega)):=aku _;rw[if_neg (by simp),aR d,alC,f,aR l,alC];refine⟨a,_,rfl,_,rfl,fun t=>⟨(g rfl).1,fun v c =>?_⟩⟩;rw[e]at c;rcases alv.1 c with c|c
   ·exact (g rfl).2 v c
   ·rw[akC.1 c,f,ak8,l,t])
 exact⟨b,p,q⟩
end
def IY(a:aU)(a1:List (List ak))(B C E:Int)(S:(Lit.int .u8 B).wf=true)(h3:(Lit.int .u8 C).wf=true)(h4:(Lit.int .u16 E).wf=true):gS a a1 B C E=some true:=by
 have av:fb=4398046511104:=rfl;have b2:0<=B∧B<=255:=by
  simpa [Lit.wf,IntKind.min,IntKind.max,IntKind.signed,IntKind.bits] using S
 have b3:0<=C∧C<=255:=by
  simpa [Lit.wf,IntKind.min,IntKind.max,IntKind.signed,IntKind.bits] using h3
 have b4:0<=E∧E<=65535:=by
  simpa [Lit.wf,IntKind.min,IntKind.max,IntKind.signed,IntKind.bits] using h4
 obtain⟨b,e1,e2⟩:=abi a;obtain⟨c,f1,f2⟩:=ahD a1;unfold gS;rw[agC,alC,e1,alC];cases b with
 | false=>rfl
 | true =>
 rw[if_neg (by simp),f1,alC];cases c with
 | false=>rfl
 | true =>
 rw[if_neg (by simp),alC]
 by_cases K:(a1.length:Int)=0
 ·rw[if_pos (by simpa using K)]
 have o:=e2 rfl;have hA:=f2 rfl;have hg:=o.given;have aa:=o.mills;have au:=hA.len;have T:Q9 .i64 (IntKind.i64.wrap B) (a1.length:Int)=some (B % (a1.length:Int)):=by
  rw[wrap64 (by omega) (by omega)];exact agp b2.1 (by omega)
 have aw:=amq B K;have ab:=amr B (show 0<(a1.length:Int) by omega);obtain⟨m,U⟩:∃m:Nat,B % (a1.length:Int)=m:=⟨(B % (a1.length:Int)).toNat,by omega⟩;rw[U]at ab;rw[if_neg (by simpa using K)];rcases DW o (adB hA) with⟨e,k1,k0,_⟩|⟨s,x,r,v⟩
 ·rw[k1,alC,T,alC,if_pos (by simpa using k0)]
 have hG:=G5 v.err;have hR:=wH o hG;rw[v.out,alC,T,alC,U];simp only;have hq:a1[m]? = some (a1[m]'(by omega)):=aku _;have M:=akt (show m<a1.length by omega);generalize a1[m]'(by omega)=q at hq M;obtain⟨ax,ay⟩:=hA.row q M;rw[if_neg (by simp),aR hq,alC]
 by_cases hz:(q.length:Int)=0
 ·rw[if_pos (by simpa using hz)]
 have az:=amq C hz;have ad:=amr C (show 0<(q.length:Int) by omega);have hj:(IntKind.i64.wrap C).tmod (q.length:Int)=C % (q.length:Int):=by
  rw[wrap64 (by omega) (by omega)];exact Int.tmod_eq_emod_of_nonneg b3.1
 obtain⟨j,ae⟩:∃j:Nat,C % (q.length:Int)=j:=⟨(C % (q.length:Int)).toNat,by omega⟩;rw[ae]at hj ad;have O:q[j]? = some (q[j]'(by omega)):=aku _;rw[if_neg (by simpa using hz),adE (by omega) (by simpa using (by omega:a1.length<=1000)),alC];unfold ME;rw[aR hq,alC,wrap64 (x:=E) (by omega) (by omega),Vd (by omega),alC,hj,aR O,alC,if_pos (by omega),ak8,ak8];have V:=ahi b4.1 (by omega);have aA:=zh V;generalize W:a1.set m (q.set j (cw E))=S';have aB:a1.length=a.an.length:=v.amt.len;have A:∀i,i≠m->a1[i]? = S'[i]?:=fun i hi=>by rw[<- W,List.getElem?_set_ne (fun e=>hi e.symm)]
 have G:∀n∈S',∀f∈n,(∃ro∈a1,f∈ro)∨f=cw E:=fun n D f H=>by
  rw[<- W]at D;rcases aml D with D|rfl
  ·exact .inl ⟨n,D,H⟩
  ·rcases aml H with H|rfl
   ·exact .inl ⟨q,M,H⟩
   ·exact .inr rfl
 have X:SzA 100 S':=fun n D f H=>by
  rcases G n D f H with⟨ro,h1,S⟩|rfl
  ·have:=(hA.row ro h1).2 f S;omega
  ·omega
 have F:a.an[m]? = some (a.an[m]'(by omega)):=aku _;generalize a.an[m]'(by omega)=mm at F;unfold kG;rw[of_eq o,v.err];simp only;rcases DW o X with⟨e,k1,k0,P⟩|⟨s',x',r',Q⟩
 ·rw[k1,alC,alC];simp only;have he:e=1:=by
   rcases P with⟨rr,h,_⟩|⟨_,h⟩|⟨_,_,r',h,h'⟩
   ·rw[v.err]at h;cases h
   ·obtain⟨e',c1,c2,c3⟩:=xK aa (fun m hm=>(o.mill m hm).1) X;rw[c1]at h;cases h;rcases c3 with h|h|⟨_,n,D,f,H,d⟩
    ·exact absurd h k0
    ·exact h
    ·exfalso;rcases G n D f H with⟨ro,h1,S⟩|rfl
     ·obtain⟨i,hi⟩:=akB h1;have aC:=aS hi;have g:a.an[i]? = some (a.an[i]'(by omega)):=aku _;have I:=v.amt.row i _ g;rw[hi]at I;rw[amf I]at S;obtain⟨k,hk⟩:=akB S;have R:=aS hk;rw[eS]at R;rw[iG _ R]at hk;have h0:=(v.amt.nn i _ g k R).1;rw[<- amf hk]at d;have:(cw (s i k)).bX.aq=(s i k).num.sign:=rfl;rw[this,so]at d;grind
     ·have:(cw (E:Rat)).bX.aq=((E:Rat)).num.sign:=rfl;rw[this,Rat.num_intCast]at d;rcases Int.lt_or_eq_of_le b4.1 with h|h
      ·rw[amx h]at d;omega
      ·rw[<- h]at d;simp at d
   ·exfalso;have D:=v.acu;rw[D]at h;have ag:∀p,p<a.av.length->r p=r' p:=by
     have:=amf h;exact fun p z=>List.map_inj_left.1 this p (alH.2 z)
    apply h';have Y:=v.trap;unfold oD at Y ⊢;rw[<- Y];exact List.filter_congr fun p z=>by rw[ag p (alH.1 z)]
  subst he;rw[if_pos (by simp),if_pos trivial];rfl
 rw[Q.out,alC,alC];simp only;have Z:∀s x,(uB a s x a.an.length).length=a.an.length:=fun s x=>by unfold uB;simp
 have ep:(Rh a (rC a)).aF=(a.av.length:Int):=rfl;have ah:=Nt hg (Ca o hG).2;obtain⟨L,r1,r2,r3,r4⟩:=Us (N:=a.av.length) (tk:=kc a.av.length (mO (rC a))) (fr:=mm.aF) (by omega) (by have:=(o.mill mm (akG F)).2.2;omega) (by have:=ah.1;omega) (fun t Y=>⟨(hR.ok t Y).1,(hR.ok t Y).2.1⟩);have ai:lH (Rh a (rC a)) mm.aF=some L:=r1;have far:=Yl o v Q F A r3 r4;have nt:∀p,p<a.av.length->L[p]? = some false->x p=x' p:=fun p z h=>far p z (by rw[h];simp);rw[if_neg (by simp),eS,ep,eS,Z,Z,if_neg (by simp),if_neg (by simp),if_neg (by simp),if_neg (by simp)];simp only[bne_self_eq_false,Option.bind_some];rw[if_neg (by simp),aR F,alC,ai,alC];have aj:aT (iQ (cY a.av.length x) (uB a s' x' a.an.length,cY a.av.length x',0) L) 0=some (.inl ()):=by
  rw[nA (cY a.av.length x) (fun _ _=>(none:Option Bool)) (by rw[eS];omega) (fun p y O =>?_) (by simp only[iQ];rw[if_neg (by simp)])]
  ·rw[B7]
  ·have z:p<a.av.length:=by have:=aS O;rwa [eS]at this
   rw[iG _ z]at O;obtain rfl:=amf O;simp only[iQ];rw[eS,if_pos (by simpa using z),bc (by omega)];rcases G0 r2 z with h|h
   ·rw[aR h,alC,if_neg (by simp)]
   ·have hx:=v.sz p z;rw[aR h,alC,if_pos (by simp),aR (iG x z),alC,aR (iG x' z),alC,<- nt p z h,agB (by omega),decide_eq_true rfl,alC,if_neg (by simp)]
 rw[aj,alC];simp only;have al:aT (iR a (uB a s x a.an.length) (m:Int) (uB a s' x' a.an.length,cY a.av.length x',0) L) 0=some (.inl ()):=by
  rw[nA (uB a s x a.an.length) (fun _ _=>(none:Option Bool)) (by rw[Z];omega) (fun i y O =>?_) (by simp only[iR];rw[if_neg (by simp)])]
  ·rw[B7]
  ·have hi:i<a.an.length:=by have:=aS O;rwa [Z]at this
   have g:a.an[i]? = some a.an[i]:=aku hi;generalize a.an[i]=J at g;have l:=akG g;have gx:(uB a s x a.an.length)[i]? = some (cY (Ae a i) (tG a s x i)):=dI _ hi;have an:(uB a s' x' a.an.length)[i]? = some (cY (Ae a i) (tG a s' x' i)):=dI _ hi;obtain⟨b,t1,t2⟩:=Oa (w:=a) (L:=L) (i:=i) (m:=J) r2 g (by have:=(o.mill J l).2.1;omega) (fun u hu=>((hG.fit J l).uses u hu).1) ((i:Int)==(m:Int));simp only[iR];rw[Z,if_pos (by simpa using hi),t1,alC,bc (by omega)];cases b with
   | true=>rw[if_neg (by simp)]
   | false =>
    obtain⟨q1,q2⟩:=t2 rfl;have ao:i≠m:=fun e=>by rw[e]at q1;simp at q1
    have en:Ae a i=J.az.aQ.length:=by unfold Ae;rw[g];rfl
    have ho:=(o.mill J l).1.outs;have aq:cY (Ae a i) (tG a s x i)=cY (Ae a i) (tG a s' x' i):=QK fun k _=>abh o v Q g (A i ao) (fun u hu=>by
     have aD:=((hG.fit J l).uses u hu).1;exact nt _ (by omega) (q2 u hu)) k
    rw[if_pos (by simp),aR gx,alC,aR an,alC,<- aq,Y1 (by omega) (fun k hk=>by
     have ar:J.az.aQ[k]? = some (J.az.aQ[k]'(by omega)):=aku _;have:=(agu o v g ar).2;omega),alC,if_neg (by simp)]
 rw[al];rfl
end Go.Proofs.YtobnihfgnbnncaaGreat.P
