import Derived.Test.YtokgehacmjmfkaaGreatIg
set_option linter.unusedSimpArgs false
set_option linter.unusedVariables false
set_option linter.defProp false
noncomputable section
open Go.Proofs.Tryz
namespace Go.Proofs.YtokgehacmjmfkaaGreat.P
open Go.RowKit
open IntKind (i64)
open List (range replicate)
def ea {p:Prop} [Decidable p] (h:p):decide p=true:=decide_eq_true h
def eb {p:Prop} [Decidable p] (h:¬p):decide p=false:=decide_eq_false h
def acm {N K:Nat} {e:QE} (b:Uv N K e.T) (J:LF e.D<=K) (L:N<=2000) (M:2*K+10<=er) {p:Nat} (y:∀c,fw e.T p=some c->1-c≠0):dW (mkEq e) (p:Int)=some (mkEq (jA e p),()):=by
 have O:=b.len;unfold dW;rw[find_eq b.sorted (by omega),aj5];simp only;have v:=R4;unfold jA;rcases yO (k:=p) b.sorted with⟨f,q⟩|⟨c,f,q⟩
 ·rw[f];rfl
 ·rw[f];simp only[Option.isSome_some,ajW,ai1,if_false];have s:e.T[(mi e.T p).length]? = some (p,c):=by
   have:(mi e.T p++(p,c)::BJ e.T p)[(mi e.T p).length]? = some (p,c):=by simp
   rwa [<- q]at this
  have z:(e.T.map jT)[(mi e.T p).length]? = some (jT (p,c)):=by rw[aio,s];rfl
  have A:LF c<=K:=b.sz (p,c) (pE f);have w:=y c f;have B:(mkEq e).bU=e.T.map jT:=rfl;have C:(mkEq e).bl=cj e.D:=rfl;rw[acf,aj5,B,bm z,aj5];simp only[jT];have D:=R5 1 c;rw[ac7 (by omega),aj5];have E:gS (e.T.map jT) ((mi e.T p).length:Int) (i64.wrap (((mi e.T p).length:Int)+1))=some ((kD e.T p).map jT):=by unfold gS;exact Y5 (by omega) q
  rw[E,aj5,C];simp only;rw[adi (by omega) w,aj5];have F:=(b.rem p).len;have key:=fun G g=>vf (body:=e9 (cj (1-c),0) ((kD e.T p).map jT)) (kD e.T p) (by omega) (fun i (l:List eS)=>l.length=(kD e.T p).length∧∀(j:Nat) t,(kD e.T p)[j]? = some t->l[j]? = some (if j<i then jT (t.1,t.2 / (1-c)) else jT t)) (fun l=>l=((kD e.T p).map fun t=>(t.1,t.2 / (1-c))).map jT) (s0:=(kD e.T p).map jT)
   ⟨by simp,fun j t a=>by rw[aio,a,if_neg (by omega)];rfl⟩ G g
  obtain⟨r,H,rfl⟩:=key (by
   rintro i t l a ⟨h,o⟩;have Q:=bh a;have m:=o i t a;rw[if_neg (by omega)]at m;have I:=b.sz t (jS.1 (aiT a)).1;refine⟨l.set i (jT (t.1,t.2 / (1-c))),?_,by simpa using h,fun j u x =>?_⟩
   ·simp only[e9];rw[if_pos (by simp;omega),bm m,aj5];simp only[jT];rw[adi (by omega) w,aj5,bC (by omega),ajs]
   ·rw[List.getElem?_set]
    by_cases n:i=j
    ·subst n;rw[x]at a;cases a;rw[if_pos rfl,if_pos (by omega),if_pos (by omega)]
    ·rw[if_neg n,o j u x]
     by_cases d:j<i
     ·rw[if_pos d,if_pos (by omega)]
     ·rw[if_neg d,if_neg (by omega)]) (by
   rintro l ⟨h,o⟩;refine⟨l,?_,?_⟩
   ·simp only[e9];rw[if_neg (by simp)]
   ·apply akE;intro j;rw[aio,aio];cases d:(kD e.T p)[j]? with
    | none =>
     have:(kD e.T p).length<=j:=by simpa using d
     rw[aj7 (by omega)];rfl
    | some t=>rw[o j t d,if_pos (bh d)];rfl)
  rw[H,aj5];rfl
def kH (c:Rat):List Tm->List Tm->List Tm
 | [],T=>T
 | b::B,T=>kH c B (EM T b.1 (c*b.2))
def CE (e:QE) (p:Nat) (b:QE):QE:=match fw e.T p with|none=>e|some c=>⟨e.D+c*b.D,kH c b.T (kD e.T p)⟩
def ve (c:Rat):∀(A B T:List Tm),kH c (A++B) T=kH c B (kH c A T)
 | [],_,_=>rfl
 | a::A,B,T=>by rw[aks,kH,kH,ve c A B]
def IF {T:List Tm} (h:jJ T) (k:Nat) (v:Rat):jJ (EM T k v):=aaS h k _
def FN (c:Rat):∀(B:List Tm) {T:List Tm},jJ T->jJ (kH c B T)
 | [],_,h=>h
 | b::B,_,h=>FN c B (IF h _ _)
def PE (c:Rat) (x:Nat->Rat):∀(B:List Tm) {T:List Tm},jJ T->dK (kH c B T) x=dK T x+c*dK B x
 | [],T,_=>by simp only[kH,dK];grind
 | b::B,T,h=>by
  rw[kH,PE c x B (IF h _ _),ach h,dK];grind
def zG (c:Rat) {R:Nat->Prop} : ∀(B:List Tm) {T:List Tm},(∀t∈T,R t.1)->(∀b∈B,R b.1)->∀t∈kH c B T,R t.1
 | [],_,h,_=>h
 | b::B,T,h,hB=>zG c B (T:=EM T b.1 (c*b.2)) (fun t a=>by
   rcases Mh.1 a with rfl|a
   ·exact hB b (aj2 ..)
   ·exact h t (jS.1 a).1) fun u d=>hB u (aj3 _ d)
def OU {c:Rat} (f:0<=c):∀(B:List Tm) {T:List Tm},(∀t∈T,0<=t.2)->(∀b∈B,0<=b.2)->∀t∈kH c B T,0<=t.2
 | [],_,h,_=>h
 | b::B,T,h,hB=>OU f B (T:=EM T b.1 (c*b.2)) (fun t d=>by
   rcases Mh.1 d with rfl|d
   ·have i:=alz f (hB b (aj2 ..));simp only;cases e:fw T b.1 with
    | none=>simp only[Option.getD_none];grind
    | some a=>have:=h _ (pE e);simp only[Option.getD_some]at *;grind
   ·exact h t (jS.1 d).1) fun u g=>hB u (aj3 _ g)
def Vf {K1 K2:Nat} {c:Rat} (n:LF c<=K1):∀(A B:List Tm) {T:List Tm},jJ (A++B)->(∀b∈A++B,LF b.2<=K2)->(∀t∈T,LF t.2<=K1)->∀t∈kH c A T,LF t.2<=2*K1+K2+1∧((∀a∈A,a.1≠t.1)->LF t.2<=K1)
 | [],_,_,_,_,h,t,d=>⟨by have:=h t d;omega,fun _=>h t d⟩
 | a::A,B,T,hs,g,h,t,d=>by
  obtain⟨e,z,f⟩:∃e z,a::A=e++[z]:=⟨(a::A).dropLast,(a::A).getLast (by simp),(List.dropLast_concat_getLast (by simp)).symm⟩;have l:e.length<(a::A).length:=by rw[f];simp
  rw[f,ve]at d;simp only[kH]at d;rw[f,ajP]at hs g;have m:=Vf n e ([z]++B) (T:=T) hs g h;have o:=g z (aiG _ (aiF _ (aj2 ..)));rw[f];rcases Mh.1 d with rfl|d
  ·refine⟨?_,fun hn=>absurd rfl (hn z (aiG _ (aj2 ..)))⟩;simp only;have p:=wK c z.2;cases i:fw (kH c e T) z.1 with
   | none=>rw[alB,Rat.zero_add];omega
   | some y =>
    have j:=(m _ (pE i)).2 fun u k=>by
     have:=(aka.1 hs).2.2 u k z (aiF _ (aj2 ..));simp only;omega
    have:=wJ y (c*z.2);rw[ajh];simp only at j;omega
  ·obtain⟨j,h2⟩:=m t (jS.1 d).1;exact⟨j,fun hn=>h2 fun u k=>hn u (aiF _ k)⟩
 termination_by A=>A.length
structure Uu (N K:Nat) (e:QE):Prop where
 t:Uv N K e.T
 d:LF e.D<=K
def Uu.mono {N K a:Nat} {e:QE} (h:Uu N K e) (b:K<=a):Uu N a e:=⟨h.t.mono b,ait h.d b⟩
def W4 (c:Rat) {B:List Tm} {i:Nat} {b:Tm} (h:B[i]? = some b) (T:List Tm):kH c (B.take (i+1)) T=EM (kH c (B.take i) T) b.1 (c*b.2):=by
 obtain⟨a,d⟩:=aiU.1 h;rw[alo a,ve,d];rfl
def OS {N a d:Nat} {c:Rat} (f:LF c<=a) {B T:List Tm} (hB:Uv N d B) (e:Uv N a T) (i:Nat):Uv N (2*a+d+1) (kH c (B.take i) T) where
 sorted:=FN c _ e.sorted
 lt:=zG c (R:=fun p=>p<N) _ e.lt fun b g=>hB.lt b (ajb g)
 sz t h:=(Vf (K1:=a) (K2:=d) f (B.take i) (B.drop i) (by rw[akn];exact hB.sorted) (by rw[akn];exact hB.sz) e.sz t h).1
def acA {N d g:Nat} {e b:QE} (a:Uu N d e) (h:Uu N g b) (p:Nat):Uu N (2*d+g+1) (CE e p b):=by
 unfold CE;cases f:fw e.T p with
 | none=>exact a.mono (by omega)
 | some c =>
  have j:LF c<=d:=a.t.sz _ (pE f);have i:=OS j h.t (a.t.rem p) b.T.length;rw[akD]at i;refine⟨i,?_⟩;have k:=wJ e.D (c*b.D);have l:=wK c b.D;have:=a.d;have:=h.d;simp only;omega
def J8 {N K:Nat} {e:QE} (b:Uu N K e) (p:Nat) (i:∀c,fw e.T p=some c->1-c≠0):Uu N (2*K+2) (jA e p):=by
 unfold jA;cases d:fw e.T p with
 | none=>exact b.mono (by omega)
 | some c =>
  have j:LF c<=K:=b.t.sz _ (pE d);have k:=R5 1 c;have l:=R4;have h:=i c d;refine⟨⟨?_,?_,?_⟩,?_⟩
  ·simp only;rw[jJ,akJ];exact (Hu b.t.sorted p)
  ·intro t f;simp only[aiq]at f;obtain⟨u,g,rfl⟩:=f;exact b.t.lt u (jS.1 g).1
  ·intro t f;simp only[aiq]at f;obtain⟨u,g,rfl⟩:=f;have:=b.t.sz u (jS.1 g).1;have:=Yk (a:=u.2) h;simp only;omega
  ·have:=b.d;have:=Yk (a:=e.D) h;simp only;omega
def af0 {N j w:Nat} {e b:QE} (a:Uu N j e) (f:Uu N w b) (y:N<=2000) (O:4*j+3*w+20<=er) (p:Nat):eV (mkEq e) (p:Int) (mkEq b)=some (mkEq (CE e p b),()):=by
 have P:=a.t.len;unfold eV;rw[find_eq a.t.sorted (by omega),aj5];simp only;unfold CE;rcases yO (k:=p) a.t.sorted with⟨g,l⟩|⟨c,g,l⟩
 ·rw[g];rfl
 ·rw[g];simp only[Option.isSome_some,ajW,ai1,if_false];have m:e.T[(mi e.T p).length]? = some (p,c):=by
   have:(mi e.T p++(p,c)::BJ e.T p)[(mi e.T p).length]? = some (p,c):=by simp
   rwa [<- l]at this
  have z:(e.T.map jT)[(mi e.T p).length]? = some (jT (p,c)):=by rw[aio,m];rfl
  have n:LF c<=j:=a.t.sz (p,c) (pE g);have A:=a.d;have B:=f.d;have C:=f.t.len;have D:(mkEq e).bU=e.T.map jT:=rfl;have o:(mkEq b).bU=b.T.map jT:=rfl;have E:(mkEq b).bl=cj b.D:=rfl;have F:(mkEq e).bl=cj e.D:=rfl;have G:gS (e.T.map jT) ((mi e.T p).length:Int) (i64.wrap (((mi e.T p).length:Int)+1))=some ((kD e.T p).map jT):=by unfold gS;exact Y5 (by omega) l
  rw[D,bm z,aj5,G,aj5,F,E];have x:(jT (p,c)).gA=cj c:=rfl;rw[x,G9 (by omega),aj5];have key:=fun H d=>vf (body:=fL (mkEq b) (jT (p,c))) b.T (by omega) (fun i (s:Int×List Int×Int×List Int×List eS)=>s=((cj (e.D+c*b.D)).bK.ak,(cj (e.D+c*b.D)).bK.aa,(cj (e.D+c*b.D)).bL.ak,(cj (e.D+c*b.D)).bL.aa,(kH c (b.T.take i) (kD e.T p)).map jT))
   (fun s=>s=((cj (e.D+c*b.D)).bK.ak,(cj (e.D+c*b.D)).bK.aa,(cj (e.D+c*b.D)).bL.ak,(cj (e.D+c*b.D)).bL.aa,(kH c b.T (kD e.T p)).map jT)) (s0:=((cj (e.D+c*b.D)).bK.ak,(cj (e.D+c*b.D)).bK.aa,(cj (e.D+c*b.D)).bL.ak,(cj (e.D+c*b.D)).bL.aa,(kD e.T p).map jT)) rfl H d
  obtain⟨r,I,rfl⟩:=key (by
   rintro i t _ h rfl;have Q:=bh h;have q:=aiT h;have J:=f.t.sz t q;have u:=OS n f.t (a.t.rem p) i;have R:=wK c t.2;have v:(b.T.map jT)[i]? = some (jT t):=by rw[aio,h];rfl
   have S:=R3;refine⟨_,?_,rfl⟩;simp only[fL];rw[if_pos (by rw[o];simp;omega),o,bm v,aj5,afD,aj5];have K:(jT t).gA=cj t.2:=rfl;have L:(jT t).nP=(t.1:Int):=rfl;rw[x,K,G9 (by omega),aj5,Rat.zero_add,L];have M:aG.mk (al.mk (aF.mk (cj (e.D+c*b.D)).bK.ak (cj (e.D+c*b.D)).bK.aa) (aF.mk (cj (e.D+c*b.D)).bL.ak (cj (e.D+c*b.D)).bL.aa)) ((kH c (b.T.take i) (kD e.T p)).map jT)=mkEq ⟨e.D+c*b.D,kH c (b.T.take i) (kD e.T p)⟩:=rfl;rw[M,afq (e:=⟨e.D+c*b.D,kH c (b.T.take i) (kD e.T p)⟩) u y (by omega),aj5,bC (by omega),W4 c h];rfl) (by
   rintro _ rfl;refine⟨_,?_,rfl⟩;simp only[fL];rw[if_neg (by rw[o];simp),akD])
  rw[I,aj5];rfl
def UQ {T:List Tm} {k:Nat} (h:fw T k=none):∀t∈T,t.1≠k:=by
 induction T with
 | nil=>intro t a;cases a
 | cons u T c =>
  rw[fw]at h;split at h
  ·cases h
  ·rename_i b;intro t a;rcases aiy.1 a with rfl|a
   ·exact b
   ·exact c h t a
def Xo {e:QE} (f:jJ e.T) {p:Nat} (g:∀c,fw e.T p=some c->1-c≠0) (s:Rat) (x:Nat->Rat):(1-(fw e.T p).getD 0)*(s*(jA e p).D+dK (jA e p).T x)=s*e.D+dK e.T x-(fw e.T p).getD 0*x p:=by
 unfold jA;have b:=yB f p x;cases a:fw e.T p with
 | none=>simp only[Option.getD_none];grind
 | some c =>
  have d:=g c a;rw[a]at b;simp only[Option.getD_some]at b ⊢;rw[aci];have h:(1-c)*(e.D / (1-c))=e.D:=by rw[Rat.mul_comm];exact alC d
  have i:(1-c)*(dK (kD e.T p) x / (1-c))=dK (kD e.T p) x:=by rw[Rat.mul_comm];exact alC d
  have j:(1-c)*(s*(e.D / (1-c))+dK (kD e.T p) x / (1-c))=s*((1-c)*(e.D / (1-c)))+(1-c)*(dK (kD e.T p) x / (1-c)):=by grind
  rw[j,h,i];grind
def acC {e b:QE} (d:jJ e.T) (p:Nat) (s:Rat) (x:Nat->Rat):s*(CE e p b).D+dK (CE e p b).T x=s*e.D+dK e.T x+(fw e.T p).getD 0*(s*b.D+dK b.T x-x p):=by
 unfold CE;have f:=yB d p x;cases a:fw e.T p with
 | none=>simp only[Option.getD_none];grind
 | some c =>
  rw[a]at f;simp only[Option.getD_some]at f ⊢;rw[PE c x _ (Hu d p)];grind
def gP (E0:Nat->QE):Nat->Nat->QE
 | 0,k=>E0 k
 | p+1,k=>if k<p then gP E0 p k else if k=p then jA (gP E0 p p) p else CE (gP E0 p k) p (jA (gP E0 p p) p)
def MW (K0:Nat):Nat->Nat
 | 0=>K0
 | p+1=>4*MW K0 p+3
def TK (a:Nat):∀p,MW a p+1=4 ^ p*(a+1)
 | 0=>by simp[MW]
 | p+1=>by
  have b:=TK a p;simp only[MW,Nat.pow_succ];rw[ajq (4 ^ p) 4,Nat.mul_assoc,<- b];omega
def ae0 (x:Nat->Rat) (p:Nat) (v:Rat):Nat->Rat:=fun j=>if j=p then v else x j
def EU (E:Nat->QE) (s:Rat):∀(p:Nat),(∀k,k<p->∀t∈(E k).T,k<t.1)->∀z:Nat->Rat,∃x:Nat->Rat,(∀j,p<=j->x j=z j)∧(∀k,k<p->x k=s*(E k).D+dK (E k).T x)∧(s=0->(∀j,0<=z j)->(∀k,k<p->∀t∈(E k).T,0<=t.2)->∀j,0<=x j)
 | 0,_,z=>⟨z,fun _ _=>rfl,fun k a=>by omega,fun _ h _=>h⟩
 | p+1,hp,z=>by
  obtain⟨x,b,e,f⟩:=EU E s p (fun k a=>hp k (by omega)) (ae0 z p (s*(E p).D+dK (E p).T z));refine⟨x,fun j i =>?_,fun k a =>?_,fun d hz hpos =>?_⟩
  ·rw[b j (by omega)];exact if_neg (by omega)
  ·by_cases c:k=p
   ·subst c;rw[b k (air _),show ae0 z k (s*(E k).D+dK (E k).T z) k=s*(E k).D+dK (E k).T z from if_pos rfl];congr 1;refine J4 fun t g =>?_;have:=hp k (by omega) t g;rw[b t.1 (by omega)];exact (if_neg (by omega)).symm
   ·exact e k (by omega)
  ·refine f d (fun j =>?_) fun k a=>hpos k (by omega);unfold ae0;split
   ·have:=vv (x:=z) (hpos p (by omega)) fun t _=>hz t.1;subst d;grind
   ·exact hz j
def aeb {a b:Rat} (d:0<=a) (e:0<b):0<=a / b:=by
 have f:a / b*b=a:=alC (by grind)
 by_cases h:0<=a / b
 ·exact h
 ·exfalso;have g:0 <= -(a / b)*b:=alz (by grind) (by grind);have c:a / b*b=0:=by grind
  rcases Rat.mul_eq_zero.1 c with h4|h4<;>grind
variable {N:Nat} {tk:List Tk} {r:Nat->Int}
structure uG (N:Nat) (tk:List Tk) (d:Nat->Rat) (K0:Nat) (E:Nat->QE) (p:Nat):Prop where
 sz:∀k,k<N->p<=k->Uu N (MW K0 p) (E k)
 szd:∀k,k<p->Uu N (2*MW K0 k+2) (E k)
 up:∀k,k<p->∀t∈(E k).T,k<t.1
 ge:∀k,k<N->p<=k->∀t∈(E k).T,p<=t.1
 pos:∀k,k<N->∀t∈(E k).T,0<=t.2
 sem:∀(s:Rat) (x:Nat->Rat),(∀q,q<p->x q=s*(E q).D+dK (E q).T x)->(∀k,k<p->x k=s*d k+Co tk x k)∧∀k,k<N->p<=k->s*(E k).D+dK (E k).T x=s*d k+Co tk x k
def Kz (m:ky N tk) (n:rB N tk r) (o:∀p,p<N->0<=r p) {d:Nat->Rat} {s:Nat} {E:Nat->QE} {p:Nat} (hE:uG N tk d s E p) (u:p<N):∀c,fw (E p).T p=some c->c<1:=by
 intro c v
 by_cases b:c<1
 ·exact b
 exfalso;obtain⟨x,g,w,z⟩:=EU E 0 p hE.up (fun j=>if j=p then 1 else 0);have hx:=z rfl (fun j=>by split<;>grind) fun k F=>hE.pos k (by omega);obtain⟨A,i⟩:=hE.sem 0 x w;have e:x p=1:=by rw[g p (air _),if_pos rfl]
 have f:∀j,p<j->x j=0:=fun j G=>by rw[g j (by omega),if_neg (by omega)]
 have:=HS m n o (y:=x) (fun q _=>hx q) (fun q a=>by
  rcases alA q p with h|h|h
  ·have:=A q h;grind
  ·subst h;have B:=i q a (air _);have l:=yB (hE.sz q a (air _)).t.sorted q x;rw[v,e]at l;have C:0<=dK (kD (E q).T q) x:=vv (fun t D=>hE.pos q a t (jS.1 D).1) fun t _=>hx t.1;simp only[Option.getD_some]at l;grind
  ·have B:=i q a (by omega);have C:0<=dK (E q).T x:=vv (hE.pos q a) fun t _=>hx t.1;have:=f q h;grind) p u
 grind
def WX (M:ky N tk) (O:rB N tk r) (P:∀p,p<N->0<=r p) {d:Nat->Rat} {I:Nat} {o:Nat->QE} {p:Nat} (hE:uG N tk d I (gP o p) p) (v:p<N):uG N tk d I (gP o (p+1)) (p+1):=by
 have m:=Kz M O P hE v;generalize F:gP o p=E at *;have G:∀k,gP o (p+1) k=if k<p then E k else if k=p then jA (E p) p else CE (E k) p (jA (E p) p):=fun k=>by rw[gP,F]
 have i:∀k,k<p->gP o (p+1) k=E k:=fun k e=>by rw[G,if_pos e]
 have j:gP o (p+1) p=jA (E p) p:=by rw[G,if_neg (by omega),if_pos rfl]
 have l:∀k,p<k->gP o (p+1) k=CE (E k) p (jA (E p) p):=fun k e=>by rw[G,if_neg (by omega),if_neg (by omega)]
 have z:∀c,fw (E p).T p=some c->1-c≠0:=fun c Q=>by have:=m c Q;grind
 have n:=hE.sz p v (air _);have J:=J8 n p z;have A:∀t∈(jA (E p) p).T,p<t.1:=by
  intro t b;unfold jA at b;cases a:fw (E p).T p with
  | none =>
   rw[a]at b;have w:=hE.ge p v (air _) t b;have C:=UQ a t b;omega
  | some c =>
   rw[a]at b;simp only[aiq]at b;obtain⟨u,D,rfl⟩:=b;have w:=hE.ge p v (air _) u (jS.1 D).1;have C:=(jS.1 D).2;simp only;omega
 have f:∀t∈(jA (E p) p).T,0<=t.2:=by
  intro t b;unfold jA at b;cases a:fw (E p).T p with
  | none=>rw[a]at b;exact hE.pos p v t b
  | some c =>
   rw[a]at b;simp only[aiq]at b;obtain⟨u,D,rfl⟩:=b;have w:=hE.pos p v u (jS.1 D).1;have C:=m c a;simp only;have S:0<1-c:=by grind
   exact aeb w S
 constructor
 ·intro k e B;rw[l k (by omega)];have:=acA (hE.sz k e (by omega)) J p;exact this.mono (by simp only[MW];omega)
 ·intro k e
  by_cases g:k=p
  ·subst g;rw[j];exact J
  ·rw[i k (by omega)];exact hE.szd k (by omega)
 ·intro k e
  by_cases g:k=p
  ·subst g;rw[j];exact A
  ·rw[i k (by omega)];exact hE.up k (by omega)
 ·intro k e B;rw[l k (by omega)];unfold CE;cases a:fw (E k).T p with
  | none =>
   intro t b;have w:=hE.ge k e (by omega) t b;have C:=UQ a t b;omega
  | some c =>
   refine zG c (R:=fun q=>p+1<=q) _ (fun t b =>?_) A;have w:=hE.ge k e (by omega) t (jS.1 b).1;have C:=(jS.1 b).2;omega
 ·intro k e;rcases alA k p with h|h|h
  ·rw[i k h];exact hE.pos k e
  ·subst h;rw[j];exact f
  ·rw[l k h];unfold CE;cases a:fw (E k).T p with
   | none=>exact hE.pos k e
   | some c=>exact OU (hE.pos k e _ (pE a)) _ (fun t b=>hE.pos k e t (jS.1 b).1) f
 ·intro s x K;have y:=K p (by omega);rw[j]at y;obtain⟨T,L⟩:=hE.sem s x fun q U=>by have:=K q (by omega);rwa [i q U]at this
  have H:x p=s*(E p).D+dK (E p).T x:=by
   have w:=Xo n.t.sorted z s x;rw[<- y]at w;grind
  refine⟨fun k e =>?_,fun k e B =>?_⟩
  ·by_cases g:k=p
   ·subst g;rw[H,L k v (air _)]
   ·exact T k (by omega)
  ·rw[l k (by omega),acC (hE.sz k e (by omega)).t.sorted,<- y,L k e (by omega)];grind
def OC (a:ky N tk) (b:rB N tk r) (c:∀p,p<N->0<=r p) {d:Nat->Rat} {e:Nat} {f:Nat->QE} (hE:uG N tk d e f 0):∀p,p<=N->uG N tk d e (gP f p) p
 | 0,_=>hE
 | p+1,h=>WX a b c (OC a b c hE p (by omega)) (by omega)
def Nl:List Tm->(Nat->Rat)->Nat
 | [],_=>0
 | t::l,x=>LF t.2+LF (x t.1)+1+Nl l x
def Ar (a b:List Tm) (x:Nat->Rat):Nl (a++b) x=Nl a x+Nl b x:=by
 induction a with
 | nil=>simp[Nl]
 | cons t a c=>simp only[List.cons_append,Nl,c];omega
def aa1 (T:List Tm) (i:Nat) (x:Nat->Rat):Nl (T.take i) x<=Nl T x:=by
 have:=Ar (T.take i) (T.drop i) x;rw[akn]at this;omega
def PF {T:List Tm} {i:Nat} {t:Tm} (h:T[i]? = some t) (x:Nat->Rat):dK (T.take (i+1)) x=dK (T.take i) x+t.2*x t.1:=by
 obtain⟨a,b⟩:=aiU.1 h;rw[alo a,pL,b];simp only[dK];grind
def R2 (a:Rat) (x:Nat->Rat) {T:List Tm} : ∀i,i<=T.length->LF (a+dK (T.take i) x)<=LF a+Nl (T.take i) x
 | 0,_=>by
  rw[akx];simp only[dK,Nl];rw[Rat.add_zero];exact air _
 | i+1,h=>by
  have c:=R2 a x (T:=T) i (by omega);have b:T[i]? = some T[i]:=aiE (by omega);rw[PF b,<- Rat.add_assoc,alo (by omega),Ar];have d:=wJ (a+dK (T.take i) x) (T[i].2*x T[i].1);have e:=wK T[i].2 (x T[i].1);simp only[Nl];omega
def aab:∀ {T:List Tm} {a N:Nat},jJ T->(∀t∈T,a<=t.1∧t.1<N)->T.length<=N-a
 | [],_,_,_,_=>by simp
 | t::T,a,N,hs,h=>by
  obtain⟨c,d⟩:=aj9.1 hs;have e:=h t (aj2 ..);have:=aab (a:=t.1+1) (N:=N) d fun u b=>⟨c u b,(h u (aj3 _ b)).2⟩;rw[aiR];omega
def aa0 {K Q:Nat} {x:Nat->Rat} : ∀ {T:List Tm} {a N:Nat},jJ T->(∀t∈T,a<=t.1∧t.1<N)->(∀t∈T,LF t.2<=K)->(∀j,a<=j->j<N->LF (x j)<=2 ^ (N-1-j)*Q)->Nl T x+Q<=T.length*(K+1)+2 ^ (N-a)*Q
 | [],a,N,_,_,_,_=>by
  simp only[Nl,List.length_nil,ako,ajf];exact Nat.le_mul_of_pos_left _ (Nat.pow_pos (by decide))
 | t::T,a,N,hs,h,hk,hx=>by
  obtain⟨e,f⟩:=aj9.1 hs;have d:=h t (aj2 ..);have g:=aa0 (K:=K) (Q:=Q) (x:=x) (T:=T) (a:=t.1+1) (N:=N) f (fun u b=>⟨e u b,(h u (aj3 _ b)).2⟩) (fun u b=>hk u (aj3 _ b)) fun j n c=>hx j (by omega) c;have i:=hk t (aj2 ..);have k:=hx t.1 d.1 d.2;simp only[Nl,List.length_cons];rw[ajp];have l:N-(t.1+1)=N-1-t.1:=by omega
  rw[l]at g;have m:2 ^ (N-t.1)=2 ^ (N-1-t.1)*2:=by rw[<- Nat.pow_succ];congr 1;omega
  have o:2 ^ (N-t.1)*Q<=2 ^ (N-a)*Q:=ajd _ (alE (by decide) (by omega));have p:2 ^ (N-t.1)*Q=2 ^ (N-1-t.1)*Q+2 ^ (N-1-t.1)*Q:=by rw[m,Nat.mul_assoc,ajq 2 Q,<- Nat.mul_assoc,Nat.mul_two]
  omega
def K9:∀m:Nat,3*m<=4 ^ m
 | 0=>by decide
 | m+1=>by
  have:=K9 m;rw[Nat.pow_succ];have:0<4 ^ m:=Nat.pow_pos (by decide);cases m with
  | zero=>decide
  | succ m=>omega
variable {N:Nat} {tk:List Tk} {r:Nat->Int}
def aaP {d:Nat->Rat} {a:Nat} {E:Nat->QE} (h:uG N tk d a E N) {x:Nat->Rat} (n:∀k,k<N->x k=1*(E k).D+dK (E k).T x) :
  ∀k,k<N->LF (E k).D+Nl (E k).T x+1<=2 ^ (N-1-k)*(4 ^ N*(a+1))∧LF (x k)<=2 ^ (N-1-k)*(4 ^ N*(a+1)):=by
 have key:∀m k,k+m=N-1->k<N->LF (E k).D+Nl (E k).T x+1<=2 ^ (N-1-k)*(4 ^ N*(a+1))∧LF (x k)<=2 ^ (N-1-k)*(4 ^ N*(a+1)):=by
  intro m
  induction m using Nat.strongRecOn with
  | ind m o =>
   intro k p c;have e:=h.szd k c;have f:=h.up k c;have b:∀t∈(E k).T,k+1<=t.1∧t.1<N:=fun t i=>⟨f t i,e.t.lt t i⟩;have l:=aa0 (K:=2*MW a k+2) (Q:=4 ^ N*(a+1)) (x:=x) e.t.sorted b e.t.sz fun j v g=>(o (N-1-j) (by omega) j (by omega) g).2;have w:=aab e.t.sorted b;have y:=e.d;have z:=TK a k;have A:(N-k)*(2*MW a k+3)<=4 ^ N*(a+1):=by
    have B:(N-k)*(2*MW a k+3)<=(N-k)*(3*(4 ^ k*(a+1))):=Nat.mul_le_mul_left _ (by
     have:0<4 ^ k*(a+1):=akH (Nat.pow_pos (by decide)) (by omega);omega)
    have C:(N-k)*(3*(4 ^ k*(a+1)))=3*(N-k)*(4 ^ k*(a+1)):=by rw[ajq 3 (N-k),Nat.mul_assoc]
    have D:3*(N-k)*(4 ^ k*(a+1))<=4 ^ (N-k)*(4 ^ k*(a+1)):=ajd _ (K9 _);have F:4 ^ (N-k)*(4 ^ k*(a+1))=4 ^ N*(a+1):=by rw[<- Nat.mul_assoc,<- Nat.pow_add];congr 2;omega
    omega
   have G:(E k).T.length*(2*MW a k+3)<=(N-1-k)*(2*MW a k+3):=ajd _ (by omega);have H:(N-k)*(2*MW a k+3)=(N-1-k)*(2*MW a k+3)+(2*MW a k+3):=by
    rw[<- ajp];congr 1;omega
   have q:N-(k+1)=N-1-k:=by omega
   rw[q]at l;have r:=R2 (E k).D x (T:=(E k).T) (E k).T.length (air _);rw[akD]at r;have s:x k=(E k).D+dK (E k).T x:=by rw[n k c];grind
   rw[s];have u:2*MW a k+2+1=2*MW a k+3:=rfl;rw[u]at l;omega
 intro k c;exact key (N-1-k) k (by omega) c
def kM (tk:List Tk) (p:Nat):List Tm:=(tk.filter fun t=>decide (t.2.1=p)).map fun t=>(t.1,t.2.2)
def Cu {p:Nat} {u:Tm} : u∈kM tk p↔∃t∈tk,t.2.1=p∧u=(t.1,t.2.2):=by
 unfold kM;simp only[aiq,aj8,decide_eq_true_eq];constructor
 ·rintro⟨t,⟨a,b⟩,rfl⟩;exact⟨t,a,b,rfl⟩
 ·rintro⟨t,a,b,rfl⟩;exact⟨t,⟨a,b⟩,rfl⟩
def TV {i:Nat} {t:Tk} (h:tk[i]? = some t) (p:Nat):kM (tk.take (i+1)) p=if t.2.1=p then kM (tk.take i) p++[(t.1,t.2.2)] else kM (tk.take i) p:=by
 obtain⟨b,c⟩:=aiU.1 h;unfold kM;rw[alo b,als,ajY,c]
 by_cases a:t.2.1=p
 ·rw[if_pos a,alu (by simpa using a)];rfl
 ·rw[if_neg a,alv (by simpa using a)];simp
def J5 (x:Nat->Rat) (p:Nat):∀l:List Tk,dK (kM l p) x=Co l x p
 | []=>rfl
 | t::l=>by
  have b:=J5 x p l;unfold kM at b ⊢;simp only[Co]
  by_cases a:t.2.1=p
  ·rw[if_pos a,alu (by simpa using a),aix,dK,b]
  ·rw[if_neg a,alv (by simpa using a),b];grind
def TI (c:tk.Pairwise Xp) (p:Nat):jJ (kM tk p):=by
 unfold kM;rw[jJ,akJ];refine (c.filter _).imp_of_mem fun {a b} d e h =>?_;have f:a.2.1=p:=by simpa using (aj8.1 d).2
 have g:b.2.1=p:=by simpa using (aj8.1 e).2
 unfold Xp at h;simp only;omega
def XT (p:Nat):(kM tk p).length<=tk.length:=by
 unfold kM;rw[aiV];exact alr ..
def U7 (d:Nat->Rat) (tk:List Tk) (p:Nat):QE:=⟨d p,kM tk p⟩
def nV (N:Nat) (x:Nat->Rat):List al:=(range N).map fun p=>cj (x p)
def lx (x:Nat->Rat):(nV N x).length=N:=yI _
def q8 (x:Nat->Rat) {p:Nat} (h:p<N):(nV N x)[p]? = some (cj (x p)):=cq _ h
abbrev zF:al:=al.mk (aF.mk 0 []) (aF.mk 0 [])
def LQ (g:ky N tk) (d:Nat->Rat):dZ (pZ N tk) (nV N d)=some ((range N).map fun p=>mkEq (U7 d tk p)):=by
 have u:=g.ports;have r:=g.takes;unfold dZ pZ;simp only;rw[Gu _ (by omega) u,aj5];have v:=fun k m=>vf (body:=iy (nV N d) (replicate N (aG.mk zF []))) (range N) (by simp;omega) (fun i (l:List aG)=>l=(range N).map fun p=>aG.mk (if p<i then cj (d p) else zF) []) (fun l=>l=(range N).map fun p=>mkEq (U7 d (tk.take 0) p)) (s0:=replicate N (aG.mk zF []))
  (iu (by simp) fun j b=>by rw[alx,if_pos b,if_neg (by omega)]) k m
 obtain⟨E,y,rfl⟩:=v (by
  rintro i x _ z rfl;have n:i<N:=by have:=bh z;simpa using this
  refine⟨_,?_,rfl⟩;simp only[iy];rw[if_pos (by simp;omega),bm (q8 d n),aj5,bm (cq _ n),aj5,bC (by omega),ajs,iP];congr 3;refine congrArg (fun f=>(range N).map f) (funext fun p =>?_)
  by_cases h:p=i
  ·subst h;rw[if_pos rfl,if_pos (show p<p+1 by omega)]
  ·rw[if_neg h]
   by_cases s:p<i
   ·rw[if_pos s,if_pos (show p<i+1 by omega)]
   ·rw[if_neg s,if_neg (show ¬p<i+1 by omega)]) (by
  rintro _ rfl;refine⟨(range N).map fun p=>aG.mk (if p<(range N).length then cj (d p) else zF) [],?_,?_⟩
  ·simp only[iy];rw[if_neg (by simp)]
  ·refine iu (by simp) fun j b =>?_;rw[cq _ b,aiW,if_pos b,akx];rfl)
 rw[y,aj5];have A:=fun k m=>vf (body:=iz (dE.mk (N:Int) (tk.map xy))) tk (by omega) (fun i (l:List aG)=>l=(range N).map fun p=>mkEq (U7 d (tk.take i) p)) (fun l=>l=(range N).map fun p=>mkEq (U7 d tk p)) (s0:=(range N).map fun p=>mkEq (U7 d (tk.take 0) p)) rfl k m;obtain⟨F,B,rfl⟩:=A (by
  rintro i t _ c rfl;have n:=bh c;have o:=(g.rng t (aiT c)).2;have C:(tk.map xy)[i]? = some (xy t):=by rw[aio,c];rfl
  have q:=XT (tk:=tk.take i) t.2.1;rw[aiK]at q;refine⟨_,?_,rfl⟩;simp only[iz];have a:mK 72 (mkEq (U7 d (tk.take i) t.2.1)).bU [eS.mk (xy t).cM (xy t).eo]=some ((kM (tk.take i) t.2.1++[(t.1,t.2.2)]).map jT):=by
   unfold mK mkEq U7;have:(17592186044416:Nat)<=maxLen:=by decide
   rw[if_pos ⟨by simp;omega,by simp;omega⟩,ajY];rfl
  have D:(xy t).jR=(t.2.1:Int):=rfl;rw[if_pos (by simp;omega),bm C,aj5,D,bm (cq _ o),aj5,a,aj5,bC (by omega),ajs,iP];congr 3;refine congrArg (fun f=>(range N).map f) (funext fun p =>?_);unfold U7;rw[TV c]
  by_cases h:p=t.2.1
  ·subst h;rw[if_pos rfl,if_pos rfl];rfl
  ·rw[if_neg h,if_neg (fun e=>h e.symm)]) (by
  rintro _ rfl;refine⟨_,?_,rfl⟩;simp only[iz];rw[if_neg (by simp),akD])
 rw[B,aj5]
def elim0 (e:ky N tk) {f:Nat} {d:Nat->Rat} (h:∀p,p<N->LF (d p)<=f) (i:∀t∈tk,LF t.2.2<=f):uG N tk d f (U7 d tk) 0 where
 sz k a _:=⟨⟨TI e.sorted k,fun t b=>by obtain⟨u,c,g,rfl⟩:=Cu.1 b;exact (e.rng u c).1,fun t b=>by obtain⟨u,c,g,rfl⟩:=Cu.1 b;exact i u c⟩,h k a⟩
 szd k a:=by omega
 up k a:=by omega
 ge k a _ t _:=ais _
 pos k a t b:=by obtain⟨u,c,g,rfl⟩:=Cu.1 b;exact e.pos u c
 sem s x _:=⟨fun k a=>by omega,fun k _ _=>by unfold U7;rw[J5]⟩
def Nk (a:Nat->QE) (N p:Nat):List (Bool×aG):=(range N).map fun k=>(decide (k<p),mkEq (gP a p k))
def yX (E:Nat->QE) (N p:Nat) (L:QE) (k:Nat):List (Bool×aG):=(range N).map fun j=>if j<p then (true,mkEq (E j)) else if j=p then (true,mkEq L) else if j<k then (false,mkEq (CE (E j) p L)) else (false,mkEq (E j))
def SF {E:Nat->QE} {L:QE} {p K:Nat} (g:N<=2000) (m:p<N) (n:∀k,k<N->p<=k->Uu N K (E k)) (o:Uu N (2*K+2) L) (w:10*K+50<=er) :
  aS (nA (p:Int)) (((p+1:Nat):Int),yX E N p L (p+1))=some (yX E N p L N):=by
 have key:=fun q=>cO (body:=nA (p:Int)) (fun i (s:Int×List (Bool×aG))=>s=(((p+1+i:Nat):Int),yX E N p L (p+1+i))) (N-(p+1)) (fun l=>l=yX E N p L N) (s:=(((p+1:Nat):Int),yX E N p L (p+1))) rfl (jz (by omega)) q;refine (key ?_).elim fun x ⟨b,hx⟩=>hx ▸ b;rintro i _ y rfl;have a:(yX E N p L (p+1+i)).length=N:=yI _
 by_cases d:p+1+i<N
 ·refine .inl ⟨by omega,_,?_,rfl⟩;simp only[nA];have r:(yX E N p L (p+1+i))[p+1+i]? = some (false,mkEq (E (p+1+i))):=by
   unfold yX;rw[cq _ d,if_neg (by omega),if_neg (by omega),if_neg (by omega)]
  have t:(yX E N p L (p+1+i))[p]? = some (true,mkEq L):=by
   unfold yX;rw[cq _ m,if_neg (by omega),if_pos rfl]
  have u:Rm (true,mkEq L)=some (mkEq L):=rfl;have v:QI (false,mkEq (E (p+1+i)))=some (mkEq (E (p+1+i))):=rfl;rw[if_pos (by rw[a];simp;omega),bm r,aj5,bm t,aj5,u,aj5,v,aj5,af0 (n _ d (by omega)) o g (by omega),aj5,bC (by omega),ajs];refine congrArg some (congrArg Sum.inl (Prod.ext (by simp only;omega) ?_));simp only;unfold yX;rw[iP];refine congrArg (fun f=>(range N).map f) (funext fun j =>?_)
  by_cases h:j=p+1+i
  ·subst h;rw[if_pos rfl,if_neg (by omega),if_neg (by omega),if_pos (by omega)]
  ·rw[if_neg h]
   by_cases b:j<p
   ·rw[if_pos b,if_pos b]
   ·rw[if_neg b,if_neg b]
    by_cases c:j=p
    ·rw[if_pos c,if_pos c]
    ·rw[if_neg c,if_neg c]
     by_cases e:j<p+1+i
     ·rw[if_pos e,if_pos (by omega)]
     ·rw[if_neg e,if_neg (by omega)]
 ·refine .inr ⟨yX E N p L (p+1+i),?_,?_⟩
  ·simp only[nA];rw[if_neg (by rw[a];simp;omega)]
  ·congr 1;omega
def WW {a:Nat->QE} {t:Nat} {d:Nat->Rat} (u:N<=2000) (v:∀p,p<=N->uG N tk d t (gP a p) p) (e:∀p,p<N->∀c,fw (gP a p p).T p=some c->c<1) (w:∀p,p<N->10*MW t p+50<=er) {m:List aG} (H:m.length=N) :
  aS (lh m) ((0:Int),Nk a N 0)=some (Nk a N N):=by
 have key:=fun y=>cO (body:=lh m) (fun i (s:Int×List (Bool×aG))=>s=((i:Int),Nk a N i)) N (fun l=>l=Nk a N N) (s:=((0:Int),Nk a N 0)) rfl (jz (by omega)) y;refine (key ?_).elim fun x ⟨z,hx⟩=>hx ▸ z;rintro p _ I rfl
 by_cases b:p<N
 ·refine .inl ⟨b,_,?_,rfl⟩;have hEp:=v p (by omega);have g:∀c,fw (gP a p p).T p=some c->1-c≠0:=fun c h=>by have:=e p b c h;grind
  have n:=hEp.sz p b (air _);have o:=w p b;have A:=J8 n p g;simp only[lh];have B:(Nk a N p)[p]? = some (false,mkEq (gP a p p)):=by
   unfold Nk;rw[cq _ b,eb (by omega)]
  have C:QI (false,mkEq (gP a p p))=some (mkEq (gP a p p)):=rfl;have D:(Nk a N p).set p (true,mkEq (jA (gP a p p) p))=yX (gP a p) N p (jA (gP a p p) p) (p+1):=by
   unfold Nk yX;rw[iP];refine congrArg (fun f=>(range N).map f) (funext fun j =>?_);rcases alA j p with h|h|h
   ·rw[if_neg (by omega),if_pos h,ea h]
   ·rw[if_pos h,if_neg (by omega),if_pos h]
   ·rw[if_neg (by omega),if_neg (by omega),if_neg (by omega),if_neg (by omega),eb (by omega)]
  have E:yX (gP a p) N p (jA (gP a p p) p) N=Nk a N (p+1):=by
   unfold Nk yX;refine aj0 fun j F =>?_;have q:=akc.1 F;rw[gP];rcases alA j p with h|h|h
   ·rw[if_pos h,if_pos h,ea (by omega)]
   ·rw[if_neg (by omega),if_pos h,if_neg (by omega),if_pos h,ea (by omega)]
   ·rw[if_neg (by omega),if_neg (by omega),if_pos q,if_neg (by omega),if_neg (by omega),eb (by omega)]
  rw[if_pos (by simp;omega),bm B,aj5,C,aj5,acm n.t n.d u (by omega) g,aj5,bC (by omega),ajs,D,SF u b (fun k G r=>hEp.sz k G r) A o,aj5,E]
 ·have:p=N:=by omega
  subst this;refine .inr ⟨_,?_,rfl⟩;simp only[lh];rw[if_neg (by simp;omega)]
def CB (x:Nat->Rat) (N i:Nat):List al:=(range N).map fun j=>if N<=j+i then cj (x j) else zF
def Sh {b:Nat->QE} {n:Nat} {d x:Nat->Rat} (hN:N<=2000) (q:uG N tk d n (gP b N) N) (hx:∀k,k<N->x k=1*(gP b N k).D+dK (gP b N k).T x) (G:2*(2 ^ N*(4 ^ N*(n+1)))+100<=er) :
  aS (lj (Nk b N N)) ((N:Int)-1,CB x N 0)=some (nV N x):=by
 have r:=aaP q hx;have key:=fun r=>cO (body:=lj (Nk b N N)) (fun i (s:Int×List al)=>s=((N:Int)-1-i,CB x N i)) N (fun l=>l=nV N x) (s:=((N:Int)-1,CB x N 0)) (by simp) (jz (by omega)) r;refine (key ?_).elim fun x ⟨o,hx⟩=>hx ▸ o;rintro i _ hi rfl
 by_cases H:i<N
 ·refine .inl ⟨H,_,?_,rfl⟩;obtain⟨p,hp⟩:∃p,p+i+1=N:=⟨N-1-i,by omega⟩;have a:p<N:=by omega
  have I:(N:Int)-1-(i:Int)=(p:Int):=by omega
  obtain⟨J,K⟩:=r p a;have D:=q.szd p a;have u:=q.up p a;have L:2 ^ (N-1-p)*(4 ^ N*(n+1))<=2 ^ N*(4 ^ N*(n+1)):=ajd _ (alE (by decide) (by omega));have v:=hx p a;generalize w:gP b N p=e at *;simp only[lj];have M:(Nk b N N)[p]? = some (true,mkEq e):=by
   unfold Nk;rw[cq _ a,ea a,w]
  have O:Rm (true,mkEq e)=some (mkEq e):=rfl;have P:(mkEq e).bl=cj e.D:=rfl;have y:(mkEq e).bU=e.T.map jT:=rfl;have hn:=R3;rw[I,if_pos (by simp),bm M,aj5,O,aj5,afD,aj5,P,G9 (by omega),aj5];have Q:e.D+0*0=e.D:=by grind
  rw[Q];have R:=D.t.len;have S:=fun z c=>vf (body:=pV (CB x N i) (mkEq e)) e.T (by omega) (fun j (s:Int×List Int×Int×List Int)=>s=((cj (e.D+dK (e.T.take j) x)).bK.ak,(cj (e.D+dK (e.T.take j) x)).bK.aa,(cj (e.D+dK (e.T.take j) x)).bL.ak,(cj (e.D+dK (e.T.take j) x)).bL.aa))
   (fun s=>s=((cj (x p)).bK.ak,(cj (x p)).bK.aa,(cj (x p)).bL.ak,(cj (x p)).bL.aa)) (s0:=((cj e.D).bK.ak,(cj e.D).bK.aa,(cj e.D).bL.ak,(cj e.D).bL.aa)) (by rw[akx,dK,Rat.add_zero]) z c
  obtain⟨r7,U,rfl⟩:=S (by
   rintro j t _ g rfl;have V:=bh g;have m:=aiT g;have A:=D.t.lt t m;have W:=u t m;have X:(e.T.map jT)[j]? = some (jT t):=by rw[aio,g];rfl
   have B:(CB x N i)[t.1]? = some (cj (x t.1)):=by
    unfold CB;rw[cq _ A,if_pos (by omega)]
   have Y:=R2 e.D x (T:=e.T) j (by omega);have E:=aa1 e.T j x;have F:LF t.2+LF (x t.1)+1<=Nl e.T x:=by
    have:=Ar (e.T.take j) (e.T.drop j) x;rw[akn,akw V]at this;simp only[Nl]at this;have Z:e.T[j]=t:=(aiU.1 g).2;rw[Z]at this;omega
   refine⟨_,?_,rfl⟩;simp only[pV];have e5:(jT t).gA=cj t.2:=rfl;have e6:(jT t).nP=(t.1:Int):=rfl;have e7:al.mk (aF.mk (cj (e.D+dK (e.T.take j) x)).bK.ak (cj (e.D+dK (e.T.take j) x)).bK.aa) (aF.mk (cj (e.D+dK (e.T.take j) x)).bL.ak (cj (e.D+dK (e.T.take j) x)).bL.aa)=cj (e.D+dK (e.T.take j) x):=rfl;rw[if_pos (by rw[y];simp;omega),y,bm X,aj5,e6,bm B,aj5,e5,e7,G9 (by omega),aj5,bC (by omega),PF g,<- Rat.add_assoc]) (by
   rintro _ rfl;refine⟨((cj (e.D+dK (e.T.take e.T.length) x)).bK.ak,(cj (e.D+dK (e.T.take e.T.length) x)).bK.aa,(cj (e.D+dK (e.T.take e.T.length) x)).bL.ak,(cj (e.D+dK (e.T.take e.T.length) x)).bL.aa),?_,?_⟩
   ·simp only[pV];rw[if_neg (by rw[y];simp)]
   ·have:e.D+dK (e.T.take e.T.length) x=x p:=by rw[akD,v];grind
    rw[this])
  rw[U,aj5];have C:(CB x N i)[p]? = some zF:=by
   unfold CB;rw[cq _ a,if_neg (by omega)]
  simp only;rw[bm C,aj5,ajs];have hw:i64.wrap ((p:Int)-1)=(N:Int)-1-((i+1:Nat):Int):=by rw[wrap64 (by omega) (by omega)];omega
  rw[hw];refine congrArg some (congrArg Sum.inl (congrArg (Prod.mk _) ?_));show (CB x N i).set p (cj (x p))=CB x N (i+1);unfold CB;rw[iP];refine congrArg (fun f=>(range N).map f) (funext fun j =>?_)
  by_cases h:j=p
  ·subst h;rw[if_pos rfl,if_pos (by omega)]
  ·rw[if_neg h]
   by_cases o:N<=j+i
   ·rw[if_pos o,if_pos (by omega)]
   ·rw[if_neg o,if_neg (by omega)]
 ·have:i=N:=by omega
  subst this;refine .inr ⟨_,?_,rfl⟩;simp only[lj];rw[if_neg (by simp;omega)];congr 2;unfold CB nV;exact aj0 fun j _=>if_pos (by omega)
def Sd {l:List al} (n:Int) (o:l.length<=17592186044416) (g:∀f∈l,Nn f):gT l n=some (decide ((l.length:Int)=n)&&l.all okF):=by
 unfold gT
 by_cases d:(l.length:Int)=n
 rotate_left
 ·rw[if_neg (by simpa using d),eb d];rfl
 rw[if_pos (by simpa using d),ea d,ajX];unfold cw cP;rw[oB l (fun i x=>if okF x=true then none else some (i:Int)) (by omega) (fun i x a =>?_) (by simp only[dn];rw[if_neg (by simp)])]
 ·rw[aj5];cases b:dL (fun i x=>if okF x=true then none else some (i:Int)) 0 l with
  | none =>
   simp only;rw[aj5,eb (by decide),aj5];have:l.all okF=true:=aiC.2 fun x a=>by
    obtain⟨j,k⟩:=aiN a;have:=cG.1 b j x k
    by_cases h:okF x=true
    ·exact h
    ·rw[if_neg h]at this;cases this
   rw[this];rfl
  | some r =>
   obtain⟨j,x,m,e,_⟩:=da b
   by_cases h:okF x=true
   ·rw[if_pos h]at e;cases e
   ·rw[if_neg h]at e;cases e;simp only;rw[aj5,ea (by omega),aj5];have:l.all okF=false:=by
     cases c:l.all okF with
     | false=>rfl
     | true=>exact absurd (aiC.1 c x (aiT m)) h
    rw[this];rfl
 ·have p:=bh a;simp only[dn,kf];rw[if_pos (by simp;omega),bm a,aj5,AD (g x (aiT a)),aj5,aj5];cases okF x with
  | true=>rw[bC (by omega)];rfl
  | false=>rfl
def PG {l:List al} {N:Nat} (b:l.length=N) (h:l.all okF=true):∃d:Nat->Rat,l=nV N d:=by
 obtain⟨qs,a,_⟩:=Ab (mk:=cj) (R:=fun _=>True) (l:=l) fun x c=>by
  obtain⟨q,a⟩:=Bi.1 (aiC.1 h x c);exact⟨q,a,trivial⟩
 refine⟨fun p=>qs.getD p 0,?_⟩;subst a;rw[aiV]at b;refine iu (by simpa using b) fun j f =>?_;have e:(fun p=>qs.getD p 0) j=qs[j]'(by omega):=by
  show qs.getD j 0=_;rw[ai4,aiE (by omega)];rfl
 rw[aio,aiE (by omega),e];rfl
def Xm (N:Nat) (d:Nat->Rat):(nV N d).all okF=true:=aiC.2 fun x a=>by
 unfold nV at a;obtain⟨p,_,rfl⟩:=aiq.1 a;exact Mo _
def aae {N K:Nat} {d:Nat->Rat} (h:∀f∈nV N d,f.bK.aa.length<=K∧f.bL.aa.length<=K):∀p,p<N->LF (d p)<=K:=fun p a=>by
 have:=h _ (aiT (q8 d a));exact yk this.1 this.2
def Sb (n:dE) (l:List al):Prop:=∃N tk d,n=pZ N tk∧ky N tk∧l=nV N d
abbrev SzN (n:dE) (K:Nat):Prop:=∀t∈n.aP,t.eo.bK.aa.length<=K∧t.eo.bL.aa.length<=K
abbrev SzL (l:List al) (K:Nat):Prop:=∀f∈l,f.bK.aa.length<=K∧f.bL.aa.length<=K
def Yt {N K:Nat} {tk:List Tk} (h:∀t∈tk,LF t.2.2<=K):SzN (pZ N tk) K:=fun t a=>by
 simp only[pZ,aiq]at a;obtain⟨u,b,rfl⟩:=a;exact UR (h u b)
def aew {N K:Nat} {tk:List Tk} (h:SzN (pZ N tk) K):∀t∈tk,LF t.2.2<=K:=fun t a=>by
 have:=h (xy t) (by simp only[pZ];exact List.mem_map_of_mem a);exact yk this.1 this.2
def RG {N:Nat} {tk:List Tk} {r:Nat->Int} (b:rB N tk r) (h:qq N r=[]):∀p,p<N->0<=r p:=by
 intro p a;have c:=b.ge p a;have d:r p ≠ -1:=fun e=>by
  have:p∈qq N r:=aj8.2 ⟨akc.2 a,by simpa using e⟩;rw[h]at this;cases this
 omega
def Yo {n : dE} {l : List al} {K M : Nat} (F : K <= 1000000) (R : SzN n K) (G : SzL l K) (k : l.length <= 17592186044416) (Y : n.aC <= (M : Int) ∨ 2000 < n.aC) (hS : 2 * (2 ^ M * (4 ^ M * (K + 1))) + 100 <= er) :
    (¬ Sb n l ∧ iw n l = some ([], 1)) ∨
    ∃ N tk d r, n = pZ N tk ∧ ky N tk ∧ l = nV N d ∧ N <= M ∧ (∀ t ∈ tk, LF t.2.2 <= K) ∧ (∀ p, p < N -> LF (d p) <= K) ∧ nd n = some ((range N).map r) ∧ rB N tk r ∧
      ((qq N r ≠ [] ∧ iw n l = some ([], 24)) ∨
       (qq N r = [] ∧ ∃ x, ad2 N tk d x ∧ iw n l = some (nV N x, 0) ∧ ∀ p, p < N -> LF (x p) <= 2 ^ (N - 1 - p) * (4 ^ N * (K + 1)))) := by
  have m : K <= kv := ait F (by unfold kv; omega);obtain ⟨b, o, s⟩ := CH F R;have u := Sd n.aC k fun f S => ⟨ait (G f S).1 m, ait (G f S).2 m⟩;have v : ¬ Sb n l -> iw n l = some ([], 1) := by
    intro w;unfold iw;rw [o, aj5, u, aj5];cases b with
    | false => simp
    | true =>
      obtain ⟨N, tk, rfl, c⟩ := s.1 rfl;have : (decide ((l.length : Int) = (pZ N tk).aC) && l.all okF) = false := by
        by_cases H : (l.length : Int) = (pZ N tk).aC
        · cases T : l.all okF with
          | false => rw [Bool.and_false]
          | true =>
            have U : l.length = N := by simp only [pZ] at H; omega
            obtain ⟨d, D⟩ := PG U T;exact absurd ⟨N, tk, d, rfl, c, D⟩ w
        · rw [eb H, akA]
      rw [this]; simp
  by_cases w : Sb n l
  rotate_left
  · exact .inl ⟨w, v w⟩
  obtain ⟨N, tk, d, rfl, c, rfl⟩ := w;obtain rfl : b = true := s.2 ⟨N, tk, rfl, c⟩;have E := c.ports;have g : N <= M := by simp only [pZ] at Y; omega
  have I := aew R;have D := aae G;obtain ⟨r, y, e⟩ := aaE c F I;have J := T0 E y;refine .inr ⟨N, tk, d, r, rfl, c, rfl, g, I, D, y, e, ?_⟩;have z : ∀ (q : List Int), kV (pZ N tk) = some q -> iw (pZ N tk) (nV N d) = if decide ((q.length : Int) > 0) = true then some ([], 24) else
      (dZ (pZ N tk) (nV N d)).bind fun V =>
      (aS (lh V) (0, (JO V))).bind fun a =>
      (Gt 64 (pZ N tk).aC (pZ N tk).aC (al.mk (aF.mk 0 ([])) (aF.mk 0 ([])))).bind fun L =>
      (aS (lj a) (i64.wrap (((a).length : Int) - 1), L)).bind fun A =>
      some (A, 0) := by
    intro q Z;unfold iw;rw [o, aj5, u, aj5, Z];rw [ea (show ((nV N d).length : Int) = (pZ N tk).aC by rw [lx]; rfl), Xm];simp only [ajW, ai1, if_false, Bool.and_self, Option.bind_some]
  rw [z _ J]
  by_cases B : qq N r = []
  rotate_left
  · refine .inl ⟨B, ?_⟩
    have : 0 < (qq N r).length := akq.2 B;rw [if_pos (by rw [pP]; simp; omega)]
  refine .inr ⟨B, ?_⟩;have W := RG e B;rw [if_neg (by rw [pP, B]; simp)];have h := OC c e W (elim0 c D I);have X : 2 ^ N * (4 ^ N * (K + 1)) <= 2 ^ M * (4 ^ M * (K + 1)) := alp (alE (by decide) g) (ajd _ (alE (by decide) g));obtain ⟨x, _, O, _⟩ := EU (gP (U7 d tk) N) 1 N (h N (air _)).up (fun _ => 0);have C := ((h N (air _)).sem 1 x O).1;have P := aaP (h N (air _)) O;refine ⟨x, fun p i => by have := C p i; grind, ?_, fun p i => (P p i).2⟩;rw [LQ c, aj5];have e1 : JO ((range N).map fun p => mkEq (U7 d tk p)) = Nk (U7 d tk) N 0 := by
    unfold JO Nk;rw [alq];exact aj0 fun p _ => by simp [gP]
  have Q : ∀ p, p < N -> 10 * MW K p + 50 <= er := fun p i => by
    have H := TK K p;have T : 4 ^ p * (K + 1) * 4 <= 4 ^ N * (K + 1) := by
      rw [Nat.mul_right_comm, <- Nat.pow_succ];exact ajd _ (alE (by decide) (by omega))
    have U : 2 * (4 ^ N * (K + 1)) <= 2 ^ N * (4 ^ N * (K + 1)) := ajd _ (by
      have : 2 ^ 1 <= 2 ^ N := alE (by decide) (by omega);omega)
    omega
  rw [e1, WW E h (fun p i => Kz c e W (h p (by omega)) i) Q (by simp), aj5];have e2 : (pZ N tk).aC = (N : Int) := rfl;have e3 : (Nk (U7 d tk) N N).length = N := yI _;have e4 : replicate N zF = CB x N 0 := by
    refine iu (by simp) fun j hj => ?_;rw [alx, if_pos hj, if_neg (by omega)]
  rw [e2, Gu _ (by omega) E, aj5, e3, wrap64 (by omega) (by omega), e4, Sh E (h N (air _)) O (by omega), aj5]
set_option maxRecDepth 100000
def acM:um=some true:=by kernel_rfl
def afA {l:List al} (k:Int) (q:l.length<=17592186044416):∃b,yH l k=some b∧(b=true->l.length<=14∧∀f∈l,(f.bK.aa.length:Int)<=k∧(f.bL.aa.length:Int)<=k):=by
 unfold yH;have a:(l.take 15).length=min 15 l.length:=aiK;rw[oB (l.take 15) (fun i x=>if decide ((x.bK.aa.length:Int)<=k∧(x.bL.aa.length:Int)<=k)=true then none else some false) (by omega) (fun i x d =>?_) (by
  simp only[vJ]
  by_cases h:15<l.length
  ·rw[if_pos (by rw[a];simp;omega),aj5,if_neg (by rw[a];simp;omega)]
  ·rw[if_neg (by rw[a];simp;omega),aj5];rfl)]
 ·rw[aj5];cases c:dL (fun (i:Nat) (x:al)=>if decide ((x.bK.aa.length:Int)<=k∧(x.bL.aa.length:Int)<=k)=true then none else some false) 0 (l.take 15) with
  | none =>
   refine⟨_,rfl,fun h =>?_⟩;have e:l.length<=14:=by have:=of_decide_eq_true h;omega
   refine⟨e,fun f n =>?_⟩;obtain⟨j,o⟩:=aiN n;have:=cG.1 c j f (by rw[ajU (by omega)];exact o);split at this
   ·rename_i h;exact of_decide_eq_true h
   ·cases this
  | some r =>
   obtain⟨j,x,_,g,_⟩:=da c;split at g
   ·cases g
   ·cases g;exact⟨false,rfl,fun h=>by cases h⟩
 ·have p:=bh d;rw[a]at p;rw[aiH,if_pos (by omega)]at d;simp only[vJ];rw[if_pos (by simp;omega),aj5,if_pos (by simp;omega),bm d,aj5,aei,aj5]
  by_cases m:(x.bK.aa.length:Int)<=k∧(x.bL.aa.length:Int)<=k
  ·rw[ea m,bC (by omega)];rfl
  ·rw[eb m];rfl
def SzL.mono {l:List al} {K a:Nat} (h:SzL l K) (b:K<=a):SzL l a:=fun f c=>⟨ait (h f c).1 b,ait (h f c).2 b⟩
def SzN.mono {n:dE} {K a:Nat} (h:SzN n K) (b:K<=a):SzN n a:=fun f c=>⟨ait (h f c).1 b,ait (h f c).2 b⟩
def afi {n B:Nat} {f:Nat->Rat} (h:∀i,i<n->LF (f i)<=B):LF (sm n f)<=1+n*(B+1):=by
 induction n with
 | zero=>simp only[sm];exact ait R3 (by omega)
 | succ n a =>
  have b:=a fun i c=>h i (by omega);have d:=h n (by omega);have e:=wJ (sm n f) (f n);simp only[sm];rw[ajp];omega
def aep {N K:Nat} {tk:List Tk} (a:ky N tk) (e:K<=1000000) (f:∀t∈tk,LF t.2.2<=K) {p:Nat} (g:p<N):se (pZ N tk) (p:Int)=some (cj (dm tk p)):=by
 have h:=a.ports;obtain⟨b,c,d⟩:=CH (n:=pZ N tk) e (Yt f);obtain rfl:b=true:=d.2 ⟨N,tk,rfl,a⟩;unfold se;have i:(pZ N tk).aC=(N:Int):=rfl;rw[c,aj5,kp,aj5,i,wrap64 (by omega) (by omega),ea (show (0:Int)<=(p:Int)∧(p:Int)<=(N:Int)-1 by omega),Gf h a.takes (fun t j=>(a.rng t j).1) e f,aj5,bm (cq _ g)];rfl
def afE:tr 0=some (cj 0):=ahw (n:=0) (by decide)
section
variable {N:Nat} {tk:List Tk} {r:Nat->Int}
end
def nE:List Rat->Rat
 | []=>0
 | q::l=>q+nE l
def RA (a b:List Rat):nE (a++b)=nE a+nE b:=by
 induction a with
 | nil=>rw[akh,nE,Rat.zero_add]
 | cons q a c=>rw[aks,nE,nE,c];grind
def Ul {K:Nat} {l:List Rat} (h:∀q∈l,LF q<=K):LF (nE l)<=1+l.length*(K+1):=by
 induction l with
 | nil=>simp only[nE];exact ait (BM (n:=0) (by decide)) (by omega)
 | cons q l a =>
  have c:=h q (aj2 ..);have d:=a fun x b=>h x (aj3 _ b);have e:=wJ q (nE l);simp only[nE,List.length_cons];rw[ajp];omega
def WJ {a b:Rat} : Fa a b=0↔a=b:=by
 unfold Fa
 by_cases c:a<b
 ·rw[if_pos c];constructor
  ·intro h;cases h
  ·intro h;grind
 ·rw[if_neg c]
  by_cases d:b<a
  ·rw[if_pos d];constructor
   ·intro h;cases h
   ·intro h;grind
  ·rw[if_neg d];constructor
   ·intro _;grind
   ·intro _;rfl
def zr (l:List al):Prop:=∃a:List Rat,l=a.map cj∧(∀q∈a,0<=q)∧nE a=1
def ade {a b:Rat} (h:LF a+LF b+1<=er):qK (cj a) (cj b)=some (cj (a+b)):=by
 unfold qK;rw[Ug h];rfl
def abq {l:List al} (E:l.length<=100) (F:∀f∈l,f.bK.aa.length<=6∧f.bL.aa.length<=6):∃b,rj l=some b∧(b=true↔zr l):=by
 have G:er=4398046511104:=rfl;have j:gC 0=some (cj 0):=Yj (n:=0) (by decide);unfold rj;rw[j,aj5];obtain⟨q,o,v⟩:=cO (body:=qL l)
  (fun i H=>∃c:List Rat,l.take i=c.map cj∧(∀q∈c,0<=q∧LF q<=6)∧H=((i:Int),(cj (nE c)).bK.ak,(cj (nE c)).bK.aa,(cj (nE c)).bL.ak,(cj (nE c)).bL.aa)) l.length
  (fun q=>(q=.inr false∧¬zr l)∨∃c:List Rat,l=c.map cj∧(∀q∈c,0<=q∧LF q<=6)∧q=.inl ((cj (nE c)).bK.ak,(cj (nE c)).bK.aa,(cj (nE c)).bL.ak,(cj (nE c)).bL.aa))
  (s:=(0,(cj 0).bK.ak,(cj 0).bK.aa,(cj 0).bL.ak,(cj 0).bL.aa)) ⟨[],rfl,fun q g=>by simp at g,rfl⟩ (jz (by omega)) (by
   rintro i _ O ⟨c,u,g,rfl⟩;simp only[qL];have I:c.length=i:=by
    have:=congrArg List.length u;simp only[aiK,aiV]at this;omega
   by_cases e:i<l.length
   ·have D:l[i]? = some l[i]:=aiE e;have w:=F _ (aiD e);have p:l.take (i+1)=l.take i++[l[i]]:=alo e;have d:l[i]∈l:=aiD e;generalize l[i]=f at D w p d;rw[if_pos (by simpa using e),bm D,aj5,AD ⟨by unfold kv;omega,by unfold kv;omega⟩,aj5];cases k:okF f with
    | false =>
     right;refine⟨_,rfl,.inl ⟨rfl,?_⟩⟩;rintro⟨r,o,_,_⟩;rw[o]at d;obtain⟨q,_,rfl⟩:=aiq.1 d;rw[Mo]at k;cases k
    | true =>
     obtain⟨q,rfl⟩:=Bi.1 k;have y:LF q<=6:=yk w.1 w.2;simp only[ajW,ai1,if_false];rw[BN (by omega),aj5]
     by_cases hneg:q<0
     ·right;refine⟨_,by rw[if_pos (ea (tv.2 hneg))],.inl ⟨rfl,?_⟩⟩;rintro⟨r,o,v,_⟩;rw[o]at d;obtain⟨J,z,A⟩:=aiq.1 d;have:=v J z;rw[Bd A]at this;grind
     ·left;refine⟨e,?_⟩;have B:=Ul (K:=6) (l:=c) fun x t=>(g x t).2;have L:qK (cj (nE c)) (cj q)=some (cj (nE c+q)):=ade (by omega);rw[if_neg (by rw[decide_eq_true_eq];exact fun h=>hneg (tv.1 h)),bC (by omega)];refine⟨_,by erw [L];rfl,c++[q],?_,?_,?_⟩
      ·rw[p,u,ajY];rfl
      ·intro x t;rcases ajI.1 t with h|h
       ·exact g x h
       ·rw[aiO.1 h];exact⟨by grind,y⟩
      ·have:nE (c++[q])=nE c+q:=by rw[RA];simp only[nE];grind
       rw[this]
   ·right;have:i=l.length:=by omega
    subst this;rw[akD]at u;exact⟨_,by rw[if_neg (by simp)],.inr ⟨c,u,g,rfl⟩⟩)
 erw [o];rw[aj5];rcases v with⟨rfl,C⟩|⟨c,rfl,g,rfl⟩
 ·exact⟨false,rfl,by simp[C]⟩
 ·have m:gC 1=some (cj 1):=acf;simp only[aiV]at E;have B:=Ul (K:=6) (l:=c) fun x t=>(g x t).2;have M:LF (1:Rat)<=1:=BM (n:=1) (by decide);have N:fD (cj (nE c)) (cj 1)=some (Fa (nE c) 1):=BK (by omega);simp only;rw[m,aj5];refine⟨_,by erw [N];rfl,?_⟩;rw[beq_iff_eq,WJ];constructor
  ·intro h;exact⟨c,rfl,fun q h=>(g q h).1,h⟩
  ·rintro⟨r,A,_,h⟩;rw[(List.map_inj_right fun a b=>Bd).1 A];exact h
def AJ (f:gN) (i:Nat):List al:=f.aL.map fun l=>(l[i]?).getD (al.mk (aF.mk 0 ([])) (aF.mk 0 ([])))
structure Ez (f:gN):Prop where
 srcs:f.aq.length<=100
 outs:f.aO.length<=100
 rows:f.aL.length=f.aO.length
 out:∀x∈f.aO,0<=x.bG∧x.bG<=3∧0<=x.aY
 row:∀l∈f.aL,l.length=f.aq.length
 src:∀x∈f.aq,0<=x.bG∧x.bG<=2∧0<=x.aY
 col:∀i,i<f.aq.length->zr (AJ f i)
structure rq (f:gN):Prop where
 srcs:f.aq.length<=5
 outs:f.aO.length<=5
 rows:f.aL.length<=8
 row:∀l∈f.aL,l.length<=8∧∀x∈l,x.bK.aa.length<=4∧x.bL.aa.length<=4
def Y0 {f:gN} {i:Nat} (t:i<f.aq.length) (u:f.aL.length=f.aO.length) (a:∀l∈f.aL,l.length=f.aq.length) (v:f.aO.length<=100) :
  ∃c:List al,aS (gX f (i:Int)) ((0:Int),replicate f.aO.length (al.mk (aF.mk 0 ([])) (aF.mk 0 ([]))))=some c∧f.aL.map (fun l=>l[i]?)=c.map some:=by
 have key:=fun h b=>vf (body:=gX f (i:Int)) f.aO (by omega)
  (fun k (c:List al)=>c.length=f.aO.length∧∀j,j<k->(f.aL.map (fun l=>l[i]?))[j]? = some c[j]?) (fun c=>f.aL.map (fun l=>l[i]?)=c.map some) (s0:=replicate f.aO.length (al.mk (aF.mk 0 ([])) (aF.mk 0 ([]))))
  ⟨by simp,fun j m=>by omega⟩ h b
 refine (key ?_ ?_)
 ·rintro k x c q ⟨d,n⟩;have r:=bh q;have g:f.aL[k]? = some (f.aL[k]'(by omega)):=aiE _;have s:=a _ (aiT g);generalize f.aL[k]'(by omega)=l at g s;have e:l[i]? = some (l[i]'(by omega)):=aiE _;have o:c[k]? = some (c[k]'(by omega)):=aiE _;refine⟨c.set k (l[i]'(by omega)),?_,?_,?_⟩;rotate_left
  ·simpa using d
  ·intro j m
   by_cases p:j=k
   ·subst p;rw[aio,g,alk (by omega)];exact congrArg some e
   ·rw[n j (by omega),aln (by omega)]
  ·simp only[gX];rw[if_pos (by simpa using r),bm g,aj5,bm e,aj5,bm o,aj5,ajs,bC (by omega)]
 ·rintro c ⟨d,n⟩;refine⟨_,by simp only[gX];rw[if_neg (by simp)],?_⟩;apply akE;intro j
  by_cases m:j<f.aO.length
  ·rw[n j m,aio,aiE (by omega)];rfl
  ·rw[aj7 (by simp;omega),aj7 (by simp;omega)]
def aea {f:gN} {i:Nat} {c:List al} (h:f.aL.map (fun l=>l[i]?)=c.map some):c=AJ f i:=by
 have:=congrArg (List.map fun x:Option al=>x.getD (al.mk (aF.mk 0 ([])) (aF.mk 0 ([])))) h;rw[alq,alq]at this;have a:c.map ((fun x:Option al=>x.getD (al.mk (aF.mk 0 ([])) (aF.mk 0 ([])))) ∘ some)=c:=by
  rw[show ((fun x:Option al=>x.getD (al.mk (aF.mk 0 ([])) (aF.mk 0 ([])))) ∘ some)=id from rfl,List.map_id]
 rw[a]at this;exact this.symm
def MI {f:gN} (v:rq f):∃b,kl f=some b∧(b=true↔Ez f):=by
 open Classical in
 have F:=v.srcs;have G:=v.outs;unfold kl;rw[if_neg (by simp;omega),if_neg (by simp;omega),aj5]
 by_cases hr:f.aL.length=f.aO.length
 rotate_left
 ·rw[if_pos (by simpa using fun h=>hr (by omega))];exact⟨false,rfl,by simp only[ai1,false_iff];exact fun h=>hr h.rows⟩
 rw[if_neg (by simp[hr])];rw[oB f.aO (fun i x=>if (0<=x.bG∧x.bG<=3)∧0<=x.aY∧(f.aL.getD i []).length=f.aq.length then none else some false) (by omega) (fun i x g =>?_) (by simp only[lJ];rw[if_neg (by simp)])];rotate_left
 ·have u:=bh g;have p:f.aL[i]? = some (f.aL.getD i []):=by rw[ai4,aiE (by omega)];rfl
  simp only[lJ];rw[if_pos (by simpa using u),bm g,aj5,kp,aj5,bC (by omega)]
  by_cases h1:0<=x.bG∧x.bG<=3
  ·rw[ea h1,if_neg (by simp)]
   by_cases a:x.aY<0
   ·rw[if_pos (by simpa using a),if_neg (by omega)]
   ·rw[if_neg (by simpa using a),bm p,aj5]
    by_cases h3:(f.aL.getD i []).length=f.aq.length
    ·rw[if_neg (by rw[h3];simp),if_pos ⟨h1,by omega,h3⟩]
    ·rw[if_pos (by rw[bne_iff_ne];intro h;exact h3 (by omega)),if_neg (fun h=>h3 h.2.2)]
  ·rw[eb h1,if_pos (by simp),if_neg (by omega)]
 rw[aj5];cases r:dL (fun (i:Nat) (x:D1)=>if (0<=x.bG∧x.bG<=3)∧0<=x.aY∧(f.aL.getD i []).length=f.aq.length then none else some false) 0 f.aO with
 | some q =>
  obtain⟨j,x,h1,a,_⟩:=da r;rw[ajf]at a;have e:=bh h1;split at a
  ·cases a
  ·rename_i d;cases a;refine⟨false,rfl,?_⟩;simp only[ai1,false_iff];intro s;have o:=s.out x (aiT h1);have p:f.aL[j]? = some (f.aL.getD j []):=by rw[ai4,aiE (by omega)];rfl
   exact d ⟨⟨o.1,o.2.1⟩,o.2.2,s.row _ (aiT p)⟩
 | none =>
  have k:∀(j:Nat) x,f.aO[j]? = some x->(0<=x.bG∧x.bG<=3)∧0<=x.aY∧(f.aL.getD j []).length=f.aq.length:=fun j x h=>by
   have:=cG.1 r j x h;rw[ajf]at this;split at this
   ·assumption
   ·cases this
  have m:∀l∈f.aL,l.length=f.aq.length:=fun l w=>by
   obtain⟨j,e,rfl⟩:=List.getElem_of_mem w;have h:=(k j _ (aiE (by omega))).2.2;rw[ai4,aiE e]at h;exact h
  simp only;rw[oB f.aq (fun i x=>if (0<=x.bG∧x.bG<=2)∧0<=x.aY∧zr (AJ f i) then none else some false) (by omega) (fun i x g =>?_) (by simp only[lK];rw[if_neg (by simp)])];rotate_left
  ·have u:=bh g;obtain⟨c,C,D⟩:=Y0 u hr m (by omega);obtain rfl:=aea D;obtain⟨b,E,A⟩:=abq (l:=AJ f i) (by unfold AJ;rw[aiV];omega) (fun y B=>by
    unfold AJ at B;obtain⟨l,w,rfl⟩:=aiq.1 B;have h1:=(v.row l w).2;cases p:l[i]? with
    | none=>simp
    | some z =>
     have:=h1 z (aiT p);simp only[Option.getD_some];omega)
   simp only[lK];rw[if_pos (by simpa using u),bm g,aj5,Gu _ (by omega) (by omega),aj5,C,aj5,kp,aj5,bC (by omega)]
   by_cases h1:0<=x.bG∧x.bG<=2
   ·rw[ea h1,if_neg (by simp)]
    by_cases a:x.aY<0
    ·rw[if_pos (by simpa using a),if_neg (by omega)]
    ·rw[if_neg (by simpa using a),E,aj5]
     by_cases h3:zr (AJ f i)
     ·rw[A.2 h3,if_neg (by simp),if_pos ⟨h1,by omega,h3⟩]
     ·have:b=false:=by cases b with
       | false=>rfl
       | true=>exact absurd (A.1 rfl) h3
      rw[this,if_pos (by simp),if_neg (fun h=>h3 h.2.2)]
   ·rw[eb h1,if_pos (by simp),if_neg (fun h=>h1 h.1)]
  rw[aj5];cases t:dL (fun (i:Nat) (x:jQ)=>if (0<=x.bG∧x.bG<=2)∧0<=x.aY∧zr (AJ f i) then none else some false) 0 f.aq with
  | some q =>
   obtain⟨j,x,h1,a,_⟩:=da t;rw[ajf]at a;have e:=bh h1;split at a
   ·cases a
   ·rename_i d;cases a;refine⟨false,rfl,?_⟩;simp only[ai1,false_iff];intro s;have o:=s.src x (aiT h1);exact d ⟨⟨o.1,o.2.1⟩,o.2.2,s.col j e⟩
  | none =>
   have n:∀(j:Nat) x,f.aq[j]? = some x->(0<=x.bG∧x.bG<=2)∧0<=x.aY∧zr (AJ f j):=fun j x h=>by
    have:=cG.1 t j x h;rw[ajf]at this;split at this
    ·assumption
    ·cases this
   refine⟨true,rfl,?_⟩;simp only[true_iff];exact⟨by omega,by omega,hr,fun x g=>by
    obtain⟨j,e⟩:=aiN g;have:=k j x e;exact⟨this.1.1,this.1.2,this.2.1⟩,m,fun x g=>by
    obtain⟨j,e⟩:=aiN g;have:=n j x e;exact⟨this.1.1,this.1.2,this.2.1⟩,fun j e=>(n j _ (aiE e)).2.2⟩
def BA (n:Nat):List Int:=(range n).map fun (i:Nat)=>(i:Int)
def RL {n i:Nat} (h:i<n):(BA n)[i]? = some (i:Int):=cq (fun (i:Nat)=>(i:Int)) h
def HN (n:Nat):(BA n).length=n:=yI _
def RM (n:Nat):(BA n).Pairwise (fun x y=>x<=y):=by
 unfold BA;rw[akJ];exact (akd (n:=n)).imp fun h=>by omega
def Ht (l:List Int):(qp l).Perm l:=List.mergeSort_perm l _
def MR (l:List Int):(qp l).Pairwise (fun x y=>x<=y):=by
 have:=List.pairwise_mergeSort (le:=fun x y:Int=>decide (x<=y)) (fun a b c d e=>by simp only[decide_eq_true_eq]at *;omega) (fun a b=>by simp only[aj6,decide_eq_true_eq];omega) l;exact this.imp fun h=>by simpa using h
def XL:∀ {l m:List Int},l.Perm m->l.Pairwise (fun x y=>x<=y)->m.Pairwise (fun x y=>x<=y)->l=m:=fun e c d=>List.Perm.eq_of_pairwise (le:=fun x y:Int=>x<=y) (fun a b _ _ c d=>by omega) c d e
def GD {l:List Int} (t:l.length<=100) (n:Nat):∃b,kW l (n:Int)=some b∧(b=true↔l.Perm (BA n)):=by
 unfold kW pA cX M9 Es;rw[aj5,if_pos (by omega),aj5];have p:=rm l;have a:l.Perm (BA n)↔qp l=BA n:=⟨fun h=>XL ((Ht l).trans h) (MR l) (RM n),fun h=>h ▸ (Ht l).symm⟩;rw[a];rw[oB (qp l) (fun i x=>if (i:Int)=x then none else some false) (by omega) (fun i x k =>?_) (by simp only[n5];rw[if_neg (by simp)])];rotate_left
 ·have r:=bh k;simp only[n5];rw[if_pos (by simpa using r),bm k,aj5,bC (by omega)]
  by_cases h:(i:Int)=x
  ·rw[if_neg (by simp[h]),if_pos h]
  ·rw[if_pos (by simpa using h),if_neg h]
 rw[aj5];cases m:dL (fun (i:Nat) (x:Int)=>if (i:Int)=x then none else some false) 0 (qp l) with
 | some q =>
  obtain⟨j,x,e,f,_⟩:=da m;rw[ajf]at f;split at f
  ·cases f
  ·rename_i c;cases f;refine⟨false,rfl,?_⟩;simp only[ai1,false_iff];intro s;rw[s]at e;have g:=bh e;rw[HN]at g;rw[RL g]at e;exact c (Option.some.inj e)
 | none =>
  have d:∀(j:Nat) x,(qp l)[j]? = some x->(j:Int)=x:=fun j x h=>by
   have:=cG.1 m j x h;rw[ajf]at this;split at this
   ·assumption
   ·cases this
  refine⟨_,rfl,?_⟩;rw[beq_iff_eq];constructor
  ·intro h;apply akE;intro j
   by_cases g:j<n
   ·have o:(qp l)[j]? = some ((qp l)[j]'(by omega)):=aiE _;rw[RL g,o,<- d j _ o]
   ·rw[aj7 (by omega),aj7 (by rw[HN];omega)]
  ·intro h;rw[h,HN]
structure yT (m:ck) (ports:Nat):Prop where
 flow:Ez m.ay
 takes:((m.ay.aq.filter fun x=>x.bG==1).map (·.aY)).Perm (BA m.a8.length)
 gives:((m.ay.aO.filter fun x=>x.bG==0).map (·.aY)).Perm (BA m.aC.length)
 uses:∀u∈m.a8,(0<=u.cm∧u.cm<ports)∧1<=u.aT∧u.aT<=1099511627776
 ports:∀p∈m.aC,0<=p∧p<(ports:Int)
def RD {m:ck} (h:m.ay.aq.length<=100):aS (nf m) ((0:Int),[])=some ((m.ay.aq.filter fun x=>x.bG==1).map (·.aY)):=by
 have key:=fun c a=>vf (body:=nf m) m.ay.aq (by omega) (fun i (l:List Int)=>l=((m.ay.aq.take i).filter fun x=>x.bG==1).map (·.aY)) (fun l=>l=(m.ay.aq.filter fun x=>x.bG==1).map (·.aY)) (s0:=[]) rfl c a;refine (key ?_ ?_).elim fun x ⟨g,hx⟩=>hx ▸ g
 ·rintro i x _ hx rfl;have j:=bh hx;have d:m.ay.aq.take (i+1)=m.ay.aq.take i++[x]:=by
   obtain⟨e,k⟩:=aiU.1 hx;rw[alo e,k]
  have f:=alr (fun x:jQ=>x.bG==1) (m.ay.aq.take i);rw[aiK]at f;refine⟨_,?_,rfl⟩;simp only[nf];rw[if_pos (by simpa using j),bm hx,aj5,bC (by omega),d,als]
  by_cases b:x.bG=1
  ·rw[if_pos (by simpa using b),yU (by rw[aiV];simp only[List.length_cons,List.length_nil];omega),aj5,alu (by simpa using b),ajY];rfl
  ·rw[if_neg (by simpa using b),alv (by simpa using b)];simp
 ·rintro _ rfl;refine⟨_,?_,rfl⟩;simp only[nf];rw[if_neg (by simp),akD]
def Pk {m:ck} (h:m.ay.aO.length<=100):aS (ng m) ((0:Int),[])=some ((m.ay.aO.filter fun x=>x.bG==0).map (·.aY)):=by
 have key:=fun c a=>vf (body:=ng m) m.ay.aO (by omega) (fun i (l:List Int)=>l=((m.ay.aO.take i).filter fun x=>x.bG==0).map (·.aY)) (fun l=>l=(m.ay.aO.filter fun x=>x.bG==0).map (·.aY)) (s0:=[]) rfl c a;refine (key ?_ ?_).elim fun x ⟨g,hx⟩=>hx ▸ g
 ·rintro i x _ hx rfl;have j:=bh hx;have d:m.ay.aO.take (i+1)=m.ay.aO.take i++[x]:=by
   obtain⟨e,k⟩:=aiU.1 hx;rw[alo e,k]
  have f:=alr (fun x:D1=>x.bG==0) (m.ay.aO.take i);rw[aiK]at f;refine⟨_,?_,rfl⟩;simp only[ng];rw[if_pos (by simpa using j),bm hx,aj5,bC (by omega),d,als]
  by_cases b:x.bG=0
  ·rw[if_pos (by simpa using b),yU (by rw[aiV];simp only[List.length_cons,List.length_nil];omega),aj5,alu (by simpa using b),ajY];rfl
  ·rw[if_neg (by simpa using b),alv (by simpa using b)];simp
 ·rintro _ rfl;refine⟨_,?_,rfl⟩;simp only[ng];rw[if_neg (by simp),akD]
def aeA (u:ic) {a:Nat} (e:a<=2000):∃b,oU u (a:Int)=some b∧(b=false↔(0<=u.cm∧u.cm<a)∧1<=u.aT∧u.aT<=1099511627776):=by
 unfold oU;rw[kp,aj5,iH (by omega)]
 by_cases c:0<=u.cm∧u.cm<=(a:Int)-1
 ·rw[ea c,if_neg (by simp),kp,aj5];refine⟨_,rfl,?_⟩
  by_cases d:1<=u.aT∧u.aT<=1099511627776
  ·rw[ea d];simp;omega
  ·rw[eb d];simp;omega
 ·rw[eb c,if_pos (by simp)];exact⟨true,rfl,by simp;omega⟩
def aeh (p:Int) {a:Nat} (d:a<=2000):∃b,oV p (a:Int)=some b∧(b=false↔0<=p∧p<a):=by
 unfold oV;rw[kp,aj5,iH (by omega)];refine⟨_,rfl,?_⟩
 by_cases c:0<=p∧p<=(a:Int)-1
 ·rw[ea c];simp;omega
 ·rw[eb c];simp;omega
def acx {l:List ic} (r:l.length<=100) {a:Nat} (g:a<=2000):∃b,cc l (a:Int)=some b∧(b=false↔∀u∈l,(0<=u.cm∧u.cm<a)∧1<=u.aT∧u.aT<=1099511627776):=by
 unfold cc cY;rw[oB l (fun i u=>if (0<=u.cm∧u.cm<a)∧1<=u.aT∧u.aT<=1099511627776 then none else some (i:Int)) (by omega) (fun i x e =>?_) (by simp only[dB];rw[if_neg (by simp)])];rotate_left
 ·have k:=bh e;obtain⟨b,m,c⟩:=aeA x g;simp only[dB];rw[if_pos (by simpa using k),bm e,aj5,m,aj5,bC (by omega)];cases b with
  | false=>rw[if_pos (c.1 rfl)];rfl
  | true =>
   simp only[alF,false_iff]at c;simp only[if_true];rw[if_neg c]
 cases f:dL (fun (i:Nat) (u:ic)=>if (0<=u.cm∧u.cm<a)∧1<=u.aT∧u.aT<=1099511627776 then none else some (i:Int)) 0 l with
 | none =>
  refine⟨false,rfl,?_⟩;simp only[true_iff];intro u n;obtain⟨j,o⟩:=aiN n;have:=cG.1 f j u o;split at this
  ·assumption
  ·cases this
 | some q =>
  obtain⟨j,x,p,d,_⟩:=da f;split at d
  ·cases d
  ·rename_i hbad;cases d;refine⟨true,by simp,?_⟩;simp only[alF,false_iff];exact fun h=>hbad (h x (aiT p))
def ab6 {l:List Int} (s:l.length<=100) {a:Nat} (g:a<=2000):∃b,cd l (a:Int)=some b∧(b=false↔∀p∈l,0<=p∧p<(a:Int)):=by
 unfold cd cZ;rw[oB l (fun i p=>if 0<=p∧p<(a:Int) then none else some (i:Int)) (by omega) (fun i x e =>?_) (by simp only[dC];rw[if_neg (by simp)])];rotate_left
 ·have k:=bh e;obtain⟨b,m,c⟩:=aeh x g;simp only[dC];rw[if_pos (by simpa using k),bm e,aj5,m,aj5,bC (by omega)];cases b with
  | false=>rw[if_pos (c.1 rfl)];rfl
  | true =>
   simp only[alF,false_iff]at c;simp only[if_true];rw[if_neg c]
 cases f:dL (fun (i:Nat) (p:Int)=>if 0<=p∧p<(a:Int) then none else some (i:Int)) 0 l with
 | none =>
  refine⟨false,rfl,?_⟩;simp only[true_iff];intro u n;obtain⟨j,o⟩:=aiN n;have:=cG.1 f j u o;split at this
  ·assumption
  ·cases this
 | some q =>
  obtain⟨j,x,r,d,_⟩:=da f;split at d
  ·cases d
  ·rename_i hbad;cases d;refine⟨true,by simp,?_⟩;simp only[alF,false_iff];exact fun h=>hbad (h x (aiT r))
def ab7 {m:ck} {ports:Nat} (c:ports<=2000) (a:rq m.ay) (A:m.a8.length<=6) (j:m.aC.length<=6):∃b,uq m (ports:Int)=some b∧(b=true↔yT m ports):=by
 have B:=a.srcs;have C:=a.outs;obtain⟨k,n,d⟩:=MI a;unfold uq;rw[n,aj5];cases k with
 | false=>exact⟨false,rfl,by simp only[ai1,false_iff];exact fun h=>by have:=d.2 h.flow;cases this⟩
 | true =>
 have o:=d.1 rfl;have p:=alr (fun x:jQ=>x.bG==1) m.ay.aq;have q:=alr (fun x:D1=>x.bG==0) m.ay.aO;obtain⟨r,s,e⟩:=GD (l:=(m.ay.aq.filter fun x=>x.bG==1).map (·.aY)) (by rw[aiV];omega) m.a8.length;obtain⟨t,u,f⟩:=GD (l:=(m.ay.aO.filter fun x=>x.bG==0).map (·.aY)) (by rw[aiV];omega) m.aC.length;obtain⟨v,w,g⟩:=acx (l:=m.a8) (by omega) c;obtain⟨y,z,i⟩:=ab6 (l:=m.aC) (by omega) c;simp only[ajW,ai1,if_false];rw[RD (by omega),aj5,Pk (by omega),aj5,s,aj5];cases r with
 | false=>exact⟨false,rfl,by simp only[ai1,false_iff];exact fun h=>by have:=e.2 h.takes;cases this⟩
 | true =>
 simp only[if_true];rw[u,aj5];cases t with
 | false=>exact⟨false,rfl,by simp only[ai1,false_iff];exact fun h=>by have:=f.2 h.gives;cases this⟩
 | true =>
 simp only[if_true];rw[w,aj5];cases v with
 | true=>exact⟨false,rfl,by simp only[ai1,false_iff];exact fun h=>by have:=g.2 h.uses;cases this⟩
 | false =>
 simp only[alf,if_true];rw[z,aj5];refine⟨_,rfl,?_⟩;cases y with
 | true=>simp only[ajW,ai1,false_iff];exact fun h=>by have:=i.2 h.ports;cases this
 | false=>simp only[alf,true_iff];exact⟨o,e.1 rfl,f.1 rfl,g.1 rfl,i.1 rfl⟩
def aej {l:List al} (g:l.length<=8):(aS (eO l) 0=some (.inl ())∧∀x∈l,x.bK.aa.length<=4∧x.bL.aa.length<=4)∨aS (eO l) 0=some (.inr false):=by
 have b:=oB l (body:=eO l) (fun (i:Nat) (x:al)=>if (x.bK.aa.length:Int)<=4∧(x.bL.aa.length:Int)<=4 then none else some false) (by omega) (fun i x a=>by
  have e:=bh a;simp only[eO];rw[if_pos (by simpa using e),bm a,aj5,aei,aj5,bC (by omega)]
  by_cases h:(x.bK.aa.length:Int)<=4∧(x.bL.aa.length:Int)<=4
  ·rw[ea h,if_neg (by simp),if_pos h]
  ·rw[eb h,if_pos (by simp),if_neg h]) (by simp only[eO];rw[if_neg (by simp)])
 rw[b];cases d:dL (fun (i:Nat) (x:al)=>if (x.bK.aa.length:Int)<=4∧(x.bL.aa.length:Int)<=4 then none else some false) 0 l with
 | none =>
  refine .inl ⟨rfl,fun x a =>?_⟩;obtain⟨j,f⟩:=aiN a;have:=cG.1 d j x f;split at this
  ·omega
  ·cases this
 | some q =>
  obtain⟨j,x,_,c,_⟩:=da d;split at c
  ·cases c
  ·cases c;exact .inr rfl
def W0 (f:gN):∃b,k9 f=some b∧(b=true->rq f):=by
 unfold k9
 by_cases o:f.aq.length<=5
 rotate_left
 ·exact⟨false,by rw[if_pos (by simp;omega)];rfl,fun h=>by cases h⟩
 by_cases e:f.aO.length<=5
 rotate_left
 ·exact⟨false,by rw[if_neg (by simp;omega),if_pos (by simp;omega)];rfl,fun h=>by cases h⟩
 by_cases p:f.aL.length<=8
 rotate_left
 ·exact⟨false,by rw[if_neg (by simp;omega),if_neg (by simp;omega),ea (by omega)];rfl,fun h=>by cases h⟩
 rw[if_neg (by simp;omega),if_neg (by simp;omega),eb (by omega),aj5,if_neg (by simp)]
 open Classical in
 rw[oB f.aL (fun i l=>if l.length<=8∧∀x∈l,x.bK.aa.length<=4∧x.bL.aa.length<=4 then none else some false) (by omega) (fun i l d =>?_) (by simp only[oh];rw[if_neg (by simp)])];rotate_left
 ·have k:=bh d;simp only[oh];rw[if_pos (by simpa using k),bm d,aj5,bC (by omega)]
  by_cases h:l.length<=8
  ·rw[if_neg (by simp;omega)];rcases aej h with⟨g,r⟩|g
   ·rw[g,if_pos ⟨h,r⟩];rfl
   ·rw[g]
    by_cases hs:∀x∈l,x.bK.aa.length<=4∧x.bL.aa.length<=4
    ·exfalso;have c:=oB l (body:=eO l) (fun (i:Nat) (x:al)=>(none:Option Bool)) (by omega) (fun i x d=>by
      have k:=bh d;have:=hs x (aiT d);simp only[eO];rw[if_pos (by simpa using k),bm d,aj5,aei,aj5,bC (by omega),ea (by omega),if_neg (by simp)]) (by simp only[eO];rw[if_neg (by simp)])
     rw[g]at c;have m:∀(l:List al) i,dL (fun _ _=>(none:Option Bool)) i l=none:=by
      intro l
      induction l with
      | nil=>intro i;rfl
      | cons a l s=>intro i;simp only[dL];exact s _
     rw[m]at c;cases c
    ·rw[if_neg (fun h=>hs h.2)];rfl
  ·rw[if_pos (by simp;omega),if_neg (fun t=>h t.1)]
 rw[aj5];cases n:dL (fun (i:Nat) (l:List al)=>if l.length<=8∧∀x∈l,x.bK.aa.length<=4∧x.bL.aa.length<=4 then none else some false) 0 f.aL with
 | none =>
  refine⟨true,rfl,fun _=>⟨o,e,p,fun l u =>?_⟩⟩;obtain⟨j,v⟩:=aiN u;have:=cG.1 n j l v;split at this
  ·assumption
  ·cases this
 | some q =>
  obtain⟨j,x,_,e,_⟩:=da n;split at e
  ·cases e
  ·cases e;exact⟨false,rfl,fun h=>by cases h⟩
structure HV (w:ct):Prop where
 given:w.av.length<=6
 mills:w.aD.length<=5
 mill:∀m∈w.aD,rq m.ay∧m.a8.length<=6∧m.aC.length<=6
def ZK (w:ct):∃b,yG w=some b∧(b=true->HV w):=by
 unfold yG
 by_cases f:w.av.length<=6
 rotate_left
 ·exact⟨false,by rw[if_pos (by simp;omega)];rfl,fun h=>by cases h⟩
 by_cases a:w.aD.length<=5
 rotate_left
 ·exact⟨false,by rw[if_neg (by simp;omega),ea (by omega)];rfl,fun h=>by cases h⟩
 rw[if_neg (by simp;omega),eb (by omega),aj5,if_neg (by simp)];have c:∀m:ck,∃b,k9 m.ay=some b∧(b=true->rq m.ay):=fun m=>W0 m.ay;obtain⟨B,c⟩:=Classical.axiomOfChoice c;rw[oB w.aD (fun i m=>if B m=true∧m.a8.length<=6∧m.aC.length<=6 then none else some false) (by omega) (fun i m d =>?_) (by simp only[vH];rw[if_neg (by simp)])];rotate_left
 ·have g:=bh d;simp only[vH];rw[if_pos (by simpa using g),bm d,aj5,(c m).1,aj5,bC (by omega)];cases n:B m with
  | false=>rfl
  | true =>
   simp only[ajW,ai1,if_false,true_and]
   by_cases q1:m.a8.length<=6
   ·rw[if_neg (by simp;omega)]
    by_cases q2:m.aC.length<=6
    ·rw[if_neg (by simp;omega),if_pos ⟨q1,q2⟩]
    ·rw[if_pos (by simp;omega),if_neg (fun h=>q2 h.2)]
   ·rw[if_pos (by simp;omega),if_neg (fun h=>q1 h.1)]
 rw[aj5];cases e:dL (fun (i:Nat) (m:ck)=>if B m=true∧m.a8.length<=6∧m.aC.length<=6 then none else some false) 0 w.aD with
 | none =>
  refine⟨true,rfl,fun _=>⟨f,a,fun m k =>?_⟩⟩;obtain⟨j,l⟩:=aiN k;have:=cG.1 e j m l;split at this
  ·rename_i h;exact⟨(c m).2 h.1,h.2⟩
  ·cases this
 | some q =>
  obtain⟨j,x,_,a,_⟩:=da e;split at a
  ·cases a
  ·cases a;exact⟨false,rfl,fun h=>by cases h⟩
def ab2 (w:ct):Option (Int×Int):=dL (fun (i:Nat) (n:Int)=>if 1<=n∧n<=1099511627776 then none else some ((3:Int),(i:Int))) 0 w.av
def S4 {w:ct} (h:w.av.length<=2000):aS (lz w) 0=some (match ab2 w with|none =>.inl ()|some r =>.inr r):=by
 refine Eq.trans (oB w.av (body:=lz w) (fun (i:Nat) (n:Int)=>if 1<=n∧n<=1099511627776 then none else some ((3:Int),(i:Int))) (by omega) (fun i x a =>?_) ?_) ?_
 ·have b:=bh a;simp only[lz];rw[if_pos (by simpa using b),bm a,aj5,kp,aj5,bC (by omega)]
  by_cases h:1<=x∧x<=1099511627776
  ·rw[ea h,if_neg (by simp),if_pos h]
  ·rw[eb h,if_pos (by simp),if_neg h]
 ·simp only[lz];rw[if_neg (by simp)]
 ·unfold ab2;cases dL (fun (i:Nat) (n:Int)=>if 1<=n∧n<=1099511627776 then none else some ((3:Int),(i:Int))) 0 w.av<;>rfl
def TW {m:ck} {N:Nat} (v:N<=2000) (w:m.aC.length<=6) (g:∀p∈m.aC,0<=p∧p<(N:Int)) (t:Nat->Int) (n:∀q,q<N->0<=t q∧t q<=1000000) :
  aS (lA m) ((0:Int),(range N).map t)=some ((range N).map fun q=>t q+(m.aC.count (q:Int):Int)):=by
 have key:=fun b a=>vf (body:=lA m) m.aC (by omega) (fun i (l:List Int)=>l=(range N).map fun q=>t q+((m.aC.take i).count (q:Int):Int)) (fun l=>l=(range N).map fun q=>t q+(m.aC.count (q:Int):Int)) (s0:=(range N).map t)
  (aj0 fun q _=>by simp) b a
 refine (key ?_ ?_).elim fun x ⟨e,hx⟩=>hx ▸ e
 ·rintro i p _ hx rfl;have o:=bh hx;obtain⟨e,y⟩:=g p (aiT hx);obtain⟨k,rfl⟩:∃k:Nat,p=k:=⟨p.toNat,by omega⟩;have f:k<N:=by omega
  have r:∀q:Nat,(m.aC.take i).count (q:Int)<=6:=fun q=>ait (List.count_le_length ..) (by rw[aiK];omega);have s:=r k;have c:m.aC.take (i+1)=m.aC.take i++[(k:Int)]:=by
   obtain⟨d,u⟩:=aiU.1 hx;rw[alo d,u]
  have z:=n k f;refine⟨_,?_,rfl⟩;simp only[lA];rw[if_pos (by simpa using o),bm hx,aj5,bm (cq _ f),aj5,ajs,iP,bC (by omega),iH (by omega),c];have:(fun j=>if j=k then t k+((m.aC.take i).count (k:Int):Int)+1 else t j+((m.aC.take i).count (j:Int):Int))=fun q=>t q+((m.aC.take i++[(k:Int)]).count (q:Int):Int):=funext fun q=>by
   rw[List.count_append]
   by_cases hq:q=k
   ·subst hq;rw[if_pos rfl];simp;omega
   ·rw[if_neg hq,List.count_cons_of_ne (by simpa using fun h=>hq (by omega))];simp
  rw[this]
 ·rintro _ rfl;refine⟨_,?_,rfl⟩;simp only[lA];rw[if_neg (by simp),akD]
def Iz (q:Nat) (x:Int) (u:ic):Int:=if u.cm=(q:Int) then (if 1099511627777<x+u.aT then 1099511627777 else x+u.aT) else x
def nB (q:Nat) (l:List ic) (x:Int):Int:=l.foldl (Iz q) x
def HO {q:Nat} {x:Int} {u:ic} (a:0<=x∧x<=1099511627777) (b:1<=u.aT∧u.aT<=1099511627776):0<=Iz q x u∧Iz q x u<=1099511627777:=by
 unfold Iz
 repeat' split
 all_goals omega
def tx {q:Nat} : ∀ {l:List ic} {x:Int},(0<=x∧x<=1099511627777)->(∀u∈l,1<=u.aT∧u.aT<=1099511627776)->0<=nB q l x∧nB q l x<=1099511627777
 | [],_,hx,_=>hx
 | u::l,x,hx,h=>tx (l:=l) (x:=Iz q x u) (HO hx (h u (aj2 ..))) fun v a=>h v (aj3 _ a)
def X1 {m:ck} {N:Nat} (w:N<=2000) (y:m.a8.length<=6) (f:∀u∈m.a8,(0<=u.cm∧u.cm<(N:Int))∧1<=u.aT∧u.aT<=1099511627776) (t:Nat->Int) (o:∀q,q<N->0<=t q∧t q<=1099511627777) :
  aS (lB m) ((0:Int),(range N).map t)=some ((range N).map fun q=>nB q m.a8 (t q)):=by
 have key:=fun c b=>vf (body:=lB m) m.a8 (by omega) (fun i (l:List Int)=>l=(range N).map fun q=>nB q (m.a8.take i) (t q)) (fun l=>l=(range N).map fun q=>nB q m.a8 (t q)) (s0:=(range N).map t)
  (aj0 fun q _=>by simp[nB]) c b
 refine (key ?_ ?_).elim fun x ⟨g,hx⟩=>hx ▸ g
 ·rintro i u _ hx rfl;have p:=bh hx;obtain⟨⟨g,z⟩,A⟩:=f u (aiT hx);obtain⟨k,a⟩:∃k:Nat,u.cm=k:=⟨u.cm.toNat,by omega⟩;have h:k<N:=by omega
  have d:m.a8.take (i+1)=m.a8.take i++[u]:=by
   obtain⟨e,r⟩:=aiU.1 hx;rw[alo e,r]
  have B:=tx (q:=k) (l:=m.a8.take i) (o k h) fun v s=>(f v (ajb s)).2;refine⟨_,?_,rfl⟩;simp only[lB];rw[if_pos (by simpa using p),bm hx,aj5,a,bm (cq _ h),aj5,ajs,iP,bC (by omega),iH (by omega),d];have:(fun j=>if j=k then (if 1099511627777<nB k (m.a8.take i) (t k)+u.aT then 1099511627777 else nB k (m.a8.take i) (t k)+u.aT) else nB j (m.a8.take i) (t j))=fun q=>nB q (m.a8.take i++[u]) (t q):=funext fun q=>by
   unfold nB;rw[alG];simp only[List.foldl_cons,List.foldl_nil]
   by_cases n:q=k
   ·subst n;rw[if_pos rfl]
    conv=>rhs;rw[Iz]
    rw[if_pos a]
   ·rw[if_neg n]
    conv=>rhs;rw[Iz]
    rw[if_neg (by rw[a];omega)]
  rw[this]
 ·rintro _ rfl;refine⟨_,?_,rfl⟩;simp only[lB];rw[if_neg (by simp),akD]
def JL {α ρ:Type} {st:Nat->α->Option ρ} {r:ρ} : ∀ {l:List α} {k i:Nat} {x:α},l[i]? = some x->st (k+i) x=some r->(∀j y,j<i->l[j]? = some y->st (k+j) y=none)->dL st k l=some r
 | [],_,_,_,h,_,_=>by simp at h
 | a::l,k,0,x,h,hs,_=>by
  simp only[List.getElem?_cons_zero,aiA]at h;subst h;rw[ai0]at hs;simp only[dL,hs]
 | a::l,k,i+1,x,h,hs,b=>by
  have c:=b 0 a (by omega) rfl;rw[ai0]at c;simp only[dL,c];refine JL (k:=k+1) (i:=i) (x:=x) (by simpa using h) (by rw[<- hs];congr 1;omega) fun j y e d =>?_;have:=b (j+1) y (by omega) (by simpa using d);rw[<- this];congr 1;omega
open Classical in
def SG (N:Nat) (a:List ck):Option (Int×Int):=dL (fun (i:Nat) (m:ck)=>if yT m N then none else some ((1:Int),(i:Int))) 0 a
def TY (a:List ck) (q:Nat):Int:=a.foldl (fun x m=>x+(m.aC.count (q:Int):Int)) 0
def RZ (a:List ck) (q:Nat):Int:=a.foldl (fun x m=>nB q m.a8 x) 0
def Tc {w:ct} (o:HV w) :
  (∃r,SG w.av.length w.aD=some r∧aS (jU w) ((0:Int),replicate w.av.length 0,replicate w.av.length 0)=some (.inr r)) ∨
  (SG w.av.length w.aD=none∧(∀m∈w.aD,yT m w.av.length)∧aS (jU w) ((0:Int),replicate w.av.length 0,replicate w.av.length 0)=some (.inl ((range w.av.length).map (TY w.aD),(range w.av.length).map (RZ w.aD)))):=by
 have J:=o.given;have v:=o.mills;have g:replicate w.av.length (0:Int)=(range w.av.length).map fun _=>0:=iu (by simp) fun j p=>by rw[alx,if_pos p]
 obtain⟨q,z,E⟩:=cO (body:=jU w)
  (fun i st=>st=((i:Int),(range w.av.length).map (TY (w.aD.take i)),(range w.av.length).map (RZ (w.aD.take i)))∧(∀m∈w.aD.take i,yT m w.av.length)∧∀q,(0<=TY (w.aD.take i) q∧TY (w.aD.take i) q<=6*i)∧0<=RZ (w.aD.take i) q∧RZ (w.aD.take i) q<=1099511627777) w.aD.length
  (fun q=>(∃r,SG w.av.length w.aD=some r∧q=.inr r)∨(SG w.av.length w.aD=none∧(∀m∈w.aD,yT m w.av.length)∧q=.inl ((range w.av.length).map (TY w.aD),(range w.av.length).map (RZ w.aD))))
  (s:=((0:Int),replicate w.av.length 0,replicate w.av.length 0)) ⟨by rw[g];rfl,fun m v=>by simp at v,fun q=>by simp[TY,RZ]⟩ (jz (by omega)) (by
   rintro i _ K ⟨rfl,a,k⟩
   by_cases c:i<w.aD.length
   ·have d:w.aD[i]? = some w.aD[i]:=aiE c;have e:w.aD.take (i+1)=w.aD.take i++[w.aD[i]]:=alo c;generalize w.aD[i]=m at d e;obtain⟨F,A,t⟩:=o.mill m (aiT d);obtain⟨b,G,B⟩:=ab7 (m:=m) (ports:=w.av.length) (by omega) F A t;simp only[jU];rw[if_pos (by simpa using c),bm d,aj5,G,aj5];cases b with
    | false =>
     right;refine⟨_,rfl,.inl ⟨_,?_,rfl⟩⟩;unfold SG;refine JL (i:=i) (x:=m) d ?_ fun j y p f =>?_
     ·rw[if_neg (fun h=>by have:=B.2 h;cases this),ajf]
     ·rw[if_pos (a y (aiT (i:=j) (by rw[List.getElem?_take_of_lt p];exact f)))]
    | true =>
     have l:=B.1 rfl;left;refine⟨c,?_⟩;have C:∀q,TY (w.aD.take (i+1)) q=TY (w.aD.take i) q+(m.aC.count (q:Int):Int):=fun q=>by rw[e];unfold TY;rw[alG];rfl
     have D:∀q,RZ (w.aD.take (i+1)) q=nB q m.a8 (RZ (w.aD.take i) q):=fun q=>by rw[e];unfold RZ;rw[alG];rfl
     simp only[ajW,ai1,if_false];rw[TW (by omega) t l.ports _ (fun q _=>by have:=(k q).1;omega),aj5,X1 (by omega) A l.uses _ (fun q _=>(k q).2),aj5,bC (by omega)];refine⟨_,rfl,?_,fun y f =>?_,fun q =>?_⟩
     ·rw[show TY (w.aD.take (i+1))=fun q=>TY (w.aD.take i) q+(m.aC.count (q:Int):Int) from funext C,show RZ (w.aD.take (i+1))=fun q=>nB q m.a8 (RZ (w.aD.take i) q) from funext D]
     ·rw[e]at f;rcases ajI.1 f with h|h
      ·exact a y h
      ·rw[aiO.1 h];exact l
     ·have L:m.aC.count (q:Int)<=6:=ait (List.count_le_length ..) t;have n:=(k q).1;rw[C,D];exact⟨by omega,tx (k q).2 fun u H=>(l.uses u H).2⟩
   ·right;have:i=w.aD.length:=by omega
    subst this;rw[akD]at a ⊢;refine⟨_,by simp only[jU];rw[if_neg (by simp)],.inr ⟨?_,a,rfl⟩⟩;unfold SG;refine cG.2 fun j y f =>?_;rw[if_pos (a y (aiT f))])
 rcases E with⟨r,n,rfl⟩|⟨n,I,rfl⟩
 ·exact .inl ⟨r,n,z⟩
 ·exact .inr ⟨n,I,z⟩
def ab3 (l:List Int):Option (Int×Int):=dL (fun (i:Nat) (x:Int)=>if x=0 then some ((21:Int),(i:Int)) else if 1<x then some (5,(i:Int)) else none) 0 l
def ab4 (w:ct) (l:List Int):Option (Int×Int):=dL (fun (i:Nat) (x:Int)=>if w.av.getD i 0<x then some ((25:Int),(i:Int)) else none) 0 l
def TX {l:List Int} (h:l.length<=2000):aS (lC l) 0=some (match ab3 l with|none =>.inl ()|some r =>.inr r):=by
 refine Eq.trans (oB l (body:=lC l) (fun (i:Nat) (x:Int)=>if x=0 then some ((21:Int),(i:Int)) else if 1<x then some (5,(i:Int)) else none) (by omega) (fun i x c =>?_) ?_) ?_
 ·have d:=bh c;simp only[lC];rw[if_pos (by simpa using d),bm c,aj5,bC (by omega)]
  by_cases a:x=0
  ·rw[if_pos (by simpa using a),if_pos a]
  ·rw[if_neg (by simpa using a),if_neg a]
   by_cases b:1<x
   ·rw[if_pos (by simpa using b),if_pos b]
   ·rw[if_neg (by simpa using b),if_neg b]
 ·simp only[lC];rw[if_neg (by simp)]
 ·unfold ab3;cases dL (fun (i:Nat) (x:Int)=>if x=0 then some ((21:Int),(i:Int)) else if 1<x then some (5,(i:Int)) else none) 0 l<;>rfl
def X2 {w:ct} {l:List Int} (h:l.length<=2000) (e:l.length=w.av.length):aS (lD w l) 0=some (match ab4 w l with|none =>.inl ()|some r =>.inr r):=by
 refine Eq.trans (oB l (body:=lD w l) (fun (i:Nat) (x:Int)=>if w.av.getD i 0<x then some ((25:Int),(i:Int)) else none) (by omega) (fun i x b =>?_) ?_) ?_
 ·have c:=bh b;have d:w.av[i]? = some (w.av.getD i 0):=by rw[ai4,aiE (by omega)];rfl
  simp only[lD];rw[if_pos (by simpa using c),bm b,aj5,bm d,aj5,bC (by omega)]
  by_cases a:w.av.getD i 0<x
  ·rw[if_pos (ea a),if_pos a]
  ·rw[if_neg (by rw[decide_eq_true_eq];exact a),if_neg a]
 ·simp only[lD];rw[if_neg (by simp)]
 ·unfold ab4;cases dL (fun (i:Nat) (x:Int)=>if w.av.getD i 0<x then some ((25:Int),(i:Int)) else none) 0 l<;>rfl
def LR (w:ct):Option (Int×Int):=(((ab2 w).or (SG w.av.length w.aD)).or (ab3 ((range w.av.length).map (TY w.aD)))).or (ab4 w ((range w.av.length).map (RZ w.aD)))
def YX {w:ct} (a:HV w):q9 w=some ((LR w).getD (0,0)):=by
 have d:=a.given;have e:=a.mills;unfold q9 LR;rw[if_neg (by simp;omega),eb (by omega),aj5,if_neg (by simp),S4 (by omega),aj5];cases ab2 w with
 | some r=>rfl
 | none =>
 simp only[Option.none_or];rw[Gu _ (by omega) (by omega),aj5];rcases Tc a with⟨r,b,c⟩|⟨b,_,c⟩
 ·rw[c,b];rfl
 rw[c,b,aj5];simp only[Option.none_or];rw[TX (by simp;omega),aj5];cases ab3 ((range w.av.length).map (TY w.aD)) with
 | some r=>rfl
 | none =>
 simp only[Option.none_or];rw[X2 (by simp;omega) (by simp),aj5];cases ab4 w ((range w.av.length).map (RZ w.aD))<;>rfl
section
variable {κ α:Type} [DecidableEq κ]
def rW {n:κ} : ∀ {m:List (κ×α)},nS m n=true↔n∈m.map (·.1)
 | []=>by simp[nS]
 | (k,v)::m=>by
  simp only[nS,aix,aiy]
  by_cases h:k=n
  ·subst h;simp
  ·have:=rW (n:=n) (m:=m);simp[h,this,Ne.symm h]
def CD {n:κ} {x:α} : ∀ {m:List (κ×α)},(sj m n x).map (·.1)=if nS m n=true then m.map (·.1) else m.map (·.1)++[n]
 | []=>by simp[sj,nS]
 | (k,v)::m=>by
  have a:=CD (n:=n) (x:=x) (m:=m);simp only[sj,nS]
  by_cases h:k=n
  ·subst h;simp
  ·simp only[if_neg h,aix];rw[a];split<;>simp_all
def Tt {n:κ} {x:α} {m:List (κ×α)} (h:(m.map (·.1)).Nodup):((sj m n x).map (·.1)).Nodup:=by
 rw[CD];split
 ·exact h
 ·rename_i hn;have hn:n∉m.map (·.1):=fun c=>hn (rW.2 c);rw[List.nodup_append];exact⟨h,by simp,fun a d b f=>by
   rw[aiO.1 f];intro e;subst e;exact hn d⟩
def KB {z x:α} {n k:κ} : ∀ {m:List (κ×α)},fS z (sj m n x) k=if k=n then x else fS z m k
 | []=>by
  simp only[sj,fS]
  by_cases h:n=k
  ·rw[if_pos h,if_pos h.symm]
  ·rw[if_neg h,if_neg (fun e=>h e.symm)]
 | (a,v)::m=>by
  have b:=KB (z:=z) (x:=x) (n:=n) (k:=k) (m:=m);simp only[sj]
  by_cases h:a=n
  ·rw[if_pos h];simp only[fS]
   by_cases hk:a=k
   ·rw[if_pos hk,if_pos (by rw[<- hk,h])]
   ·rw[if_neg hk,if_neg (fun e=>hk (by rw[e,h])),if_neg hk]
  ·rw[if_neg h];simp only[fS]
   by_cases hk:a=k
   ·rw[if_pos hk,if_neg (fun e=>h (by rw[hk,e])),if_pos hk]
   ·rw[if_neg hk,b,if_neg hk]
def PU {z:α} {k:κ} {v:α} : ∀ {m:List (κ×α)},(m.map (·.1)).Nodup->((k,v)∈m↔nS m k=true∧fS z m k=v)
 | [],_=>by simp[nS]
 | (a,x)::m,h=>by
  rw[aix,akb]at h;have c:=PU (z:=z) (k:=k) (v:=v) (m:=m) h.2;simp only[nS,fS,aiy,Prod.mk.injEq]
  by_cases b:a=k
  ·subst b;have d:(a,v)∉m:=fun e=>h.1 (aiq.2 ⟨_,e,rfl⟩);simp[d,eq_comm]
  ·simp[b,c,Ne.symm b]
end
abbrev MQ:=List ((Int×Int)×Rat)
def kz (m:MQ):List ((Int×Int)×al):=m.map fun p=>(p.1,cj p.2)
def Gm (m:MQ):(kz m).length=m.length:=aiV ..
def Xr (m:MQ):(kz m).map (·.1)=m.map (·.1):=by unfold kz;rw[alq];rfl
def PY (m:MQ) (k:Int×Int):nS (kz m) k=nS m k:=by
 induction m with
 | nil=>rfl
 | cons p m b =>
  obtain⟨a,v⟩:=p;rw[show kz ((a,v)::m)=(a,cj v)::kz m from rfl];simp only[nS,b]
def Xs {z:al} {m:MQ} {k:Int×Int} (h:nS m k=true):fS z (kz m) k=cj (fS 0 m k):=by
 induction m with
 | nil=>cases h
 | cons p m c =>
  obtain⟨a,v⟩:=p;show (if a=k then cj v else fS z (kz m) k)=cj (if a=k then v else fS 0 m k)
  by_cases b:a=k
  ·rw[if_pos b,if_pos b]
  ·rw[if_neg b,if_neg b];exact c (by simpa [nS,b] using h)
def PZ (m:MQ) (k:Int×Int) (q:Rat):sj (kz m) k (cj q)=kz (sj m k q):=by
 induction m with
 | nil=>rfl
 | cons p m c =>
  obtain⟨a,v⟩:=p;show (if a=k then (a,cj q)::kz m else (a,cj v)::sj (kz m) k (cj q))=kz (if a=k then (a,q)::m else (a,v)::sj m k q)
  by_cases b:a=k
  ·rw[if_pos b,if_pos b];rfl
  ·rw[if_neg b,if_neg b,c];rfl
def ack {m:MQ} {k:Int×Int} (h:nS m k=false):fS 0 m k=0:=by
 induction m with
 | nil=>rfl
 | cons p m b =>
  obtain⟨a,v⟩:=p;simp only[nS,Bool.or_eq_false_iff,beq_eq_false_iff_ne]at h;simp only[fS];rw[if_neg h.1,b h.2]
def kQ (m:MQ) (c:(Int×Int)×Rat):MQ:=sj m c.1 (fS 0 m c.1+c.2)
def Wy (m:MQ) (c:(Int×Int)×Rat) (k:Int×Int):fS 0 (kQ m c) k=fS 0 m k+(if k=c.1 then c.2 else 0):=by
 unfold kQ;rw[KB]
 by_cases h:k=c.1
 ·rw[if_pos h,if_pos h,h]
 ·rw[if_neg h,if_neg h];grind
def pX (k:Int×Int):List ((Int×Int)×Rat)->Rat
 | []=>0
 | c::l=>(if k=c.1 then c.2 else 0)+pX k l
def BZ:∀(l:List ((Int×Int)×Rat)) (m:MQ) (k:Int×Int),fS 0 (l.foldl kQ m) k=fS 0 m k+pX k l
 | [],m,k=>by simp only[List.foldl_nil,pX];grind
 | c::l,m,k=>by
  rw[aje,BZ l,Wy];simp only[pX];grind
def zD:∀(l:List ((Int×Int)×Rat)) (m:MQ),(m.map (·.1)).Nodup->((l.foldl kQ m).map (·.1)).Nodup
 | [],_,h=>h
 | c::l,m,h=>zD l (kQ m c) (Tt h)
def ahA {p q:Int} (a : -9223372036854775808<=p∧p<9223372036854775808) (b : -9223372036854775808<=q∧q<9223372036854775808) (c:q≠0):yA p q=some (cj (Rat.divInt p q),0):=by
 unfold yA;rw[Up a,aj5,Up b,aj5,Lq (Lp a) (Lp b) c,aj5]
open Classical in
def aeI (f:al):Rat:=if h:∃q,f=cj q then Classical.choose h else 0
def MH (q:Rat):aeI (cj q)=q:=by
 have h:∃p,cj q=cj p:=⟨q,rfl⟩;unfold aeI;rw[dif_pos h];exact (Bd (Classical.choose_spec h)).symm
def KP (f:gN) (k i:Nat):Rat:=aeI ((f.aL.getD k []).getD i (al.mk (aF.mk 0 ([])) (aF.mk 0 ([]))))
def xO {f:gN} (p:rq f) (h:Ez f) {k i:Nat} (r:k<f.aO.length) (s:i<f.aq.length) :
  ∃a,f.aL[k]? = some a∧a[i]? = some (cj (KP f k i))∧0<=KP f k i∧LF (KP f k i)<=4:=by
 have d:k<f.aL.length:=by rw[h.rows];exact r
 have g:f.aL[k]? = some (f.aL[k]):=aiE d;have j:=aiD d;have t:f.aL.getD k []=f.aL[k]:=by rw[ai4,g];rfl
 have u:=h.row _ j;have o:=(p.row _ j).2;unfold KP;rw[t];have b:(AJ f i)[k]? = some ((f.aL[k][i]?).getD (al.mk (aF.mk 0 ([])) (aF.mk 0 ([])))):=by
  unfold AJ;rw[aio,g];rfl
 generalize f.aL[k]=a at g j u o b ⊢;have c:a[i]? = some (a[i]'(by omega)):=aiE _;have l:=o _ (aiT c);have m:a.getD i (al.mk (aF.mk 0 ([])) (aF.mk 0 ([])))=a[i]'(by omega):=by rw[ai4,c];rfl
 rw[c]at b;rw[m];obtain⟨x,v,w,_⟩:=h.col i s;rw[v]at b;rw[aio]at b;obtain⟨q,n,e⟩:=aip.1 b;simp only[Option.getD_some]at e;rw[<- e]at c l ⊢;refine⟨a,g,?_,?_,?_⟩
 ·rw[MH];exact c
 ·rw[MH];exact w q (aiT n)
 ·rw[MH];exact yk l.1 l.2
def XJ {f:gN} (m:rq f) (b:Ez f) {i:Nat} (e:i<f.aq.length):nE ((range f.aO.length).map fun k=>KP f k i)=1:=by
 obtain⟨g,h,_,n⟩:=b.col i e;have:g=(range f.aO.length).map fun k=>KP f k i:=by
  have a:g.length=f.aO.length:=by
   have:=congrArg List.length h;unfold AJ at this;simp only[aiV]at this;rw[<- b.rows];exact this.symm
  refine iu a fun j o =>?_;obtain⟨p,r,s,_,_⟩:=xO m b o e;have l:(AJ f i)[j]? = some (cj (KP f j i)):=by
   unfold AJ;rw[aio,r,aiz,s];rfl
  rw[h,aio]at l;obtain⟨q,c,d⟩:=aip.1 l;rw[c,Bd d]
 rw[<- this];exact n
abbrev CX:=(Int×Int)×Rat
def yV (m:ck) (i:Nat) (u:ic) (r:Rat) (k:Nat):List CX :=
 match m.ay.aO[k]? with
 | some y=>if y.bG=0∧KP m.ay k i≠0 then [((u.cm,m.aC.getD y.aY.toNat 0),r*KP m.ay k i)] else []
 | none=>[]
def WG (g:List Int) (u:ic):Rat:=Rat.divInt u.aT (g.getD u.cm.toNat 0)
def sJ (m:ck) (n:Int):ic:=m.a8.getD n.toNat (ic.mk 0 0)
def D2 (g:List Int) (m:ck) (i:Nat):List CX :=
 match m.ay.aq[i]? with
 | some x=>if x.bG=1 then (range m.ay.aO.length).flatMap (yV m i (sJ m x.aY) (WG g (sJ m x.aY))) else []
 | none=>[]
def oA (g:List Int) (m:ck):List CX:=(range m.ay.aq.length).flatMap (D2 g m)
def qE (w:ct):List CX:=w.aD.flatMap (oA w.av)
def Um:LF 0<=1:=BM (n:=0) (by decide)
def Lo {K:Nat} {k:Int×Int} : ∀ {l:List CX},(∀c∈l,LF c.2<=K)->LF (pX k l)<=1+l.length*(K+1)
 | [],_=>by simp only[pX];have:=Um;simp;omega
 | c::l,h=>by
  have e:=Lo (k:=k) (l:=l) fun x b=>h x (aj3 _ b);have f:=h c (aj2 ..);simp only[pX,List.length_cons];have d:=wJ (if k=c.1 then c.2 else 0) (pX k l);have g:LF (if k=c.1 then c.2 else 0)<=max K 1:=by
   split
   ·omega
   ·have:=Um;omega
  have i:=wJ 0 (pX k l);rw[ajp]
  by_cases a:k=c.1
  ·rw[if_pos a]at d ⊢;omega
  ·rw[if_neg a,show (0:Rat)+pX k l=pX k l by grind];omega
def acB {z:al} {M:MQ} {k:Int×Int} {v:Rat} {K:Nat} (h:LF (fS 0 M k)<=K) (c:LF v<=K) (d:K<=1000000000) :
  (nS (kz M) k=true->qK (fS z (kz M) k) (cj v)=some (cj (fS 0 M k+v))∧sj (kz M) k (cj (fS 0 M k+v))=kz (kQ M (k,v)))∧(nS (kz M) k=false->sj (kz M) k (cj v)=kz (kQ M (k,v))):=by
 have b:er=4398046511104:=rfl;constructor
 ·intro a;rw[PY]at a;rw[Xs a,ade (by omega),PZ];exact⟨rfl,rfl⟩
 ·intro a;rw[PY]at a;rw[PZ];unfold kQ;rw[ack a,show (0:Rat)+v=v by grind]
def Pj {m:ck} {N:Nat} (a:yT m N) {y:D1} (b:y∈m.ay.aO) (c:y.bG=0):∃j:Nat,y.aY=j∧j<m.aC.length:=by
 have:y.aY∈BA m.aC.length:=a.gives.mem_iff.1 (aiq.2 ⟨y,aj8.2 ⟨b,by simpa using c⟩,rfl⟩);unfold BA at this;obtain⟨j,d,e⟩:=aiq.1 this;exact⟨j,e.symm,akc.1 d⟩
def abf {m:ck} {N:Nat} (b:yT m N) {x:jQ} (c:x∈m.ay.aq) (a:x.bG=1):∃j:Nat,x.aY=j∧j<m.a8.length:=by
 have:x.aY∈BA m.a8.length:=b.takes.mem_iff.1 (aiq.2 ⟨x,aj8.2 ⟨c,by simpa using a⟩,rfl⟩);unfold BA at this;obtain⟨j,a,d⟩:=aiq.1 this;exact⟨j,d.symm,akc.1 a⟩
structure HW (n:Nat) (h:List CX):Prop where
 len:h.length<=n
 sz:∀c∈h,LF c.2<=20
def HW.look {n:Nat} {h:List CX} (H:HW n h) (k:Int×Int):LF (fS 0 (h.foldl kQ []) k)<=1+n*21:=by
 rw[BZ,show fS 0 ([]:MQ) k=0 from rfl,show (0:Rat)+pX k h=pX k h by grind];have b:=Lo (k:=k) H.sz;have a:=H.len;have c:=ajd 21 a;omega
def HW.app {n a:Nat} {h l:List CX} (H:HW n h) (e:l.length<=a) (b:∀c∈l,LF c.2<=20):HW (n+a) (h++l) :=
 ⟨by rw[ajB];have:=H.len;omega,fun c d=>(ajI.1 d).elim (H.sz c) (b c)⟩
def Ny (m:ck) (i:Nat) (u:ic) (r:Rat) (k:Nat):(yV m i u r k).length<=1:=by
 unfold yV;split
 ·split<;>simp
 ·simp
def pH {α:Type} {f:Nat->List α} {b:Nat} (h:∀i,(f i).length<=b):∀n,((range n).flatMap f).length<=n*b
 | 0=>by simp
 | n+1=>by
  have:=pH h n;have a:=h n;rw[aly,List.flatMap_append,ajB,ajp];simp only[aj1,List.flatMap_nil,akr];omega
def JS {α:Type} {f:Nat->List α} (n:Nat):(range (n+1)).flatMap f=(range n).flatMap f++f n:=by
 rw[aly,List.flatMap_append];simp
def abQ {m:ck} {i:Nat} {u:ic} {r:Rat} {k:Nat} (b:rq m.ay) (d:Ez m.ay) (e:i<m.ay.aq.length) (g:LF r<=10):∀c∈yV m i u r k,LF c.2<=20:=by
 intro c a;unfold yV at a;split at a
 ·rename_i y f;split at a
  ·rw[aiO.1 a];obtain⟨_,_,_,_,h⟩:=xO b d (bh f) e;have:=wK r (KP m.ay k i);simp only;omega
  ·cases a
 ·cases a
def VO {m:ck} {i:Nat} {u:ic} {r:Rat} {n:Nat} (a:rq m.ay) (b:Ez m.ay) (d:i<m.ay.aq.length) (e:LF r<=10):∀c∈(range n).flatMap (yV m i u r),LF c.2<=20:=by
 intro c f;obtain⟨k,_,g⟩:=ajZ.1 f;exact abQ a b d e c g
def XB {m:ck} {N i n:Nat} {u:ic} {r:Rat} {h:List CX} (e:rq m.ay) (f:yT m N) (o:i<m.ay.aq.length) (B:LF r<=10) (H:HW n h) (L:n<=1000) :
  aS (gW m (i:Int) u (cj r,0)) ((0:Int),kz (h.foldl kQ []))=some (kz ((h++(range m.ay.aO.length).flatMap (yV m i u r)).foldl kQ [])):=by
 have C:er=4398046511104:=rfl;have O:=e.outs;have key:=fun g b=>vf (body:=gW m (i:Int) u (cj r,0)) m.ay.aO (by omega)
  (fun k (c:List ((Int×Int)×al))=>c=kz ((h++(range k).flatMap (yV m i u r)).foldl kQ [])) (fun c=>c=kz ((h++(range m.ay.aO.length).flatMap (yV m i u r)).foldl kQ [])) (s0:=kz (h.foldl kQ [])) (by simp) g b
 refine (key ?_ ?_).elim fun x ⟨D,hx⟩=>hx ▸ D
 ·rintro k x _ hx rfl;have p:=bh hx;have Q:=pH (fun k=>Ny m i u r k) k;have q:=H.app (a:=k) (by omega) (VO (u:=u) (n:=k) e f.flow o B);obtain⟨E,F,s,R,S⟩:=xO e f.flow p o;rw[JS,<- ajP];generalize h++(range k).flatMap (yV m i u r)=t at q;have l:=q.look;have G:yV m i u r k=if x.bG=0∧KP m.ay k i≠0 then [((u.cm,m.aC.getD x.aY.toNat 0),r*KP m.ay k i)] else []:=by unfold yV;rw[hx]
  refine⟨_,?_,rfl⟩;simp only[gW];rw[if_pos (by simpa using p),bm hx,aj5,bC (by omega),G]
  by_cases h0:x.bG=0
  ·rw[if_neg (by simp[h0]),bm F,aj5,bm s,aj5,BN (by omega),aj5,aj5]
   by_cases hz:KP m.ay k i=0
   ·rw[if_pos (by rw[beq_iff_eq];exact Bu.2 hz),if_neg (fun hh=>hh.2 hz),akr]
   ·obtain⟨j,w,I⟩:=Pj f (aiT hx) h0;have y:m.aC[j]? = some (m.aC.getD x.aY.toNat 0):=by rw[w,ajs,ai4,aiE I];rfl
    have J:=wK r (KP m.ay k i);rw[if_neg (by rw[beq_iff_eq];exact fun hh=>hz (Bu.1 hh)),if_pos ⟨h0,hz⟩];rw[show P.idx m.aC x.aY=some (m.aC.getD x.aY.toNat 0) by rw[w]at y ⊢;exact bm y];rw[aj5,aj5,bm s,aj5,Yn (by omega),aj5];have d:=acB (z:=al.mk (aF.mk 0 ([])) (aF.mk 0 ([]))) (M:=t.foldl kQ []) (k:=(u.cm,m.aC.getD x.aY.toNat 0)) (v:=r*KP m.ay k i) (K:=20+(n+k)*21) (ait (l _) (by omega)) (by omega) (by omega);cases hh:nS (kz (t.foldl kQ [])) (u.cm,m.aC.getD x.aY.toNat 0) with
    | false =>
     rw[if_neg (by simp),d.2 hh,alG];rfl
    | true =>
     have A:=d.1 hh;rw[if_pos rfl];erw [A.1];rw[aj5,A.2,alG];rfl
  ·rw[if_pos (by simpa using h0),aj5,if_pos rfl,if_neg (fun hh=>h0 hh.1),akr]
 ·rintro _ rfl;refine⟨_,?_,rfl⟩;simp only[gW];rw[if_neg (by simp)]
def afj {x:Int} (a:1<=x) (b:x<=1099511627776):Ln x<=3:=Np (by rw[js,js,js,py];omega)
def zq (g:List Int):Prop:=∀x∈g,1<=x∧x<=1099511627776
def Ph {g:List Int} (c:zq g) {p:Int} (h:0<=p∧p<(g.length:Int)):∃j:Nat,p=j∧j<g.length∧g[j]? = some (g.getD p.toNat 0)∧1<=g.getD p.toNat 0∧g.getD p.toNat 0<=1099511627776:=by
 obtain⟨j,rfl⟩:∃j:Nat,p=j:=⟨p.toNat,by omega⟩;have a:j<g.length:=by omega
 have b:g[j]? = some (g.getD (j:Int).toNat 0):=by rw[ajs,ai4,aiE a];rfl
 exact⟨j,rfl,a,b,c _ (aiT b)⟩
def M7 {m:ck} {N:Nat} (c:yT m N) {x:jQ} (d:x∈m.ay.aq) (e:x.bG=1):P.idx m.a8 x.aY=some (sJ m x.aY)∧sJ m x.aY∈m.a8:=by
 obtain⟨j,b,f⟩:=abf c d e;have a:m.a8[j]? = some (sJ m x.aY):=by unfold sJ;rw[b,ajs,ai4,aiE f];rfl
 exact⟨by rw[b]at a ⊢;exact bm a,aiT a⟩
def Sj {g:List Int} {m:ck} (b:zq g) (c:yT m g.length) {u:ic} (d:u∈m.a8):LF (WG g u)<=10∧0<WG g u:=by
 obtain⟨e,a⟩:=c.uses u d;obtain⟨j,i,k,l,f,h⟩:=Ph b e;have n:=afj a.1 a.2;have o:=afj f h;unfold WG;have r:=yl (p:=u.aT) (q:=g.getD u.cm.toNat 0) (by omega);refine⟨by omega,?_⟩;rw[Rat.divInt_eq_div,Rat.div_def];exact Rat.mul_pos (by exact_mod_cast (show (0:Int)<u.aT by omega)) (Rat.inv_pos.2 (by exact_mod_cast (show (0:Int)<g.getD u.cm.toNat 0 by omega)))
def UH {g:List Int} {m:ck} (f:zq g) (d:rq m.ay) (a:yT m g.length) (i:Nat):(D2 g m i).length<=5∧∀c∈D2 g m i,LF c.2<=20:=by
 unfold D2;split
 ·rename_i x e;split
  ·rename_i h;have j:=d.outs;have l:=pH (fun k=>Ny m i (sJ m x.aY) (WG g (sJ m x.aY)) k) m.ay.aO.length;refine⟨by omega,VO d a.flow (bh e) (Sj f a (M7 a (aiT e) h).2).1⟩
  ·exact⟨by simp,fun c b=>by cases b⟩
 ·exact⟨by simp,fun c b=>by cases b⟩
def V0 {g:List Int} {m:ck} (a:zq g) (b:rq m.ay) (d:yT m g.length) (n:Nat):((range n).flatMap (D2 g m)).length<=n*5∧∀c∈(range n).flatMap (D2 g m),LF c.2<=20:=by
 refine⟨pH (fun i=>(UH a b d i).1) n,fun c e =>?_⟩;obtain⟨k,_,f⟩:=ajZ.1 e;exact (UH a b d k).2 c f
def Sl {g:List Int} {m:ck} {n:Nat} {h:List CX} (q:zq g) (s:rq m.ay) (b:yT m g.length) (H:HW n h) (I:n<=900) :
  jo (kz (h.foldl kQ [])) g m=some (kz ((h++oA g m).foldl kQ []),()):=by
 have A:er=4398046511104:=rfl;have J:=s.srcs;have key:=fun t d=>vf (body:=jC g m) m.ay.aq (by omega)
  (fun k (c:List ((Int×Int)×al))=>c=kz ((h++(range k).flatMap (D2 g m)).foldl kQ [])) (fun c=>c=kz ((h++oA g m).foldl kQ [])) (s0:=kz (h.foldl kQ [])) (by simp) t d
 unfold jo;refine (key ?_ ?_).elim fun c o =>?_
 ·rintro i x _ p rfl;have v:=bh p;obtain⟨B,C⟩:=V0 q s b i;have w:=H.app (a:=i*5) B C;rw[JS,<- ajP];generalize h++(range i).flatMap (D2 g m)=K at w;have o:D2 g m i=if x.bG=1 then (range m.ay.aO.length).flatMap (yV m i (sJ m x.aY) (WG g (sJ m x.aY))) else []:=by unfold D2;rw[p]
  refine⟨_,?_,rfl⟩;simp only[jC];rw[if_pos (by simpa using v),bm p,aj5,bC (by omega),o]
  by_cases e:x.bG=1
  ·obtain⟨D,y⟩:=M7 b (aiT p) e;have E:=Sj q b y;obtain⟨F,L⟩:=b.uses _ y;obtain⟨j,G,M,z,N,O⟩:=Ph q F;have f:P.idx g (sJ m x.aY).cm=some (g.getD (sJ m x.aY).cm.toNat 0):=by
    rw[G]at z ⊢;exact bm z
   rw[if_neg (by simp[e]),D,aj5,f,aj5,ahA (by omega) (by omega) (by omega),aj5,if_pos e];have l:=XB (u:=sJ m x.aY) (r:=WG g (sJ m x.aY)) s b v E.1 w (by omega);unfold WG at l ⊢;erw [l];rfl
  ·rw[if_pos (by simpa using e),if_neg e,akr]
 ·rintro _ rfl;refine⟨_,?_,rfl⟩;simp only[jC];rw[if_neg (by simp)];rfl
 ·rw[o.1,o.2];rfl
def YP {g:List Int} {m:ck} (b:zq g) (a:rq m.ay) (d:yT m g.length):(oA g m).length<=25∧∀c∈oA g m,LF c.2<=20:=by
 have:=V0 b a d m.ay.aq.length;have e:=a.srcs;exact⟨by have:=this.1;unfold oA;omega,this.2⟩
def Yx {m:MQ} {c:CX} {k:Int×Int} : nS (kQ m c) k=true↔nS m k=true∨c.1=k:=by
 unfold kQ;rw[rW,CD];split
 ·rename_i h;constructor
  ·exact fun b =>.inl (rW.2 b)
  ·rintro (b|rfl)
   ·exact rW.1 b
   ·exact rW.1 h
 ·rw[ajI,aiO,eq_comm (a:=k),rW]
def OT:∀(l:List CX) (m:MQ) (k:Int×Int),nS (l.foldl kQ m) k=true↔nS m k=true∨∃c∈l,c.1=k
 | [],m,k=>by simp
 | c::l,m,k=>by
  rw[aje,OT l,Yx];simp only[aiy,exists_eq_or_imp];exact or_assoc
def Bx {k:Int×Int} : ∀ {l:List CX},(∀c∈l,0<c.2)->0<=pX k l∧(0<pX k l↔∃c∈l,c.1=k)
 | [],_=>⟨by simp only[pX];grind,by simp only[pX];simp⟩
 | c::l,h=>by
  obtain⟨a,b⟩:=Bx (k:=k) (l:=l) fun x d=>h x (aj3 _ d);have f:=h c (aj2 ..);simp only[pX,aiy,exists_eq_or_imp]
  by_cases hk:k=c.1
  ·rw[if_pos hk];exact⟨by grind,⟨fun _ =>.inl hk.symm,fun _=>by grind⟩⟩
  ·rw[if_neg hk,show (0:Rat)+pX k l=pX k l by grind,b];exact⟨a,⟨.inr,fun h=>h.resolve_left fun e=>hk e.symm⟩⟩
def jf (N:Nat) (S:Nat->Nat->Rat):List Tk:=(range N).flatMap fun a=>((range N).filter fun b=>decide (0<S a b)).map fun b=>(a,b,S a b)
def Bc {N:Nat} {S:Nat->Nat->Rat} {t:Tk} : t∈jf N S↔t.1<N∧t.2.1<N∧0<S t.1 t.2.1∧t.2.2=S t.1 t.2.1:=by
 unfold jf;simp only[ajZ,aiq,aj8,akc,decide_eq_true_eq];constructor
 ·rintro⟨a,c,b,⟨d,e⟩,rfl⟩;exact⟨c,d,e,rfl⟩
 ·rintro⟨f,g,h,i⟩;exact⟨t.1,f,t.2.1,⟨g,h⟩,by rw[<- i]⟩
def M5 (N:Nat) (S:Nat->Nat->Rat):(jf N S).Pairwise Xp:=by
 unfold jf;rw[List.pairwise_flatMap];constructor
 ·intro a _;rw[akJ];exact (List.Pairwise.filter _ (akd (n:=N))).imp fun h =>.inr ⟨rfl,h⟩
 ·refine (akd (n:=N)).imp fun {a b} h x c y d =>?_;obtain⟨_,_,rfl⟩:=aiq.1 c;obtain⟨_,_,rfl⟩:=aiq.1 d;exact .inl h
def RF (N:Nat) (S:Nat->Nat->Rat):(jf N S).length<=N*N:=by
 unfold jf;refine pH (fun a =>?_) N;rw[aiV];exact ait (alr ..) (by simp)
def jL (L:List CX) (a b:Nat):Rat:=pX ((a:Int),(b:Int)) L
structure Ye (N:Nat) (L:List CX):Prop where
 pos:∀c∈L,0<c.2
 from_:∀c∈L,0<=c.1.1∧c.1.1<(N:Int)
 to_:∀c∈L,0<=c.1.2∧c.1.2<(N:Int)
def K8 {N:Nat} {L:List CX} (H:Ye N L) :
  qm (kL bV.cM bV.jR) ((kz (L.foldl kQ [])).map fun q=>bV.mk q.1.1 q.1.2 q.2)=(jf N (jL L)).map xy:=by
 have d:((L.foldl kQ []).map (·.1)).Nodup:=zD L [] (by simp);have B:((kz (L.foldl kQ [])).map fun q=>bV.mk q.1.1 q.1.2 q.2)=(L.foldl kQ []).map fun p=>bV.mk p.1.1 p.1.2 (cj p.2):=by unfold kz;rw[alq];rfl
 rw[B];have f:∀p:CX,p∈L.foldl kQ []↔(∃c∈L,c.1=p.1)∧pX p.1 L=p.2:=by
  rintro⟨k,v⟩;rw[PU (z:=0) d,OT,BZ];simp only[nS,fS,ai1,false_or];rw[show (0:Rat)+pX k L=pX k L by grind]
 have i:((L.foldl kQ []).map fun p:CX=>bV.mk p.1.1 p.1.2 (cj p.2)).Nodup:=by
  unfold List.Nodup at d ⊢;rw[akJ]at d ⊢;refine d.imp fun {a b} h e=>h ?_;simp only[bV.mk.injEq]at e;exact Prod.ext e.1 e.2.1
 have j:((jf N (jL L)).map xy).Nodup:=by
  unfold List.Nodup;rw[akJ];refine (M5 N (jL L)).imp fun {a b} h e =>?_;have:=VD e;subst this;unfold Xp at h;omega
 have l:∀x,x∈((L.foldl kQ []).map fun p:CX=>bV.mk p.1.1 p.1.2 (cj p.2))↔x∈(jf N (jL L)).map xy:=by
  intro x;rw[aiq,aiq];constructor
  ·rintro⟨p,C,rfl⟩;obtain⟨m,g⟩:=(f p).1 C;obtain⟨c,n,s⟩:=m;have f1:=H.from_ c n;have f2:=H.to_ c n;rw[s]at f1 f2;have u:((p.1.1.toNat:Nat):Int)=p.1.1:=by omega
   have w:((p.1.2.toNat:Nat):Int)=p.1.2:=by omega
   have A:jL L p.1.1.toNat p.1.2.toNat=p.2:=by unfold jL;rw[u,w];exact g
   refine⟨(p.1.1.toNat,p.1.2.toNat,p.2),Bc.2 ⟨by simp only;omega,by simp only;omega,?_,A.symm⟩,?_⟩
   ·simp only;rw[A,<- g];exact (Bx H.pos).2.2 ⟨c,n,s⟩
   ·unfold xy;simp only;rw[u,w]
  ·rintro⟨t,D,rfl⟩;obtain⟨m,g,E,F⟩:=Bc.1 D;refine⟨(((t.1:Int),(t.2.1:Int)),t.2.2),(f _).2 ⟨(Bx H.pos).2.1 E,F.symm⟩,rfl⟩
 refine pB (c:=kL bV.cM bV.jR) ((jm _ _).trans ((List.perm_ext_iff_of_nodup i j).2 l)) ?_ (nT (uC _ _) _) ?_
 ·intro x o y r m g;have o:=(jm _ _).mem_iff.1 o;have r:=(jm _ _).mem_iff.1 r;obtain⟨p,G,rfl⟩:=aiq.1 o;obtain⟨q,I,rfl⟩:=aiq.1 r;rw[xT]at m g;simp only at m g;have e:p.1=q.1:=Prod.ext (by omega) (by omega);have:p.2=q.2:=by rw[<- ((f p).1 G).2,<- ((f q).1 I).2,e]
  rw[e,this]
 ·rw[akJ];refine (M5 N (jL L)).imp fun {a b} h =>?_;rw[xT];simp only[xy];unfold Xp at h;omega
def U8 {w:ct} {r:Int×Int} (h:LR w=some r):r.1≠0:=by
 unfold LR at h;simp only[Option.or_eq_some_iff]at h;rcases h with ((h|⟨_,h⟩)|⟨_,h⟩)|⟨_,h⟩
 ·obtain⟨j,x,_,a,_⟩:=da h;split at a
  ·cases a
  ·cases a;simp
 ·obtain⟨j,x,_,a,_⟩:=da h;split at a
  ·cases a
  ·cases a;simp
 ·obtain⟨j,x,_,a,_⟩:=da h;split at a
  ·cases a;simp
  ·split at a
   ·cases a;simp
   ·cases a
 ·obtain⟨j,x,_,a,_⟩:=da h;split at a
  ·cases a;simp
  ·cases a
structure CY (w:ct):Prop where
 given:zq w.av
 fit:∀m∈w.aD,yT m w.av.length
 once:∀q,q<w.av.length->TY w.aD q=1∨TY w.aD q<0
 used:∀q,q<w.av.length->RZ w.aD q<=w.av.getD q 0
def adn {w:ct} (h:LR w=none):CY w:=by
 unfold LR at h;simp only[Option.or_eq_none_iff]at h;obtain⟨⟨⟨c,d⟩,e⟩,f⟩:=h;refine⟨fun x g =>?_,fun m i =>?_,fun q a =>?_,fun q a =>?_⟩
 ·obtain⟨j,b⟩:=aiN g;have:=cG.1 c j x b;split at this
  ·assumption
  ·cases this
 ·obtain⟨j,b⟩:=aiN i;have:=cG.1 d j m b;split at this
  ·assumption
  ·cases this
 ·have:=cG.1 e q _ (cq _ a);split at this
  ·cases this
  ·split at this
   ·cases this
   ·omega
 ·have:=cG.1 f q _ (cq _ a);rw[ajf]at this;split at this
  ·cases this
  ·omega
def afx {w:ct} (p:HV w) (d:CY w):Ye w.av.length (qE w):=by
 have key:∀c∈qE w,0<c.2∧(0<=c.1.1∧c.1.1<(w.av.length:Int))∧0<=c.1.2∧c.1.2<(w.av.length:Int):=by
  intro c a;unfold qE at a;obtain⟨m,e,a⟩:=ajZ.1 a;have q:=(p.mill m e).1;have b:=d.fit m e;unfold oA at a;obtain⟨i,f,a⟩:=ajZ.1 a;rw[akc]at f;unfold D2 at a;split at a
  ·rename_i x r;split at a
   ·rename_i s;obtain⟨k,g,a⟩:=ajZ.1 a;rw[akc]at g;unfold yV at a;split at a
    ·rename_i y t;split at a
     ·rename_i l;rw[aiO.1 a];obtain⟨_,n⟩:=M7 b (aiT r) s;obtain⟨j,u,o⟩:=Pj b (aiT t) l.1;obtain⟨_,_,_,z,_⟩:=xO q b.flow g f;have v:m.aC.getD y.aY.toNat 0∈m.aC:=by
       rw[u,ajs,ai4,aiE o];exact aiD o
      refine⟨Rat.mul_pos (Sj d.given b n).2 ?_,(b.uses _ n).1,b.ports _ v⟩;have:=l.2;grind
     ·cases a
    ·cases a
   ·cases a
  ·cases a
 exact⟨fun c h=>(key c h).1,fun c h=>(key c h).2.1,fun c h=>(key c h).2.2⟩
def GI {w:ct} (i:HV w) (f:CY w):aS (rf w) ((0:Int),[])=some (kz ((qE w).foldl kQ []))∧HW 125 (qE w):=by
 have b:=i.mills;have j:∀k,((w.aD.take k).flatMap (oA w.av)).length<=k*25∧∀c∈(w.aD.take k).flatMap (oA w.av),LF c.2<=20:=by
  intro k;have g:∀m∈w.aD.take k,(oA w.av m).length<=25∧∀c∈oA w.av m,LF c.2<=20:=fun m h=>by
   have b:=ajb h;exact YP f.given (i.mill m b).1 (f.fit m b)
  have v:(w.aD.take k).length<=k:=by rw[aiK];omega
  refine⟨?_,fun c n =>?_⟩
  ·have o:∀l:List ck,(∀m∈l,(oA w.av m).length<=25)->(l.flatMap (oA w.av)).length<=l.length*25:=by
    intro l
    induction l with
    | nil=>intro _;simp
    | cons a l s =>
     intro h;have y:=h a (aj2 ..);have z:=s fun m b=>h m (aj3 _ b);rw[aj1,ajB,aiR];omega
   have:=o _ fun m b=>(g m b).1;omega
  ·obtain⟨m,b,n⟩:=ajZ.1 n;exact (g m b).2 c n
 have key:=fun p e=>vf (body:=rf w) w.aD (by omega)
  (fun k (c:List ((Int×Int)×al))=>c=kz (((w.aD.take k).flatMap (oA w.av)).foldl kQ [])) (fun c=>c=kz ((qE w).foldl kQ [])) (s0:=[]) rfl p e
 constructor
 ·refine (key ?_ ?_).elim fun x ⟨g,hx⟩=>hx ▸ g
  ·rintro k m _ hx rfl;have t:=bh hx;have q:w.aD.take (k+1)=w.aD.take k++[m]:=by
    obtain⟨r,u⟩:=aiU.1 hx;rw[alo r,u]
   have d:=aiT hx;have H:HW (k*25) ((w.aD.take k).flatMap (oA w.av)):=⟨(j k).1,(j k).2⟩;refine⟨_,?_,rfl⟩;simp only[rf];rw[if_pos (by simpa using t),bm hx,aj5,Sl f.given (i.mill m d).1 (f.fit m d) H (by omega),aj5,bC (by omega),q,List.flatMap_append];simp
  ·rintro _ rfl;refine⟨_,?_,rfl⟩;simp only[rf];rw[if_neg (by simp),akD];rfl
 ·have:=j w.aD.length;rw[akD]at this;exact⟨by have:=this.1;unfold qE;omega,this.2⟩
def ZM {N:Nat} {L:List CX} (H:Ye N L):(L.foldl kQ []).length<=N*N:=by
 have h:=K8 H;have:=congrArg List.length h;rw[oR,aiV,aiV,Gm]at this;have:=RF N (jL L);omega
def aez (w:ct) (L:List CX):dE:=pZ w.av.length (jf w.av.length (jL L))
def of_eq {w:ct} (a:HV w):Cw w=some (match LR w with|some r=>(dE.mk 0 [],r.1)|none=>(aez w (qE w),0)):=by
 have b:=a.given;unfold Cw;rw[YX a,aj5];cases c:LR w with
 | some r =>
  have:=U8 c;rw[if_pos (by simpa using this)];rfl
 | none =>
  have d:=adn c;obtain⟨g,_⟩:=GI a d;have e:=afx a d;have f:=ZM e;have h:w.av.length*w.av.length<=6*6:=alp b b;rw[if_neg (by simp),g,aj5,if_neg (by rw[decide_eq_true_eq,Gm];omega)];unfold Em;rw[if_pos ⟨by rw[Gm];omega,by rw[Xr];exact zD _ _ (by simp)⟩,K8 e];rfl
def Qe {α ρ:Type} : ∀(l:List α) (i:Nat),dL (fun _ _=>(none:Option ρ)) i l=none
 | [],_=>rfl
 | _::l,i=>by simp only[dL];exact Qe l _
def VG {N:Nat} {L:List CX} (a:N<=6) (H:HW 125 L):(jf N (jL L)).length<=36∧∀t∈jf N (jL L),LF t.2.2<=2700:=by
 have d:=RF N (jL L);have e:N*N<=6*6:=alp a a;refine⟨by omega,fun t b =>?_⟩;obtain⟨_,_,_,c⟩:=Bc.1 b;rw[c];unfold jL;have f:=Lo (k:=((t.1:Int),(t.2.1:Int))) H.sz;have g:=ajd 21 H.len;omega
def yY (q:Nat) (l:List ic):Int:=l.foldl (fun x u=>x+if u.cm=(q:Int) then u.aT else 0) 0
def qZ {α:Type} (f:α->Int):∀(l:List α) (x:Int),l.foldl (fun x u=>x+f u) x=x+l.foldl (fun x u=>x+f u) 0
 | [],x=>by simp
 | a::l,x=>by rw[aje,aje,qZ f l (x+f a),qZ f l (0+f a)];omega
def RO {q:Nat} : ∀ {l:List ic} {x:Int},(0<=x∧x<=1099511627777)->(∀u∈l,1<=u.aT∧u.aT<=1099511627776)->nB q l x=min 1099511627777 (x+yY q l)∧0<=yY q l
 | [],x,b,_=>by simp only[nB,yY,List.foldl_nil];omega
 | u::l,x,b,h=>by
  have d:=h u (aj2 ..);have a:=HO (q:=q) b d;obtain⟨f,j⟩:=RO (q:=q) (l:=l) (x:=Iz q x u) a fun v g=>h v (aj3 _ g);have e:yY q (u::l)=(if u.cm=(q:Int) then u.aT else 0)+yY q l:=by
   unfold yY;rw[aje,qZ (fun u:ic=>if u.cm=(q:Int) then u.aT else 0)];omega
  have i:nB q (u::l) x=nB q l (Iz q x u):=rfl;rw[i,f,e];unfold Iz at a ⊢
  by_cases c:u.cm=(q:Int)
  ·simp only[c,if_true]at a ⊢;split<;>omega
  ·simp only[c,if_false]at a ⊢;omega
def xU (q:Nat) (a:List ck):Int:=a.foldl (fun x m=>x+yY q m.a8) 0
def acT {q:Nat} {ms:List ck} (h:∀m∈ms,∀u∈m.a8,1<=u.aT∧u.aT<=1099511627776):RZ ms q=min 1099511627777 (xU q ms)∧0<=xU q ms:=by
 have key:∀(ms:List ck) (x:Int),(0<=x∧x<=1099511627777)->(∀m∈ms,∀u∈m.a8,1<=u.aT∧u.aT<=1099511627776)->ms.foldl (fun x m=>nB q m.a8 x) x=min 1099511627777 (x+xU q ms)∧0<=xU q ms:=by
  intro ms
  induction ms with
  | nil=>intro x a _;simp only[List.foldl_nil,xU];omega
  | cons m ms b =>
   intro x a h;obtain⟨c,g⟩:=RO (q:=q) a (h m (aj2 ..));obtain⟨d,i⟩:=b (nB q m.a8 x) (tx a (h m (aj2 ..))) fun m f=>h m (aj3 _ f);have e:xU q (m::ms)=yY q m.a8+xU q ms:=by
    unfold xU;rw[aje,qZ (fun m:ck=>yY q m.a8)];omega
   rw[aje,d,c,e];omega
 have:=key ms 0 (by omega) h;unfold RZ;rw[this.1];exact⟨by omega,this.2⟩
section
variable {α β:Type}
def cL:List α->(α->Rat)->Rat
 | [],_=>0
 | a::l,f=>f a+cL l f
def pW (f:α->Rat) (b:List α):∀a:List α,cL (a++b) f=cL a f+cL b f
 | []=>by simp only[List.nil_append,cL];grind
 | x::a=>by simp only[List.cons_append,cL,pW f b a];grind
def XS {f:α->Rat} {a b:List α} (h:a.Perm b):cL a f=cL b f:=by
 induction h with
 | nil=>rfl
 | cons x _ c=>simp only[cL];rw[c]
 | swap x y l=>simp only[cL];grind
 | trans _ _ h1 h2=>exact h1.trans h2
def dX {f g:α->Rat} : ∀ {l:List α},(∀a∈l,f a=g a)->cL l f=cL l g
 | [],_=>rfl
 | a::l,h=>by
  simp only[cL];rw[h a (aj2 ..),dX fun x b=>h x (aj3 _ b)]
def Hy (f g:α->Rat):∀l:List α,cL l (fun a=>f a+g a)=cL l f+cL l g
 | []=>by simp only[cL];grind
 | a::l=>by simp only[cL,Hy f g l];grind
def HB (f g:α->Rat):∀l:List α,cL l (fun a=>f a-g a)=cL l f-cL l g
 | []=>by simp only[cL];grind
 | a::l=>by simp only[cL,HB f g l];grind
def oZ:∀l:List α,cL l (fun _=>0)=0
 | []=>rfl
 | a::l=>by simp only[cL,oZ l];grind
def Bw (c:Rat) (f:α->Rat):∀l:List α,cL l (fun a=>c*f a)=c*cL l f
 | []=>by simp only[cL];grind
 | a::l=>by simp only[cL,Bw c f l];grind
def Wa {f g:α->Rat} : ∀ {l:List α},(∀a∈l,f a<=g a)->cL l f<=cL l g
 | [],_=>by simp only[cL];grind
 | a::l,h=>by
  have c:=h a (aj2 ..);have d:=Wa (l:=l) fun x b=>h x (aj3 _ b);simp only[cL];grind
def Bv (h:β->α) (f:α->Rat):∀l:List β,cL (l.map h) f=cL l fun a=>f (h a)
 | []=>rfl
 | a::l=>by simp only[aix,cL,Bv h f l]
def uB (h:β->List α) (f:α->Rat):∀l:List β,cL (l.flatMap h) f=cL l fun a=>cL (h a) f
 | []=>rfl
 | a::l=>by rw[aj1,pW];simp only[cL,uB h f l]
def xS (p:α->Bool) (f:α->Rat):∀l:List α,cL (l.filter p) f=cL l fun a=>if p a=true then f a else 0
 | []=>rfl
 | a::l=>by
  rw[List.filter_cons];have b:=xS p f l;split
  ·rename_i h;simp only[cL,b,h,if_true]
  ·rename_i h;simp only[cL,b,h,if_false];grind
def K7 (f:α->β->Rat) (m:List β):∀l:List α,cL l (fun a=>cL m (f a))=cL m fun b=>cL l fun a=>f a b
 | []=>by simp only[cL];exact (oZ m).symm
 | a::l=>by simp only[cL,K7 f m l];rw[<- Hy]
def aaY {N p:Nat} (c:N<=p) (F:Nat->Rat):cL (range N) (fun a=>if a=p then F a else 0)=0:=by
 rw[dX (g:=fun _=>0) fun a b=>if_neg (by have:=akc.1 b;omega),oZ]
def Hz {N p:Nat} (c:p<N) (F:Nat->Rat):cL (range N) (fun a=>if a=p then F a else 0)=F p:=by
 induction N with
 | zero=>omega
 | succ N b =>
  rw[aly,pW];simp only[cL]
  by_cases h:p=N
  ·subst h;rw[aaY (air _),if_pos rfl];grind
  ·rw[b (by omega),if_neg (fun e=>h e.symm)];grind
def HA (l:List α) (f:α->Rat):cL (range l.length) (fun i=>(l[i]?).elim 0 f)=cL l f:=by
 have key:∀l:List α,cL (range l.reverse.length) (fun i=>(l.reverse[i]?).elim 0 f)=cL l.reverse f:=by
  intro l
  induction l with
  | nil=>rfl
  | cons a l b =>
   rw[List.reverse_cons,ajB,List.length_singleton,aly,pW,pW];congr 1
   ·rw[<- b];exact dX fun i c=>by rw[ai5 (akc.1 c)]
   ·simp only[cL];rw[ai6 (air _)];simp
 have:=key l.reverse
 rwa [List.reverse_reverse]at this
def Et {f:α->Rat} {l:List α} (h:∀a∈l,0<=f a):0<=cL l f:=by
 rw[<- oZ l];exact Wa h
end
def Wb (k:Int×Int):∀L:List CX,pX k L=cL L fun c=>if k=c.1 then c.2 else 0
 | []=>rfl
 | c::L=>by simp only[pX,cL,Wb k L]
def VN (p:Nat):∀tk:List Tk,sI tk p=cL tk fun t=>if t.1=p then t.2.2 else 0
 | []=>rfl
 | t::tk=>by simp only[sI,cL,VN p tk]
def Wc {α:Type} (f:α->Rat):∀l:List α,nE (l.map f)=cL l f
 | []=>rfl
 | a::l=>by simp only[aix,nE,cL,Wc f l]
def XA {N p:Nat} {S:Nat->Nat->Rat} (d:p<N) (e:∀b,0<=S p b):sI (jf N S) p=cL (range N) (S p):=by
 rw[VN];unfold jf;rw[uB,dX (g:=fun a=>if a=p then cL (range N) (S a) else 0) fun a _ =>?_,Hz d fun a=>cL (range N) (S a)];rw[Bv,xS]
 by_cases h:a=p
 ·subst h;rw[if_pos rfl];refine dX fun b _ =>?_;have:=e b
  by_cases c:0<S a b
  ·simp[c]
  ·simp only[c];have:S a b=0:=by grind
   rw[this];simp
 ·rw[if_neg h];refine Eq.trans (dX (g:=fun _=>0) fun b _ =>?_) (oZ _);simp[h]
def zi (p:Nat) (L:List CX):Rat:=cL L fun c=>if c.1.1=(p:Int) then c.2 else 0
def aaZ {N p:Nat} {L:List CX} (H:Ye N L):cL (range N) (jL L p)=zi p L:=by
 refine Eq.trans (dX (l:=range N) (g:=fun b:Nat=>cL L fun c=>if ((p:Int),(b:Int))=c.1 then c.2 else 0) fun b _=>by unfold jL;exact Wb _ _) ?_;rw[K7];unfold zi;refine dX fun c d =>?_;obtain⟨f,h⟩:=H.to_ c d;obtain⟨j,a⟩:∃j:Nat,c.1.2=j:=⟨c.1.2.toNat,by omega⟩
 by_cases hp:c.1.1=(p:Int)
 ·rw[if_pos hp,dX (g:=fun b=>if b=j then c.2 else 0) fun b _ =>?_,Hz (by omega) fun _=>c.2]
  by_cases hb:b=j
  ·rw[if_pos hb,if_pos (Prod.ext hp.symm (by simp only;omega))]
  ·rw[if_neg hb,if_neg (fun e=>hb (by rw[<- e]at a;simp only at a;omega))]
 ·rw[if_neg hp];exact Eq.trans (dX (g:=fun _=>0) fun b _=>if_neg (fun e=>hp (by rw[<- e]))) (oZ _)
def Xl {N p:Nat} {L:List CX} (H:Ye N L) (a:p<N):dm (jf N (jL L)) p=1-zi p L:=by
 unfold dm;rw[XA a fun b=>(Bx H.pos).1,aaZ H]
def gk (m:ck) (k:Nat):Bool:=match m.ay.aO[k]? with|some y=>y.bG==0|none=>false
def gv (m:ck) (i:Nat):Rat:=cL (range m.ay.aO.length) fun k=>if gk m k=true then KP m.ay k i else 0
def ls (m:ck) (i:Nat):Rat:=cL (range m.ay.aO.length) fun k=>if gk m k=true then 0 else KP m.ay k i
def ado {m:ck} {i:Nat} (b:rq m.ay) (c:Ez m.ay) (d:i<m.ay.aq.length):gv m i+ls m i=1∧0<=gv m i∧0<=ls m i:=by
 have e:∀k∈range m.ay.aO.length,0<=KP m.ay k i:=fun k a=>by
  obtain⟨_,_,_,h,_⟩:=xO b c (akc.1 a) d;exact h
 refine⟨?_,Et fun k a =>?_,Et fun k a =>?_⟩
 ·have f:=XJ b c d;rw[Wc]at f;rw[<- f];unfold gv ls;rw[<- Hy];exact dX fun k _=>by split<;>grind
 ·have:=e k a;split<;>grind
 ·have:=e k a;split<;>grind
def DS (m:ck) (i:Nat) (F:ic->Rat):Rat:=(m.ay.aq[i]?).elim 0 fun x=>if x.bG=1 then F (sJ m x.aY) else 0
def xD (p:Nat) (u:ic) (q:Rat):Rat:=if u.cm=(p:Int) then q else 0
def W5 (g:List Int) (m:ck) (p:Nat):zi p (oA g m)=cL (range m.ay.aq.length) fun i=>DS m i fun u=>xD p u (WG g u*gv m i):=by
 unfold zi oA;rw[uB];refine dX fun i _ =>?_;unfold D2 DS;cases e:m.ay.aq[i]? with
 | none=>rfl
 | some x =>
  simp only[Option.elim_some]
  by_cases a:x.bG=1
  ·rw[if_pos a,if_pos a,uB];generalize sJ m x.aY=u;have hk:∀k,cL (yV m i u (WG g u) k) (fun c=>if c.1.1=(p:Int) then c.2 else 0)=xD p u (WG g u*if gk m k=true then KP m.ay k i else 0):=by
    intro k;unfold yV gk xD;cases m.ay.aO[k]? with
    | none=>show cL [] _=_;simp[cL]
    | some y =>
     simp only
     by_cases h0:y.bG=0
     ·by_cases b:KP m.ay k i=0
      ·rw[if_neg (fun h=>h.2 b),b];show (0:Rat)=_;split<;>simp
      ·rw[if_pos ⟨h0,b⟩];simp only[cL,h0]
       by_cases d:u.cm=(p:Int)<;>simp only[d,if_true,if_false,beq_self_eq_true]<;>grind
     ·rw[if_neg (fun h=>h0 h.1)];show (0:Rat)=_;split<;>simp[h0]
   rw[dX fun k _=>hk k];unfold xD gv;split
   ·rw[Bw]
   ·exact oZ _
  ·rw[if_neg a,if_neg a];rfl
def abo {m:ck} {N:Nat} (a:yT m N) (F:ic->Rat):cL (range m.ay.aq.length) (fun i=>DS m i F)=cL m.a8 F:=by
 unfold DS;refine Eq.trans (HA m.ay.aq fun x=>if x.bG=1 then F (sJ m x.aY) else 0) ?_;rw[dX (g:=fun x=>if (x.bG==1)=true then F (sJ m x.aY) else 0) fun x _=>by simp only[beq_iff_eq],<- xS (fun x:jQ=>x.bG==1) fun x=>F (sJ m x.aY)];rw[<- Bv (fun x:jQ=>x.aY) fun n=>F (sJ m n),XS a.takes];unfold BA;rw[Bv];refine Eq.trans (dX fun j b =>?_) (HA m.a8 F);unfold sJ;rw[ajs,ai4,aiE (akc.1 b)];rfl
def ZO (w:ct) (p:Nat):zi p (qE w)=cL w.aD fun m=>zi p (oA w.av m):=by
 unfold qE zi;exact uB ..
def ag6 (p:Nat) (m:ck):Rat:=cL m.a8 fun u=>xD p u (u.aT:Rat)
def Wd (p:Nat):∀l:List ic,cL l (fun u=>xD p u (u.aT:Rat))=((yY p l:Int):Rat)
 | []=>by simp[cL,yY]
 | u::l=>by
  have e:yY p (u::l)=(if u.cm=(p:Int) then u.aT else 0)+yY p l:=by
   unfold yY;rw[aje,qZ (fun u:ic=>if u.cm=(p:Int) then u.aT else 0)];omega
  simp only[cL];rw[Wd p l,e,Rat.intCast_add];congr 1;unfold xD;split<;>simp
def RB (p:Nat):∀a:List ck,cL a (ag6 p)=((xU p a:Int):Rat)
 | []=>by simp[cL,xU]
 | m::a=>by
  have e:xU p (m::a)=yY p m.a8+xU p a:=by
   unfold xU;rw[aje,qZ (fun m:ck=>yY p m.a8)];omega
  simp only[cL];rw[RB p a,e,Rat.intCast_add];congr 1;exact Wd p _
def afv {g:List Int} {p:Nat} {u:ic} (h:u.cm=(p:Int)) (a:1<=g.getD p 0):WG g u*((g.getD p 0:Int):Rat)=(u.aT:Rat):=by
 unfold WG;rw[h,ajs,Rat.divInt_eq_div];have:((g.getD p 0:Int):Rat)≠0:=by exact_mod_cast (show g.getD p 0≠0 by omega)
 rw[alC this]
def SH {w:ct} (e:HV w) (a:CY w) {p:Nat} (b:p<w.av.length) :
  zi p (qE w)*((w.av.getD p 0:Int):Rat)=((xU p w.aD:Int):Rat)-cL w.aD fun m=>cL (range m.ay.aq.length) fun i=>DS m i fun u=>xD p u ((u.aT:Rat)*ls m i):=by
 have f:=a.given (w.av.getD p 0) (by rw[ai4,aiE b];exact aiD b);rw[ZO,Rat.mul_comm,<- Bw,<- RB,<- HB];refine dX fun m c =>?_;have g:=(e.mill m c).1;have d:=a.fit m c;rw[W5,<- Bw];unfold ag6;rw[<- abo d,<- HB];refine dX fun i h =>?_;obtain⟨k,_,_⟩:=ado g d.flow (akc.1 h);unfold DS;cases m.ay.aq[i]? with
 | none=>simp only[Option.elim_none];grind
 | some x =>
  simp only[Option.elim_some];split
  ·unfold xD;split
   ·rename_i j;have:=afv j f.1;grind
   ·grind
  ·grind
def T5 {w:ct} (a:CY w) {p:Nat} (b:p<w.av.length):0<=xU p w.aD∧xU p w.aD<=w.av.getD p 0:=by
 have g:=a.given (w.av.getD p 0) (by rw[ai4,aiE b];exact aiD b);have d:=a.used p b;have c:=acT (q:=p) (ms:=w.aD) fun m e u f=>((a.fit m e).uses u f).2;rw[c.1]at d;exact⟨c.2,by omega⟩
def acn {w:ct} (c:HV w) (d:CY w) (p:Nat):0<=cL w.aD fun m=>cL (range m.ay.aq.length) fun i=>DS m i fun u=>xD p u ((u.aT:Rat)*ls m i):=by
 refine Et fun m b=>Et fun i e =>?_;have a:=d.fit m b;obtain⟨_,_,f⟩:=ado (c.mill m b).1 a.flow (akc.1 e);unfold DS;cases g:m.ay.aq[i]? with
 | none=>simp
 | some x =>
  simp only[Option.elim_some];split
  ·rename_i h;have j:=(a.uses _ (M7 a (aiT g) h).2).2;unfold xD;split
   ·exact alz (by exact_mod_cast (show (0:Int)<=(sJ m x.aY).aT by omega)) f
   ·simp
  ·simp
def ab8 {w:ct} (c:HV w) (a:CY w) {p:Nat} (b:p<w.av.length):zi p (qE w)<=1:=by
 have f:=a.given (w.av.getD p 0) (by rw[ai4,aiE b];exact aiD b);have d:=SH c a b;have g:=acn c a p;have h:((xU p w.aD:Int):Rat)<=((w.av.getD p 0:Int):Rat):=by exact_mod_cast (T5 a b).2
 have e:(0:Rat)<((w.av.getD p 0:Int):Rat):=by exact_mod_cast (show (0:Int)<w.av.getD p 0 by omega)
 refine Rat.le_of_mul_le_mul_right ?_ e;rw[d];grind
def Td {w:ct} (a:HV w) (b:CY w):ky w.av.length (jf w.av.length (jL (qE w))) where
 ports:=by have:=a.given;omega
 takes:=by have:=(VG a.given (GI a b).2).1;omega
 ok t d:=by
  obtain⟨e,f,g,h⟩:=Bc.1 d;exact⟨e,f,by rw[h];exact g⟩
 sorted:=M5 _ _
 leak p c:=by
  rw[Xl (afx a b) c];have:=ab8 a b c;grind
def Wz {l:List al} (p:l.length<=100) (g:∀f∈l,Nn f) (n:Int):nt l n=some (l.all okF&&decide ((l.length:Int)=n)):=by
 unfold nt;rw[oB l (fun i x=>if okF x=true then none else some false) (by omega) (fun i x c =>?_) (by simp only[oo];rw[if_neg (by simp)])]
 ·rw[aj5];cases a:dL (fun (i:Nat) (x:al)=>if okF x=true then none else some false) 0 l with
  | none =>
   have:l.all okF=true:=aiC.2 fun f d=>by
    obtain⟨j,k⟩:=aiN d;have:=cG.1 a j f k;split at this
    ·assumption
    ·cases this
   rw[this,ajX];simp only;congr 1
  | some q =>
   obtain⟨j,x,m,e,_⟩:=da a;split at e
   ·cases e
   ·rename_i b;cases e;have:l.all okF=false:=by
     cases h:l.all okF with
     | false=>rfl
     | true=>exact absurd (aiC.1 h x (aiT m)) b
    rw[this,akA]
 ·have o:=bh c;simp only[oo];rw[if_pos (by simpa using o),bm c,aj5,ad1 (g x (aiT c)),aj5,bC (by omega)];cases okF x with
  | false=>rfl
  | true=>rfl
def ags {n p:Nat} {f:Nat->Rat} (h:∀i,i<n->0<=f i) (a:p<n):f p<=sm n f:=by
 have b:=CL (f p) a;have c:0<=sm n fun q=>f q-(if p=q then f p else 0):=yN fun i d=>by
  have:=h i d;split
  ·rename_i e;subst e;grind
  ·grind
 rw[MP,b]at c;grind
def agp:2*(2 ^ 6*(4 ^ 6*(2700+1)))+100<=er:=by decide
def XsW {N p x:Nat} (a:N<=6) (h:x<=2 ^ (N-1-p)*(4 ^ N*(2700+1))):x<=1000000000:=by
 have b:2 ^ (N-1-p)<=2 ^ 6:=alE (by decide) (by omega);have c:4 ^ N<=4 ^ 6:=alE (by decide) a;have d:=alp b (ajd (2700+1) c);have e:2 ^ 6*(4 ^ 6*(2700+1))<=1000000000:=by decide
 omega
def HY (a:ct) (l:List al) (E:l.length<=17592186044416):ir a l=some true:=by
 have ab:er=4398046511104:=rfl;obtain⟨b,e1,e2⟩:=ZK a;unfold ir;rw[acM,aj5,e1,aj5];cases b with
 | false=>rfl
 | true =>
 have C:=e2 rfl;have hg:=C.given;obtain⟨c,c1,c2⟩:=afA 4 E;rw[if_neg (by simp),c1,aj5,aj5];cases c with
 | false=>rfl
 | true =>
 obtain⟨ad,m⟩:=c2 rfl;rw[if_neg (by simp),of_eq C,aj5];cases X:LR a with
 | some r =>
  have F:=U8 X;rw[if_pos (by simpa using F)]
 | none =>
 have Y:=adn X;have n:=Td C Y;have g:=VG hg (GI C Y).2;have G:SzN (aez a (qE a)) 2700:=Yt g.2;have H:SzL l 2700:=fun f I=>by have:=m f I;omega
 have u:∀f∈l,Nn f:=fun f I=>by have:=m f I;exact⟨by unfold kv;omega,by unfold kv;omega⟩
 simp only;rw[if_neg (by simp)];rcases Yo (K:=2700) (M:=6) (by decide) G H E (.inl (by show ((a.av.length:Nat):Int)<=_;omega)) agp with⟨hv,v⟩|⟨N,tk,d,r,hn,ae,rfl,hN,hs,hd,ag,w,⟨_,v⟩|⟨J,x,L,v,O⟩⟩
 ·rw[v,aj5,if_pos (by simp),if_pos trivial,if_neg (by simp),Wz (by omega) u,aj5];have:(l.all okF&&decide ((l.length:Int)=(a.av.length:Int)))=false:=by
   cases P:l.all okF with
   | false=>rfl
   | true =>
    by_cases hl:l.length=a.av.length
    ·exfalso;obtain⟨d,hd⟩:=PG hl P;exact hv ⟨_,_,d,rfl,n,hd⟩
    ·rw[ajX,eb (by omega)]
  rw[this];rfl
 ·rw[v,aj5,if_pos (by simp),if_pos trivial,if_pos (by simp)];rfl
 obtain⟨rfl,rfl⟩:=VB hn;have Q:=RG w J;rw[v,aj5,if_neg (by simp),if_neg (by rw[lx,lx];simp),aj5,if_neg (by rw[lx];simp),afE,aj5];have z:∀i,i<=a.av.length->LF (sm i d)<=1+i*2701:=fun i D=>afi fun j Z=>hd j (by omega);obtain⟨q,g1,g2⟩:=cO (body:=kJ (nV a.av.length d) true)
  (fun i (s:Int×Int×List Int×Int×List Int)=>s=((i:Int),(cj (sm i d)).bK.ak,(cj (sm i d)).bK.aa,(cj (sm i d)).bL.ak,(cj (sm i d)).bL.aa)∧∀j,j<i->0<=d j) a.av.length
  (fun q=>q=.inr true∨(q=.inl ((cj (sm a.av.length d)).bK.ak,(cj (sm a.av.length d)).bK.aa,(cj (sm a.av.length d)).bL.ak,(cj (sm a.av.length d)).bL.aa)∧∀j,j<a.av.length->0<=d j))
  (s:=(0,(cj 0).bK.ak,(cj 0).bK.aa,(cj 0).bL.ak,(cj 0).bL.aa)) ⟨rfl,fun j Z=>by omega⟩ (jz (by omega)) (by
   rintro i _ D ⟨rfl,k⟩;simp only[kJ]
   by_cases o:i<a.av.length
   ·have q1:=z i (by omega);have q3:=hd i o;rw[if_pos (by rw[lx];simp;omega),bm (q8 d o),aj5,BN (by omega),aj5]
    by_cases hneg:d i<0
    ·right;rw[if_pos (ea (tv.2 hneg))];exact⟨_,rfl,.inl rfl⟩
    ·left;refine⟨o,?_⟩;rw[if_neg (by rw[decide_eq_true_eq];exact fun h=>hneg (tv.1 h)),bC (by omega)];have ha:me (al.mk (aF.mk (cj (sm i d)).bK.ak (cj (sm i d)).bK.aa) (aF.mk (cj (sm i d)).bL.ak (cj (sm i d)).bL.aa)) (cj (d i))=some (cj (sm i d+d i),0):=Ug (by omega);rw[ha,aj5];refine⟨_,rfl,rfl,fun j Z =>?_⟩
     by_cases R:j=i
     ·subst R;grind
     ·exact k j (by omega)
   ·right;have:i=a.av.length:=by omega
    subst this;exact⟨_,by rw[if_neg (by rw[lx];simp)],.inr ⟨rfl,k⟩⟩)
 rw[g1,aj5];rcases g2 with rfl|⟨rfl,k⟩
 ·rfl
 simp only;have hxn:=TG n w Q L k;have A:=acN n L;have S:∀p,LF (dm (jf a.av.length (jL (qE a))) p)<=100000:=fun p=>by
  have h2:=EB g.2 p;have h3:=ajd 2701 g.1;omega
 have hX:∀p,p<a.av.length->LF (x p)<=1000000000:=fun p e=>XsW hN (O p e);have ah:=z a.av.length (air _);rw[oB (nV a.av.length x) (fun _ _=>(none:Option Bool)) (by rw[lx];omega) (fun p y T =>?_) (by simp only[kK];rw[if_neg (by simp)])]
 ·rw[Qe];rfl
 ·have e:p<a.av.length:=by have:=bh T;rwa [lx]at this
  rw[q8 x e]at T;obtain rfl:=Option.some.inj T;have w1:=S p;have w2:=hX p e;have w3:=hd p e;have w4:=wK (dm (jf a.av.length (jL (qE a))) p) (x p);have ai:d p<=x p:=by
   have E:=L p e;have h2:0<=Co (jf a.av.length (jL (qE a))) x p:=Aa n.pos fun t J _=>hxn _ (n.rng t J).1;grind
  have aa:dm (jf a.av.length (jL (qE a))) p*x p<=sm a.av.length d:=by
   rw[A];exact ags (f:=fun p=>dm (jf a.av.length (jL (qE a))) p*x p) (fun i D=>alz (n.leak i D) (hxn i D)) e
  simp only[kK];have B:se (aez a (qE a)) (p:Int)=some (cj (dm (jf a.av.length (jL (qE a))) p)):=aep n (K:=2700) (by decide) g.2 e;rw[if_pos (by rw[lx];simp;omega),B,aj5,bm (q8 x e),aj5,Yn (by omega),aj5,bm (q8 d e),aj5,BK (by omega),aj5];have U:¬Fa (x p) (d p)<0:=by unfold Fa;rw[if_neg (by grind)];split<;>decide
  have V:¬Fa (dm (jf a.av.length (jL (qE a))) p*x p) (sm a.av.length d)>0:=by
   unfold Fa;split
   ·decide
   ·rw[if_neg (by grind)];decide
  rw[if_neg (by rw[decide_eq_true_eq];exact U)];have W:fD (cj (dm (jf a.av.length (jL (qE a))) p*x p)) (al.mk (aF.mk (cj (sm a.av.length d)).bK.ak (cj (sm a.av.length d)).bK.aa) (aF.mk (cj (sm a.av.length d)).bL.ak (cj (sm a.av.length d)).bL.aa))=some (Fa (dm (jf a.av.length (jL (qE a))) p*x p) (sm a.av.length d)):=BK (by omega);rw[W,aj5,if_neg (by rw[decide_eq_true_eq];exact V),bC (by omega)]
end Go.Proofs.YtokgehacmjmfkaaGreat.P
