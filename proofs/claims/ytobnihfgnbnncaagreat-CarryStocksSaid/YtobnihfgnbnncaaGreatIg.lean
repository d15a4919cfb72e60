import Derived.Test.YtobnihfgnbnncaaGreatIf
set_option linter.unusedSimpArgs false
set_option linter.unusedVariables false
set_option linter.defProp false
noncomputable section
open Go.Proofs.Tryz
namespace Go.Proofs.YtobnihfgnbnncaaGreat.P
open Go.RowKit
def BF.push {N:Nat} {tk:List Tk} {r:Nat->Int} {D Q:List Nat} {p q:Nat} {m:Int} (d:BF N tk r D (p::Q) (r p) m) (z:0<=r p) (A:r p+1<=m) (v:q<N) (F:r q = -1) (B:∃t∈tk,t.1=q∧t.2.1=p) :
  BF N tk (aaL r q (r p+1)) D (p::(Q++[q])) (r p) m∧aaL r q (r p+1) p=r p:=by
 have hqn:q∉D++p::Q:=fun h=>by have:=(d.rk q v).2 h;omega
 have i:∀x,x∈D++p::(Q++[q])↔x∈D++p::Q∨x=q:=fun x=>by
  grind
 have f:∀x,x∈D++p::Q->x≠q:=fun x c e=>hqn (e ▸ c);have o:p∈D++p::Q:=alG _ (amH ..);have j:p≠q:=f p o;refine⟨?_,km _ j⟩;constructor
 ·have:D++p::(Q++[q])=(D++p::Q)++[q]:=by simp
  rw[this,List.nodup_append];refine⟨d.nodup,by simp,fun a k b l =>?_⟩;grind
 ·intro x c;rcases (i x).1 c with h|rfl
  ·exact d.lt x h
  ·exact v
 ·intro x c;rw[i]
  by_cases h:x=q
  ·subst h;rw[np];omega
  ·rw[km _ h,d.rk x c];simp_all
 ·intro x c
  by_cases h:x=q
  ·subst h;rw[np];omega
  ·rw[km _ h];exact d.ge x c
 ·intro x c
  by_cases h:x=q
  ·subst h;rw[np];have:=d.zero x c;grind
  ·rw[km _ h];exact d.zero x c
 ·intro x c w
  by_cases h:x=q
  ·subst h;obtain⟨t,g,n,s⟩:=B;refine⟨t,g,n,?_⟩;rw[s,km _ j,np];omega
  ·rw[km _ h]at w ⊢;obtain⟨t,g,n,s⟩:=d.down x c w;refine⟨t,g,n,?_⟩;rw[km _ (fun e=>by grind)];exact s
 ·intro t u y;obtain⟨g,n⟩:=d.near t u y;have C:t.2.1≠q:=f _ (alF _ y);have E:t.1≠q:=fun e=>by rw[e]at g;omega
  rw[km _ C,km _ E];exact⟨g,n⟩
 ·have g:=d.mono;have:p::(Q++[q])=(p::Q)++[q]:=by simp
  rw[this,List.pairwise_append];refine⟨g.imp_of_mem fun {a b} k l h =>?_,by simp,fun a k b l =>?_⟩
  ·rw[km _ (f a (alG _ k)),km _ (f b (alG _ l))];exact h
  ·simp only[alx,List.mem_nil_iff,or_false]at l;subst l;rw[km _ (f a (alG _ k)),np];exact d.top a (alG _ k)
 ·intro x c;rcases (i x).1 c with h|rfl
  ·rw[km _ (f x h)];exact d.top x h
  ·rw[np];exact Int.le_refl _
 ·intro x c
  by_cases h:x=q
  ·subst h;rw[np];omega
  ·rw[km _ h];apply d.low x;simp_all
 ·intro x c
  by_cases h:x=q
  ·subst h;rw[np];exact A
  ·rw[km _ h];exact d.bnd x c
def BF.finish {N:Nat} {tk:List Tk} {r:Nat->Int} {D Q:List Nat} {p:Nat} {h m:Int} (hB:BF N tk r D (p::Q) h m) (b:∀q∈nM tk p,0<=r q∧r q<=r p+1):BF N tk r (D++[p]) Q h m:=by
 have e:(D++[p])++Q=D++p::Q:=by simp
 exact {
  nodup:=by rw[e];exact hB.nodup
  lt:=by rw[e];exact hB.lt
  rk:=by rw[e];exact hB.rk
  ge:=hB.ge,zero:=hB.zero,down:=hB.down
  near:=fun t a c=>by
   rcases amG.1 c with h1|h1
   ·exact hB.near t a h1
   ·simp only[alx,List.mem_nil_iff,or_false]at h1;rw[h1];exact b t.1 (Mr.2 ⟨t,a,rfl,h1⟩)
  mono:=(amP.1 hB.mono).2
  top:=by rw[e];exact hB.top
  low:=fun q d=>hB.low q (amI _ d)
  bnd:=hB.bnd }
def BF.agX {N:Nat} {tk:List Tk} {r:Nat->Int} {D:List Nat} {h m:Int} (a:BF N tk r D [] h m) (b:∀t∈tk,t.1<N∧t.2.1<N) (d:m<=2000):sB N tk r where
 ge:=a.ge
 zero:=a.zero
 down:=a.down
 near t h1 h2:=a.near t h1 (by have:=(a.rk t.2.1 (b t h1).2).1 h2;simpa using this)
 le p c:=by have:=a.bnd p c;omega
def TE {α:Type} (a:α) (l:List α):Ge (a::l) 1 ((a::l).length:Int)=some l:=by
 unfold Ge;grind
variable {N:Nat} {tk:List Tk}
def Vx {r:Nat->Int} {D Q:List Nat} {p:Nat} {m:Int} (C:BF N tk r D (p::Q) (r p) m) (E:p<N) (F:0<=r p) (P:r p+1<=m) (G:m<=2001) (H:∀t∈tk,t.1<N∧t.2.1<N) (A:tk.length<=8000) (R:N<=2000) :
  ∃a c,aR (mV (p:Int) (mM (nM tk p))) ((0:Int),(List.range N).map r,mM Q)=some ((List.range N).map a,mM c)∧BF N tk a (D++[p]) c (r p) m:=by
 have I:=KW tk p;have key:=fun J K=>tp (body:=mV (p:Int) (mM (nM tk p))) (nM tk p) (by omega) (fun i (s:List Int×List Int)=>∃a c,s=((List.range N).map a,mM c)∧BF N tk a D (p::c) (r p) m∧a p=r p∧∀q∈(nM tk p).take i,0<=a q∧a q<=r p+1)
  (fun x=>∃a c,x=((List.range N).map a,mM c)∧BF N tk a (D++[p]) c (r p) m) (s0:=((List.range N).map r,mM Q)) ⟨r,Q,rfl,C,rfl,fun q j=>by simp at j⟩ J K
 refine (key ?_ ?_).elim fun x ⟨k,a,c,d,n⟩=>⟨a,c,d ▸ k,n⟩
 ·rintro i q _ j ⟨a,c,rfl,b,f,e⟩;have L:=aU j;have o:=alR j;obtain⟨t,u,v,w⟩:=Mr.1 o;have h:q<N:=by grind
  have g:(nM tk p).take (i+1)=(nM tk p).take i++[q]:=by
   rw[anM L,(alT.1 j).2]
  have M:c.length<=N:=by
   have k:=C3 N (D++p::c) b.nodup b.lt;grind
  simp only[mV];rw[if_pos (by rw[sb];simp;omega),aT (adr j),amN,aT (dJ a h),amN]
  by_cases y:a q = -1
  ·rw[if_pos (by rw[y];rfl),aT (dJ a E),amN,f,JY (by rw[sb];simp;omega),amN,bg (by omega),amk,iw];have O:IntKind.i64.wrap (r p+1)=r p+1:=wrap64 (by omega) (by omega);rw[O];have l:=b;rw[<- f]at l;obtain⟨k,n⟩:=l.push (by omega) (by omega) h y ⟨t,u,v,w⟩;rw[f]at k n;refine⟨_,rfl,aaL a q (r p+1),c++[q],?_,k,n,fun x d =>?_⟩
   ·unfold mM aaL;simp
   ·rw[g]at d;rcases amG.1 d with d|d
    ·have:=e x d
     by_cases z:x=q
     ·grind
     ·rw[km _ z];exact this
    ·simp only[alx,List.mem_nil_iff,or_false]at d;subst d;rw[np];omega
  ·rw[if_neg (by simpa using y),bg (by omega)];refine⟨_,rfl,a,c,rfl,b,f,fun x d =>?_⟩;rw[g]at d;rcases amG.1 d with d|d
   ·exact e x d
   ·simp only[alx,List.mem_nil_iff,or_false]at d;subst d;have B:0<=a x:=by have:=b.ge x h;omega
    exact⟨B,b.top x ((b.rk x h).1 B)⟩
 ·rintro _ ⟨a,c,rfl,b,f,e⟩;refine⟨_,?_,a,c,rfl,b.finish fun q j =>?_⟩
  ·simp only[mV];rw[if_neg (by rw[sb];simp)]
  grind
def Vy {r:Nat->Int} {Q:List Nat} (v:BF N tk r [] Q 0 0) (e:∀t∈tk,t.1<N∧t.2.1<N) (f:tk.length<=8000) (w:N<=2000) :
  ∃b,aR (mU ((List.range N).map fun p=>mM (nM tk p))) ((List.range N).map r,mM Q)=some ((List.range N).map b)∧sB N tk b:=by
 have key:=fun y=>db (body:=mU ((List.range N).map fun p=>mM (nM tk p))) (fun i (s:List Int×List Int)=>∃b D d h,s=((List.range N).map b,mM d)∧D.length=i∧BF N tk b D d h (i:Int)) N
  (fun x=>∃b,x=(List.range N).map b∧sB N tk b) (s:=((List.range N).map r,mM Q)) ⟨r,[],Q,0,rfl,rfl,v⟩ (jQ (by omega)) y
 refine (key ?_).elim fun x ⟨g,b,z,j⟩=>⟨b,z ▸ g,j⟩
 ·rintro i _ E ⟨b,D,d,h,rfl,A,c⟩;cases d with
  | nil =>
   refine .inr ⟨_,?_,b,rfl,c.agX e (by omega)⟩;simp only[mU,mM,amb];grind
  | cons p d =>
   obtain⟨k,m,o,B⟩:=c.pop;have n:i<N:=by
    have g:=C3 N (D++p::d) c.nodup c.lt;grind
   obtain⟨q,u,g,j⟩:=Vx k o m (by omega) (by omega) e f w;refine .inl ⟨n,((List.range N).map q,mM u),?_,q,D++[p],u,b p,rfl,by simp[A],by simpa using j⟩;simp only[mU];have C:mM (p::d)=(p:Int)::mM d:=rfl;rw[C,if_pos (by simp),idx_zero' ,amN,TE,amN,aT (dJ (fun p=>mM (nM tk p)) o),amN,g,amN]
where
 idx_zero':∀ {α:Type} {a:α} {l:List α},P.idx (a::l) 0=some a:=fun {_ a l}=>aT (l:=a::l) (i:=0) rfl
def Y2 {L:Nat} (a:∀t∈tk,t.1<N∧t.2.1<N) (e:tk.length<=8000) :
  aR (mS (sM N tk)) ((0:Int),List.replicate N ([]:List Int))=some ((List.range N).map fun p=>mM (nM tk p)):=by
 unfold sM;have key:=fun g k=>tp (body:=mS (ik.mk (N:Int) (tk.map zw))) tk (by omega) (fun i l=>l=(List.range N).map fun p=>mM (nM (tk.take i) p)) (fun l=>l=(List.range N).map fun p=>mM (nM tk p)) (s0:=List.replicate N ([]:List Int))
  (iC (by simp) fun j m=>by rw[List.getElem?_replicate,if_pos m,List.take_zero];rfl) g k
 refine (key ?_ ?_).elim fun x ⟨n,hx⟩=>hx ▸ n
 ·rintro i t _ b rfl;have q:=aU b;have c:=(a t (alR b)).2;have o:(tk.map zw)[i]? = some (zw t):=by simp_all
  have d:=KW (tk.take i) t.2.1;rw[alI]at d;refine⟨_,?_,rfl⟩;simp only[mS];rw[if_pos (by simp;omega),aT o,amN];simp only[zw];rw[aT (dJ _ c),amN,JY (by rw[sb];simp;omega),amN,bg (by omega),amk,iw];congr 3;refine congrArg (fun f=>(List.range N).map f) (funext fun p =>?_);rw[Uu b]
  by_cases h:p=t.2.1
  ·subst h;rw[if_pos rfl,if_pos rfl];unfold mM;simp
  grind
 ·rintro _ rfl;refine⟨_,?_,rfl⟩;simp only[mS];simp_all
def FE (tk:List Tk) (p:Nat):Int:=if 0<ib tk p then 0 else -1
def p9 (tk:List Tk) (n:Nat):List Nat:=(List.range n).filter fun p=>decide (0<ib tk p)
def Ta (tk:List Tk) (n:Nat):p9 tk (n+1)=if 0<ib tk n then p9 tk n++[n] else p9 tk n:=by
 unfold p9;rw[anP,anO];grind
def ZM {K:Nat} (l:N<=2000) (a:tk.length<=8000) (m:K<=1000000) (b:∀t∈tk,LF t.2.2<=K) :
  aR (mT ((List.range N).map fun p=>bJ (ib tk p))) ((0:Int),List.replicate N (0:Int),([]:List Int))=some ((List.range N).map (FE tk),mM (p9 tk N)):=by
 have key:=fun b d=>tp (body:=mT ((List.range N).map fun p=>bJ (ib tk p))) (List.range N) (by simp;omega) (fun i (s:List Int×List Int)=>s=((List.range N).map (fun p=>if p<i then FE tk p else 0),mM (p9 tk i))) (fun s=>s=((List.range N).map (FE tk),mM (p9 tk N))) (s0:=(List.replicate N (0:Int),([]:List Int)))
  (by rw[show p9 tk 0=[] from rfl];refine Prod.ext ?_ rfl;exact iC (by simp) fun j o=>by simp_all) b d
 refine (key ?_ ?_).elim fun x ⟨e,hx⟩=>hx ▸ e
 ·rintro i x _ hx rfl;have c:i<N:=by grind
  have g:=PI b i;have q:tk.length*(K+1)<=8000*1000001:=anN a (by omega);have k:(p9 tk i).length<=i:=by unfold p9;grind
  refine⟨_,?_,rfl⟩;simp only[mT];rw[if_pos (by simp;omega),aT (dJ (fun p=>bJ (ib tk p)) c),amN,aT (dJ _ c),amN,yE (by unfold eL;omega),amN,amk,iw,iw,bg (by omega),Ta]
  by_cases hl:0<ib tk i
  ·rw[if_pos (by simpa using Gq.2 hl),aT (dJ _ c),amN,JY (by rw[sb];simp;omega),amN,if_pos hl];refine congrArg some (congrArg Sum.inl (congrArg (Prod.mk _) (Prod.ext ?_ ?_)))
   ·refine congrArg (fun f=>(List.range N).map f) (funext fun p =>?_)
    by_cases h:p=i
    ·subst h;rw[if_pos rfl,if_pos (by omega)];unfold FE;rw[if_pos hl]
    omega
   ·unfold mM;simp
  ·rw[if_neg (by simpa using fun h=>hl (Gq.1 h)),if_neg hl];refine congrArg some (congrArg Sum.inl (congrArg (Prod.mk _) (Prod.ext ?_ rfl)));refine congrArg (fun f=>(List.range N).map f) (funext fun p =>?_)
   by_cases h:p=i
   ·subst h;rw[if_pos rfl,if_pos (by omega)];unfold FE;rw[if_neg hl]
   omega
 ·rintro _ rfl;refine⟨_,?_,rfl⟩;simp only[mT];simp_all
def afg (N:Nat) (tk:List Tk):BF N tk (FE tk) [] (p9 tk N) 0 0:=by
 have c:∀p,p∈p9 tk N↔p<N∧0<ib tk p:=fun p=>by unfold p9;simp_all
 have d:∀p,0<ib tk p->FE tk p=0:=fun p h=>if_pos h;have e:∀p,¬0<ib tk p->FE tk p = -1:=fun p h=>if_neg h;constructor
 ·rw[amU];unfold p9;exact List.nodup_range.filter _
 ·simp_all
 ·grind
 ·grind
 ·grind
 ·grind
 ·simp_all
 ·refine List.Pairwise.imp_of_mem (R:=fun _ _=>True) (fun {a b} f g _ =>?_) (List.pairwise_of_forall (fun _ _=>trivial));simp_all
 ·simp_all
 ·simp_all
 grind
def adG {K:Nat} (e:lW N tk) (g:K<=1000000) (h:∀t∈tk,LF t.2.2<=K):∃r,kC (sM N tk)=some ((List.range N).map r)∧sB N tk r:=by
 have f:=e.ports;have a:=e.takes;have c:∀t∈tk,t.1<N∧t.2.1<N:=fun t d=>⟨(e.ok t d).1,(e.ok t d).2.1⟩;obtain⟨b,i,j⟩:=MY (n:=sM N tk) g (fun t d=>by
  simp only[sM,alp]at d;obtain⟨l,k,rfl⟩:=d;exact xl (h l k))
 obtain rfl:b=true:=j.2 ⟨N,tk,rfl,e⟩;obtain⟨m,k,o⟩:=Vy (afg N tk) c a f;refine⟨m,?_,o⟩;unfold kC;rw[i,amN];simp only[amC,alY,if_false];have p:(sM N tk).aC=(N:Int):=rfl;rw[p,Fy _ (by omega) f,amN,Y2 (L:=0) c a,amN,Fy _ (by omega) f,amN,RY f a (fun t d=>(c t d).1) g h,amN,ZM f a g h,amN];simp_all
def qm (N:Nat) (r:Nat->Int):List Nat:=(List.range N).filter fun p=>decide (r p = -1)
def VZ (n:Nat) (r:Nat->Int):qm (n+1) r=if r n = -1 then qm n r++[n] else qm n r:=by
 unfold qm;rw[anP,anO];grind
def V0 {r:Nat->Int} (g:N<=2000) (h:kC (sM N tk)=some ((List.range N).map r)):mh (sM N tk)=some (mM (qm N r)):=by
 unfold mh;rw[h,amN];have key:=fun b c=>tp (body:=kD ((List.range N).map r)) (List.range N) (by simp;omega) (fun i l=>l=mM (qm i r)) (fun l=>l=mM (qm N r)) (s0:=([]:List Int)) rfl b c;have j:aR (kD ((List.range N).map r)) ((0:Int),[])=some (mM (qm N r)):=by
  refine (key ?_ ?_).elim fun x ⟨d,hx⟩=>hx ▸ d
  ·rintro i x _ hx rfl;have e:i<N:=by grind
   have f:(qm i r).length<=i:=by unfold qm;grind
   refine⟨_,?_,rfl⟩;simp only[kD];rw[if_pos (by simp;omega),aT (dJ r e),amN,bg (by omega),VZ]
   by_cases a:r i = -1
   ·rw[if_pos (by rw[a];rfl),JY (by rw[sb];simp;omega),amN,if_pos a];unfold mM;simp
   simp_all
  ·rintro _ rfl;refine⟨_,?_,rfl⟩;simp only[kD];simp_all
 simp_all
end Go.Proofs.YtobnihfgnbnncaaGreat.P
namespace Go.Proofs.YtobnihfgnbnncaaGreat.P
open Go.RowKit
def sm:Nat->(Nat->Rat)->Rat
 | 0,_=>0
 | n+1,f=>sm n f+f n
def Jt {n:Nat} {f g:Nat->Rat} (h:∀i,i<n->f i=g i):sm n f=sm n g:=by
 induction n with
 | zero=>rfl
 | succ n a=>rw[sm,sm,a fun i b=>h i (by omega),h n (by omega)]
def adR (n:Nat) (f g:Nat->Rat):sm n (fun i=>f i+g i)=sm n f+sm n g:=by
 induction n with
 | zero=>simp only[sm];grind
 | succ n a=>simp only[sm];rw[a];grind
def adS (n:Nat) (f g:Nat->Rat):sm n (fun i=>f i-g i)=sm n f-sm n g:=by
 induction n with
 | zero=>simp only[sm];grind
 | succ n a=>simp only[sm];rw[a];grind
def EA {n:Nat} {f:Nat->Rat} (h:∀i,i<n->0<=f i):0<=sm n f:=by
 induction n with
 | zero=>simp only[sm];grind
 | succ n a =>
  have b:=a fun i c=>h i (by omega);have d:=h n (by omega);simp only[sm];grind
def Yh {n:Nat} {f:Nat->Rat} (h:∀i,i<n->0<=f i) (a:sm n f<=0):∀i,i<n->f i=0:=by
 induction n with
 | zero=>intro i b;omega
 | succ n c =>
  have d:=EA (n:=n) fun i b=>h i (by omega);have e:=h n (by omega);simp only[sm]at a;grind
def afZ (n:Nat):sm n (fun _=>0)=0:=by
 induction n with
 | zero=>rfl
 | succ n a=>simp only[sm];rw[a];grind
def Nc {n t:Nat} (v:Rat) (h:t<n):sm n (fun p=>if t=p then v else 0)=v:=by
 induction n with
 | zero=>omega
 | succ n b =>
  simp only[sm]
  by_cases a:t=n
  ·subst a;rw[Jt (g:=fun _=>0) fun i c=>if_neg (by omega),afZ,if_pos rfl];grind
  grind
def CU:List Tk->(Nat->Rat)->Nat->Rat
 | [],_,_=>0
 | t::l,x,p=>(if t.2.1=p then t.2.2*x t.1 else 0)+CU l x p
def Xu (l:List Tk) (c:Rat) (x:Nat->Rat) (p:Nat):CU l (fun j=>c*x j) p=c*CU l x p:=by
 induction l with
 | nil=>simp only[CU];grind
 | cons t l a=>simp only[CU];grind
def Ig {x y:Nat->Rat} {p:Nat} : ∀ {l:List Tk},(∀t∈l,0<=t.2.2)->(∀t∈l,t.2.1=p->x t.1<=y t.1)->CU l x p<=CU l y p
 | [],_,_=>by simp only[CU];grind
 | t::l,h0,h=>by
  simp only[CU];have c:=Ig (l:=l) (fun t a=>h0 t (amI _ a)) fun t a=>h t (amI _ a);have a:=h0 t (amH ..)
  by_cases b:t.2.1=p
  ·rw[if_pos b,if_pos b];have:=Rat.mul_le_mul_of_nonneg_left (h t (amH ..) b) a;grind
  grind
def Ih {x:Nat->Rat} {p:Nat} {l:List Tk} (a:∀t∈l,0<=t.2.2) (h:∀t∈l,t.2.1=p->0<=x t.1):0<=CU l x p:=by
 have:=Ig (x:=fun _=>0) (y:=x) (p:=p) a h;have b:CU l (fun _=>0) p=0:=by
  have:=Xu l 0 (fun _=>0) p;simp_all
 grind
def acP {x:Nat->Rat} {p:Nat} : ∀ {l:List Tk},(∀t∈l,0<=t.2.2)->(∀t∈l,t.2.1=p->0<=x t.1)->∀t∈l,t.2.1=p->t.2.2*x t.1<=CU l x p
 | [],_,_,t,a,_=>by cases a
 | t::l,h0,h,u,hu,c=>by
  simp only[CU];have d:=Ih (x:=x) (p:=p) (l:=l) (fun t a=>h0 t (amI _ a)) fun t a=>h t (amI _ a);rcases alx.1 hu with rfl|hu
  ·grind
  ·have e:=acP (x:=x) (p:=p) (l:=l) (fun t a=>h0 t (amI _ a)) (fun t a=>h t (amI _ a)) u hu c
   by_cases b:t.2.1=p
   ·rw[if_pos b];have:=anQ (h0 t (amH ..)) (h t (amH ..) b);grind
   grind
def Xv {N:Nat} (x:Nat->Rat):∀ {l:List Tk},(∀t∈l,t.1<N∧t.2.1<N)->sm N (fun p=>CU l x p)=sm N (fun q=>v8 l q*x q)
 | [],_=>by simp only[CU,v8];simp_all
 | t::l,h=>by
  simp only[CU,v8];obtain⟨a,b⟩:=h t (amH ..);rw[adR,Nc _ b,Xv x fun t c=>h t (amI _ c)];have:sm N (fun q=>((if t.1=q then t.2.2 else 0)+v8 l q)*x q)=sm N (fun q=>(if t.1=q then t.2.2*x t.1 else 0)+v8 l q*x q):=Jt fun q _=>by
   grind
  rw[this,adR,Nc _ a]
variable {N:Nat} {tk:List Tk} {r:Nat->Int}
def lW.pos (a:lW N tk):∀t∈tk,0<=t.2.2:=fun t b=>by have:=(a.ok t b).2.2;grind
def lW.rng (a:lW N tk):∀t∈tk,t.1<N∧t.2.1<N:=fun t b=>⟨(a.ok t b).1,(a.ok t b).2.1⟩
def JS (b:lW N tk) (j:sB N tk r) (n:∀p,p<N->0<=r p) {y:Nat->Rat} (hy:∀p,p<N->0<=y p) (o:∀p,p<N->y p<=CU tk y p):∀p,p<N->y p=0:=by
 have s:=Xv y b.rng;have c:∀p,p<N->0<=ib tk p*y p:=fun p a=>anQ (b.leak p a) (hy p a);have d:∀p,p<N->0<=CU tk y p-y p:=fun p a=>by grind
 have C:sm N (fun p=>ib tk p*y p)=sm N y-sm N (fun q=>v8 tk q*y q):=by
  rw[<- adS];exact Jt fun p _=>by unfold ib;grind
 have D:sm N (fun p=>CU tk y p-y p)=sm N (fun q=>v8 tk q*y q)-sm N y:=by rw[adS,s]
 have E:=EA c;have F:=EA d;have G:=Yh c (by grind);have v:=Yh d (by grind);have key:∀(k:Nat) p,p<N->r p=(k:Int)->y p=0:=by
  intro k
  induction k with
  | zero =>
   intro p a l;have H:=(j.zero p a).1 l;grind
  | succ k w =>
   intro p a l;obtain⟨t,g,rfl,z⟩:=j.down p a (by omega);have f:=(b.rng t g).2;have I:=w t.2.1 f (by omega);have e:=v t.2.1 f;have A:=acP (x:=y) (p:=t.2.1) b.pos (fun u B _=>hy _ (b.rng u B).1) t g rfl;have m:=(b.ok t g).2.2;have i:=hy t.1 a;have J:t.2.2*y t.1<=0:=by grind
   have K:=anQ (show 0<=t.2.2 by grind) i;rcases Rat.mul_eq_zero.1 (show t.2.2*y t.1=0 by grind) with h|h
   ·grind
   ·exact h
 intro p a;have:=n p a;exact key (r p).toNat p a (by omega)
def aeK (N:Nat) (tk:List Tk) (d x:Nat->Rat):Prop:=∀p,p<N->x p=d p+CU tk x p
def VJ (a:lW N tk) (b:sB N tk r) (c:∀p,p<N->0<=r p) {d x:Nat->Rat} (e:aeK N tk d x) (k:∀p,p<N->0<=d p):∀p,p<N->0<=x p:=by
 intro p f;have:=JS a b c (y:=fun j=>if 0<=x j then 0 else -x j) (fun j _=>by grind) (fun q g=>by
  have h:0<=CU tk (fun j=>if 0<=x j then 0 else -x j) q:=Ih a.pos fun t _ _=>by grind
  try simp only
  split
  ·exact h
  ·have i:=Ig (l:=tk) (p:=q) (x:=fun j => -1*x j) (y:=fun j=>if 0<=x j then 0 else -x j) a.pos fun t _ _=>by grind
   rw[Xu]at i;have:=e q g;grind) p f
 grind
end Go.Proofs.YtobnihfgnbnncaaGreat.P
namespace Go.Proofs.YtobnihfgnbnncaaGreat.P
open Go.RowKit
abbrev Tm:=Nat×Rat
def kT (t:Tm):gi:=gi.mk (t.1:Int) (bJ t.2)
structure QE where
 D:Rat
 T:List Tm
def mkEq (e:QE):aL:=aL.mk (bJ e.D) (e.T.map kT)
def eT:List Tm->(Nat->Rat)->Rat
 | [],_=>0
 | t::l,x=>t.2*x t.1+eT l x
def rX (a b:List Tm) (x:Nat->Rat):eT (a++b) x=eT a x+eT b x:=by
 induction a with
 | nil=>simp only[List.nil_append,eT];grind
 | cons t a c=>simp only[List.cons_append,eT];rw[c];grind
abbrev kJ (T:List Tm):Prop:=T.Pairwise fun a b=>a.1<b.1
def qz (T:List Tm) (k:Nat):List Tm:=T.filter fun t=>decide (t.1<k)
def Gm (T:List Tm) (k:Nat):List Tm:=T.filter fun t=>decide (k<t.1)
def gx:List Tm->Nat->Option Rat
 | [],_=>none
 | t::l,k=>if t.1=k then some t.2 else gx l k
def Vi {T:List Tm} {k:Nat} {t:Tm} : t∈qz T k↔t∈T∧t.1<k:=by unfold qz;simp_all
def Iy {T:List Tm} {k:Nat} {t:Tm} : t∈Gm T k↔t∈T∧k<t.1:=by unfold Gm;simp_all
def Vh {T:List Tm} {k:Nat} (h:∀t∈T,k<=t.1):qz T k=[]:=by
 unfold qz;rw[List.filter_eq_nil_iff];grind
def acN {T:List Tm} {k:Nat} (h:∀t∈T,k<t.1):Gm T k=T:=by
 unfold Gm;rw[List.filter_eq_self];grind
def Y9 {T:List Tm} {k:Nat} (h:∀t∈T,t.1≠k):gx T k=none:=by
 induction T with
 | nil=>rfl
 | cons t T a=>rw[gx,if_neg (h t (amH ..)),a fun u b=>h u (amI _ b)]
def Au {k:Nat} : ∀ {T:List Tm},kJ T->(gx T k=none∧T=qz T k++Gm T k)∨∃c,gx T k=some c∧T=qz T k++(k,c)::Gm T k
 | [],_ =>.inl ⟨rfl,rfl⟩
 | t::T,h=>by
  obtain⟨e,f⟩:=amP.1 h;rcases anR t.1 k with hk|hk|hk
  ·have a:qz (t::T) k=t::qz T k:=anS (by simpa using hk);have b:Gm (t::T) k=Gm T k:=List.filter_cons_of_neg (by simp;omega);have g:gx (t::T) k=gx T k:=by rw[gx,if_neg (by omega)]
   rw[a,b,g];rcases Au (k:=k) f with⟨i,j⟩|⟨c,i,j⟩
   ·grind
   grind
  ·subst hk;have a:qz (t::T) t.1=[]:=Vh fun u d=>by
    grind
   have b:Gm (t::T) t.1=T:=by
    rw[show Gm (t::T) t.1=Gm T t.1 from List.filter_cons_of_neg (by simp),acN e]
   refine .inr ⟨t.2,by rw[gx,if_pos rfl],?_⟩;rw[a,b];rfl
  ·have a:qz (t::T) k=[]:=Vh fun u d=>by
    grind
   have b:Gm (t::T) k=t::T:=acN fun u d=>by
    grind
   refine .inl ⟨Y9 fun u d =>?_,by rw[a,b];rfl⟩;grind
def oP (T:List Tm) (k:Nat):List Tm:=qz T k++Gm T k
def OA (T:List Tm) (k:Nat) (a:Rat):List Tm:=qz T k++(k,a)::Gm T k
def GO (T:List Tm) (k:Nat) (v:Rat):List Tm:=OA T k ((gx T k).getD 0+v)
def kS {T:List Tm} {k:Nat} {t:Tm} : t∈oP T k↔t∈T∧t.1≠k:=by
 unfold oP;rw[amG,Vi,Iy];grind
def OF {T:List Tm} {k:Nat} {a:Rat} {t:Tm} : t∈OA T k a↔t=(k,a)∨t∈oP T k:=by
 unfold OA oP;grind
def Jv {T:List Tm} (h:kJ T) (k:Nat):kJ (oP T k):=by
 unfold oP;rw[kJ,List.pairwise_append];refine⟨h.filter _,h.filter _,fun a c b d =>?_⟩;have:=(Vi.1 c).2;have:=(Iy.1 d).2;omega
def adW {T:List Tm} (h:kJ T) (k:Nat) (a:Rat):kJ (OA T k a):=by
 unfold OA;rw[kJ,List.pairwise_append,amP];refine⟨h.filter _,⟨fun b c=>(Iy.1 c).2,h.filter _⟩,fun x d b c =>?_⟩;have e:=(Vi.1 d).2;rcases alx.1 c with rfl|c
 ·exact e
 ·have:=(Iy.1 c).2;omega
def Aj {T:List Tm} (h:kJ T) (k:Nat) (x:Nat->Rat):eT T x=eT (oP T k) x+(gx T k).getD 0*x k:=by
 rcases Au (k:=k) h with⟨a,b⟩|⟨c,a,b⟩
 ·rw[a];unfold oP;grind
 ·have e:eT T x=eT (qz T k++(k,c)::Gm T k) x:=by rw[<- b]
  rw[e,a];unfold oP;rw[rX,rX];simp only[eT,Option.getD_some];grind
def afp {T:List Tm} (k:Nat) (a:Rat) (x:Nat->Rat):eT (OA T k a) x=eT (oP T k) x+a*x k:=by
 unfold OA oP;rw[rX,rX];simp only[eT];grind
def afn {T:List Tm} (h:kJ T) (k:Nat) (v:Rat) (x:Nat->Rat):eT (GO T k v) x=eT T x+v*x k:=by
 unfold GO;rw[afp,Aj h k x];grind
def rO {T:List Tm} {k:Nat} {c:Rat} (h:gx T k=some c):(k,c)∈T:=by
 induction T with
 | nil=>cases h
 | cons t T a =>
  rw[gx]at h;grind
def Ml {x y:Nat->Rat} : ∀ {T:List Tm},(∀t∈T,x t.1=y t.1)->eT T x=eT T y
 | [],_=>rfl
 | t::T,h=>by rw[eT,eT,h t (amH ..),Ml fun u a=>h u (amI _ a)]
def xA {x:Nat->Rat} : ∀ {T:List Tm},(∀t∈T,0<=t.2)->(∀t∈T,0<=x t.1)->0<=eT T x
 | [],_,_=>by simp only[eT];grind
 | t::T,h,hx=>by
  have b:=anQ (h t (amH ..)) (hx t (amH ..));have c:=xA (T:=T) (fun u a=>h u (amI _ a)) fun u a=>hx u (amI _ a);simp only[eT];grind
def afo (T:List Tm) (c:Rat) (x:Nat->Rat):eT (T.map fun t=>(t.1,t.2 / c)) x=eT T x / c:=by
 induction T with
 | nil=>simp only[amb,eT];grind
 | cons t T a=>simp only[alw,eT];rw[a];grind
structure Wx (N K:Nat) (T:List Tm):Prop where
 sorted:kJ T
 lt:∀t∈T,t.1<N
 sz:∀t∈T,LF t.2<=K
def Wx.len {N K:Nat} {T:List Tm} (h:Wx N K T):T.length<=N:=by
 have a:=C3 N (T.map (·.1)) (by
  rw[List.Nodup,anr];exact h.sorted.imp fun h=>by omega) (fun x b=>by
  obtain⟨t,c,rfl⟩:=alp.1 b;exact h.lt t c)
 simpa using a
def Wx.rem {N K:Nat} {T:List Tm} (h:Wx N K T) (k:Nat):Wx N K (oP T k):=⟨Jv h.sorted k,fun t a=>h.lt t (kS.1 a).1,fun t a=>h.sz t (kS.1 a).1⟩
def Wx.mono {N K a:Nat} {T:List Tm} (h:Wx N K T) (b:K<=a):Wx N a T:=⟨h.sorted,h.lt,fun t c=>als (h.sz t c) b⟩
def ajx (x:Int):B1 .u64 x 1=some (x / 2):=by
 unfold B1;rw[if_neg (by decide)];have e:(2:Int) ^ (min (Int.toNat 1) IntKind.u64.bits)=2:=by decide
 grind
def agR {k:Nat} : ∀ {T:List Tm},kJ T->∀(i:Nat) t,T[i]? = some t->(t.1<k↔i<(qz T k).length)
 | [],_,i,t,h=>by simp at h
 | a::T,hs,i,t,h=>by
  obtain⟨e,c⟩:=amP.1 hs
  by_cases d:a.1<k
  ·have b:qz (a::T) k=a::qz T k:=anS (by simpa using d);rw[b,ama];cases i with
   | zero=>simp_all
   | succ i =>
    have:=agR (k:=k) c i t (by simpa using h);omega
  ·have b:qz (a::T) k=[]:=Vh fun u f=>by
    grind
   grind
def HK (t:Tm) (k:Nat):eF (kT t) (k:Int)=some (mD (t.1:Int) (k:Int)):=by
 unfold eF;rw[DD];rfl
def Qs {a b:Int} : mD a b<0↔a<b:=by unfold mD;omega
def Lk {a b:Int} : mD a b=0↔a=b:=by unfold mD;omega
def Uw {T:List Tm} (n:kJ T) (y:T.length<=2000) (k:Nat) :
  bK (T.map kT) (k:Int)=some (((qz T k).length:Int),(gx T k).isSome):=by
 have f:(qz T k).length<=T.length:=anT ..;have key:=fun g=>CX (body:=cv (T.map kT) (k:Int)) (I:=fun (s:Int×Int)=>∃b a:Nat,s=((b:Int),(a:Int))∧b<=(qz T k).length∧(qz T k).length<=a∧a<=T.length) (μ:=fun (s:Int×Int)=>(s.2-s.1).toNat)
  (fun r=>r=((qz T k).length:Int)) (s:=(0,((T.map kT).length:Int))) ⟨0,T.length,by simp,by omega,f,alq _⟩ (by simp only[alU];unfold FU;omega) g
 obtain⟨r,i,rfl⟩:=key (by
  rintro _ ⟨b,a,rfl,i,o,p⟩;simp only[cv]
  by_cases q:b<a
  ·have j:(b+a) / 2<T.length:=by omega
   have e:(T.map kT)[(b+a) / 2]? = some (kT T[(b+a) / 2]):=by simp_all
   have d:=agR (k:=k) n ((b+a) / 2) _ (alE j);have t:IntKind.i64.wrap ((b:Int)+a)=(b:Int)+a:=wrap64 (by omega) (by omega);have u:IntKind.u64.wrap ((b:Int)+a)=(b:Int)+a:=wu (by omega);have v:IntKind.i64.wrap (((b:Int)+a) / 2)=(((b+a) / 2:Nat):Int):=by rw[wrap64 (by omega) (by omega)];omega
   rw[if_pos (by simpa using q),t,u,ajx,amN,v,aT e,amN,HK,amN];refine .inl ?_
   by_cases w:T[(b+a) / 2].1<k
   ·rw[if_pos (by simp only[decide_eq_true_eq];exact Qs.2 (by omega)),bg (by omega)];refine⟨_,rfl,⟨(b+a) / 2+1,a,rfl,by omega,o,p⟩,?_⟩;simp only;omega
   ·rw[if_neg (by simp only[decide_eq_true_eq];intro h;exact w (by have:=Qs.1 h;omega))];refine⟨_,rfl,⟨b,(b+a) / 2,rfl,i,by omega,by omega⟩,?_⟩;simp only;omega
  grind)
 unfold bK;rw[i,amN];rcases Au (k:=k) n with⟨l,x⟩|⟨c,l,x⟩
 ·rw[l]
  by_cases d:(qz T k).length<T.length
  ·have e:(T.map kT)[(qz T k).length]? = some (kT T[(qz T k).length]):=by grind
   rw[if_pos (by simpa using d),aT e,amN,HK,amN];have hne:T[(qz T k).length].1≠k:=by
    have j:T[(qz T k).length]∈qz T k++Gm T k:=by grind
    rcases amG.1 j with h|h
    ·grind
    ·have:=(Iy.1 h).2;omega
   have:mD (T[(qz T k).length].1:Int) (k:Int)≠0:=fun h=>hne (by have:=Lk.1 h;omega);simp[this]
  grind
 ·rw[l];have m:T[(qz T k).length]? = some (k,c):=by
   grind
  have d:=aU m;have e:(T.map kT)[(qz T k).length]? = some (kT (k,c)):=by grind
  rw[if_pos (by simpa using d),aT e,amN,HK,amN];have:mD ((k,c).1:Int) (k:Int)=0:=Lk.2 rfl;rw[this];rfl
def find_eq {e:QE} (a:kJ e.T) (b:e.T.length<=2000) (k:Nat):dF (mkEq e) (k:Int)=some (mkEq e,((qz e.T k).length:Int),(gx e.T k).isSome):=by
 unfold dF mkEq;rw[Uw a b,amN]
def Ja {a x y:Rat} (h:LF a+(LF x+LF y)+1<=eL):kb (bJ a) (bJ x) (bJ y)=some (bJ (a+x*y)):=by
 unfold kb;have:=sA x y;rw[KJ (by omega),amN];simp only;rw[yA (by omega),amN]
def Ki:fb 0=some (bJ 0):=aa6 (n:=0) (by decide)
def GD:LF 1<=1:=Bb (n:=1) (by decide)
def aa8:LF 0<=1:=Bb (n:=0) (by decide)
def aiF (e:QE) (k:Nat) (v:Rat):QE:=⟨e.D,GO e.T k v⟩
def aiG {N K:Nat} {e:QE} (d:Wx N K e.T) (q:N<=2000) {k:Nat} {v:Rat} (h:K+LF v+10<=eL):fI (mkEq e) (k:Int) (bJ v)=some (mkEq (aiF e k v),()):=by
 have r:=d.len;unfold fI;rw[find_eq d.sorted (by omega),amN];simp only;have g:=GD;rcases Au (k:=k) d.sorted with⟨a,i⟩|⟨c,a,i⟩
 ·rw[a];simp only[Option.isSome_none,alY,if_false];have j:(qz e.T k).length<=e.T.length:=anT ..;have b:acR 72 (mkEq e).cO ((qz e.T k).length:Int) [gi.mk (k:Int) (bJ v)]=some ((GO e.T k v).map kT):=by
   unfold acR mkEq;simp only[alU,List.length_cons,List.length_nil,Int.toNat_natCast];rw[if_pos ⟨by omega,by omega,by omega,by omega⟩];congr 1;have f:e.T.map kT=(qz e.T k).map kT++(Gm e.T k).map kT:=by grind
   unfold GO OA;rw[a,f,List.take_left' (by simp),List.drop_left' (by simp),amE,alw];simp only[Option.getD_none,List.cons_append,List.nil_append];congr 2;unfold kT;grind
  rw[b];rfl
 ·rw[a];simp only[Option.isSome_some,if_true];have l:e.T[(qz e.T k).length]? = some (k,c):=by
   grind
  have m:(e.T.map kT)[(qz e.T k).length]? = some (kT (k,c)):=by grind
  have n:LF c<=K:=d.sz (k,c) (rO a);have o:(mkEq e).cO=e.T.map kT:=rfl;rw[o,aT m,amN,afk,amN];simp only[kT];rw[Ja (by omega),amN,amk];unfold aiF GO OA mkEq;rw[a];simp only[Option.getD_some];have f:e.T.map kT=(qz e.T k).map kT++kT (k,c)::(Gm e.T k).map kT:=by grind
  have p:((e.T.map fun t=>gi.mk (t.1:Int) (bJ t.2)).set (qz e.T k).length (gi.mk (k:Int) (bJ (c+v*1))))=(qz e.T k++(k,c+v)::Gm e.T k).map kT:=by
   show (e.T.map kT).set (qz e.T k).length _=_;rw[f,List.set_append_right _ _ (by simp),alU,amx,List.set_cons_zero,amE,alw];unfold kT;grind
  rw[<- p];rfl
def kz (e:QE) (p:Nat):QE:=match gx e.T p with|none=>e|some c=>⟨e.D / (1-c),(oP e.T p).map fun t=>(t.1,t.2 / (1-c))⟩
def abW {T:List Tm} {k:Nat} {c:Rat} (e:T.length<=2000) (g:T=qz T k++(k,c)::Gm T k):abV (T.map kT) ((qz T k).length:Int) (IntKind.i64.wrap (((qz T k).length:Int)+1))=some ((oP T k).map kT):=by
 have a:T.length=(qz T k).length+1+(Gm T k).length:=by
  grind
 rw[bg (by omega)];unfold abV;have:(2000:Nat)<=maxLen:=by decide
 rw[if_pos ⟨by omega,by omega,by simp;omega,by simp;omega⟩,amk,amk];have b:T.map kT=(qz T k).map kT++kT (k,c)::(Gm T k).map kT:=by grind
 rw[b,List.take_left' (by simp)];have d:((qz T k).map kT++kT (k,c)::(Gm T k).map kT).drop ((qz T k).length+1)=(Gm T k).map kT:=by
  rw[amW,amX (by simp)];simp
 rw[d];unfold oP;grind
def agt {a b:Rat} (h:LF a+LF b<=eL) (c:b≠0):rS (bJ a) (bJ b)=some (bJ (a / b),0):=aiy h c
def afr {N K:Nat} {e:QE} (a:Wx N K e.T) (G:LF e.D<=K) (H:N<=2000) (I:2*K+10<=eL) {p:Nat} (s:∀c,gx e.T p=some c->1-c≠0):eQ (mkEq e) (p:Int)=some (mkEq (kz e p),()):=by
 have J:=a.len;unfold eQ;rw[find_eq a.sorted (by omega),amN];simp only;have m:=GD;unfold kz;rcases Au (k:=p) a.sorted with⟨b,n⟩|⟨c,b,n⟩
 ·rw[b];rfl
 ·rw[b];simp only[Option.isSome_some,amC,alY,if_false];have v:e.T[(qz e.T p).length]? = some (p,c):=by
   grind
  have w:(e.T.map kT)[(qz e.T p).length]? = some (kT (p,c)):=by grind
  have x:LF c<=K:=a.sz (p,c) (rO b);have o:=s c b;have y:(mkEq e).cO=e.T.map kT:=rfl;have z:(mkEq e).bT=bJ e.D:=rfl;rw[afk,amN,y,aT w,amN];simp only[kT];have A:=Uk 1 c;rw[Wv (by omega),amN];have B:iS (e.T.map kT) ((qz e.T p).length:Int) (IntKind.i64.wrap (((qz e.T p).length:Int)+1))=some ((oP e.T p).map kT):=by unfold iS;exact abW (by omega) n
  rw[B,amN,z];simp only;rw[agt (by omega) o,amN];have C:=(a.rem p).len;have key:=fun D d=>tp (body:=fR (bJ (1-c),0) ((oP e.T p).map kT)) (oP e.T p) (by omega) (fun i (l:List gi)=>l.length=(oP e.T p).length∧∀(j:Nat) t,(oP e.T p)[j]? = some t->l[j]? = some (if j<i then kT (t.1,t.2 / (1-c)) else kT t)) (fun l=>l=((oP e.T p).map fun t=>(t.1,t.2 / (1-c))).map kT) (s0:=(oP e.T p).map kT)
   ⟨by simp,fun j t h=>by grind⟩ D d
  obtain⟨r,E,rfl⟩:=key (by
   rintro i t l h ⟨f,q⟩;have M:=aU h;have g:=q i t h;rw[if_neg (by omega)]at g;have F:=a.sz t (kS.1 (alR h)).1;refine⟨l.set i (kT (t.1,t.2 / (1-c))),?_,by simpa using f,fun j u O =>?_⟩
   ·simp only[fR];rw[if_pos (by simp;omega),aT g,amN];simp only[kT];rw[agt (by omega) o,amN,bg (by omega),amk]
   ·rw[anU];grind) (by
   rintro l ⟨f,q⟩;refine⟨l,?_,?_⟩
   ·simp only[fR];grind
   ·apply anp;grind)
  rw[E,amN];rfl
def lN (c:Rat):List Tm->List Tm->List Tm
 | [],T=>T
 | b::B,T=>lN c B (GO T b.1 (c*b.2))
def Er (e:QE) (p:Nat) (b:QE):QE:=match gx e.T p with|none=>e|some c=>⟨e.D+c*b.D,lN c b.T (oP e.T p)⟩
def xm (c:Rat):∀(A B T:List Tm),lN c (A++B) T=lN c B (lN c A T)
 | [],_,_=>rfl
 | a::A,B,T=>by rw[am7,lN,lN,xm c A B]
def KM {T:List Tm} (h:kJ T) (k:Nat) (v:Rat):kJ (GO T k v):=adW h k _
def HM (c:Rat):∀(B:List Tm) {T:List Tm},kJ T->kJ (lN c B T)
 | [],_,h=>h
 | b::B,_,h=>HM c B (KM h _ _)
def RZ (c:Rat) (x:Nat->Rat):∀(B:List Tm) {T:List Tm},kJ T->eT (lN c B T) x=eT T x+c*eT B x
 | [],T,_=>by simp only[lN,eT];grind
 | b::B,T,h=>by
  rw[lN,RZ c x B (KM h _ _),afn h,eT];grind
def Bp (c:Rat) {R:Nat->Prop} : ∀(B:List Tm) {T:List Tm},(∀t∈T,R t.1)->(∀b∈B,R b.1)->∀t∈lN c B T,R t.1
 | [],_,h,_=>h
 | b::B,T,h,hB=>Bp c B (T:=GO T b.1 (c*b.2)) (fun t a=>by
   rcases OF.1 a with rfl|a
   ·simp_all
   ·exact h t (kS.1 a).1) fun u d=>hB u (amI _ d)
def Rg {c:Rat} (f:0<=c):∀(B:List Tm) {T:List Tm},(∀t∈T,0<=t.2)->(∀b∈B,0<=b.2)->∀t∈lN c B T,0<=t.2
 | [],_,h,_=>h
 | b::B,T,h,hB=>Rg f B (T:=GO T b.1 (c*b.2)) (fun t d=>by
   rcases OF.1 d with rfl|d
   ·have i:=anQ f (hB b (amH ..));simp only;cases e:gx T b.1 with
    | none=>grind
    | some a=>have:=h _ (rO e);grind
   ·exact h t (kS.1 d).1) fun u g=>hB u (amI _ g)
def Xo {K1 K2:Nat} {c:Rat} (n:LF c<=K1):∀(A B:List Tm) {T:List Tm},kJ (A++B)->(∀b∈A++B,LF b.2<=K2)->(∀t∈T,LF t.2<=K1)->∀t∈lN c A T,LF t.2<=2*K1+K2+1∧((∀a∈A,a.1≠t.1)->LF t.2<=K1)
 | [],_,_,_,_,h,t,d=>⟨by have:=h t d;omega,fun _=>h t d⟩
 | a::A,B,T,hs,g,h,t,d=>by
  obtain⟨e,z,f⟩:∃e z,a::A=e++[z]:=⟨(a::A).dropLast,(a::A).getLast (by simp),(List.dropLast_concat_getLast (by simp)).symm⟩;have j:e.length<(a::A).length:=by rw[f];simp
  rw[f,xm]at d;simp only[lN]at d;rw[f,am8]at hs g;have k:=Xo n e ([z]++B) (T:=T) hs g h;have o:=g z (alG _ (alF _ (amH ..)));rw[f];rcases OF.1 d with rfl|d
  ·refine⟨?_,fun hn=>absurd rfl (hn z (alG _ (amH ..)))⟩;simp only;have p:=sA c z.2;cases i:gx (lN c e T) z.1 with
   | none=>grind
   | some y =>
    have l:=(k _ (rO i)).2 fun u m=>by
     grind
    have:=oE y (c*z.2);grind
  ·obtain⟨l,h2⟩:=k t (kS.1 d).1;exact⟨l,fun hn=>h2 fun u m=>hn u (alF _ m)⟩
 termination_by A=>A.length
structure Ww (N K:Nat) (e:QE):Prop where
 t:Wx N K e.T
 d:LF e.D<=K
def Ww.mono {N K a:Nat} {e:QE} (h:Ww N K e) (b:K<=a):Ww N a e:=⟨h.t.mono b,als h.d b⟩
def ZF (c:Rat) {B:List Tm} {i:Nat} {b:Tm} (h:B[i]? = some b) (T:List Tm):lN c (B.take (i+1)) T=GO (lN c (B.take i) T) b.1 (c*b.2):=by
 obtain⟨a,d⟩:=alT.1 h;rw[anM a,xm,d];rfl
def Re {N a d:Nat} {c:Rat} (f:LF c<=a) {B T:List Tm} (hB:Wx N d B) (e:Wx N a T) (i:Nat):Wx N (2*a+d+1) (lN c (B.take i) T) where
 sorted:=HM c _ e.sorted
 lt:=Bp c (R:=fun p=>p<N) _ e.lt fun b g=>hB.lt b (al6 g)
 sz t h:=(Xo (K1:=a) (K2:=d) f (B.take i) (B.drop i) (by rw[am1];exact hB.sorted) (by rw[am1];exact hB.sz) e.sz t h).1
def afF {N d g:Nat} {e b:QE} (a:Ww N d e) (h:Ww N g b) (p:Nat):Ww N (2*d+g+1) (Er e p b):=by
 unfold Er;cases f:gx e.T p with
 | none=>exact a.mono (by omega)
 | some c =>
  have j:LF c<=d:=a.t.sz _ (rO f);have i:=Re j h.t (a.t.rem p) b.T.length;rw[ano]at i;refine⟨i,?_⟩;have k:=oE e.D (c*b.D);have l:=sA c b.D;have:=a.d;have:=h.d;simp only;omega
def Mp {N K:Nat} {e:QE} (b:Ww N K e) (p:Nat) (i:∀c,gx e.T p=some c->1-c≠0):Ww N (2*K+2) (kz e p):=by
 unfold kz;cases d:gx e.T p with
 | none=>exact b.mono (by omega)
 | some c =>
  have j:LF c<=K:=b.t.sz _ (rO d);have k:=Uk 1 c;have l:=GD;have h:=i c d;refine⟨⟨?_,?_,?_⟩,?_⟩
  ·simp only;rw[kJ,anr];exact (Jv b.t.sorted p)
  ·intro t f;simp only[alp]at f;obtain⟨u,g,rfl⟩:=f;exact b.t.lt u (kS.1 g).1
  ·intro t f;simp only[alp]at f;obtain⟨u,g,rfl⟩:=f;have:=b.t.sz u (kS.1 g).1;have:=aa7 (a:=u.2) h;grind
  ·have:=b.d;have:=aa7 (a:=e.D) h;grind
def ajb {N h q:Nat} {e b:QE} (a:Ww N h e) (f:Ww N q b) (w:N<=2000) (O:4*h+3*q+20<=eL) (p:Nat):fJ (mkEq e) (p:Int) (mkEq b)=some (mkEq (Er e p b),()):=by
 have P:=a.t.len;unfold fJ;rw[find_eq a.t.sorted (by omega),amN];simp only;unfold Er;rcases Au (k:=p) a.t.sorted with⟨g,u⟩|⟨c,g,u⟩
 ·rw[g];rfl
 ·rw[g];simp only[Option.isSome_some,amC,alY,if_false];have x:e.T[(qz e.T p).length]? = some (p,c):=by
   grind
  have y:(e.T.map kT)[(qz e.T p).length]? = some (kT (p,c)):=by grind
  have j:LF c<=h:=a.t.sz (p,c) (rO g);have z:=a.d;have A:=f.d;have B:=f.t.len;have C:(mkEq e).cO=e.T.map kT:=rfl;have D:(mkEq b).cO=b.T.map kT:=rfl;have E:(mkEq b).bT=bJ b.D:=rfl;have F:(mkEq e).bT=bJ e.D:=rfl;have G:iS (e.T.map kT) ((qz e.T p).length:Int) (IntKind.i64.wrap (((qz e.T p).length:Int)+1))=some ((oP e.T p).map kT):=by unfold iS;exact abW (by omega) u
  rw[C,aT y,amN,G,amN,F,E];have v:(kT (p,c)).jz=bJ c:=rfl;rw[v,Ja (by omega),amN];have key:=fun H d=>tp (body:=gI (mkEq b) (kT (p,c))) b.T (by omega) (fun i (s:Int×List Int×Int×List Int×List gi)=>s=((bJ (e.D+c*b.D)).bn.al,(bJ (e.D+c*b.D)).bn.aa,(bJ (e.D+c*b.D)).bu.al,(bJ (e.D+c*b.D)).bu.aa,(lN c (b.T.take i) (oP e.T p)).map kT))
   (fun s=>s=((bJ (e.D+c*b.D)).bn.al,(bJ (e.D+c*b.D)).bn.aa,(bJ (e.D+c*b.D)).bu.al,(bJ (e.D+c*b.D)).bu.aa,(lN c b.T (oP e.T p)).map kT)) (s0:=((bJ (e.D+c*b.D)).bn.al,(bJ (e.D+c*b.D)).bn.aa,(bJ (e.D+c*b.D)).bu.al,(bJ (e.D+c*b.D)).bu.aa,(oP e.T p).map kT)) rfl H d
  obtain⟨r,I,rfl⟩:=key (by
   rintro i t _ l rfl;have Q:=aU l;have m:=alR l;have J:=f.t.sz t m;have n:=Re j f.t (a.t.rem p) i;have R:=sA c t.2;have o:(b.T.map kT)[i]? = some (kT t):=by grind
   have S:=aa8;refine⟨_,?_,rfl⟩;simp only[gI];rw[if_pos (by grind),D,aT o,amN,Ki,amN];have K:(kT t).jz=bJ t.2:=rfl;have L:(kT t).qP=(t.1:Int):=rfl;rw[v,K,Ja (by omega),amN,Rat.zero_add,L];have M:aL.mk (ah.mk (aH.mk (bJ (e.D+c*b.D)).bn.al (bJ (e.D+c*b.D)).bn.aa) (aH.mk (bJ (e.D+c*b.D)).bu.al (bJ (e.D+c*b.D)).bu.aa)) ((lN c (b.T.take i) (oP e.T p)).map kT)=mkEq ⟨e.D+c*b.D,lN c (b.T.take i) (oP e.T p)⟩:=rfl;rw[M,aiG (e:=⟨e.D+c*b.D,lN c (b.T.take i) (oP e.T p)⟩) n w (by omega),amN,bg (by omega),ZF c l];rfl) (by
   rintro _ rfl;refine⟨_,?_,rfl⟩;simp only[gI];grind)
  rw[I,amN];rfl
def WX {T:List Tm} {k:Nat} (h:gx T k=none):∀t∈T,t.1≠k:=by
 induction T with
 | nil=>simp_all
 | cons u T a =>
  rw[gx]at h;grind
def Z2 {e:QE} (d:kJ e.T) {p:Nat} (f:∀c,gx e.T p=some c->1-c≠0) (s:Rat) (x:Nat->Rat):(1-(gx e.T p).getD 0)*(s*(kz e p).D+eT (kz e p).T x)=s*e.D+eT e.T x-(gx e.T p).getD 0*x p:=by
 unfold kz;have b:=Aj d p x;cases a:gx e.T p with
 | none=>grind
 | some c =>
  have g:=f c a;rw[a]at b;simp only[Option.getD_some]at b ⊢;rw[afo];grind
def afI {e b:QE} (d:kJ e.T) (p:Nat) (s:Rat) (x:Nat->Rat):s*(Er e p b).D+eT (Er e p b).T x=s*e.D+eT e.T x+(gx e.T p).getD 0*(s*b.D+eT b.T x-x p):=by
 unfold Er;have f:=Aj d p x;cases a:gx e.T p with
 | none=>grind
 | some c =>
  rw[a]at f;simp only[Option.getD_some]at f ⊢;rw[RZ c x _ (Jv d p)];grind
def iO (E0:Nat->QE):Nat->Nat->QE
 | 0,k=>E0 k
 | p+1,k=>if k<p then iO E0 p k else if k=p then kz (iO E0 p p) p else Er (iO E0 p k) p (kz (iO E0 p p) p)
def TS (K0:Nat):Nat->Nat
 | 0=>K0
 | p+1=>4*TS K0 p+3
def VP (a:Nat):∀p,TS a p+1=4 ^ p*(a+1)
 | 0=>by simp[TS]
 | p+1=>by
  have b:=VP a p;simp only[TS,Nat.pow_succ];grind
def aim (x:Nat->Rat) (p:Nat) (v:Rat):Nat->Rat:=fun j=>if j=p then v else x j
def GW (E:Nat->QE) (s:Rat):∀(p:Nat),(∀k,k<p->∀t∈(E k).T,k<t.1)->∀z:Nat->Rat,∃x:Nat->Rat,(∀j,p<=j->x j=z j)∧(∀k,k<p->x k=s*(E k).D+eT (E k).T x)∧(s=0->(∀j,0<=z j)->(∀k,k<p->∀t∈(E k).T,0<=t.2)->∀j,0<=x j)
 | 0,_,z=>⟨z,fun _ _=>rfl,fun k a=>by omega,fun _ h _=>h⟩
 | p+1,hp,z=>by
  obtain⟨x,b,g,d⟩:=GW E s p (fun k a=>hp k (by omega)) (aim z p (s*(E p).D+eT (E p).T z));refine⟨x,fun j i =>?_,fun k a =>?_,fun e hz hpos =>?_⟩
  ·rw[b j (by omega)];exact if_neg (by omega)
  ·by_cases c:k=p
   ·subst c;rw[b k (alq _),show aim z k (s*(E k).D+eT (E k).T z) k=s*(E k).D+eT (E k).T z from if_pos rfl];congr 1;refine Ml fun t f =>?_;have:=hp k (by omega) t f;rw[b t.1 (by omega)];exact (if_neg (by omega)).symm
   grind
  ·refine d e (fun j =>?_) fun k a=>hpos k (by omega);unfold aim;split
   ·have:=xA (x:=z) (hpos p (by omega)) fun t _=>hz t.1;grind
   ·exact hz j
def ahl {a b:Rat} (d:0<=a) (e:0<b):0<=a / b:=by
 have f:a / b*b=a:=Rat.div_mul_cancel (by grind)
 by_cases h:0<=a / b
 ·exact h
 ·exfalso;have g:0 <= -(a / b)*b:=anQ (by grind) (by grind);have c:a / b*b=0:=by grind
  rcases Rat.mul_eq_zero.1 c with h4|h4<;>grind
variable {N:Nat} {tk:List Tk} {r:Nat->Int}
structure wQ (N:Nat) (tk:List Tk) (d:Nat->Rat) (K0:Nat) (E:Nat->QE) (p:Nat):Prop where
 sz:∀k,k<N->p<=k->Ww N (TS K0 p) (E k)
 szd:∀k,k<p->Ww N (2*TS K0 k+2) (E k)
 up:∀k,k<p->∀t∈(E k).T,k<t.1
 ge:∀k,k<N->p<=k->∀t∈(E k).T,p<=t.1
 pos:∀k,k<N->∀t∈(E k).T,0<=t.2
 sem:∀(s:Rat) (x:Nat->Rat),(∀q,q<p->x q=s*(E q).D+eT (E q).T x)->(∀k,k<p->x k=s*d k+CU tk x k)∧∀k,k<N->p<=k->s*(E k).D+eT (E k).T x=s*d k+CU tk x k
def MN (g:lW N tk) (i:sB N tk r) (l:∀p,p<N->0<=r p) {d:Nat->Rat} {m:Nat} {E:Nat->QE} {p:Nat} (hE:wQ N tk d m E p) (n:p<N):∀c,gx (E p).T p=some c->c<1:=by
 intro c o
 by_cases b:c<1
 ·exact b
 exfalso;obtain⟨x,C,s,u⟩:=GW E 0 p hE.up (fun j=>if j=p then 1 else 0);have hx:=u rfl (fun j=>by split<;>grind) fun k D=>hE.pos k (by omega);obtain⟨F,f⟩:=hE.sem 0 x s;have e:x p=1:=by simp_all
 have v:∀j,p<j->x j=0:=fun j G=>by grind
 have:=JS g i l (y:=x) (fun q _=>hx q) (fun q a=>by
  rcases anR q p with h|h|h
  ·grind
  ·subst h;have w:=f q a (alq _);have z:=Aj (hE.sz q a (alq _)).t.sorted q x;rw[o,e]at z;have A:0<=eT (oP (E q).T q) x:=xA (fun t B=>hE.pos q a t (kS.1 B).1) fun t _=>hx t.1;grind
  ·have w:=f q a (by omega);have A:0<=eT (E q).T x:=xA (hE.pos q a) fun t _=>hx t.1;grind) p n
 grind
def Zz (H:lW N tk) (I:sB N tk r) (J:∀p,p<N->0<=r p) {d:Nat->Rat} {G:Nat} {i:Nat->QE} {p:Nat} (hE:wQ N tk d G (iO i p) p) (m:p<N):wQ N tk d G (iO i (p+1)) (p+1):=by
 have o:=MN H I J hE m;generalize B:iO i p=E at *;have K:∀k,iO i (p+1) k=if k<p then E k else if k=p then kz (E p) p else Er (E k) p (kz (E p) p):=fun k=>by rw[iO,B]
 have j:∀k,k<p->iO i (p+1) k=E k:=fun k e=>by rw[K,if_pos e]
 have C:iO i (p+1) p=kz (E p) p:=by simp_all
 have f:∀k,p<k->iO i (p+1) k=Er (E k) p (kz (E p) p):=fun k e=>by grind
 have v:∀c,gx (E p).T p=some c->1-c≠0:=fun c S=>by grind
 have g:=hE.sz p m (alq _);have L:=Mp g p v;have D:∀t∈(kz (E p) p).T,p<t.1:=by
  intro t b;unfold kz at b;cases a:gx (E p).T p with
  | none =>
   rw[a]at b;have n:=hE.ge p m (alq _) t b;have z:=WX a t b;omega
  | some c =>
   rw[a]at b;simp only[alp]at b;obtain⟨u,A,rfl⟩:=b;have n:=hE.ge p m (alq _) u (kS.1 A).1;have z:=(kS.1 A).2;omega
 have l:∀t∈(kz (E p) p).T,0<=t.2:=by
  intro t b;unfold kz at b;cases a:gx (E p).T p with
  | none=>rw[a]at b;exact hE.pos p m t b
  | some c =>
   rw[a]at b;simp only[alp]at b;obtain⟨u,A,rfl⟩:=b;have n:=hE.pos p m u (kS.1 A).1;have z:=o c a;simp only;have M:0<1-c:=by grind
   exact ahl n M
 constructor
 ·intro k e w;rw[f k (by omega)];have:=afF (hE.sz k e (by omega)) L p;exact this.mono (by simp only[TS];omega)
 ·intro k e
  by_cases F:k=p
  ·simp_all
  ·rw[j k (by omega)];exact hE.szd k (by omega)
 ·intro k e
  by_cases F:k=p
  ·grind
  ·rw[j k (by omega)];exact hE.up k (by omega)
 ·intro k e w;rw[f k (by omega)];unfold Er;cases a:gx (E k).T p with
  | none =>
   intro t b;have n:=hE.ge k e (by omega) t b;have z:=WX a t b;omega
  | some c =>
   refine Bp c (R:=fun q=>p+1<=q) _ (fun t b =>?_) D;have n:=hE.ge k e (by omega) t (kS.1 b).1;have z:=(kS.1 b).2;omega
 ·intro k e;rcases anR k p with h|h|h
  ·rw[j k h];exact hE.pos k e
  ·grind
  ·rw[f k h];unfold Er;cases a:gx (E k).T p with
   | none=>exact hE.pos k e
   | some c=>exact Rg (hE.pos k e _ (rO a)) _ (fun t b=>hE.pos k e t (kS.1 b).1) l
 ·intro s x O;have y:=O p (by omega);rw[C]at y;obtain⟨T,P⟩:=hE.sem s x fun q U=>by grind
  have Q:x p=s*(E p).D+eT (E p).T x:=by
   have n:=Z2 g.t.sorted v s x;grind
  refine⟨fun k e =>?_,fun k e w =>?_⟩
  ·grind
  ·rw[f k (by omega),afI (hE.sz k e (by omega)).t.sorted,<- y,P k e (by omega)];grind
def QX (a:lW N tk) (b:sB N tk r) (c:∀p,p<N->0<=r p) {d:Nat->Rat} {e:Nat} {f:Nat->QE} (hE:wQ N tk d e f 0):∀p,p<=N->wQ N tk d e (iO f p) p
 | 0,_=>hE
 | p+1,h=>Zz a b c (QX a b c hE p (by omega)) (by omega)
end Go.Proofs.YtobnihfgnbnncaaGreat.P
namespace Go.Proofs.YtobnihfgnbnncaaGreat.P
open Go.RowKit
def PG:List Tm->(Nat->Rat)->Nat
 | [],_=>0
 | t::l,x=>LF t.2+LF (x t.1)+1+PG l x
def B2 (a b:List Tm) (x:Nat->Rat):PG (a++b) x=PG a x+PG b x:=by
 induction a with
 | nil=>simp[PG]
 | cons t a c=>simp only[List.cons_append,PG,c];omega
def ad5 (T:List Tm) (i:Nat) (x:Nat->Rat):PG (T.take i) x<=PG T x:=by
 have:=B2 (T.take i) (T.drop i) x;simp_all
def R0 {T:List Tm} {i:Nat} {t:Tm} (h:T[i]? = some t) (x:Nat->Rat):eT (T.take (i+1)) x=eT (T.take i) x+t.2*x t.1:=by
 obtain⟨a,b⟩:=alT.1 h;rw[anM a,rX,b];simp only[eT];grind
def Ui (a:Rat) (x:Nat->Rat) {T:List Tm} : ∀i,i<=T.length->LF (a+eT (T.take i) x)<=LF a+PG (T.take i) x
 | 0,_=>by
  rw[ane];simp only[eT,PG];grind
 | i+1,h=>by
  have c:=Ui a x (T:=T) i (by omega);have b:T[i]? = some T[i]:=alE (by omega);rw[R0 b,<- Rat.add_assoc,anM (by omega),B2];have d:=oE (a+eT (T.take i) x) (T[i].2*x T[i].1);have e:=sA T[i].2 (x T[i].1);simp only[PG];omega
def ac6:∀ {T:List Tm} {a N:Nat},kJ T->(∀t∈T,a<=t.1∧t.1<N)->T.length<=N-a
 | [],_,_,_,_=>by simp
 | t::T,a,N,hs,h=>by
  obtain⟨c,d⟩:=amP.1 hs;have e:=h t (amH ..);have:=ac6 (a:=t.1+1) (N:=N) d fun u b=>⟨c u b,(h u (amI _ b)).2⟩;grind
def ad4 {K Q:Nat} {x:Nat->Rat} : ∀ {T:List Tm} {a N:Nat},kJ T->(∀t∈T,a<=t.1∧t.1<N)->(∀t∈T,LF t.2<=K)->(∀j,a<=j->j<N->LF (x j)<=2 ^ (N-1-j)*Q)->PG T x+Q<=T.length*(K+1)+2 ^ (N-a)*Q
 | [],a,N,_,_,_,_=>by
  simp only[PG,List.length_nil,am2,amr];exact Nat.le_mul_of_pos_left _ (Nat.pow_pos (by decide))
 | t::T,a,N,hs,h,hk,hx=>by
  obtain⟨e,f⟩:=amP.1 hs;have d:=h t (amH ..);have g:=ad4 (K:=K) (Q:=Q) (x:=x) (T:=T) (a:=t.1+1) (N:=N) f (fun u b=>⟨e u b,(h u (amI _ b)).2⟩) (fun u b=>hk u (amI _ b)) fun j m c=>hx j (by omega) c;have i:=hk t (amH ..);have k:=hx t.1 d.1 d.2;simp only[PG,List.length_cons];rw[amY];have l:N-(t.1+1)=N-1-t.1:=by omega
  rw[l]at g;have n:2 ^ (N-t.1)=2 ^ (N-1-t.1)*2:=by rw[<- Nat.pow_succ];congr 1;omega
  have o:2 ^ (N-t.1)*Q<=2 ^ (N-a)*Q:=al8 _ (anV (by decide) (by omega));have p:2 ^ (N-t.1)*Q=2 ^ (N-1-t.1)*Q+2 ^ (N-1-t.1)*Q:=by grind
  omega
def Nw:∀m:Nat,3*m<=4 ^ m
 | 0=>by decide
 | m+1=>by
  have:=Nw m;grind
variable {N:Nat} {tk:List Tk} {r:Nat->Int}
def adT {d:Nat->Rat} {a:Nat} {E:Nat->QE} (h:wQ N tk d a E N) {x:Nat->Rat} (q:∀k,k<N->x k=1*(E k).D+eT (E k).T x) :
  ∀k,k<N->LF (E k).D+PG (E k).T x+1<=2 ^ (N-1-k)*(4 ^ N*(a+1))∧LF (x k)<=2 ^ (N-1-k)*(4 ^ N*(a+1)):=by
 have key:∀m k,k+m=N-1->k<N->LF (E k).D+PG (E k).T x+1<=2 ^ (N-1-k)*(4 ^ N*(a+1))∧LF (x k)<=2 ^ (N-1-k)*(4 ^ N*(a+1)):=by
  intro m
  induction m using Nat.strongRecOn with
  | ind m l =>
   intro k n e;have c:=h.szd k e;have f:=h.up k e;have b:∀t∈(E k).T,k+1<=t.1∧t.1<N:=fun t i=>⟨f t i,c.t.lt t i⟩;have o:=ad4 (K:=2*TS a k+2) (Q:=4 ^ N*(a+1)) (x:=x) c.t.sorted b c.t.sz fun j r g=>(l (N-1-j) (by omega) j (by omega) g).2;have s:=ac6 c.t.sorted b;have u:=c.d;have v:=VP a k;have w:(N-k)*(2*TS a k+3)<=4 ^ N*(a+1):=by
    have y:(N-k)*(2*TS a k+3)<=(N-k)*(3*(4 ^ k*(a+1))):=Nat.mul_le_mul_left _ (by
     omega)
    have z:(N-k)*(3*(4 ^ k*(a+1)))=3*(N-k)*(4 ^ k*(a+1)):=by grind
    have A:3*(N-k)*(4 ^ k*(a+1))<=4 ^ (N-k)*(4 ^ k*(a+1)):=al8 _ (Nw _);have B:4 ^ (N-k)*(4 ^ k*(a+1))=4 ^ N*(a+1):=by rw[<- Nat.mul_assoc,<- Nat.pow_add];congr 2;omega
    omega
   have C:(E k).T.length*(2*TS a k+3)<=(N-1-k)*(2*TS a k+3):=al8 _ (by omega);have D:(N-k)*(2*TS a k+3)=(N-1-k)*(2*TS a k+3)+(2*TS a k+3):=by
    rw[<- amY];congr 1;omega
   have p:N-(k+1)=N-1-k:=by omega
   rw[p]at o;have F:=Ui (E k).D x (T:=(E k).T) (E k).T.length (alq _);grind
 intro k e;exact key (N-1-k) k (by omega) e
def lR (tk:List Tk) (p:Nat):List Tm:=(tk.filter fun t=>decide (t.2.1=p)).map fun t=>(t.1,t.2.2)
def Ed {p:Nat} {u:Tm} : u∈lR tk p↔∃t∈tk,t.2.1=p∧u=(t.1,t.2.2):=by
 unfold lR;simp only[alp,amO,decide_eq_true_eq];grind
def VW {i:Nat} {t:Tk} (h:tk[i]? = some t) (p:Nat):lR (tk.take (i+1)) p=if t.2.1=p then lR (tk.take i) p++[(t.1,t.2.2)] else lR (tk.take i) p:=by
 obtain⟨a,b⟩:=alT.1 h;unfold lR;rw[anM a,anO,amE,b];grind
def Mm (x:Nat->Rat) (p:Nat):∀l:List Tk,eT (lR l p) x=CU l x p
 | []=>rfl
 | t::l=>by
  have a:=Mm x p l;unfold lR at a ⊢;simp only[CU]
  by_cases b:t.2.1=p
  ·rw[if_pos b,anS (by simpa using b),alw,eT,a]
  grind
def VL (c:tk.Pairwise XK) (p:Nat):kJ (lR tk p):=by
 unfold lR;rw[kJ,anr];refine (c.filter _).imp_of_mem fun {a b} d e h =>?_;have f:a.2.1=p:=by simp_all
 have g:b.2.1=p:=by simp_all
 unfold XK at h;simp only;omega
def aaE (p:Nat):(lR tk p).length<=tk.length:=by
 unfold lR;grind
def Xg (d:Nat->Rat) (tk:List Tk) (p:Nat):QE:=⟨d p,lR tk p⟩
def dn (N:Nat) (x:Nat->Rat):List ah:=(List.range N).map fun p=>bJ (x p)
def jG (x:Nat->Rat):(dn N x).length=N:=Al _
def mL (x:Nat->Rat) {p:Nat} (h:p<N):(dn N x)[p]? = some (bJ (x p)):=dJ _ h
abbrev zF:ah:=ah.mk (aH.mk 0 []) (aH.mk 0 [])
def Od (b:lW N tk) (d:Nat->Rat):gD (sM N tk) (dn N d)=some ((List.range N).map fun p=>mkEq (Xg d tk p)):=by
 have r:=b.ports;have q:=b.takes;unfold gD sM;simp only;rw[Fy _ (by omega) r,amN];have s:=fun c e=>tp (body:=jk (dn N d) (List.replicate N (aL.mk zF []))) (List.range N) (by simp;omega) (fun i (l:List aL)=>l=(List.range N).map fun p=>aL.mk (if p<i then bJ (d p) else zF) []) (fun l=>l=(List.range N).map fun p=>mkEq (Xg d (tk.take 0) p)) (s0:=List.replicate N (aL.mk zF []))
  (iC (by simp) fun j g=>by simp_all) c e
 obtain⟨A,v,rfl⟩:=s (by
  rintro i x _ B rfl;have k:i<N:=by grind
  refine⟨_,?_,rfl⟩;simp only[jk];rw[if_pos (by simp;omega),aT (mL d k),amN,aT (dJ _ k),amN,bg (by omega),amk,iw];grind) (by
  rintro _ rfl;refine⟨(List.range N).map fun p=>aL.mk (if p<(List.range N).length then bJ (d p) else zF) [],?_,?_⟩
  ·simp only[jk];simp_all
  ·refine iC (by simp) fun j g =>?_;rw[dJ _ g,alV,if_pos g,ane];rfl)
 rw[v,amN];have w:=fun c e=>tp (body:=jl (ik.mk (N:Int) (tk.map zw))) tk (by omega) (fun i (l:List aL)=>l=(List.range N).map fun p=>mkEq (Xg d (tk.take i) p)) (fun l=>l=(List.range N).map fun p=>mkEq (Xg d tk p)) (s0:=(List.range N).map fun p=>mkEq (Xg d (tk.take 0) p)) rfl c e;obtain⟨C,D,rfl⟩:=w (by
  rintro i t _ m rfl;have k:=aU m;have n:=(b.rng t (alR m)).2;have y:(tk.map zw)[i]? = some (zw t):=by simp_all
  have o:=aaE (tk:=tk.take i) t.2.1;rw[alI]at o;refine⟨_,?_,rfl⟩;simp only[jl];have a:nB 72 (mkEq (Xg d (tk.take i) t.2.1)).cO [gi.mk (zw t).dA (zw t).gE]=some ((lR (tk.take i) t.2.1++[(t.1,t.2.2)]).map kT):=by
   unfold nB mkEq Xg;have:(17592186044416:Nat)<=maxLen:=by decide
   rw[if_pos ⟨by simp;omega,by simp;omega⟩,amE];rfl
  have z:(zw t).lH=(t.2.1:Int):=rfl;rw[if_pos (by simp;omega),aT y,amN,z,aT (dJ _ n),amN,a,amN,bg (by omega),amk,iw];congr 3;refine congrArg (fun f=>(List.range N).map f) (funext fun p =>?_);unfold Xg;rw[VW m]
  by_cases h:p=t.2.1
  ·subst h;rw[if_pos rfl,if_pos rfl];rfl
  grind) (by
  rintro _ rfl;refine⟨_,?_,rfl⟩;simp only[jl];simp_all)
 simp_all
def elim0 (e:lW N tk) {f:Nat} {d:Nat->Rat} (h:∀p,p<N->LF (d p)<=f) (i:∀t∈tk,LF t.2.2<=f):wQ N tk d f (Xg d tk) 0 where
 sz k a _:=⟨⟨VL e.sorted k,fun t b=>by obtain⟨u,c,g,rfl⟩:=Ed.1 b;exact (e.rng u c).1,fun t b=>by obtain⟨u,c,g,rfl⟩:=Ed.1 b;exact i u c⟩,h k a⟩
 szd k a:=by omega
 up k a:=by omega
 ge k a _ t _:=alr _
 pos k a t b:=by obtain⟨u,c,g,rfl⟩:=Ed.1 b;exact e.pos u c
 sem s x _:=⟨fun k a=>by omega,fun k _ _=>by unfold Xg;rw[Mm]⟩
def PF (a:Nat->QE) (N p:Nat):List (Bool×aL):=(List.range N).map fun k=>(decide (k<p),mkEq (iO a p k))
def AI (E:Nat->QE) (N p:Nat) (L:QE) (k:Nat):List (Bool×aL):=(List.range N).map fun j=>if j<p then (true,mkEq (E j)) else if j=p then (true,mkEq L) else if j<k then (false,mkEq (Er (E j) p L)) else (false,mkEq (E j))
def UT {E:Nat->QE} {L:QE} {p K:Nat} (b:N<=2000) (o:p<N) (c:∀k,k<N->p<=k->Ww N K (E k)) (d:Ww N (2*K+2) L) (q:10*K+50<=eL) :
  aR (pj (p:Int)) (((p+1:Nat):Int),AI E N p L (p+1))=some (AI E N p L N):=by
 have key:=fun e=>db (body:=pj (p:Int)) (fun i (s:Int×List (Bool×aL))=>s=(((p+1+i:Nat):Int),AI E N p L (p+1+i))) (N-(p+1)) (fun l=>l=AI E N p L N) (s:=(((p+1:Nat):Int),AI E N p L (p+1))) rfl (jQ (by omega)) e;refine (key ?_).elim fun x ⟨f,hx⟩=>hx ▸ f;rintro i _ r rfl;have a:(AI E N p L (p+1+i)).length=N:=Al _
 by_cases g:p+1+i<N
 ·refine .inl ⟨by omega,_,?_,rfl⟩;simp only[pj];have h:(AI E N p L (p+1+i))[p+1+i]? = some (false,mkEq (E (p+1+i))):=by
   unfold AI;grind
  have j:(AI E N p L (p+1+i))[p]? = some (true,mkEq L):=by
   unfold AI;simp_all
  have m:TC (true,mkEq L)=some (mkEq L):=rfl;have n:SZ (false,mkEq (E (p+1+i)))=some (mkEq (E (p+1+i))):=rfl;rw[if_pos (by grind),aT h,amN,aT j,amN,m,amN,n,amN,ajb (c _ g (by omega)) d b (by omega),amN,bg (by omega),amk];refine congrArg some (congrArg Sum.inl (Prod.ext (by simp only;omega) ?_));simp only;unfold AI;rw[iw];grind
 ·refine .inr ⟨AI E N p L (p+1+i),?_,?_⟩
  ·simp only[pj];grind
  ·congr 1;omega
def Zy {a:Nat->QE} {o:Nat} {d:Nat->Rat} (q:N<=2000) (t:∀p,p<=N->wQ N tk d o (iO a p) p) (r:∀p,p<N->∀c,gx (iO a p p).T p=some c->c<1) (u:∀p,p<N->10*TS o p+50<=eL) {f:List aL} (G:f.length=N) :
  aR (mq f) ((0:Int),PF a N 0)=some (PF a N N):=by
 have key:=fun v=>db (body:=mq f) (fun i (s:Int×List (Bool×aL))=>s=((i:Int),PF a N i)) N (fun l=>l=PF a N N) (s:=((0:Int),PF a N 0)) rfl (jQ (by omega)) v;refine (key ?_).elim fun x ⟨w,hx⟩=>hx ▸ w;rintro p _ H rfl
 by_cases e:p<N
 ·refine .inl ⟨e,_,?_,rfl⟩;have hEp:=t p (by omega);have b:∀c,gx (iO a p p).T p=some c->1-c≠0:=fun c h=>by grind
  have g:=hEp.sz p e (alq _);have m:=u p e;have y:=Mp g p b;simp only[mq];have z:(PF a N p)[p]? = some (false,mkEq (iO a p p)):=by
   unfold PF;simp_all
  have A:SZ (false,mkEq (iO a p p))=some (mkEq (iO a p p)):=rfl;have B:(PF a N p).set p (true,mkEq (kz (iO a p p) p))=AI (iO a p) N p (kz (iO a p p) p) (p+1):=by
   unfold PF AI;rw[iw];grind
  have C:AI (iO a p) N p (kz (iO a p p) p) N=PF a N (p+1):=by
   unfold PF AI;refine amL fun j D =>?_;have E:=amQ.1 D;rw[iO];rcases anR j p with h|h|h
   ·grind
   ·simp_all
   grind
  rw[if_pos (by simp;omega),aT z,amN,A,amN,afr g.t g.d q (by omega) b,amN,bg (by omega),amk,B,UT q e (fun k F n=>hEp.sz k F n) y m,amN,C]
 ·have:p=N:=by omega
  subst this;refine .inr ⟨_,?_,rfl⟩;simp only[mq];simp_all
def En (x:Nat->Rat) (N i:Nat):List ah:=(List.range N).map fun j=>if N<=j+i then bJ (x j) else zF
def Uv {b:Nat->QE} {h:Nat} {d x:Nat->Rat} (hN:N<=2000) (m:wQ N tk d h (iO b N) N) (hx:∀k,k<N->x k=1*(iO b N k).D+eT (iO b N k).T x) (B:2*(2 ^ N*(4 ^ N*(h+1)))+100<=eL) :
  aR (mu (PF b N N)) ((N:Int)-1,En x N 0)=some (dn N x):=by
 have n:=adT m hx;have key:=fun n=>db (body:=mu (PF b N N)) (fun i (s:Int×List ah)=>s=((N:Int)-1-i,En x N i)) N (fun l=>l=dn N x) (s:=((N:Int)-1,En x N 0)) (by simp) (jQ (by omega)) n;refine (key ?_).elim fun x ⟨C,hx⟩=>hx ▸ C;rintro i _ hi rfl
 by_cases D:i<N
 ·refine .inl ⟨D,_,?_,rfl⟩;obtain⟨p,hp⟩:∃p,p+i+1=N:=⟨N-1-i,by omega⟩;have a:p<N:=by omega
  have E:(N:Int)-1-(i:Int)=(p:Int):=by omega
  obtain⟨F,G⟩:=n p a;have y:=m.szd p a;have o:=m.up p a;have H:2 ^ (N-1-p)*(4 ^ N*(h+1))<=2 ^ N*(4 ^ N*(h+1)):=al8 _ (anV (by decide) (by omega));have I:=hx p a;generalize J:iO b N p=e at *;simp only[mu];have K:(PF b N N)[p]? = some (true,mkEq e):=by
   unfold PF;simp_all
  have L:TC (true,mkEq e)=some (mkEq e):=rfl;have M:(mkEq e).bT=bJ e.D:=rfl;have O:(mkEq e).cO=e.T.map kT:=rfl;have hn:=aa8;rw[E,if_pos (by simp),aT K,amN,L,amN,Ki,amN,M,Ja (by omega),amN];have P:e.D+0*0=e.D:=by grind
  rw[P];have Q:=y.t.len;have R:=fun q c=>tp (body:=sn (En x N i) (mkEq e)) e.T (by omega) (fun j (s:Int×List Int×Int×List Int)=>s=((bJ (e.D+eT (e.T.take j) x)).bn.al,(bJ (e.D+eT (e.T.take j) x)).bn.aa,(bJ (e.D+eT (e.T.take j) x)).bu.al,(bJ (e.D+eT (e.T.take j) x)).bu.aa))
   (fun s=>s=((bJ (x p)).bn.al,(bJ (x p)).bn.aa,(bJ (x p)).bu.al,(bJ (x p)).bu.aa)) (s0:=((bJ e.D).bn.al,(bJ e.D).bn.aa,(bJ e.D).bu.al,(bJ e.D).bu.aa)) (by rw[ane,eT,Rat.add_zero]) q c
  obtain⟨r7,S,rfl⟩:=R (by
   rintro j t _ r rfl;have U:=aU r;have g:=alR r;have u:=y.t.lt t g;have V:=o t g;have W:(e.T.map kT)[j]? = some (kT t):=by simp_all
   have v:(En x N i)[t.1]? = some (bJ (x t.1)):=by
    unfold En;rw[dJ _ u,if_pos (by omega)]
   have X:=Ui e.D x (T:=e.T) j (by omega);have z:=ad5 e.T j x;have A:LF t.2+LF (x t.1)+1<=PG e.T x:=by
    have:=B2 (e.T.take j) (e.T.drop j) x;rw[am1,anc U]at this;simp only[PG]at this;grind
   refine⟨_,?_,rfl⟩;simp only[sn];have Y:(kT t).jz=bJ t.2:=rfl;have Z:(kT t).qP=(t.1:Int):=rfl;have e7:ah.mk (aH.mk (bJ (e.D+eT (e.T.take j) x)).bn.al (bJ (e.D+eT (e.T.take j) x)).bn.aa) (aH.mk (bJ (e.D+eT (e.T.take j) x)).bu.al (bJ (e.D+eT (e.T.take j) x)).bu.aa)=bJ (e.D+eT (e.T.take j) x):=rfl;rw[if_pos (by simp_all),O,aT W,amN,Z,aT v,amN,Y,e7,Ja (by omega),amN,bg (by omega),R0 r,<- Rat.add_assoc]) (by
   rintro _ rfl;refine⟨((bJ (e.D+eT (e.T.take e.T.length) x)).bn.al,(bJ (e.D+eT (e.T.take e.T.length) x)).bn.aa,(bJ (e.D+eT (e.T.take e.T.length) x)).bu.al,(bJ (e.D+eT (e.T.take e.T.length) x)).bu.aa),?_,?_⟩
   ·simp only[sn];simp_all
   simp_all)
  rw[S,amN];have w:(En x N i)[p]? = some zF:=by
   unfold En;grind
  simp only;rw[aT w,amN,amk];have hw:IntKind.i64.wrap ((p:Int)-1)=(N:Int)-1-((i+1:Nat):Int):=by rw[wrap64 (by omega) (by omega)];omega
  rw[hw];refine congrArg some (congrArg Sum.inl (congrArg (Prod.mk _) ?_));show (En x N i).set p (bJ (x p))=En x N (i+1);unfold En;rw[iw];refine congrArg (fun f=>(List.range N).map f) (funext fun j =>?_);grind
 ·have:i=N:=by omega
  subst this;refine .inr ⟨_,?_,rfl⟩;simp only[mu];rw[if_neg (by simp;omega)];congr 2;unfold En dn;simp_all
end Go.Proofs.YtobnihfgnbnncaaGreat.P
namespace Go.Proofs.YtobnihfgnbnncaaGreat.P
open Go.RowKit
def Ur {l:List ah} (n:Int) (o:l.length<=17592186044416) (g:∀f∈l,yk f):lC l n=some (decide ((l.length:Int)=n)&&l.all okF):=by
 unfold lC
 by_cases d:(l.length:Int)=n
 rotate_left
 ·rw[if_neg (by simpa using d),decide_eq_false d];rfl
 rw[if_pos (by simpa using d),decide_eq_true d,amD];unfold cV dp;rw[sj l (fun i x=>if okF x=true then none else some (i:Int)) (by omega) (fun i x a =>?_) (by simp only[dV];rw[if_neg (by simp)])]
 ·rw[amN];cases b:fv (fun i x=>if okF x=true then none else some (i:Int)) 0 l with
  | none =>
   simp only;rw[amN,decide_eq_false (by decide),amN];have:l.all okF=true:=alB.2 fun x a=>by
    obtain⟨j,k⟩:=alL a;have:=dh.1 b j x k
    by_cases h:okF x=true
    ·exact h
    ·rw[if_neg h]at this;cases this
   rw[this];rfl
  | some r =>
   obtain⟨j,x,m,e,_⟩:=dB b
   by_cases h:okF x=true
   ·rw[if_pos h]at e;cases e
   ·rw[if_neg h]at e;cases e;simp only;rw[amN,decide_eq_true (by omega),amN];have:l.all okF=false:=by
     cases c:l.all okF with
     | false=>rfl
     | true=>exact absurd (alB.1 c x (alR m)) h
    rw[this];rfl
 ·have p:=aU a;simp only[dV,lp];rw[if_pos (by simp;omega),aT a,amN,pJ (g x (alR a)),amN,amN];cases okF x with
  | true=>rw[bg (by omega)];rfl
  | false=>rfl
def ada {l:List ah} {N:Nat} (b:l.length=N) (h:l.all okF=true):∃d:Nat->Rat,l=dn N d:=by
 obtain⟨qs,a,_⟩:=BK (mk:=bJ) (R:=fun _=>True) (l:=l) fun x c=>by
  obtain⟨q,a⟩:=ow.1 (alB.1 h x c);exact⟨q,a,trivial⟩
 refine⟨fun p=>qs.getD p 0,?_⟩;subst a;rw[alU]at b;refine iC (by simpa using b) fun j f =>?_;have e:(fun p=>qs.getD p 0) j=qs[j]'(by omega):=by
  show qs.getD j 0=_;rw[al2,alE (by omega)];rfl
 rw[aln,alE (by omega),e];rfl
def ZY (N:Nat) (d:Nat->Rat):(dn N d).all okF=true:=alB.2 fun x a=>by
 unfold dn at a;obtain⟨p,_,rfl⟩:=alp.1 a;exact BP _
def Z0 {N M:Nat} {d e:Nat->Rat} (h:dn N d=dn M e):N=M∧∀p,p<N->d p=e p:=by
 have a:=congrArg List.length h;rw[jG,jG]at a;subst a;refine⟨rfl,fun p b =>?_⟩;have c:=mL (N:=N) d b;rw[h,mL e b]at c;exact (vg (anq c)).symm
def ac9 {N K:Nat} {d:Nat->Rat} (h:∀f∈dn N d,f.bn.aa.length<=K∧f.bu.aa.length<=K):∀p,p<N->LF (d p)<=K:=fun p a=>by
 have:=h _ (alR (mL d a));exact pG this.1 this.2
def ZZ {N K:Nat} {d:Nat->Rat} (h:∀p,p<N->LF (d p)<=K):∀f∈dn N d,f.bn.aa.length<=K∧f.bu.aa.length<=K:=fun f a=>by
 unfold dn at a;obtain⟨p,b,rfl⟩:=alp.1 a;exact xl (h p (amQ.1 b))
def Up (n:ik) (l:List ah):Prop:=∃N tk d,n=sM N tk∧lW N tk∧l=dn N d
abbrev SzN (n:ik) (K:Nat):Prop:=∀t∈n.bq,t.gE.bn.aa.length<=K∧t.gE.bu.aa.length<=K
abbrev SzL (l:List ah) (K:Nat):Prop:=∀f∈l,f.bn.aa.length<=K∧f.bu.aa.length<=K
def ag9 {N K:Nat} {tk:List Tk} (h:∀t∈tk,LF t.2.2<=K):SzN (sM N tk) K:=fun t a=>by
 simp only[sM,alp]at a;obtain⟨u,b,rfl⟩:=a;exact xl (h u b)
def ahE {N K:Nat} {tk:List Tk} (h:SzN (sM N tk) K):∀t∈tk,LF t.2.2<=K:=fun t a=>by
 have:=h (zw t) (by simp only[sM];exact List.mem_map_of_mem a);exact pG this.1 this.2
def TX {N:Nat} {tk:List Tk} {r:Nat->Int} (b:sB N tk r) (h:qm N r=[]):∀p,p<N->0<=r p:=by
 intro p a;have c:=b.ge p a;have d:r p ≠ -1:=fun e=>by
  have:p∈qm N r:=amO.2 ⟨amQ.2 a,by simpa using e⟩;rw[h]at this;cases this
 omega
def abb {n : ik} {l : List ah} {K M : Nat} (F : K <= 1000000) (R : SzN n K) (G : SzL l K) (k : l.length <= 17592186044416) (Y : n.aC <= (M : Int) ∨ 2000 < n.aC) (hS : 2 * (2 ^ M * (4 ^ M * (K + 1))) + 100 <= eL) :
    (¬ Up n l ∧ ln n l = some ([], 1)) ∨
    ∃ N tk d r, n = sM N tk ∧ lW N tk ∧ l = dn N d ∧ N <= M ∧ (∀ t ∈ tk, LF t.2.2 <= K) ∧ (∀ p, p < N -> LF (d p) <= K) ∧ kC n = some ((List.range N).map r) ∧ sB N tk r ∧
      ((qm N r ≠ [] ∧ ln n l = some ([], 24)) ∨
       (qm N r = [] ∧ ∃ x, aeK N tk d x ∧ ln n l = some (dn N x, 0) ∧ ∀ p, p < N -> LF (x p) <= 2 ^ (N - 1 - p) * (4 ^ N * (K + 1)))) := by
  have m : K <= qF := als F (by unfold qF; omega);obtain ⟨b, o, s⟩ := MY F R;have u := Ur n.aC k fun f S => ⟨als (G f S).1 m, als (G f S).2 m⟩;have v : ¬ Up n l -> ln n l = some ([], 1) := by
    intro w;unfold ln;rw [o, amN, u, amN];cases b with
    | false => simp
    | true =>
      obtain ⟨N, tk, rfl, c⟩ := s.1 rfl;have : (decide ((l.length : Int) = (sM N tk).aC) && l.all okF) = false := by
        by_cases H : (l.length : Int) = (sM N tk).aC
        · cases T : l.all okF with
          | false => rw [Bool.and_false]
          | true =>
            have U : l.length = N := by simp only [sM] at H; omega
            obtain ⟨d, D⟩ := ada U T;exact absurd ⟨N, tk, d, rfl, c, D⟩ w
        · rw [decide_eq_false H, ank]
      rw [this]; simp
  by_cases w : Up n l
  rotate_left
  · exact .inl ⟨w, v w⟩
  obtain ⟨N, tk, d, rfl, c, rfl⟩ := w;obtain rfl : b = true := s.2 ⟨N, tk, rfl, c⟩;have E := c.ports;have g : N <= M := by simp only [sM] at Y; omega
  have I := ahE R;have D := ac9 G;obtain ⟨r, y, e⟩ := adG c F I;have J := V0 E y;refine .inr ⟨N, tk, d, r, rfl, c, rfl, g, I, D, y, e, ?_⟩;have z : ∀ (q : List Int), mh (sM N tk) = some q -> ln (sM N tk) (dn N d) = if decide ((q.length : Int) > 0) = true then some ([], 24) else
      (gD (sM N tk) (dn N d)).bind fun V =>
      (aR (mq V) (0, (L7 V))).bind fun a =>
      (JV 64 (sM N tk).aC (sM N tk).aC (ah.mk (aH.mk 0 ([])) (aH.mk 0 ([])))).bind fun L =>
      (aR (mu a) (IntKind.i64.wrap (((a).length : Int) - 1), L)).bind fun A =>
      some (A, 0) := by
    intro q Z;unfold ln;rw [o, amN, u, amN, Z];rw [decide_eq_true (show ((dn N d).length : Int) = (sM N tk).aC by rw [jG]; rfl), ZY];simp only [amC, alY, if_false, Bool.and_self, Option.bind_some]
  rw [z _ J]
  by_cases B : qm N r = []
  rotate_left
  · refine .inl ⟨B, ?_⟩
    have : 0 < (qm N r).length := am5.2 B;rw [if_pos (by rw [sb]; simp; omega)]
  refine .inr ⟨B, ?_⟩;have W := TX e B;rw [if_neg (by rw [sb, B]; simp)];have h := QX c e W (elim0 c D I);have X : 2 ^ N * (4 ^ N * (K + 1)) <= 2 ^ M * (4 ^ M * (K + 1)) := anN (anV (by decide) g) (al8 _ (anV (by decide) g));obtain ⟨x, _, O, _⟩ := GW (iO (Xg d tk) N) 1 N (h N (alq _)).up (fun _ => 0);have C := ((h N (alq _)).sem 1 x O).1;have P := adT (h N (alq _)) O;refine ⟨x, fun p i => by have := C p i; grind, ?_, fun p i => (P p i).2⟩;rw [Od c, amN];have e1 : L7 ((List.range N).map fun p => mkEq (Xg d tk p)) = PF (Xg d tk) N 0 := by
    unfold L7 PF;rw [List.map_map];exact amL fun p _ => by simp [iO]
  have Q : ∀ p, p < N -> 10 * TS K p + 50 <= eL := fun p i => by
    have H := VP K p;have T : 4 ^ p * (K + 1) * 4 <= 4 ^ N * (K + 1) := by
      rw [Nat.mul_right_comm, <- Nat.pow_succ];exact al8 _ (anV (by decide) (by omega))
    have U : 2 * (4 ^ N * (K + 1)) <= 2 ^ N * (4 ^ N * (K + 1)) := al8 _ (by
      have : 2 ^ 1 <= 2 ^ N := anV (by decide) (by omega);omega)
    omega
  rw [e1, Zy E h (fun p i => MN c e W (h p (by omega)) i) Q (by simp), amN];have e2 : (sM N tk).aC = (N : Int) := rfl;have e3 : (PF (Xg d tk) N N).length = N := Al _;have e4 : List.replicate N zF = En x N 0 := by
    refine iC (by simp) fun j hj => ?_;rw [List.getElem?_replicate, if_pos hj, if_neg (by omega)]
  rw [e2, Fy _ (by omega) E, amN, e3, wrap64 (by omega) (by omega), e4, Uv E (h N (alq _)) O (by omega), amN]
set_option maxRecDepth 100000
def SzL.mono {l:List ah} {K a:Nat} (h:SzL l K) (b:K<=a):SzL l a:=fun f c=>⟨als (h f c).1 b,als (h f c).2 b⟩
def SzN.mono {n:ik} {K a:Nat} (h:SzN n K) (b:K<=a):SzN n a:=fun f c=>⟨als (h f c).1 b,als (h f c).2 b⟩
section
variable {N:Nat} {tk:List Tk} {r:Nat->Int}
end
def pA:List Rat->Rat
 | []=>0
 | q::l=>q+pA l
def TR (a b:List Rat):pA (a++b)=pA a+pA b:=by
 induction a with
 | nil=>rw[amU,pA,Rat.zero_add]
 | cons q a c=>rw[am7,pA,pA,c];grind
def Wn {K:Nat} {l:List Rat} (h:∀q∈l,LF q<=K):LF (pA l)<=1+l.length*(K+1):=by
 induction l with
 | nil=>simp only[pA];exact als (Bb (n:=0) (by decide)) (by omega)
 | cons q l a =>
  have c:=h q (amH ..);have d:=a fun x b=>h x (amI _ b);have e:=oE q (pA l);simp only[pA,List.length_cons];grind
def Y8 {a b:Rat} : Y7 a b=0↔a=b:=by
 unfold Y7;grind
def DB (l:List ah):Prop:=∃a:List Rat,l=a.map bJ∧(∀q∈a,0<=q)∧pA a=1
def agp {a b:Rat} (h:LF a+LF b+1<=eL):tu (bJ a) (bJ b)=some (bJ (a+b)):=by
 unfold tu;rw[yA h];rfl
def aet {l:List ah} (B:l.length<=100) (C:∀f∈l,f.bn.aa.length<=6∧f.bu.aa.length<=6):∃b,tH l=some b∧(b=true↔DB l):=by
 have D:eL=4398046511104:=rfl;have g:fb 0=some (bJ 0):=aa6 (n:=0) (by decide);unfold tH;rw[g,amN];obtain⟨q,o,r⟩:=db (body:=tv l)
  (fun i E=>∃c:List Rat,l.take i=c.map bJ∧(∀q∈c,0<=q∧LF q<=6)∧E=((i:Int),(bJ (pA c)).bn.al,(bJ (pA c)).bn.aa,(bJ (pA c)).bu.al,(bJ (pA c)).bu.aa)) l.length
  (fun q=>(q=.inr false∧¬DB l)∨∃c:List Rat,l=c.map bJ∧(∀q∈c,0<=q∧LF q<=6)∧q=.inl ((bJ (pA c)).bn.al,(bJ (pA c)).bn.aa,(bJ (pA c)).bu.al,(bJ (pA c)).bu.aa))
  (s:=(0,(bJ 0).bn.al,(bJ 0).bn.aa,(bJ 0).bu.al,(bJ 0).bu.aa)) ⟨[],rfl,fun q m=>by simp at m,rfl⟩ (jQ (by omega)) (by
   rintro i _ O ⟨c,F,m,rfl⟩;simp only[tv];have G:c.length=i:=by
    have:=congrArg List.length F;grind
   by_cases e:i<l.length
   ·have A:l[i]? = some l[i]:=alE e;have t:=C _ (alC e);have u:l.take (i+1)=l.take i++[l[i]]:=anM e;have d:l[i]∈l:=alC e;generalize l[i]=f at A t u d;rw[if_pos (by simpa using e),aT A,amN,pJ ⟨by unfold qF;omega,by unfold qF;omega⟩,amN];cases j:okF f with
    | false =>
     right;refine⟨_,rfl,.inl ⟨rfl,?_⟩⟩;rintro⟨p,o,_,_⟩;rw[o]at d;obtain⟨q,_,rfl⟩:=alp.1 d;rw[BP]at j;cases j
    | true =>
     obtain⟨q,rfl⟩:=ow.1 j;have H:LF q<=6:=pG t.1 t.2;simp only[amC,alY,if_false];rw[yE (by omega),amN]
     by_cases hneg:q<0
     ·right;refine⟨_,by rw[if_pos (decide_eq_true (ox.2 hneg))],.inl ⟨rfl,?_⟩⟩;rintro⟨p,o,r,_⟩;rw[o]at d;obtain⟨I,v,w⟩:=alp.1 d;have:=r I v;rw[vg w]at this;grind
     ·left;refine⟨e,?_⟩;have y:=Wn (K:=6) (l:=c) fun x z=>(m x z).2;have J:tu (bJ (pA c)) (bJ q)=some (bJ (pA c+q)):=agp (by omega);rw[if_neg (by rw[decide_eq_true_eq];exact fun h=>hneg (ox.1 h)),bg (by omega)];refine⟨_,by erw [J];rfl,c++[q],?_,?_,?_⟩
      ·simp_all
      ·grind
      ·have:pA (c++[q])=pA c+q:=by rw[TR];simp only[pA];grind
       rw[this]
   grind)
 erw [o];rw[amN];rcases r with⟨rfl,L⟩|⟨c,rfl,m,rfl⟩
 ·simp_all
 ·have k:fb 1=some (bJ 1):=afk;simp only[alU]at B;have y:=Wn (K:=6) (l:=c) fun x z=>(m x z).2;have M:LF (1:Rat)<=1:=Bb (n:=1) (by decide);have N:kP (bJ (pA c)) (bJ 1)=some (Y7 (pA c) 1):=YS (by omega);simp only;rw[k,amN];refine⟨_,by erw [N];rfl,?_⟩;rw[beq_iff_eq,Y8];constructor
  ·intro h;exact⟨c,rfl,fun q h=>(m q h).1,h⟩
  ·rintro⟨p,w,_,h⟩;rw[(List.map_inj_right fun a b=>vg).1 w];exact h
def DE (f:dR) (i:Nat):List ah:=f.aO.map fun l=>(l[i]?).getD (ah.mk (aH.mk 0 ([])) (aH.mk 0 ([])))
structure GB (f:dR):Prop where
 srcs:f.aq.length<=100
 outs:f.aG.length<=100
 rows:f.aO.length=f.aG.length
 out:∀x∈f.aG,0<=x.a8∧x.a8<=3∧0<=x.aS
 row:∀l∈f.aO,l.length=f.aq.length
 src:∀x∈f.aq,0<=x.a8∧x.a8<=2∧0<=x.aS
 col:∀i,i<f.aq.length->DB (DE f i)
structure rL (f:dR):Prop where
 srcs:f.aq.length<=5
 outs:f.aG.length<=5
 rows:f.aO.length<=8
 row:∀l∈f.aO,l.length<=8∧∀x∈l,x.bn.aa.length<=4∧x.bu.aa.length<=4
def abQ {f:dR} {i:Nat} (r:i<f.aq.length) (s:f.aO.length=f.aG.length) (a:∀l∈f.aO,l.length=f.aq.length) (t:f.aG.length<=100) :
  ∃c:List ah,aR (iW f (i:Int)) ((0:Int),List.replicate f.aG.length (ah.mk (aH.mk 0 ([])) (aH.mk 0 ([]))))=some c∧f.aO.map (fun l=>l[i]?)=c.map some:=by
 have key:=fun e b=>tp (body:=iW f (i:Int)) f.aG (by omega)
  (fun k (c:List ah)=>c.length=f.aG.length∧∀j,j<k->(f.aO.map (fun l=>l[i]?))[j]? = some c[j]?) (fun c=>f.aO.map (fun l=>l[i]?)=c.map some) (s0:=List.replicate f.aG.length (ah.mk (aH.mk 0 ([])) (aH.mk 0 ([]))))
  ⟨by simp,fun j u=>by omega⟩ e b
 refine (key ?_ ?_)
 ·rintro k x c n ⟨d,o⟩;have p:=aU n;have g:f.aO[k]? = some (f.aO[k]'(by omega)):=alE _;have q:=a _ (alR g);generalize f.aO[k]'(by omega)=l at g q;have h:l[i]? = some (l[i]'(by omega)):=alE _;have m:c[k]? = some (c[k]'(by omega)):=alE _;refine⟨c.set k (l[i]'(by omega)),?_,?_,?_⟩;rotate_left
  ·simpa using d
  ·grind
  ·simp only[iW];rw[if_pos (by simpa using p),aT g,amN,aT h,amN,aT m,amN,amk,bg (by omega)]
 ·rintro c ⟨d,o⟩;refine⟨_,by simp only[iW];rw[if_neg (by simp)],?_⟩;apply anp;grind
def ahj {f:dR} {i:Nat} {c:List ah} (h:f.aO.map (fun l=>l[i]?)=c.map some):c=DE f i:=by
 have:=congrArg (List.map fun x:Option ah=>x.getD (ah.mk (aH.mk 0 ([])) (aH.mk 0 ([])))) h;rw[List.map_map,List.map_map]at this;have a:c.map ((fun x:Option ah=>x.getD (ah.mk (aH.mk 0 ([])) (aH.mk 0 ([])))) ∘ some)=c:=by
  rw[show ((fun x:Option ah=>x.getD (ah.mk (aH.mk 0 ([])) (aH.mk 0 ([])))) ∘ some)=id from rfl,List.map_id]
 rw[a]at this;exact this.symm
def O3 {f:dR} (v:rL f):∃b,lz f=some b∧(b=true↔GB f):=by
 open Classical in
 have D:=v.srcs;have E:=v.outs;unfold lz;rw[if_neg (by simp;omega),if_neg (by simp;omega),amN]
 by_cases hr:f.aO.length=f.aG.length
 rotate_left
 ·rw[if_pos (by grind)];exact⟨false,rfl,by simp only[alY,false_iff];exact fun h=>hr h.rows⟩
 rw[if_neg (by simp[hr])];rw[sj f.aG (fun i x=>if (0<=x.a8∧x.a8<=3)∧0<=x.aS∧(f.aO.getD i []).length=f.aq.length then none else some false) (by omega) (fun i x e =>?_) (by simp only[mW];simp_all)];rotate_left
 ·have u:=aU e;have w:f.aO[i]? = some (f.aO.getD i []):=by simp_all
  simp only[mW];rw[if_pos (by simpa using u),aT e,amN,ns,amN,bg (by omega)]
  by_cases g:0<=x.a8∧x.a8<=3
  ·rw[decide_eq_true g,if_neg (by simp)]
   by_cases a:x.aS<0
   ·grind
   ·rw[if_neg (by simpa using a),aT w,amN];grind
  grind
 rw[amN];cases o:fv (fun (i:Nat) (x:sC)=>if (0<=x.a8∧x.a8<=3)∧0<=x.aS∧(f.aO.getD i []).length=f.aq.length then none else some false) 0 f.aG with
 | some q =>
  obtain⟨j,x,g,a,_⟩:=dB o;rw[amr]at a;have m:=aU g;split at a
  ·cases a
  ·rename_i d;cases a;refine⟨false,rfl,?_⟩;simp only[alY,false_iff];intro p;have n:=p.out x (alR g);have w:f.aO[j]? = some (f.aO.getD j []):=by simp_all
   exact d ⟨⟨n.1,n.2.1⟩,n.2.2,p.row _ (alR w)⟩
 | none =>
  have r:∀(j:Nat) x,f.aG[j]? = some x->(0<=x.a8∧x.a8<=3)∧0<=x.aS∧(f.aO.getD j []).length=f.aq.length:=fun j x h=>by
   have:=dh.1 o j x h;simp_all
  have k:∀l∈f.aO,l.length=f.aq.length:=fun l z=>by
   obtain⟨j,m,rfl⟩:=ant z;have h:=(r j _ (alE (by omega))).2.2;grind
  simp only;rw[sj f.aq (fun i x=>if (0<=x.a8∧x.a8<=2)∧0<=x.aS∧DB (DE f i) then none else some false) (by omega) (fun i x e =>?_) (by simp only[mX];simp_all)];rotate_left
  ·have u:=aU e;obtain⟨c,B,C⟩:=abQ u hr k (by omega);obtain rfl:=ahj C;obtain⟨b,F,G⟩:=aet (l:=DE f i) (by unfold DE;grind) (fun y A=>by
    unfold DE at A;obtain⟨l,z,rfl⟩:=alp.1 A;have g:=(v.row l z).2;grind)
   simp only[mX];rw[if_pos (by simpa using u),aT e,amN,Fy _ (by omega) (by omega),amN,B,amN,ns,amN,bg (by omega)];grind
  rw[amN];cases s:fv (fun (i:Nat) (x:ir)=>if (0<=x.a8∧x.a8<=2)∧0<=x.aS∧DB (DE f i) then none else some false) 0 f.aq with
  | some q =>
   obtain⟨j,x,g,a,_⟩:=dB s;rw[amr]at a;have m:=aU g;split at a
   ·cases a
   ·rename_i d;cases a;refine⟨false,rfl,?_⟩;simp only[alY,false_iff];intro p;have n:=p.src x (alR g);exact d ⟨⟨n.1,n.2.1⟩,n.2.2,p.col j m⟩
  | none =>
   have t:∀(j:Nat) x,f.aq[j]? = some x->(0<=x.a8∧x.a8<=2)∧0<=x.aS∧DB (DE f j):=fun j x h=>by
    have:=dh.1 s j x h;simp_all
   refine⟨true,rfl,?_⟩;simp only[true_iff];exact⟨by omega,by omega,hr,fun x e=>by
    obtain⟨j,m⟩:=alL e;grind,k,fun x e=>by
    obtain⟨j,m⟩:=alL e;grind,fun j m=>(t j _ (alE m)).2.2⟩
def wL (n:Nat):List Int:=(List.range n).map fun (i:Nat)=>(i:Int)
def T1 {n i:Nat} (h:i<n):(wL n)[i]? = some (i:Int):=dJ (fun (i:Nat)=>(i:Int)) h
def JN (n:Nat):(wL n).length=n:=Al _
def T2 (n:Nat):(wL n).Pairwise (fun x y=>x<=y):=by
 unfold wL;rw[anr];exact (amR (n:=n)).imp fun h=>by omega
def Ju (l:List Int):(sW l).Perm l:=List.mergeSort_perm l _
def O9 (l:List Int):(sW l).Pairwise (fun x y=>x<=y):=by
 have:=List.pairwise_mergeSort (le:=fun x y:Int=>decide (x<=y)) (fun a b c d e=>by grind) (fun a b=>by grind) l;exact this.imp fun h=>by simpa using h
def aaw:∀ {l m:List Int},l.Perm m->l.Pairwise (fun x y=>x<=y)->m.Pairwise (fun x y=>x<=y)->l=m:=fun e c d=>List.Perm.eq_of_pairwise (le:=fun x y:Int=>x<=y) (fun a b _ _ c d=>by omega) c d e
def IH {l:List Int} (t:l.length<=100) (n:Nat):∃b,mi l (n:Int)=some b∧(b=true↔l.Perm (wL n)):=by
 unfold mi rJ dx Pu Gt;rw[amN,if_pos (by omega),amN];have p:=tI l;have a:l.Perm (wL n)↔sW l=wL n:=⟨fun h=>aaw ((Ju l).trans h) (O9 l) (T2 n),fun h=>h ▸ (Ju l).symm⟩;rw[a];rw[sj (sW l) (fun i x=>if (i:Int)=x then none else some false) (by omega) (fun i x g =>?_) (by simp only[pY];simp_all)];rotate_left
 ·have r:=aU g;simp only[pY];rw[if_pos (by simpa using r),aT g,amN,bg (by omega)];grind
 rw[amN];cases k:fv (fun (i:Nat) (x:Int)=>if (i:Int)=x then none else some false) 0 (sW l) with
 | some q =>
  obtain⟨j,x,f,d,_⟩:=dB k;rw[amr]at d;split at d
  ·cases d
  ·rename_i m;cases d;refine⟨false,rfl,?_⟩;simp only[alY,false_iff];intro s;rw[s]at f;have e:=aU f;rw[JN]at e;rw[T1 e]at f;simp_all
 | none =>
  have c:∀(j:Nat) x,(sW l)[j]? = some x->(j:Int)=x:=fun j x h=>by
   have:=dh.1 k j x h;simp_all
  refine⟨_,rfl,?_⟩;rw[beq_iff_eq];constructor
  ·intro h;apply anp;intro j
   by_cases e:j<n
   ·have o:(sW l)[j]? = some ((sW l)[j]'(by omega)):=alE _;rw[T1 e,o,<- c j _ o]
   ·rw[anL (by omega),anL (by rw[JN];omega)]
  ·intro h;rw[h,JN]
structure yl (m:bo) (ports:Nat):Prop where
 flow:GB m.av
 takes:((m.av.aq.filter fun x=>x.a8==1).map (·.aS)).Perm (wL m.bC.length)
 gives:((m.av.aG.filter fun x=>x.a8==0).map (·.aS)).Perm (wL m.aC.length)
 uses:∀u∈m.bC,(0<=u.b8∧u.b8<ports)∧1<=u.aB∧u.aB<=1099511627776
 ports:∀p∈m.aC,0<=p∧p<(ports:Int)
def TV {m:bo} (h:m.av.aq.length<=100):aR (pb m) ((0:Int),[])=some ((m.av.aq.filter fun x=>x.a8==1).map (·.aS)):=by
 have key:=fun b a=>tp (body:=pb m) m.av.aq (by omega) (fun i (l:List Int)=>l=((m.av.aq.take i).filter fun x=>x.a8==1).map (·.aS)) (fun l=>l=(m.av.aq.filter fun x=>x.a8==1).map (·.aS)) (s0:=[]) rfl b a;refine (key ?_ ?_).elim fun x ⟨g,hx⟩=>hx ▸ g
 ·rintro i x _ hx rfl;have j:=aU hx;have c:m.av.aq.take (i+1)=m.av.aq.take i++[x]:=by
   obtain⟨d,k⟩:=alT.1 hx;rw[anM d,k]
  have e:=anT (fun x:ir=>x.a8==1) (m.av.aq.take i);rw[alI]at e;refine⟨_,?_,rfl⟩;simp only[pb];rw[if_pos (by simpa using j),aT hx,amN,bg (by omega),c,anO]
  by_cases f:x.a8=1
  ·rw[if_pos (by simpa using f),JY (by grind),amN,anS (by simpa using f),amE];rfl
  simp_all
 ·rintro _ rfl;refine⟨_,?_,rfl⟩;simp only[pb];simp_all
def Rx {m:bo} (h:m.av.aG.length<=100):aR (pc m) ((0:Int),[])=some ((m.av.aG.filter fun x=>x.a8==0).map (·.aS)):=by
 have key:=fun b a=>tp (body:=pc m) m.av.aG (by omega) (fun i (l:List Int)=>l=((m.av.aG.take i).filter fun x=>x.a8==0).map (·.aS)) (fun l=>l=(m.av.aG.filter fun x=>x.a8==0).map (·.aS)) (s0:=[]) rfl b a;refine (key ?_ ?_).elim fun x ⟨g,hx⟩=>hx ▸ g
 ·rintro i x _ hx rfl;have j:=aU hx;have c:m.av.aG.take (i+1)=m.av.aG.take i++[x]:=by
   obtain⟨d,k⟩:=alT.1 hx;rw[anM d,k]
  have e:=anT (fun x:sC=>x.a8==0) (m.av.aG.take i);rw[alI]at e;refine⟨_,?_,rfl⟩;simp only[pc];rw[if_pos (by simpa using j),aT hx,amN,bg (by omega),c,anO]
  by_cases f:x.a8=0
  ·rw[if_pos (by simpa using f),JY (by grind),amN,anS (by simpa using f),amE];rfl
  simp_all
 ·rintro _ rfl;refine⟨_,?_,rfl⟩;simp only[pc];simp_all
def ahH (u:iG) {a:Nat} (d:a<=2000):∃b,qX u (a:Int)=some b∧(b=false↔(0<=u.b8∧u.b8<a)∧1<=u.aB∧u.aB<=1099511627776):=by
 unfold qX;rw[ns,amN,nz (by omega)]
 by_cases c:0<=u.b8∧u.b8<=(a:Int)-1
 ·rw[decide_eq_true c,if_neg (by simp),ns,amN];grind
 ·rw[decide_eq_false c,if_pos (by simp)];grind
def ahs (p:Int) {a:Nat} (c:a<=2000):∃b,qY p (a:Int)=some b∧(b=false↔0<=p∧p<a):=by
 unfold qY;rw[ns,amN,nz (by omega)];grind
def afB {l:List iG} (r:l.length<=100) {a:Nat} (g:a<=2000):∃b,cy l (a:Int)=some b∧(b=false↔∀u∈l,(0<=u.b8∧u.b8<a)∧1<=u.aB∧u.aB<=1099511627776):=by
 unfold cy dy;rw[sj l (fun i u=>if (0<=u.b8∧u.b8<a)∧1<=u.aB∧u.aB<=1099511627776 then none else some (i:Int)) (by omega) (fun i x e =>?_) (by simp only[ee];rw[if_neg (by simp)])];rotate_left
 ·have k:=aU e;obtain⟨b,m,c⟩:=ahH x g;simp only[ee];rw[if_pos (by simpa using k),aT e,amN,m,amN,bg (by omega)];cases b with
  | false=>rw[if_pos (c.1 rfl)];rfl
  | true =>
   simp only[anW,false_iff]at c;simp only[if_true];rw[if_neg c]
 cases f:fv (fun (i:Nat) (u:iG)=>if (0<=u.b8∧u.b8<a)∧1<=u.aB∧u.aB<=1099511627776 then none else some (i:Int)) 0 l with
 | none =>
  refine⟨false,rfl,?_⟩;simp only[true_iff];intro u n;obtain⟨j,o⟩:=alL n;have:=dh.1 f j u o;split at this
  ·assumption
  ·cases this
 | some q =>
  obtain⟨j,x,p,d,_⟩:=dB f;split at d
  ·cases d
  ·rename_i hbad;cases d;refine⟨true,by simp,?_⟩;simp only[anW,false_iff];exact fun h=>hbad (h x (alR p))
def afa {l:List Int} (s:l.length<=100) {a:Nat} (g:a<=2000):∃b,cz l (a:Int)=some b∧(b=false↔∀p∈l,0<=p∧p<(a:Int)):=by
 unfold cz dz;rw[sj l (fun i p=>if 0<=p∧p<(a:Int) then none else some (i:Int)) (by omega) (fun i x e =>?_) (by simp only[ef];rw[if_neg (by simp)])];rotate_left
 ·have k:=aU e;obtain⟨b,m,c⟩:=ahs x g;simp only[ef];rw[if_pos (by simpa using k),aT e,amN,m,amN,bg (by omega)];cases b with
  | false=>rw[if_pos (c.1 rfl)];rfl
  | true =>
   simp only[anW,false_iff]at c;simp only[if_true];rw[if_neg c]
 cases f:fv (fun (i:Nat) (p:Int)=>if 0<=p∧p<(a:Int) then none else some (i:Int)) 0 l with
 | none =>
  refine⟨false,rfl,?_⟩;simp only[true_iff];intro u n;obtain⟨j,o⟩:=alL n;have:=dh.1 f j u o;split at this
  ·assumption
  ·cases this
 | some q =>
  obtain⟨j,x,r,d,_⟩:=dB f;split at d
  ·cases d
  ·rename_i hbad;cases d;refine⟨true,by simp,?_⟩;simp only[anW,false_iff];exact fun h=>hbad (h x (alR r))
def afd {m:bo} {ports:Nat} (c:ports<=2000) (a:rL m.av) (A:m.bC.length<=6) (j:m.aC.length<=6):∃b,wD m (ports:Int)=some b∧(b=true↔yl m ports):=by
 have B:=a.srcs;have C:=a.outs;obtain⟨k,n,d⟩:=O3 a;unfold wD;rw[n,amN];cases k with
 | false=>exact⟨false,rfl,by simp only[alY,false_iff];exact fun h=>by have:=d.2 h.flow;cases this⟩
 | true =>
 have o:=d.1 rfl;have p:=anT (fun x:ir=>x.a8==1) m.av.aq;have q:=anT (fun x:sC=>x.a8==0) m.av.aG;obtain⟨r,s,e⟩:=IH (l:=(m.av.aq.filter fun x=>x.a8==1).map (·.aS)) (by grind) m.bC.length;obtain⟨t,u,f⟩:=IH (l:=(m.av.aG.filter fun x=>x.a8==0).map (·.aS)) (by grind) m.aC.length;obtain⟨v,w,g⟩:=afB (l:=m.bC) (by omega) c;obtain⟨y,z,i⟩:=afa (l:=m.aC) (by omega) c;simp only[amC,alY,if_false];rw[TV (by omega),amN,Rx (by omega),amN,s,amN];cases r with
 | false=>exact⟨false,rfl,by simp only[alY,false_iff];exact fun h=>by have:=e.2 h.takes;cases this⟩
 | true =>
 simp only[if_true];rw[u,amN];cases t with
 | false=>exact⟨false,rfl,by simp only[alY,false_iff];exact fun h=>by have:=f.2 h.gives;cases this⟩
 | true =>
 simp only[if_true];rw[w,amN];cases v with
 | true=>exact⟨false,rfl,by simp only[alY,false_iff];exact fun h=>by have:=g.2 h.uses;cases this⟩
 | false =>
 simp only[Bool.not_false,if_true];rw[z,amN];refine⟨_,rfl,?_⟩;cases y with
 | true=>simp only[amC,alY,false_iff];exact fun h=>by have:=i.2 h.ports;cases this
 | false=>simp only[Bool.not_false,true_iff];exact⟨o,e.1 rfl,f.1 rfl,g.1 rfl,i.1 rfl⟩
def aht {l:List ah} (f:l.length<=8):(aR (fB l) 0=some (.inl ())∧∀x∈l,x.bn.aa.length<=4∧x.bu.aa.length<=4)∨aR (fB l) 0=some (.inr false):=by
 have b:=sj l (body:=fB l) (fun (i:Nat) (x:ah)=>if (x.bn.aa.length:Int)<=4∧(x.bu.aa.length:Int)<=4 then none else some false) (by omega) (fun i x a=>by
  have d:=aU a;simp only[fB];rw[if_pos (by simpa using d),aT a,amN,afb,amN,bg (by omega)];grind) (by simp only[fB];simp_all)
 rw[b];cases c:fv (fun (i:Nat) (x:ah)=>if (x.bn.aa.length:Int)<=4∧(x.bu.aa.length:Int)<=4 then none else some false) 0 l with
 | none =>
  refine .inl ⟨rfl,fun x a =>?_⟩;obtain⟨j,e⟩:=alL a;have:=dh.1 c j x e;grind
 | some q =>
  obtain⟨j,x,_,g,_⟩:=dB c;simp_all
def ZC (f:dR):∃b,pf f=some b∧(b=true->rL f):=by
 unfold pf
 by_cases n:f.aq.length<=5
 rotate_left
 ·exact⟨false,by grind,fun h=>by cases h⟩
 by_cases k:f.aG.length<=5
 rotate_left
 ·exact⟨false,by grind,fun h=>by cases h⟩
 by_cases o:f.aO.length<=8
 rotate_left
 ·exact⟨false,by grind,fun h=>by cases h⟩
 rw[if_neg (by simp;omega),if_neg (by simp;omega),decide_eq_false (by omega),amN,if_neg (by simp)]
 open Classical in
 rw[sj f.aO (fun i l=>if l.length<=8∧∀x∈l,x.bn.aa.length<=4∧x.bu.aa.length<=4 then none else some false) (by omega) (fun i l c =>?_) (by simp only[qe];simp_all)];rotate_left
 ·have d:=aU c;simp only[qe];rw[if_pos (by simpa using d),aT c,amN,bg (by omega)]
  by_cases h:l.length<=8
  ·rw[if_neg (by simp;omega)];rcases aht h with⟨e,v⟩|e
   ·simp_all
   ·rw[e]
    by_cases p:∀x∈l,x.bn.aa.length<=4∧x.bu.aa.length<=4
    ·exfalso;have g:=sj l (body:=fB l) (fun (i:Nat) (x:ah)=>(none:Option Bool)) (by omega) (fun i x c=>by
      have d:=aU c;have:=p x (alR c);simp only[fB];rw[if_pos (by simpa using d),aT c,amN,afb,amN,bg (by omega),decide_eq_true (by omega),if_neg (by simp)]) (by simp only[fB];simp_all)
     rw[e]at g;have r:∀(l:List ah) i,fv (fun _ _=>(none:Option Bool)) i l=none:=by
      intro l
      induction l with
      | nil=>intro i;rfl
      | cons a l s=>intro i;simp only[fv];exact s _
     simp_all
    grind
  grind
 rw[amN];cases m:fv (fun (i:Nat) (l:List ah)=>if l.length<=8∧∀x∈l,x.bn.aa.length<=4∧x.bu.aa.length<=4 then none else some false) 0 f.aO with
 | none =>
  refine⟨true,rfl,fun _=>⟨n,k,o,fun l t =>?_⟩⟩;obtain⟨j,u⟩:=alL t;have:=dh.1 m j l u;simp_all
 | some q =>
  obtain⟨j,x,_,k,_⟩:=dB m;simp_all
structure po (w:bf):Prop where
 given:w.aw.length<=6
 mills:w.au.length<=5
 mill:∀m∈w.au,rL m.av∧m.bC.length<=6∧m.aC.length<=6
def ae7 (w:bf):Option (Int×Int):=fv (fun (i:Nat) (n:Int)=>if 1<=n∧n<=1099511627776 then none else some ((3:Int),(i:Int))) 0 w.aw
def Vc {w:bf} (h:w.aw.length<=2000):aR (mN w) 0=some (match ae7 w with|none =>.inl ()|some r =>.inr r):=by
 refine Eq.trans (sj w.aw (body:=mN w) (fun (i:Nat) (n:Int)=>if 1<=n∧n<=1099511627776 then none else some ((3:Int),(i:Int))) (by omega) (fun i x a =>?_) ?_) ?_
 ·have b:=aU a;simp only[mN];rw[if_pos (by simpa using b),aT a,amN,ns,amN,bg (by omega)];grind
 ·simp only[mN];simp_all
 ·unfold ae7;grind
def VX {m:bo} {N:Nat} (v:N<=2000) (w:m.aC.length<=6) (g:∀p∈m.aC,0<=p∧p<(N:Int)) (t:Nat->Int) (h:∀q,q<N->0<=t q∧t q<=1000000) :
  aR (mO m) ((0:Int),(List.range N).map t)=some ((List.range N).map fun q=>t q+(m.aC.count (q:Int):Int)):=by
 have key:=fun b a=>tp (body:=mO m) m.aC (by omega) (fun i (l:List Int)=>l=(List.range N).map fun q=>t q+((m.aC.take i).count (q:Int):Int)) (fun l=>l=(List.range N).map fun q=>t q+(m.aC.count (q:Int):Int)) (s0:=(List.range N).map t)
  (amL fun q _=>by simp) b a
 refine (key ?_ ?_).elim fun x ⟨e,hx⟩=>hx ▸ e
 ·rintro i p _ hx rfl;have n:=aU hx;obtain⟨e,y⟩:=g p (alR hx);obtain⟨k,rfl⟩:∃k:Nat,p=k:=⟨p.toNat,by omega⟩;have f:k<N:=by omega
  have o:∀q:Nat,(m.aC.take i).count (q:Int)<=6:=fun q=>als (List.count_le_length ..) (by grind);have r:=o k;have c:m.aC.take (i+1)=m.aC.take i++[(k:Int)]:=by
   obtain⟨d,s⟩:=alT.1 hx;rw[anM d,s]
  have z:=h k f;refine⟨_,?_,rfl⟩;simp only[mO];rw[if_pos (by simpa using n),aT hx,amN,aT (dJ _ f),amN,amk,iw,bg (by omega),nz (by omega),c];have:(fun j=>if j=k then t k+((m.aC.take i).count (k:Int):Int)+1 else t j+((m.aC.take i).count (j:Int):Int))=fun q=>t q+((m.aC.take i++[(k:Int)]).count (q:Int):Int):=funext fun q=>by
   rw[List.count_append]
   by_cases u:q=k
   ·grind
   ·rw[if_neg u,List.count_cons_of_ne (by omega)];simp
  rw[this]
 ·rintro _ rfl;refine⟨_,?_,rfl⟩;simp only[mO];simp_all
def KE (q:Nat) (x:Int) (u:iG):Int:=if u.b8=(q:Int) then (if 1099511627777<x+u.aB then 1099511627777 else x+u.aB) else x
def qo (q:Nat) (l:List iG) (x:Int):Int:=l.foldl (KE q) x
def JO {q:Nat} {x:Int} {u:iG} (a:0<=x∧x<=1099511627777) (b:1<=u.aB∧u.aB<=1099511627776):0<=KE q x u∧KE q x u<=1099511627777:=by
 unfold KE;omega
def vA {q:Nat} : ∀ {l:List iG} {x:Int},(0<=x∧x<=1099511627777)->(∀u∈l,1<=u.aB∧u.aB<=1099511627776)->0<=qo q l x∧qo q l x<=1099511627777
 | [],_,hx,_=>hx
 | u::l,x,hx,h=>vA (l:=l) (x:=KE q x u) (JO hx (h u (amH ..))) fun v a=>h v (amI _ a)
def aaP {m:bo} {N:Nat} (w:N<=2000) (y:m.bC.length<=6) (f:∀u∈m.bC,(0<=u.b8∧u.b8<(N:Int))∧1<=u.aB∧u.aB<=1099511627776) (t:Nat->Int) (o:∀q,q<N->0<=t q∧t q<=1099511627777) :
  aR (mP m) ((0:Int),(List.range N).map t)=some ((List.range N).map fun q=>qo q m.bC (t q)):=by
 have key:=fun c a=>tp (body:=mP m) m.bC (by omega) (fun i (l:List Int)=>l=(List.range N).map fun q=>qo q (m.bC.take i) (t q)) (fun l=>l=(List.range N).map fun q=>qo q m.bC (t q)) (s0:=(List.range N).map t)
  (amL fun q _=>by simp[qo]) c a
 refine (key ?_ ?_).elim fun x ⟨g,hx⟩=>hx ▸ g
 ·rintro i u _ hx rfl;have p:=aU hx;obtain⟨⟨g,z⟩,A⟩:=f u (alR hx);obtain⟨k,b⟩:∃k:Nat,u.b8=k:=⟨u.b8.toNat,by omega⟩;have h:k<N:=by omega
  have d:m.bC.take (i+1)=m.bC.take i++[u]:=by
   obtain⟨e,r⟩:=alT.1 hx;rw[anM e,r]
  have B:=vA (q:=k) (l:=m.bC.take i) (o k h) fun v s=>(f v (al6 s)).2;refine⟨_,?_,rfl⟩;simp only[mP];rw[if_pos (by simpa using p),aT hx,amN,b,aT (dJ _ h),amN,amk,iw,bg (by omega),nz (by omega),d];have:(fun j=>if j=k then (if 1099511627777<qo k (m.bC.take i) (t k)+u.aB then 1099511627777 else qo k (m.bC.take i) (t k)+u.aB) else qo j (m.bC.take i) (t j))=fun q=>qo q (m.bC.take i++[u]) (t q):=funext fun q=>by
   unfold qo;rw[List.foldl_append];simp only[List.foldl_cons,List.foldl_nil]
   by_cases n:q=k
   ·subst n;rw[if_pos rfl]
    conv=>rhs;rw[KE]
    rw[if_pos b]
   ·rw[if_neg n]
    conv=>rhs;rw[KE]
    omega
  rw[this]
 ·rintro _ rfl;refine⟨_,?_,rfl⟩;simp only[mP];simp_all
def L4 {α ρ:Type} {st:Nat->α->Option ρ} {r:ρ} : ∀ {l:List α} {k i:Nat} {x:α},l[i]? = some x->st (k+i) x=some r->(∀j y,j<i->l[j]? = some y->st (k+j) y=none)->fv st k l=some r
 | [],_,_,_,h,_,_=>by simp at h
 | a::l,k,0,x,h,hs,_=>by
  simp only[List.getElem?_cons_zero,alz]at h;subst h;rw[alZ]at hs;simp only[fv,hs]
 | a::l,k,i+1,x,h,hs,c=>by
  have b:=c 0 a (by omega) rfl;rw[alZ]at b;simp only[fv,b];refine L4 (k:=k+1) (i:=i) (x:=x) (by simpa using h) (by grind) fun j y d e =>?_;grind
open Classical in
def UU (N:Nat) (a:List bo):Option (Int×Int):=fv (fun (i:Nat) (m:bo)=>if yl m N then none else some ((1:Int),(i:Int))) 0 a
def Gf (a:List bo) (q:Nat):Int:=a.foldl (fun x m=>x+(m.aC.count (q:Int):Int)) 0
def usF (a:List bo) (q:Nat):Int:=a.foldl (fun x m=>qo q m.bC x) 0
def Vk {w:bf} (g:po w) :
  (∃r,UU w.aw.length w.au=some r∧aR (kU w) ((0:Int),List.replicate w.aw.length 0,List.replicate w.aw.length 0)=some (.inr r)) ∨
  (UU w.aw.length w.au=none∧(∀m∈w.au,yl m w.aw.length)∧aR (kU w) ((0:Int),List.replicate w.aw.length 0,List.replicate w.aw.length 0)=some (.inl ((List.range w.aw.length).map (Gf w.au),(List.range w.aw.length).map (usF w.au)))):=by
 have E:=g.given;have n:=g.mills;have f:List.replicate w.aw.length (0:Int)=(List.range w.aw.length).map fun _=>0:=iC (by simp) fun j t=>by simp_all
 obtain⟨q,F,G⟩:=db (body:=kU w)
  (fun i st=>st=((i:Int),(List.range w.aw.length).map (Gf (w.au.take i)),(List.range w.aw.length).map (usF (w.au.take i)))∧(∀m∈w.au.take i,yl m w.aw.length)∧∀q,(0<=Gf (w.au.take i) q∧Gf (w.au.take i) q<=6*i)∧0<=usF (w.au.take i) q∧usF (w.au.take i) q<=1099511627777) w.au.length
  (fun q=>(∃r,UU w.aw.length w.au=some r∧q=.inr r)∨(UU w.aw.length w.au=none∧(∀m∈w.au,yl m w.aw.length)∧q=.inl ((List.range w.aw.length).map (Gf w.au),(List.range w.aw.length).map (usF w.au))))
  (s:=((0:Int),List.replicate w.aw.length 0,List.replicate w.aw.length 0)) ⟨by rw[f];rfl,fun m n=>by simp at n,fun q=>by simp[Gf,usF]⟩ (jQ (by omega)) (by
   rintro i _ H ⟨rfl,a,h⟩
   by_cases c:i<w.au.length
   ·have d:w.au[i]? = some w.au[i]:=alE c;have e:w.au.take (i+1)=w.au.take i++[w.au[i]]:=anM c;generalize w.au[i]=m at d e;obtain⟨v,o,k⟩:=g.mill m (alR d);obtain⟨b,z,A⟩:=afd (m:=m) (ports:=w.aw.length) (by omega) v o k;simp only[kU];rw[if_pos (by simpa using c),aT d,amN,z,amN];cases b with
    | false =>
     right;refine⟨_,rfl,.inl ⟨_,?_,rfl⟩⟩;unfold UU;refine L4 (i:=i) (x:=m) d ?_ fun j y t p =>?_
     ·simp_all
     ·rw[if_pos (a y (alR (i:=j) (by grind)))]
    | true =>
     have l:=A.1 rfl;left;refine⟨c,?_⟩;have B:∀q,Gf (w.au.take (i+1)) q=Gf (w.au.take i) q+(m.aC.count (q:Int):Int):=fun q=>by rw[e];unfold Gf;simp_all
     have C:∀q,usF (w.au.take (i+1)) q=qo q m.bC (usF (w.au.take i) q):=fun q=>by rw[e];unfold usF;simp_all
     simp only[amC,alY,if_false];rw[VX (by omega) k l.ports _ (fun q _=>by grind),amN,aaP (by omega) o l.uses _ (fun q _=>(h q).2),amN,bg (by omega)];refine⟨_,rfl,?_,fun y p =>?_,fun q =>?_⟩
     ·simp_all
     ·grind
     ·have I:m.aC.count (q:Int)<=6:=als (List.count_le_length ..) k;have J:=(h q).1;rw[B,C];exact⟨by omega,vA (h q).2 fun u D=>(l.uses u D).2⟩
   ·right;have:i=w.au.length:=by omega
    subst this;rw[ano]at a ⊢;refine⟨_,by simp only[kU];simp_all,.inr ⟨?_,a,rfl⟩⟩;unfold UU;refine dh.2 fun j y p =>?_;grind)
 simp_all
def ae8 (l:List Int):Option (Int×Int):=fv (fun (i:Nat) (x:Int)=>if x=0 then some ((21:Int),(i:Int)) else if 1<x then some (5,(i:Int)) else none) 0 l
def ahr (w:bf) (l:List Int):Option (Int×Int):=fv (fun (i:Nat) (x:Int)=>if w.aw.getD i 0<x then some ((25:Int),(i:Int)) else none) 0 l
def VY {l:List Int} (h:l.length<=2000):aR (mQ l) 0=some (match ae8 l with|none =>.inl ()|some r =>.inr r):=by
 refine Eq.trans (sj l (body:=mQ l) (fun (i:Nat) (x:Int)=>if x=0 then some ((21:Int),(i:Int)) else if 1<x then some (5,(i:Int)) else none) (by omega) (fun i x a =>?_) ?_) ?_
 ·have b:=aU a;simp only[mQ];rw[if_pos (by simpa using b),aT a,amN,bg (by omega)];grind
 ·simp only[mQ];simp_all
 ·unfold ae8;grind
def aaQ {w:bf} {l:List Int} (h:l.length<=2000) (d:l.length=w.aw.length):aR (mR w l) 0=some (match ahr w l with|none =>.inl ()|some r =>.inr r):=by
 refine Eq.trans (sj l (body:=mR w l) (fun (i:Nat) (x:Int)=>if w.aw.getD i 0<x then some ((25:Int),(i:Int)) else none) (by omega) (fun i x a =>?_) ?_) ?_
 ·have b:=aU a;have c:w.aw[i]? = some (w.aw.getD i 0):=by simp_all
  simp only[mR];rw[if_pos (by simpa using b),aT a,amN,aT c,amN,bg (by omega)];grind
 ·simp only[mR];simp_all
 ·unfold ahr;grind
def CM (w:bf):Option (Int×Int):=(((ae7 w).or (UU w.aw.length w.au)).or (ae8 ((List.range w.aw.length).map (Gf w.au)))).or (ahr w ((List.range w.aw.length).map (usF w.au)))
def Cn {w:bf} (a:po w):o0 w=some ((CM w).getD (0,0)):=by
 have d:=a.given;have e:=a.mills;unfold o0 CM;rw[if_neg (by simp;omega),decide_eq_false (by omega),amN,if_neg (by simp),Vc (by omega),amN];cases ae7 w with
 | some r=>rfl
 | none =>
 simp only[Option.none_or];rw[Fy _ (by omega) (by omega),amN];rcases Vk a with⟨r,b,c⟩|⟨b,_,c⟩
 ·rw[c,b];rfl
 rw[c,b,amN];simp only[Option.none_or];rw[VY (by simp;omega),amN];cases ae8 ((List.range w.aw.length).map (Gf w.au)) with
 | some r=>rfl
 | none =>
 simp only[Option.none_or];rw[aaQ (by simp;omega) (by simp),amN];grind
section
variable {κ α:Type} [DecidableEq κ]
def uk {n:κ} : ∀ {m:List (κ×α)},qu m n=true↔n∈m.map (·.1)
 | []=>by simp[qu]
 | (k,v)::m=>by
  simp only[qu,alw,alx]
  by_cases h:k=n
  ·subst h;simp
  ·have:=uk (n:=n) (m:=m);grind
def Ep {n:κ} {x:α} : ∀ {m:List (κ×α)},(uC m n x).map (·.1)=if qu m n=true then m.map (·.1) else m.map (·.1)++[n]
 | []=>by simp[uC,qu]
 | (k,v)::m=>by
  have a:=Ep (n:=n) (x:=x) (m:=m);simp only[uC,qu];grind
def Vw {n:κ} {x:α} {m:List (κ×α)} (h:(m.map (·.1)).Nodup):((uC m n x).map (·.1)).Nodup:=by
 rw[Ep];split
 ·exact h
 ·rename_i hn;have hn:n∉m.map (·.1):=fun a=>hn (uk.2 a);grind
def MP {z x:α} {n k:κ} : ∀ {m:List (κ×α)},gO z (uC m n x) k=if k=n then x else gO z m k
 | []=>by
  simp only[uC,gO];grind
 | (a,v)::m=>by
  have b:=MP (z:=z) (x:=x) (n:=n) (k:=k) (m:=m);simp only[uC]
  by_cases h:a=n
  ·rw[if_pos h];simp only[gO];grind
  ·rw[if_neg h];simp only[gO];grind
def Sc {z:α} {k:κ} {v:α} : ∀ {m:List (κ×α)},(m.map (·.1)).Nodup->((k,v)∈m↔qu m k=true∧gO z m k=v)
 | [],_=>by simp[qu]
 | (a,x)::m,h=>by
  rw[alw,List.nodup_cons]at h;have b:=Sc (z:=z) (k:=k) (v:=v) (m:=m) h.2;simp only[qu,gO,alx,Prod.mk.injEq];grind
end
abbrev MQ:=List ((Int×Int)×Rat)
def lS (m:MQ):List ((Int×Int)×ah):=m.map fun p=>(p.1,bJ p.2)
def Iu (m:MQ):(lS m).length=m.length:=alU ..
def Z4 (m:MQ):(lS m).map (·.1)=m.map (·.1):=by unfold lS;simp_all
def Sg (m:MQ) (k:Int×Int):qu (lS m) k=qu m k:=by
 induction m with
 | nil=>rfl
 | cons p m b =>
  obtain⟨a,v⟩:=p;rw[show lS ((a,v)::m)=(a,bJ v)::lS m from rfl];simp only[qu,b]
def Z5 {z:ah} {m:MQ} {k:Int×Int} (h:qu m k=true):gO z (lS m) k=bJ (gO 0 m k):=by
 induction m with
 | nil=>cases h
 | cons p m c =>
  obtain⟨a,v⟩:=p;show (if a=k then bJ v else gO z (lS m) k)=bJ (if a=k then v else gO 0 m k)
  by_cases b:a=k
  ·simp_all
  ·rw[if_neg b,if_neg b];exact c (by simpa [qu,b] using h)
def Sh (m:MQ) (k:Int×Int) (q:Rat):uC (lS m) k (bJ q)=lS (uC m k q):=by
 induction m with
 | nil=>rfl
 | cons p m c =>
  obtain⟨a,v⟩:=p;show (if a=k then (a,bJ q)::lS m else (a,bJ v)::uC (lS m) k (bJ q))=lS (if a=k then (a,q)::m else (a,v)::uC m k q)
  by_cases b:a=k
  ·rw[if_pos b,if_pos b];rfl
  ·rw[if_neg b,if_neg b,c];rfl
def afq {m:MQ} {k:Int×Int} (h:qu m k=false):gO 0 m k=0:=by
 induction m with
 | nil=>rfl
 | cons p m b =>
  obtain⟨a,v⟩:=p;simp only[qu,Bool.or_eq_false_iff,beq_eq_false_iff_ne]at h;simp only[gO];simp_all
def mA (m:MQ) (c:(Int×Int)×Rat):MQ:=uC m c.1 (gO 0 m c.1+c.2)
def YY (m:MQ) (c:(Int×Int)×Rat) (k:Int×Int):gO 0 (mA m c) k=gO 0 m k+(if k=c.1 then c.2 else 0):=by
 unfold mA;rw[MP];grind
def xO (k:Int×Int):List ((Int×Int)×Rat)->Rat
 | []=>0
 | c::l=>(if k=c.1 then c.2 else 0)+xO k l
def DL:∀(l:List ((Int×Int)×Rat)) (m:MQ) (k:Int×Int),gO 0 (l.foldl mA m) k=gO 0 m k+xO k l
 | [],m,k=>by simp only[List.foldl_nil,xO];grind
 | c::l,m,k=>by
  rw[al9,DL l,YY];simp only[xO];grind
def Bn:∀(l:List ((Int×Int)×Rat)) (m:MQ),(m.map (·.1)).Nodup->((l.foldl mA m).map (·.1)).Nodup
 | [],_,h=>h
 | c::l,m,h=>Bn l (mA m c) (Vw h)
def aeJ {p q:Int} (a : -9223372036854775808<=p∧p<9223372036854775808) (b : -9223372036854775808<=q∧q<9223372036854775808) (c:q≠0):pQ p q=some (bJ (Rat.divInt p q),0):=by
 unfold pQ;rw[Wq a,amN,Wq b,amN,NN (aba a) (aba b) c,amN]
open Classical in
def Vz (f:ah):Rat:=if h:∃q,f=bJ q then Classical.choose h else 0
def An (q:Rat):Vz (bJ q)=q:=by
 have h:∃p,bJ q=bJ p:=⟨q,rfl⟩;unfold Vz;rw[dif_pos h];exact (vg (Classical.choose_spec h)).symm
def Di (f:dR) (k i:Nat):Rat:=Vz ((f.aO.getD k []).getD i (ah.mk (aH.mk 0 ([])) (aH.mk 0 ([]))))
def uJ {f:dR} (o:rL f) (g:GB f) {k i:Nat} (p:k<f.aG.length) (r:i<f.aq.length) :
  ∃a,f.aO[k]? = some a∧a[i]? = some (bJ (Di f k i))∧0<=Di f k i∧LF (Di f k i)<=4:=by
 have d:k<f.aO.length:=by rw[g.rows];exact p
 have m:f.aO[k]? = some (f.aO[k]):=alE d;have h:=alC d;have s:f.aO.getD k []=f.aO[k]:=by simp_all
 have t:=g.row _ h;have n:=(o.row _ h).2;unfold Di;rw[s];have b:(DE f i)[k]? = some ((f.aO[k][i]?).getD (ah.mk (aH.mk 0 ([])) (aH.mk 0 ([])))):=by
  unfold DE;simp_all
 generalize f.aO[k]=a at m h t n b ⊢;have c:a[i]? = some (a[i]'(by omega)):=alE _;have j:=n _ (alR c);have l:a.getD i (ah.mk (aH.mk 0 ([])) (aH.mk 0 ([])))=a[i]'(by omega):=by simp_all
 rw[c]at b;rw[l];obtain⟨w,u,x,_⟩:=g.col i r;rw[u]at b;rw[aln]at b;obtain⟨q,v,e⟩:=alo.1 b;simp only[Option.getD_some]at e;rw[<- e]at c j ⊢;refine⟨a,m,?_,?_,?_⟩
 ·rw[An];exact c
 ·rw[An];grind
 ·rw[An];exact pG j.1 j.2
def Na {f:dR} (m:rL f) (b:GB f) {i:Nat} (e:i<f.aq.length):pA ((List.range f.aG.length).map fun k=>Di f k i)=1:=by
 obtain⟨g,h,_,p⟩:=b.col i e;have:g=(List.range f.aG.length).map fun k=>Di f k i:=by
  have a:g.length=f.aG.length:=by
   have:=congrArg List.length h;unfold DE at this;simp only[alU]at this;rw[<- b.rows];exact this.symm
  refine iC a fun j n =>?_;obtain⟨o,r,s,_,_⟩:=uJ m b n e;have l:(DE f i)[j]? = some (bJ (Di f j i)):=by
   unfold DE;simp_all
  rw[h,aln]at l;obtain⟨q,c,d⟩:=alo.1 l;rw[c,vg d]
 simp_all
abbrev Dy:=(Int×Int)×Rat
def yH (m:bo) (i:Nat) (u:iG) (r:Rat) (k:Nat):List Dy :=
 match m.av.aG[k]? with
 | some y=>if y.a8=0∧Di m.av k i≠0 then [((u.b8,m.aC.getD y.aS.toNat 0),r*Di m.av k i)] else []
 | none=>[]
def FT (g:List Int) (u:iG):Rat:=Rat.divInt u.aB (g.getD u.b8.toNat 0)
def qw (m:bo) (n:Int):iG:=m.bC.getD n.toNat (iG.mk 0 0)
def Cl (g:List Int) (m:bo) (i:Nat):List Dy :=
 match m.av.aq[i]? with
 | some x=>if x.a8=1 then (List.range m.av.aG.length).flatMap (yH m i (qw m x.aS) (FT g (qw m x.aS))) else []
 | none=>[]
def oY (g:List Int) (m:bo):List Dy:=(List.range m.av.aq.length).flatMap (Cl g m)
def tf (w:bf):List Dy:=w.au.flatMap (oY w.aw)
def pH:LF 0<=1:=Bb (n:=0) (by decide)
def NM {K:Nat} {k:Int×Int} : ∀ {l:List Dy},(∀c∈l,LF c.2<=K)->LF (xO k l)<=1+l.length*(K+1)
 | [],_=>by simp only[xO];have:=pH;simp;omega
 | c::l,h=>by
  have b:=NM (k:=k) (l:=l) fun x a=>h x (amI _ a);have d:=h c (amH ..);simp only[xO,List.length_cons];have e:=oE (if k=c.1 then c.2 else 0) (xO k l);grind
def afG {z:ah} {M:MQ} {k:Int×Int} {v:Rat} {K:Nat} (h:LF (gO 0 M k)<=K) (c:LF v<=K) (d:K<=1000000000) :
  (qu (lS M) k=true->tu (gO z (lS M) k) (bJ v)=some (bJ (gO 0 M k+v))∧uC (lS M) k (bJ (gO 0 M k+v))=lS (mA M (k,v)))∧(qu (lS M) k=false->uC (lS M) k (bJ v)=lS (mA M (k,v))):=by
 have b:eL=4398046511104:=rfl;constructor
 ·intro a;rw[Sg]at a;rw[Z5 a,agp (by omega),Sh];exact⟨rfl,rfl⟩
 ·intro a;rw[Sg]at a;rw[Sh];unfold mA;rw[afq a,show (0:Rat)+v=v by grind]
def Ia {m:bo} {N:Nat} (a:yl m N) {y:sC} (b:y∈m.av.aG) (c:y.a8=0):∃j:Nat,y.aS=j∧j<m.aC.length:=by
 have:y.aS∈wL m.aC.length:=a.gives.mem_iff.1 (alp.2 ⟨y,amO.2 ⟨b,by simpa using c⟩,rfl⟩);unfold wL at this;grind
def aek {m:bo} {N:Nat} (a:yl m N) {x:ir} (b:x∈m.av.aq) (c:x.a8=1):∃j:Nat,x.aS=j∧j<m.bC.length:=by
 have:x.aS∈wL m.bC.length:=a.takes.mem_iff.1 (alp.2 ⟨x,amO.2 ⟨b,by simpa using c⟩,rfl⟩);unfold wL at this;grind
structure JW (n:Nat) (h:List Dy):Prop where
 len:h.length<=n
 sz:∀c∈h,LF c.2<=20
def JW.look {n:Nat} {h:List Dy} (H:JW n h) (k:Int×Int):LF (gO 0 (h.foldl mA []) k)<=1+n*21:=by
 rw[DL,show gO 0 ([]:MQ) k=0 from rfl,show (0:Rat)+xO k h=xO k h by grind];have a:=NM (k:=k) H.sz;have b:=H.len;omega
def JW.app {n a:Nat} {h l:List Dy} (H:JW n h) (e:l.length<=a) (b:∀c∈l,LF c.2<=20):JW (n+a) (h++l) :=
 ⟨by rw[amu];have:=H.len;omega,fun c d=>(amG.1 d).elim (H.sz c) (b c)⟩
def PV (m:bo) (i:Nat) (u:iG) (r:Rat) (k:Nat):(yH m i u r k).length<=1:=by
 unfold yH;grind
def rR {α:Type} {f:Nat->List α} {b:Nat} (h:∀i,(f i).length<=b):∀n,((List.range n).flatMap f).length<=n*b
 | 0=>by simp
 | n+1=>by
  have:=rR h n;have a:=h n;rw[anP,List.flatMap_append,amu,amY];grind
def Mb {α:Type} {f:Nat->List α} (n:Nat):(List.range (n+1)).flatMap f=(List.range n).flatMap f++f n:=by
 rw[anP,List.flatMap_append];simp
def aeV {m:bo} {i:Nat} {u:iG} {r:Rat} {k:Nat} (b:rL m.av) (d:GB m.av) (e:i<m.av.aq.length) (g:LF r<=10):∀c∈yH m i u r k,LF c.2<=20:=by
 intro c a;unfold yH at a;split at a
 ·rename_i y f;split at a
  ·rw[alM.1 a];obtain⟨_,_,_,_,h⟩:=uJ b d (aU f) e;have:=sA r (Di m.av k i);simp only;omega
  ·cases a
 ·cases a
def X5 {m:bo} {i:Nat} {u:iG} {r:Rat} {n:Nat} (a:rL m.av) (b:GB m.av) (d:i<m.av.aq.length) (e:LF r<=10):∀c∈(List.range n).flatMap (yH m i u r),LF c.2<=20:=by
 intro c f;obtain⟨k,_,g⟩:=amF.1 f;exact aeV a b d e c g
def aaj {m:bo} {N i n:Nat} {u:iG} {r:Rat} {h:List Dy} (d:rL m.av) (e:yl m N) (o:i<m.av.aq.length) (w:LF r<=10) (H:JW n h) (L:n<=1000) :
  aR (iV m (i:Int) u (bJ r,0)) ((0:Int),lS (h.foldl mA []))=some (lS ((h++(List.range m.av.aG.length).flatMap (yH m i u r)).foldl mA [])):=by
 have y:eL=4398046511104:=rfl;have O:=d.outs;have key:=fun f b=>tp (body:=iV m (i:Int) u (bJ r,0)) m.av.aG (by omega)
  (fun k (c:List ((Int×Int)×ah))=>c=lS ((h++(List.range k).flatMap (yH m i u r)).foldl mA [])) (fun c=>c=lS ((h++(List.range m.av.aG.length).flatMap (yH m i u r)).foldl mA [])) (s0:=lS (h.foldl mA [])) (by simp) f b
 refine (key ?_ ?_).elim fun x ⟨A,hx⟩=>hx ▸ A
 ·rintro k x _ hx rfl;have p:=aU hx;have Q:=rR (fun k=>PV m i u r k) k;have q:=H.app (a:=k) (by omega) (X5 (u:=u) (n:=k) d e.flow o w);obtain⟨B,C,s,R,S⟩:=uJ d e.flow p o;rw[Mb,<- am8];generalize h++(List.range k).flatMap (yH m i u r)=D at q;have g:=q.look;have E:yH m i u r k=if x.a8=0∧Di m.av k i≠0 then [((u.b8,m.aC.getD x.aS.toNat 0),r*Di m.av k i)] else []:=by unfold yH;rw[hx]
  refine⟨_,?_,rfl⟩;simp only[iV];rw[if_pos (by simpa using p),aT hx,amN,bg (by omega),E]
  by_cases l:x.a8=0
  ·rw[if_neg (by simp[l]),aT C,amN,aT s,amN,yE (by omega),amN,amN]
   by_cases F:Di m.av k i=0
   ·simp_all
   ·obtain⟨j,G,T⟩:=Ia e (alR hx) l;have t:m.aC[j]? = some (m.aC.getD x.aS.toNat 0):=by simp_all
    have I:=sA r (Di m.av k i);rw[if_neg (by simp_all),if_pos ⟨l,F⟩];rw[show P.idx m.aC x.aS=some (m.aC.getD x.aS.toNat 0) by rw[G]at t ⊢;exact aT t];rw[amN,amN,aT s,amN,KJ (by omega),amN];have J:=afG (z:=ah.mk (aH.mk 0 ([])) (aH.mk 0 ([]))) (M:=D.foldl mA []) (k:=(u.b8,m.aC.getD x.aS.toNat 0)) (v:=r*Di m.av k i) (K:=20+(n+k)*21) (als (g _) (by omega)) (by omega) (by omega);simp_all
  simp_all
 ·rintro _ rfl;refine⟨_,?_,rfl⟩;simp only[iV];simp_all
def YV {x:Int} (a:1<=x) (b:x<=1099511627776):Ln x<=3:=PL (by rw[nc,nc,nc,vt];omega)
def Ba (g:List Int):Prop:=∀x∈g,1<=x∧x<=1099511627776
def CQ {g:List Int} (b:Ba g) {p:Int} (h:0<=p∧p<(g.length:Int)):∃j:Nat,p=j∧j<g.length∧g[j]? = some (g.getD p.toNat 0)∧1<=g.getD p.toNat 0∧g.getD p.toNat 0<=1099511627776:=by
 obtain⟨j,rfl⟩:∃j:Nat,p=j:=⟨p.toNat,by omega⟩;have c:j<g.length:=by omega
 have a:g[j]? = some (g.getD (j:Int).toNat 0):=by simp_all
 exact⟨j,rfl,c,a,b _ (alR a)⟩
def B4 {m:bo} {N:Nat} (b:yl m N) {x:ir} (c:x∈m.av.aq) (d:x.a8=1):P.idx m.bC x.aS=some (qw m x.aS)∧qw m x.aS∈m.bC:=by
 obtain⟨j,e,f⟩:=aek b c d;have a:m.bC[j]? = some (qw m x.aS):=by unfold qw;simp_all
 exact⟨by rw[e]at a ⊢;exact aT a,alR a⟩
def NU {g:List Int} {m:bo} (b:Ba g) (c:yl m g.length) {u:iG} (d:u∈m.bC):LF (FT g u)<=10∧0<FT g u:=by
 obtain⟨e,a⟩:=c.uses u d;obtain⟨j,i,k,l,f,h⟩:=CQ b e;have n:=YV a.1 a.2;have o:=YV f h;unfold FT;have r:=tD (p:=u.aB) (q:=g.getD u.b8.toNat 0) (by omega);refine⟨by omega,?_⟩;rw[anX,anH];exact Rat.mul_pos (by exact_mod_cast (show (0:Int)<u.aB by omega)) (Rat.inv_pos.2 (by exact_mod_cast (show (0:Int)<g.getD u.b8.toNat 0 by omega)))
def WM {g:List Int} {m:bo} (e:Ba g) (b:rL m.av) (a:yl m g.length) (i:Nat):(Cl g m i).length<=5∧∀c∈Cl g m i,LF c.2<=20:=by
 unfold Cl;split
 ·rename_i x d;split
  ·rename_i f;have h:=b.outs;have j:=rR (fun k=>PV m i (qw m x.aS) (FT g (qw m x.aS)) k) m.av.aG.length;refine⟨by omega,X5 b a.flow (aU d) (NU e a (B4 a (alR d) f).2).1⟩
  simp_all
 simp_all
def Yi {g:List Int} {m:bo} (a:Ba g) (b:rL m.av) (d:yl m g.length) (n:Nat):((List.range n).flatMap (Cl g m)).length<=n*5∧∀c∈(List.range n).flatMap (Cl g m),LF c.2<=20:=by
 refine⟨rR (fun i=>(WM a b d i).1) n,fun c e =>?_⟩;obtain⟨k,_,f⟩:=amF.1 e;exact (WM a b d k).2 c f
def Uz {g:List Int} {m:bo} {n:Nat} {h:List Dy} (o:Ba g) (p:rL m.av) (b:yl m g.length) (H:JW n h) (I:n<=900) :
  ka (lS (h.foldl mA [])) g m=some (lS ((h++oY g m).foldl mA []),()):=by
 have A:eL=4398046511104:=rfl;have J:=p.srcs;have key:=fun q d=>tp (body:=kE g m) m.av.aq (by omega)
  (fun k (c:List ((Int×Int)×ah))=>c=lS ((h++(List.range k).flatMap (Cl g m)).foldl mA [])) (fun c=>c=lS ((h++oY g m).foldl mA [])) (s0:=lS (h.foldl mA [])) (by simp) q d
 unfold ka;refine (key ?_ ?_).elim fun c t =>?_
 ·rintro i x _ l rfl;have v:=aU l;obtain⟨B,C⟩:=Yi o p b i;have w:=H.app (a:=i*5) B C;rw[Mb,<- am8];generalize h++(List.range i).flatMap (Cl g m)=K at w;have t:Cl g m i=if x.a8=1 then (List.range m.av.aG.length).flatMap (yH m i (qw m x.aS) (FT g (qw m x.aS))) else []:=by unfold Cl;rw[l]
  refine⟨_,?_,rfl⟩;simp only[kE];rw[if_pos (by simpa using v),aT l,amN,bg (by omega),t]
  by_cases s:x.a8=1
  ·obtain⟨D,y⟩:=B4 b (alR l) s;have E:=NU o b y;obtain⟨F,L⟩:=b.uses _ y;obtain⟨j,G,M,z,N,O⟩:=CQ o F;have e:P.idx g (qw m x.aS).b8=some (g.getD (qw m x.aS).b8.toNat 0):=by
    rw[G]at z ⊢;exact aT z
   rw[if_neg (by simp[s]),D,amN,e,amN,aeJ (by omega) (by omega) (by omega),amN,if_pos s];have f:=aaj (u:=qw m x.aS) (r:=FT g (qw m x.aS)) p b v E.1 w (by omega);unfold FT at f ⊢;erw [f];rfl
  simp_all
 ·rintro _ rfl;refine⟨_,?_,rfl⟩;simp only[kE];rw[if_neg (by simp)];rfl
 simp_all
def abE {g:List Int} {m:bo} (b:Ba g) (a:rL m.av) (d:yl m g.length):(oY g m).length<=25∧∀c∈oY g m,LF c.2<=20:=by
 have:=Yi b a d m.av.aq.length;have e:=a.srcs;exact⟨by have:=this.1;unfold oY;omega,this.2⟩
def abk {m:MQ} {c:Dy} {k:Int×Int} : qu (mA m c) k=true↔qu m k=true∨c.1=k:=by
 unfold mA;rw[uk,Ep];split
 ·rename_i h;constructor
  ·exact fun b =>.inl (uk.2 b)
  ·rintro (b|rfl)
   ·exact uk.1 b
   ·exact uk.1 h
 ·rw[amG,alM,eq_comm (a:=k),uk]
def Rf:∀(l:List Dy) (m:MQ) (k:Int×Int),qu (l.foldl mA m) k=true↔qu m k=true∨∃c∈l,c.1=k
 | [],m,k=>by simp
 | c::l,m,k=>by
  rw[al9,Rf l,abk];grind
def zK {k:Int×Int} : ∀ {l:List Dy},(∀c∈l,0<c.2)->0<=xO k l∧(0<xO k l↔∃c∈l,c.1=k)
 | [],_=>⟨by simp only[xO];grind,by simp only[xO];simp⟩
 | c::l,h=>by
  obtain⟨b,d⟩:=zK (k:=k) (l:=l) fun x a=>h x (amI _ a);have e:=h c (amH ..);simp only[xO,alx,exists_eq_or_imp];grind
def kH (N:Nat) (S:Nat->Nat->Rat):List Tk:=(List.range N).flatMap fun a=>((List.range N).filter fun b=>decide (0<S a b)).map fun b=>(a,b,S a b)
def C1 {N:Nat} {S:Nat->Nat->Rat} {t:Tk} : t∈kH N S↔t.1<N∧t.2.1<N∧0<S t.1 t.2.1∧t.2.2=S t.1 t.2.1:=by
 unfold kH;simp only[amF,alp,amO,amQ,decide_eq_true_eq];grind
def Pr (N:Nat) (S:Nat->Nat->Rat):(kH N S).Pairwise XK:=by
 unfold kH;rw[List.pairwise_flatMap];constructor
 ·intro a _;rw[anr];exact (List.Pairwise.filter _ (amR (n:=N))).imp fun h =>.inr ⟨rfl,h⟩
 ·refine (amR (n:=N)).imp fun {a b} h x c y d =>?_;obtain⟨_,_,rfl⟩:=alp.1 c;obtain⟨_,_,rfl⟩:=alp.1 d;exact .inl h
def TW (N:Nat) (S:Nat->Nat->Rat):(kH N S).length<=N*N:=by
 unfold kH;refine rR (fun a =>?_) N;grind
def ll (L:List Dy) (a b:Nat):Rat:=xO ((a:Int),(b:Int)) L
structure YT (N:Nat) (L:List Dy):Prop where
 pos:∀c∈L,0<c.2
 from_:∀c∈L,0<=c.1.1∧c.1.1<(N:Int)
 to_:∀c∈L,0<=c.1.2∧c.1.2<(N:Int)
def Nu {N:Nat} {L:List Dy} (H:YT N L) :
  sS (lQ cN.dA cN.lH) ((lS (L.foldl mA [])).map fun q=>cN.mk q.1.1 q.1.2 q.2)=(kH N (ll L)).map zw:=by
 have m:((L.foldl mA []).map (·.1)).Nodup:=Bn L [] (by simp);have w:((lS (L.foldl mA [])).map fun q=>cN.mk q.1.1 q.1.2 q.2)=(L.foldl mA []).map fun p=>cN.mk p.1.1 p.1.2 (bJ p.2):=by unfold lS;simp_all
 rw[w];have d:∀p:Dy,p∈L.foldl mA []↔(∃c∈L,c.1=p.1)∧xO p.1 L=p.2:=by
  rintro⟨k,v⟩;rw[Sc (z:=0) m,Rf,DL];simp only[qu,gO,alY,false_or];grind
 have f:((L.foldl mA []).map fun p:Dy=>cN.mk p.1.1 p.1.2 (bJ p.2)).Nodup:=by
  grind
 have g:((kH N (ll L)).map zw).Nodup:=by
  unfold List.Nodup;rw[anr];refine (Pr N (ll L)).imp fun {a b} h e =>?_;have:=XR e;subst this;unfold XK at h;omega
 have i:∀x,x∈((L.foldl mA []).map fun p:Dy=>cN.mk p.1.1 p.1.2 (bJ p.2))↔x∈(kH N (ll L)).map zw:=by
  intro x;rw[alp,alp];constructor
  ·rintro⟨p,A,rfl⟩;obtain⟨j,l⟩:=(d p).1 A;obtain⟨c,n,s⟩:=j;have f1:=H.from_ c n;have f2:=H.to_ c n;rw[s]at f1 f2;have E:((p.1.1.toNat:Nat):Int)=p.1.1:=by omega
   have F:((p.1.2.toNat:Nat):Int)=p.1.2:=by omega
   have u:ll L p.1.1.toNat p.1.2.toNat=p.2:=by unfold ll;simp_all
   refine⟨(p.1.1.toNat,p.1.2.toNat,p.2),C1.2 ⟨by simp only;omega,by simp only;omega,?_,u.symm⟩,?_⟩
   ·simp only;rw[u,<- l];exact (zK H.pos).2.2 ⟨c,n,s⟩
   ·unfold zw;simp_all
  ·rintro⟨t,B,rfl⟩;obtain⟨j,l,C,D⟩:=C1.1 B;refine⟨(((t.1:Int),(t.2.1:Int)),t.2.2),(d _).2 ⟨(zK H.pos).2.1 C,D.symm⟩,rfl⟩
 refine rK (c:=lQ cN.dA cN.lH) ((j8 _ _).trans ((List.perm_ext_iff_of_nodup f g).2 i)) ?_ (pT (zM _ _) _) ?_
 ·intro x o y r j l;have o:=(j8 _ _).mem_iff.1 o;have r:=(j8 _ _).mem_iff.1 r;obtain⟨p,G,rfl⟩:=alp.1 o;obtain⟨q,I,rfl⟩:=alp.1 r;rw[zL]at j l;grind
 ·rw[anr];refine (Pr N (ll L)).imp fun {a b} h =>?_;rw[zL];simp only[zw];unfold XK at h;omega
def Xh {w:bf} {r:Int×Int} (h:CM w=some r):r.1≠0:=by
 unfold CM at h;simp only[Option.or_eq_some_iff]at h;rcases h with ((h|⟨_,h⟩)|⟨_,h⟩)|⟨_,h⟩
 ·obtain⟨j,x,_,a,_⟩:=dB h;grind
 ·obtain⟨j,x,_,a,_⟩:=dB h;grind
 ·obtain⟨j,x,_,a,_⟩:=dB h;grind
 ·obtain⟨j,x,_,a,_⟩:=dB h;grind
structure ju (w:bf):Prop where
 given:Ba w.aw
 fit:∀m∈w.au,yl m w.aw.length
 once:∀q,q<w.aw.length->Gf w.au q=1∨Gf w.au q<0
 used:∀q,q<w.aw.length->usF w.au q<=w.aw.getD q 0
def Fs {w:bf} (h:CM w=none):ju w:=by
 unfold CM at h;simp only[Option.or_eq_none_iff]at h;obtain⟨⟨⟨c,d⟩,e⟩,f⟩:=h;refine⟨fun x g =>?_,fun m i =>?_,fun q a =>?_,fun q a =>?_⟩
 ·obtain⟨j,b⟩:=alL g;have:=dh.1 c j x b;simp_all
 ·obtain⟨j,b⟩:=alL i;have:=dh.1 d j m b;simp_all
 ·have:=dh.1 e q _ (dJ _ a);grind
 ·have:=dh.1 f q _ (dJ _ a);simp_all
def ahk {w:bf} (n:po w) (d:ju w):YT w.aw.length (tf w):=by
 have key:∀c∈tf w,0<c.2∧(0<=c.1.1∧c.1.1<(w.aw.length:Int))∧0<=c.1.2∧c.1.2<(w.aw.length:Int):=by
  intro c a;unfold tf at a;obtain⟨m,e,a⟩:=amF.1 a;have o:=(n.mill m e).1;have b:=d.fit m e;unfold oY at a;obtain⟨i,f,a⟩:=amF.1 a;rw[amQ]at f;unfold Cl at a;split at a
  ·rename_i x p;split at a
   ·rename_i q;obtain⟨k,g,a⟩:=amF.1 a;rw[amQ]at g;unfold yH at a;split at a
    ·rename_i y r;split at a
     ·rename_i s;rw[alM.1 a];obtain⟨_,l⟩:=B4 b (alR p) q;obtain⟨j,u,v⟩:=Ia b (alR r) s.1;obtain⟨_,_,_,z,_⟩:=uJ o b.flow g f;have t:m.aC.getD y.aS.toNat 0∈m.aC:=by
       simp_all
      refine⟨Rat.mul_pos (NU d.given b l).2 ?_,(b.uses _ l).1,b.ports _ t⟩;grind
     ·cases a
    ·cases a
   ·cases a
  ·cases a
 exact⟨fun c h=>(key c h).1,fun c h=>(key c h).2.1,fun c h=>(key c h).2.2⟩
def IL {w:bf} (f:po w) (e:ju w):aR (tG w) ((0:Int),[])=some (lS ((tf w).foldl mA []))∧JW 125 (tf w):=by
 have g:=f.mills;have i:∀k,((w.au.take k).flatMap (oY w.aw)).length<=k*25∧∀c∈(w.au.take k).flatMap (oY w.aw),LF c.2<=20:=by
  intro k;have p:∀m∈w.au.take k,(oY w.aw m).length<=25∧∀c∈oY w.aw m,LF c.2<=20:=fun m h=>by
   have g:=al6 h;exact abE e.given (f.mill m g).1 (e.fit m g)
  have t:(w.au.take k).length<=k:=by grind
  refine⟨?_,fun c u =>?_⟩
  ·have q:∀l:List bo,(∀m∈l,(oY w.aw m).length<=25)->(l.flatMap (oY w.aw)).length<=l.length*25:=by
    intro l
    induction l with
    | nil=>intro _;simp
    | cons a l v =>
     grind
   grind
  grind
 have key:=fun j d=>tp (body:=tG w) w.au (by omega)
  (fun k (c:List ((Int×Int)×ah))=>c=lS (((w.au.take k).flatMap (oY w.aw)).foldl mA [])) (fun c=>c=lS ((tf w).foldl mA [])) (s0:=[]) rfl j d
 constructor
 ·refine (key ?_ ?_).elim fun x ⟨p,hx⟩=>hx ▸ p
  ·rintro k m _ hx rfl;have r:=aU hx;have n:w.au.take (k+1)=w.au.take k++[m]:=by
    obtain⟨o,s⟩:=alT.1 hx;rw[anM o,s]
   have b:=alR hx;have H:JW (k*25) ((w.au.take k).flatMap (oY w.aw)):=⟨(i k).1,(i k).2⟩;refine⟨_,?_,rfl⟩;simp only[tG];rw[if_pos (by simpa using r),aT hx,amN,Uz e.given (f.mill m b).1 (e.fit m b) H (by omega),amN,bg (by omega),n,List.flatMap_append];simp
  ·rintro _ rfl;refine⟨_,?_,rfl⟩;simp only[tG];rw[if_neg (by simp),ano];rfl
 ·have:=i w.au.length;rw[ano]at this;exact⟨by have:=this.1;unfold tf;omega,this.2⟩
def acA {N:Nat} {L:List Dy} (H:YT N L):(L.foldl mA []).length<=N*N:=by
 have h:=Nu H;have:=congrArg List.length h;rw[qT,alU,alU,Iu]at this;have:=TW N (ll L);omega
def aaa (w:bf) (L:List Dy):ik:=sM w.aw.length (kH w.aw.length (ll L))
def of_eq {w:bf} (a:po w):Ef w=some (match CM w with|some r=>(ik.mk 0 [],r.1)|none=>(aaa w (tf w),0)):=by
 have b:=a.given;unfold Ef;rw[Cn a,amN];cases c:CM w with
 | some r =>
  have:=Xh c;simp_all
 | none =>
  have d:=Fs c;obtain⟨g,_⟩:=IL a d;have e:=ahk a d;have f:=acA e;have h:w.aw.length*w.aw.length<=6*6:=anN b b;rw[if_neg (by simp),g,amN,if_neg (by rw[decide_eq_true_eq,Iu];omega)];unfold Gn;rw[if_pos ⟨by rw[Iu];omega,by rw[Z4];exact Bn _ _ (by simp)⟩,Nu e];rfl
def XU {N:Nat} {L:List Dy} (a:N<=6) (H:JW 125 L):(kH N (ll L)).length<=36∧∀t∈kH N (ll L),LF t.2.2<=2700:=by
 have d:=TW N (ll L);have e:N*N<=6*6:=anN a a;refine⟨by omega,fun t b =>?_⟩;obtain⟨_,_,_,c⟩:=C1.1 b;rw[c];unfold ll;have f:=NM (k:=((t.1:Int),(t.2.1:Int))) H.sz;have g:=al8 21 H.len;omega
def AK (q:Nat) (l:List iG):Int:=l.foldl (fun x u=>x+if u.b8=(q:Int) then u.aB else 0) 0
def qQ {α:Type} (f:α->Int):∀(l:List α) (x:Int),l.foldl (fun x u=>x+f u) x=x+l.foldl (fun x u=>x+f u) 0
 | [],x=>by simp
 | a::l,x=>by rw[al9,al9,qQ f l (x+f a),qQ f l (0+f a)];omega
def T4 {q:Nat} : ∀ {l:List iG} {x:Int},(0<=x∧x<=1099511627777)->(∀u∈l,1<=u.aB∧u.aB<=1099511627776)->qo q l x=min 1099511627777 (x+AK q l)∧0<=AK q l
 | [],x,a,_=>by simp only[qo,AK,List.foldl_nil];omega
 | u::l,x,a,h=>by
  have c:=h u (amH ..);have b:=JO (q:=q) a c;obtain⟨d,i⟩:=T4 (q:=q) (l:=l) (x:=KE q x u) b fun v f=>h v (amI _ f);have e:AK q (u::l)=(if u.b8=(q:Int) then u.aB else 0)+AK q l:=by
   unfold AK;rw[al9,qQ (fun u:iG=>if u.b8=(q:Int) then u.aB else 0)];omega
  have g:qo q (u::l) x=qo q l (KE q x u):=rfl;rw[g,d,e];unfold KE at b ⊢;omega
def wb (q:Nat) (a:List bo):Int:=a.foldl (fun x m=>x+AK q m.bC) 0
def af6 {q:Nat} {ms:List bo} (h:∀m∈ms,∀u∈m.bC,1<=u.aB∧u.aB<=1099511627776):usF ms q=min 1099511627777 (wb q ms)∧0<=wb q ms:=by
 have key:∀(ms:List bo) (x:Int),(0<=x∧x<=1099511627777)->(∀m∈ms,∀u∈m.bC,1<=u.aB∧u.aB<=1099511627776)->ms.foldl (fun x m=>qo q m.bC x) x=min 1099511627777 (x+wb q ms)∧0<=wb q ms:=by
  intro ms
  induction ms with
  | nil=>intro x a _;simp only[List.foldl_nil,wb];omega
  | cons m ms b =>
   intro x a h;obtain⟨d,f⟩:=T4 (q:=q) a (h m (amH ..));obtain⟨g,i⟩:=b (qo q m.bC x) (vA a (h m (amH ..))) fun m c=>h m (amI _ c);have e:wb q (m::ms)=AK q m.bC+wb q ms:=by
    unfold wb;rw[al9,qQ (fun m:bo=>AK q m.bC)];omega
   grind
 have:=key ms 0 (by omega) h;unfold usF;omega
section
variable {α β:Type}
def aW:List α->(α->Rat)->Rat
 | [],_=>0
 | a::l,f=>f a+aW l f
def jV (f:α->Rat) (b:List α):∀a:List α,aW (a++b) f=aW a f+aW b f
 | []=>by simp only[List.nil_append,aW];grind
 | x::a=>by simp only[List.cons_append,aW,jV f b a];grind
def Ns {f:α->Rat} {a b:List α} (h:a.Perm b):aW a f=aW b f:=by
 induction h with
 | nil=>rfl
 | cons x _ c=>simp only[aW];rw[c]
 | swap x y l=>simp only[aW];grind
 | trans _ _ h1 h2=>exact h1.trans h2
def a7 {f g:α->Rat} : ∀ {l:List α},(∀a∈l,f a=g a)->aW l f=aW l g
 | [],_=>rfl
 | a::l,h=>by
  simp only[aW];rw[h a (amH ..),a7 fun x b=>h x (amI _ b)]
def wI (f g:α->Rat):∀l:List α,aW l (fun a=>f a+g a)=aW l f+aW l g
 | []=>by simp only[aW];grind
 | a::l=>by simp only[aW,wI f g l];grind
def wJ (f g:α->Rat):∀l:List α,aW l (fun a=>f a-g a)=aW l f-aW l g
 | []=>by simp only[aW];grind
 | a::l=>by simp only[aW,wJ f g l];grind
def jI:∀l:List α,aW l (fun _=>0)=0
 | []=>rfl
 | a::l=>by simp only[aW,jI l];grind
def qk (c:Rat) (f:α->Rat):∀l:List α,aW l (fun a=>c*f a)=c*aW l f
 | []=>by simp only[aW];grind
 | a::l=>by simp only[aW,qk c f l];grind
def Ys {f g:α->Rat} : ∀ {l:List α},(∀a∈l,f a<=g a)->aW l f<=aW l g
 | [],_=>by simp only[aW];grind
 | a::l,h=>by
  have c:=h a (amH ..);have d:=Ys (l:=l) fun x b=>h x (amI _ b);simp only[aW];grind
def uL (h:β->α) (f:α->Rat):∀l:List β,aW (l.map h) f=aW l fun a=>f (h a)
 | []=>rfl
 | a::l=>by simp only[alw,aW,uL h f l]
def nh (h:β->List α) (f:α->Rat):∀l:List β,aW (l.flatMap h) f=aW l fun a=>aW (h a) f
 | []=>rfl
 | a::l=>by rw[List.flatMap_cons,jV];simp only[aW,nh h f l]
def so (p:α->Bool) (f:α->Rat):∀l:List α,aW (l.filter p) f=aW l fun a=>if p a=true then f a else 0
 | []=>rfl
 | a::l=>by
  rw[List.filter_cons];have b:=so p f l;split
  ·rename_i h;simp only[aW,b,h,if_true]
  ·rename_i h;simp only[aW,b,h,if_false];grind
def nk (f:α->β->Rat) (m:List β):∀l:List α,aW l (fun a=>aW m (f a))=aW m fun b=>aW l fun a=>f a b
 | []=>by simp only[aW];exact (jI m).symm
 | a::l=>by simp only[aW,nk f m l];rw[<- wI]
def ad2 {N p:Nat} (b:N<=p) (F:Nat->Rat):aW (List.range N) (fun a=>if a=p then F a else 0)=0:=by
 rw[a7 (g:=fun _=>0) fun a c=>if_neg (by grind),jI]
def mv {N p:Nat} (b:p<N) (F:Nat->Rat):aW (List.range N) (fun a=>if a=p then F a else 0)=F p:=by
 induction N with
 | zero=>omega
 | succ N c =>
  rw[anP,jV];simp only[aW]
  by_cases h:p=N
  ·subst h;rw[ad2 (alq _),if_pos rfl];grind
  grind
def oT (l:List α) (f:α->Rat):aW (List.range l.length) (fun i=>(l[i]?).elim 0 f)=aW l f:=by
 have key:∀l:List α,aW (List.range l.reverse.length) (fun i=>(l.reverse[i]?).elim 0 f)=aW l.reverse f:=by
  intro l
  induction l with
  | nil=>rfl
  | cons a l b =>
   rw[List.reverse_cons,amu,List.length_singleton,anP,jV,jV];congr 1
   ·rw[<- b];exact a7 fun i c=>by grind
   ·simp only[aW];simp_all
 have:=key l.reverse;simp_all
def Dk {f:α->Rat} {l:List α} (h:∀a∈l,0<=f a):0<=aW l f:=by
 rw[<- jI l];exact Ys h
def Wm {K:Nat} {f:α->Rat} : ∀ {l:List α},(∀a∈l,LF (f a)<=K)->LF (aW l f)<=1+l.length*(K+1)
 | [],_=>by simp only[aW];have:=pH;omega
 | a::l,h=>by
  have c:=h a (amH ..);have d:=Wm (l:=l) fun x b=>h x (amI _ b);have e:=oE (f a) (aW l f);simp only[aW,List.length_cons];grind
end
def Pf (k:Int×Int):∀L:List Dy,xO k L=aW L fun c=>if k=c.1 then c.2 else 0
 | []=>rfl
 | c::L=>by simp only[xO,aW,Pf k L]
def X2 (p:Nat):∀tk:List Tk,v8 tk p=aW tk fun t=>if t.1=p then t.2.2 else 0
 | []=>rfl
 | t::tk=>by simp only[v8,aW,X2 p tk]
def Pg {α:Type} (f:α->Rat):∀l:List α,pA (l.map f)=aW l f
 | []=>rfl
 | a::l=>by simp only[alw,pA,aW,Pg f l]
def aah {N p:Nat} {S:Nat->Nat->Rat} (c:p<N) (d:∀b,0<=S p b):v8 (kH N S) p=aW (List.range N) (S p):=by
 rw[X2];unfold kH;rw[nh,a7 (g:=fun a=>if a=p then aW (List.range N) (S a) else 0) fun a _ =>?_,mv c fun a=>aW (List.range N) (S a)];rw[uL,so]
 by_cases h:a=p
 ·subst h;rw[if_pos rfl];refine a7 fun b _ =>?_;grind
 ·rw[if_neg h];refine Eq.trans (a7 (g:=fun _=>0) fun b _ =>?_) (jI _);simp[h]
def A1 (p:Nat) (L:List Dy):Rat:=aW L fun c=>if c.1.1=(p:Int) then c.2 else 0
def ad3 {N p:Nat} {L:List Dy} (H:YT N L):aW (List.range N) (ll L p)=A1 p L:=by
 refine Eq.trans (a7 (l:=List.range N) (g:=fun b:Nat=>aW L fun c=>if ((p:Int),(b:Int))=c.1 then c.2 else 0) fun b _=>by unfold ll;exact Pf _ _) ?_;rw[nk];unfold A1;refine a7 fun c a =>?_;obtain⟨d,f⟩:=H.to_ c a;obtain⟨j,h⟩:∃j:Nat,c.1.2=j:=⟨c.1.2.toNat,by omega⟩
 by_cases hp:c.1.1=(p:Int)
 ·rw[if_pos hp,a7 (g:=fun b=>if b=j then c.2 else 0) fun b _ =>?_,mv (by omega) fun _=>c.2];grind
 ·rw[if_neg hp];exact Eq.trans (a7 (g:=fun _=>0) fun b _=>if_neg (fun e=>hp (by rw[<- e]))) (jI _)
def ZX {N p:Nat} {L:List Dy} (H:YT N L) (a:p<N):ib (kH N (ll L)) p=1-A1 p L:=by
 unfold ib;rw[aah a fun b=>(zK H.pos).1,ad3 H]
def gk (m:bo) (k:Nat):Bool:=match m.av.aG[k]? with|some y=>y.a8==0|none=>false
def gv (m:bo) (i:Nat):Rat:=aW (List.range m.av.aG.length) fun k=>if gk m k=true then Di m.av k i else 0
def ls (m:bo) (i:Nat):Rat:=aW (List.range m.av.aG.length) fun k=>if gk m k=true then 0 else Di m.av k i
def agy {m:bo} {i:Nat} (b:rL m.av) (c:GB m.av) (d:i<m.av.aq.length):gv m i+ls m i=1∧0<=gv m i∧0<=ls m i:=by
 have f:∀k∈List.range m.av.aG.length,0<=Di m.av k i:=fun k a=>by
  obtain⟨_,_,_,h,_⟩:=uJ b c (amQ.1 a) d;exact h
 refine⟨?_,Dk fun k a =>?_,Dk fun k a =>?_⟩
 ·have e:=Na b c d;rw[Pg]at e;rw[<- e];unfold gv ls;rw[<- wI];grind
 ·grind
 grind
def Dl (m:bo) (i:Nat) (F:iG->Rat):Rat:=(m.av.aq[i]?).elim 0 fun x=>if x.a8=1 then F (qw m x.aS) else 0
def vr (p:Nat) (u:iG) (q:Rat):Rat:=if u.b8=(p:Int) then q else 0
def ZG (g:List Int) (m:bo) (p:Nat):A1 p (oY g m)=aW (List.range m.av.aq.length) fun i=>Dl m i fun u=>vr p u (FT g u*gv m i):=by
 unfold A1 oY;rw[nh];refine a7 fun i _ =>?_;unfold Cl Dl;cases d:m.av.aq[i]? with
 | none=>rfl
 | some x =>
  simp only[Option.elim_some]
  by_cases a:x.a8=1
  ·rw[if_pos a,if_pos a,nh];generalize qw m x.aS=u;have hk:∀k,aW (yH m i u (FT g u) k) (fun c=>if c.1.1=(p:Int) then c.2 else 0)=vr p u (FT g u*if gk m k=true then Di m.av k i else 0):=by
    intro k;unfold yH gk vr;cases m.av.aG[k]? with
    | none=>show aW [] _=_;simp[aW]
    | some y =>
     simp only
     by_cases h0:y.a8=0
     ·by_cases b:Di m.av k i=0
      ·rw[if_neg (fun h=>h.2 b),b];show (0:Rat)=_;split<;>simp
      ·rw[if_pos ⟨h0,b⟩];simp only[aW,h0];grind
     ·rw[if_neg (fun h=>h0 h.1)];show (0:Rat)=_;split<;>simp[h0]
   rw[a7 fun k _=>hk k];unfold vr gv;split
   ·rw[qk]
   ·exact jI _
  ·rw[if_neg a,if_neg a];rfl
def T5 {m:bo} {N:Nat} (a:yl m N) (F:iG->Rat):aW (List.range m.av.aq.length) (fun i=>Dl m i F)=aW m.bC F:=by
 unfold Dl;refine Eq.trans (oT m.av.aq fun x=>if x.a8=1 then F (qw m x.aS) else 0) ?_;rw[a7 (g:=fun x=>if (x.a8==1)=true then F (qw m x.aS) else 0) fun x _=>by simp_all,<- so (fun x:ir=>x.a8==1) fun x=>F (qw m x.aS)];rw[<- uL (fun x:ir=>x.aS) fun n=>F (qw m n),Ns a.takes];unfold wL;rw[uL];refine Eq.trans (a7 fun j b =>?_) (oT m.bC F);unfold qw;simp_all
def acD (w:bf) (p:Nat):A1 p (tf w)=aW w.au fun m=>A1 p (oY w.aw m):=by
 unfold tf A1;exact nh ..
def aaO (p:Nat) (m:bo):Rat:=aW m.bC fun u=>vr p u (u.aB:Rat)
def Yt (p:Nat):∀l:List iG,aW l (fun u=>vr p u (u.aB:Rat))=((AK p l:Int):Rat)
 | []=>by simp[aW,AK]
 | u::l=>by
  have e:AK p (u::l)=(if u.b8=(p:Int) then u.aB else 0)+AK p l:=by
   unfold AK;rw[al9,qQ (fun u:iG=>if u.b8=(p:Int) then u.aB else 0)];omega
  simp only[aW];rw[Yt p l,e,Rat.intCast_add];congr 1;unfold vr;split<;>simp
def JB (p:Nat):∀a:List bo,aW a (aaO p)=((wb p a:Int):Rat)
 | []=>by simp[aW,wb]
 | m::a=>by
  have e:wb p (m::a)=AK p m.bC+wb p a:=by
   unfold wb;rw[al9,qQ (fun m:bo=>AK p m.bC)];omega
  simp only[aW];rw[JB p a,e,Rat.intCast_add];congr 1;exact Yt p _
def aiL {g:List Int} {p:Nat} {u:iG} (h:u.b8=(p:Int)) (a:1<=g.getD p 0):FT g u*((g.getD p 0:Int):Rat)=(u.aB:Rat):=by
 unfold FT;rw[h,amk,anX];have:((g.getD p 0:Int):Rat)≠0:=by exact_mod_cast (show g.getD p 0≠0 by omega)
 grind
def UX {w:bf} (d:po w) (a:ju w) {p:Nat} (j:p<w.aw.length) :
  A1 p (tf w)*((w.aw.getD p 0:Int):Rat)=((wb p w.au:Int):Rat)-aW w.au fun m=>aW (List.range m.av.aq.length) fun i=>Dl m i fun u=>vr p u ((u.aB:Rat)*ls m i):=by
 have e:=a.given (w.aw.getD p 0) (by simp_all);rw[acD,Rat.mul_comm,<- qk,<- JB,<- wJ];refine a7 fun m b =>?_;have f:=(d.mill m b).1;have c:=a.fit m b;rw[ZG,<- qk];unfold aaO;rw[<- T5 c,<- wJ];refine a7 fun i g =>?_;obtain⟨k,_,_⟩:=agy f c.flow (amQ.1 g);unfold Dl;cases m.av.aq[i]? with
 | none=>grind
 | some x =>
  simp only[Option.elim_some];split
  ·unfold vr;split
   ·rename_i h;have:=aiL h e.1;grind
   ·grind
  ·grind
def V7 {w:bf} (a:ju w) {p:Nat} (b:p<w.aw.length):0<=wb p w.au∧wb p w.au<=w.aw.getD p 0:=by
 have e:=a.given (w.aw.getD p 0) (by simp_all);have f:=a.used p b;have g:=af6 (q:=p) (ms:=w.au) fun m c u d=>((a.fit m c).uses u d).2;omega
def afs {w:bf} (c:po w) (d:ju w) (p:Nat):0<=aW w.au fun m=>aW (List.range m.av.aq.length) fun i=>Dl m i fun u=>vr p u ((u.aB:Rat)*ls m i):=by
 refine Dk fun m b=>Dk fun i e =>?_;have a:=d.fit m b;obtain⟨_,_,f⟩:=agy (c.mill m b).1 a.flow (amQ.1 e);unfold Dl;cases g:m.av.aq[i]? with
 | none=>simp
 | some x =>
  simp only[Option.elim_some];split
  ·rename_i h;have j:=(a.uses _ (B4 a (alR g) h).2).2;unfold vr;split
   ·exact anQ (by exact_mod_cast (show (0:Int)<=(qw m x.aS).aB by omega)) f
   ·simp
  ·simp
def afe {w:bf} (b:po w) (a:ju w) {p:Nat} (c:p<w.aw.length):A1 p (tf w)<=1:=by
 have f:=a.given (w.aw.getD p 0) (by simp_all);have d:=UX b a c;have g:=afs b a p;have h:((wb p w.au:Int):Rat)<=((w.aw.getD p 0:Int):Rat):=by exact_mod_cast (V7 a c).2
 have e:(0:Rat)<((w.aw.getD p 0:Int):Rat):=by exact_mod_cast (show (0:Int)<w.aw.getD p 0 by omega)
 refine Rat.le_of_mul_le_mul_right ?_ e;rw[d];grind
def IC {w:bf} (a:po w) (b:ju w):lW w.aw.length (kH w.aw.length (ll (tf w))) where
 ports:=by have:=a.given;omega
 takes:=by have:=(XU a.given (IL a b).2).1;omega
 ok t d:=by
  obtain⟨e,f,g,h⟩:=C1.1 d;simp_all
 sorted:=Pr _ _
 leak p c:=by
  rw[ZX (ahk a b) c];have:=afe a b c;grind
section
variable {w:bf} {p:Nat} {d:Int}
end
def uQ (q:Rat):Int×List Int×Int×List Int:=((bJ q).bn.al,(bJ q).bn.aa,(bJ q).bu.al,(bJ q).bu.aa)
def Nt (f:Nat->Rat) (n:Nat):aW (List.range (n+1)) f=aW (List.range n) f+f n:=by
 rw[anP,jV];simp only[aW];grind
def age {n:Int} (b:0<=n) (a:n<=1099511627776):LF (n:Rat)<=3:=by
 unfold LF;rw[Rat.num_intCast,Rat.den_intCast];have c:=GG (x:=((1:Nat):Int)) (by decide)
 by_cases h:n=0
 ·subst h;rw[aeH];omega
 ·have:=YV (x:=n) (by omega) a;omega
def PJ {K n:Nat} {f:Nat->Rat} (h:∀i,i<n->LF (f i)<=K):LF (aW (List.range n) f)<=1+n*(K+1):=by
 have:=Wm (f:=f) (l:=List.range n) fun a b=>h a (amQ.1 b)
 rwa [alV]at this
section
variable {m:bo} {N:Nat}
end
section
variable {w:bf}
end
def ajy:2*(2 ^ 6*(4 ^ 6*(2700+1)))+100<=eL:=by decide
def XsW {N p x:Nat} (a:N<=6) (h:x<=2 ^ (N-1-p)*(4 ^ N*(2700+1))):x<=1000000000:=by
 have b:2 ^ (N-1-p)<=2 ^ 6:=anV (by decide) (by omega);have c:4 ^ N<=4 ^ 6:=anV (by decide) a;have d:=anN b (al8 (2700+1) c);omega
open Classical in
def O6 {α ρ:Type} (l:List α) (Q:Nat->α->Prop) (v:ρ) {body:Int->Option (Int⊕(Unit⊕ρ))} (k:l.length<=2000) (f:∀(i:Nat) x,l[i]? = some x->body (i:Int)=if Q i x then some (.inl ((i+1:Nat):Int)) else some (.inr (.inr v))) (g:body (l.length:Int)=some (.inr (.inl ()))) :
  (aR body 0=some (.inl ())∧∀(i:Nat) x,l[i]? = some x->Q i x)∨(aR body 0=some (.inr v)∧∃(i:Nat) (x:α),l[i]? = some x∧¬Q i x):=by
 have b:=sj l (fun i x=>if Q i x then none else some v) (by omega) (fun i x e=>by rw[f i x e];split<;>rfl) g;cases c:fv (fun (i:Nat) (x:α)=>if Q i x then none else some v) 0 l with
 | none =>
  left;rw[c]at b;refine⟨b,fun i x e =>?_⟩;have:=dh.1 c i x e;rw[amr]at this;split at this
  ·assumption
  ·cases this
 | some q =>
  right;rw[c]at b;obtain⟨j,x,h,d,_⟩:=dB c;rw[amr]at d;split at d
  ·cases d
  ·rename_i a;cases d;exact⟨b,j,x,h,a⟩
open Classical in
def Jr {α:Type} (l:List α) (Q:Nat->α->Prop) {body:Int->Option (Int⊕(Unit⊕Bool))} (a:l.length<=2000) (b:∀(i:Nat) x,l[i]? = some x->body (i:Int)=if Q i x then some (.inl ((i+1:Nat):Int)) else some (.inr (.inr false))) (c:body (l.length:Int)=some (.inr (.inl ()))) :
  (aR body 0=some (.inl ())∧∀(i:Nat) x,l[i]? = some x->Q i x)∨(aR body 0=some (.inr false)∧∃(i:Nat) (x:α),l[i]? = some x∧¬Q i x):=O6 l Q false a b c
def ag7 {α:Type} (l:List α) (p:α->Bool) (i:Nat):Prop:=(∃x,l[i]? = some x∧p x=true)∧∀(j:Nat) y,l[j]? = some y->p y=true->j=i
def V5 (n:Nat):(wL n).Nodup:=by
 unfold wL List.Nodup;rw[anr];exact (amR (n:=n)).imp fun h=>by omega
def adg {n:Nat} {x:Int} : x∈wL n↔∃j:Nat,j<n∧x=j:=by
 unfold wL;rw[alp];exact⟨fun⟨j,a,b⟩=>⟨j,amQ.1 a,b.symm⟩,fun⟨j,a,b⟩=>⟨j,amQ.2 a,b.symm⟩⟩
section
variable {α:Type} {l:List α} {p:α->Bool} {g:α->Int} {n:Nat}
def OU (h:((l.filter p).map g).Perm (wL n)) {j:Nat} (B:j<n):∃i,ag7 l (fun x=>p x&&g x==(j:Int)) i:=by
 have C:(j:Int)∈(l.filter p).map g:=h.mem_iff.2 (adg.2 ⟨j,B,rfl⟩);obtain⟨x,D,c⟩:=alp.1 C;obtain⟨q,d⟩:=amO.1 D;obtain⟨i,r⟩:=alL q;refine⟨i,⟨x,r,by simp[d,c]⟩,fun k y z f =>?_⟩;simp only[al0,beq_iff_eq]at f;have e:((l.filter p).map g).Nodup:=h.nodup_iff.2 (V5 n);unfold List.Nodup at e;rw[anr,List.pairwise_filter]at e;have key:∀(a b:Nat) (u v:α),a<b->l[a]? = some u->l[b]? = some v->p u=true->p v=true->g u≠g v:=fun a b u v s m o E F=>by
  have A:=ans.1 e a b (aU m) (aU o) s;rw[alE (aU m)]at m;rw[alE (aU o)]at o;rw[anq m,anq o]at A;exact A E F
 rcases anR k i with t|heq|w
 ·exact absurd (f.2.trans c.symm) (key k i y x t z r f.1 d)
 ·exact heq
 ·exact absurd (c.trans f.2.symm) (key i k x y w r z d f.1)
end
def akA {ρ:Type} (g:(Int×List Int×Int×List Int)->ρ) (n:Nat) (F:Nat->Rat) {K:Nat} {body:Int×(Int×List Int×Int×List Int)->Option ((Int×(Int×List Int×Int×List Int))⊕ρ)} {A:Rat} (h:n<=2000) (hF:∀i,i<n->LF (F i)<=K)
  (b:∀(i:Nat) (s:Rat),i<n->LF s<=LF A+i*(K+1)+2->body ((i:Int),uQ s)=some (.inl (((i+1:Nat):Int),uQ (s+F i))))
  (k:∀s,body ((n:Int),uQ s)=some (.inr (g (uQ s)))):aR body (0,uQ A)=some (g (uQ (A+aW (List.range n) F))):=by
 have c:A=A+aW (List.range 0) F:=by simp only[List.range_zero,aW];grind
 obtain⟨q,d,e⟩:=db (body:=body) (fun i st=>st=((i:Int),uQ (A+aW (List.range i) F))) n (fun q=>q=g (uQ (A+aW (List.range n) F))) (s:=(0,uQ A)) (by rw[<- c];rfl) (jQ (by omega)) (by
  rintro i _ l rfl
  by_cases a:i<n
  ·left;have m:=PJ (n:=i) (f:=F) fun j o=>hF j (by omega);have p:=oE A (aW (List.range i) F);refine⟨a,_,b i _ a (by omega),?_⟩;rw[Nt];grind
  grind)
 rw[d,e]
def aau {row:List ah} {n:Nat} {c a:Nat->Rat} {K:Nat} (k:n<=100) (g:∀i,i<n->row[i]? = some (bJ (c i))∧LF (c i)<=4) (h:∀i,i<n->LF (a i)<=K) (l:K<=10000000000) :
  jK row (dn n a)=some (bJ (aW (List.range n) fun i=>c i*a i))∧LF (aW (List.range n) fun i=>c i*a i)<=1+n*(K+5):=by
 have j:eL=4398046511104:=rfl;have d:∀i,i<n->LF (c i*a i)<=K+4:=fun i b=>by
  have m:=sA (c i) (a i);grind
 refine⟨?_,PJ (K:=K+4) (f:=fun i=>c i*a i) d⟩;have o:=pH;have key:aR (k9 row (dn n a)) (0,uQ 0)=some (uQ (0+aW (List.range n) fun i=>c i*a i)):=by
  refine akA id n (fun i=>c i*a i) (by omega) d (fun i s b p =>?_) (fun s=>by
   simp only[k9,uQ];rw[jG,if_neg (by simp)];rfl)
  have q:i*(K+4+1)<=100*10000000005:=anN (by omega) (by omega);have r:=d i b;have t:=(g i b).2;have u:=h i b;have e:dY (ah.mk (aH.mk (bJ s).bn.al (bJ s).bn.aa) (aH.mk (bJ s).bu.al (bJ s).bu.aa)) (bJ (c i*a i))=some (bJ (s+c i*a i),0):=yA (by omega);simp only[k9,uQ];rw[jG,if_pos (by simpa using b),aT (mL a b),amN,aT (g i b).1,amN,KJ (by omega),amN,e,amN,bg (by omega)]
 unfold jK;rw[Ki,amN];erw [key];rw[show (0:Rat)+(aW (List.range n) fun i=>c i*a i)=aW (List.range n) fun i=>c i*a i by grind];rfl
structure aky (l:List (List ah)):Prop where
 len:l.length<=8
 row:∀r∈l,r.length<=8∧∀f∈r,f.bn.aa.length<=3∧f.bu.aa.length<=3
def aiQ (l:List (List ah)):∃b,xG l=some b∧(b=true->aky l):=by
 have d:(l.take 9).length=min 9 l.length:=alI;have g:∀r:List ah,r.length<=8->(aR (q9 r) 0=some (.inl ())∧∀(i:Nat) x,r[i]? = some x->(x.bn.aa.length:Int)<=3∧(x.bu.aa.length:Int)<=3)∨(aR (q9 r) 0=some (.inr false)∧∃(i:Nat) (x:ah),r[i]? = some x∧¬((x.bn.aa.length:Int)<=3∧(x.bu.aa.length:Int)<=3)):=fun r n =>
  Jr r (fun _ x=>(x.bn.aa.length:Int)<=3∧(x.bu.aa.length:Int)<=3) (by omega) (fun i x a=>by
   have c:=aU a;simp only[q9];rw[if_pos (by simpa using c),aT a,amN,afb,amN,bg (by omega)];grind) (by simp only[q9];simp_all)
 have k:=Jr (l.take 9) (fun _ r=>r.length<=8∧∀(i:Nat) x,r[i]? = some x->(x.bn.aa.length:Int)<=3∧(x.bu.aa.length:Int)<=3) (body:=uG l) (by omega) (fun i r a=>by
  have c:=aU a;rw[d]at c;rw[alS,if_pos (by omega)]at a;simp only[uG];rw[if_pos (by simp;omega),amN,if_pos (by simp;omega),aT a,amN]
  by_cases m:r.length<=8
  ·rw[if_neg (by simp;omega)];rcases g r m with⟨e,h⟩|⟨e,j,x,o,p⟩
   ·rw[e,if_pos ⟨m,h⟩,bg (by omega)];rfl
   grind
  grind) (by
  simp only[uG];grind)
 unfold xG;rcases k with⟨e,h⟩|⟨e,_⟩
 ·rw[e,amN];refine⟨_,rfl,fun q =>?_⟩;have m:=of_decide_eq_true q;refine⟨by omega,fun r n =>?_⟩;obtain⟨i,c⟩:=alL n;obtain⟨o,p⟩:=h i r (by grind);refine⟨o,fun f s =>?_⟩;obtain⟨j,t⟩:=alL s;grind
 simp_all
def Lo {l:List Int} {q:Int} {j:Nat} (h:l[j]? = some q):0<l.count q:=List.count_pos_iff.2 (alR h)
def Lm {q:Int} : ∀ {l:List Int} {i j:Nat},l.count q=1->l[i]? = some q->l[j]? = some q->i=j
 | [],_,_,h,_,_=>by simp at h
 | x::l,0,0,_,_,_=>rfl
 | x::l,0,j+1,h,h1,h2=>by
  grind
 | x::l,i+1,0,h,h1,h2=>by
  grind
 | x::l,i+1,j+1,h,h1,h2=>by
  have a:l[i]? = some q:=by simpa using h1
  have b:l[j]? = some q:=by simpa using h2
  have:=Lo a;have c:l.count q=1:=by
   grind
  rw[Lm c a b]
def zN (m:bo) (a:List bo) (q:Nat):Gf (m::a) q=(m.aC.count (q:Int):Int)+Gf a q:=by
 unfold Gf;rw[al9,qQ (fun m:bo=>(m.aC.count (q:Int):Int)) a (0+_)];omega
def JD (q:Nat):∀a:List bo,0<=Gf a q
 | []=>by simp[Gf]
 | m::a=>by have:=JD q a;rw[zN];omega
def YH {q:Nat} : ∀ {ms:List bo} {i:Nat} {m:bo},ms[i]? = some m->(m.aC.count (q:Int):Int)<=Gf ms q
 | [],_,_,h=>by simp at h
 | a::ms,0,m,h=>by
  simp only[List.getElem?_cons_zero,alz]at h;subst h;have:=JD q ms;rw[zN];omega
 | a::ms,i+1,m,h=>by
  have:=YH (q:=q) (ms:=ms) (i:=i) (m:=m) (by simpa using h);rw[zN];omega
def YI {q:Nat} : ∀ {ms:List bo},Gf ms q=1->∃(i:Nat) (m:bo),ms[i]? = some m∧m.aC.count (q:Int)=1∧∀(k:Nat) (n:bo),ms[k]? = some n->0<n.aC.count (q:Int)->k=i
 | [],h=>by simp[Gf]at h
 | a::ms,h=>by
  have f:=JD q ms;rw[zN]at h
  by_cases g:a.aC.count (q:Int)=0
  ·obtain⟨i,m,c,d,j⟩:=YI (q:=q) (ms:=ms) (by omega);refine⟨i+1,m,by simpa using c,d,fun k n b e =>?_⟩;grind
  ·refine⟨0,a,rfl,by omega,fun k n b e =>?_⟩;cases k with
   | zero=>rfl
   | succ k =>
    have:=YH (q:=q) (ms:=ms) (i:=k) (m:=n) (by simpa using b);omega
def pF (w:bf) (p i k:Nat):Prop:=∃m y,w.au[i]? = some m∧m.av.aG[k]? = some y∧y.a8=0∧m.aC.getD y.aS.toNat 0=(p:Int)
def H9 {m:bo} {N:Nat} (a:yl m N) {k:Nat} {y:sC} (b:m.av.aG[k]? = some y) (c:y.a8=0):∃j:Nat,y.aS=j∧m.aC[j]? = some (m.aC.getD y.aS.toNat 0):=by
 obtain⟨j,d,e⟩:=Ia a (alR b) c;grind
def D7 {w:bf} (c:ju w) {p:Nat} (r:p<w.aw.length):∃i k,pF w p i k∧∀i' d,pF w p i' d->i'=i∧d=k:=by
 have s:Gf w.au p=1:=by
  have:=c.once p r;have:=JD p w.au;omega
 obtain⟨i,m,e,t,u⟩:=YI s;have v:=c.fit m (alR e);obtain⟨j,o⟩:=alL (List.count_pos_iff.1 (show 0<m.aC.count (p:Int) by omega));obtain⟨k,⟨y,x,b⟩,z⟩:=OU v.gives (aU o);simp only[al0,beq_iff_eq]at b;refine⟨i,k,⟨m,y,e,x,b.1,?_⟩,?_⟩
 ·grind
 ·rintro i' d ⟨q,A,a,f,g,h⟩;have l:=c.fit q (alR a);obtain⟨B,C,n⟩:=H9 l f g;rw[h]at n;obtain rfl:=u i' q a (Lo n);rw[e]at a;obtain rfl:=anq a;obtain rfl:=Lm t o n;grind
def Xr (w:bf) (p:Nat) (F:Nat->Nat->Rat):Rat:=aW (List.range w.au.length) fun i=>(w.au[i]?).elim 0 fun m=>aW (List.range m.av.aG.length) fun k=>(m.av.aG[k]?).elim 0 fun y=>if y.a8=0∧m.aC.getD y.aS.toNat 0=(p:Int) then F i k else 0
def CP {w:bf} (q:ju w) {p:Nat} (r:p<w.aw.length) {i k:Nat} (h:pF w p i k) (F:Nat->Nat->Rat):Xr w p F=F i k:=by
 obtain⟨u,v,x,l⟩:=D7 q r;obtain⟨rfl,rfl⟩:=l i k h;obtain⟨m,y,o,s,A,B⟩:=h;unfold Xr;rw[a7 (g:=fun a=>if a=i then F i k else 0) fun a f =>?_,mv (aU o)];have f:=amQ.1 f;have c:w.au[a]? = some w.au[a]:=alE f;generalize w.au[a]=n at c;rw[c,Option.elim_some];rw[a7 (g:=fun b=>if b=k then (if a=i then F i k else 0) else 0) fun b j =>?_]
 ·by_cases e:a=i
  ·subst e;rw[o]at c;obtain rfl:=anq c;rw[mv (aU s)]
  ·rw[if_neg e];exact Eq.trans (a7 (g:=fun _=>0) fun b _=>by split<;>rfl) (jI _)
 ·have j:=amQ.1 j;have d:n.av.aG[b]? = some n.av.aG[b]:=alE j;generalize n.av.aG[b]=z at d;rw[d,Option.elim_some]
  by_cases t:z.a8=0∧n.aC.getD z.aS.toNat 0=(p:Int)
  ·obtain⟨rfl,rfl⟩:=l a b ⟨n,z,c,d,t⟩;simp_all
  grind
structure OkS (w:bf) (S:List (List ah)) (s:Nat->Nat->Rat):Prop where
 len:S.length=w.au.length
 row:∀(i:Nat) m,w.au[i]? = some m->S[i]? = some (dn m.av.aq.length (s i))
 nn:∀(i:Nat) m,w.au[i]? = some m->∀k,k<m.av.aq.length->0<=s i k∧LF (s i k)<=100
 tk:∀(i:Nat) m,w.au[i]? = some m->∀(k:Nat) x,m.av.aq[k]? = some x->x.a8=1->s i k=0
def agx (f:dR) (k:Nat) (x:ah):Prop:=okF x=true∧∀y,f.aq[k]? = some y->y.a8=1->x.bn.al=0
def aa3 (f:dR) (l:List ah):Prop:=l.length=f.aq.length∧∀(k:Nat) x,l[k]? = some x->agx f k x
def SzA (K:Nat) (S:List (List ah)):Prop:=∀r∈S,∀f∈r,f.bn.aa.length<=K∧f.bu.aa.length<=K
def J1 {f:dR} {l:List ah} (u:f.aq.length<=100) (p:∀x∈l,x.bn.aa.length<=100∧x.bu.aa.length<=100):∃b,qJ f l=some b∧(b=true↔aa3 f l):=by
 have r:eL=4398046511104:=rfl;unfold qJ aa3
 by_cases a:l.length=f.aq.length
 rotate_left
 ·exact⟨false,by grind,by simp[a]⟩
 rw[if_neg (by simp[a])];rcases O6 l (agx f) false (body:=nP f l) (by omega) (fun i x d=>by
  have s:=aU d;have n:=p x (alR d);have g:f.aq[i]? = some (f.aq[i]'(by omega)):=alE _;generalize f.aq[i]'(by omega)=y at g;simp only[nP];rw[if_pos (by simpa using s),aT d,amN,pJ ⟨by unfold qF;omega,by unfold qF;omega⟩,amN,bg (by omega)];cases c:okF x with
  | false=>rw[if_pos (by simp),if_neg (fun h=>by have:=h.1;simp_all)]
  | true =>
   rw[if_neg (by simp),aT g,amN]
   by_cases j:y.a8=1
   ·obtain⟨q,rfl⟩:=ow.1 c;rw[if_pos (by simpa using j),yE (by have:=pG n.1 n.2;omega),amN]
    by_cases h2:q.num.sign=0
    ·rw[if_neg (by simp[h2]),if_pos ⟨c,fun t k _=>h2⟩]
    ·rw[if_pos (by simpa using h2),if_neg (fun h=>h2 (h.2 y g j))]
   ·rw[if_neg (by simpa using j),if_pos ⟨c,fun t k v=>by simp_all⟩]) (by simp only[nP];simp_all) with⟨e,h⟩|⟨e,i,x,d,o⟩
 ·simp_all
 ·rw[e];exact⟨false,rfl,by grind⟩
def Ss {l:List ah} (f:l.length<=2000) (m:∀x∈l,okF x=true∧x.bn.aa.length<=100∧x.bu.aa.length<=100):∃b,cI l=some b∧(b=false↔∀x∈l,0<=x.bn.al):=by
 have n:eL=4398046511104:=rfl;unfold cI dK;rw[sj l (fun i x=>if 0<=x.bn.al then none else some (i:Int)) (by omega) (fun i x a =>?_) (by simp only[ez];simp_all)]
 ·cases g:fv (fun (i:Nat) (x:ah)=>if 0<=x.bn.al then none else some (i:Int)) 0 l with
  | none =>
   refine⟨false,rfl,?_⟩;simp only[true_iff];intro x a;obtain⟨j,o⟩:=alL a;have:=dh.1 g j x o;simp_all
  | some q =>
   obtain⟨j,x,r,c,_⟩:=dB g;split at c
   ·cases c
   ·rename_i h;cases c;refine⟨true,by simp,?_⟩;grind
 ·have p:=aU a;obtain⟨d,k⟩:=m x (alR a);obtain⟨q,rfl⟩:=ow.1 d;have e:(bJ q).bn.al=q.num.sign:=rfl;simp only[ez,nO];rw[if_pos (by simpa using p),aT a,amN,yE (by have:=pG k.1 k.2;omega),amN,amN,bg (by omega),e];grind
def E1 {w:bf} (W:w.au.length<=5) (P:∀m∈w.au,rL m.av) {S:List (List ah)} (I:SzA 100 S) :
  ∃e,lX w S=some e∧(e=0↔∃s,OkS w S s)∧(e=0∨e=1∨e=3∧∃r∈S,∃x∈r,x.bn.al<0):=by
 have D:∀ {s:Nat->Nat->Rat},OkS w S s->∀(i:Nat) m,w.au[i]? = some m->∃r,S[i]? = some r∧aa3 m.av r:=fun {s} h i m d=>by
  refine⟨_,h.row i m d,jG _,fun k x a =>?_⟩;have t:k<m.av.aq.length:=by have:=aU a;rwa [jG]at this
  rw[mL _ t]at a;obtain rfl:=anq a;refine⟨BP _,fun y Q u =>?_⟩;rw[h.tk i m d k y Q u];rfl
 unfold lX
 by_cases n:S.length=w.au.length
 rotate_left
 ·exact⟨1,by grind,⟨fun h=>by simp at h,fun⟨s,h⟩=>absurd h.len n⟩,.inr (.inl rfl)⟩
 rw[if_neg (by simp[n])];rcases O6 w.au (fun i m=>∃r,S[i]? = some r∧aa3 m.av r) (1:Int) (body:=lY w S) (by omega) (fun i m a=>by
  have d:=aU a;have v:S[i]? = some (S[i]'(by omega)):=alE _;have g:=alC (show i<S.length by omega);generalize S[i]'(by omega)=r at v g;have R:=P m (alR a);obtain⟨b,J,T⟩:=J1 (f:=m.av) (l:=r) (by have:=R.srcs;omega) (I r g);simp only[lY];rw[if_pos (by simpa using d),aT a,amN,aT v,amN,J,amN,bg (by omega)];cases b with
  | true=>simp_all
  | false=>simp_all) (by simp only[lY];simp_all) with⟨e,o⟩|⟨e,i,m,a,p⟩
 rotate_left
 ·rw[e];exact⟨1,rfl,⟨fun h=>by simp at h,fun⟨s,h⟩=>absurd (D h i m a) p⟩,.inr (.inl rfl)⟩
 rw[e,amN];simp only;have z:∀r∈S,∃m∈w.au,aa3 m.av r:=fun r v=>by
  obtain⟨j,X,rfl⟩:=ant v;have c:w.au[j]? = some (w.au[j]'(by omega)):=alE _;grind
 have K:∀r∈S,r.length<=100∧∀x∈r,okF x=true∧x.bn.aa.length<=100∧x.bu.aa.length<=100:=fun r v=>by
  obtain⟨m,L,u,A⟩:=z r v;have:=(P m L).srcs;refine⟨by omega,fun x a =>?_⟩;obtain⟨k,t⟩:=alL a;exact⟨(A k x t).1,I r v x a⟩
 rcases O6 S (fun _ r=>∀x∈r,0<=x.bn.al) (3:Int) (body:=lZ S) (by omega) (fun i r a=>by
  have d:=aU a;obtain⟨Y,U⟩:=K r (alR a);obtain⟨b,J,T⟩:=Ss (l:=r) (by omega) U;simp only[lZ];rw[if_pos (by simpa using d),aT a,amN,J,amN,bg (by omega)];grind) (by simp only[lZ];simp_all) with⟨e,M⟩|⟨e,i,r,a,p⟩
 ·rw[e];refine⟨0,rfl,⟨fun _ =>?_,fun _=>rfl⟩,.inl rfl⟩;refine⟨fun i k=>Vz ((S.getD i []).getD k zF),n,fun i m d =>?_,fun i m d k t =>?_,fun i m d k x t u =>?_⟩
  ·obtain⟨r,u,A,B⟩:=o i m d;have F:S.getD i []=r:=by simp_all
   rw[u,F];refine congrArg some (iC A fun k t =>?_);show r[k]? = some (bJ (Vz (r.getD k zF)));have c:r[k]? = some (r[k]'(by omega)):=alE _;obtain⟨q,C⟩:=ow.1 (B k _ c).1;rw[c,al2,c,amc,C,An]
  ·obtain⟨r,u,A,B⟩:=o i m d;have F:S.getD i []=r:=by simp_all
   have c:r[k]? = some (r[k]'(by omega)):=alE _;have g:=alR u;have a:=alR c;obtain⟨q,C⟩:=ow.1 (B k _ c).1;have H:=M i r u _ a;have N:=I r g _ a;rw[C]at H N;have O:Vz ((S.getD i []).getD k zF)=q:=by rw[F,al2,c,amc,C,An]
   rw[O];have Z:¬q<0:=fun h=>by have:=ox.2 h;have e:(bJ q).bn.al=q.num.sign:=rfl;omega
   exact⟨by grind,pG N.1 N.2⟩
  ·obtain⟨r,g1,A,B⟩:=o i m d;have F:S.getD i []=r:=by simp_all
   have V:=aU t;have c:r[k]? = some (r[k]'(by omega)):=alE _;obtain⟨q,C⟩:=ow.1 (B k _ c).1;have H:=(B k _ c).2 x t u;rw[C]at H;have O:Vz ((S.getD i []).getD k zF)=q:=by rw[F,al2,c,amc,C,An]
   exact O.trans (adM.1 H)
 ·rw[e];refine⟨3,rfl,⟨fun h=>by simp at h,fun⟨s,h⟩ =>?_⟩,.inr (.inr ⟨rfl,r,alR a,?_⟩)⟩
  ·refine absurd (fun x G =>?_) p;have d:i<w.au.length:=by grind
   have c:w.au[i]? = some (w.au[i]):=alE d;have:=h.row i _ c;rw[a]at this;rw[anq this]at G;obtain⟨k,t,rfl⟩:=alp.1 G;have u:=(h.nn i _ c k (amQ.1 t)).1;have A:¬s i k<0:=by grind
   have B:=mt ox.1 A;have e:(bJ (s i k)).bn.al=(s i k).num.sign:=rfl;omega
  simp_all
def GR {B:Nat} {α:Type} {l m:List α} (a:B<=1000) (h:l.length+m.length<=1000):nB B l m=some (l++m):=by
 unfold nB;have:(1000:Nat)<=maxLen:=by decide
 have b:(l.length+m.length)*B<=1000*1000:=anN h a;grind
def Xy {α:Type} {P Q:Prop} {c:Decidable P} {d:Decidable Q} {a b:α} (h:P↔Q):(if P then a else b)=if Q then a else b:=by
 simp_all
def C9 (w:bf) (a:Nat->Nat->Rat) (i k:Nat):Rat:=(w.au[i]?).elim 0 fun m=>aW (List.range m.av.aq.length) fun j=>Di m.av k j*a i j
def Bi (w:bf) (s:Nat->Nat->Rat) (p:Nat):Rat:=Xr w p (C9 w s)
section
variable {w:bf} {S:List (List ah)} {s:Nat->Nat->Rat} {N:Nat}
def Ey (l:po w) (n:ju w) {i:Nat} {m:bo} (c:w.au[i]? = some m) {k:Nat} (d:k<m.av.aG.length) {a:Nat->Nat->Rat} {K:Nat} (o:K<=10000000000) (p:∀j,j<m.av.aq.length->LF (a i j)<=K) :
  ∃row,m.av.aO[k]? = some row∧jK row (dn m.av.aq.length (a i))=some (bJ (C9 w a i k))∧LF (C9 w a i k)<=1+5*(K+5):=by
 have b:=alR c;have f:=(l.mill m b).1;have g:=(n.fit m b).flow;have q:=f.srcs;have r:m.av.aO[k]? = some (m.av.aO[k]'(by rw[g.rows];exact d)):=alE _;generalize m.av.aO[k]'(by grind)=row at r;have s:∀j,j<m.av.aq.length->row[j]? = some (bJ (Di m.av k j))∧LF (Di m.av k j)<=4:=fun j t=>by
  obtain⟨h,u,v,_,x⟩:=uJ f g d t;simp_all
 obtain⟨y,z⟩:=aau (by omega) s p o;have e:C9 w a i k=aW (List.range m.av.aq.length) fun j=>Di m.av k j*a i j:=by unfold C9;rw[c];rfl
 have A:=al8 (K+5) q;grind
def X8 (f:ju w) {i k:Nat} {m:bo} {y:sC} (b:w.au[i]? = some m) (c:m.av.aG[k]? = some y) (d:y.a8=0):∃p:Nat,p<w.aw.length∧P.idx m.aC y.aS=some (p:Int)∧pF w p i k:=by
 have e:=f.fit m (alR b);obtain⟨j,g,a⟩:=H9 e c d;have h:=e.ports _ (alR a);refine⟨(m.aC.getD y.aS.toNat 0).toNat,by omega,?_,m,y,b,c,d,by omega⟩;rw[Int.toNat_of_nonneg h.1];rw[g]at a ⊢;exact aT a
open Classical in
def vD (w:bf) (s:Nat->Nat->Rat) (i k:Nat):List ah:=(List.range w.aw.length).map fun p=>if ∃a b,pF w p a b∧(a<i∨a=i∧b<k) then bJ (Bi w s p) else zF
def Hc {i k c d:Nat} (h:∀p,p<w.aw.length->∀a b,pF w p a b->((a<i∨a=i∧b<k)↔(a<c∨a=c∧b<d))):vD w s i k=vD w s c d:=by
 unfold vD;refine amL fun p e =>?_;have e:=amQ.1 e;have:(∃a b,pF w p a b∧(a<i∨a=i∧b<k))↔∃a b,pF w p a b∧(a<c∨a=c∧b<d):=by
  grind
 exact Xy this
def ab1 (l:ju w) {i k p:Nat} (m:p<w.aw.length) (f:pF w p i k):(vD w s i k).set p (bJ (C9 w s i k))=vD w s i (k+1):=by
 unfold vD;rw[iw];refine amL fun q g =>?_;have g:=amQ.1 g
 by_cases d:q=p
 ·subst d;rw[if_pos rfl,if_pos ⟨i,k,f,.inr ⟨rfl,by omega⟩⟩];unfold Bi;rw[CP l g f]
 ·rw[if_neg d];have:(∃c e,pF w q c e∧(c<i∨c=i∧e<k))↔∃c e,pF w q c e∧(c<i∨c=i∧e<k+1):=by
   constructor
   ·grind
   ·rintro⟨a,b,j,n⟩;refine⟨a,b,j,?_⟩
    by_cases h:a=i∧b=k
    ·exfalso;obtain⟨rfl,rfl⟩:=h;obtain⟨o,r,t,u,_,v⟩:=j;obtain⟨x,y,z,A,_,B⟩:=f;grind
    ·omega
  exact Xy this
def Zl {i k:Nat} {m:bo} {y:sC} (e:w.au[i]? = some m) (f:m.av.aG[k]? = some y) (g:y.a8≠0):vD w s i k=vD w s i (k+1):=by
 refine Hc fun p j a b c =>?_;constructor
 ·intro h;omega
 ·intro h
  by_cases d:a=i∧b=k
  ·exfalso;obtain⟨rfl,rfl⟩:=d;obtain⟨l,n,o,q,r,_⟩:=c;simp_all
  ·omega
def abZ {i:Nat} {m:bo} (e:w.au[i]? = some m):vD w s i m.av.aG.length=vD w s (i+1) 0:=by
 refine Hc fun p f a b c =>?_;constructor
 ·intro h;omega
 ·intro h;rcases h with h|h
  ·by_cases d:a=i
   ·subst d;obtain⟨g,j,k,l,_,_⟩:=c;grind
   omega
  ·omega
def UA:List.replicate w.aw.length zF=vD w s 0 0:=by
 unfold vD;refine iC (by simp) fun j a =>?_;simp_all
def Zk (a:ju w):vD w s w.au.length 0=dn w.aw.length (Bi w s):=by
 refine amL fun p b =>?_;obtain⟨i,k,h,_⟩:=D7 a (amQ.1 b);obtain⟨m,y,c,_⟩:=id h;rw[if_pos ⟨i,k,h,.inl (aU c)⟩]
def ab0 {i k p:Nat} (a:p<w.aw.length):∃z,(vD w s i k)[p]? = some z:=⟨_,alE (by unfold vD;simp_all)⟩
def Zn (n:po w) (g:ju w) (o:OkS w S s) {i:Nat} {m:bo} (b:w.au[i]? = some m) :
  aR (jD S (i:Int) m) ((0:Int),vD w s i 0)=some (vD w s (i+1) 0):=by
 have c:=alR b;have t:=(n.mill m c).1;have G:=t.outs;have key:=fun h d=>tp (body:=jD S (i:Int) m) m.av.aG (by omega) (fun k (l:List ah)=>l=vD w s i k) (fun l=>l=vD w s (i+1) 0) (s0:=vD w s i 0) rfl h d;refine (key ?_ ?_).elim fun x ⟨u,hx⟩=>hx ▸ u
 ·rintro k y _ e rfl;have q:=aU e;simp only[jD];rw[if_pos (by simpa using q),aT e,amN,bg (by omega)]
  by_cases f:y.a8=0
  ·obtain⟨p,r,v,A⟩:=X8 g b e f;obtain⟨B,C,D,_⟩:=Ey n g b q (a:=s) (K:=100) (by omega) fun j E=>(o.nn i m b j E).2;obtain⟨z,F⟩:=ab0 (s:=s) (i:=i) (k:=k) r;rw[if_pos (by simpa using f),v,amN,aT C,amN,aT (o.row i m b),amN,D,amN,aT F,amN,amk];exact⟨_,rfl,ab1 g r A⟩
  ·rw[if_neg (by simpa using f)];exact⟨_,rfl,Zl b e f⟩
 ·rintro _ rfl;refine⟨_,?_,rfl⟩;simp only[jD];rw[if_neg (by simp),abZ b]
def Zm (b:po w) (e:ju w) (f:OkS w S s):mC w S=some (dn w.aw.length (Bi w s)):=by
 have h:=b.mills;have j:=b.given;have key:=fun c a=>tp (body:=jC w S) w.au (by omega) (fun i (l:List ah)=>l=vD w s i 0) (fun l=>l=dn w.aw.length (Bi w s)) (s0:=List.replicate w.aw.length zF) UA c a;have d:aR (jC w S) ((0:Int),List.replicate w.aw.length zF)=some (dn w.aw.length (Bi w s)):=by
  refine (key ?_ ?_).elim fun x ⟨d,hx⟩=>hx ▸ d
  ·rintro i m _ hx rfl;have g:=aU hx;refine⟨_,?_,rfl⟩;simp only[jC];rw[if_pos (by simpa using g),aT hx,amN,Zn b e f hx,amN,bg (by omega)]
  ·rintro _ rfl;refine⟨_,?_,rfl⟩;simp only[jC];rw[if_neg (by simp),Zk e]
 unfold mC;rw[Fy _ (by omega) (by omega),amN,d,amN]
def ab3 (a:ju w) {p:Nat} (b:p<w.aw.length):∃i k,pF w p i k∧Bi w s p=C9 w s i k:=by
 obtain⟨i,k,h,_⟩:=D7 a b;exact⟨i,k,h,CP a b h _⟩
def X4 (b:po w) (c:ju w) {i k:Nat} {m:bo} {y:sC} (d:w.au[i]? = some m) (e:m.av.aG[k]? = some y) {a:Nat->Nat->Rat} {K:Nat} (f:K<=10000000000) (g:∀j,j<m.av.aq.length->LF (a i j)<=K):LF (C9 w a i k)<=1+5*(K+5):=by
 obtain⟨_,_,_,h⟩:=Ey b c d (aU e) f g;exact h
def X3 (e:po w) (f:ju w) {i k:Nat} {m:bo} {y:sC} (d:w.au[i]? = some m) (g:m.av.aG[k]? = some y) {a:Nat->Nat->Rat} (l:∀j,j<m.av.aq.length->0<=a i j):0<=C9 w a i k:=by
 have b:=alR d;unfold C9;rw[d,Option.elim_some];refine Dk fun j c =>?_;have c:=amQ.1 c;obtain⟨_,_,_,h,_⟩:=uJ (e.mill m b).1 (f.fit m b).flow (aU g) c;exact anQ h (l j c)
def WZ (f:po w) (c:ju w) (g:OkS w S s) {p:Nat} (l:p<w.aw.length):LF (Bi w s p)<=2700∧0<=Bi w s p:=by
 obtain⟨i,k,⟨m,y,b,h,_,_⟩,e⟩:=ab3 (s:=s) c l;rw[e];have:=X4 f c b h (a:=s) (K:=100) (by omega) fun j d=>(g.nn i m b j d).2;exact⟨by omega,X3 f c b h fun j d=>(g.nn i m b j d).1⟩
def Az (w:bf) (s:Nat->Nat->Rat) (x:Nat->Rat) (i j:Nat):Rat:=(w.au[i]?).elim 0 fun m=>(m.av.aq[j]?).elim 0 fun y=>if y.a8=1 then FT w.aw (qw m y.aS)*x (qw m y.aS).b8.toNat else s i j
def iE (w:bf) (s:Nat->Nat->Rat) (x:Nat->Rat) (i k:Nat):Rat:=C9 w (Az w s x) i k
def C2 (w:bf) (i:Nat):Nat:=(w.au[i]?).elim 0 fun m=>m.av.aG.length
def p7 (w:bf) (s:Nat->Nat->Rat) (x:Nat->Rat) (n:Nat):List (List ah):=(List.range n).map fun i=>dn (C2 w i) (iE w s x i)
def afD (f:ju w) {x:Nat->Rat} {p:Nat} (g:p<w.aw.length) (k:LF (x p)<=1000000000) {a:Int} (l : -1099511627776<=a∧a<=1099511627776) :
  l7 w (dn w.aw.length x) (p:Int) a=some (bJ (Rat.divInt a (w.aw.getD p 0)*x p))∧LF (Rat.divInt a (w.aw.getD p 0)*x p)<=1000000020:=by
 have i:eL=4398046511104:=rfl;obtain⟨j,m,n,b,c,d⟩:=CQ f.given (p:=(p:Int)) (by omega);obtain rfl:p=j:=by omega
 rw[amk]at b c d;have e:w.aw.getD p 0≠0:=by omega
 have o:=tD (p:=a) e;have q:=YV c d;have r:Ln a<=10:=by
  rcases Int.lt_trichotomy a 0 with h|h|h
  ·have:=YV (x := -a) (by omega) (by omega);rw[GF]at this;omega
  ·subst h;exact als LF_zero_ln (by decide)
  ·exact als (YV (by omega) (by omega)) (by decide)
 have s:=sA (Rat.divInt a (w.aw.getD p 0)) (x p);refine⟨?_,by omega⟩;unfold l7;rw[aT b,amN,aeJ (by omega) (by omega) e,amN,aT (mL x g),amN,KJ (by omega),amN]
where
 LF_zero_ln:Ln 0<=1:=by have:=pH;have h:=kO 0;exact als h this
end
section
variable {w:bf} {S:List (List ah)} {s:Nat->Nat->Rat} {x:Nat->Rat}
def wk {i j:Nat} {m:bo} {y:ir} (a:w.au[i]? = some m) (b:m.av.aq[j]? = some y):Az w s x i j=if y.a8=1 then FT w.aw (qw m y.aS)*x (qw m y.aS).b8.toNat else s i j:=by
 unfold Az;simp_all
def JP (c:ju w) (d:∀p,p<w.aw.length->LF (x p)<=1000000000) {m:bo} (e:m∈w.au) {u:iG} (f:u∈m.bC) :
  l7 w (dn w.aw.length x) u.b8 u.aB=some (bJ (FT w.aw u*x u.b8.toNat))∧LF (FT w.aw u*x u.b8.toNat)<=1000000020∧u.b8.toNat<w.aw.length:=by
 obtain⟨g,h⟩:=(c.fit m e).uses u f;have b:u.b8.toNat<w.aw.length:=by omega
 have:=afD c b (d _ b) (a:=u.aB) (by omega);rw[Int.toNat_of_nonneg g.1]at this;exact⟨this.1,this.2,b⟩
def abr (c:ju w) (f:OkS w S s) (g:∀p,p<w.aw.length->LF (x p)<=1000000000) {i:Nat} {m:bo} (b:w.au[i]? = some m):∀j,j<m.av.aq.length->LF (Az w s x i j)<=1000000020:=fun j d=>by
 have e:m.av.aq[j]? = some m.av.aq[j]:=alE d;have a:=alR b;rw[wk b e];split
 ·rename_i h;obtain⟨_,k⟩:=B4 (c.fit m a) (alR e) h;exact (JP c g a k).2.1
 ·have:=(f.nn i m b j d).2;omega
def Ql (q:po w) (n:ju w) (u:OkS w S s) (hx:∀p,p<w.aw.length->LF (x p)<=1000000000) {i:Nat} {m:bo} (g:w.au[i]? = some m) {e:Int} :
  aR (kq w (dn w.aw.length x,e) m) ((0:Int),dn m.av.aq.length (s i))=some (dn m.av.aq.length (Az w s x i)):=by
 have a:=alR g;have v:=(q.mill m a).1.srcs;have key:=fun h c=>tp (body:=kq w (dn w.aw.length x,e) m) m.av.aq (by omega) (fun k (l:List ah)=>l=(List.range m.av.aq.length).map fun j=>if j<k then bJ (Az w s x i j) else bJ (s i j)) (fun l=>l=dn m.av.aq.length (Az w s x i)) (s0:=dn m.av.aq.length (s i)) (amL fun j _=>by simp_all) h c;refine (key ?_ ?_).elim fun x ⟨b,hx⟩=>hx ▸ b
 ·rintro k y _ d rfl;have o:=aU d;simp only[kq];rw[if_pos (by simpa using o),aT d,amN,bg (by omega)]
  by_cases b:y.a8=1
  ·obtain⟨r,t⟩:=B4 (n.fit m a) (alR d) b;rw[if_pos (by simpa using b),r,amN,(JP n hx a t).1,amN,aT (dJ _ o),amN,amk,iw];refine⟨_,rfl,amL fun j _ =>?_⟩
   by_cases f:j=k
   ·subst f;rw[if_pos rfl,if_pos (by omega),wk g d,if_pos b]
   grind
  ·rw[if_neg (by simpa using b)];refine⟨_,rfl,amL fun j _ =>?_⟩
   by_cases f:j=k
   ·subst f;rw[if_neg (by omega),if_pos (by omega),wk g d,if_neg b]
   grind
 ·rintro _ rfl;refine⟨_,?_,rfl⟩;simp only[kq];rw[if_neg (by simp)];refine congrArg some (congrArg Sum.inr (amL fun j f =>?_));simp_all
def Uy (h:po w) (f:ju w) (o:OkS w S s) (hx:∀p,p<w.aw.length->LF (x p)<=1000000000) {i:Nat} {m:bo} (e:w.au[i]? = some m) :
  aR (kr m (dn m.av.aq.length (Az w s x i))) ((0:Int),[])=some (dn (C2 w i) (iE w s x i)):=by
 have c:=alR e;have q:=(h.mill m c).1;have z:=q.outs;have A:=(f.fit m c).flow.rows;have r:C2 w i=m.av.aG.length:=by unfold C2;rw[e];rfl
 rw[r];have key:=fun g d=>tp (body:=kr m (dn m.av.aq.length (Az w s x i))) m.av.aO (by omega) (fun k (l:List ah)=>l=dn k (iE w s x i)) (fun l=>l=dn m.av.aG.length (iE w s x i)) (s0:=[]) rfl g d;refine (key ?_ ?_).elim fun x ⟨t,hx⟩=>hx ▸ t
 ·rintro k u _ b rfl;have v:=aU b;obtain⟨j,n,y,_⟩:=Ey h f e (k:=k) (by omega) (a:=Az w s x) (K:=1000000020) (by omega) (abr f o hx e);rw[b]at n;obtain rfl:=anq n;refine⟨_,?_,rfl⟩;simp only[kr];rw[if_pos (by simpa using v),aT b,amN,y,amN,GR (by omega) (by rw[jG];simp;omega),amN,bg (by omega)];unfold dn iE;rw[anP,amE];rfl
 ·rintro _ rfl;refine⟨_,?_,rfl⟩;simp only[kr];simp_all
def Qk (c:po w) (g:ju w) (d:OkS w S s) (hx:∀p,p<w.aw.length->LF (x p)<=1000000000) {e:Int} :
  aR (jd w S (dn w.aw.length x,e)) ((0:Int),[])=some (p7 w s x w.au.length):=by
 have k:=c.mills;have key:=fun f b=>tp (body:=jd w S (dn w.aw.length x,e)) w.au (by omega) (fun i (l:List (List ah))=>l=p7 w s x i) (fun l=>l=p7 w s x w.au.length) (s0:=[]) rfl f b;refine (key ?_ ?_).elim fun x ⟨h,hx⟩=>hx ▸ h
 ·rintro i m _ a rfl;have j:=aU a;have n:=(c.mill m (alR a)).1.srcs;refine⟨_,?_,rfl⟩;simp only[jd];rw[if_pos (by simpa using j),aT a,amN,aT (d.row i m a),amN];unfold gV;rw[GR (by omega) (by rw[jG];simp;omega),amU,amN,Ql c g d hx a,amN,Uy c g d hx a,amN,GR (by omega) (by unfold p7;simp;omega),amN,bg (by omega)];unfold p7;rw[anP,amE];rfl
 ·rintro _ rfl;refine⟨_,?_,rfl⟩;simp only[jd];simp_all
structure vC (w:bf) (S:List (List ah)) (s:Nat->Nat->Rat) (x:Nat->Rat) (r:Nat->Int):Prop where
 err:CM w=none
 amt:OkS w S s
 sol:aeK w.aw.length (kH w.aw.length (ll (tf w))) (Bi w s) x
 agX:kC (aaa w (tf w))=some ((List.range w.aw.length).map r)
 rank:sB w.aw.length (kH w.aw.length (ll (tf w))) r
 trap:qm w.aw.length r=[]
 sz:∀p,p<w.aw.length->LF (x p)<=1000000000
 out:dW w S=some (p7 w s x w.au.length,dn w.aw.length x,0)
def abN (a:po w) (D:SzA 100 S) (i:CM w=none) (c:OkS w S s) :
  (dW w S=some ([],[],24)∧∃r,kC (aaa w (tf w))=some ((List.range w.aw.length).map r)∧qm w.aw.length r≠[])∨∃x r,vC w S s x r:=by
 have E:=a.given;have f:=Fs i;obtain⟨e,F,G,_⟩:=E1 (w:=w) a.mills (fun m H=>(a.mill m H).1) D;obtain rfl:e=0:=G.2 ⟨s,c⟩;have I:=IC a f;have k:=XU E (IL a f).2;have n:SzN (aaa w (tf w)) 2700:=ag9 k.2;have J:∀p,p<w.aw.length->LF (Bi w s p)<=2700:=fun p b=>(WZ a f c b).1;have o:SzL (dn w.aw.length (Bi w s)) 2700:=ZZ J;have g:dW w S=(ln (aaa w (tf w)) (dn w.aw.length (Bi w s))).bind fun j=>if (j.2 != 0)=true then some ([],[],j.2) else (aR (jd w S j) (0,[])).bind fun l=>some (l,j.1,0):=by
  unfold dW;rw[Cn a,amN,i,if_neg (by simp),F,amN,if_neg (by simp),of_eq a,i,amN,if_neg (by simp),Zm a f c,amN]
 rw[g];rcases abb (K:=2700) (M:=6) (by decide) n o (by rw[jG];omega) (.inl (by show ((w.aw.length:Nat):Int)<=_;omega)) ajy with⟨L,q⟩|⟨N,tk,d,r,A,O,t,P,_,_,u,v,⟨B,q⟩|⟨B,x,Q,q,y⟩⟩
 ·exact absurd ⟨_,_,_,rfl,I,rfl⟩ L
 ·obtain⟨rfl,rfl⟩:=OH A;grind
 ·obtain⟨rfl,rfl⟩:=OH A;obtain⟨_,z⟩:=Z0 t;have C:∀p,p<w.aw.length->LF (x p)<=1000000000:=fun p b=>XsW P (y p b);right;have h:aeK w.aw.length (kH w.aw.length (ll (tf w))) (Bi w s) x:=fun p b=>by rw[z p b];exact Q p b
  refine⟨x,r,i,c,h,u,v,B,C,?_⟩;rw[g,q,amN,if_neg (by simp),Qk a f c C,amN]
def EZ (a:po w) (f:SzA 100 S) :
  (∃e,dW w S=some ([],[],e)∧e≠0∧((∃r,CM w=some r∧e=r.1)∨(CM w=none∧lX w S=some e)∨(CM w=none∧e=24∧∃r,kC (aaa w (tf w))=some ((List.range w.aw.length).map r)∧qm w.aw.length r≠[]))) ∨
  ∃s x r,vC w S s x r:=by
 cases c:CM w with
 | some r =>
  have b:=Xh c;left;refine⟨r.1,?_,b,.inl ⟨r,rfl,rfl⟩⟩;unfold dW;rw[Cn a,amN,c,if_pos (by simpa using b)];rfl
 | none =>
 obtain⟨e,g,i,_⟩:=E1 (w:=w) a.mills (fun m j=>(a.mill m j).1) f
 by_cases d:e=0
 ·obtain⟨s,k⟩:=i.1 d;rcases abN a f c k with⟨l,n⟩|⟨x,r,h⟩
  ·simp_all
  grind
 ·left;refine⟨e,?_,d,.inr (.inl ⟨rfl,g⟩)⟩;unfold dW;rw[Cn a,amN,c,if_neg (by simp),g,amN,if_pos (by simpa using d)]
end
def acO (x:Nat->Rat) (p:Nat):∀tk:List Tk,CU tk x p=aW tk fun t=>if t.2.1=p then t.2.2*x t.1 else 0
 | []=>rfl
 | t::tk=>by simp only[CU,aW,acO x p tk]
def acQ {N p:Nat} {S:Nat->Nat->Rat} (c:p<N) (d:∀a b,0<=S a b) (x:Nat->Rat):CU (kH N S) x p=aW (List.range N) fun a=>S a p*x a:=by
 rw[acO];unfold kH;rw[nh];refine a7 fun a _ =>?_;rw[uL,so,a7 (g:=fun b=>if b=p then S a b*x a else 0) fun b _ =>?_,mv c];grind
def ah1 {N p:Nat} {L:List Dy} (H:YT N L) (x:Nat->Rat):aW (List.range N) (fun a=>ll L a p*x a)=aW L fun c=>if c.1.2=(p:Int) then c.2*x c.1.1.toNat else 0:=by
 have h1:∀a,ll L a p*x a=aW L fun c=>if ((a:Int),(p:Int))=c.1 then c.2*x a else 0:=fun a=>by
  unfold ll;rw[Pf,Rat.mul_comm,<- qk];grind
 rw[a7 fun a _=>h1 a,nk (fun (a:Nat) (c:Dy)=>if ((a:Int),(p:Int))=c.1 then c.2*x a else 0)];refine a7 fun c b =>?_;have d:=H.from_ c b;rw[a7 (g:=fun a=>if a=c.1.1.toNat then (if c.1.2=(p:Int) then c.2*x a else 0) else 0) fun a _ =>?_,mv (by omega)];grind
section
variable {w:bf} {S:List (List ah)} {s:Nat->Nat->Rat} {x:Nat->Rat} {r:Nat->Int}
def Nv (g:List Int) (m:bo) (x:Nat->Rat) (j k:Nat):Rat:=(m.av.aq[j]?).elim 0 fun y=>if y.a8=1 then FT g (qw m y.aS)*Di m.av k j*x (qw m y.aS).b8.toNat else 0
def TU (w:bf) (x:Nat->Rat) (i k:Nat):Rat:=(w.au[i]?).elim 0 fun m=>aW (List.range m.av.aq.length) fun j=>Nv w.aw m x j k
def af3 (g:List Int) (m:bo) (p:Nat) (x:Nat->Rat):aW (oY g m) (fun c=>if c.1.2=(p:Int) then c.2*x c.1.1.toNat else 0)=aW (List.range m.av.aG.length) fun k=>(m.av.aG[k]?).elim 0 fun y=>if y.a8=0∧m.aC.getD y.aS.toNat 0=(p:Int) then aW (List.range m.av.aq.length) (fun j=>Nv g m x j k) else 0:=by
 have h1:∀j,aW (Cl g m j) (fun c=>if c.1.2=(p:Int) then c.2*x c.1.1.toNat else 0)=aW (List.range m.av.aG.length) fun k=>(m.av.aG[k]?).elim 0 fun y=>if y.a8=0∧m.aC.getD y.aS.toNat 0=(p:Int) then Nv g m x j k else 0:=by
  intro j;unfold Cl Nv;cases d:m.av.aq[j]? with
  | none =>
   show (0:Rat)=_;rw[a7 (g:=fun _=>0) fun k _ =>?_,jI];simp_all
  | some z =>
   simp only[Option.elim_some]
   by_cases a:z.a8=1
   ·rw[if_pos a,nh];refine a7 fun k _ =>?_;unfold yH;cases m.av.aG[k]? with
    | none=>rfl
    | some y =>
     simp only[Option.elim_some]
     by_cases h0:y.a8=0
     ·by_cases b:Di m.av k j=0
      ·rw[if_neg (fun h=>h.2 b),b];show (0:Rat)=_;split<;>grind
      ·rw[if_pos ⟨h0,b⟩];simp only[aW,h0,true_and,a,if_true];split<;>grind
     ·rw[if_neg (fun h=>h0 h.1),if_neg (fun h=>h0 h.1)];rfl
   ·rw[if_neg a];show (0:Rat)=_;rw[a7 (g:=fun _=>0) fun k _ =>?_,jI];simp_all
 unfold oY;rw[nh,a7 fun j _=>h1 j,nk (fun (j k:Nat)=>(m.av.aG[k]?).elim 0 fun y=>if y.a8=0∧m.aC.getD y.aS.toNat 0=(p:Int) then Nv g m x j k else 0)];refine a7 fun k _ =>?_;cases m.av.aG[k]? with
 | none=>exact jI _
 | some y =>
  simp only[Option.elim_some];split
  ·rfl
  ·exact jI _
def ZP (f:po w) (c:ju w) {p i k:Nat} (d:p<w.aw.length) (g:pF w p i k):CU (kH w.aw.length (ll (tf w))) x p=TU w x i k:=by
 have e:=ahk f c;rw[acQ d (S:=ll (tf w)) (fun a b=>(zK e.pos).1),ah1 e,<- CP c d g (TU w x)];unfold tf Xr;rw[nh,<- oT w.au];refine a7 fun a _ =>?_;unfold TU;cases w.au[a]? with
 | none=>rfl
 | some m=>exact af3 _ m p x
def aai (e:OkS w S s) {i k:Nat} {m:bo} (b:w.au[i]? = some m):iE w s x i k=C9 w s i k+TU w x i k:=by
 unfold iE C9 TU;rw[b,Option.elim_some,Option.elim_some,Option.elim_some,<- wI];refine a7 fun j c =>?_;have c:=amQ.1 c;have a:m.av.aq[j]? = some m.av.aq[j]:=alE c;generalize m.av.aq[j]=y at a;rw[wk b a];unfold Nv;rw[a,Option.elim_some]
 by_cases d:y.a8=1
 ·rw[if_pos d,if_pos d,e.tk i m b j y a d];grind
 grind
def ZK (e:po w) (a:vC w S s x r) {p i k:Nat} (b:p<w.aw.length) (c:pF w p i k):iE w s x i k=x p:=by
 have d:=Fs a.err;obtain⟨m,y,f,_⟩:=id c;rw[aai a.amt f,a.sol p b,ZP e d b c];unfold Bi;rw[CP d b c]
def Lp (q:Int) (c:Rat):∀l:List Int,aW l (fun z=>if z=q then c else 0)=(l.count q:Nat)*c
 | []=>by simp[aW]
 | z::l=>by
  simp only[aW,Lp q c l,List.count_cons]
  by_cases h:z=q
  ·subst h;grind
  ·rw[if_neg h,if_neg (by simpa using h),alZ];grind
def aak {N:Nat} (F:Nat->Rat) {l:List Int} (a:∀q∈l,0<=q∧q<(N:Int)):aW l (fun q=>F q.toNat)=aW (List.range N) fun p=>(l.count (p:Int):Nat)*F p:=by
 rw[a7 (g:=fun q=>aW (List.range N) fun p=>if q=(p:Int) then F p else 0) fun q b =>?_,nk (fun (q:Int) (p:Nat)=>if q=(p:Int) then F p else 0)]
 ·exact a7 fun p _=>Lp _ _ l
 ·have:=a q b;rw[a7 (g:=fun p=>if p=q.toNat then F p else 0) fun p _ =>?_,mv (by omega)];grind
def aem (p:Nat):∀a:List bo,aW a (fun m=>((m.aC.count (p:Int):Nat):Rat))=((Gf a p:Int):Rat)
 | []=>by simp[aW,Gf]
 | m::a=>by
  rw[zN,Rat.intCast_add];simp only[aW,aem p a];congr 1
def YZ (a:ju w) (F:Nat->Rat):aW w.au (fun m=>aW m.aC fun q=>F q.toNat)=aW (List.range w.aw.length) F:=by
 rw[a7 (g:=fun m=>aW (List.range w.aw.length) fun p=>(m.aC.count (p:Int):Nat)*F p) fun m c=>aak F (a.fit m c).ports,nk (fun (m:bo) (p:Nat)=>((m.aC.count (p:Int):Nat):Rat)*F p)];refine a7 fun p d =>?_;have e:Gf w.au p=1:=by
  have:=a.once p (amQ.1 d);have:=JD p w.au;omega
 have b:=aem p w.au;rw[e]at b;refine Eq.trans (a7 (g:=fun m=>F p*((m.aC.count (p:Int):Nat):Rat)) fun m _=>Rat.mul_comm _ _) ?_;rw[qk,b];simp
def ZL {m:bo} {N:Nat} (a:yl m N) (F:Int->Rat):aW (List.range m.av.aG.length) (fun k=>(m.av.aG[k]?).elim 0 fun y=>if y.a8=0 then F (m.aC.getD y.aS.toNat 0) else 0)=aW m.aC F:=by
 refine Eq.trans (oT m.av.aG fun y=>if y.a8=0 then F (m.aC.getD y.aS.toNat 0) else 0) ?_;rw[a7 (g:=fun y=>if (y.a8==0)=true then F (m.aC.getD y.aS.toNat 0) else 0) fun y _=>by simp_all,<- so (fun y:sC=>y.a8==0) fun y=>F (m.aC.getD y.aS.toNat 0)];rw[<- uL (fun y:sC=>y.aS) fun n=>F (m.aC.getD n.toNat 0),Ns a.gives];unfold wL;rw[uL];refine Eq.trans (a7 fun j b =>?_) (oT m.aC F);simp_all
def yb (w:bf) (s:Nat->Nat->Rat) (x:Nat->Rat) (i k:Nat):Rat:=(w.au[i]?).elim 0 fun m=>(m.av.aG[k]?).elim 0 fun y=>if y.a8=0 then 0 else iE w s x i k
def adh (t:po w) (h:vC w S s x r) {i:Nat} {m:bo} (c:w.au[i]? = some m) :
  aW (List.range m.av.aG.length) (yb w s x i)=aW (List.range m.av.aq.length) (s i)+aW m.bC (fun u=>FT w.aw u*x u.b8.toNat)-aW m.aC fun q=>x q.toNat:=by
 have v:=Fs h.err;have a:=alR c;have A:=(t.mill m a).1;have l:=v.fit m a;have d:aW (List.range m.av.aG.length) (iE w s x i)=aW (List.range m.av.aq.length) (Az w s x i):=by
  have e:∀k,iE w s x i k=aW (List.range m.av.aq.length) fun j=>Di m.av k j*Az w s x i j:=fun k=>by unfold iE C9;rw[c];rfl
  rw[a7 fun k _=>e k,nk (fun (k j:Nat)=>Di m.av k j*Az w s x i j)];refine a7 fun j f =>?_;have:=Na A l.flow (amQ.1 f);rw[Pg]at this;rw[a7 (g:=fun k=>Az w s x i j*Di m.av k j) fun k _=>Rat.mul_comm _ _,qk,this];grind
 have B:aW (List.range m.av.aq.length) (Az w s x i)=aW (List.range m.av.aq.length) (s i)+aW m.bC fun u=>FT w.aw u*x u.b8.toNat:=by
  rw[<- T5 l,<- wI];refine a7 fun j f =>?_;have f:=amQ.1 f;have b:m.av.aq[j]? = some m.av.aq[j]:=alE f;generalize m.av.aq[j]=y at b;rw[wk c b];unfold Dl;rw[b,Option.elim_some]
  by_cases d:y.a8=1
  ·rw[if_pos d,if_pos d,h.amt.tk i m c j y b d];grind
  grind
 have C:aW (List.range m.av.aG.length) (yb w s x i)=aW (List.range m.av.aG.length) (iE w s x i)-aW (List.range m.av.aG.length) (fun k=>(m.av.aG[k]?).elim 0 fun y=>if y.a8=0 then x (m.aC.getD y.aS.toNat 0).toNat else 0):=by
  rw[<- wJ];refine a7 fun k n =>?_;have n:=amQ.1 n;have b:m.av.aG[k]? = some m.av.aG[k]:=alE n;generalize m.av.aG[k]=y at b;unfold yb;rw[c,Option.elim_some,b,Option.elim_some,Option.elim_some]
  by_cases o:y.a8=0
  ·rw[if_pos o,if_pos o];obtain⟨p,D,_,z⟩:=X8 v c b o;rw[ZK t h D z];obtain⟨E,F,G,H,_,I⟩:=z;grind
  grind
 rw[C,d,B,ZL l fun q=>x q.toNat]
def aer (a:ju w) (x:Nat->Rat):aW w.au (fun m=>aW m.bC fun u=>FT w.aw u*x u.b8.toNat)=aW (List.range w.aw.length) fun p=>Rat.divInt (wb p w.au) (w.aw.getD p 0)*x p:=by
 have b:∀m∈w.au,aW m.bC (fun u=>FT w.aw u*x u.b8.toNat)=aW (List.range w.aw.length) fun p=>aaO p m*(((w.aw.getD p 0:Int):Rat)⁻¹*x p):=fun m c=>by
  have d:=a.fit m c;rw[a7 (g:=fun u=>aW (List.range w.aw.length) fun p=>(((w.aw.getD p 0:Int):Rat)⁻¹*x p)*vr p u (u.aB:Rat)) fun u e =>?_,nk (fun (u:iG) (p:Nat)=>(((w.aw.getD p 0:Int):Rat)⁻¹*x p)*vr p u (u.aB:Rat))]
  ·refine a7 fun p _ =>?_;rw[qk];unfold aaO;grind
  ·have f:=(d.uses u e).1;unfold vr;rw[a7 (g:=fun p=>if p=u.b8.toNat then (((w.aw.getD p 0:Int):Rat)⁻¹*x p)*(u.aB:Rat) else 0) fun p _ =>?_,mv (by omega)]
   ·unfold FT;rw[anX,anH];grind
   grind
 rw[a7 b,nk (fun (m:bo) (p:Nat)=>aaO p m*(((w.aw.getD p 0:Int):Rat)⁻¹*x p))];refine a7 fun p _ =>?_;rw[a7 (g:=fun m=>(((w.aw.getD p 0:Int):Rat)⁻¹*x p)*aaO p m) fun m _=>Rat.mul_comm _ _,qk,JB,anX,anH];grind
def afc (w:bf) (x:Nat->Rat) (p:Nat):Rat:=Rat.divInt (w.aw.getD p 0-wb p w.au) (w.aw.getD p 0)*x p
def ZD (a:ju w) {p:Nat} (d:p<w.aw.length):afc w x p=x p-Rat.divInt (wb p w.au) (w.aw.getD p 0)*x p:=by
 have e:1<=w.aw.getD p 0:=by
  obtain⟨j,f,_,_,b,_⟩:=CQ a.given (p:=(p:Int)) (by omega);simpa using b
 have c:((w.aw.getD p 0:Int):Rat)≠0:=by exact_mod_cast (show w.aw.getD p 0≠0 by omega)
 unfold afc;have g:=Rat.mul_inv_cancel _ c;rw[anX,anX,Rat.intCast_sub,anH,anH];grind
def aeM (f:po w) (d:vC w S s x r) :
  aW (List.range w.aw.length) (afc w x)+aW (List.range w.au.length) (fun i=>aW (List.range (C2 w i)) (yb w s x i))=aW (List.range w.au.length) fun i=>(w.au[i]?).elim 0 fun m=>aW (List.range m.av.aq.length) (s i):=by
 have b:=Fs d.err;have g:aW (List.range w.au.length) (fun i=>aW (List.range (C2 w i)) (yb w s x i))=aW (List.range w.au.length) (fun i=>(w.au[i]?).elim 0 fun m=>aW (List.range m.av.aq.length) (s i))+aW w.au (fun m=>aW m.bC fun u=>FT w.aw u*x u.b8.toNat)-aW w.au (fun m=>aW m.aC fun q=>x q.toNat):=by
  rw[<- oT w.au (fun m=>aW m.bC fun u=>FT w.aw u*x u.b8.toNat),<- oT w.au (fun m=>aW m.aC fun q=>x q.toNat),<- wI,<- wJ];refine a7 fun i c =>?_;have c:=amQ.1 c;have a:w.au[i]? = some w.au[i]:=alE c;generalize w.au[i]=m at a;have e:C2 w i=m.av.aG.length:=by unfold C2;rw[a];rfl
  rw[e,a,Option.elim_some,Option.elim_some,Option.elim_some,adh f d a]
 have h:aW (List.range w.aw.length) (afc w x)=aW (List.range w.aw.length) x-aW (List.range w.aw.length) fun p=>Rat.divInt (wb p w.au) (w.aw.getD p 0)*x p:=by
  rw[<- wJ];exact a7 fun p j=>ZD b (amQ.1 j)
 rw[g,h,aer b,YZ b];grind
end
section
variable {w:bf} {x:Nat->Rat}
end
def ahT:zp=some true:=by kernel_rfl
def acx {l m:List Int} (d:l.length<4611686018427387904):nf l m=some (decide (l=m)):=by
 unfold nf
 by_cases hlen:l.length=m.length
 rotate_left
 ·rw[if_pos (by grind),decide_eq_false (fun h=>hlen (by rw[h]))]
 rw[if_neg (by simp[hlen]),sj l (fun i x=>if m[i]? = some x then none else some false) d (fun i x b =>?_) (by simp only[oB];simp_all),amN]
 ·cases c:fv (fun (i:Nat) (x:Int)=>if m[i]? = some x then none else some false) 0 l with
  | none =>
   have:l=m:=anp fun j=>by
    by_cases e:j<l.length
    ·have h:=dh.1 c j _ (alE e);simp_all
    simp_all
   simp_all
  | some q =>
   obtain⟨j,x,k,a,_⟩:=dB c;rw[amr]at a;split at a
   ·cases a
   ·rename_i hbad;cases a;rw[decide_eq_false (fun h=>hbad (by simp_all))]
 ·have f:=aU b;have g:m[i]? = some (m[i]'(by omega)):=alE _;simp only[oB];rw[if_pos (by simpa using f),aT b,amN,aT g,amN,bg (by omega)];grind
def WJ {b c:aH} (h:b.aa.length<4611686018427387904):tQ b c=some (decide (b=c)):=by
 obtain⟨s,l⟩:=b;obtain⟨t,m⟩:=c;unfold tQ;simp only at h ⊢
 by_cases a:s=t
 ·rw[if_pos (by simpa using a),acx h,amN];simp_all
 simp_all
def ahS {a b:Rat} (h:LF a<=eL):mH (bJ a) (bJ b)=some (decide (a=b)):=by
 have c:=xl h;unfold eL at c;unfold mH;rw[WJ (by omega),amN]
 by_cases h1:(bJ a).bn=(bJ b).bn
 ·rw[if_pos (decide_eq_true h1),WJ (by omega),amN]
  by_cases h2:(bJ a).bu=(bJ b).bu
  ·have:bJ a=bJ b:=by
    cases d:bJ a;simp_all
   rw[decide_eq_true h2,decide_eq_true (vg this)]
  ·rw[decide_eq_false h2,decide_eq_false (fun e=>h2 (by rw[e]))]
 ·rw[if_neg (by simpa using h1),decide_eq_false (fun e=>h1 (by rw[e]))]
section
variable {w:bf} {S:List (List ah)} {s:Nat->Nat->Rat} {x:Nat->Rat} {r:Nat->Int}
def abM (b:po w) (a:vC w S s x r):∀p,p<w.aw.length->0<=x p:=by
 have c:=Fs a.err;exact VJ (IC b c) a.rank (TX a.rank a.trap) a.sol fun p d=>(WZ b c a.amt d).2
def ahL (f:po w) (d:vC w S s x r) {i k:Nat} {m:bo} {y:sC} (e:w.au[i]? = some m) (g:m.av.aG[k]? = some y):0<=iE w s x i k∧LF (iE w s x i k)<=5000000126:=by
 have c:=Fs d.err;have b:=alR e;have h:=X4 f c e g (a:=Az w s x) (K:=1000000020) (by omega) (abr c d.amt d.sz e);refine⟨X3 f c e g fun j l =>?_,by unfold iE;omega⟩;have n:m.av.aq[j]? = some m.av.aq[j]:=alE l;rw[wk e n];split
 ·rename_i p;obtain⟨_,o⟩:=B4 (c.fit m b) (alR n) p;exact anQ (Rat.le_of_lt (NU c.given (c.fit m b) o).2) (abM f d _ (JP c d.sz b o).2.2)
 ·exact (d.amt.nn i m e j l).1
end
def gH (q:List (Int×Rat)):List aY:=q.map fun x=>aY.mk x.1 (bJ x.2)
def wc:List (Int×Rat)->Int
 | []=>0
 | x::q=>x.1+wc q
def kh:List (Int×Rat)->Rat
 | []=>0
 | x::q=>x.2+kh q
def nK:List (Int×Rat)->Nat
 | []=>0
 | x::q=>LF x.2+1+nK q
structure Ch (q:List (Int×Rat)):Prop where
 one:∀x∈q,1<=x.1∧0<=x.2
 tot:wc q<=1099511627776
 len:q.length<=200
def Bc (a:List (Int×Rat)):∀q,wc (q++a)=wc q+wc a
 | []=>by simp[wc]
 | x::q=>by simp only[List.cons_append,wc,Bc a q];omega
def Be (a:List (Int×Rat)):∀q,kh (q++a)=kh q+kh a
 | []=>by simp only[List.nil_append,kh];grind
 | x::q=>by simp only[List.cons_append,kh,Be a q];grind
def xP (a:List (Int×Rat)):∀q,nK (q++a)=nK q+nK a
 | []=>by simp[nK]
 | x::q=>by simp only[List.cons_append,nK,xP a q];omega
def NQ:∀q,wc q.reverse=wc q
 | []=>rfl
 | x::q=>by simp only[List.reverse_cons,Bc,NQ q,wc];omega
def NR:∀q,kh q.reverse=kh q
 | []=>rfl
 | x::q=>by simp only[List.reverse_cons,Be,NR q,kh];grind
def Gu:∀q,nK q.reverse=nK q
 | []=>rfl
 | x::q=>by simp only[List.reverse_cons,xP,Gu q,nK];omega
def Ch.rev {q:List (Int×Rat)} (h:Ch q):Ch q.reverse:=⟨fun x a=>h.one x (List.mem_reverse.1 a),by rw[NQ];exact h.tot,by rw[List.length_reverse];exact h.len⟩
def Ch.tail {x:Int×Rat} {q:List (Int×Rat)} (h:Ch (x::q)):Ch q:=⟨fun y a=>h.one y (amI _ a),by have:=h.tot;have:=h.one x amH;simp only[wc]at *;omega,by have:=h.len;simp at this;omega⟩
def NP {q:List (Int×Rat)} (h:∀x∈q,1<=x.1∧0<=x.2):0<=wc q:=by
 induction q with
 | nil=>simp[wc]
 | cons x q a =>
  have c:=a fun y b=>h y (amI _ b);have d:=h x amH;simp only[wc];omega
def ahe {q:List (Int×Rat)} (h:∀x∈q,1<=x.1∧0<=x.2):0<=kh q:=by
 induction q with
 | nil=>simp[kh]
 | cons x q a =>
  have c:=a fun y b=>h y (amI _ b);have d:=h x amH;simp only[kh];grind
def NS:∀q,LF (kh q)<=1+nK q
 | []=>by have:=pH;simp only[kh,nK];omega
 | x::q=>by have:=oE x.2 (kh q);have:=NS q;simp only[kh,nK];omega
def Ph {x:Int×Rat} : ∀ {q:List (Int×Rat)},x∈q->LF x.2+1<=nK q
 | y::q,h=>by
  rcases alx.1 h with rfl|h
  ·simp only[nK];omega
  ·have:=Ph h;simp only[nK];omega
def mc (q:List (Int×Rat)):(gH q).length=q.length:=by simp[gH]
def Im {q:List (Int×Rat)} {i:Nat} {x:Int×Rat} (h:q[i]? = some x):(gH q)[i]? = some (aY.mk x.1 (bJ x.2)):=by simp[gH,h]
def RS (q:List (Int×Rat)):(gH q).reverse=gH q.reverse:=by simp[gH,List.map_reverse]
def N3 {α:Type} {l:List α} {i:Nat} (h:i<l.length):∃x,l[i]? = some x∧l.drop i=x::l.drop (i+1):=⟨l[i],alE h,anc h⟩
def adL {α:Type} {l:List α} {i:Nat} {x:α} (h:l[i]? = some x):l.set i x=l:=by
 refine anp fun j =>?_;rw[anU];split
 ·rename_i e;subst e;rw[h,if_pos (aU h)]
 ·rfl
def qy:Int->List aY->Bool
 | _,[]=>true
 | c,x::l => !decide (x.aB<1) && !decide (x.aB>c)&&okF x.cJ && !decide (x.cJ.bn.al<0)&&qy (c-x.aB) l
def abf {f:ah} (h:yk f) (a:okF f=true):fP f=some f.bn.al:=by
 unfold fP;rw[pJ h,amN,a];rfl
def FF {l:List aY} (q:l.length<=2000) (n:∀x∈l,yk x.cJ):eR l=some (qy 1099511627776 l&&decide (l.length<=200)):=by
 obtain⟨r,j,d⟩:=db (body:=qg l) (fun i o=>∃c:Int,o=(c,(i:Int))∧0<=c∧c<=1099511627776∧qy 1099511627776 l=qy c (l.drop i)) l.length
  (fun r=>r=if qy 1099511627776 l=true then .inl () else .inr false) (s:=(1099511627776,0)) ⟨_,rfl,by omega,by omega,rfl⟩ (jQ (by omega)) (by
  rintro i _ t ⟨c,rfl,u,j,d⟩;simp only[qg]
  by_cases a:i<l.length
  rotate_left
  ·have:i=l.length:=by omega
   subst this;right;rw[d,List.drop_length];exact⟨_,by rw[if_neg (by simp)],by simp[qy]⟩
  obtain⟨x,k,p⟩:=N3 a;have m:=n x (alR k);rw[d,p];rw[if_pos (by simpa using a),aT k,amN]
  by_cases e:x.aB<1
  ·right;exact⟨_,by rw[if_pos (by simpa using e)],by simp[qy,e]⟩
  rw[if_neg (by simpa using e)]
  by_cases f:x.aB>c
  ·right;exact⟨_,by rw[if_pos (by simpa using f)],by simp[qy,f]⟩
  rw[if_neg (by simpa using f),pJ m,amN]
  by_cases b:okF x.cJ=true
  rotate_left
  ·right;exact⟨_,by rw[if_pos (by simpa using b)],by simp[qy,b]⟩
  rw[if_neg (by simp[b]),abf m b,amN]
  by_cases g:x.cJ.bn.al<0
  ·right;exact⟨_,by rw[if_pos (by simpa using g)],by simp[qy,g]⟩
  rw[if_neg (by simpa using g),bg (by omega),wrap64 (by omega) (by omega)];left;refine⟨a,_,rfl,_,rfl,by omega,by omega,?_⟩;simp[qy,e,f,b,g])
 unfold eR;rw[j,d,amN]
 by_cases h:qy 1099511627776 l=true
 ·rw[if_pos h,h];simp;omega
 ·rw[if_neg h];simp[h]
def Ry:∀ {q:List (Int×Rat)} {c:Int},(∀x∈q,1<=x.1∧0<=x.2)->wc q<=c->qy c (gH q)=true
 | [],_,_,_=>rfl
 | x::q,c,h,b=>by
  have g:=h x amH;have a:∀y∈q,1<=y.1∧0<=y.2:=fun y d=>h y (amI _ d);have i:=NP a;simp only[wc]at b;have e:=Ry (q:=q) (c:=c-x.1) a (by omega);have f:¬(bJ x.2).bn.al<0:=by
   have:(bJ x.2).bn.al=x.2.num.sign:=rfl;rw[this,ox];grind
  show qy c (aY.mk x.1 (bJ x.2)::gH q)=true;simp only[qy,BP,e,f];simp;omega
def RU:∀ {l:List aY} {c:Int},0<=c->qy c l=true->∃q,l=gH q∧(∀x∈q,1<=x.1∧0<=x.2)∧wc q<=c
 | [],c,e,_=>⟨[],rfl,by simp,by simpa [wc] using e⟩
 | ⟨a,f⟩::l,c,e,h=>by
  simp only[qy,al0,al1,decide_eq_false_iff_not]at h;obtain⟨⟨⟨⟨n,o⟩,g⟩,i⟩,j⟩:=h;obtain⟨q,rfl,k,p⟩:=RU (c:=c-a) (by omega) j;obtain⟨b,rfl⟩:=ow.1 g;have m:¬b.num.sign<0:=i;rw[ox]at m;refine⟨(a,b)::q,rfl,fun x d =>?_,by simp only[wc];omega⟩;rcases alx.1 d with rfl|d
  ·exact⟨by simp only;omega,by simp only;grind⟩
  ·exact k x d
def afl {q:List (Int×Rat)} {K:Nat} (c:nK q<=K) (d:K<=1000000000000):∀x∈gH q,yk x.cJ:=fun x a=>by
 obtain⟨y,b,rfl⟩:=alp.1 a;have:=Ph b;exact Gi (by unfold eL;omega)
def Ev {q:List (Int×Rat)} (h:Ch q) (a:nK q<=1000000000000):eR (gH q)=some true:=by
 have:=h.len;rw[FF (by rw[mc];omega) (afl a (by omega)),Ry h.one h.tot,mc,decide_eq_true h.len];rfl
def UW (l:List aY):∃b,ly l=some b∧(b=true->l.length<=8∧∀x∈l,x.cJ.bn.aa.length<=4∧x.cJ.bu.aa.length<=4):=by
 have a:(l.take 9).length=min 9 l.length:=alI;have f:=Jr (l.take 9) (fun _ x=>(x.cJ.bn.aa.length:Int)<=4∧(x.cJ.bu.aa.length:Int)<=4) (body:=ky l) (by omega) (fun i x c=>by
  have g:=aU c;rw[a]at g;rw[alS,if_pos (by omega)]at c;simp only[ky];rw[if_pos (by simp;omega),amN,if_pos (by simp;omega),aT c,amN,afb,amN,bg (by omega)]
  by_cases d:(x.cJ.bn.aa.length:Int)<=4∧(x.cJ.bu.aa.length:Int)<=4
  ·rw[decide_eq_true d,if_pos d];rfl
  ·rw[decide_eq_false d,if_neg d];rfl) (by
  simp only[ky]
  by_cases h:9<l.length
  ·rw[if_pos (by rw[a];simp;omega),amN,if_neg (by rw[a];simp;omega)]
  ·rw[if_neg (by rw[a];simp;omega),amN];rfl)
 unfold ly;rcases f with⟨e,h⟩|⟨e,_⟩
 ·rw[e,amN];refine⟨_,rfl,fun j =>?_⟩;have k:=of_decide_eq_true j;refine⟨by omega,fun x c =>?_⟩;obtain⟨i,g⟩:=alL c;have:=h i x (by rw[am4 (by omega)];exact g);omega
 ·rw[e];exact⟨false,rfl,fun h=>by cases h⟩
def Yu:∀ {q:List (Int×Rat)},(∀x∈q,LF x.2<=4)->nK q<=5*q.length
 | [],_=>by simp[nK]
 | x::q,h=>by
  have:=h x amH;have:=Yu (q:=q) fun y a=>h y (amI _ a);simp only[nK,List.length_cons];omega
def Tg {l:List aY} (c:l.length<=8) (h:∀x∈l,x.cJ.bn.aa.length<=4∧x.cJ.bu.aa.length<=4):eR l=some false∨∃q,l=gH q∧Ch q∧nK q<=40:=by
 have d:∀x∈l,yk x.cJ:=fun x a=>by have:=h x a;unfold yk qF;omega
 rw[FF (by omega) d]
 by_cases b:qy 1099511627776 l=true
 rotate_left
 ·left;simp[b]
 right;obtain⟨q,rfl,e,f⟩:=RU (by omega) b;rw[mc]at c;refine⟨q,rfl,⟨e,f,by omega⟩,?_⟩;have:=Yu (q:=q) fun x a=>by
  have:=h _ (alp.2 ⟨x,a,rfl⟩);exact pG this.1 this.2
 omega
def Dm {q:List (Int×Rat)} (h:Ch q) (w:nK q<=100000000000):ig (gH q)=some (wc q,bJ (kh q)):=by
 have l:eL=4398046511104:=rfl;have g:=h.len;have z:=pH;obtain⟨r,m,n⟩:=db (body:=qh (gH q)) (fun i o=>∃(a:Int) (b:Rat),o=(a,(i:Int),uQ b)∧0<=a∧a+wc (q.drop i)=wc q∧b+kh (q.drop i)=kh q∧LF b+nK (q.drop i)<=1+nK q) q.length
  (fun r=>r=(wc q,uQ (kh q))) (s:=(0,0,uQ 0)) ⟨0,0,rfl,by omega,by simp,by simp only[am3];grind,by simp only[am3];omega⟩ (jQ (by omega)) (by
  rintro i _ A ⟨a,b,rfl,B,d,f,j⟩;simp only[qh,uQ];rw[mc]
  by_cases c:i<q.length
  rotate_left
  ·have:i=q.length:=by omega
   subst this;right;rw[List.drop_length]at d f;simp only[wc,kh,Int.add_zero,Rat.add_zero]at d f;rw[d,f];exact⟨_,by rw[if_neg (by simp)],rfl⟩
  obtain⟨x,k,p⟩:=N3 c;left;rw[p]at d f j;simp only[wc,kh,nK]at d f j;have t:=h.one x (alR k);have u:0<=wc (q.drop (i+1)):=NP fun y v=>h.one y (al4 v);have C:=h.tot;have e:dY (ah.mk (aH.mk (bJ b).bn.al (bJ b).bn.aa) (aH.mk (bJ b).bu.al (bJ b).bu.aa)) (bJ x.2)=some (bJ (b+x.2),0):=yA (by omega);have D:=oE b x.2;rw[if_pos (by simpa using c),aT (Im k),amN];simp only;rw[e,amN,bg (by omega),wrap64 (by omega) (by omega)];exact⟨c,_,rfl,_,_,rfl,by omega,by omega,by grind,by omega⟩)
 unfold ig;rw[Ev h (by omega),amN,if_neg (by simp),Ki,amN];erw [m,n];rfl
def acC {b:Rat} (h:LF b<=eL):pk (bJ b)=some (bJ b):=by
 have d:∀ {x:Int},Ln x<=eL->qS (iP x)=some (iP x):=fun {x} h=>by
  unfold qS;rw[DA h,amN,DA (by rw[GF];exact h),amN,Int.neg_neg]
 have a:∀ {c:Rat},LF c<=eL->ug (bJ c)=some (bJ (-c)):=fun {c} h=>by
  have e:=kO c;have f:=oF c;unfold ug;rw[ko h,amN,if_neg (by simp)];show (mB (iP c.num)).bind _=_;rw[DA (by omega),amN];show (qS (iP c.den)).bind _=_;rw[d (by omega),amN];unfold bJ;rw[Rat.neg_num,Rat.neg_den]
 unfold pk;rw[a h,amN,a (by rw[Uj];exact h),amN,Rat.neg_neg]
def Vu {q:List (Int×Rat)} (c:q.length<=2000) (g:nK q<=1000000000000):kG (gH q)=some (gH q):=by
 have d:eL=4398046511104:=rfl;obtain⟨r,e,f⟩:=db (body:=tx (gH q)) (fun i st=>st=((i:Int),gH q)) q.length (fun r=>r=gH q) (s:=(0,gH q)) rfl (jQ (by omega)) (by
  rintro i _ h rfl;simp only[tx];rw[mc]
  by_cases a:i<q.length
  rotate_left
  ·right;exact⟨_,by rw[if_neg (by simp;omega)],rfl⟩
  obtain⟨x,b,j⟩:=N3 a;have:=Ph (alR b);left;rw[if_pos (by simpa using a),aT (Im b),amN];simp only;rw[acC (by omega),amN,bg (by omega),amk,adL (Im b)];exact⟨a,_,rfl,rfl⟩)
 unfold kG;rw[e,f];rfl
def rev_eq {l:List aY} (z:l.length<=2000):dL l=some (l.reverse,()):=by
 obtain⟨r,p,q⟩:=db (body:=kl) (fun i t=>∃m:List aY,t=((i:Int),(l.length:Int)-1-i,m)∧m.length=l.length∧∀j,j<l.length->m[j]? = if j<i∨l.length-i<=j then l[l.length-1-j]? else l[j]?) l.length
  (fun r=>r=l.reverse) (s:=(0,IntKind.i64.wrap ((l.length:Int)-1),l)) ⟨l,by rw[wrap64 (by omega) (by omega)];simp,rfl,fun j e=>by rw[if_neg (by omega)]⟩ (jQ (by omega)) (by
  rintro i _ A ⟨m,rfl,u,e⟩;simp only[kl]
  by_cases g:(i:Int)<(l.length:Int)-1-i
  ·left;have v:(l.length:Int)-1-i=((l.length-1-i:Nat):Int):=by omega
   have h:m[i]? = some (m[i]'(by omega)):=alE _;have f:m[l.length-1-i]? = some (m[l.length-1-i]'(by omega)):=alE _;have w:l[i]? = some (m[i]'(by omega)):=by rw[<- h,e i (by omega),if_neg (by omega)]
   have y:l[l.length-1-i]? = some (m[l.length-1-i]'(by omega)):=by rw[<- f,e _ (by omega),if_neg (by omega)]
   generalize m[i]'(by omega)=a at *;generalize m[l.length-1-i]'(by omega)=b at *;rw[if_pos (by simpa using g),v,aT f,amN,aT h,amN,amk,amk,aT (x:=b) (by rw[anU];split<;>first|rfl|(rw[if_pos (by omega)])|exact f),amN,bg (by omega),wrap64 (by omega) (by omega)];refine⟨by omega,_,rfl,_,by congr 2;omega,by simp[u],fun j d =>?_⟩;rw[anU,anU]
   by_cases k:l.length-1-i=j
   ·subst k;rw[if_pos rfl,if_pos (by simp;omega),if_pos (by omega),show l.length-1-(l.length-1-i)=i by omega,w]
   rw[if_neg k]
   by_cases n:i=j
   ·subst n;rw[if_pos rfl,if_pos (by omega),if_pos (by omega),y]
   rw[if_neg n,e j d]
   by_cases o:j<i∨l.length-i<=j
   ·rw[if_pos o,if_pos (by omega)]
   ·rw[if_neg o,if_neg (by omega)]
  ·right;rw[if_neg (by simpa using g)];refine⟨_,rfl,anp fun j =>?_⟩
   by_cases d:j<l.length
   ·rw[e j d,List.getElem?_reverse d]
    by_cases c:j<i∨l.length-i<=j
    ·rw[if_pos c]
    ·rw[if_neg c,show l.length-1-j=j by omega]
   ·rw[anL (by omega),anL (by simp;omega)])
 unfold dL oS;rw[p,q,amN,amN,if_pos (by simp)]
def Lj {l:List aY} (h:l.length<=1000):dG l=some l:=by
 unfold dG;rw[GR (by omega) (by simpa using h),amU]
def Wl {a b:Int} (c:0<=a∧a<=1099511627776) (d:1<=b∧b<=1099511627776):LF (Rat.divInt a b)<=3:=by
 have h:=tD (p:=a) (q:=b) (by omega);have e:=kO (a:Rat);have f:=kO (b:Rat);have g:=age c.1 c.2;have i:=age (n:=b) (by omega) d.2;rw[Rat.num_intCast]at e f;omega
def Zv {q:List (Int×Rat)} {n:Int} (C:Ch q) (V:nK q<=1000000) (G:1<=n∧n<=wc q) :
  ∃q' g,aR kc (n,gH q,uQ 0)=some (gH q',uQ g)∧Ch q'∧kh q=kh q'+g∧LF g<=nK q+5∧nK q'<=nK q+4:=by
 have H:eL=4398046511104:=rfl;have W:=pH;have D:=C.len;obtain⟨r,I,q',g,rfl,J⟩:=db (body:=kc) (fun i K=>∃(k:Int) (q':List (Int×Rat)) (g:Rat),K=(k,gH q',uQ g)∧Ch q'∧0<=k∧k<=wc q'∧kh q=kh q'+g∧LF g<=nK q+5∧nK q'<=nK q+4∧(0<k->q'.length+i=q.length∧LF g+nK q'<=1+nK q)) (q.length+1)
  (fun r=>∃q' g,r=(gH q',uQ g)∧Ch q'∧kh q=kh q'+g∧LF g<=nK q+5∧nK q'<=nK q+4) (s:=(n,gH q,uQ 0)) ⟨n,q,0,rfl,C,by omega,G.2,by grind,by omega,by omega,fun _=>⟨by omega,by omega⟩⟩ (jQ (by omega)) (by
  rintro i _ X ⟨k,q',g,rfl,c,Y,l,t,L,u,m⟩;simp only[kc,uQ]
  by_cases w:0<k
  rotate_left
  ·right;exact⟨_,by rw[if_neg (by simpa using w)],q',g,rfl,c,t,L,u⟩
  left;obtain⟨m,y⟩:=m w
  match q',c,l,t,u,m,y with
  | [],_,l,_,_,_,_=>simp only[wc]at l;omega
  | (a,b)::q',c,l,t,u,m,y =>
  simp only[List.length_cons]at m;have E:=c.one _ amH;have M:=c.tot;have z:=c.tail;have N:=NP z.one;simp only[wc]at M l;simp only[kh]at t;simp only[nK]at u y;simp only at E;have o:i<q.length+1:=by omega
  have p:∀f:aY,P.idx (f::gH q') 0=some f:=fun f=>aT (i:=0) (by simp);have O:gH ((a,b)::q')=aY.mk a (bJ b)::gH q':=rfl;have v:∀f F:aY,(f::gH q').set (0:Int).toNat F=F::gH q':=fun _ _=>rfl;rw[if_pos (by simpa using w),O,p,amN];simp only;have d : -9223372036854775808<=a∧a<9223372036854775808:=by omega
  have Z:=sA b
  by_cases hc:a<=k
  ·have A:(if a<k then a else k)=a:=by split<;>omega
   have B:pQ a a=some (bJ 1,0):=by
    rw[aeJ d d (by omega),anX,anH,Rat.mul_inv_cancel]
    exact_mod_cast show a≠0 by omega
   have Q:=GD;have e:dY (ah.mk (aH.mk (bJ g).bn.al (bJ g).bn.aa) (aH.mk (bJ g).bu.al (bJ g).bu.aa)) (bJ b)=some (bJ (g+b),0):=yA (by omega);have R:=oE g b;rw[A,B,amN];simp only;rw[KJ (by omega),amN,Rat.mul_one];simp only;rw[e,amN,Wv (by omega),amN];simp only;rw[v,p,amN];simp only;rw[v,p,amN,Int.sub_self,wrap64 (by omega) (by omega),wrap64 (by omega) (by omega)];simp only;rw[if_pos (by rfl),TE,amN];exact⟨o,_,rfl,_,q',_,rfl,z,by omega,by omega,by grind,by omega,by omega,fun _=>by omega⟩
  ·have A:(if a<k then a else k)=k:=by split<;>omega
   have S:(a:Rat)≠0:=by exact_mod_cast show a≠0 by omega
   have B:pQ k a=some (bJ (Rat.divInt k a),0):=aeJ (by omega) d (by omega);have Q:=Wl (a:=k) (b:=a) (by omega) (by omega);have m2:=Wl (a:=a-k) (b:=a) (by omega) (by omega);have T:b-b*Rat.divInt k a=b*Rat.divInt (a-k) a:=by
    rw[anX,anX,Rat.intCast_sub];grind
   have R:=sA b (Rat.divInt k a);have l3:=sA b (Rat.divInt (a-k) a);have U:0<=b*Rat.divInt (a-k) a:=by
    apply anQ E.2;rw[anX,anH];refine anQ (by exact_mod_cast show 0<=a-k by omega) (Rat.le_of_lt (Rat.inv_pos.2 (by exact_mod_cast show 0<a by omega)))
   have e:dY (ah.mk (aH.mk (bJ g).bn.al (bJ g).bn.aa) (aH.mk (bJ g).bu.al (bJ g).bu.aa)) (bJ (b*Rat.divInt k a))=some (bJ (g+b*Rat.divInt k a),0):=yA (by omega);have l4:=oE g (b*Rat.divInt k a);rw[A,B,amN];simp only;rw[KJ (by omega),amN];simp only;rw[e,amN,Wv (by omega),amN];simp only;rw[v,p,amN];simp only;rw[v,p,amN,Int.sub_self,wrap64 (by omega) (by omega),wrap64 (by omega) (by omega),T];simp only;rw[if_neg (by simp;omega)];refine⟨o,_,rfl,0,(a-k,b*Rat.divInt (a-k) a)::q',_,rfl,⟨fun x j =>?_,by simp only[wc];omega,by have:=c.len;simpa using this⟩,by omega,by simp only[wc];omega,by simp only[kh];grind,by omega,by simp only[nK];omega,fun h=>by omega⟩;rcases alx.1 j with rfl|j
   ·exact⟨by simp only;omega,U⟩
   ·exact z.one x j)
 exact⟨q',g,I,J⟩
def ae3 {q : List (Int × Rat)} (m : Ch q) (O : nK q <= 100000) (o k : Int) : (∃ r f e, kX (gH q) o k = some (r, f, e) ∧ e ≠ 0) ∨ ∃ a g, kX (gH q) o k = some (gH a, bJ g, 0) ∧ Ch a ∧ kh q = kh a + g ∧ LF g <= nK q + 7 ∧ nK a <= nK q + 6 := by
  have D := m.len;unfold kX;rw [Ev m (by omega), amN, if_neg (by simp)]
  by_cases E : o < 0
  · exact .inl ⟨_, _, 1, by rw [if_pos (by simpa using E), amN, if_pos rfl], by decide⟩
  rw [if_neg (by simpa using E), amN]
  by_cases F : o >= 3
  · exact .inl ⟨_, _, 1, by rw [if_pos (by simpa using F)], by decide⟩
  rw [if_neg (by simpa using F)]
  by_cases G : k < 1
  · exact .inl ⟨_, _, 3, by rw [if_pos (by simpa using G), amN, if_pos rfl], by decide⟩
  rw [if_neg (by simpa using G), amN]
  by_cases H : k > 1099511627776
  · exact .inl ⟨_, _, 3, by rw [if_pos (by simpa using H)], by decide⟩
  rw [if_neg (by simpa using H), Dm m (by omega), amN];simp only
  by_cases I : k > wc q
  · exact .inl ⟨_, _, 25, by rw [if_pos (by simpa using I)], by decide⟩
  rw [if_neg (by simpa using I), Lj (by rw [mc]; omega), amN];have key : ∀ i : List (Int × Rat), Ch i -> nK i <= nK q + 2 -> wc i = wc q -> kh i = kh q -> ∃ a g, aR kc (k, gH i, uQ 0) = some (gH a, uQ g) ∧ Ch a ∧ kh q = kh a + g ∧ LF g <= nK q + 7 ∧ nK a <= nK q + 6 := fun i w J K y => by
    obtain ⟨a, g, s, p, t, u, v⟩ := Zv (n := k) w (by omega) (by omega);exact ⟨a, g, s, p, by rw [<- y, t], by omega, by omega⟩
  right
  by_cases z : o = 1
  · subst z
    obtain ⟨a, g, s, p, t, u, v⟩ := key q.reverse m.rev (by rw [Gu]; omega) (NQ q) (NR q);have := p.len;rw [if_pos (by rfl), rev_eq (by rw [mc]; omega), amN, amN, Ki, amN];simp only;rw [RS];erw [s];rw [amN];simp only [uQ];rw [if_pos (by rfl), rev_eq (by rw [mc]; omega), amN];simp only;rw [RS, Vu (by rw [List.length_reverse]; omega) (by rw [Gu]; omega), amN];exact ⟨a.reverse, g, rfl, p.rev, by rw [NR]; exact t, u, by rw [Gu]; exact v⟩
  rw [if_neg (by simpa using z)];have L : ∀ i : List (Int × Rat), Ch i -> nK i <= nK q + 2 -> wc i = wc q -> kh i = kh q -> ∃ a g, ((fb 0).bind fun j => (aR (kc) (k, gH i, j.bn.al, j.bn.aa, j.bu.al, j.bu.aa)).bind fun q => match q with
        | (l, b, c, d, h) =>
          if (o == 1) then
            (dL l).bind fun A =>
            (kG A.1).bind fun B =>
            some (B, (ah.mk (aH.mk b c) (aH.mk d h)), 0)
          else
            (kG l).bind fun C =>
            some (C, (ah.mk (aH.mk b c) (aH.mk d h)), (0 : Int))) = some (gH a, bJ g, 0) ∧ Ch a ∧ kh q = kh a + g ∧ LF g <= nK q + 7 ∧ nK a <= nK q + 6 := fun i w J K y => by
    obtain ⟨a, g, s, p, t, u, v⟩ := key i w J K y;have := p.len;refine ⟨a, g, ?_, p, t, u, v⟩;rw [Ki, amN];erw [s];rw [amN];simp only [uQ];rw [if_neg (by simpa using z), Vu (by omega) (by omega), amN]
  by_cases M : o = 2
  · rw [if_pos (by simpa using M), amN]
    have := NS q;exact L [(wc q, kh q)] ⟨fun x N => by rw [alM.1 N]; exact ⟨by simp only; omega, ahe m.one⟩, by simp only [wc]; have := m.tot; omega, by simp⟩ (by simp only [nK]; omega) (by simp [wc]) (by simp only [kh]; grind)
  · rw [if_neg (by simpa using M), amN]
    exact L q m (by omega) rfl rfl
def put_eq {q:List (Int×Rat)} (b:Ch q) (m:nK q<=90000000000) (a:Int) {x:Rat} (n:LF x<=90000000000):(∃r e,ng (gH q) a (bJ x)=some (r,e)∧e≠0)∨ng (gH q) a (bJ x)=some (gH (q++[(a,x)]),0)∧Ch (q++[(a,x)]):=by
 have j:eL=4398046511104:=rfl;have d:=b.len;have o:=b.tot;have k:=NP b.one;unfold ng;rw[Ev b (by omega),amN,if_neg (by simp),ko (by omega),amN,amN,if_neg (by simp)]
 by_cases f:a<1
 ·exact .inl ⟨_,3,by rw[if_pos (by simpa using f),amN,if_pos rfl],by decide⟩
 rw[if_neg (by simpa using f)]
 by_cases g:a>1099511627776
 ·exact .inl ⟨_,3,by rw[if_pos (by simpa using g),amN,if_pos rfl],by decide⟩
 rw[if_neg (by simpa using g),yE (by omega),amN,amN]
 by_cases h:x<0
 ·exact .inl ⟨_,3,by rw[if_pos (by simpa using ox.2 h)],by decide⟩
 rw[if_neg (by rw[decide_eq_true_eq,ox];exact h),Dm b (by omega),amN];simp only;rw[mc]
 by_cases l:q.length=200
 ·exact .inl ⟨_,6,by rw[if_pos (by simp[l]),amN,if_pos rfl],by decide⟩
 rw[if_neg (by simp;omega),amN,wrap64 (by omega) (by omega)]
 by_cases i:a>1099511627776-wc q
 ·exact .inl ⟨_,6,by rw[if_pos (by simpa using i)],by decide⟩
 have e:gH q++[aY.mk a (bJ x)]=gH (q++[(a,x)]):=by simp[gH]
 rw[if_neg (by simpa using i),Lj (by rw[mc];omega),amN,GR (by omega) (by rw[mc];simp;omega),amN,e,Vu (by simp;omega) (by simp only[xP,nK];omega),amN];refine .inr ⟨rfl,fun y c =>?_,by simp only[Bc,wc];omega,by simp;omega⟩;rcases amG.1 c with c|c
 ·exact b.one y c
 ·rw[alM.1 c];exact⟨by simp only;omega,by simp only;grind⟩
def aci {l:List aY} (h:eR l=some false) (a b:Int):∃r f,kX l a b=some (r,f,1):=by
 unfold kX;rw[h,amN,if_pos (by rfl),amN,if_pos rfl];exact⟨_,_,rfl⟩
def afH {l:List aY} (h:eR l=some false) (a:Int) (b:ah):∃r,ng l a b=some (r,1):=by
 unfold ng;rw[h,amN,if_pos (by rfl),amN,if_pos rfl];exact⟨_,rfl⟩
def Nx {l:List aY} (h:eR l=some false):ig l=some (0,zF):=by
 unfold ig;rw[h,amN,if_pos (by rfl)]
def Ci {a b:ah} (c:yk a) (d:yk b) (h:okF a=false∨okF b=false):dY a b=some (zF,1):=by
 unfold dY;rw[pJ c,amN];cases e:okF a with
 | false=>rfl
 | true =>
  rw[e]at h;rw[if_neg (by simp),pJ d,amN,amN];rcases h with h|h
  ·cases h
  ·rw[h,if_pos (by rfl)]
def X0:okF zF=false:=by decide
def Of:yk zF:=by unfold yk qF;simp
def aaD {f:dR} (R:rL f) {p2:Int} {p:List ah} (S:∀x∈p,x.bn.aa.length<=3∧x.bu.aa.length<=3) {q:List (Int×Rat)} (T:Ch q) (Z:nK q<=40) :
  aR (dr f p2 p true) (gH q,0,(bJ (kh q)).bn.al,(bJ (kh q)).bn.aa,(bJ (kh q)).bu.al,(bJ (kh q)).bu.aa,[])=some (.inr true) ∨
  ∃(a:List (Int×Rat)) (B:ah) (c:List ah),aR (dr f p2 p true) (gH q,0,(bJ (kh q)).bn.al,(bJ (kh q)).bn.aa,(bJ (kh q)).bu.al,(bJ (kh q)).bu.aa,[])=some (.inl (gH a,B.bn.al,B.bn.aa,B.bu.al,B.bu.aa,c))∧Ch a∧nK a<=100∧(∀x∈c,x.bn.aa.length<=100∧x.bu.aa.length<=100) ∧
   ((∃x∈c,okF x=false)∨∃b:List Rat,c=b.map bJ∧B=bJ (kh a+aW b id)∧LF (kh a+aW b id)<=10000):=by
 have U:eL=4398046511104:=rfl;have hn:=R.srcs;have h0:=pH;obtain⟨r,N,H⟩:=db (body:=dr f p2 p true) (fun i V=>∃(a:List (Int×Rat)) (B:ah) (c:List ah),V=(gH a,(i:Int),B.bn.al,B.bn.aa,B.bu.al,B.bu.aa,c)∧Ch a∧nK a<=40+8*i∧c.length=i∧(∀x∈c,x.bn.aa.length<=100∧x.bu.aa.length<=100) ∧
   ((B=zF∧∃x∈c,okF x=false)∨∃b:List Rat,c=b.map bJ∧B=bJ (kh a+aW b id)∧LF (kh a+aW b id)<=100+100*i)) f.aq.length
  (fun r=>r=.inr true∨∃(a:List (Int×Rat)) (B:ah) (c:List ah),r=.inl (gH a,B.bn.al,B.bn.aa,B.bu.al,B.bu.aa,c)∧Ch a∧nK a<=100∧(∀x∈c,x.bn.aa.length<=100∧x.bu.aa.length<=100) ∧
   ((∃x∈c,okF x=false)∨∃b:List Rat,c=b.map bJ∧B=bJ (kh a+aW b id)∧LF (kh a+aW b id)<=10000)) (s:=(gH q,0,(bJ (kh q)).bn.al,(bJ (kh q)).bn.aa,(bJ (kh q)).bu.al,(bJ (kh q)).bu.aa,[]))
  ⟨q,bJ (kh q),[],rfl,T,by omega,rfl,by simp,.inr ⟨[],rfl,by simp only[aW];rw[Rat.add_zero],by simp only[aW];rw[Rat.add_zero];have:=NS q;omega⟩⟩ (jQ (by omega)) (by
  rintro i _ hi ⟨a,B,c,rfl,A,g2,E,C,t⟩;simp only[dr]
  by_cases j:i<f.aq.length
  rotate_left
  ·right;refine⟨_,by rw[if_neg (by simpa using j)],.inr ⟨a,B,c,rfl,A,by omega,C,?_⟩⟩;rcases t with⟨_,t⟩|⟨b,m,l,F⟩
   ·exact .inl t
   ·exact .inr ⟨b,m,l,by omega⟩
  have O:f.aq[i]? = some f.aq[i]:=alE j;generalize f.aq[i]=y at O;rw[if_pos (by simpa using j),Ki,amN,aT O,amN,bg (by omega)]
  by_cases P:y.a8=2
  ·rw[if_pos (by simpa using P)];rcases ae3 A (by omega) p2 y.aB with⟨r,u,e,I,J⟩|⟨Q,g,I,J,e3,e4,e5⟩
   ·right;rw[I,amN];exact⟨_,by rw[if_pos (by simpa using J)],.inl rfl⟩
   ·left;rw[I,amN];simp only;rw[if_neg (by simp),GR (by omega) (by simp;omega),amN];have K:=xl (show LF g<=100 by omega);refine⟨j,_,rfl,Q,B,c++[bJ g],rfl,J,by omega,by simp[E],fun x k =>?_,?_⟩
    ·rcases amG.1 k with k|k
     ·exact C x k
     ·rw[alM.1 k];exact K
    rcases t with⟨o,x,m,l⟩|⟨b,m,l,F⟩
    ·exact .inl ⟨o,x,alF _ m,l⟩
    ·have e:kh a+aW b id=kh Q+aW (b++[g]) id:=by
      rw[jV];simp only[aW,id];grind
     exact .inr ⟨b++[g],by rw[m];simp,by rw[l,e],by rw[<- e];omega⟩
  rw[if_neg (by simpa using P)]
  by_cases G:i<p.length
  ·have k:p[i]? = some p[i]:=alE G;generalize p[i]=x at k;have D:=S x (alR k);have w:yk x:=by unfold yk qF;omega
   left;rw[if_pos (by simpa using G),aT k,amN]
   by_cases d:B=zF∧(∃x∈c,okF x=false)∨okF x=false
   ·have L:dY (ah.mk (aH.mk B.bn.al B.bn.aa) (aH.mk B.bu.al B.bu.aa)) x=some (zF,1):=by
     rcases t with⟨o,_⟩|⟨b,m,l,F⟩
     ·subst o;exact Ci Of w (.inl X0)
     ·rcases d with⟨o,_⟩|M
      ·subst o;exact Ci Of w (.inl X0)
      ·exact Ci (show yk B by rw[l];exact Gi (by omega)) w (.inr M)
    rw[L,amN,GR (by omega) (by simp;omega),amN];refine⟨j,_,rfl,a,zF,c++[x],rfl,A,by omega,by simp[E],fun z n =>?_,.inl ⟨rfl,?_⟩⟩
    ·rcases amG.1 n with n|n
     ·exact C z n
     ·rw[alM.1 n];omega
    ·rcases d with⟨_,z,W,X⟩|M
     ·exact⟨z,alF _ W,X⟩
     ·exact⟨x,by simp,M⟩
   ·have Y:okF x=true:=by
     cases h:okF x with
     | true=>rfl
     | false=>exact absurd (.inr h) d
    obtain⟨v,rfl⟩:=ow.1 Y;rcases t with o|⟨b,m,l,F⟩
    ·exact absurd (.inl o) d
    have hv:=pG D.1 D.2;have L:dY (ah.mk (aH.mk B.bn.al B.bn.aa) (aH.mk B.bu.al B.bu.aa)) (bJ v)=some (bJ (kh a+aW b id+v),0):=by
     subst l;exact yA (by omega)
    have G:=oE (kh a+aW b id) v;have e:kh a+aW b id+v=kh a+aW (b++[v]) id:=by
     rw[jV];simp only[aW,id];grind
    rw[L,amN,GR (by omega) (by simp;omega),amN];refine⟨j,_,rfl,a,bJ (kh a+aW b id+v),c++[bJ v],rfl,A,by omega,by simp[E],fun z n =>?_,.inr ⟨b++[v],by rw[m];simp,by rw[e],by rw[<- e];omega⟩⟩;rcases amG.1 n with n|n
    ·exact C z n
    ·rw[alM.1 n];omega
  ·left;rw[if_neg (by simpa using G),GR (by omega) (by simp;omega),amN];have K:=xl (show LF 0<=100 by omega);refine⟨j,_,rfl,a,B,c++[bJ 0],rfl,A,by omega,by simp[E],fun x k =>?_,?_⟩
   ·rcases amG.1 k with k|k
    ·exact C x k
    ·rw[alM.1 k];exact K
   rcases t with⟨o,x,m,l⟩|⟨b,m,l,F⟩
   ·exact .inl ⟨o,x,alF _ m,l⟩
   ·have e:kh a+aW b id=kh a+aW (b++[0]) id:=by
     rw[jV];simp only[aW,id];grind
    exact .inr ⟨b++[0],by rw[m];simp,by rw[l,e],by rw[<- e];omega⟩)
 rcases H with rfl|⟨a,B,c,rfl,H⟩
 ·exact .inl N
 ·exact .inr ⟨a,B,c,N,H⟩
def VN {f:dR} (t:rL f) {p2:Int} {d:List ah} (v:∀x∈d,x.bn.aa.length<=3∧x.bu.aa.length<=3) {l:List aY} (g:eR l=some false) :
  aR (dr f p2 d true) (l,0,0,[],0,[],[])=some (.inr true) ∨
  ∃a:List ah,aR (dr f p2 d true) (l,0,0,[],0,[],[])=some (.inl (l,0,[],0,[],a))∧(∀x∈a,x.bn.aa.length<=100∧x.bu.aa.length<=100):=by
 have C:=t.srcs;have D:=pH;obtain⟨r,n,h⟩:=db (body:=dr f p2 d true) (fun i w=>∃a:List ah,w=(l,(i:Int),0,[],0,[],a)∧a.length=i∧(∀x∈a,x.bn.aa.length<=100∧x.bu.aa.length<=100)) f.aq.length
  (fun r=>r=.inr true∨∃a:List ah,r=.inl (l,0,[],0,[],a)∧(∀x∈a,x.bn.aa.length<=100∧x.bu.aa.length<=100)) (s:=(l,0,0,[],0,[],[]))
  ⟨[],rfl,rfl,by simp⟩ (jQ (by omega)) (by
  rintro i _ E ⟨a,rfl,o,j⟩;simp only[dr]
  by_cases b:i<f.aq.length
  rotate_left
  ·right;exact⟨_,by rw[if_neg (by simpa using b)],.inr ⟨a,rfl,j⟩⟩
  have p:f.aq[i]? = some f.aq[i]:=alE b;generalize f.aq[i]=y at p;rw[if_pos (by simpa using b),Ki,amN,aT p,amN,bg (by omega)]
  by_cases q:y.a8=2
  ·right;obtain⟨r,u,e⟩:=aci g p2 y.aB;rw[if_pos (by simpa using q),e,amN];exact⟨_,rfl,.inl rfl⟩
  rw[if_neg (by simpa using q)];left
  by_cases g:i<d.length
  ·have k:d[i]? = some d[i]:=alE g;generalize d[i]=x at k;have A:=v x (alR k);have m:yk x:=by unfold yk qF;omega
   rw[if_pos (by simpa using g),aT k,amN,Ci Of m (.inl X0),amN,GR (by omega) (by simp;omega),amN];refine⟨b,_,rfl,a++[x],rfl,by simp[o],fun z c =>?_⟩;rcases amG.1 c with c|c
   ·exact j z c
   ·rw[alM.1 c];omega
  ·rw[if_neg (by simpa using g),GR (by omega) (by simp;omega),amN];have B:=xl (show LF 0<=100 by omega);refine⟨b,_,rfl,a++[bJ 0],rfl,by simp[o],fun z c =>?_⟩;rcases amG.1 c with c|c
   ·exact j z c
   ·rw[alM.1 c];exact B)
 rcases h with rfl|⟨a,rfl,h⟩
 ·exact .inl n
 ·exact .inr ⟨a,n,h⟩
def W1 (f:dR):bf:=bf.mk [] [bo.mk f [] []]
section
variable {f:dR} {S:List (List ah)} {s:Nat->Nat->Rat} {x:Nat->Rat} {r:Nat->Int}
def ady (d:po (W1 f)) (c:vC (W1 f) S s x r) {k:Nat} {y:sC} (e:f.aG[k]? = some y):yb (W1 f) s x 0 k=iE (W1 f) s x 0 k∧0<=iE (W1 f) s x 0 k∧LF (iE (W1 f) s x 0 k)<=5000000126:=by
 have b:(W1 f).au[0]? = some (bo.mk f [] []):=rfl;have a:(bo.mk f [] []).av.aG[k]? = some y:=e;refine⟨?_,ahL d c b a⟩;have el:yb (W1 f) s x 0 k=if y.a8=0 then 0 else iE (W1 f) s x 0 k:=by
  unfold yb;rw[b,Option.elim_some,a,Option.elim_some]
 rw[el,if_neg];intro g;obtain⟨j,_,h⟩:=H9 ((Fs c.err).fit _ (alR b)) a g;simp at h
def ahf {A b c x:Rat} (h:A+b=c):A+(x+0)+b=c+x:=by grind
def aeR {A b c x:Rat} (h:A+b=c):A+(b+x)=c+x:=by grind
def VO (t:po (W1 f)) (w:vC (W1 f) S s x r) {q:List (Int×Rat)} (A:Ch q) (G:nK q<=100) {g:List ah} {e:Int} :
  aR (dt f true (p7 (W1 f) s x (W1 f).au.length,g,e)) (gH q,0,uQ 0)=some (.inr true)∨∃a b,aR (dt f true (p7 (W1 f) s x (W1 f).au.length,g,e)) (gH q,0,uQ 0)=some (.inl (gH a,uQ b))∧Ch a∧nK a<=30000000000∧LF b<=30000000000∧kh a+b=kh q+aW (List.range f.aG.length) (yb (W1 f) s x 0):=by
 have B:eL=4398046511104:=rfl;have H:=pH;have C:=(t.mill (bo.mk f [] []) (by simp[W1])).1.outs;simp only at C;obtain⟨z,v,d⟩:=db (body:=dt f true (p7 (W1 f) s x (W1 f).au.length,g,e)) (fun k D=>∃a b,D=(gH a,(k:Int),uQ b)∧Ch a∧nK a<=100+5000000200*k∧LF b<=1+5000000200*k∧kh a+b=kh q+aW (List.range k) (yb (W1 f) s x 0)) f.aG.length
  (fun z=>z=.inr true∨∃a b,z=.inl (gH a,uQ b)∧Ch a∧nK a<=30000000000∧LF b<=30000000000∧kh a+b=kh q+aW (List.range f.aG.length) (yb (W1 f) s x 0)) (s:=(gH q,0,uQ 0)) ⟨q,0,rfl,A,by omega,by omega,by simp only[List.range_zero,aW]⟩ (jQ (by omega)) (by
  rintro k _ h ⟨a,b,rfl,j,I,J,l⟩;simp only[dt,uQ]
  by_cases c:k<f.aG.length
  rotate_left
  ·have:k=f.aG.length:=by omega
   subst this;right;exact⟨_,by rw[if_neg (by simp)],.inr ⟨a,b,rfl,j,by omega,by omega,l⟩⟩
  have m:f.aG[k]? = some f.aG[k]:=alE c;generalize f.aG[k]=y at m;obtain⟨E,K,L⟩:=ady t w m;have F:(p7 (W1 f) s x (W1 f).au.length)[0]? = some (dn f.aG.length (iE (W1 f) s x 0)):=dJ _ (show 0<1 by omega);have n:P.idx (p7 (W1 f) s x (W1 f).au.length) 0=some (dn f.aG.length (iE (W1 f) s x 0)):=aT (i:=0) F;rw[if_pos (by simpa using c),aT m,amN,n,amN,amN,aT (mL _ c),amN,amN,bg (by omega),Nt,E]
  by_cases h:y.a8=1
  ·rw[if_neg (by simp[h])];rcases put_eq j (by omega) y.aB (x:=iE (W1 f) s x 0 k) (by omega) with⟨u,e,o,p⟩|⟨o,p⟩
   ·right;rw[o,amN];exact⟨_,by rw[if_pos (by simpa using p)],.inl rfl⟩
   ·left;rw[o,amN];simp only;rw[if_neg (by simp)];exact⟨c,_,rfl,_,b,rfl,p,by simp only[xP,nK];omega,by omega,by simp only[Be,kh];rw[<- Rat.add_assoc (kh q)];exact ahf l⟩
  ·left;have e:dY (ah.mk (aH.mk (bJ b).bn.al (bJ b).bn.aa) (aH.mk (bJ b).bu.al (bJ b).bu.aa)) (bJ (iE (W1 f) s x 0 k))=some (bJ (b+iE (W1 f) s x 0 k),0):=yA (by omega);have M:=oE b (iE (W1 f) s x 0 k);rw[if_pos (by simpa using h),e,amN];exact⟨c,_,rfl,a,_,rfl,j,by omega,by omega,by rw[<- Rat.add_assoc (kh q)];exact aeR l⟩)
 rcases d with rfl|⟨a,b,rfl,d⟩
 ·exact .inl v
 ·exact .inr ⟨a,b,v,d⟩
def Jz (m:po (W1 f)) (o:vC (W1 f) S s x r) {l:List aY} (p:eR l=some false) {g:List ah} {e:Int} :
  aR (dt f true (p7 (W1 f) s x (W1 f).au.length,g,e)) (l,0,uQ 0)=some (.inr true)∨∃b,aR (dt f true (p7 (W1 f) s x (W1 f).au.length,g,e)) (l,0,uQ 0)=some (.inl (l,uQ b))∧LF b<=30000000000:=by
 have q:eL=4398046511104:=rfl;have A:=pH;have t:=(m.mill (bo.mk f [] []) (by simp[W1])).1.outs;simp only at t;obtain⟨z,n,c⟩:=db (body:=dt f true (p7 (W1 f) s x (W1 f).au.length,g,e)) (fun k v=>∃b,v=(l,(k:Int),uQ b)∧LF b<=1+5000000200*k) f.aG.length
  (fun z=>z=.inr true∨∃b,z=.inl (l,uQ b)∧LF b<=30000000000) (s:=(l,0,uQ 0)) ⟨0,rfl,by omega⟩ (jQ (by omega)) (by
  rintro k _ d ⟨b,rfl,B⟩;simp only[dt,uQ]
  by_cases a:k<f.aG.length
  rotate_left
  ·right;exact⟨_,by rw[if_neg (by simpa using a)],.inr ⟨b,rfl,by omega⟩⟩
  have h:f.aG[k]? = some f.aG[k]:=alE a;generalize f.aG[k]=y at h;obtain⟨C,D,E⟩:=ady m o h;have w:(p7 (W1 f) s x (W1 f).au.length)[0]? = some (dn f.aG.length (iE (W1 f) s x 0)):=dJ _ (show 0<1 by omega);have j:P.idx (p7 (W1 f) s x (W1 f).au.length) 0=some (dn f.aG.length (iE (W1 f) s x 0)):=aT (i:=0) w;rw[if_pos (by simpa using a),aT h,amN,j,amN,amN,aT (mL _ a),amN,amN,bg (by omega)]
  by_cases d:y.a8=1
  ·right;obtain⟨u,e⟩:=afH p y.aB (bJ (iE (W1 f) s x 0 k));rw[if_neg (by simp[d]),e,amN];exact⟨_,rfl,.inl rfl⟩
  ·left;have e:dY (ah.mk (aH.mk (bJ b).bn.al (bJ b).bn.aa) (aH.mk (bJ b).bu.al (bJ b).bu.aa)) (bJ (iE (W1 f) s x 0 k))=some (bJ (b+iE (W1 f) s x 0 k),0):=yA (by omega);have F:=oE b (iE (W1 f) s x 0 k);rw[if_pos (by simpa using d),e,amN];exact⟨a,_,rfl,_,rfl,by omega⟩)
 rcases c with rfl|⟨b,rfl,c⟩
 ·exact .inl n
 ·exact .inr ⟨b,n,c⟩
end
def JA (g:Nat->Rat):∀l:List Nat,aW (l.map g) id=aW l g
 | []=>rfl
 | a::l=>by simp only[alw,aW,id,JA g l]
def Gz (f:dR) (M:List aY) (C:Int) (D:List ah):iB f M C D=some true:=by
 have Y:eL=4398046511104:=rfl;obtain⟨b,Z,e2⟩:=ZC f;obtain⟨c,f1,f2⟩:=UW M;obtain⟨d,g1,g2⟩:=aiQ [D];unfold iB;rw[ahT,amN,Z,amN];cases b with
 | false=>rfl
 | true =>
 rw[if_neg (by simp),f1,amN];cases c with
 | false=>rfl
 | true =>
 rw[if_neg (by simp),g1,amN,amN];cases d with
 | false=>rfl
 | true =>
 rw[if_neg (by simp)];have E:=e2 rfl;obtain⟨hl,F⟩:=f2 rfl;have N:=((g2 rfl).row D (by simp)).2;have u:po (W1 f):=⟨by simp[W1],by simp[W1],fun m hm=>by
  rw[alM.1 (show m∈[bo.mk f [] []] from hm)];exact⟨E,by simp,by simp⟩⟩
 have O:∀j:List ah,(∀x∈j,x.bn.aa.length<=100∧x.bu.aa.length<=100)->SzA 100 [j]:=fun j h r hr x Q=>by
  rw[alM.1 hr]at Q;exact h x Q
 have R:∀s x,(p7 (W1 f) s x (W1 f).au.length).length=1:=fun s x=>by unfold p7;simp[W1]
 have T:∀s x,P.idx (p7 (W1 f) s x (W1 f).au.length) 0=some (dn f.aG.length (iE (W1 f) s x 0)):=fun s x=>aT (i:=0) (dJ _ (show 0<1 by omega));rcases Tg hl F with k|⟨q,rfl,U,hs⟩
 ·rw[Nx k,amN];simp only;rcases VN E N k (p2:=C) with h|⟨j,h,G⟩
  ·rw[h];rfl
  rw[h,amN];simp only;rcases EZ u (S:=[j]) (O j G) with⟨e,v,H,_⟩|⟨s,x,r,o⟩
  ·show (dW (W1 f) [j]).bind _=_;rw[v,amN];simp only;rw[if_pos (by simpa using H)]
  show (dW (W1 f) [j]).bind _=_;rw[o.out,amN];simp only;rw[if_neg (by simp),R,if_neg (by simp),T,amN,jG,amN,if_neg (by simp),Ki,amN];rcases Jz u o k (g:=dn (W1 f).aw.length x) (e:=0) with h|⟨b,h,hb⟩
  ·simp only[uQ]at h;rw[h];rfl
  simp only[uQ]at h;rw[h,amN];simp only;rw[Nx k,amN];simp only;have e:dY zF (ah.mk (aH.mk (bJ b).bn.al (bJ b).bn.aa) (aH.mk (bJ b).bu.al (bJ b).bu.aa))=some (zF,1):=Ci Of (Gi (q:=b) (by omega)) (.inl X0);have I:mH zF zF=some true:=by kernel_rfl
  rw[e,amN,if_pos trivial];show (mH zF zF).bind _=_;rw[I];rfl
 ·rw[Dm U (by omega),amN];simp only;rcases aaD E N U hs (p2:=C) with h|⟨V,B,j,h,J,K,G,hB⟩
  ·rw[h];rfl
  rw[h,amN];simp only;rcases EZ u (S:=[j]) (O j G) with⟨e,v,H,_⟩|⟨s,x,r,o⟩
  ·show (dW (W1 f) [j]).bind _=_;rw[v,amN];simp only;rw[if_pos (by simpa using H)]
  have w:[j][0]? = some (dn f.aq.length (s 0)):=o.amt.row 0 (bo.mk f [] []) rfl;have l:j=dn f.aq.length (s 0):=anq w;rcases hB with⟨z,W,X⟩|⟨y,v,k2,k3⟩
  ·rw[l]at W;obtain⟨p,_,rfl⟩:=alp.1 W;rw[BP]at X;cases X
  have L:y=(List.range f.aq.length).map (s 0):=by
   rw[v]at l;unfold dn at l;have:(List.range f.aq.length).map (fun p=>bJ (s 0 p))=((List.range f.aq.length).map (s 0)).map bJ:=by rw[List.map_map];rfl
   rw[this]at l;exact (List.map_inj_right fun _ _=>vg).1 l
  have n:=aeM u o;have t:aW (List.range f.aG.length) (yb (W1 f) s x 0)=aW y id:=by
   rw[L,JA];have r1:List.range (W1 f).au.length=[0]:=rfl;have r0:List.range (W1 f).aw.length=[]:=rfl;rw[r1,r0]at n;simp only[aW]at n;have n0:C2 (W1 f) 0=f.aG.length:=rfl;have m0:((W1 f).au[0]?).elim 0 (fun m=>aW (List.range m.av.aq.length) (s 0))=aW (List.range f.aq.length) (s 0):=rfl;rw[n0,m0]at n;grind
  show (dW (W1 f) [j]).bind _=_;rw[o.out,amN];simp only;rw[if_neg (by simp),R,if_neg (by simp),T,amN,jG,amN,if_neg (by simp),Ki,amN];rcases VO u o J K (g:=dn (W1 f).aw.length x) (e:=0) with h|⟨A,b,h,j1,j2,j3,j4⟩
  ·simp only[uQ]at h;rw[h];rfl
  simp only[uQ]at h;rw[h,amN];simp only;rw[Dm j1 (by omega),amN];simp only;have l1:=NS A;have e:dY (bJ (kh A)) (ah.mk (aH.mk (bJ b).bn.al (bJ b).bn.aa) (aH.mk (bJ b).bu.al (bJ b).bu.aa))=some (bJ (kh A+b),0):=yA (by omega);have I:mH (ah.mk (aH.mk B.bn.al B.bn.aa) (aH.mk B.bu.al B.bu.aa)) (bJ (kh A+b))=some true:=by
   rw[j4,t];subst k2;have:=ahS (a:=kh V+aW y id) (b:=kh V+aW y id) (by omega);rw[decide_eq_true rfl]at this;exact this
  rw[e,amN,if_pos trivial,I,amN]
end Go.Proofs.YtobnihfgnbnncaaGreat.P
