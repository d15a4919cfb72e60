import Derived.Test.YtobnihfgnbnncaaGreatLg
set_option linter.unusedSimpArgs false
set_option linter.unusedVariables false
set_option linter.defProp false
noncomputable section
open Go.Proofs.Tryz
namespace Go.Proofs.YtobnihfgnbnncaaGreat.P
open Go.RowKit
def acT{B:Nat}{α:Type}{l m:List α}(a:B<=1000)(h:l.length+m.length<=1000):me B l m=some (l++m):=by
 unfold me;have:(1000:Nat)<=maxLen:=by decide
 have b:(l.length+m.length)*B<=1000*1000:=apx h a;grind
def YX{α:Type}{P Q:Prop}{c:Decidable P}{d:Decidable Q}{a b:α}(h:P↔Q):(if P then a else b)=if Q then a else b:=by
 simp_all
def ym(w:aT)(a:Nat->Nat->Rat)(i k:Nat):Rat:=(w.au[i]?).elim 0 fun m=>bW (List.range m.ax.aw.length) fun j=>CX m.ax k j*a i j
def y8(w:aT)(s:Nat->Nat->Rat)(p:Nat):Rat:=YQ w p (ym w s)
section
variable {w:aT} {S:List (List an)} {s:Nat->Nat->Rat} {N:Nat}
def FC(d:n5 w)(f:gL w){i:Nat}{m:bl}(c:w.au[i]? = some m){k:Nat}(g:k<m.ax.aN.length){a:Nat->Nat->Rat}{K:Nat}(h:K<=10000000000)(l:∀j,j<m.ax.aw.length->LF (a i j)<=K) :
  ∃row,m.ax.aM[k]? = some row∧jY row (bR m.ax.aw.length (a i))=some (b9 (ym w a i k))∧LF (ym w a i k)<=1+5*(K+5):=by
 have b:=anv c;have n:=(d.mill m b).1;have o:=(f.fit m b).flow;have p:=n.srcs;have q:m.ax.aM[k]? = some (m.ax.aM[k]'(by rw[o.rows];exact g)):=anj _;generalize m.ax.aM[k]'(by grind)=row at q;have r:∀j,j<m.ax.aw.length->row[j]? = some (b9 (CX m.ax k j))∧LF (CX m.ax k j)<=4:=fun j s=>by
  grind[qz]
 obtain⟨t,u⟩:=abO (by omega) r l h;have e:ym w a i k=bW (List.range m.ax.aw.length) fun j=>CX m.ax k j*a i j:=by unfold ym;rw[c];rfl
 have v:=anM (K+5) p;grind
def ZD(e:gL w){i k:Nat}{m:bl}{y:um}(a:w.au[i]? = some m)(b:m.ax.aN[k]? = some y)(c:y.bj=0):∃p:Nat,p<w.ak.length∧P.idx m.aC y.aY=some (p:Int)∧pU w p i k:=by
 have d:=e.fit m (anv a);obtain⟨j,g,f⟩:=S0 d b c;have h:=d.ports _ (anv f);refine⟨(m.aC.getD y.aY.toNat 0).toNat,by omega,?_,m,y,a,b,c,by omega⟩;grind[Int.toNat_of_nonneg,aS]
open Classical in
def rj(w:aT)(s:Nat->Nat->Rat)(i k:Nat):List an:=(List.range w.ak.length).map fun p=>if ∃a b,pU w p a b∧(a<i∨a=i∧b<k) then b9 (y8 w s p) else zF
def Ih{i k c d:Nat}(h:∀p,p<w.ak.length->∀a b,pU w p a b->((a<i∨a=i∧b<k)↔(a<c∨a=c∧b<d))):rj w s i k=rj w s c d:=by
 unfold rj;refine aom fun p e =>?_;have e:=aos.1 e;have:(∃a b,pU w p a b∧(a<i∨a=i∧b<k))↔∃a b,pU w p a b∧(a<c∨a=c∧b<d):=by
  grind
 exact YX this
theorem RV(l:gL w){i k p:Nat}(m:p<w.ak.length)(g:pU w p i k):(rj w s i k).set p (b9 (ym w s i k))=rj w s i (k+1):=by
 unfold rj;rw[gJ];refine aom fun q h =>?_;have h:=aos.1 h
 by_cases d:q=p
 ·subst d;rw[if_pos rfl,if_pos ⟨i,k,g,.inr ⟨rfl,by omega⟩⟩];grind[y8,DJ]
 ·rw[if_neg d];have:(∃c e,pU w q c e∧(c<i∨c=i∧e<k))↔∃c e,pU w q c e∧(c<i∨c=i∧e<k+1):=by
   constructor
   ·grind
   ·rintro⟨a,b,j,n⟩;refine⟨a,b,j,?_⟩
    by_cases f:a=i∧b=k
    ·exfalso;obtain⟨rfl,rfl⟩:=f;obtain⟨o,r,t,u,_,v⟩:=j;obtain⟨x,y,z,A,_,B⟩:=g;grind
    ·omega
  exact YX this
theorem MC{i k:Nat}{m:bl}{y:um}(e:w.au[i]? = some m)(f:m.ax.aN[k]? = some y)(g:y.bj≠0):rj w s i k=rj w s i (k+1):=by
 refine Ih fun p j a b c =>?_;constructor
 ·intro h;omega
 ·intro h
  by_cases d:a=i∧b=k
  ·exfalso;obtain⟨rfl,rfl⟩:=d;obtain⟨l,n,o,q,r,_⟩:=c;simp_all
  ·omega
def RS{i:Nat}{m:bl}(e:w.au[i]? = some m):rj w s i m.ax.aN.length=rj w s (i+1) 0:=by
 refine Ih fun p f a b c =>?_;constructor
 ·intro h;omega
 ·intro h;rcases h with h|h
  ·by_cases d:a=i
   ·subst d;obtain⟨g,j,k,l,_,_⟩:=c;grind
   omega
  ·omega
def Ii:List.replicate w.ak.length zF=rj w s 0 0:=by
 unfold rj;refine gZ (by simp) fun j a =>?_;simp_all
def MB(a:gL w):rj w s w.au.length 0=bR w.ak.length (y8 w s):=by
 refine aom fun p b =>?_;obtain⟨i,k,h,_⟩:=E9 a (aos.1 b);obtain⟨m,y,c,_⟩:=id h;rw[if_pos ⟨i,k,h,.inl (aQ c)⟩]
def RU{i k p:Nat}(a:p<w.ak.length):∃z,(rj w s i k)[p]? = some z:=⟨_,anj (by unfold rj;simp_all)⟩
def aaJ(h:n5 w)(n:gL w)(o:OkS w S s){i:Nat}{m:bl}(b:w.au[i]? = some m) :
  aO (jS S (i:Int) m) ((0:Int),rj w s i 0)=some (rj w s (i+1) 0):=by
 have c:=anv b;have r:=(h.mill m c).1;have F:=r.outs;have key:=fun e d=>oU (body:=jS S (i:Int) m) m.ax.aN (by omega) (fun k (l:List an)=>l=rj w s i k) (fun l=>l=rj w s (i+1) 0) (s0:=rj w s i 0) rfl e d;refine (key ?_ ?_).elim fun x ⟨t,hx⟩=>hx ▸ t
 ·rintro k y _ f rfl;have q:=aQ f;simp only[jS];rw[if_pos (by simpa using q),aS f,aoo,ba (by omega)]
  by_cases g:y.bj=0
  ·obtain⟨p,u,v,G⟩:=ZD n b f g;obtain⟨A,B,C,_⟩:=FC h n b q (a:=s) (K:=100) (by omega) fun j D=>(o.nn i m b j D).2;obtain⟨z,E⟩:=RU (s:=s) (i:=i) (k:=k) u;rw[if_pos (by simpa using g),v,aoo,aS B,aoo,aS (o.row i m b),aoo,C,aoo,aS E,aoo,anY];grind[RV]
  ·rw[if_neg (by simpa using g)];grind[MC]
 ·rintro _ rfl;refine⟨_,?_,rfl⟩;simp_all[jS,if_neg,RS]
def aaI(b:n5 w)(e:gL w)(f:OkS w S s):mX w S=some (bR w.ak.length (y8 w s)):=by
 have h:=b.mills;have j:=b.given;have key:=fun c a=>oU (body:=jR w S) w.au (by omega) (fun i (l:List an)=>l=rj w s i 0) (fun l=>l=bR w.ak.length (y8 w s)) (s0:=List.replicate w.ak.length zF) Ii c a;have d:aO (jR w S) ((0:Int),List.replicate w.ak.length zF)=some (bR w.ak.length (y8 w s)):=by
  refine (key ?_ ?_).elim fun x ⟨d,hx⟩=>hx ▸ d
  ·rintro i m _ hx rfl;have g:=aQ hx;refine⟨_,?_,rfl⟩;simp only[jR];rw[if_pos (by simpa using g),aS hx,aoo,aaJ b e f hx,aoo,ba (by omega)]
  ·rintro _ rfl;refine⟨_,?_,rfl⟩;simp_all[jR,if_neg,MB]
 grind[mX,DS]
def ads(a:gL w){p:Nat}(b:p<w.ak.length):∃i k,pU w p i k∧y8 w s p=ym w s i k:=by
 obtain⟨i,k,h,_⟩:=E9 a b;exact⟨i,k,h,DJ a b h _⟩
def ag4(b:n5 w)(c:gL w){i k:Nat}{m:bl}{y:um}(d:w.au[i]? = some m)(e:m.ax.aN[k]? = some y){a:Nat->Nat->Rat}{K:Nat}(f:K<=10000000000)(g:∀j,j<m.ax.aw.length->LF (a i j)<=K):LF (ym w a i k)<=1+5*(K+5):=by
 obtain⟨_,_,_,h⟩:=FC b c d (aQ e) f g;exact h
def ag3(e:n5 w)(f:gL w){i k:Nat}{m:bl}{y:um}(d:w.au[i]? = some m)(g:m.ax.aN[k]? = some y){a:Nat->Nat->Rat}(l:∀j,j<m.ax.aw.length->0<=a i j):0<=ym w a i k:=by
 have b:=anv d;unfold ym;rw[d,Option.elim_some];refine D8 fun j c =>?_;have c:=aos.1 c;obtain⟨_,_,_,h,_⟩:=qz (e.mill m b).1 (f.fit m b).flow (aQ g) c;exact apA h (l j c)
def O5(f:n5 w)(c:gL w)(g:OkS w S s){p:Nat}(l:p<w.ak.length):LF (y8 w s p)<=2700∧0<=y8 w s p:=by
 obtain⟨i,k,⟨m,y,b,h,_,_⟩,e⟩:=ads (s:=s) c l;rw[e];have:=ag4 f c b h (a:=s) (K:=100) (by omega) fun j d=>(g.nn i m b j d).2;exact⟨by omega,ag3 f c b h fun j d=>(g.nn i m b j d).1⟩
def Lb(w:aT)(s:Nat->Nat->Rat)(x:Nat->Rat)(i j:Nat):Rat:=(w.au[i]?).elim 0 fun m=>(m.ax.aw[j]?).elim 0 fun y=>if y.bj=1 then GY w.ak (sS m y.aY)*x (sS m y.aY).bg.toNat else s i j
def Au(w:aT)(s:Nat->Nat->Rat)(x:Nat->Rat)(i k:Nat):Rat:=ym w (Lb w s x) i k
def Gz(w:aT)(i:Nat):Nat:=(w.au[i]?).elim 0 fun m=>m.ax.aN.length
def xl(w:aT)(s:Nat->Nat->Rat)(x:Nat->Rat)(n:Nat):List (List an):=(List.range n).map fun i=>bR (Gz w i) (Au w s x i)
def ZB(d:gL w){x:Nat->Rat}{p:Nat}(i:p<w.ak.length)(k:LF (x p)<=1000000000){a:Int}(l : -1099511627776<=a∧a<=1099511627776) :
  ln w (bR w.ak.length x) (p:Int) a=some (b9 (Rat.divInt a (w.ak.getD p 0)*x p))∧LF (Rat.divInt a (w.ak.getD p 0)*x p)<=1000000020:=by
 have e:dh=4398046511104:=rfl;obtain⟨j,m,n,f,b,c⟩:=uP d.given (p:=(p:Int)) (by omega);obtain rfl:p=j:=by omega
 rw[anY]at f b c;have g:w.ak.getD p 0≠0:=by omega
 have o:=wW (p:=a) g;have q:=acz b c;have r:Ln a<=10:=by
  rcases Int.lt_trichotomy a 0 with h|h|h
  ·have:=acz (x := -a) (by omega) (by omega);rw[Ek]at this;omega
  ·subst h;exact am8 LF_zero_ln (by decide)
  grind[Nat.le_trans,acz]
 have s:=wv (Rat.divInt a (w.ak.getD p 0)) (x p);refine⟨?_,by omega⟩;unfold ln;grind[aS,aj2,fw,X1]
where
 LF_zero_ln:Ln 0<=1:=by have:=A3;have h:=kI 0;exact am8 h this
end
section
variable {w:aT} {S:List (List an)} {s:Nat->Nat->Rat} {x:Nat->Rat}
def Dc{i j:Nat}{m:bl}{y:ie}(a:w.au[i]? = some m)(b:m.ax.aw[j]? = some y):Lb w s x i j=if y.bj=1 then GY w.ak (sS m y.aY)*x (sS m y.aY).bg.toNat else s i j:=by
 unfold Lb;simp_all
def Eb(c:gL w)(d:∀p,p<w.ak.length->LF (x p)<=1000000000){m:bl}(e:m∈w.au){u:fE}(f:u∈m.aX) :
  ln w (bR w.ak.length x) u.bg u.aR=some (b9 (GY w.ak u*x u.bg.toNat))∧LF (GY w.ak u*x u.bg.toNat)<=1000000020∧u.bg.toNat<w.ak.length:=by
 obtain⟨g,h⟩:=(c.fit m e).uses u f;have b:u.bg.toNat<w.ak.length:=by omega
 have:=ZB c b (d _ b) (a:=u.aR) (by omega);rw[Int.toNat_of_nonneg g.1]at this;exact⟨this.1,this.2,b⟩
def aiD(c:gL w)(f:OkS w S s)(g:∀p,p<w.ak.length->LF (x p)<=1000000000){i:Nat}{m:bl}(b:w.au[i]? = some m):∀j,j<m.ax.aw.length->LF (Lb w s x i j)<=1000000020:=fun j d=>by
 have e:m.ax.aw[j]? = some m.ax.aw[j]:=anj d;have a:=anv b;rw[Dc b e];split
 ·rename_i h;obtain⟨_,k⟩:=FL (c.fit m a) (anv e) h;exact (Eb c g a k).2.1
 ·have:=(f.nn i m b j d).2;omega
def RA(q:n5 w)(n:gL w)(u:OkS w S s)(hx:∀p,p<w.ak.length->LF (x p)<=1000000000){i:Nat}{m:bl}(g:w.au[i]? = some m){e:Int} :
  aO (kK w (bR w.ak.length x,e) m) ((0:Int),bR m.ax.aw.length (s i))=some (bR m.ax.aw.length (Lb w s x i)):=by
 have a:=anv g;have v:=(q.mill m a).1.srcs;have key:=fun h c=>oU (body:=kK w (bR w.ak.length x,e) m) m.ax.aw (by omega) (fun k (l:List an)=>l=(List.range m.ax.aw.length).map fun j=>if j<k then b9 (Lb w s x i j) else b9 (s i j)) (fun l=>l=bR m.ax.aw.length (Lb w s x i)) (s0:=bR m.ax.aw.length (s i)) (aom fun j _=>by simp_all) h c;refine (key ?_ ?_).elim fun x ⟨b,hx⟩=>hx ▸ b
 ·rintro k y _ d rfl;have o:=aQ d;simp only[kK];rw[if_pos (by simpa using o),aS d,aoo,ba (by omega)]
  by_cases b:y.bj=1
  ·obtain⟨r,t⟩:=FL (n.fit m a) (anv d) b;rw[if_pos (by simpa using b),r,aoo,(Eb n hx a t).1,aoo,aS (dC _ o),aoo,anY,gJ];refine⟨_,rfl,aom fun j _ =>?_⟩
   by_cases f:j=k
   ·subst f;rw[if_pos rfl,if_pos (by omega),Dc g d,if_pos b]
   grind
  ·rw[if_neg (by simpa using b)];refine⟨_,rfl,aom fun j _ =>?_⟩
   by_cases f:j=k
   ·subst f;rw[if_neg (by omega),if_pos (by omega),Dc g d,if_neg b]
   grind
 ·rintro _ rfl;refine⟨_,?_,rfl⟩;simp only[kK];rw[if_neg (by simp)];refine congrArg some (congrArg Sum.inr (aom fun j f =>?_));simp_all
def VO(h:n5 w)(f:gL w)(o:OkS w S s)(hx:∀p,p<w.ak.length->LF (x p)<=1000000000){i:Nat}{m:bl}(e:w.au[i]? = some m) :
  aO (kL m (bR m.ax.aw.length (Lb w s x i))) ((0:Int),[])=some (bR (Gz w i) (Au w s x i)):=by
 have c:=anv e;have q:=(h.mill m c).1;have z:=q.outs;have A:=(f.fit m c).flow.rows;have r:Gz w i=m.ax.aN.length:=by unfold Gz;rw[e];rfl
 rw[r];have key:=fun g d=>oU (body:=kL m (bR m.ax.aw.length (Lb w s x i))) m.ax.aM (by omega) (fun k (l:List an)=>l=bR k (Au w s x i)) (fun l=>l=bR m.ax.aN.length (Au w s x i)) (s0:=[]) rfl g d;refine (key ?_ ?_).elim fun x ⟨t,hx⟩=>hx ▸ t
 ·rintro k u _ b rfl;have v:=aQ b;obtain⟨j,n,y,_⟩:=FC h f e (k:=k) (by omega) (a:=Lb w s x) (K:=1000000020) (by omega) (aiD f o hx e);rw[b]at n;obtain rfl:=ao0 n;refine⟨_,?_,rfl⟩;simp only[kL];rw[if_pos (by simpa using v),aS b,aoo,y,aoo,acT (by omega) (by rw[cZ];simp;omega),aoo,ba (by omega)];grind[bR,Au,List.range_succ]
 ·rintro _ rfl;refine⟨_,?_,rfl⟩;grind[kL]
def Rz(c:n5 w)(g:gL w)(d:OkS w S s)(hx:∀p,p<w.ak.length->LF (x p)<=1000000000){e:Int} :
  aO (jv w S (bR w.ak.length x,e)) ((0:Int),[])=some (xl w s x w.au.length):=by
 have k:=c.mills;have key:=fun f b=>oU (body:=jv w S (bR w.ak.length x,e)) w.au (by omega) (fun i (l:List (List an))=>l=xl w s x i) (fun l=>l=xl w s x w.au.length) (s0:=[]) rfl f b;refine (key ?_ ?_).elim fun x ⟨h,hx⟩=>hx ▸ h
 ·rintro i m _ a rfl;have j:=aQ a;have n:=(c.mill m (anv a)).1.srcs;refine⟨_,?_,rfl⟩;simp only[jv];rw[if_pos (by simpa using j),aS a,aoo,aS (d.row i m a),aoo];unfold ik;rw[acT (by omega) (by rw[cZ];simp;omega),aoy,aoo,RA c g d hx a,aoo,VO c g d hx a,aoo,acT (by omega) (by unfold xl;simp;omega),aoo,ba (by omega)];grind[xl,List.range_succ]
 ·rintro _ rfl;refine⟨_,?_,rfl⟩;grind[jv]
structure HF(w:aT)(S:List (List an))(s:Nat->Nat->Rat)(x:Nat->Rat)(r:Nat->Int):Prop where
 err:BG w=none
 amt:OkS w S s
 sol:aga w.ak.length (ki w.ak.length (kz (qE w))) (y8 w s) x
 ain:kS (WQ w (qE w))=some ((List.range w.ak.length).map r)
 rank:uk w.ak.length (ki w.ak.length (kz (qE w))) r
 trap:qB w.ak.length r=[]
 sz:∀p,p<w.ak.length->LF (x p)<=1000000000
 out:gM w S=some (xl w s x w.au.length,bR w.ak.length x,0)
theorem adf(a:n5 w)(D:SzA 100 S)(i:BG w=none)(c:OkS w S s) :
  (gM w S=some ([],[],24)∧∃r,kS (WQ w (qE w))=some ((List.range w.ak.length).map r)∧qB w.ak.length r≠[])∨∃x r,HF w S s x r:=by
 have E:=a.given;have f:=Jh i;obtain⟨e,F,G,_⟩:=F4 (w:=w) a.mills (fun m H=>(a.mill m H).1) D;obtain rfl:e=0:=G.2 ⟨s,c⟩;have I:=JH a f;have k:=PS E (DX a f).2;have n:SzN (WQ w (qE w)) 2700:=acI k.2;have J:∀p,p<w.ak.length->LF (y8 w s p)<=2700:=fun p b=>(O5 a f c b).1;have o:SzL (bR w.ak.length (y8 w s)) 2700:=Ff J;have g:gM w S=(lN (WQ w (qE w)) (bR w.ak.length (y8 w s))).bind fun j=>if (j.2 != 0)=true then some ([],[],j.2) else (aO (jv w S j) (0,[])).bind fun l=>some (l,j.1,0):=by
  unfold gM;rw[uz a,aoo,i,if_neg (by simp),F,aoo,if_neg (by simp),of_eq a,i,aoo,if_neg (by simp),aaI a f c,aoo]
 rw[g];rcases acC (K:=2700) (M:=6) (by decide) n o (by rw[cZ];omega) (.inl (by show ((w.ak.length:Nat):Int)<=_;omega)) ak7 with⟨L,q⟩|⟨N,R,d,r,A,O,t,P,_,_,u,v,⟨B,q⟩|⟨B,x,Q,q,y⟩⟩
 ·exact absurd ⟨_,_,_,rfl,I,rfl⟩ L
 ·obtain⟨rfl,rfl⟩:=PQ A;grind
 ·obtain⟨rfl,rfl⟩:=PQ A;obtain⟨_,z⟩:=abl t;have C:∀p,p<w.ak.length->LF (x p)<=1000000000:=fun p b=>XsW P (y p b);right;have h:aga w.ak.length (ki w.ak.length (kz (qE w))) (y8 w s) x:=fun p b=>by rw[z p b];exact Q p b
  refine⟨x,r,i,c,h,u,v,B,C,?_⟩;rw[g,q,aoo,if_neg (by simp),Rz a f c C,aoo]
def Ry(b:n5 w)(c:SzA 100 S) :
  (∃e,gM w S=some ([],[],e)∧e≠0∧((∃r,BG w=some r∧e=r.1)∨(BG w=none∧my w S=some e)∨(BG w=none∧e=24∧∃r,kS (WQ w (qE w))=some ((List.range w.ak.length).map r)∧qB w.ak.length r≠[]))) ∨
  ∃s x r,HF w S s x r:=by
 cases d:BG w with
 | some r =>
  have a:=Pn d;left;refine⟨r.1,?_,a,.inl ⟨r,rfl,rfl⟩⟩;simp_all[gM,uz,aoo,if_pos]
 | none =>
 obtain⟨e,f,i,_⟩:=F4 (w:=w) b.mills (fun m g=>(b.mill m g).1) c
 by_cases h:e=0
 ·grind[adf]
 ·left;refine⟨e,?_,h,.inr (.inl ⟨rfl,f⟩)⟩;simp_all[gM,uz,aoo,if_neg,if_pos]
end
def aed(x:Nat->Rat)(p:Nat):∀a:List Tk,wO a x p=bW a fun t=>if t.2.1=p then t.2.2*x t.1 else 0
 | []=>rfl
 | t::a=>by simp only[wO,bW,aed x p a]
def aef{N p:Nat}{S:Nat->Nat->Rat}(c:p<N)(d:∀a b,0<=S a b)(x:Nat->Rat):wO (ki N S) x p=bW (List.range N) fun a=>S a p*x a:=by
 rw[aed];unfold ki;rw[nK];refine bx fun a _ =>?_;rw[AH,wm,bx (g:=fun b=>if b=p then S a b*x a else 0) fun b _ =>?_,mS c];grind
def ajq{N p:Nat}{L:List Ei}(H:aar N L)(x:Nat->Rat):bW (List.range N) (fun a=>kz L a p*x a)=bW L fun c=>if c.1.2=(p:Int) then c.2*x c.1.1.toNat else 0:=by
 have h1:∀a,kz L a p*x a=bW L fun c=>if ((a:Int),(p:Int))=c.1 then c.2*x a else 0:=fun a=>by
  grind[kz,Qs,Rat.mul_comm,vl]
 rw[bx fun a _=>h1 a,ub (fun (a:Nat) (c:Ei)=>if ((a:Int),(p:Int))=c.1 then c.2*x a else 0)];refine bx fun c b =>?_;have d:=H.from_ c b;rw[bx (g:=fun a=>if a=c.1.1.toNat then (if c.1.2=(p:Int) then c.2*x a else 0) else 0) fun a _ =>?_,mS (by omega)];grind
section
variable {w:aT} {S:List (List an)} {s:Nat->Nat->Rat} {x:Nat->Rat} {r:Nat->Int}
def OE(g:List Int)(m:bl)(x:Nat->Rat)(j k:Nat):Rat:=(m.ax.aw[j]?).elim 0 fun y=>if y.bj=1 then GY g (sS m y.aY)*CX m.ax k j*x (sS m y.aY).bg.toNat else 0
def Ve(w:aT)(x:Nat->Rat)(i k:Nat):Rat:=(w.au[i]?).elim 0 fun m=>bW (List.range m.ax.aw.length) fun j=>OE w.ak m x j k
def aht(g:List Int)(m:bl)(p:Nat)(x:Nat->Rat):bW (pr g m) (fun c=>if c.1.2=(p:Int) then c.2*x c.1.1.toNat else 0)=bW (List.range m.ax.aN.length) fun k=>(m.ax.aN[k]?).elim 0 fun y=>if y.bj=0∧m.aC.getD y.aY.toNat 0=(p:Int) then bW (List.range m.ax.aw.length) (fun j=>OE g m x j k) else 0:=by
 have h1:∀j,bW (Df g m j) (fun c=>if c.1.2=(p:Int) then c.2*x c.1.1.toNat else 0)=bW (List.range m.ax.aN.length) fun k=>(m.ax.aN[k]?).elim 0 fun y=>if y.bj=0∧m.aC.getD y.aY.toNat 0=(p:Int) then OE g m x j k else 0:=by
  intro j;unfold Df OE;cases d:m.ax.aw[j]? with
  | none =>
   grind[bx,kX]
  | some z =>
   simp only[Option.elim_some]
   by_cases a:z.bj=1
   ·rw[if_pos a,nK];refine bx fun k _ =>?_;unfold zr;cases m.ax.aN[k]? with
    | none=>rfl
    | some y =>
     simp only[Option.elim_some]
     by_cases h0:y.bj=0
     ·by_cases b:CX m.ax k j=0
      ·rw[if_neg (fun h=>h.2 b),b];show (0:Rat)=_;split<;>grind
      ·rw[if_pos ⟨h0,b⟩];simp only[bW,h0,true_and,a,if_true];split<;>grind
     ·rw[if_neg (fun h=>h0 h.1),if_neg (fun h=>h0 h.1)];rfl
   ·rw[if_neg a];grind[bx,kX]
 unfold pr;rw[nK,bx fun j _=>h1 j,ub (fun (j k:Nat)=>(m.ax.aN[k]?).elim 0 fun y=>if y.bj=0∧m.aC.getD y.aY.toNat 0=(p:Int) then OE g m x j k else 0)];refine bx fun k _ =>?_;grind[kX]
def abc(f:n5 w)(c:gL w){p i k:Nat}(d:p<w.ak.length)(g:pU w p i k):wO (ki w.ak.length (kz (qE w))) x p=Ve w x i k:=by
 have e:=aiK f c;rw[aef d (S:=kz (qE w)) (fun a b=>(AI e.pos).1),ajq e,<- DJ c d g (Ve w x)];unfold qE YQ;rw[nK,<- C0 w.au];refine bx fun a _ =>?_;simp_all[Ve,aht]
def abz(e:OkS w S s){i k:Nat}{m:bl}(b:w.au[i]? = some m):Au w s x i k=ym w s i k+Ve w x i k:=by
 unfold Au ym Ve;rw[b,Option.elim_some,Option.elim_some,Option.elim_some,<- D7];refine bx fun j c =>?_;have c:=aos.1 c;have a:m.ax.aw[j]? = some m.ax.aw[j]:=anj c;generalize m.ax.aw[j]=y at a;rw[Dc b a];unfold OE;rw[a,Option.elim_some]
 by_cases d:y.bj=1
 ·rw[if_pos d,if_pos d,e.tk i m b j y a d];grind
 grind
def aa7(d:n5 w)(a:HF w S s x r){p i k:Nat}(b:p<w.ak.length)(c:pU w p i k):Au w s x i k=x p:=by
 have e:=Jh a.err;obtain⟨m,y,f,_⟩:=id c;rw[abz a.amt f,a.sol p b,abc d e b c];grind[y8,DJ]
def afS(a:gL w)(x:Nat->Rat):bW w.au (fun m=>bW m.aX fun u=>GY w.ak u*x u.bg.toNat)=bW (List.range w.ak.length) fun p=>Rat.divInt (lB p w.au) (w.ak.getD p 0)*x p:=by
 have b:∀m∈w.au,bW m.aX (fun u=>GY w.ak u*x u.bg.toNat)=bW (List.range w.ak.length) fun p=>ab7 p m*(((w.ak.getD p 0:Int):Rat)⁻¹*x p):=fun m c=>by
  have d:=a.fit m c;rw[bx (g:=fun u=>bW (List.range w.ak.length) fun p=>(((w.ak.getD p 0:Int):Rat)⁻¹*x p)*qt p u (u.aR:Rat)) fun u e =>?_,ub (fun (u:fE) (p:Nat)=>(((w.ak.getD p 0:Int):Rat)⁻¹*x p)*qt p u (u.aR:Rat))]
  ·refine bx fun p _ =>?_;rw[vl];unfold ab7;grind
  ·have f:=(d.uses u e).1;unfold qt;rw[bx (g:=fun p=>if p=u.bg.toNat then (((w.ak.getD p 0:Int):Rat)⁻¹*x p)*(u.aR:Rat) else 0) fun p _ =>?_,mS (by omega)]
   ·grind[GY,Rat.divInt_eq_div,Rat.div_def]
   grind
 rw[bx b,ub (fun (m:bl) (p:Nat)=>ab7 p m*(((w.ak.getD p 0:Int):Rat)⁻¹*x p))];refine bx fun p _ =>?_;rw[bx (g:=fun m=>(((w.ak.getD p 0:Int):Rat)⁻¹*x p)*ab7 p m) fun m _=>Rat.mul_comm _ _,vl,KI,apF,Rat.div_def];grind
def G4(w:aT)(x:Nat->Rat)(p:Nat):Rat:=Rat.divInt (w.ak.getD p 0-lB p w.au) (w.ak.getD p 0)*x p
def aaX(a:gL w){p:Nat}(c:p<w.ak.length):G4 w x p=x p-Rat.divInt (lB p w.au) (w.ak.getD p 0)*x p:=by
 have d:1<=w.ak.getD p 0:=by
  obtain⟨j,e,_,_,b,_⟩:=uP a.given (p:=(p:Int)) (by omega);simpa using b
 have f:((w.ak.getD p 0:Int):Rat)≠0:=by (simp_all;omega)
 grind[G4,Rat.mul_inv_cancel,Rat.divInt_eq_div,Rat.intCast_sub,Rat.div_def]
end
def afK(q:Nat)(l:List fE)(u:fE):qJ q (l++[u])=qJ q l+if u.bg=(q:Int) then u.aR else 0:=by
 unfold qJ;simp_all
def C1{q:Nat}:∀{l:List fE},(∀u∈l,1<=u.aR∧u.aR<=1099511627776)->0<=qJ q l∧qJ q l<=l.length*1099511627776
 | [],_=>by simp[qJ]
 | u::l,h=>by
  have b:=C1 (q:=q) (l:=l) fun v a=>h v (aoj _ a);have c:=h u aoi;have e:qJ q (u::l)=(if u.bg=(q:Int) then u.aR else 0)+qJ q l:=by
   unfold qJ;rw[anN,py (fun u:fE=>if u.bg=(q:Int) then u.aR else 0)];omega
  grind
theorem Vi(q:Nat)(a:List bl)(m:bl):lB q (a++[m])=lB q a+qJ q m.aX:=by
 unfold lB;simp_all
section
variable {w:aT} {x:Nat->Rat}
def KJ(b:n5 w)(c:gL w)(q:Nat):∀i,i<=w.au.length->0<=lB q (w.au.take i)∧lB q (w.au.take i)<=i*6597069766656
 | 0,_=>by simp[lB]
 | i+1,h=>by
  have d:i<w.au.length:=h;have f:=KJ b c q i (by omega);have a:=ani d;have g:=(b.mill _ a).2.1;have j:=C1 (q:=q) fun u e=>((c.fit _ a).uses u e).2;grind[List.take_succ_eq_append_getElem,Vi]
def agL(d:n5 w)(e:gL w){i:Nat}{m:bl}(r:w.au[i]? = some m) :
  aO (kN m) ((0:Int),(List.range w.ak.length).map fun p=>w.ak.getD p 0-lB p (w.au.take i))=some ((List.range w.ak.length).map fun p=>w.ak.getD p 0-lB p (w.au.take (i+1))):=by
 have a:=anv r;have E:=(d.mill m a).2.1;have F:=aQ r;have G:=d.mills;have s:=e.fit m a;have f:w.au.take (i+1)=w.au.take i++[m]:=by
  grind[List.getElem?_eq_some_iff,List.take_succ_eq_append_getElem]
 have key:=fun g b=>oU (body:=kN m) m.aX (by omega) (fun k (l:List Int)=>l=(List.range w.ak.length).map fun p=>w.ak.getD p 0-(lB p (w.au.take i)+qJ p (m.aX.take k))) (fun l=>l=(List.range w.ak.length).map fun p=>w.ak.getD p 0-lB p (w.au.take (i+1))) (s0:=(List.range w.ak.length).map fun p=>w.ak.getD p 0-lB p (w.au.take i))
  (aom fun p _=>by rw[aoP];simp[qJ]) g b
 refine (key ?_ ?_).elim fun x ⟨t,hx⟩=>hx ▸ t
 ·rintro k u _ h rfl;have y:=aQ h;have n:=anv h;obtain⟨⟨H,I⟩,J,K⟩:=s.uses u n;obtain⟨p,z⟩:∃p:Nat,u.bg=p:=⟨u.bg.toNat,by omega⟩;have o:p<w.ak.length:=by omega
  have c:m.aX.take (k+1)=m.aX.take k++[u]:=by
   grind[List.getElem?_eq_some_iff,List.take_succ_eq_append_getElem]
  have L:=KJ d e p i (by omega);have A:=C1 (q:=p) (l:=m.aX.take k) fun v B=>(s.uses v (anK B)).2;rw[ann]at A;obtain⟨j,M,_,_,C,D⟩:=uP e.given (p:=(p:Int)) (by omega);rw[anY]at C D;simp only[kN];rw[if_pos (by simpa using y),aS h,aoo,z,aS (dC _ o),aoo,anY,gJ,ba (by omega),jQ (by omega)];refine⟨_,rfl,aom fun q _ =>?_⟩;rw[c,afK];grind
 ·rintro _ rfl;refine⟨_,?_,rfl⟩;simp only[kN];rw[if_neg (by simp),aoY,f];exact congrArg some (congrArg Sum.inr (aom fun p _=>by rw[Vi]))
def Sw{n:Nat}(c:n<=2000)(d:∀p,p<n->LF (x p)<=1000000000):cJ (bR n x)=some false:=by
 unfold cJ dN;rw[oA (bR n x) (fun _ _=>(none:Option Int)) (by rw[cZ];omega) (fun i f a =>?_) (by grind[eB])]
 ·rw[JJ];rfl
 ·have b:i<n:=by grind[aQ,cZ]
  rw[fw x b]at a;obtain rfl:=ao0 a;simp only[eB,od];rw[if_pos (by rw[cZ];simp;omega),aS (fw x b),aoo,lF (by grind[dh]),aoo,aoo,if_neg (by simp),ba (by omega)]
def adY(a:gL w)(c:∀p,p<w.ak.length->LF (x p)<=1000000000){p:Nat}(b:p<w.ak.length):ln w (bR w.ak.length x) (p:Int) (w.ak.getD p 0-lB p w.au)=some (b9 (G4 w x p))∧LF (G4 w x p)<=1000000020:=by
 have f:=KX a b;obtain⟨j,g,_,_,d,e⟩:=uP a.given (p:=(p:Int)) (by omega);rw[anY]at d e;exact ZB a b (c p b) (by omega)
def Sv(e:n5 w)(g:BG w=none)(hx:∀p,p<w.ak.length->LF (x p)<=1000000000):jc w (bR w.ak.length x)=some (bR w.ak.length (G4 w x)):=by
 have h:=Jh g;have k:=e.given;have n:=e.mills;have f:aO (kM w) ((0:Int),w.ak)=some ((List.range w.ak.length).map fun p=>w.ak.getD p 0-lB p w.au):=by
  have key:=fun b a=>oU (body:=kM w) w.au (by omega) (fun i (l:List Int)=>l=(List.range w.ak.length).map fun p=>w.ak.getD p 0-lB p (w.au.take i)) (fun l=>l=(List.range w.ak.length).map fun p=>w.ak.getD p 0-lB p w.au) (s0:=w.ak)
   (gZ rfl fun j o=>by grind[lB,List.getElem?_eq_getElem]) b a
  refine (key ?_ ?_).elim fun x ⟨f,hx⟩=>hx ▸ f
  ·rintro i m _ c rfl;have d:=aQ c;refine⟨_,?_,rfl⟩;simp only[kM];rw[if_pos (by simpa using d),aS c,aoo,agL e h c,aoo,ba (by omega)]
  ·rintro _ rfl;refine⟨_,?_,rfl⟩;grind[kM]
 have q:aO (kO w (bR w.ak.length x) ((List.range w.ak.length).map fun p=>w.ak.getD p 0-lB p w.au)) ((0:Int),[])=some (bR w.ak.length (G4 w x)):=by
  have key:=fun b a=>oU (body:=kO w (bR w.ak.length x) ((List.range w.ak.length).map fun p=>w.ak.getD p 0-lB p w.au)) (List.range w.ak.length) (by simp;omega) (fun i (l:List an)=>l=bR i (G4 w x)) (fun l=>l=bR w.ak.length (G4 w x)) (s0:=[]) rfl b a;refine (key ?_ ?_).elim fun x ⟨f,hx⟩=>hx ▸ f
  ·rintro i y _ r rfl;have d:i<w.ak.length:=by grind
   refine⟨_,?_,rfl⟩;simp only[kO];rw[xn,if_pos (by simpa using d),aS (dC _ d),aoo,(adY h hx d).1,aoo,acT (by omega) (by rw[cZ];simp;omega),aoo,ba (by omega)];grind[bR,List.range_succ]
  ·rintro _ rfl;refine⟨_,?_,rfl⟩;grind[kO]
 unfold jc;rw[uz e,aoo,g,if_neg (by simp),cZ,if_neg (by simp),Sw (by omega) hx,aoo,aoo,if_neg (by simp)];grind[cy,y7]
def Wa(b:n5 w):∃l,jc w []=some l:=by
 cases a:BG w with
 | some r =>
  have c:=Pn a;unfold jc;rw[uz b,aoo,a,if_pos (by simpa using c)];exact⟨_,rfl⟩
 | none =>
  by_cases d:w.ak.length=0
  ·have:=Sv (x:=fun _=>0) b a (fun p e=>by omega);rw[d]at this;exact⟨_,this⟩
  ·unfold jc;rw[uz b,aoo,a,if_neg (by simp),if_pos (by simp;omega)];exact⟨_,rfl⟩
end
set_option maxRecDepth 100000
def aji:Ag=some true:=by kernel_rfl
def adV{l m:List Int}(c:l.length<4611686018427387904):nJ l m=some (decide (l=m)):=by
 unfold nJ
 by_cases hlen:l.length=m.length
 rotate_left
 ·rw[if_pos (by grind),decide_eq_false (fun h=>hlen (by rw[h]))]
 rw[if_neg (by simp[hlen]),oA l (fun i x=>if m[i]? = some x then none else some false) c (fun i x b =>?_) (by grind[oP]),aoo]
 ·cases d:eU (fun (i:Nat) (x:Int)=>if m[i]? = some x then none else some false) 0 l with
  | none =>
   have:l=m:=aoZ fun j=>by
    grind[cT,List.getElem?_eq_getElem]
   simp_all
  | some q =>
   obtain⟨j,x,g,a,_⟩:=dj d;rw[an5]at a;split at a
   ·cases a
   ·rename_i hbad;cases a;rw[decide_eq_false (fun h=>hbad (by simp_all))]
 ·have e:=aQ b;have f:m[i]? = some (m[i]'(by omega)):=anj _;simp only[oP];rw[if_pos (by simpa using e),aS b,aoo,aS f,aoo,ba (by omega)];grind
def Yh{b c:aF}(h:b.aa.length<4611686018427387904):ur b c=some (decide (b=c)):=by
 obtain⟨s,l⟩:=b;obtain⟨t,m⟩:=c;unfold ur;simp only at h ⊢
 by_cases a:s=t
 ·simp_all[if_pos,adV,aoo]
 simp_all
def ajh{a b:Rat}(h:LF a<=dh):tV (b9 a) (b9 b)=some (decide (a=b)):=by
 have c:=Dm h;unfold dh at c;unfold tV;rw[Yh (by omega),aoo]
 by_cases h1:(b9 a).bF=(b9 b).bF
 ·rw[if_pos (decide_eq_true h1),Yh (by omega),aoo]
  by_cases d:(b9 a).bJ=(b9 b).bJ
  ·grind[b9,decide_eq_true,vR]
  grind[decide_eq_false]
 ·rw[if_neg (by simpa using h1),decide_eq_false (fun e=>h1 (by rw[e]))]
section
variable {w:aT} {S:List (List an)} {s:Nat->Nat->Rat} {x:Nat->Rat} {r:Nat->Int}
end
def abI{n:Nat}{f:Nat->Rat}(d:n<=100)(c:∀k,k<n->LF (f k)<=dh):ox (bR n f) (bR n f)=some true:=by
 unfold ox;rw[if_neg (by simp),oA (bR n f) (fun _ _=>(none:Option Bool)) (by rw[cZ];omega) (fun k y b =>?_) (by simp only[we];simp_all)]
 ·rw[JJ];rfl
 ·have a:k<n:=by grind[aQ,cZ]
  rw[fw f a]at b;obtain rfl:=ao0 b;simp only[we];rw[cZ,if_pos (by simpa using a),aS (fw f a),aoo,aoo,abH (c k a),decide_eq_true rfl,aoo,if_neg (by simp),ba (by omega)]
section
variable {w:aT} {S:List (List an)} {s s':Nat->Nat->Rat} {x x':Nat->Rat} {r:Nat->Int} {t:Rat}
def aeQ{i:Nat}{m:bl}(a:w.au[i]? = some m):Gz w i=m.ax.aN.length:=by unfold Gz;rw[a];rfl
end
def agb{S:List (List an)}(h:ajW S):SzA 100 S:=fun r a f b=>by have:=(h.row r a).2 f b;omega
def OC{x:Nat->Rat}{M:Nat}:∀{T:List Tm},(∀t∈T,LF t.2+LF (x t.1)+1<=M)->Hk T x<=T.length*M
 | [],_=>am7 _
 | t::T,h=>by
  have b:=OC (T:=T) fun u a=>h u (aoj _ a);have c:=h t aoi;simp only[Hk,List.length_cons];grind
section
variable {w:aT} {S:List (List an)} {s:Nat->Nat->Rat} {x:Nat->Rat} {r:Nat->Int}
def aj3(p:n5 w)(q:gL w)(l:OkS w S s){i k:Nat}{m:bl}{y:um}(f:w.au[i]? = some m)(r:m.ax.aN[k]? = some y):Bt m.ax (k:Int) (bR m.ax.aw.length (s i))=some (b9 (ym w s i k)):=by
 have t:dh=4398046511104:=rfl;have a:=anv f;have g:=(p.mill m a).1;have n:=(q.fit m a).flow;have A:=g.srcs;have o:=aQ r;have B:=A3;have d:∀j,j<m.ax.aw.length->LF (CX m.ax k j*s i j)<=104:=fun j c=>by
  obtain⟨_,_,_,_,h⟩:=qz g n o c;have:=wv (CX m.ax k j) (s i j);have:=(l.nn i m f j c).2;omega
 have key:aO (vd m.ax (k:Int) (bR m.ax.aw.length (s i))) (0,U0 0)=some (U0 (0+ym w s i k)):=by
  have e:ym w s i k=bW (List.range m.ax.aw.length) fun j=>CX m.ax k j*s i j:=by unfold ym;rw[f];rfl
  rw[e];refine aj8 id _ _ (by omega) d (fun j b c C =>?_) (fun b=>by
   simp_all[vd,U0,cZ,if_neg])
  obtain⟨u,v,x,_,D⟩:=qz g n o c;have E:=d j c;have F:=(l.nn i m f j c).2;have z:yp (an.mk (aF.mk (b9 b).bF.al (b9 b).bF.aa) (aF.mk (b9 b).bJ.al (b9 b).bJ.aa)) (b9 (CX m.ax k j*s i j))=some (b9 (b+CX m.ax k j*s i j),0):=amd (by omega);simp only[vd,U0];rw[cZ,if_pos (by simpa using c),aS v,aoo,aS x,aoo,aS (fw _ c),aoo,ajZ (by omega),aoo,z,aoo,ba (by omega)]
 unfold Bt;rw[akm,aoo];erw [key];rw[show (0:Rat)+ym w s i k=ym w s i k by grind];rfl
def agc(a:gL w)(e:∀p,p<w.ak.length->LF (x p)<=1000000000){m:bl}(b:m∈w.au){u:fE}(c:u∈m.aX):tY w u (bR w.ak.length x)=some (b9 (GY w.ak u*x u.bg.toNat)):=by
 have f:dh=4398046511104:=rfl;obtain⟨g,l⟩:=(a.fit m b).uses u c;obtain⟨j,h,i,d,n,o⟩:=uP a.given g;have q:=(O0 a.given (a.fit m b) c).1;have k:=e j i;have r:AA u.aR (w.ak.getD u.bg.toNat 0)=some (b9 (GY w.ak u),0):=Of5 (by omega) (by omega) (by omega);have s:P.idx w.ak u.bg=some (w.ak.getD u.bg.toNat 0):=by rw[h]at d ⊢;exact aS d
 have t:P.idx (bR w.ak.length x) u.bg=some (b9 (x u.bg.toNat)):=by grind[aS,fw]
 grind[tY,ajZ]
def WC(h:n5 w)(b:HF w S s x r){i:Nat}{m:bl}(a:w.au[i]? = some m){e:Int} :
  aO (iH S (xl w s x w.au.length,bR w.ak.length x,e) (i:Int) m) ((0:Int),rj w s i 0)=some (.inl (rj w s (i+1) 0)):=by
 have o:=Jh b.err;have c:=anv a;have u:=(h.mill m c).1;have F:=u.outs;have key:=fun j d=>oU (body:=iH S (xl w s x w.au.length,bR w.ak.length x,e) (i:Int) m) m.ax.aN (by omega) (fun k (l:List an)=>l=rj w s i k) (fun q=>q=.inl (rj w s (i+1) 0)) (s0:=rj w s i 0) rfl j d;refine (key ?_ ?_).elim fun x ⟨v,hx⟩=>hx ▸ v
 ·rintro k y _ f rfl;have t:=aQ f;simp only[iH];rw[if_pos (by simpa using t),aS f,aoo,ba (by omega)]
  by_cases n:y.bj=0
  ·obtain⟨p,g,A,B⟩:=ZD o a f n;have C:(xl w s x w.au.length)[i]? = some (bR (Gz w i) (Au w s x i)):=dC _ (aQ a);have D:(bR (Gz w i) (Au w s x i))[k]? = some (b9 (Au w s x i k)):=fw _ (by rw[aeQ a];exact t);obtain⟨z,E⟩:=RU (s:=s) (i:=i) (k:=k) g;rw[if_neg (by simp[n]),A,aoo,aS C,aoo,aS D,aoo,aS (fw x g),aoo,aa7 h b g B,ajh (by have:=b.sz p g;unfold dh;omega),decide_eq_true rfl,aoo,if_neg (by simp),aS (b.amt.row i m a),aoo,aj3 h o b.amt a f,aoo,aS E,aoo,anY];grind[RV]
  ·rw[if_pos (by simpa using n)];grind[MC]
 ·rintro _ rfl;refine⟨_,?_,rfl⟩;simp only[iH];rw[if_neg (by simp),RS a]
def BL(g:List Int)(x:Nat->Rat)(p:Nat)(l:List fE):Rat:=bW l fun u=>qt p u (GY g u*x u.bg.toNat)
def yF(g:List Int)(x:Nat->Rat)(p:Nat)(l:List bl):Rat:=bW l fun m=>BL g x p m.aX
def afD(g:List Int)(x:Nat->Rat)(p:Nat)(l:List fE)(u:fE):BL g x p (l++[u])=BL g x p l+qt p u (GY g u*x u.bg.toNat):=by
 grind[BL,bW,lh]
def aad(a:gL w)(b:∀p,p<w.ak.length->LF (x p)<=1000000000){m:bl}(c:m∈w.au)(p:Nat){l:List fE}(d:∀u∈l,u∈m.aX):LF (BL w.ak x p l)<=1+l.length*1000000021:=by
 refine Hn fun u e =>?_;unfold qt;split
 ·exact (Eb a b c (d u e)).2.1
 grind[Nat.le_trans,A3]
def ahs(c:n5 w)(d:gL w)(e:∀p,p<w.ak.length->LF (x p)<=1000000000)(p:Nat){l:List bl}(a:∀m∈l,m∈w.au):LF (yF w.ak x p l)<=1+l.length*7000000001:=by
 refine Hn (K:=7000000000) fun m b =>?_;have f:=aad d e (a m b) p (l:=m.aX) fun u hu=>hu;have g:=(c.mill m (a m b)).2.1;omega
def abE(g:n5 w)(c:gL w)(hx:∀p,p<w.ak.length->LF (x p)<=1000000000){i:Nat}{m:bl}(s:w.au[i]? = some m){o:List (List an)}{e:Int} :
  aO (iI w (o,bR w.ak.length x,e) m) ((0:Int),bR w.ak.length fun p=>x p-yF w.ak x p (w.au.take i))=some (bR w.ak.length fun p=>x p-yF w.ak x p (w.au.take (i+1))):=by
 have t:dh=4398046511104:=rfl;have a:=anv s;have E:=(g.mill m a).2.1;have F:=g.mills;have G:=aQ s;have h:w.au.take (i+1)=w.au.take i++[m]:=by
  grind[List.getElem?_eq_some_iff,List.take_succ_eq_append_getElem]
 have key:=fun j d=>oU (body:=iI w (o,bR w.ak.length x,e) m) m.aX (by omega) (fun k (l:List an)=>l=bR w.ak.length fun p=>x p-(yF w.ak x p (w.au.take i)+BL w.ak x p (m.aX.take k))) (fun l=>l=bR w.ak.length fun p=>x p-yF w.ak x p (w.au.take (i+1))) (s0:=bR w.ak.length fun p=>x p-yF w.ak x p (w.au.take i))
  (vO fun p _=>by grind[BL,bW]) j d
 refine (key ?_ ?_).elim fun x ⟨y,hx⟩=>hx ▸ y
 ·rintro k u _ n rfl;have z:=aQ n;have b:=anv n;obtain⟨H,I,A⟩:=Eb c hx a b;have J:=((c.fit m a).uses u b).1;have f:m.aX.take (k+1)=m.aX.take k++[u]:=by
   grind[List.getElem?_eq_some_iff,List.take_succ_eq_append_getElem]
  have B:=aad c hx a u.bg.toNat (l:=m.aX.take k) fun v r=>anK r;have C:=ahs g c hx u.bg.toNat (l:=w.au.take i) fun v r=>anK r;have K:=hx _ A;have L:=xF (yF w.ak x u.bg.toNat (w.au.take i)) (BL w.ak x u.bg.toNat (m.aX.take k));have M:=OV (x u.bg.toNat) (yF w.ak x u.bg.toNat (w.au.take i)+BL w.ak x u.bg.toNat (m.aX.take k));rw[ann]at B C;have D:P.idx (bR w.ak.length fun p=>x p-(yF w.ak x p (w.au.take i)+BL w.ak x p (m.aX.take k))) u.bg=some (b9 (x u.bg.toNat-(yF w.ak x u.bg.toNat (w.au.take i)+BL w.ak x u.bg.toNat (m.aX.take k)))):=by
   grind[yF,BL,aS,fw]
  simp only[iI];rw[if_pos (by simpa using z),aS n,aoo,D,aoo,agc c hx a b,aoo,acH (by omega),aoo,ba (by omega)];refine⟨_,rfl,?_⟩;unfold bR;rw[gJ];refine aom fun q _ =>?_;show (if q=u.bg.toNat then b9 (x u.bg.toNat-(yF w.ak x u.bg.toNat (w.au.take i)+BL w.ak x u.bg.toNat (m.aX.take k))-GY w.ak u*x u.bg.toNat) else b9 (x q-(yF w.ak x q (w.au.take i)+BL w.ak x q (m.aX.take k))))=b9 (x q-(yF w.ak x q (w.au.take i)+BL w.ak x q (m.aX.take (k+1))));rw[f,afD];unfold qt;grind
 ·rintro _ rfl;refine⟨_,?_,rfl⟩;simp only[iI];rw[if_neg (by simp),aoY,h];refine congrArg some (congrArg Sum.inr (vO fun p _ =>?_));grind[yF,bW,lh]
def ae8(a:gL w){p:Nat}(b:p<w.ak.length):x p-yF w.ak x p w.au=G4 w x p:=by
 have c:=afS a fun q=>if q=p then x q else 0
 rw[aaX a b];congr 1;rw[bx (l:=List.range w.ak.length) (g:=fun q=>if q=p then Rat.divInt (lB q w.au) (w.ak.getD q 0)*x q else 0) fun q _=>by split<;>grind,mS b]at c;rw[<- c];unfold yF BL;refine bx fun m d=>bx fun u e =>?_;have:=((a.fit m d).uses u e).1;unfold qt;grind
def aa8(c:n5 w)(d:HF w S s x r){e:Int} :
  aO (iG w S (xl w s x w.au.length,bR w.ak.length x,e)) ((0:Int),List.replicate w.ak.length zF,bR w.ak.length x)=some (.inl (bR w.ak.length (y8 w s),bR w.ak.length (G4 w x))):=by
 have f:=Jh d.err;have h:=c.mills;have key:=fun g a=>oU (body:=iG w S (xl w s x w.au.length,bR w.ak.length x,e)) w.au (by omega) (fun i (l:List an×List an)=>l=(rj w s i 0,bR w.ak.length fun p=>x p-yF w.ak x p (w.au.take i))) (fun q=>q=.inl (bR w.ak.length (y8 w s),bR w.ak.length (G4 w x))) (s0:=(List.replicate w.ak.length zF,bR w.ak.length x))
  (by rw[Ii (s:=s)];refine Prod.ext rfl (vO fun p _ =>?_);grind[yF,bW]) g a
 refine (key ?_ ?_).elim fun x ⟨j,hx⟩=>hx ▸ j
 ·rintro i m _ b rfl;have k:=aQ b;refine⟨_,?_,rfl⟩;simp only[iG];rw[if_pos (by simpa using k),aS b,aoo,WC c d b,aoo];simp only;rw[abE c f d.sz b,aoo,ba (by omega)]
 ·rintro _ rfl;refine⟨_,?_,rfl⟩;simp only[iG];rw[if_neg (by simp),aoY,MB f,vO fun p n=>ae8 f n]
end
def K8(a:aT)(j:List (List an)):jA a j=some true:=by
 have o:dh=4398046511104:=rfl;obtain⟨b,q,v⟩:=adX a;obtain⟨c,f1,f2⟩:=akj j;unfold jA;rw[aji,aoo,q,aoo];cases b with
 | false=>rfl
 | true =>
 rw[if_neg (by simp),f1,aoo,aoo];cases c with
 | false=>rfl
 | true =>
 have f:=v rfl;have w:=f2 rfl;have y:=f.given;have z:=f.mills;rw[if_neg (by simp)];rcases Ry f (agb w) with⟨e,A,G,_⟩|⟨s,x,r,d⟩
 ·obtain⟨l,H⟩:=Wa f;rw[A,aoo];simp_all[aoo,of_eq,if_pos]
 have h:=Jh d.err;have k:=JH f h;have i:=PS y (DX f h).2;have B:(xl a s x a.au.length).length=a.au.length:=by unfold xl;simp
 have m:∀p,p<a.ak.length->LF (G4 a x p)<=1000000020:=fun p g=>(adY h d.sz g).2;obtain⟨c,C,D⟩:=acm (K:=2700) k (by decide) i.2 (fun p g=>(O5 f h d.amt g).1) (fun p g=>by have:=d.sz p g;omega) (x:=x) (fun p g=>by
  have I:=(O5 f h d.amt g).1;have J:=d.sz p g;have L:Hk (cu (ki a.ak.length (kz (qE a))) p) x<=(cu (ki a.ak.length (kz (qE a))) p).length*1000002701:=OC fun t E=>by
   obtain⟨u,n,M,rfl⟩:=xf.1 E;have j:=i.2 u n;have N:=d.sz u.1 (k.rng u n).1;grind
  grind[cu,ki,kz,qE])
 obtain rfl:c=true:=D.2 d.sol;rw[d.out,aoo];simp only;rw[Sv f d.err d.sz,aoo,of_eq f,d.err,aoo,if_neg (by simp),if_neg (by simp),B,if_neg (by simp),cZ,if_neg (by simp),cZ,aoo,if_neg (by simp),DS _ (by omega) (by omega),aoo,acT (by omega) (by rw[cZ];simp;omega),aoo,aa8 f d,aoo];simp only[if_true];have F:mN (WQ a (qE a)) (bR a.ak.length (y8 a s)) (bR a.ak.length x)=some true:=C;rw[F,aoo,if_pos rfl,abI (by omega) (fun p g=>by grind),aoo]
end Go.Proofs.YtobnihfgnbnncaaGreat.P
