import Derived.Test.YtokgehacmjmfkaaGreatIe
set_option linter.unusedSimpArgs false
set_option linter.unusedVariables false
set_option linter.defProp false
noncomputable section
open Go.Proofs.Tryz
namespace Go.Proofs.YtokgehacmjmfkaaGreat.Am
open Go.RowKit P
variable (l:Option (D×Row)) (d:List D)
set_option maxRecDepth 100000
set_option maxHeartbeats 4000000
section
variable {P:Program} {T:Nat->Option Ty} {N F:Nat} {M:Nat->Prop} {L:kx} {w0:World} {blk:Nat->Option (Nat×Nat)} {t:Nat->D} {h:Nat->Option Row} {a:Act} {w:World} {e:Nat} {Γ:Env} {done:List Nat}
def F8 (d:uR N M L w0 blk e done t h a w):Holds N M L w0 ⟨t,h,e+1⟩ a w:=by
 refine⟨blk,d.inv.weaken fun x v c =>?_,fun x r f s g i j k l m =>?_⟩
 ·rcases c with⟨b,c|⟨c,_⟩⟩|⟨b,o,p,n⟩
  ·exact .inl ⟨b,.inl (by simp only;omega)⟩
  ·exact .inl ⟨b,.inl (by simp only;omega)⟩
  ·exact .inr ⟨b,by simp only;omega,fun _=>by simp only;omega,n⟩
 ·have:=d.nv x r f s g i j k l m;exact⟨by simp only;omega,fun _=>by simp only;omega⟩
def Hi (p:ji P T) (q:bI P Γ) {b l:List Oper} {K:(Nat->D)->(Nat->Option Row)->Prop} {Q:Exit->Act->World->Prop} (r:uR N M L w0 blk e done t h a w) (j:(l.filterMap (·.dst)).Nodup) (s:∀o∈l,∀d,o.dst=some d->d∉done)
  (u:l7 T Γ N F b l [] (fun _ t h _=>K t h) t h e) (hQ:∀c f g i,K c f->Holds N M L w0 ⟨c,f,e+1⟩ g i->Q .normal g i):wpList P b.toArray Q l a w:=by
 obtain⟨c,f,y,v,x⟩:=Br (T:=T) (Γ:=Γ) (N:=N) (e:=e) (ops:=b.toArray) l t h u;exact Au p q v j s r fun g i n k m=>hQ c f g i x (F8 m)
def ZS (p:ji P T) (q:bI P Γ) {b l:List Oper} {o:Oper} {K:(Nat->D)->(Nat->Option Row)->Prop} {Q:Exit->Act->World->Prop} (r:uR N M L w0 blk e done t h a w) (s:∀d,o.dst=some d->d∉done)
  (u:l7 T Γ N F b [o] [] (fun _ t h _=>K t h) t h e) (hQ:∀i j k m c,K i j->uR N M L w0 c e (o.dst.toList++done) i j k m->wpList P b.toArray Q l k m):wpList P b.toArray Q (o::l) a w:=by
 obtain⟨i,j,z,g,v⟩:=Br (T:=T) (Γ:=Γ) (N:=N) (e:=e) (ops:=b.toArray) [o] t h u;simp only[CI]at g;split at g
 ·rename_i t1 x f y;simp only[aiA,Prod.mk.injEq]at g;obtain⟨rfl,rfl,_⟩:=g;unfold wpList;exact MV p q r y s fun k m c n=>hQ _ _ _ _ c v n
 ·cases g
def AI (m:ji P T) (n:bI P Γ) (o:P.follows .mixedOrders=true) {c:Code} {K:Kt} {Q:Exit->Act->World->Prop} (p:Holds N M L w0 ⟨t,h,e⟩ a w) (g:codeOk c=true) (q:dD T Γ N F [.code c] K .normal t h e)
  (hQ:∀x j k l b d,K x j k l->Holds N M L w0 ⟨j,k,l⟩ b d->Q (FK x) b d):c.wp P Q a w:=by
 obtain⟨x,f,r,s⟩:=CU c t h e K q;exact jM m n o c ⟨t,h,e⟩ x f Q a w r g p fun b d i=>hQ x f.t f.h f.e b d s i
def iS.maps {c:Nat->Option Row} (o:∀x,c x=h x∨∃v j k l m a,c x=some ⟨v,j,[.mpc k l],m,a,true⟩):iS e h c:=by
 intro x p d q f g b r n s;rcases o x with i|⟨v,j,k,l,m,a,i⟩
 ·rw[i]at b;exact⟨p,d,q,f,g,b,r,n,.inl rfl⟩
 ·rw[i]at b;cases b;cases n
def ZN {d:Nat} (b:d<N) (f:N<=PK) (c:d∉done):j0 N (VE N e done h) d e where
 no:=by
  rintro (⟨_,a|⟨_,a⟩⟩|⟨a,_⟩)
  ·exact absurd a (Nat.lt_irrefl _)
  ·exact c a
  ·have:=cK;omega
 lt:=b
end
def map_eraseIdx {α β:Type} (f:α->β):∀(l:List α) (j:Nat),(l.map f).eraseIdx j=(l.eraseIdx j).map f
 | [],_=>rfl
 | a::l,0=>rfl
 | a::l,j+1=>by simp[map_eraseIdx f l j]
def Ba {α:Type} : ∀m:List ((Int×Int)×α),eR m=m.map fun q=>BI.k q.1
 | []=>rfl
 | (k,v)::m=>by simp[eR,Ba m]
def Gq {α:Type} (A:Arg α):∀m:List ((Int×Int)×α),gJ A m=m.map fun q=>A.d q.2
 | []=>rfl
 | (k,v)::m=>by simp[gJ,Gq A m]
def G5 {α:Type} : ∀ {l:List α} {j:Nat} {q:α},l[j]? = some q->l.Perm (q::l.eraseIdx j)
 | [],_,_,h=>by simp at h
 | a::l,0,q,h=>by simp only[List.getElem?_cons_zero,aiA]at h;subst h;exact akF _
 | a::l,j+1,q,h=>by
  simp only[List.getElem?_cons_succ]at h;exact ((G5 h).cons a).trans (List.Perm.swap q a _)
def jf (q:(Int×Int)×al):bV:=bV.mk q.1.1 q.1.2 q.2
def afl (r:dE×Int) (t:Nat->D) (h:Nat->Option Row) (e:Nat):Prop:=∃(m:List ((Int×Int)×al)) (a:Int) (b c d f:Nat),t 6=.mp 21 b∧h 21=some ⟨b,67,[.mpc (eR m) (gJ (bJ au) m)],false,true,true⟩ ∧
 t 9=.ptr 9 c 0∧h 9=some ⟨c,32,[.nr 50 6 f [.int .i64 a,.nx 0 []]],false,false,true⟩∧t 2=.ptr 2 d 0∧h 2=some ⟨d,32,[.int .i64 0,.sl true true 0 []],false,false,false⟩∧f<=4*e∧Em a m=some r
def EA:=mkW 50 bP (dy (Yc 25)) (fun (l:List bV) (_:Unit)=>DR (kL bV.cM bV.jR) l) (fun _:Unit =>.clean (.tup []))
def aaD (b a:List D) (c:List bV):EA (some (.buf 0 0 6 b.length c.length,⟨0,50,b++(ae bP c++a),false,true,false⟩)) [.fn 25]=(DR (kL bV.cM bV.jR) c).map fun r=>(.clean (.tup []),some ⟨0,50,b++(ae bP r.1++a),false,true,false⟩):=aal _ _ _ _ _ b a c ()
def Xz:bZ prog 24 EA:=MA w7 (fun x=>by rw[qF];rfl) (fun x=>by rw[qF];rfl) 50
def SI:Env:=(Am.wA 9 (50,6,1) (Am.ext bf 24 true EA))
def s4:bI prog SI:=bI.wA (bI.none.add Xz true) 9 (50,6,1)
def xX:=ai @w<|@SI.eq_1
def Uk (m:List ((Int×Int)×al)) (a:Int) (d:List ((Int×Int)×al)) (t:Nat->D) (h:Nat->Option Row) (e:Nat):Prop:=∃(f:List dx) (g:List D) (b:List bV) (i c j k l:Nat),
 t 44=.ptr 44 i 0∧h 44=some ⟨i,c,[.mpc f g],false,true,true⟩∧900000<=c∧f.drop (c-900000)=eR d∧g.drop (c-900000)=gJ (bJ au) d ∧
 t 9=.ptr 9 j 0∧h 9=some ⟨j,32,[.nr 50 6 l [.int .i64 a,.nx b.length (ae bP b)]],false,false,true⟩∧t 2=.ptr 2 k 0∧h 2=some ⟨k,32,[.int .i64 0,.sl true true 0 []],false,false,false⟩∧l<=4*e∧(b++d.map jf).Perm (m.map jf)
def acv {m:List ((Int×Int)×al)} {c:Int} (B:m.length<=8000∧(m.map (·.1)).Nodup) {t:Nat->D} {h:Nat->Option Row} {e:Nat} {w0:World} {M:Nat->Prop} {a:Act} {w:World} (C:Uk m c [] t h e) (E:Holds 65 M none w0 ⟨t,h,e⟩ a w) :
  (CO 0 (CO 5 (YM Tryz.f7))).wp prog (bodyPost prog Tryz.f7 fun e o=>∃v,e=.returned v∧Below w0.heap.size w0 o∧wI w0 o M (fun _=>False) v (.clean (.tup [.agg [.int .i64 c,.sl false false (qm (kL bV.cM bV.jR) (m.map jf)).length (ae bP (qm (kL bV.cM bV.jR) (m.map jf)))],.int .i64 0]))) a w:=by
 obtain⟨ks,vs,b,vI,ty,v9,v2,nv,i1,i2,i3,i4,i5,G,H,I,J,L,d⟩:=C;rw[ajg,akr]at d;have hkey:∀x∈b,∀y∈b,kL bV.cM bV.jR x y=0->x=y:=by
  intro x r y s N;obtain⟨p,O,rfl⟩:=aiq.1 (d.mem_iff.1 r);obtain⟨q,P,rfl⟩:=aiq.1 (d.mem_iff.1 s);obtain⟨Q,R⟩:=TT.1 N;have S:p.1=q.1:=Prod.ext Q R;have:p=q:=by
   obtain⟨i,T,rfl⟩:=List.getElem_of_mem O;obtain⟨j,U,rfl⟩:=List.getElem_of_mem P;have:=(List.getElem_inj (h₀:=by simpa using T) (h₁:=by simpa using U) B.2).1 (by simpa using S);subst this;rfl
  rw[this]
 have f:qm (kL bV.cM bV.jR) b=qm (kL bV.cM bV.jR) (m.map jf):=by
  refine pB (((jm _ b).trans d).trans (jm _ _).symm) (fun x r y s h1 h2=>hkey x ((jm _ b).mem_iff.1 r) y ((jm _ b).mem_iff.1 s) ?_) (nT (uC _ _) _) (nT (uC _ _) _);have:=(uC bV.cM bV.jR).neg x y;have:=(uC bV.cM bV.jR).neg y x;omega
 have g:b.length=m.length:=by rw[d.length_eq,aiV]
 have z:DR (kL bV.cM bV.jR) b=some (qm (kL bV.cM bV.jR) (m.map jf),()):=by
  unfold DR;rw[if_pos ⟨by omega,hkey⟩,f]
 have k:(qm (kL bV.cM bV.jR) (m.map jf)).length=b.length:=by rw[oR,aiV,g]
 generalize qm (kL bV.cM bV.jR) (m.map jf)=l at z k ⊢;have A:=aaD [] [] b;simp only[List.nil_append,akr,List.length_nil,bM]at A;refine (show (Code.seq (Code.region _ _ _) (Code.seq (Code.region _ _ _) Code.ret)).wp _ _ _ _ from ?_);refine AI (F:=FU) tok s4 mixed E (by kernel_rfl) (K:=fun x t h e=>x=.ret∧gi .clean tab none [.cell 2 32,.tmp 3] ⟨t,EH h,e⟩=some (.clean (.tup [.agg [.int .i64 c,.sl false false l.length (ae bP l)],.int .i64 0]),none)) ?_ ?_
 ·simp only[xX,seval,G,H,I,J,A,z,k]
 ·rintro x V W X Y o ⟨rfl,Z⟩ u;have n:Holds Tryz.f7.ntmps M none w0 ⟨V,W,X⟩ Y o:=by rw[ntmps7];exact u
  exact JD tok n (by rw[results7];exact Z)
def aaq (r:dE×Int):Nr prog Tryz.f7 (CO 5 (YM Tryz.f7)) (.clean (.tup [.agg [.int .i64 r.1.aC,.sl false false r.1.aP.length (ae bP r.1.aP)],.int .i64 r.2])) (afl r):=by
 intro w0 M s a w hJ E;obtain⟨t0,h0,H⟩:=s;obtain⟨m,c,g,z,A,P,j1,j2,j3,j4,j5,j6,j7,Q⟩:=hJ;dsimp only at j1 j2 j3 j4 j5 j6 j7;unfold Em at Q
 by_cases hc:m.length<=8000∧(m.map (·.1)).Nodup
 rotate_left
 ·rw[if_neg hc]at Q;cases Q
 rw[if_pos hc]at Q;cases Q;rw[ntmps7]at E;apply wp_seq;apply wp_seq;obtain⟨blk,B⟩:=E;apply wp_region_lit;refine ZS (F:=FU) tok s4 B (fun d _=>by simp) (K:=fun t h=>t=b6 t0 43 (.mp 21 g)∧h=h0) (by simp only[xX,seval,j1,j2]) ?_;rintro t1 h1 a1 w1 an ⟨rfl,rfl⟩ G;refine BS rfl G (by decide) (K:=fun t h=>t=b6 (b6 t0 43 (.mp 21 g)) 44 (.ptr 44 H 0)∧h=b6 (b6 h1 21 (some ⟨g,67,[.mpc (eR m) (gJ (bJ au) m)],true,true,true⟩)) 44 (some ⟨H,900000,[.mpc (eR m) (gJ (bJ au) m)],false,true,true⟩)) ?_ ?_
 ·refine eE.mono (Ss tok G.inv (e:=H) (ty:=67) (d:=44) (k:=70) (el:=41) (x:=21) (v:=g) (v':=g) (m := .tmp 43) rfl rfl (ZN (by decide) (by rw[cK];decide) (by simp)) underlying67 (by simp[ev,ax]) j2 (by decide) (by rw[cK];decide) (by decide)) fun v w' hA=>⟨_,⟨rfl,rfl⟩,yn G (fun d I =>?_) (iS.maps fun x =>?_) hA⟩
  ·cases I;exact⟨by simp,by decide⟩
  ·show b6 (b6 h1 21 _) 44 _ x=_∨_
   by_cases l:x=44
   ·subst l;rw[ax];exact .inr ⟨_,_,_,_,_,_,rfl⟩
   ·rw[az _ _ l]
    by_cases R:x=21
    ·subst R;rw[ax];exact .inr ⟨_,_,_,_,_,_,rfl⟩
    ·rw[az _ _ R];exact .inl rfl
 ·rintro t2 h2 S T ao ⟨rfl,rfl⟩ U;have V:=F8 U;have W:Uk m c m (b6 (b6 t0 43 (.mp 21 g)) 44 (.ptr 44 H 0)) (b6 (b6 h1 21 (some ⟨g,67,[.mpc (eR m) (gJ (bJ au) m)],true,true,true⟩)) 44 (some ⟨H,900000,[.mpc (eR m) (gJ (bJ au) m)],false,true,true⟩)) (H+1) :=
   ⟨_,_,[],H,900000,z,A,P,ax _ _ _,ax _ _ _,air _,by rw[ajD,ajV],by rw[ajD,ajV],by rw[az _ _ (by decide),az _ _ (by decide)];exact j3,by rw[az _ _ (by decide),az _ _ (by decide)];exact j4,by rw[az _ _ (by decide),az _ _ (by decide)];exact j5,by rw[az _ _ (by decide),az _ _ (by decide)];exact j6,by omega,akF _⟩
  apply wp_block;refine wp_loop_ghost (fun n a w=>∃(o:List ((Int×Int)×al)) (t:Nat->D) (h:Nat->Option Row) (e:Nat),o.length=n∧Uk m c o t h e∧Holds 65 M none w0 ⟨t,h,e⟩ a w) m.length ⟨m,_,_,_,rfl,W,V⟩ ?_;clear W V U G B j1 j2 j3 j4 j5 j6 j7;rintro n a w ⟨o,t,h,e,hn,⟨ks,vs,f,C,ty,z,A,P,i1,i2,i3,X,i5,i6,i7,i8,i9,av,J⟩,blk,B⟩;replace B:uR 65 M none w0 blk e [] t h a w:=B;apply wp_seq;apply wp_region_lit;refine BS rfl B (by decide) (K:=fun t' h'=>(o=[]∧t'=b6 t 45 (.tup [.bool false])∧h'=h)∨∃(k:Int×Int) (x:al) (b:List ((Int×Int)×al)),(o.map jf).Perm (jf (k,x)::b.map jf)∧o.length=b.length+1 ∧
   t'=b6 t 45 (.tup [.bool true,.agg [.int .i64 k.1,.int .i64 k.2],.agg [.int .i64 x.bK.ak,.sl false false x.bK.aa.length (ae (eI .i64) x.bK.aa),.int .i64 x.bL.ak,.sl false false x.bL.aa.length (ae (eI .i64) x.bL.aa)]]) ∧
   h'=b6 h 44 (some ⟨C,900001,[.mpc (eR ((k,x)::b)) (gJ (bJ au) ((k,x)::b))],false,true,true⟩)) ?_ ?_
  ·refine eE.mono (WR B.inv (e:=e) (y:=44) (p := .tmp 44) rfl (by simp[ev,i1]) i2 i3 (by rw[cK];decide)) ?_;rintro v w' (⟨L,N⟩|⟨j,k,x,L,N,Y⟩)
   ·rw[X,Ba]at L;have ad:o=[]:=List.map_eq_nil_iff.1 L;exact⟨_,.inl ⟨ad,rfl,rfl⟩,yn B (fun d I=>by cases I;exact⟨by simp,by decide⟩) (iS.maps fun x =>.inl rfl) N⟩
   ·rw[X,i5]at Y;rw[X]at L;rw[i5]at N;rw[Ba]at L Y;rw[Gq]at N Y;rw[aio]at L N;obtain⟨q,hq,rfl⟩:=aip.1 L;rw[hq]at N;cases N;rw[map_eraseIdx,map_eraseIdx,<- Ba,<- Gq]at Y;have hp:=G5 hq;refine⟨_,.inr ⟨q.1,q.2,o.eraseIdx j,hp.map jf,hp.length_eq,rfl,rfl⟩,yn B (fun d I=>by cases I;exact⟨by simp,by decide⟩) (iS.maps fun x =>?_) Y⟩;show b6 h 44 _ x=_∨_
    by_cases l:x=44
    ·subst l;rw[ax];exact .inr ⟨_,_,_,_,_,_,rfl⟩
    ·rw[az _ _ l];exact .inl rfl
  ·rintro t' h' a' w' aq (⟨rfl,rfl,rfl⟩|⟨k,x,b,p1,p2,rfl,rfl⟩) O
   ·refine Hi (F:=FU) tok s4 O (by decide) (by simp) (K:=fun t' i=>t'=b6 (b6 t 45 (.tup [.bool false])) 46 (.bool false)∧i=h') (by simp only[xX,seval]) ?_;rintro t2 h2 S T ⟨rfl,rfl⟩ E;refine (show Code.wp _ (Code.seq (Code.cond _ Code.skip (Code.exit 2)) _) _ S T from ?_);refine AI (F:=FU) tok s4 mixed E (by kernel_rfl) (K:=fun x t' i Z=>x=.exit 2∧t'=b6 (b6 t 45 (.tup [.bool false])) 46 (.bool false)∧i=h2∧Z=e+1) (by simp only[xX,seval]) ?_;rintro x t3 h3 e3 a3 w3 ⟨rfl,rfl,rfl,rfl⟩ ag;refine acv hc ⟨ks,vs,f,C,ty,z,A,P,?_,i2,i3,X,i5,?_,i7,?_,i9,by omega,J⟩ ag
    ·rw[az _ _ (by decide),az _ _ (by decide)];exact i1
    ·rw[az _ _ (by decide),az _ _ (by decide)];exact i6
    ·rw[az _ _ (by decide),az _ _ (by decide)];exact i8
   ·refine Hi (F:=FU) tok s4 O (by decide) (by simp) (K:=fun t' i=>t'=b6 (b6 t 45 (.tup [.bool true,.agg [.int .i64 k.1,.int .i64 k.2],.agg [.int .i64 x.bK.ak,.sl false false x.bK.aa.length (ae (eI .i64) x.bK.aa),.int .i64 x.bL.ak,.sl false false x.bL.aa.length (ae (eI .i64) x.bL.aa)]])) 46 (.bool true)∧i=b6 h 44 (some ⟨C,900001,[.mpc (eR ((k,x)::b)) (gJ (bJ au) ((k,x)::b))],false,true,true⟩)) (by simp only[xX,seval]) ?_;rintro t2 h2 S T ⟨rfl,rfl⟩ E;refine (show Code.wp _ (Code.seq (Code.cond _ Code.skip (Code.exit 2)) (Code.block 3 (Code.seq (Code.region _ (List.toArray _) false) _))) _ S T from ?_);apply wp_seq;have hF:∃t h,(t 44=.ptr 44 C 0∧t 9=.ptr 9 z 0∧t 2=.ptr 2 A 0∧h 44=some ⟨C,900001,[.mpc (eR ((k,x)::b)) (gJ (bJ au) ((k,x)::b))],false,true,true⟩∧h 9=some ⟨z,32,[.nr 50 6 P [.int .i64 c,.nx f.length (ae bP f)]],false,false,true⟩∧h 2=some ⟨A,32,[.int .i64 0,.sl true true 0 []],false,false,false⟩∧t 46=.bool true)∧Holds 65 M none w0 ⟨t,h,e+1⟩ S T:=by
     refine⟨_,_,⟨?_,?_,?_,ax _ _ _,?_,?_,ax _ _ _⟩,E⟩
     ·rw[az _ _ (by decide),az _ _ (by decide)];exact i1
     ·rw[az _ _ (by decide),az _ _ (by decide)];exact i6
     ·rw[az _ _ (by decide),az _ _ (by decide)];exact i8
     ·rw[az _ _ (by decide)];exact i7
     ·rw[az _ _ (by decide)];exact i9
    clear E O B i1 i2 i3 X i5 i6 i7 i8 i9;clear h t;obtain⟨t,h,⟨f1,f2,f3,f4,f5,f6,f7⟩,E⟩:=hF;refine AI (F:=FU) tok s4 mixed E (by kernel_rfl) (K:=fun x t' i Z=>x=.normal∧t'=t∧i=h∧Z=e+1) (by simp only[xX,seval,f7]) ?_;rintro x' t3 h3 e3 a3 w3 ⟨rfl,rfl,rfl,rfl⟩ ⟨aa,u⟩;replace u:uR 65 M none w0 aa (e+1) [] t3 h3 a3 w3:=u;refine (show Code.wp _ (Code.block 3 (Code.seq (Code.region _ (List.toArray _) false) _)) _ a3 w3 from ?_);apply wp_block;apply wp_seq;apply wp_region_lit;refine BS rfl u (by decide) (K:=fun t' h'=>t'=b6 t3 47 (.tup [.agg [.int .i64 k.1,.int .i64 k.2],.agg [.int .i64 x.bK.ak,.sl false false x.bK.aa.length (ae (eI .i64) x.bK.aa),.int .i64 x.bL.ak,.sl false false x.bL.aa.length (ae (eI .i64) x.bL.aa)]])∧h'=h3) ?_ ?_
    ·refine eE.mono (Sp u.inv (e:=e+1) (y:=44) (p := .tmp 44) (k:=BI.k k) (x:=(bJ au).d x) (ks:=eR b) (vs:=gJ (bJ au) b) rfl (by simp[ev,f1]) f4 (by rw[cK];decide)) fun v w' hA=>⟨_,⟨rfl,rfl⟩,yn u (fun d I=>by cases I;exact⟨by simp,by decide⟩) (iS.refl _ _) hA⟩
    ·rintro t4 h4 a4 w4 ar ⟨rfl,rfl⟩ ah;refine Hi (F:=FU) tok s4 ah (by decide) (by simp) (K:=fun t' h'=>t' 44=.ptr 44 C 0∧t' 9=.ptr 9 z 0∧t' 2=.ptr 2 A 0∧t' 10=.ptr 10 (e+1) 0∧t' 11=.ptr 11 (e+1) 0 ∧
      h' 44=some ⟨C,900001,[.mpc (eR ((k,x)::b)) (gJ (bJ au) ((k,x)::b))],false,true,true⟩∧h' 9=some ⟨z,32,[.nr 50 6 P [.int .i64 c,.nx f.length (ae bP f)]],false,false,true⟩∧h' 2=some ⟨A,32,[.int .i64 0,.sl true true 0 []],false,false,false⟩ ∧
      h' 10=some ⟨e+1,70,[.int .i64 k.1,.int .i64 k.2],false,false,false⟩∧h' 11=some ⟨e+1,41,[.int .i64 x.bK.ak,.sl false false x.bK.aa.length (ae (eI .i64) x.bK.aa),.int .i64 x.bL.ak,.sl false false x.bL.aa.length (ae (eI .i64) x.bL.aa)],false,false,false⟩) (by simp only[xX,seval,f1,f2,f3,f4,f5,f6]) ?_
     rintro t5 h5 a5 w5 ⟨g1,g2,g3,g4,g5,g6,g7,g8,g9,ai⟩ aj;have aw:f.length+1+b.length=m.length:=by
      have:=J.length_eq;simp only[ajB,aiV]at this;omega
     have ab:mK 80 f [jf (k,x)]=some (f++[jf (k,x)]):=by
      unfold mK;have:(17592186044416:Nat)<=maxLen:=by decide
      rw[if_pos ⟨by simp;omega,by simp;omega⟩]
     obtain⟨qa,qb,qc,qd⟩:=iT bP ab;simp only[bM,jf]at qb;have bp:bump P (e+1+1)=some (4*(e+1+1)+1):=kG (by omega);refine (show Code.wp _ (Code.region _ (List.toArray _) false) _ a5 w5 from ?_);refine AI (F:=FU) tok s4 mixed aj (by kernel_rfl) (K:=fun x' t' h' Z=>x'=.normal∧Z=e+1+1+1∧t' 44=.ptr 44 C 0∧t' 9=.ptr 9 z 0∧t' 2=.ptr 2 A 0 ∧
      h' 44=some ⟨C,900001,[.mpc (eR ((k,x)::b)) (gJ (bJ au) ((k,x)::b))],false,true,true⟩∧h' 9=some ⟨z,32,[.nr 50 6 (4*(e+1+1)+1) [.int .i64 c,.nx (f++[jf (k,x)]).length (ae bP (f++[jf (k,x)]))]],false,false,true⟩∧h' 2=some ⟨A,32,[.int .i64 0,.sl true true 0 []],false,false,false⟩)
      (by simp only[xX,seval,g1,g2,g3,g4,g5,g6,g7,g8,g9,ai,qa,qb,qc,qd,bp,jf];exact⟨qc,qd⟩) ?_
     rintro x' t6 h6 e6 a6 w6 ⟨rfl,rfl,l1,l2,l3,l4,l5,l6⟩ ak;refine (show ∃n',n'<n∧∃(o:List ((Int×Int)×al)) (t:Nat->D) (h:Nat->Option Row) (e:Nat),o.length=n'∧Uk m c o t h e∧Holds 65 M none w0 ⟨t,h,e⟩ a6 w6 from ?_);refine⟨b.length,by omega,b,t6,h6,_,rfl,⟨_,_,_,C,900001,z,A,_,l1,l4,by decide,?_,?_,l2,l5,l3,l6,by omega,?_⟩,ak⟩
     ·rw[show 900001-900000=1 from ajR (n:=900000) (m:=1)];rfl
     ·rw[show 900001-900000=1 from ajR (n:=900000) (m:=1)];rfl
     ·rw[ajP];exact (List.Perm.append_left f p1.symm).trans J
def tX:=dN (fK (jZ (eI .i64)) (dy (jZ (eI .i64)))) (fun x:(List Int)×(List Int)=>uX x.1 x.2) (fun r:(List Int)×(List Int) =>.clean (.tup [.sl false false r.1.length (ae (eI .i64) r.1),.sl false false r.2.length (ae (eI .i64) r.2)])) l d
def KC (a:(List Int)) (b:(List Int)):qW none [.sl false false a.length (ae (eI .i64) a),.sl false false b.length (ae (eI .i64) b)]=(qC a b).map fun r:(List Int)=>(.fresh 3 1 r.length (ae (eI .i64) r),none):=cn _ _ _ (a,b)
def vC (a:(List Int)):ia none [.sl false false a.length (ae (eI .i64) a)]=(eK a).map fun r:(List Int)=>(.clean (.sl false false r.length (ae (eI .i64) r)),none):=cn _ _ _ (a)
def B9:Env:=(Am.ext (Am.ext (Am.ext (Am.ext (Am.ext (Am.ext bf 72 false gL) 105 false jv) 108 false ia) 109 false qW) 128 false sK) 129 true rv)
def SQ:bI prog B9:=((((((bI.none.add sh false).add mD false).add pS false).add GQ false).add Ms false).add Eb true)
def bx:=ai @w<|ai @sh5<|ai @gL.eq_1<|ai @xG<|ai @vC<|ai @sh4<|ai @sK.eq_1<|@B9.eq_1
def GP:bZ prog 106 tX:=dT SQ func106 (by kernel_rfl) (fun _ _=>rfl) (fun _=>by kernel_rfl) ntmps106 results106 rfl fun⟨p0,p1⟩ r a=>by
 simp only[hZ]at a⊢;unfold uX at a;obtain⟨r1,bp,a⟩:=ah a;simp only[bx,seval,-Int.reduceToNat,bp];apply sp an a<;>intro _ a
 ·obtain⟨r3,bq,a⟩:=ah a;cases a;simp only[bx,seval,-Int.reduceToNat,bq]
 ·simp only[bx,seval,-Int.reduceToNat];apply sp an a<;>intro _ a
  ·obtain⟨x5,br,a⟩:=ah a;have ao:=bz (eI .i64) br;simp only[bM]at ao;obtain⟨r6,bs,a⟩:=ah a;have i7:=vC ([r6.2]);simp only[bk,bM,List.length_cons,ajf]at i7;obtain⟨r8,bt,a⟩:=ah a;cases a;simp only[bx,seval,-Int.reduceToNat,ao,bs,i7,bt]
  ·simp only[bx,seval,-Int.reduceToNat];obtain⟨bw,aq,a⟩:=ah a;refine aA (fun s t H e=>match s with|ar=>t 0=.sl false false p0.length (ae (eI .i64) p0)∧t 1=.sl false false p1.length (ae (eI .i64) p1)∧t 8=.int .i64 ar) (fun o x t H e=>match o with|d=>x=.exit 0∧t 0=.sl false false p0.length (ae (eI .i64) p0)∧t 1=.sl false false p1.length (ae (eI .i64) p1)∧t 8=.int .i64 d) aq ?_ ?_ ?_
   ·refine⟨?_,?_,?_⟩;all_goals (rfl)
   ·rintro ar t H e Za c a;simp only[uY]at a;obtain⟨bK,au,a⟩:=ah a;have U:=bz (eI .i64) au;simp only[bM]at U;simp only[bx,seval,-Int.reduceToNat,Za,U];apply sp an a<;>intro _ a
    ·cases a;simp only[bx,seval,-Int.reduceToNat,Za];apply iG;and_intros<;>first|rfl|(simp only[bx,seval,-Int.reduceToNat,Za]<;>rfl)
    ·cases a;simp only[bx,seval,-Int.reduceToNat];apply jG;refine⟨rfl,⟨?_,?_,?_⟩⟩;all_goals ((simp only[bx,seval,-Int.reduceToNat,Za]<;>rfl))
   ·rintro x t H e V;obtain⟨d,rfl⟩:∃z,z=bw:=⟨_,rfl⟩;dsimp only at V a;obtain⟨rfl,al⟩:=V;have av:=KC p0 ([d]);simp only[bk,bM,List.length_cons,ajf]at av;obtain⟨bL,ax,a⟩:=ah a;obtain⟨bN,ay,a⟩:=ah a;obtain⟨az,W,aB,aC⟩:=iT (eI .i64) ay;simp only[bM]at W;have aD:=KC p1 ([d]);simp only[bk,bM,List.length_cons,ajf]at aD;obtain⟨b,aE,a⟩:=ah a;simp only[bx,seval,-Int.reduceToNat,al,av,ax,az,W,aB,aC,aD,aE];obtain⟨bA,aF,a⟩:=ah a;refine mn 0 (fun s t H e=>match s with|K=>∃E:Nat,∃n:Nat,t 8=.int .i64 d∧t 9=.buf 9 E 1 0 (K).length∧t 10=.buf 10 n 1 0 (b).length∧H 9=some ⟨E,3,ae (eI .i64) K,false,true,false⟩∧H 10=some ⟨n,3,ae (eI .i64) b,false,true,false⟩) (fun s=>s=bA) ?_ ?_
    ·rintro K t H e ⟨E,n,aG⟩ rfl;try dsimp only at a
     obtain⟨bO,aH,a⟩:=ah a;obtain⟨aI,aK,aL,X,aM⟩:=mk_one (eI .i64) aH;simp only[bM]at X;simp only[bx,seval,-Int.reduceToNat,aG,aI,aK,aL,X,aM];obtain⟨bB,aN,a⟩:=ah a;refine aA (fun s t H e=>match s with|(g,h,f)=>∃L:Nat,∃F:Nat,∃v:Nat,∃M:Bool,t 8=.int .i64 d∧t 9=.buf 9 L 1 0 (h).length∧t 10=.buf 10 F 1 0 (b).length∧t 11=.int .i64 ((b).length:Int)∧t 12=.buf 12 v 1 0 (f).length∧t 13=.int .i64 g∧H 9=some ⟨L,3,ae (eI .i64) h,false,true,false⟩∧H 10=some ⟨F,3,ae (eI .i64) b,M,true,false⟩∧H 12=some ⟨v,3,ae (eI .i64) f,false,true,false⟩) (fun o x t H e=>match o with|(N,B)=>x=.exit 2∧∃O:Nat,∃C:Nat,t 8=.int .i64 d∧t 9=.buf 9 O 1 0 (N).length∧t 12=.buf 12 C 1 0 (B).length∧H 9=some ⟨O,3,ae (eI .i64) N,false,true,false⟩∧H 12=some ⟨C,3,ae (eI .i64) B,false,true,false⟩) aN ?_ ?_ ?_
     ·refine⟨E,n,e+1,false,?_⟩;and_intros<;>first|rfl|(simp only[bx,seval,-Int.reduceToNat,aG]<;>rfl)
     ·rintro⟨g,h,f⟩ t H e ⟨L,F,v,M,Zc⟩ c a;simp only[uZ]at a;simp only[bx,seval,-Int.reduceToNat,Zc];apply sp an a<;>intro _ a
      ·obtain⟨bP,aO,a⟩:=ah a;have Y:=bz (eI .i64) aO;simp only[bM]at Y;obtain⟨bQ,aP,a⟩:=ah a;have aQ:=Ep aP;obtain⟨bR,aR,a⟩:=ah a;have Z:=bz (eI .i64) aR;simp only[bM]at Z;simp only[bx,seval,-Int.reduceToNat,Zc,Y,aQ,Z];refine bu (by kernel_rfl) ?_;obtain⟨bS,P,a⟩:=ah a;have i:=bz (eI .i64) P;simp only[bM]at i;obtain⟨bT,aS,a⟩:=ah a;have bC:=va aS;have i:=bz (eI .i64) P;simp only[bM]at i;obtain⟨bU,aT,a⟩:=ah a;have bD:=Be aT;simp only[bx,seval,-Int.reduceToNat,Zc,bC,i,bD];refine bu (by kernel_rfl) ?_;obtain⟨bE,aU,a⟩:=ah a;refine aA (fun s t H e=>match s with|(Q,R)=>∃J:Nat,∃l:Nat,∃m:Nat,∃w:Bool,t 8=.int .i64 d∧t 9=.buf 9 J 1 0 (h).length∧t 10=.buf 10 l 1 0 (b).length∧t 11=.int .i64 ((b).length:Int)∧t 12=.buf 12 m 1 0 (f).length∧t 13=.int .i64 g∧t 15=.int .i64 Q∧t 16=.int .i64 R∧H 9=some ⟨J,3,ae (eI .i64) h,false,true,false⟩∧H 10=some ⟨l,3,ae (eI .i64) b,w,true,false⟩∧H 12=some ⟨m,3,ae (eI .i64) f,false,true,false⟩) (fun o x t H e=>match o with|D=>x=.exit 4∧∃G:Nat,∃p:Nat,∃q:Nat,∃S:Bool,t 8=.int .i64 d∧t 9=.buf 9 G 1 0 (h).length∧t 10=.buf 10 p 1 0 (b).length∧t 11=.int .i64 ((b).length:Int)∧t 12=.buf 12 q 1 0 (f).length∧t 13=.int .i64 g∧t 15=.int .i64 D∧H 9=some ⟨G,3,ae (eI .i64) h,false,true,false⟩∧H 10=some ⟨p,3,ae (eI .i64) b,S,true,false⟩∧H 12=some ⟨q,3,ae (eI .i64) f,false,true,false⟩) aU ?_ ?_ ?_
       ·refine⟨L,F,v,M,?_⟩;and_intros<;>first|rfl|(simp only[bx,seval,-Int.reduceToNat,Zc]<;>rfl)
       ·rintro⟨Q,R⟩ t H e ⟨J,l,m,w,Zg⟩ c a;simp only[u3]at a;simp only[bx,seval,-Int.reduceToNat,Zg];obtain⟨bF,aV,a⟩:=ah a;refine abi 0 (fun s t H e=>match s with|I=>∃y:Nat,∃j:Nat,∃k:Nat,∃u:Bool,t 8=.int .i64 d∧t 9=.buf 9 y 1 0 (h).length∧t 10=.buf 10 j 1 0 (b).length∧t 11=.int .i64 ((b).length:Int)∧t 12=.buf 12 k 1 0 (f).length∧t 13=.int .i64 g∧t 15=.int .i64 Q∧t 16=.int .i64 R∧t 137=.bool I∧H 9=some ⟨y,3,ae (eI .i64) h,false,true,false⟩∧H 10=some ⟨j,3,ae (eI .i64) b,u,true,false⟩∧H 12=some ⟨k,3,ae (eI .i64) f,false,true,false⟩) (fun s=>s=bF) ?_ ?_
        ·rintro I t H e ⟨y,j,k,u,T⟩ rfl;try dsimp only at a
         simp only[bx,seval,-Int.reduceToNat,T];apply sp an a<;>intro _ a
         ·have i:=bz (eI .i64) P;simp only[bM]at i;cases a;simp only[bx,seval,-Int.reduceToNat,T,i];apply iG;refine⟨y,j,k,u,?_⟩;and_intros<;>first|rfl|(simp only[bx,seval,-Int.reduceToNat,T]<;>rfl)
         ·cases a;simp only[bx,seval,-Int.reduceToNat];apply jG;refine⟨rfl,⟨y,j,k,u,?_,?_,?_,?_,?_,?_,?_,?_,?_,?_⟩⟩;all_goals ((simp only[bx,seval,-Int.reduceToNat,T]<;>rfl))
        ·clear a;have a:=aV;simp only[bx,seval,-Int.reduceToNat];apply sp Bz a<;>intro _ a
         ·simp only[bx,seval,-Int.reduceToNat];refine bu (by kernel_rfl) ?_;cases a;rw[aw];refine⟨_,rfl,?_⟩;refine⟨J,l,m,w,?_⟩;and_intros<;>first|rfl|(simp only[bx,seval,-Int.reduceToNat,Zg]<;>rfl)
         ·simp only[bx,seval,-Int.reduceToNat,Zg];apply sp vS a<;>intro _ a
          ·obtain⟨bV,aW,a⟩:=ah a;have aa:=bz (eI .i64) aW;simp only[bM]at aa;obtain⟨bW,aX,a⟩:=ah a;have bG:=Ep aX;obtain⟨bX,aY,a⟩:=ah a;have ab:=bz (eI .i64) aY;simp only[bM]at ab;simp only[bx,seval,-Int.reduceToNat,aQ,Zg,aa,bG,ab];refine bu (by kernel_rfl) ?_;cases a;rw[aw];refine⟨_,rfl,?_⟩;refine⟨J,l,m,w,?_⟩;and_intros<;>first|rfl|(simp only[bx,seval,-Int.reduceToNat,Zg]<;>rfl)
          ·simp only[bx,seval,-Int.reduceToNat];refine bu (by kernel_rfl) ?_;cases a;rw[aw];refine⟨_,rfl,?_⟩;refine⟨J,l,m,w,?_⟩;and_intros<;>first|rfl|(simp only[bx,seval,-Int.reduceToNat,Zg]<;>rfl)
       ·rintro x t H e V;obtain⟨D,rfl⟩:∃z,z=bE:=⟨_,rfl⟩;dsimp only at V a;obtain⟨rfl,⟨G,p,q,S,aZ⟩⟩:=V;obtain⟨bH,A,a⟩:=ah a;obtain⟨a1,a6,a7,bJ,a8⟩:=aeO (eI .i64) A;simp only[bM]at a8;have ba:=Hd (ae (eI .i64) (h.take (g).toNat)) (ae (eI .i64) (h.drop (IntKind.i64.wrap ((IntKind.i64.wrap (g+((b).length:Int)))+1)).toNat)) bH b D;simp only[acW,acX (eI .i64) A,acY (eI .i64) A,adY A,bM]at ba;obtain⟨bb,ad,a⟩:=ah a;have bc:=Cq ad;have bd:=abu A bc;obtain⟨bY,ag,a⟩:=ah a;have ai:=bz (eI .i64) ag;simp only[bM]at ai;have bf:=fE (eI .i64) (x':=bb.2) (fo:=0) (cs:=[.int .i64 bb.2]) ag rfl (aki rfl);simp only[bM,Nat.add_zero]at bf;have aj:=bf;simp only[putCells,List.length_cons,List.length_nil,ajf]at aj;cases a;simp only[bx,seval,-Int.reduceToNat,aZ,a1,a6,a7,ba,ad,ai,aj];apply iG;refine⟨G,p,q,true,?_⟩;and_intros<;>first|rfl|(simp only[bx,seval,-Int.reduceToNat,aZ,bd]<;>rfl)
      ·cases a;simp only[bx,seval,-Int.reduceToNat];apply jG;refine⟨rfl,⟨L,v,?_,?_,?_,?_,?_⟩⟩;all_goals ((simp only[bx,seval,-Int.reduceToNat,Zc]<;>rfl))
     ·rintro x t H e V;rcases bB with⟨N,B⟩;dsimp only at V a;obtain⟨rfl,⟨O,C,bI⟩⟩:=V;obtain⟨b1,bg,a⟩:=ah a;obtain⟨b2,bh,a⟩:=ah a;obtain⟨b3,bj,a⟩:=ah a;cases a;simp only[bx,seval,-Int.reduceToNat,bI,bg,bh,bj]
    ·clear a;have a:=aF;simp only[bx,seval,-Int.reduceToNat];apply sp an a<;>intro _ a
     ·obtain⟨b4,bl,a⟩:=ah a;obtain⟨bm,ak,bn,bo⟩:=iT (eI .i64) bl;simp only[bM]at ak;cases a;simp only[bx,seval,-Int.reduceToNat,bm,ak,bn,bo];rw[aw];refine⟨_,rfl,?_⟩;refine⟨e+1+1,e,?_⟩;and_intros<;>first|rfl|(simp only[bx,seval,-Int.reduceToNat,al]<;>rfl)
     ·cases a;simp only[bx,seval,-Int.reduceToNat];rw[aw];refine⟨_,rfl,?_⟩;refine⟨e,e,?_⟩;and_intros<;>first|rfl|(simp only[bx,seval,-Int.reduceToNat,al]<;>rfl)
def gE:=dN (fK (aI .i64) (dy (jZ (eI .i64)))) (fun x:Int×(List Int)=>dz x.1 x.2) (fun r:aF =>.clean (.agg [.int .i64 r.ak,.sl false false r.aa.length (ae (eI .i64) r.aa)])) l d
def vg:Env:=(Am.ext bf 108 false ia)
def H9:bI prog vg:=(bI.none.add pS false)
def vV:=ai @w<|ai @sh0<|ai @ia.eq_1<|@vg.eq_1
def km:bZ prog 70 gE:=dT H9 func70 (by kernel_rfl) (fun _ _=>rfl) (fun _=>by kernel_rfl) ntmps70 results70 rfl fun⟨c,d⟩ r a=>by
 simp only[hZ]at a⊢;unfold dz at a;obtain⟨e,b,a⟩:=ah a;simp only[vV,seval,b];apply sp an a<;>intro _ a
 ·cases a;simp only[vV,seval]
 ·cases a;simp only[vV,seval]
def tV:=dN (fK (bJ fl) (dy (bJ fl))) (fun x:aF×aF=>sR x.1 x.2) (fun r:aF×Int =>.clean (.tup [.agg [.int .i64 r.1.ak,.sl false false r.1.aa.length (ae (eI .i64) r.1.aa)],.int .i64 r.2])) l d
def mm (c:Bool) (b:Int) (a:(List Int)):l8 none [.bool c,.agg [.int .i64 b,.sl false false a.length (ae (eI .i64) a)]]=(eY c (aF.mk b a)).map fun r:aF×Int=>(.clean (.tup [.agg [.int .i64 r.1.ak,.sl false false r.1.aa.length (ae (eI .i64) r.1.aa)],.int .i64 r.2]),none):=cn _ _ _ (c,(aF.mk b a))
def B4:Env:=(Am.keep 6 (Am.ext (Am.ext (Am.ext (Am.ext (Am.ext bf 66 false ey) 69 false l8) 70 false gE) 105 false jv) 106 false tX))
def SL:bI prog B4:=(bI.keep (((((bI.none.add gK false).add sg false).add km false).add mD false).add GP false) 6)
def gr:=ai @w<|ai @sh3<|ai @ey.eq_1<|ai @mm<|ai @sh1<|ai @gE.eq_1<|ai @xG<|ai @sh5<|ai @tX.eq_1<|@B4.eq_1
def GM:bZ prog 67 tV:=dT SL func67 (by kernel_rfl) (fun _ _=>rfl) (fun _=>by kernel_rfl) ntmps67 results67 rfl fun⟨w,y⟩ r a=>by
 simp only[hZ]at a⊢;unfold sR at a;obtain⟨R,B,a⟩:=ah a;simp only[gr,seval,B];obtain⟨K,C,a⟩:=ah a;refine bS 0 (fun s t H e=>match s with|d=>∃f:Nat,∃g:Nat,∃b:Nat,t 2=.ptr 2 f 0∧t 3=.ptr 3 g 0∧t 4=.ptr 4 b 0∧t 17=.bool d∧H 2=some ⟨f,39,[.int .i64 w.ak,.sl false false w.aa.length (ae (eI .i64) w.aa)],false,false,false⟩∧H 3=some ⟨g,39,[.int .i64 y.ak,.sl false false y.aa.length (ae (eI .i64) y.aa)],false,false,false⟩∧H 4=some ⟨b,39,[.int .i64 0,.sl true true 0 []],false,false,false⟩) (fun s=>s=K) ?_ ?_
 ·rintro d t H e ⟨f,g,b,k⟩ rfl;try dsimp only at a
  simp only[gr,seval,k];apply sp an a<;>intro _ a
  ·have I:=mm false 0 ([]);simp only[bM]at I;obtain⟨S,D,a⟩:=ah a;cases a;simp only[gr,seval,k,I,D]
  ·obtain⟨T,E,a⟩:=ah a;simp only[gr,seval,k,E];refine bu (by kernel_rfl) ?_;obtain⟨L,F,a⟩:=ah a;refine aA (fun s t H e=>match s with|(l,m)=>∃h:Nat,t 4=.ptr 4 h 0∧t 6=.sl false false l.length (ae (eI .i64) l)∧t 7=.sl false false m.length (ae (eI .i64) m)∧H 4=some ⟨h,39,[.int .i64 0,.sl true true 0 []],false,false,false⟩) (fun o x t H e=>match o with|i=>x=.exit 0∧∃j:Nat,t 4=.ptr 4 j 0∧t 6=.sl false false i.length (ae (eI .i64) i)∧H 4=some ⟨j,39,[.int .i64 0,.sl true true 0 []],false,false,false⟩) F ?_ ?_ ?_
   ·refine⟨b,?_⟩;and_intros<;>first|rfl|(simp only[gr,seval,k]<;>rfl)
   ·rintro⟨l,m⟩ t H e ⟨h,A⟩ c a;simp only[rD]at a;simp only[gr,seval,A];apply sp an a<;>intro _ a
    ·obtain⟨M,n,a⟩:=ah a;cases a;simp only[gr,seval,A,n];apply iG;refine⟨h,?_⟩;and_intros<;>first|rfl|(simp only[gr,seval,A]<;>rfl)
    ·cases a;simp only[gr,seval];apply jG;refine⟨rfl,⟨h,?_,?_,?_⟩⟩;all_goals ((simp only[gr,seval,A]<;>rfl))
   ·rintro x t H e J;obtain⟨i,rfl⟩:∃z,z=L:=⟨_,rfl⟩;dsimp only at J a;obtain⟨rfl,⟨j,G⟩⟩:=J;obtain⟨N,p,a⟩:=ah a;obtain⟨O,q,a⟩:=ah a;obtain⟨P,u,a⟩:=ah a;cases a;simp only[gr,seval,G,p,q,u]
 ·clear a;have a:=C;simp only[gr,seval];apply sp aZ a<;>intro _ a
  ·cases a;simp only[gr,seval];rw[aw];refine⟨_,rfl,?_⟩;refine⟨0,0,0,?_,?_,?_,?_,?_,?_,?_⟩;all_goals (rfl)
  ·obtain⟨Q,v,a⟩:=ah a;cases a;simp only[gr,seval,v];rw[aw];refine⟨_,rfl,?_⟩;refine⟨0,0,0,?_,?_,?_,?_,?_,?_,?_⟩;all_goals (rfl)
def yb:=dN (dy (bJ fl)) (fun x:aF=>yp x) (fun r:Int×Bool =>.clean (.tup [.int .i64 r.1,.bool r.2])) l d
def B5:Env:=(Am.ext bf 66 false ey)
def SM:bI prog B5:=(bI.none.add gK false)
def bT:=ai @w<|ai @sh3<|ai @ey.eq_1<|@B5.eq_1
def Tg:bZ prog 107 yb:=dT SM func107 (by kernel_rfl) (fun _ _=>rfl) (fun _=>by kernel_rfl) ntmps107 results107 rfl fun b r a=>by
 simp only[hZ]at a⊢;unfold yp at a;obtain⟨R,G,a⟩:=ah a;simp only[bT,seval,-Int.reduceToNat,G];obtain⟨O,I,a⟩:=ah a;refine bS 0 (fun s t H e=>match s with|j=>∃f:Nat,t 1=.ptr 1 f 0∧t 15=.bool j∧H 1=some ⟨f,39,[.int .i64 b.ak,.sl false false b.aa.length (ae (eI .i64) b.aa)],false,false,false⟩) (fun s=>s=O) ?_ ?_
 ·rintro j t H e ⟨f,v⟩ rfl;try dsimp only at a
  simp only[bT,seval,-Int.reduceToNat,v];apply sp an a<;>intro _ a
  ·cases a;simp only[bT,seval,-Int.reduceToNat]
  ·simp only[bT,seval,-Int.reduceToNat,v];obtain⟨J,z,a⟩:=ah a;refine aA (fun s t H e=>match s with|(w,g)=>∃i:Nat,t 1=.ptr 1 i 0∧t 4=.int .u64 w∧t 17=.sl false false b.aa.length (ae (eI .i64) b.aa)∧t 18=.int .i64 (b.aa.length:Int)∧t 19=.int .i64 g∧H 1=some ⟨i,39,[.int .i64 b.ak,.sl false false b.aa.length (ae (eI .i64) b.aa)],false,false,false⟩) (fun o x t H e=>match o with|(.inl k)=>x=.exit 0∧∃d:Nat,t 1=.ptr 1 d 0∧t 4=.int .u64 k∧H 1=some ⟨d,39,[.int .i64 b.ak,.sl false false b.aa.length (ae (eI .i64) b.aa)],false,false,false⟩|(.inr r)=>x=.ret∧gi .clean tab none [.tmp 2,.tmp 3] ⟨t,EH H,e⟩=some (.clean (.tup [.int .i64 r.1,.bool r.2]),none)) z ?_ ?_ ?_
   ·refine⟨f,?_⟩;and_intros<;>first|rfl|(simp only[bT,seval,-Int.reduceToNat,v]<;>rfl)
   ·rintro⟨w,g⟩ t H e ⟨i,A⟩ c a;simp only[uV]at a;simp only[bT,seval,-Int.reduceToNat,A];apply sp an a<;>intro _ a
    ·obtain⟨K,B,a⟩:=ah a;have u:=bz (eI .i64) B;simp only[bM]at u;simp only[bT,seval,-Int.reduceToNat,A,u];obtain⟨L,C,a⟩:=ah a;refine bS 0 (fun s t H e=>match s with|l=>∃h:Nat,t 1=.ptr 1 h 0∧t 4=.int .u64 w∧t 5=.int .i64 g∧t 6=.int .i64 K∧t 17=.sl false false b.aa.length (ae (eI .i64) b.aa)∧t 18=.int .i64 (b.aa.length:Int)∧t 19=.int .i64 g∧t 29=.bool l∧H 1=some ⟨h,39,[.int .i64 b.ak,.sl false false b.aa.length (ae (eI .i64) b.aa)],false,false,false⟩) (fun s=>s=L) ?_ ?_
     ·rintro l t H e ⟨h,y⟩ rfl;try dsimp only at a
      simp only[bT,seval,-Int.reduceToNat,y];apply sp an a<;>intro _ a
      ·cases a;simp only[bT,seval,-Int.reduceToNat];refine tQ ⟨rfl,?_⟩;simp only[bT,seval,-Int.reduceToNat]
      ·obtain⟨P,D,a⟩:=ah a;have M:=Ep D;cases a;simp only[bT,seval,-Int.reduceToNat,y,M];apply iG;refine⟨h,?_⟩;and_intros<;>first|rfl|(simp only[bT,seval,-Int.reduceToNat,y]<;>rfl)
     ·clear a;have a:=C;simp only[bT,seval,-Int.reduceToNat];apply sp fG a<;>intro _ a
      ·cases a;simp only[bT,seval,-Int.reduceToNat];rw[aw];refine⟨_,rfl,?_⟩;refine⟨i,?_⟩;and_intros<;>first|rfl|(simp only[bT,seval,-Int.reduceToNat,A]<;>rfl)
      ·cases a;simp only[bT,seval,-Int.reduceToNat];rw[aw];refine⟨_,rfl,?_⟩;refine⟨i,?_⟩;and_intros<;>first|rfl|(simp only[bT,seval,-Int.reduceToNat,A]<;>rfl)
    ·cases a;simp only[bT,seval,-Int.reduceToNat];apply jG;refine⟨rfl,⟨i,?_,?_,?_⟩⟩;all_goals ((simp only[bT,seval,-Int.reduceToNat,A]<;>rfl))
   ·rintro x t H e F;rcases J with k|S
    ·dsimp only at F a;obtain⟨rfl,⟨d,q⟩⟩:=F;simp only[bT,seval,-Int.reduceToNat,q];obtain⟨N,E,a⟩:=ah a;refine bS 0 (fun s t H e=>match s with|m=>∃n:Nat,t 1=.ptr 1 n 0∧t 4=.int .u64 k∧t 38=.bool m∧H 1=some ⟨n,39,[.int .i64 b.ak,.sl false false b.aa.length (ae (eI .i64) b.aa)],false,false,false⟩) (fun s=>s=N) ?_ ?_
     ·rintro m t H e ⟨n,p⟩ rfl;try dsimp only at a
      simp only[bT,seval,-Int.reduceToNat,p];apply sp an a<;>intro _ a
      ·cases a;simp only[bT,seval,-Int.reduceToNat,p]
      ·simp only[bT,seval,-Int.reduceToNat,p];apply sp fG a<;>intro _ a
       ·simp only[bT,seval,-Int.reduceToNat,p];apply sp an a<;>intro _ a
        ·cases a;simp only[bT,seval,-Int.reduceToNat,p]
        ·cases a;simp only[bT,seval,-Int.reduceToNat]
       ·cases a;simp only[bT,seval,-Int.reduceToNat]
     ·clear a;have a:=E;simp only[bT,seval,-Int.reduceToNat];apply sp fG a<;>intro _ a
      ·cases a;simp only[bT,seval,-Int.reduceToNat,q];rw[aw];refine⟨_,rfl,?_⟩;refine⟨d,?_⟩;and_intros<;>first|rfl|(simp only[bT,seval,-Int.reduceToNat,q]<;>rfl)
      ·cases a;simp only[bT,seval,-Int.reduceToNat];rw[aw];refine⟨_,rfl,?_⟩;refine⟨d,?_⟩;and_intros<;>first|rfl|(simp only[bT,seval,-Int.reduceToNat,q]<;>rfl)
    ·dsimp only at F a;obtain⟨rfl,Q⟩:=F;cases a;simp only[aX,ba,cv,cA];exact Q
 ·clear a;have a:=I;simp only[bT,seval,-Int.reduceToNat];apply sp aZ a<;>intro _ a
  ·cases a;simp only[bT,seval,-Int.reduceToNat];rw[aw];refine⟨_,rfl,?_⟩;refine⟨0,?_,?_,?_⟩;all_goals (rfl)
  ·cases a;simp only[bT,seval,-Int.reduceToNat];rw[aw];refine⟨_,rfl,?_⟩;refine⟨0,?_,?_,?_⟩;all_goals (rfl)
def uJ:=dN (dy (bJ fl)) (fun x:aF=>ui x) (fun r:Bool =>.clean (.bool r)) l d
def zO:Env:=(Am.ext bf 107 false yb)
def O3:bI prog zO:=(bI.none.add Tg false)
def Av:=ai @w<|ai @sh3<|ai @yb.eq_1<|@zO.eq_1
def Qw:bZ prog 68 uJ:=dT O3 func68 (by kernel_rfl) (fun _ _=>rfl) (fun _=>by kernel_rfl) ntmps68 results68 rfl fun c r a=>by
 simp only[hZ]at a⊢;unfold ui at a;obtain⟨d,b,a⟩:=ah a;simp only[Av,seval,b];apply sp fG a<;>intro _ a
 ·cases a;simp only[Av,seval]
 ·cases a;simp only[Av,seval]
def db:=dN (dy (bJ au)) (fun x:al=>cQ x) (fun r:Bool =>.clean (.bool r)) l d
def Ri {β:Type} {F:al->Option β} {R:β->RK} (c:Int) (a:(List Int)) (d:Int) (b:(List Int)):dN (dy (bJ au)) F R none [.agg [.int .i64 c,.sl false false a.length (ae (eI .i64) a),.int .i64 d,.sl false false b.length (ae (eI .i64) b)]]=(F ((al.mk (aF.mk c a) (aF.mk d b)))).map fun r=>(R r,none):=cn _ _ _ ((al.mk (aF.mk c a) (aF.mk d b)))
def vk:Env:=(Am.ext (Am.ext (Am.ext bf 66 false ey) 67 false tV) 68 false uJ)
def Ia:bI prog vk:=(((bI.none.add gK false).add GM false).add Qw false)
def fH:=ai @w<|ai @sh3<|ai @ey.eq_1<|ai @sh6<|ai @tV.eq_1<|ai @uJ.eq_1<|@vk.eq_1
def fW:bZ prog 36 db:=dT Ia func36 (by kernel_rfl) (fun _ _=>rfl) (fun _=>by kernel_rfl) ntmps36 results36 rfl fun d r a=>by
 simp only[hZ]at a⊢;unfold cQ at a;obtain⟨m,g,a⟩:=ah a;simp only[fH,seval,g];obtain⟨l,h,a⟩:=ah a;refine bS 0 (fun s t H e=>match s with|b=>∃c:Nat,t 1=.ptr 1 c 0∧t 20=.bool b∧H 1=some ⟨c,41,[.int .i64 d.bK.ak,.sl false false d.bK.aa.length (ae (eI .i64) d.bK.aa),.int .i64 d.bL.ak,.sl false false d.bL.aa.length (ae (eI .i64) d.bL.aa)],false,false,false⟩) (fun s=>s=l) ?_ ?_
 ·rintro b t H e ⟨c,f⟩ rfl;try dsimp only at a
  simp only[fH,seval,f];apply sp an a<;>intro _ a
  ·cases a;simp only[fH,seval]
  ·obtain⟨n,i,a⟩:=ah a;simp only[fH,seval,f,i];apply sp fG a<;>intro _ a
   ·obtain⟨o,j,a⟩:=ah a;cases a;simp only[fH,seval,j]
   ·cases a;simp only[fH,seval]
 ·clear a;have a:=h;simp only[fH,seval];apply sp aZ a<;>intro _ a
  ·cases a;simp only[fH,seval];rw[aw];refine⟨_,rfl,?_⟩;refine⟨0,?_,?_,?_⟩;all_goals (rfl)
  ·obtain⟨p,k,a⟩:=ah a;simp only[fH,seval,k];apply sp aZ a<;>intro _ a
   ·cases a;simp only[fH,seval];rw[aw];refine⟨_,rfl,?_⟩;refine⟨0,?_,?_,?_⟩;all_goals (rfl)
   ·cases a;simp only[fH,seval];rw[aw];refine⟨_,rfl,?_⟩;refine⟨0,?_,?_,?_⟩;all_goals (rfl)
def dS:=dN (dy (bJ au)) (fun x:al=>iM x) (fun r:Int =>.clean (.int .i64 r)) l d
def xg:Env:=(Am.ext bf 36 false db)
def LZ:bI prog xg:=(bI.none.add fW false)
def xW:=ai @w<|ai @Ri<|ai @db.eq_1<|@xg.eq_1
def lL:bZ prog 11 dS:=dT LZ func11 (by kernel_rfl) (fun _ _=>rfl) (fun _=>by kernel_rfl) ntmps11 results11 rfl fun c r a=>by
 simp only[hZ]at a⊢;unfold iM at a;obtain⟨d,b,a⟩:=ah a;simp only[xW,seval,b];apply sp an a<;>intro _ a
 ·cases a;simp only[xW,seval]
 ·cases a;simp only[xW,seval]
def Az:=dN (dy (jZ (eI .i64))) (fun x:(List Int)=>wT x) (fun r:Int =>.clean (.int .i64 r)) l d
def Kv:bZ prog 49 Az:=dT bI.none func49 (by kernel_rfl) (fun _ _=>rfl) (fun _=>by kernel_rfl) ntmps49 results49 rfl fun g r a=>by
 simp only[hZ]at a⊢;unfold wT at a;simp only[w,seval];obtain⟨l,i,a⟩:=ah a;refine aA (fun s t H e=>match s with|b=>t 3=.int .i64 0∧t 6=.sl false false g.length (ae (eI .i64) g)∧t 7=.int .i64 (g.length:Int)∧t 8=.int .i64 b) (fun o x t H e=>match o with|(.inl _)=>x=.exit 0∧t 3=.int .i64 0|(.inr r)=>x=.ret∧gi .clean tab none [.tmp 2] ⟨t,EH H,e⟩=some (.clean (.int .i64 r),none)) i ?_ ?_ ?_
 ·refine⟨?_,?_,?_,?_⟩;all_goals (rfl)
 ·rintro b t H e d c a;simp only[yw]at a;simp only[w,seval,d];apply sp an a<;>intro _ a
  ·obtain⟨n,j,a⟩:=ah a;have f:=bz (eI .i64) j;simp only[bM]at f;simp only[w,seval,d,f];apply sp an a<;>intro _ a
   ·cases a;simp only[w,seval];refine tQ ⟨rfl,?_⟩;simp only[w,seval]
   ·cases a;simp only[w,seval,d];apply iG;and_intros<;>first|rfl|(simp only[w,seval,d]<;>rfl)
  ·cases a;simp only[w,seval];apply jG;refine⟨rfl,?_⟩;all_goals ((simp only[w,seval,d]<;>rfl))
 ·rintro x t H e h;rcases l with _|p
  ·dsimp only at h a;obtain⟨rfl,k⟩:=h;cases a;simp only[w,seval,k]
  ·dsimp only at h a;obtain⟨rfl,m⟩:=h;cases a;simp only[aX,ba,cv,cA];exact m
def qt:=dN (fK (bJ bP) (dy (bJ bP))) (fun x:bV×bV=>oT x.1 x.2) (fun r:Int =>.clean (.int .i64 r)) l d
def af6 {β:Type} {F:bV×bV->Option β} {R:β->RK} (e:Int) (f:Int) (g:Int) (a:(List Int)) (h:Int) (b:(List Int)) (i:Int) (j:Int) (k:Int) (c:(List Int)) (l:Int) (d:(List Int)):dN (fK (bJ bP) (dy (bJ bP))) F R none [.agg [.int .i64 e,.int .i64 f,.int .i64 g,.sl false false a.length (ae (eI .i64) a),.int .i64 h,.sl false false b.length (ae (eI .i64) b)],.agg [.int .i64 i,.int .i64 j,.int .i64 k,.sl false false c.length (ae (eI .i64) c),.int .i64 l,.sl false false d.length (ae (eI .i64) d)]]=(F ((bV.mk e f (al.mk (aF.mk g a) (aF.mk h b))),(bV.mk i j (al.mk (aF.mk k c) (aF.mk l d))))).map fun r=>(R r,none):=cn _ _ _ ((bV.mk e f (al.mk (aF.mk g a) (aF.mk h b))),(bV.mk i j (al.mk (aF.mk k c) (aF.mk l d))))
def QU (a:(List Int)):Az none [.sl false false a.length (ae (eI .i64) a)]=(wT a).map fun r:Int=>(.clean (.int .i64 r),none):=cn _ _ _ (a)
def vo:Env:=(Am.ext (Am.ext bf 49 false Az) 50 false eG)
def Ic:bI prog vo:=((bI.none.add Kv false).add oc false)
def Nh:=ai @w<|ai @sh7<|ai @eG.eq_1<|@vo.eq_1
def Il:bZ prog 25 qt:=dT Ic func25 (by kernel_rfl) (fun _ _=>rfl) (fun _=>by kernel_rfl) ntmps25 results25 rfl fun⟨f,g⟩ r a=>by
 simp only[hZ]at a⊢;unfold oT at a;obtain⟨h,b,a⟩:=ah a;obtain⟨i,c,a⟩:=ah a;have e:=QU ([h,i]);simp only[bk,bM,List.length_cons,ajf,Nat.reduceAdd]at e;obtain⟨j,d,a⟩:=ah a;simp only[Nh,seval,b,c,e,d];refine bu (by kernel_rfl) ?_;cases a;simp only[seval]
def ru:=dN (dy (aI .i64)) (fun x:Int=>uW x) (fun r:aF =>.clean (.agg [.int .i64 r.ak,.sl false false r.aa.length (ae (eI .i64) r.aa)])) l d
def FQ:Env:=(Am.ext bf 70 false gE)
def W7:bI prog FQ:=(bI.none.add km false)
def kg:=ai @w<|ai @sh1<|ai @gE.eq_1<|@FQ.eq_1
def Ku:bZ prog 60 ru:=dT W7 func60 (by kernel_rfl) (fun _ _=>rfl) (fun _=>by kernel_rfl) ntmps60 results60 rfl fun I r a=>by
 simp only[hZ]at a⊢;unfold uW at a;simp only[kg,seval,-Int.reduceToNat];obtain⟨J,A,a⟩:=ah a;refine mn 0 (fun s t H e=>match s with|(b,k)=>∃d:Nat,t 2=.ptr 2 d 0∧t 3=.int .i64 b∧t 4=.int .u64 k∧H 2=some ⟨d,39,[.int .i64 0,.sl true true 0 []],false,false,false⟩) (fun s=>s=J) ?_ ?_
 ·rintro⟨b,k⟩ t H e ⟨d,B⟩ rfl;try dsimp only at a
  simp only[kg,seval,-Int.reduceToNat];obtain⟨K,C,a⟩:=ah a;refine aA (fun s t H e=>match s with|(n,m)=>∃f:Nat,∃j:Nat,t 2=.ptr 2 f 0∧t 3=.int .i64 b∧t 4=.int .u64 n∧t 5=.buf 5 j 1 0 (m).length∧H 2=some ⟨f,39,[.int .i64 0,.sl true true 0 []],false,false,false⟩∧H 5=some ⟨j,3,ae (eI .i64) m,false,true,false⟩) (fun o x t H e=>match o with|g=>x=.exit 0∧∃h:Nat,∃i:Nat,t 2=.ptr 2 h 0∧t 3=.int .i64 b∧t 5=.buf 5 i 1 0 (g).length∧H 2=some ⟨h,39,[.int .i64 0,.sl true true 0 []],false,false,false⟩∧H 5=some ⟨i,3,ae (eI .i64) g,false,true,false⟩) C ?_ ?_ ?_
  ·refine⟨d,e,?_⟩;and_intros<;>first|rfl|(simp only[kg,seval,-Int.reduceToNat,B]<;>rfl)
  ·rintro⟨n,m⟩ t H e ⟨f,j,y⟩ c a;simp only[yt]at a;simp only[kg,seval,-Int.reduceToNat,y];apply sp an a<;>intro _ a
   ·obtain⟨N,D,a⟩:=ah a;obtain⟨p,l,q,u⟩:=iT (eI .i64) D;simp only[bM]at l;obtain⟨L,v,a⟩:=ah a;have E:=vQ v;cases a;simp only[kg,seval,-Int.reduceToNat,y,p,l,q,u,E];apply iG;refine⟨f,e+1,?_⟩;and_intros<;>first|rfl|(simp only[kg,seval,-Int.reduceToNat,y]<;>rfl)
   ·cases a;simp only[kg,seval,-Int.reduceToNat];apply jG;refine⟨rfl,⟨f,j,?_,?_,?_,?_,?_⟩⟩;all_goals ((simp only[kg,seval,-Int.reduceToNat,y]<;>rfl))
  ·rintro x t H e G;obtain⟨g,rfl⟩:∃z,z=K:=⟨_,rfl⟩;dsimp only at G a;obtain⟨rfl,⟨h,i,F⟩⟩:=G;obtain⟨M,w,a⟩:=ah a;cases a;simp only[kg,seval,-Int.reduceToNat,F,w]
 ·clear a;have a:=A;simp only[kg,seval,-Int.reduceToNat];apply sp an a<;>intro _ a
  ·cases a;simp only[kg,seval,-Int.reduceToNat];rw[aw];refine⟨_,rfl,?_⟩;refine⟨0,?_,?_,?_,?_⟩;all_goals (rfl)
  ·cases a;simp only[kg,seval,-Int.reduceToNat];rw[aw];refine⟨_,rfl,?_⟩;refine⟨0,?_,?_,?_,?_⟩;all_goals (rfl)
def fN:=dN (dy (aI .i64)) (fun x:Int=>gC x) (fun r:al =>.clean (.agg [.int .i64 r.bK.ak,.sl false false r.bK.aa.length (ae (eI .i64) r.bK.aa),.int .i64 r.bL.ak,.sl false false r.bL.aa.length (ae (eI .i64) r.bL.aa)])) l d
def zK:Env:=(Am.ext bf 60 false ru)
def OZ:bI prog zK:=(bI.none.add Ku false)
def Ue:=ai @w<|ai @sh2<|ai @ru.eq_1<|@zK.eq_1
def nk:bZ prog 33 fN:=dT OZ func33 (by kernel_rfl) (fun _ _=>rfl) (fun _=>by kernel_rfl) ntmps33 results33 rfl fun d r a=>by
 simp only[hZ]at a⊢;unfold gC at a;obtain⟨e,b,a⟩:=ah a;obtain⟨f,c,a⟩:=ah a;cases a;simp only[Ue,seval,b,c]
def tW:=dN (dy (bJ fl)) (fun x:aF=>qA x) (fun r:aF =>.clean (.agg [.int .i64 r.ak,.sl false false r.aa.length (ae (eI .i64) r.aa)])) l d
def B7:Env:=(Am.ext (Am.ext (Am.ext bf 66 false ey) 70 false gE) 105 false jv)
def SO:bI prog B7:=(((bI.none.add gK false).add km false).add mD false)
def CV:=ai @w<|ai @sh3<|ai @ey.eq_1<|ai @sh1<|ai @gE.eq_1<|ai @xG<|@B7.eq_1
def GN:bZ prog 75 tW:=dT SO func75 (by kernel_rfl) (fun _ _=>rfl) (fun _=>by kernel_rfl) ntmps75 results75 rfl fun e r a=>by
 simp only[hZ]at a⊢;unfold qA at a;obtain⟨f,b,a⟩:=ah a;simp only[CV,seval,b];apply sp an a<;>intro _ a
 ·cases a;simp only[CV,seval]
 ·obtain⟨g,c,a⟩:=ah a;obtain⟨h,d,a⟩:=ah a;simp only[CV,seval,c,d];refine bu (by kernel_rfl) ?_;cases a;simp only[seval]
def yc:=dN (fK (bJ fl) (dy (bJ fl))) (fun x:aF×aF=>yr x.1 x.2) (fun r:aF×Int =>.clean (.tup [.agg [.int .i64 r.1.ak,.sl false false r.1.aa.length (ae (eI .i64) r.1.aa)],.int .i64 r.2])) l d
def B6:Env:=(Am.ext (Am.ext (Am.ext (Am.ext bf 66 false ey) 69 false l8) 70 false gE) 109 false qW)
def SN:bI prog B6:=((((bI.none.add gK false).add sg false).add km false).add GQ false)
def o0:=ai @w<|ai @sh3<|ai @ey.eq_1<|ai @mm<|ai @sh1<|ai @gE.eq_1<|ai @sh5<|ai @qW.eq_1<|@B6.eq_1
def Th:bZ prog 74 yc:=dT SN func74 (by kernel_rfl) (fun _ _=>rfl) (fun _=>by kernel_rfl) ntmps74 results74 rfl fun⟨i,j⟩ r a=>by
 simp only[hZ]at a⊢;unfold yr at a;obtain⟨w,k,a⟩:=ah a;simp only[o0,seval,k];obtain⟨u,l,a⟩:=ah a;refine bS 0 (fun s t H e=>match s with|b=>∃c:Nat,∃d:Nat,∃f:Nat,t 2=.ptr 2 c 0∧t 3=.ptr 3 d 0∧t 4=.ptr 4 f 0∧t 13=.bool b∧H 2=some ⟨c,39,[.int .i64 i.ak,.sl false false i.aa.length (ae (eI .i64) i.aa)],false,false,false⟩∧H 3=some ⟨d,39,[.int .i64 j.ak,.sl false false j.aa.length (ae (eI .i64) j.aa)],false,false,false⟩∧H 4=some ⟨f,39,[.int .i64 0,.sl true true 0 []],false,false,false⟩) (fun s=>s=u) ?_ ?_
 ·rintro b t H e ⟨c,d,f,g⟩ rfl;try dsimp only at a
  simp only[o0,seval,g];apply sp an a<;>intro _ a
  ·have q:=mm false 0 ([]);simp only[bM]at q;obtain⟨x,m,a⟩:=ah a;cases a;simp only[o0,seval,g,q,m]
  ·obtain⟨y,n,a⟩:=ah a;obtain⟨z,o,a⟩:=ah a;obtain⟨A,p,a⟩:=ah a;simp only[o0,seval,g,n,o,p];refine bu (by kernel_rfl) ?_;cases a;simp only[seval]
 ·clear a;have a:=l;simp only[o0,seval];apply sp aZ a<;>intro _ a
  ·cases a;simp only[o0,seval];rw[aw];refine⟨_,rfl,?_⟩;refine⟨0,0,0,?_,?_,?_,?_,?_,?_,?_⟩;all_goals (rfl)
  ·obtain⟨v,h,a⟩:=ah a;cases a;simp only[o0,seval,h];rw[aw];refine⟨_,rfl,?_⟩;refine⟨0,0,0,?_,?_,?_,?_,?_,?_,?_⟩;all_goals (rfl)
def gF:=dN (fK (bJ fl) (dy (bJ fl))) (fun x:aF×aF=>cB x.1 x.2) (fun r:aF =>.clean (.agg [.int .i64 r.ak,.sl false false r.aa.length (ae (eI .i64) r.aa)])) l d
def vl:Env:=(Am.ext bf 74 false yc)
def Ib:bI prog vl:=(bI.none.add Th false)
def Ng:=ai @w<|ai @sh6<|ai @yc.eq_1<|@vl.eq_1
def pr:bZ prog 38 gF:=dT Ib func38 (by kernel_rfl) (fun _ _=>rfl) (fun _=>by kernel_rfl) ntmps38 results38 rfl fun⟨c,d⟩ r a=>by
 simp only[hZ]at a⊢;unfold cB at a;obtain⟨e,b,a⟩:=ah a;cases a;simp only[Ng,seval,b]
def qV:=dN (fK (jZ (eI .i64)) (dy (jZ (eI .i64)))) (fun x:(List Int)×(List Int)=>sS x.1 x.2) (fun r:(List Int) =>.clean (.sl false false r.length (ae (eI .i64) r))) l d
def B8:Env:=(Am.ext bf 108 false ia)
def SP:bI prog B8:=(bI.none.add pS false)
def eC:=ai @w<|ai @vC<|@B8.eq_1
def GO:bZ prog 71 qV:=bZ.gZ (mode := .clean) tok SP mixed func71 (by kernel_rfl) (fun _ _=>rfl) (fun _=>by kernel_rfl) fun⟨p0,p1⟩ r b=>by
 replace b:sS p0 p1=some r:=b;apply aJ rfl ntmps71 results71;simp only[hZ];unfold sS at b;simp only[eC,seval,-Int.reduceToNat];obtain⟨o1,P,b⟩:=ah b;refine mn 0 (fun s t H e=>match s with|(a,d)=>t 0=.sl false false a.length (ae (eI .i64) a)∧t 1=.sl false false d.length (ae (eI .i64) d)) (fun s=>s=o1) ?_ ?_
 ·rintro⟨a,d⟩ t H e B rfl;try dsimp only at b
  obtain⟨x2,Q,b⟩:=ah b;obtain⟨R,S,T,C,U⟩:=mk_one (eI .i64) Q;simp only[bM]at C;simp only[eC,seval,-Int.reduceToNat,B,R,S,T,C,U];obtain⟨V,D,b⟩:=ah b;refine aA (fun s t H e=>match s with|(E,g,m)=>∃l:Nat,t 0=.sl false false a.length (ae (eI .i64) a)∧t 1=.sl false false d.length (ae (eI .i64) d)∧t 5=.buf 5 l 1 0 (m).length∧t 6=.int .i64 E∧t 20=.sl false false a.length (ae (eI .i64) a)∧t 21=.int .i64 (a.length:Int)∧t 22=.int .i64 g∧H 5=some ⟨l,3,ae (eI .i64) m,false,true,false⟩) (fun o x t H e=>match o with|(f,h)=>x=.exit 0∧∃n:Nat,t 0=.sl false false a.length (ae (eI .i64) a)∧t 5=.buf 5 n 1 0 (h).length∧t 6=.int .i64 f∧H 5=some ⟨n,3,ae (eI .i64) h,false,true,false⟩) D ?_ ?_ ?_
  ·refine⟨e,?_⟩;and_intros<;>first|rfl|(simp only[eC,seval,-Int.reduceToNat,B]<;>rfl)
  ·rintro⟨E,g,m⟩ t H e ⟨l,A⟩ c b;simp only[rE]at b;simp only[eC,seval,-Int.reduceToNat,A];apply sp an b<;>intro _ b
   ·obtain⟨aa,F,b⟩:=ah b;have i:=bz (eI .i64) F;simp only[bM]at i;simp only[eC,seval,-Int.reduceToNat,A,i];obtain⟨W,G,b⟩:=ah b;refine mn 0 (fun s t H e=>match s with|j=>∃k:Nat,t 0=.sl false false a.length (ae (eI .i64) a)∧t 1=.sl false false d.length (ae (eI .i64) d)∧t 5=.buf 5 k 1 0 (m).length∧t 6=.int .i64 j∧t 7=.int .i64 g∧t 20=.sl false false a.length (ae (eI .i64) a)∧t 21=.int .i64 (a.length:Int)∧t 22=.int .i64 g∧H 5=some ⟨k,3,ae (eI .i64) m,false,true,false⟩) (fun s=>s=W) ?_ ?_
    ·rintro j t H e ⟨k,I⟩ rfl;try dsimp only at b
     obtain⟨ab,p,b⟩:=ah b;have q:=bz (eI .i64) p;simp only[bM]at q;have J:=fE (eI .i64) (x':=ma .and .i64 j 1048575) (fo:=0) (cs:=[.int .i64 (ma .and .i64 j 1048575)]) p rfl (aki rfl);simp only[bM,Nat.add_zero]at J;have u:=J;simp only[putCells,List.length_cons,List.length_nil,ajf]at u;obtain⟨ad,K,b⟩:=ah b;have X:=vQ K;cases b;simp only[eC,seval,-Int.reduceToNat,i,I,q,u,X];apply iG;refine⟨k,?_⟩;and_intros<;>first|rfl|(simp only[eC,seval,-Int.reduceToNat,I]<;>rfl)
    ·clear b;have b:=G;simp only[eC,seval,-Int.reduceToNat];apply sp an b<;>intro _ b
     ·obtain⟨ag,L,b⟩:=ah b;have v:=bz (eI .i64) L;simp only[bM]at v;cases b;simp only[eC,seval,-Int.reduceToNat,A,i,v];rw[aw];refine⟨_,rfl,?_⟩;refine⟨l,?_⟩;and_intros<;>first|rfl|(simp only[eC,seval,-Int.reduceToNat,A]<;>rfl)
     ·cases b;simp only[eC,seval,-Int.reduceToNat];rw[aw];refine⟨_,rfl,?_⟩;refine⟨l,?_⟩;and_intros<;>first|rfl|(simp only[eC,seval,-Int.reduceToNat,A]<;>rfl)
   ·cases b;simp only[eC,seval,-Int.reduceToNat];apply jG;refine⟨rfl,⟨l,?_,?_,?_,?_⟩⟩;all_goals ((simp only[eC,seval,-Int.reduceToNat,A]<;>rfl))
  ·rintro x t H e Z;rcases V with⟨f,h⟩;dsimp only at Z b;obtain⟨rfl,⟨n,Y⟩⟩:=Z;obtain⟨ai,w,b⟩:=ah b;have y:=bz (eI .i64) w;simp only[bM]at y;have M:=fE (eI .i64) (x':=f) (fo:=0) (cs:=[.int .i64 f]) w rfl (aki rfl);simp only[bM,Nat.add_zero]at M;have z:=M;simp only[putCells,List.length_cons,List.length_nil,ajf]at z;have N:=vC (h.set ((a.length:Int)).toNat f);simp only[akC]at N;obtain⟨aj,O,b⟩:=ah b;cases b;simp only[eC,seval,-Int.reduceToNat,Y,y,z,N,O]
 ·clear b;have b:=P;simp only[eC,seval,-Int.reduceToNat];apply sp an b<;>intro _ b
  ·cases b;simp only[eC,seval,-Int.reduceToNat];rw[aw];refine⟨_,rfl,?_⟩;refine⟨?_,?_⟩;all_goals (rfl)
  ·cases b;simp only[eC,seval,-Int.reduceToNat];rw[aw];refine⟨_,rfl,?_⟩;refine⟨?_,?_⟩;all_goals (rfl)
def tY:=dN (fK (jZ (eI .i64)) (dy (jZ (eI .i64)))) (fun x:(List Int)×(List Int)=>sU x.1 x.2) (fun r:(List Int) =>.clean (.sl false false r.length (ae (eI .i64) r))) l d
def Cb:Env:=(Am.ext (Am.ext bf 105 false jv) 108 false ia)
def SS:bI prog Cb:=((bI.none.add mD false).add pS false)
def gY:=ai @w<|ai @xG<|ai @sh0<|ai @ia.eq_1<|@Cb.eq_1
def GR:bZ prog 73 tY:=dT SS func73 (by kernel_rfl) (fun _ _=>rfl) (fun _=>by kernel_rfl) ntmps73 results73 rfl fun⟨M,q⟩ r a=>by
 simp only[hZ]at a⊢;unfold sU at a;obtain⟨K,E,a⟩:=ah a;simp only[gY,seval,-Int.reduceToNat,E];obtain⟨F,u,a⟩:=ah a;refine aA (fun s t H e=>match s with|(v,d,i)=>∃h:Nat,t 1=.sl false false q.length (ae (eI .i64) q)∧t 5=.buf 5 h 1 0 (i).length∧t 6=.int .i64 v∧t 12=.int .i64 ((K).length:Int)∧t 13=.int .i64 d∧H 5=some ⟨h,3,ae (eI .i64) i,false,true,false⟩) (fun o x t H e=>match o with|j=>x=.exit 0∧∃k:Nat,t 5=.buf 5 k 1 0 (j).length∧H 5=some ⟨k,3,ae (eI .i64) j,false,true,false⟩) u ?_ ?_ ?_
 ·refine⟨1,?_,?_,?_,?_,?_,?_⟩;all_goals (rfl)
 ·rintro⟨v,d,i⟩ t H e ⟨h,p⟩ c a;simp only[u6]at a;simp only[gY,seval,-Int.reduceToNat,p];apply sp an a<;>intro _ a
  ·obtain⟨N,l,a⟩:=ah a;have b:=bz (eI .i64) l;simp only[bM]at b;simp only[gY,seval,-Int.reduceToNat,p,b];obtain⟨G,w,a⟩:=ah a;refine mn 0 (fun s t H e=>match s with|f=>∃g:Nat,t 1=.sl false false q.length (ae (eI .i64) q)∧t 5=.buf 5 g 1 0 (i).length∧t 7=.int .i64 d∧t 8=.int .i64 f∧t 12=.int .i64 ((K).length:Int)∧t 13=.int .i64 d∧H 5=some ⟨g,3,ae (eI .i64) i,false,true,false⟩) (fun s=>s=G) ?_ ?_
   ·rintro f t H e ⟨g,y⟩ rfl;try dsimp only at a
    obtain⟨O,A,a⟩:=ah a;have I:=vQ A;have b:=bz (eI .i64) l;simp only[bM]at b;have B:=fE (eI .i64) (x':=ma .and .i64 f 1048575) (fo:=0) (cs:=[.int .i64 (ma .and .i64 f 1048575)]) l rfl (aki rfl);simp only[bM,Nat.add_zero]at B;have m:=B;simp only[putCells,List.length_cons,List.length_nil,ajf]at m;cases a;simp only[gY,seval,-Int.reduceToNat,y,I,b,m];apply iG;refine⟨g,?_⟩;and_intros<;>first|rfl|(simp only[gY,seval,-Int.reduceToNat,y]<;>rfl)
   ·clear a;have a:=w;simp only[gY,seval,-Int.reduceToNat];apply sp an a<;>intro _ a
    ·obtain⟨P,C,a⟩:=ah a;have n:=bz (eI .i64) C;simp only[bM]at n;cases a;simp only[gY,seval,-Int.reduceToNat,p,b,n];rw[aw];refine⟨_,rfl,?_⟩;refine⟨h,?_⟩;and_intros<;>first|rfl|(simp only[gY,seval,-Int.reduceToNat,p]<;>rfl)
    ·cases a;simp only[gY,seval,-Int.reduceToNat];rw[aw];refine⟨_,rfl,?_⟩;refine⟨h,?_⟩;and_intros<;>first|rfl|(simp only[gY,seval,-Int.reduceToNat,p]<;>rfl)
  ·cases a;simp only[gY,seval,-Int.reduceToNat];apply jG;refine⟨rfl,⟨h,?_,?_⟩⟩;all_goals ((simp only[gY,seval,-Int.reduceToNat,p]<;>rfl))
 ·rintro x t H e L;obtain⟨j,rfl⟩:∃z,z=F:=⟨_,rfl⟩;dsimp only at L a;obtain⟨rfl,⟨k,J⟩⟩:=L;obtain⟨Q,D,a⟩:=ah a;cases a;simp only[gY,seval,-Int.reduceToNat,J,D]
def xZ:=dN (fK (bJ fl) (dy (bJ fl))) (fun x:aF×aF=>yo x.1 x.2) (fun r:aF×Int =>.clean (.tup [.agg [.int .i64 r.1.ak,.sl false false r.1.aa.length (ae (eI .i64) r.1.aa)],.int .i64 r.2])) l d
def B2:Env:=(Am.ext (Am.ext (Am.ext (Am.ext (Am.ext (Am.ext (Am.ext bf 49 false Az) 66 false ey) 69 false l8) 70 false gE) 71 false qV) 72 false gL) 73 false tY)
def SJ:bI prog B2:=(((((((bI.none.add Kv false).add gK false).add sg false).add km false).add GO false).add sh false).add GR false)
def jF:=ai @w<|ai @sh3<|ai @ey.eq_1<|ai @mm<|ai @sh1<|ai @gE.eq_1<|ai @sh5<|ai @qV.eq_1<|ai @gL.eq_1<|ai @tY.eq_1<|@B2.eq_1
def Te:bZ prog 37 xZ:=dT SJ func37 (by kernel_rfl) (fun _ _=>rfl) (fun _=>by kernel_rfl) ntmps37 results37 rfl fun⟨h,i⟩ r a=>by
 simp only[hZ]at a⊢;unfold yo at a;obtain⟨P,w,a⟩:=ah a;simp only[jF,seval,w];obtain⟨D,x,a⟩:=ah a;refine bS 0 (fun s t H e=>match s with|c=>∃d:Nat,∃f:Nat,∃g:Nat,t 2=.ptr 2 d 0∧t 3=.ptr 3 f 0∧t 4=.ptr 4 g 0∧t 13=.bool c∧H 2=some ⟨d,39,[.int .i64 h.ak,.sl false false h.aa.length (ae (eI .i64) h.aa)],false,false,false⟩∧H 3=some ⟨f,39,[.int .i64 i.ak,.sl false false i.aa.length (ae (eI .i64) i.aa)],false,false,false⟩∧H 4=some ⟨g,39,[.int .i64 0,.sl true true 0 []],false,false,false⟩) (fun s=>s=D) ?_ ?_
 ·rintro c t H e ⟨d,f,g,b⟩ rfl;try dsimp only at a
  simp only[jF,seval,b];apply sp an a<;>intro _ a
  ·have B:=mm false 0 ([]);simp only[bM]at B;obtain⟨Q,y,a⟩:=ah a;cases a;simp only[jF,seval,b,B,y]
  ·simp only[jF,seval,b];apply sp an a<;>intro _ a
   ·have C:=QU ([h.ak,i.ak]);simp only[bk,bM,List.length_cons,ajf,Nat.reduceAdd]at C;obtain⟨R,z,a⟩:=ah a;obtain⟨S,A,a⟩:=ah a;obtain⟨E,j,a⟩:=ah a;obtain⟨F,k,a⟩:=ah a;simp only[jF,seval,b,C,z,A,j,k];refine bu (by kernel_rfl) ?_;cases a;simp only[seval]
   ·obtain⟨G,l,a⟩:=ah a;simp only[jF,seval,b,l];apply sp an a<;>intro _ a
    ·obtain⟨I,m,a⟩:=ah a;obtain⟨J,n,a⟩:=ah a;obtain⟨K,o,a⟩:=ah a;simp only[jF,seval,b,m,n,o];refine bu (by kernel_rfl) ?_;cases a;simp only[seval]
    ·obtain⟨L,p,a⟩:=ah a;obtain⟨M,q,a⟩:=ah a;obtain⟨N,u,a⟩:=ah a;simp only[jF,seval,b,p,q,u];refine bu (by kernel_rfl) ?_;cases a;simp only[seval]
 ·clear a;have a:=x;simp only[jF,seval];apply sp aZ a<;>intro _ a
  ·cases a;simp only[jF,seval];rw[aw];refine⟨_,rfl,?_⟩;refine⟨0,0,0,?_,?_,?_,?_,?_,?_,?_⟩;all_goals (rfl)
  ·obtain⟨O,v,a⟩:=ah a;cases a;simp only[jF,seval,v];rw[aw];refine⟨_,rfl,?_⟩;refine⟨0,0,0,?_,?_,?_,?_,?_,?_,?_⟩;all_goals (rfl)
def x4:=dN (fK (bJ fl) (dy (bJ fl))) (fun x:aF×aF=>qz x.1 x.2) (fun r:aF×aF×Int =>.clean (.tup [.agg [.int .i64 r.1.ak,.sl false false r.1.aa.length (ae (eI .i64) r.1.aa)],.agg [.int .i64 r.2.1.ak,.sl false false r.2.1.aa.length (ae (eI .i64) r.2.1.aa)],.int .i64 r.2.2])) l d
def XD (a:(List Int)) (b:(List Int)):qV none [.sl false false a.length (ae (eI .i64) a),.sl false false b.length (ae (eI .i64) b)]=(sS a b).map fun r:(List Int)=>(.clean (.sl false false r.length (ae (eI .i64) r)),none):=cn _ _ _ (a,b)
def B3:Env:=(Am.ext (Am.ext (Am.ext (Am.ext (Am.ext bf 66 false ey) 70 false gE) 71 false qV) 73 false tY) 106 false tX)
def SK:bI prog B3:=(((((bI.none.add gK false).add km false).add GO false).add GR false).add GP false)
def fa:=ai @w<|ai @sh3<|ai @ey.eq_1<|ai @sh1<|ai @gE.eq_1<|ai @sh5<|ai @tY.eq_1<|ai @tX.eq_1<|@B3.eq_1
def Tf:bZ prog 76 x4:=dT SK func76 (by kernel_rfl) (fun _ _=>rfl) (fun _=>by kernel_rfl) ntmps76 results76 rfl fun⟨n,o⟩ r a=>by
 simp only[hZ]at a⊢;unfold qz at a;obtain⟨P,A,a⟩:=ah a;simp only[fa,seval,A];obtain⟨G,B,a⟩:=ah a;refine bS 0 (fun s t H e=>match s with|m=>∃b:Nat,∃c:Nat,∃d:Nat,∃f:Nat,t 2=.ptr 2 b 0∧t 3=.ptr 3 c 0∧t 4=.ptr 4 d 0∧t 5=.ptr 5 f 0∧t 9=.bool m∧H 2=some ⟨b,39,[.int .i64 n.ak,.sl false false n.aa.length (ae (eI .i64) n.aa)],false,false,false⟩∧H 3=some ⟨c,39,[.int .i64 o.ak,.sl false false o.aa.length (ae (eI .i64) o.aa)],false,false,false⟩∧H 4=some ⟨d,39,[.int .i64 0,.sl true true 0 []],false,false,false⟩∧H 5=some ⟨f,39,[.int .i64 0,.sl true true 0 []],false,false,false⟩) (fun s=>s=G) ?_ ?_
 ·rintro m t H e ⟨b,c,d,f,g⟩ rfl;try dsimp only at a
  simp only[fa,seval,g];apply sp an a<;>intro _ a
  ·cases a;simp only[fa,seval,g]
  ·simp only[fa,seval,g];apply sp an a<;>intro _ a
   ·cases a;simp only[fa,seval,g]
   ·obtain⟨q,C,a⟩:=ah a;simp only[fa,seval,g,C];obtain⟨I,D,a⟩:=ah a;refine bS 0 (fun s t H e=>match s with|h=>∃i:Nat,∃j:Nat,∃k:Nat,∃l:Nat,t 2=.ptr 2 i 0∧t 3=.ptr 3 j 0∧t 4=.ptr 4 k 0∧t 5=.ptr 5 l 0∧t 7=.sl false false q.1.length (ae (eI .i64) q.1)∧t 8=.sl false false q.2.length (ae (eI .i64) q.2)∧t 44=.bool h∧H 2=some ⟨i,39,[.int .i64 n.ak,.sl false false n.aa.length (ae (eI .i64) n.aa)],false,false,false⟩∧H 3=some ⟨j,39,[.int .i64 o.ak,.sl false false o.aa.length (ae (eI .i64) o.aa)],false,false,false⟩∧H 4=some ⟨k,39,[.int .i64 0,.sl true true 0 []],false,false,false⟩∧H 5=some ⟨l,39,[.int .i64 0,.sl true true 0 []],false,false,false⟩) (fun s=>s=I) ?_ ?_
    ·rintro h t H e ⟨i,j,k,l,p⟩ rfl;try dsimp only at a
     simp only[fa,seval,p];apply sp an a<;>intro _ a
     ·have F:=XD q.1 ([1]);simp only[bk,bM,List.length_cons,ajf]at F;obtain⟨Q,E,a⟩:=ah a;obtain⟨J,u,a⟩:=ah a;obtain⟨K,v,a⟩:=ah a;obtain⟨L,w,a⟩:=ah a;simp only[fa,seval,p,F,E,u,v,w];refine bu (by kernel_rfl) ?_;cases a;simp only[seval]
     ·obtain⟨M,x,a⟩:=ah a;obtain⟨N,y,a⟩:=ah a;simp only[fa,seval,p,x,y];refine bu (by kernel_rfl) ?_;cases a;simp only[seval]
    ·clear a;have a:=D;simp only[fa,seval];apply sp fG a<;>intro _ a
     ·cases a;simp only[fa,seval];rw[aw];refine⟨_,rfl,?_⟩;refine⟨b,c,d,f,?_⟩;and_intros<;>first|rfl|(simp only[fa,seval,g]<;>rfl)
     ·cases a;simp only[fa,seval];rw[aw];refine⟨_,rfl,?_⟩;refine⟨b,c,d,f,?_⟩;and_intros<;>first|rfl|(simp only[fa,seval,g]<;>rfl)
 ·clear a;have a:=B;simp only[fa,seval];apply sp aZ a<;>intro _ a
  ·cases a;simp only[fa,seval];rw[aw];refine⟨_,rfl,?_⟩;refine⟨0,0,0,0,?_,?_,?_,?_,?_,?_,?_,?_,?_⟩;all_goals (rfl)
  ·obtain⟨O,z,a⟩:=ah a;cases a;simp only[fa,seval,z];rw[aw];refine⟨_,rfl,?_⟩;refine⟨0,0,0,0,?_,?_,?_,?_,?_,?_,?_,?_,?_⟩;all_goals (rfl)
def ib:=dN (fK (bJ fl) (dy (bJ fl))) (fun x:aF×aF=>nQ x.1 x.2) (fun r:al×Int =>.clean (.tup [.agg [.int .i64 r.1.bK.ak,.sl false false r.1.bK.aa.length (ae (eI .i64) r.1.bK.aa),.int .i64 r.1.bL.ak,.sl false false r.1.bL.aa.length (ae (eI .i64) r.1.bL.aa)],.int .i64 r.2])) l d
def zM:Env:=(Am.ext (Am.ext (Am.ext (Am.ext bf 66 false ey) 67 false tV) 75 false tW) 76 false x4)
def O1:bI prog zM:=((((bI.none.add gK false).add GM false).add GN false).add Tf false)
def eW:=ai @w<|ai @sh3<|ai @ey.eq_1<|ai @sh6<|ai @tV.eq_1<|ai @tW.eq_1<|ai @x4.eq_1<|@zM.eq_1
def te:bZ prog 39 ib:=dT O1 func39 (by kernel_rfl) (fun _ _=>rfl) (fun _=>by kernel_rfl) ntmps39 results39 rfl fun⟨u,v⟩ r a=>by
 simp only[hZ]at a⊢;unfold nQ at a;obtain⟨J,w,a⟩:=ah a;simp only[eW,seval,w];obtain⟨D,x,a⟩:=ah a;refine bS 0 (fun s t H e=>match s with|k=>∃d:Nat,∃f:Nat,∃g:Nat,t 2=.ptr 2 d 0∧t 3=.ptr 3 f 0∧t 4=.ptr 4 g 0∧t 14=.bool k∧H 2=some ⟨d,39,[.int .i64 u.ak,.sl false false u.aa.length (ae (eI .i64) u.aa)],false,false,false⟩∧H 3=some ⟨f,39,[.int .i64 v.ak,.sl false false v.aa.length (ae (eI .i64) v.aa)],false,false,false⟩∧H 4=some ⟨g,41,[.int .i64 0,.sl true true 0 [],.int .i64 0,.sl true true 0 []],false,false,false⟩) (fun s=>s=D) ?_ ?_
 ·rintro k t H e ⟨d,f,g,h⟩ rfl;try dsimp only at a
  simp only[eW,seval,h];apply sp an a<;>intro _ a
  ·cases a;simp only[eW,seval,h]
  ·simp only[eW,seval,h];apply sp an a<;>intro _ a
   ·cases a;simp only[eW,seval,h]
   ·simp only[eW,seval,h];obtain⟨E,y,a⟩:=ah a;refine mn 0 (fun s t H e=>match s with|(i,b,j,c)=>∃l:Nat,∃m:Nat,∃n:Nat,t 2=.ptr 2 l 0∧t 3=.ptr 3 m 0∧t 4=.ptr 4 n 0∧H 2=some ⟨l,39,[.int .i64 i,.sl false false b.length (ae (eI .i64) b)],false,false,false⟩∧H 3=some ⟨m,39,[.int .i64 j,.sl false false c.length (ae (eI .i64) c)],false,false,false⟩∧H 4=some ⟨n,41,[.int .i64 0,.sl true true 0 [],.int .i64 0,.sl true true 0 []],false,false,false⟩) (fun s=>s=E) ?_ ?_
    ·rintro⟨i,b,j,c⟩ t H e ⟨l,m,n,z⟩ rfl;try dsimp only at a
     obtain⟨K,A,a⟩:=ah a;obtain⟨L,B,a⟩:=ah a;obtain⟨M,C,a⟩:=ah a;cases a;simp only[eW,seval,z,A,B,C]
    ·clear a;have a:=y;simp only[eW,seval];apply sp an a<;>intro _ a
     ·obtain⟨F,o,a⟩:=ah a;obtain⟨G,p,a⟩:=ah a;simp only[eW,seval,h,o,p];refine bu (by kernel_rfl) ?_;cases a;rw[aw];refine⟨_,rfl,?_⟩;refine⟨d,f,g,?_⟩;and_intros<;>first|rfl|(simp only[eW,seval,h]<;>rfl)
     ·cases a;simp only[eW,seval];rw[aw];refine⟨_,rfl,?_⟩;refine⟨d,f,g,?_,?_,?_,?_,?_,?_⟩;all_goals ((simp only[eW,seval,h]<;>rfl))
 ·clear a;have a:=x;simp only[eW,seval];apply sp aZ a<;>intro _ a
  ·cases a;simp only[eW,seval];rw[aw];refine⟨_,rfl,?_⟩;refine⟨0,0,0,?_,?_,?_,?_,?_,?_,?_⟩;all_goals (rfl)
  ·obtain⟨I,q,a⟩:=ah a;cases a;simp only[eW,seval,q];rw[aw];refine⟨_,rfl,?_⟩;refine⟨0,0,0,?_,?_,?_,?_,?_,?_,?_⟩;all_goals (rfl)
def fM:=dN (fK (bJ au) (dy (bJ au))) (fun x:al×al=>me x.1 x.2) (fun r:al×Int =>.clean (.tup [.agg [.int .i64 r.1.bK.ak,.sl false false r.1.bK.aa.length (ae (eI .i64) r.1.bK.aa),.int .i64 r.1.bL.ak,.sl false false r.1.bL.aa.length (ae (eI .i64) r.1.bL.aa)],.int .i64 r.2])) l d
def Rj {β:Type} {F:al×al->Option β} {R:β->RK} (e:Int) (a:(List Int)) (f:Int) (b:(List Int)) (g:Int) (c:(List Int)) (h:Int) (d:(List Int)):dN (fK (bJ au) (dy (bJ au))) F R none [.agg [.int .i64 e,.sl false false a.length (ae (eI .i64) a),.int .i64 f,.sl false false b.length (ae (eI .i64) b)],.agg [.int .i64 g,.sl false false c.length (ae (eI .i64) c),.int .i64 h,.sl false false d.length (ae (eI .i64) d)]]=(F ((al.mk (aF.mk e a) (aF.mk f b)),(al.mk (aF.mk g c) (aF.mk h d)))).map fun r=>(R r,none):=cn _ _ _ ((al.mk (aF.mk e a) (aF.mk f b)),(al.mk (aF.mk g c) (aF.mk h d)))
def zI:Env:=(Am.ext (Am.ext (Am.ext (Am.ext bf 36 false db) 37 false xZ) 38 false gF) 39 false ib)
def OX:bI prog zI:=((((bI.none.add fW false).add Te false).add pr false).add te false)
def ln:=ai @w<|ai @Ri<|ai @db.eq_1<|ai @sh6<|ai @xZ.eq_1<|ai @gF.eq_1<|ai @ib.eq_1<|@zI.eq_1
def td:bZ prog 12 fM:=dT OX func12 (by kernel_rfl) (fun _ _=>rfl) (fun _=>by kernel_rfl) ntmps12 results12 rfl fun⟨h,i⟩ r a=>by
 simp only[hZ]at a⊢;unfold me at a;obtain⟨w,k,a⟩:=ah a;simp only[ln,seval,k];obtain⟨u,l,a⟩:=ah a;refine bS 0 (fun s t H e=>match s with|b=>∃c:Nat,∃d:Nat,∃f:Nat,t 2=.ptr 2 c 0∧t 3=.ptr 3 d 0∧t 4=.ptr 4 f 0∧t 15=.bool b∧H 2=some ⟨c,41,[.int .i64 h.bK.ak,.sl false false h.bK.aa.length (ae (eI .i64) h.bK.aa),.int .i64 h.bL.ak,.sl false false h.bL.aa.length (ae (eI .i64) h.bL.aa)],false,false,false⟩∧H 3=some ⟨d,41,[.int .i64 i.bK.ak,.sl false false i.bK.aa.length (ae (eI .i64) i.bK.aa),.int .i64 i.bL.ak,.sl false false i.bL.aa.length (ae (eI .i64) i.bL.aa)],false,false,false⟩∧H 4=some ⟨f,41,[.int .i64 0,.sl true true 0 [],.int .i64 0,.sl true true 0 []],false,false,false⟩) (fun s=>s=u) ?_ ?_
 ·rintro b t H e ⟨c,d,f,g⟩ rfl;try dsimp only at a
  simp only[ln,seval,g];apply sp an a<;>intro _ a
  ·cases a;simp only[ln,seval,g]
  ·obtain⟨x,m,a⟩:=ah a;obtain⟨y,n,a⟩:=ah a;obtain⟨z,o,a⟩:=ah a;simp only[ln,seval,g,m,n,o];refine bu (by kernel_rfl) ?_;obtain⟨A,p,a⟩:=ah a;obtain⟨B,q,a⟩:=ah a;simp only[ln,seval,g,p,q];refine bu (by kernel_rfl) ?_;cases a;simp only[seval]
 ·clear a;have a:=l;simp only[ln,seval];apply sp aZ a<;>intro _ a
  ·cases a;simp only[ln,seval];rw[aw];refine⟨_,rfl,?_⟩;refine⟨0,0,0,?_,?_,?_,?_,?_,?_,?_⟩;all_goals (rfl)
  ·obtain⟨v,j,a⟩:=ah a;cases a;simp only[ln,seval,j];rw[aw];refine⟨_,rfl,?_⟩;refine⟨0,0,0,?_,?_,?_,?_,?_,?_,?_⟩;all_goals (rfl)
def mG:=dN (fK (bJ au) (dy (bJ au))) (fun x:al×al=>rT x.1 x.2) (fun r:al×Int =>.clean (.tup [.agg [.int .i64 r.1.bK.ak,.sl false false r.1.bK.aa.length (ae (eI .i64) r.1.bK.aa),.int .i64 r.1.bL.ak,.sl false false r.1.bL.aa.length (ae (eI .i64) r.1.bL.aa)],.int .i64 r.2])) l d
def zN:Env:=(Am.ext (Am.ext (Am.ext bf 12 false fM) 36 false db) 75 false tW)
def O2:bI prog zN:=(((bI.none.add td false).add fW false).add GN false)
def mV:=ai @w<|ai @Rj<|ai @fM.eq_1<|ai @Ri<|ai @db.eq_1<|ai @sh3<|ai @tW.eq_1<|@zN.eq_1
def DG:bZ prog 56 mG:=dT O2 func56 (by kernel_rfl) (fun _ _=>rfl) (fun _=>by kernel_rfl) ntmps56 results56 rfl fun⟨g,h⟩ r a=>by
 simp only[hZ]at a⊢;unfold rT at a;obtain⟨p,j,a⟩:=ah a;simp only[mV,seval,j];obtain⟨o,k,a⟩:=ah a;refine bS 0 (fun s t H e=>match s with|b=>∃c:Nat,∃d:Nat,∃f:Nat,t 2=.ptr 2 c 0∧t 3=.ptr 3 d 0∧t 4=.ptr 4 f 0∧t 13=.bool b∧H 2=some ⟨c,41,[.int .i64 g.bK.ak,.sl false false g.bK.aa.length (ae (eI .i64) g.bK.aa),.int .i64 g.bL.ak,.sl false false g.bL.aa.length (ae (eI .i64) g.bL.aa)],false,false,false⟩∧H 3=some ⟨d,41,[.int .i64 h.bK.ak,.sl false false h.bK.aa.length (ae (eI .i64) h.bK.aa),.int .i64 h.bL.ak,.sl false false h.bL.aa.length (ae (eI .i64) h.bL.aa)],false,false,false⟩∧H 4=some ⟨f,41,[.int .i64 0,.sl true true 0 [],.int .i64 0,.sl true true 0 []],false,false,false⟩) (fun s=>s=o) ?_ ?_
 ·rintro b t H e ⟨c,d,f,i⟩ rfl;try dsimp only at a
  simp only[mV,seval,i];apply sp an a<;>intro _ a
  ·cases a;simp only[mV,seval,i]
  ·obtain⟨q,l,a⟩:=ah a;obtain⟨u,m,a⟩:=ah a;simp only[mV,seval,i,l,m];refine bu (by kernel_rfl) ?_;cases a;simp only[seval]
 ·clear a;have a:=k;simp only[mV,seval];apply sp aZ a<;>intro _ a
  ·cases a;simp only[mV,seval];rw[aw];refine⟨_,rfl,?_⟩;refine⟨0,0,0,?_,?_,?_,?_,?_,?_,?_⟩;all_goals (rfl)
  ·obtain⟨v,n,a⟩:=ah a;cases a;simp only[mV,seval,n];rw[aw];refine⟨_,rfl,?_⟩;refine⟨0,0,0,?_,?_,?_,?_,?_,?_,?_⟩;all_goals (rfl)
def gM:=dN (dy (bJ rI)) (fun x:dE=>nh x) (fun r:(List al) =>.clean (.sl false false r.length (ae au r))) l d
def XI {β:Type} {F:dE->Option β} {R:β->RK} (b:Int) (a:(List bV)):dN (dy (bJ rI)) F R none [.agg [.int .i64 b,.sl false false a.length (ae bP a)]]=(F ((dE.mk b a))).map fun r=>(R r,none):=cn _ _ _ ((dE.mk b a))
def xl:Env:=(Am.ext (Am.ext bf 33 false fN) 56 false mG)
def L4:bI prog xl:=((bI.none.add nk false).add DG false)
def eA:=ai @w<|ai @sh2<|ai @fN.eq_1<|ai @Rj<|ai @mG.eq_1<|@xl.eq_1
def vB:bZ prog 41 gM:=dT L4 func41 (by kernel_rfl) (fun _ _=>rfl) (fun _=>by kernel_rfl) ntmps41 results41 rfl fun p r a=>by
 simp only[hZ]at a⊢;unfold nh at a;obtain⟨Z,Q,a⟩:=ah a;obtain⟨R,S,T,F,U⟩:=mk_one au Q;simp only[bM]at F;simp only[eA,seval,R,S,T,F,U];obtain⟨o7,V,a⟩:=ah a;refine aA (fun s t H e=>match s with|(q,C)=>∃g:Nat,∃h:Nat,t 1=.ptr 1 g 0∧t 3=.buf 3 h 4 0 (C).length∧t 11=.int .i64 ((Z).length:Int)∧t 12=.int .i64 q∧H 1=some ⟨g,32,[.int .i64 p.aC,.sl false false p.aP.length (ae bP p.aP)],false,false,false⟩∧H 3=some ⟨h,41,ae au C,false,true,false⟩) (fun o x t H e=>match o with|i=>x=.exit 0∧∃j:Nat,∃d:Nat,t 1=.ptr 1 j 0∧t 3=.buf 3 d 4 0 (i).length∧H 1=some ⟨j,32,[.int .i64 p.aC,.sl false false p.aP.length (ae bP p.aP)],false,false,false⟩∧H 3=some ⟨d,41,ae au i,false,true,false⟩) V ?_ ?_ ?_
 ·refine⟨0,1,?_,?_,?_,?_,?_,?_⟩;all_goals (rfl)
 ·rintro⟨q,C⟩ t H e ⟨g,h,O⟩ c a;simp only[nY]at a;simp only[eA,seval,O];apply sp an a<;>intro _ a
  ·obtain⟨D,W,a⟩:=ah a;obtain⟨aa,u,a⟩:=ah a;have v:=bz au u;simp only[bM]at v;have G:=fE au (x':=D) (fo:=0) (cs:=[.int .i64 D.bK.ak,.sl false false D.bK.aa.length (ae (eI .i64) D.bK.aa),.int .i64 D.bL.ak,.sl false false D.bL.aa.length (ae (eI .i64) D.bL.aa)]) u rfl (aki rfl);simp only[bM,Nat.add_zero]at G;have w:=G;simp only[putCells,List.length_cons,List.length_nil,ajf,Nat.reduceAdd]at w;cases a;simp only[eA,seval,O,W,v,w];apply iG;refine⟨g,h,?_⟩;and_intros<;>first|rfl|(simp only[eA,seval,O]<;>rfl)
  ·cases a;simp only[eA,seval];apply jG;refine⟨rfl,⟨g,h,?_,?_,?_,?_⟩⟩;all_goals ((simp only[eA,seval,O]<;>rfl))
 ·rintro x t H e I;obtain⟨i,rfl⟩:∃z,z=o7:=⟨_,rfl⟩;dsimp only at I a;obtain⟨rfl,⟨j,d,J⟩⟩:=I;simp only[eA,seval,J];obtain⟨X,K,a⟩:=ah a;refine aA (fun s t H e=>match s with|(y,E)=>∃k:Nat,t 3=.buf 3 k 4 0 (E).length∧t 21=.sl false false p.aP.length (ae bP p.aP)∧t 22=.int .i64 (p.aP.length:Int)∧t 23=.int .i64 y∧H 3=some ⟨k,41,ae au E,false,true,false⟩) (fun o x t H e=>match o with|l=>x=.exit 2∧∃m:Nat,t 3=.buf 3 m 4 0 (l).length∧H 3=some ⟨m,41,ae au l,false,true,false⟩) K ?_ ?_ ?_
  ·refine⟨d,?_⟩;and_intros<;>first|rfl|(simp only[eA,seval,J]<;>rfl)
  ·rintro⟨y,E⟩ t H e ⟨k,P⟩ c a;simp only[nZ]at a;simp only[eA,seval,P];apply sp an a<;>intro _ a
   ·obtain⟨ab,L,a⟩:=ah a;have A:=bz bP L;simp only[bM]at A;obtain⟨ad,n,a⟩:=ah a;have f:=bz au n;simp only[bM]at f;obtain⟨b,M,a⟩:=ah a;have f:=bz au n;simp only[bM]at f;have N:=fE au (x':=b.1) (fo:=0) (cs:=[.int .i64 b.1.bK.ak,.sl false false b.1.bK.aa.length (ae (eI .i64) b.1.bK.aa),.int .i64 b.1.bL.ak,.sl false false b.1.bL.aa.length (ae (eI .i64) b.1.bL.aa)]) n rfl (aki rfl);simp only[bM,Nat.add_zero]at N;have B:=N;simp only[putCells,List.length_cons,List.length_nil,ajf,Nat.reduceAdd]at B;simp only[eA,seval,P,A,M,f,B];refine bu (by kernel_rfl) ?_;cases a;apply iG;refine⟨k,?_⟩;and_intros<;>first|rfl|(simp only[eA,seval,P]<;>rfl)
   ·cases a;simp only[eA,seval];apply jG;refine⟨rfl,⟨k,?_,?_⟩⟩;all_goals ((simp only[eA,seval,P]<;>rfl))
  ·rintro x t H e I;obtain⟨l,rfl⟩:∃z,z=X:=⟨_,rfl⟩;dsimp only at I a;obtain⟨rfl,⟨m,Y⟩⟩:=I;cases a;simp only[eA,seval,Y]
def pe:=dN (dy (bJ au)) (fun x:al=>pQ x) (fun r:Bool =>.clean (.bool r)) l d
def tH:Env:=(Am.ext bf 11 false dS)
def FY:bI prog tH:=(bI.none.add lL false)
def IB:=ai @w<|ai @Ri<|ai @dS.eq_1<|@tH.eq_1
def GS:bZ prog 52 pe:=dT FY func52 (by kernel_rfl) (fun _ _=>rfl) (fun _=>by kernel_rfl) ntmps52 results52 rfl fun c r a=>by
 simp only[hZ]at a⊢;unfold pQ at a;obtain⟨d,b,a⟩:=ah a;cases a;simp only[IB,seval,b]
def eh:=dN (fK (jZ au) (dy (Yc 52))) (fun x:(List al)×Unit=>dF x.1) (fun r:Int =>.clean (.int .i64 r)) l d
def af7 {β:Type} {F:(List al)×Unit->Option β} {R:β->RK} (a:(List al)):dN (fK (jZ au) (dy (Yc 52))) F R none [.sl false false a.length (ae au a),.fn 52]=(F (a,())).map fun r=>(R r,none):=cn _ _ _ (a,())
def fP:Env:=(Am.ext bf 52 false pe)
def ow:bI prog fP:=(bI.none.add GS false)
def bE:=ai @w<|ai @Ri<|ai @pe.eq_1<|@fP.eq_1
def ox:bZ prog 95 eh:=dT ow func95 (by kernel_rfl) (fun _ _=>rfl) (fun _=>by kernel_rfl) ntmps95 results95 rfl fun⟨f,_⟩ r a=>by
 simp only[hZ]at a⊢;unfold dF at a;simp only[bE,seval];obtain⟨l,i,a⟩:=ah a;refine aA (fun s t H e=>match s with|b=>t 0=.sl false false f.length (ae au f)∧t 1=.fn 52∧t 7=.int .i64 (f.length:Int)∧t 8=.int .i64 b) (fun o x t H e=>match o with|(.inl _)=>x=.exit 0|(.inr r)=>x=.ret∧gi .clean tab none [.tmp 4] ⟨t,EH H,e⟩=some (.clean (.int .i64 r),none)) i ?_ ?_ ?_
 ·refine⟨?_,?_,?_,?_⟩;all_goals (rfl)
 ·rintro b t H e g c a;simp only[dR]at a;simp only[bE,seval,g];apply sp an a<;>intro _ a
  ·obtain⟨n,j,a⟩:=ah a;have d:=bz au j;simp only[bM]at d;obtain⟨p,k,a⟩:=ah a;simp only[bE,seval,g,d,k];apply sp an a<;>intro _ a
   ·cases a;simp only[bE,seval];refine tQ ⟨rfl,?_⟩;simp only[bE,seval]
   ·cases a;simp only[bE,seval,g];apply iG;and_intros<;>first|rfl|(simp only[bE,seval,g]<;>rfl)
  ·cases a;simp only[bE,seval];apply jG;exact rfl
 ·rintro x t H e h;rcases l with _|q
  ·dsimp only at h a;subst h;cases a;simp only[bE,seval]
  ·dsimp only at h a;obtain⟨rfl,m⟩:=h;cases a;simp only[aX,ba,cv,cA];exact m
def dG:=dN (fK (jZ au) (dy (Yc 52))) (fun x:(List al)×Unit=>cr x.1) (fun r:Bool =>.clean (.bool r)) l d
def fh:Env:=(Am.ext bf 95 false eh)
def mM:bI prog fh:=(bI.none.add ox false)
def nG:=ai @w<|ai @af7<|ai @eh.eq_1<|@fh.eq_1
def mP:bZ prog 51 dG:=dT mM func51 (by kernel_rfl) (fun _ _=>rfl) (fun _=>by kernel_rfl) ntmps51 results51 rfl fun⟨c,_⟩ r a=>by
 simp only[hZ]at a⊢;unfold cr at a;obtain⟨d,b,a⟩:=ah a;cases a;simp only[nG,seval,b]
def iQ:=dN (dy (bJ rI)) (fun x:dE=>lI x) (fun r:Bool =>.clean (.bool r)) l d
def xk:Env:=(Am.ext (Am.ext (Am.ext (Am.ext (Am.ext (Am.ext bf 11 false dS) 25 false qt) 36 false db) 40 false ef) 41 false gM) 51 false dG)
def L3:bI prog xk:=((((((bI.none.add lL false).add Il false).add fW false).add kn false).add vB false).add mP false)
def bg:=ai @w<|ai @Ri<|ai @dS.eq_1<|ai @af6<|ai @qt.eq_1<|ai @db.eq_1<|ai @sh9<|ai @ef.eq_1<|ai @XI<|ai @gM.eq_1<|ai @af7<|ai @dG.eq_1<|@xk.eq_1
def qM:bZ prog 26 iQ:=dT L3 func26 (by kernel_rfl) (fun _ _=>rfl) (fun _=>by kernel_rfl) ntmps26 results26 rfl fun b r a=>by
 simp only[hZ]at a⊢;unfold lI at a;obtain⟨Z,K,a⟩:=ah a;simp only[bg,seval,K];obtain⟨P,L,a⟩:=ah a;refine bS 0 (fun s t H e=>match s with|k=>∃i:Nat,t 1=.ptr 1 i 0∧t 14=.bool k∧H 1=some ⟨i,32,[.int .i64 b.aC,.sl false false b.aP.length (ae bP b.aP)],false,false,false⟩) (fun s=>s=P) ?_ ?_
 ·rintro k t H e ⟨i,v⟩ rfl;try dsimp only at a
  simp only[bg,seval,v];apply sp an a<;>intro _ a
  ·cases a;simp only[bg,seval]
  ·simp only[bg,seval,v];obtain⟨M,w,a⟩:=ah a;refine aA (fun s t H e=>match s with|j=>∃d:Nat,t 1=.ptr 1 d 0∧t 16=.sl false false b.aP.length (ae bP b.aP)∧t 17=.int .i64 (b.aP.length:Int)∧t 18=.int .i64 j∧H 1=some ⟨d,32,[.int .i64 b.aC,.sl false false b.aP.length (ae bP b.aP)],false,false,false⟩) (fun o x t H e=>match o with|(.inl _)=>x=.exit 0∧∃l:Nat,t 1=.ptr 1 l 0∧H 1=some ⟨l,32,[.int .i64 b.aC,.sl false false b.aP.length (ae bP b.aP)],false,false,false⟩|(.inr r)=>x=.ret∧gi .clean tab none [.tmp 2] ⟨t,EH H,e⟩=some (.clean (.bool r),none)) w ?_ ?_ ?_
   ·refine⟨i,?_⟩;and_intros<;>first|rfl|(simp only[bg,seval,v]<;>rfl)
   ·rintro j t H e ⟨d,p⟩ c a;simp only[nX]at a;simp only[bg,seval,p];apply sp an a<;>intro _ a
    ·obtain⟨f,y,a⟩:=ah a;have q:=bz bP y;simp only[bM]at q;obtain⟨Q,z,a⟩:=ah a;simp only[bg,seval,p,q,z];obtain⟨N,A,a⟩:=ah a;refine bS 0 (fun s t H e=>match s with|m=>∃g:Nat,∃n:Nat,t 1=.ptr 1 g 0∧t 3=.int .i64 j∧t 4=.ptr 4 n 0∧t 16=.sl false false b.aP.length (ae bP b.aP)∧t 17=.int .i64 (b.aP.length:Int)∧t 18=.int .i64 j∧t 50=.bool m∧H 1=some ⟨g,32,[.int .i64 b.aC,.sl false false b.aP.length (ae bP b.aP)],false,false,false⟩∧H 4=some ⟨n,50,[.int .i64 f.cM,.int .i64 f.jR,.int .i64 f.eo.bK.ak,.sl false false f.eo.bK.aa.length (ae (eI .i64) f.eo.bK.aa),.int .i64 f.eo.bL.ak,.sl false false f.eo.bL.aa.length (ae (eI .i64) f.eo.bL.aa)],false,false,false⟩) (fun s=>s=N) ?_ ?_
     ·rintro m t H e ⟨g,n,h⟩ rfl;try dsimp only at a
      simp only[bg,seval,h];apply sp an a<;>intro _ a
      ·cases a;simp only[bg,seval];refine tQ ⟨rfl,?_⟩;simp only[bg,seval]
      ·simp only[bg,seval,h];apply sp vS a<;>intro _ a
       ·obtain⟨R,B,a⟩:=ah a;have u:=bz bP B;simp only[bM]at u;obtain⟨S,C,a⟩:=ah a;simp only[bg,seval,h,u,C];refine bu (by kernel_rfl) ?_;apply sp an a<;>intro _ a
        ·cases a;simp only[bg,seval];refine tQ ⟨rfl,?_⟩;simp only[bg,seval]
        ·cases a;simp only[bg,seval,h];apply iG;refine⟨g,?_⟩;and_intros<;>first|rfl|(simp only[bg,seval,h]<;>rfl)
       ·simp only[bg,seval,h];refine bu (by kernel_rfl) ?_;cases a;apply iG;refine⟨g,?_⟩;and_intros<;>first|rfl|(simp only[bg,seval,h]<;>rfl)
     ·clear a;have a:=A;simp only[bg,seval];apply sp aZ a<;>intro _ a
      ·cases a;simp only[bg,seval];rw[aw];refine⟨_,rfl,?_⟩;refine⟨d,e+1,?_⟩;and_intros<;>first|rfl|(simp only[bg,seval,p]<;>rfl)
      ·obtain⟨T,D,a⟩:=ah a;simp only[bg,seval,p,D];apply sp aZ a<;>intro _ a
       ·cases a;simp only[bg,seval];rw[aw];refine⟨_,rfl,?_⟩;refine⟨d,e+1,?_⟩;and_intros<;>first|rfl|(simp only[bg,seval,p]<;>rfl)
       ·obtain⟨U,E,a⟩:=ah a;simp only[bg,seval,E];apply sp aZ a<;>intro _ a
        ·cases a;simp only[bg,seval];rw[aw];refine⟨_,rfl,?_⟩;refine⟨d,e+1,?_⟩;and_intros<;>first|rfl|(simp only[bg,seval,p]<;>rfl)
        ·obtain⟨V,F,a⟩:=ah a;cases a;simp only[bg,seval,F];rw[aw];refine⟨_,rfl,?_⟩;refine⟨d,e+1,?_⟩;and_intros<;>first|rfl|(simp only[bg,seval,p]<;>rfl)
    ·cases a;simp only[bg,seval];apply jG;refine⟨rfl,⟨d,?_,?_⟩⟩;all_goals ((simp only[bg,seval,p]<;>rfl))
   ·rintro x t H e J;rcases M with _|rb
    ·dsimp only at J a;obtain⟨rfl,⟨l,O⟩⟩:=J;obtain⟨W,G,a⟩:=ah a;obtain⟨X,I,a⟩:=ah a;cases a;simp only[bg,seval,O,G,I]
    ·dsimp only at J a;obtain⟨rfl,Y⟩:=J;cases a;simp only[aX,ba,cv,cA];exact Y
 ·clear a;have a:=L;simp only[bg,seval];apply sp aZ a<;>intro _ a
  ·cases a;simp only[bg,seval];rw[aw];refine⟨_,rfl,?_⟩;refine⟨0,?_,?_,?_⟩;all_goals (rfl)
  ·cases a;simp only[bg,seval];rw[aw];refine⟨_,rfl,?_⟩;refine⟨0,?_,?_,?_⟩;all_goals (rfl)
def kF:=dN (dy (bJ au)) (fun x:al=>kf x) (fun r:Bool =>.clean (.bool r)) l d
def nR:Env:=(Am.ext bf 36 false db)
def z8:bI prog nR:=(bI.none.add fW false)
def BH:=ai @w<|ai @Ri<|ai @db.eq_1<|@nR.eq_1
def Ag:bZ prog 53 kF:=dT z8 func53 (by kernel_rfl) (fun _ _=>rfl) (fun _=>by kernel_rfl) ntmps53 results53 rfl fun c r a=>by
 simp only[hZ]at a⊢;unfold kf at a;obtain⟨d,b,a⟩:=ah a;cases a;simp only[BH,seval,b]
def dw:=dN (fK (jZ au) (dy (Yc 53))) (fun x:(List al)×Unit=>cP x.1) (fun r:Int =>.clean (.int .i64 r)) l d
def af8 {β:Type} {F:(List al)×Unit->Option β} {R:β->RK} (a:(List al)):dN (fK (jZ au) (dy (Yc 53))) F R none [.sl false false a.length (ae au a),.fn 53]=(F (a,())).map fun r=>(R r,none):=cn _ _ _ (a,())
def eT:Env:=(Am.ext bf 53 false kF)
def mf:bI prog eT:=(bI.none.add Ag false)
def bj:=ai @w<|ai @Ri<|ai @kF.eq_1<|@eT.eq_1
def ml:bZ prog 95 dw:=dT mf func95 (by kernel_rfl) (fun _ _=>rfl) (fun _=>by kernel_rfl) ntmps95 results95 rfl fun⟨f,_⟩ r a=>by
 simp only[hZ]at a⊢;unfold cP at a;simp only[bj,seval];obtain⟨l,i,a⟩:=ah a;refine aA (fun s t H e=>match s with|b=>t 0=.sl false false f.length (ae au f)∧t 1=.fn 53∧t 7=.int .i64 (f.length:Int)∧t 8=.int .i64 b) (fun o x t H e=>match o with|(.inl _)=>x=.exit 0|(.inr r)=>x=.ret∧gi .clean tab none [.tmp 4] ⟨t,EH H,e⟩=some (.clean (.int .i64 r),none)) i ?_ ?_ ?_
 ·refine⟨?_,?_,?_,?_⟩;all_goals (rfl)
 ·rintro b t H e g c a;simp only[dn]at a;simp only[bj,seval,g];apply sp an a<;>intro _ a
  ·obtain⟨n,j,a⟩:=ah a;have d:=bz au j;simp only[bM]at d;obtain⟨p,k,a⟩:=ah a;simp only[bj,seval,g,d,k];apply sp an a<;>intro _ a
   ·cases a;simp only[bj,seval];refine tQ ⟨rfl,?_⟩;simp only[bj,seval]
   ·cases a;simp only[bj,seval,g];apply iG;and_intros<;>first|rfl|(simp only[bj,seval,g]<;>rfl)
  ·cases a;simp only[bj,seval];apply jG;exact rfl
 ·rintro x t H e h;rcases l with _|q
  ·dsimp only at h a;subst h;cases a;simp only[bj,seval]
  ·dsimp only at h a;obtain⟨rfl,m⟩:=h;cases a;simp only[aX,ba,cv,cA];exact m
def cV:=dN (fK (jZ au) (dy (Yc 53))) (fun x:(List al)×Unit=>cw x.1) (fun r:Bool =>.clean (.bool r)) l d
def ep:Env:=(Am.ext bf 95 false dw)
def kR:bI prog ep:=(bI.none.add ml false)
def lQ:=ai @w<|ai @af8<|ai @dw.eq_1<|@ep.eq_1
def kX:bZ prog 51 cV:=dT kR func51 (by kernel_rfl) (fun _ _=>rfl) (fun _=>by kernel_rfl) ntmps51 results51 rfl fun⟨c,_⟩ r a=>by
 simp only[hZ]at a⊢;unfold cw at a;obtain⟨d,b,a⟩:=ah a;cases a;simp only[lQ,seval,b]
def j8:=dN (fK (jZ au) (dy (aI .i64))) (fun x:(List al)×Int=>gT x.1 x.2) (fun r:Bool =>.clean (.bool r)) l d
def acG {β:Type} {F:(List al)×Int->Option β} {R:β->RK} (a:(List al)) (b:Int):dN (fK (jZ au) (dy (aI .i64))) F R none [.sl false false a.length (ae au a),.int .i64 b]=(F (a,b)).map fun r=>(R r,none):=cn _ _ _ (a,b)
def p9:Env:=(Am.ext bf 51 false cV)
def Cn:bI prog p9:=(bI.none.add kX false)
def qk:=ai @w<|ai @af8<|ai @cV.eq_1<|@p9.eq_1
def uv:bZ prog 27 j8:=dT Cn func27 (by kernel_rfl) (fun _ _=>rfl) (fun _=>by kernel_rfl) ntmps27 results27 rfl fun⟨c,d⟩ r a=>by
 simp only[hZ]at a⊢;unfold gT at a;simp only[qk,seval];apply sp fG a<;>intro _ a
 ·obtain⟨e,b,a⟩:=ah a;cases a;simp only[qk,seval,b]
 ·cases a;simp only[qk,seval]
def sO:=dN (dy (bJ rI)) (fun x:dE=>nd x) (fun r:(List Int) =>.clean (.sl false false r.length (ae (eI .i64) r))) l d
def xj:Env:=(Am.wA 18 (3,1,0) (Am.ext (Am.ext (Am.ext bf 11 false dS) 26 false iQ) 41 false gM))
def L2:bI prog xj:=(bI.wA (((bI.none.add lL false).add qM false).add vB false) 18 (3,1,0))
def a7:=ai @w<|ai @Ri<|ai @dS.eq_1<|ai @XI<|ai @iQ.eq_1<|ai @gM.eq_1<|@xj.eq_1
def Mw:bZ prog 54 sO:=dT L2 func54 (by kernel_rfl) (fun _ _=>rfl) (fun _=>by kernel_rfl) ntmps54 results54 rfl fun p0 r a=>by
 simp only[hZ]at a⊢;unfold nd at a;obtain⟨r1,a6,a⟩:=ah a;simp only[a7,seval,-Int.reduceToNat,a6];apply sp an a<;>intro _ a
 ·cases a;simp only[a7,seval,-Int.reduceToNat]
 ·obtain⟨x3,b6,a⟩:=ah a;have a8:=VC (E:=(Ow (eI .i64))) (ty':=3) (s:=1) (f:=0) (k := .i64) MX (by rfl) rfl rfl rfl rfl rfl b6;obtain⟨Y,di,dj,dk,dm⟩:=mk_one (Ow (eI .i64)) b6;simp only[a7,seval,-Int.reduceToNat,a8,Y];obtain⟨c7,b7,a⟩:=ah a;refine aA (fun s t H e=>match s with|(bj,Z)=>∃aa:Nat,∃A:Nat,∃l:Nat,t 1=.ptr 1 aa 0∧t 3=.buf 18 A 1 0 (Z).length∧t 20=.sl false false p0.aP.length (ae bP p0.aP)∧t 21=.int .i64 (p0.aP.length:Int)∧t 22=.int .i64 bj∧H 1=some ⟨aa,32,[.int .i64 p0.aC,.sl false false p0.aP.length (ae bP p0.aP)],false,false,false⟩∧H 18=some ⟨A,22,[.nr 3 1 l (ae (Ow (eI .i64)) Z)],false,true,true⟩∧l<=4*e) (fun o x t H e=>match o with|b=>x=.exit 0∧∃ab:Nat,∃p:Nat,∃h:Nat,t 1=.ptr 1 ab 0∧t 3=.buf 18 p 1 0 (b).length∧H 1=some ⟨ab,32,[.int .i64 p0.aC,.sl false false p0.aP.length (ae bP p0.aP)],false,false,false⟩∧H 18=some ⟨p,22,[.nr 3 1 h (ae (Ow (eI .i64)) b)],false,true,true⟩∧h<=4*e) b7 ?_ ?_ ?_
  ·refine⟨0,2,4*(2)+2,?_,?_,?_,?_,?_,?_,?_,?_⟩;all_goals (first|rfl|omega|(simp only[a7,seval,-Int.reduceToNat,a6,a8,Y]<;>rfl))
  ·rintro⟨bj,Z⟩ t H e ⟨aa,A,l,Za⟩ c a;simp only[lE]at a;simp only[a7,seval,-Int.reduceToNat,Za];apply sp an a<;>intro _ a
   ·obtain⟨dn,b8,a⟩:=ah a;have bk:=bz bP b8;simp only[bM]at bk;obtain⟨dp,F,a⟩:=ah a;have G:=bz (Ow (eI .i64)) F;simp only[bM]at G;obtain⟨bO,b9,a⟩:=ah a;obtain⟨ca,bl,cb,cc⟩:=iT (eI .i64) b9;simp only[bM]at bl;have G:=bz (Ow (eI .i64)) F;simp only[bM]at G;have cd:=QP (Ow (eI .i64)) (x':=bO) 0 .und (.nx bO.length (ae (eI .i64) bO)) F rfl (aki rfl);have bm:=VQ (Ow (eI .i64)) 0 .und F (aki rfl);simp only[bM,Nat.add_zero]at cd bm;have bn:=cd;simp only[putCells,List.length_cons,List.length_nil,ajf]at bn;have ad:=bm;simp only[putCells,List.length_cons,List.length_nil,ajf]at ad;have cf:bump l (e+1+1)=some (4*(e+1+1)+1):=kG (by omega);simp only[a7,seval,-Int.reduceToNat,Za,bk,ca,bl,cb,cc,G,bn,ad,cf];refine bu (by kernel_rfl) ?_;cases a;apply iG;refine⟨aa,A,4*(e+1+1)+1,?_,?_,?_,?_,?_,?_,?_,?_⟩;all_goals (first|rfl|omega|(simp only[a7,seval,-Int.reduceToNat,Za]<;>rfl))
   ·cases a;simp only[a7,seval,-Int.reduceToNat];apply jG;refine⟨rfl,⟨aa,A,l,?_,?_,?_,?_,?_⟩⟩;all_goals (first|rfl|omega|(simp only[a7,seval,-Int.reduceToNat,Za]<;>rfl))
  ·rintro x t H e hx;obtain⟨b,rfl⟩:∃z,z=c7:=⟨_,rfl⟩;dsimp only at hx a;obtain⟨rfl,⟨ab,p,h,cg⟩⟩:=hx;obtain⟨dq,ch,a⟩:=ah a;obtain⟨bo,ag,ai,I,aj⟩:=mk_one (eI .i64) ch;simp only[bM]at I;obtain⟨bQ,ak,a⟩:=ah a;simp only[a7,seval,-Int.reduceToNat,Y,cg,ag,ai,I,aj,ak];obtain⟨c8,cj,a⟩:=ah a;refine aA (fun s t H e=>match s with|(bp,bR,bS)=>∃W:Nat,∃al:Nat,∃m:Nat,∃g:Nat,∃ao:Nat,∃aq:List D,t 3=.buf 18 m 1 0 (b).length∧t 6=.buf 6 W 1 0 (bR).length∧t 7=.buf 7 al 1 ao (bS).length∧t 44=.sl false false bQ.length (ae au bQ)∧t 45=.int .i64 (bQ.length:Int)∧t 46=.int .i64 bp∧H 6=some ⟨W,3,ae (eI .i64) bR,false,true,false⟩∧H 7=some ⟨al,3,aq,false,true,false⟩∧H 18=some ⟨m,22,[.nr 3 1 g (ae (Ow (eI .i64)) b)],false,true,true⟩∧g<=4*e∧wo (eI .i64) aq ao bS) (fun o x t H e=>match o with|(ar,av)=>x=.exit 2∧∃J:Nat,∃K:Nat,∃q:Nat,∃i:Nat,∃L:Nat,∃M:List D,t 3=.buf 18 q 1 0 (b).length∧t 6=.buf 6 J 1 0 (ar).length∧t 7=.buf 7 K 1 L (av).length∧H 6=some ⟨J,3,ae (eI .i64) ar,false,true,false⟩∧H 7=some ⟨K,3,M,false,true,false⟩∧H 18=some ⟨q,22,[.nr 3 1 i (ae (Ow (eI .i64)) b)],false,true,true⟩∧i<=4*e∧wo (eI .i64) M L av) cj ?_ ?_ ?_
   ·refine⟨e,e+1,p,h,0,(ae (eI .i64) ([])),?_,?_,?_,?_,?_,?_,?_,?_,?_,?_,(wo.self (eI .i64) ([]))⟩;all_goals (first|rfl|omega|(simp only[a7,seval,-Int.reduceToNat,cg]<;>rfl))
   ·rintro⟨bp,bR,bS⟩ t H e ⟨W,al,m,g,ao,aq,bT,aw,bU,ax,ay,N,c9,ck,bq,da,ba⟩ c a;simp only[lF]at a;have az:=ba.fit;have aB:=ba.eq;simp only[bM]at az aB;simp only[a7,seval,-Int.reduceToNat,ay,N];apply sp an a<;>intro _ a
    ·obtain⟨dr,cm,a⟩:=ah a;have aC:=bz au cm;simp only[bM]at aC;obtain⟨ds,br,a⟩:=ah a;have aD:=bz (eI .i64) br;simp only[bM]at aD;have cn:=fE (eI .i64) (x':=(-1)) (fo:=0) (cs:=[.int .i64 (-1)]) br rfl (aki rfl);simp only[bM,Nat.add_zero]at cn;have bs:=cn;simp only[putCells,List.length_cons,List.length_nil,ajf]at bs;obtain⟨dt,cp,a⟩:=ah a;simp only[a7,seval,-Int.reduceToNat,aw,ax,N,c9,aC,aD,bs,cp];apply sp an a<;>intro _ a
     ·obtain⟨du,bt,a⟩:=ah a;have cq:=bz (eI .i64) bt;simp only[bM,akC]at cq;have cr:=fE (eI .i64) (x':=0) (fo:=0) (cs:=[.int .i64 0]) bt rfl (aki rfl);simp only[bM,Nat.add_zero]at cr;have bw:=cr;simp only[putCells,List.length_cons,List.length_nil,ajf]at bw;obtain⟨ct,cu,a⟩:=ah a;obtain⟨cv,bx,cw,cx⟩:=iT (eI .i64) cu;simp only[bM]at bx;cases a;simp only[a7,seval,-Int.reduceToNat,aw,bU,N,ck,az,aB,aC,aD,bw,cv,bx,cw,cx];apply iG;refine⟨W,e+1+1+1+1+1,m,g,0,(ae (eI .i64) ct),?_,?_,?_,?_,?_,?_,?_,?_,?_,?_,(wo.self (eI .i64) ct)⟩;all_goals (first|rfl|omega|(simp only[a7,seval,-Int.reduceToNat,bT,aw,ax,ay,bq]<;>rfl))
     ·cases a;simp only[a7,seval,-Int.reduceToNat,N];apply iG;refine⟨W,al,m,g,ao,aq,?_,?_,?_,?_,?_,?_,?_,?_,?_,?_,ba⟩;all_goals (first|rfl|omega|(simp only[a7,seval,-Int.reduceToNat,bT,aw,bU,ax,ay,ck,bq]<;>rfl))
    ·cases a;simp only[a7,seval,-Int.reduceToNat];apply jG;refine⟨rfl,⟨W,al,m,g,ao,aq,?_,?_,?_,?_,?_,?_,?_,ba⟩⟩;all_goals (first|rfl|omega|(simp only[a7,seval,-Int.reduceToNat,bT,aw,bU]<;>rfl))
   ·rintro x t H e hx;rcases c8 with⟨ar,av⟩;dsimp only at hx a;obtain⟨rfl,⟨J,K,q,i,L,M,cy,cz,cA,cB,cC,bV,bb,aE⟩⟩:=hx;have u:=aE.fit;have v:=aE.eq;simp only[bM]at u v;simp only[a7,seval,-Int.reduceToNat];obtain⟨db,cD,a⟩:=ah a;refine aA (fun s t H e=>match s with|(bW,bX)=>∃aF:Nat,∃bY:Nat,∃O:Nat,∃w:Nat,∃bc:Nat,∃bd:List D,t 3=.buf 18 O 1 0 (b).length∧t 6=.buf 6 aF 1 0 (bW).length∧t 7=.buf 7 bY 1 bc (bX).length∧H 6=some ⟨aF,3,ae (eI .i64) bW,false,true,false⟩∧H 7=some ⟨bY,3,bd,false,true,false⟩∧H 18=some ⟨O,22,[.nr 3 1 w (ae (Ow (eI .i64)) b)],false,true,true⟩∧w<=4*e∧wo (eI .i64) bd bc bX) (fun o x t H e=>match o with|aG=>x=.exit 4∧∃aH:Nat,t 6=.buf 6 aH 1 0 (aG).length∧H 6=some ⟨aH,3,ae (eI .i64) aG,false,true,false⟩) cD ?_ ?_ ?_
    ·refine⟨J,K,q,i,L,M,?_,?_,?_,?_,?_,?_,?_,aE⟩;all_goals (first|rfl|omega|(simp only[a7,seval,-Int.reduceToNat,a6,a8,Y,bo,ag,ai,I,aj,ak,cy,cz,cA,cB,cC,bV,bb,u,v]<;>rfl))
    ·rintro⟨bW,bX⟩ t H e ⟨aF,bY,O,w,bc,bd,cE,cF,cG,cH,cI,bA,dc,bf⟩ c a;simp only[lG]at a;have aI:=bf.fit;have aK:=bf.eq;simp only[bM]at aI aK;simp only[a7,seval,-Int.reduceToNat,cG,cI];apply sp an a<;>intro _ a
     ·obtain⟨cJ,bB,a⟩:=ah a;have bC:=rX bB;obtain⟨aL,cK,aM⟩:=bf.idx bB;simp only[bM]at aM aL;obtain⟨dv,bD,a⟩:=ah a;obtain⟨bE,cL,bF,aN,bG⟩:=aaN (eI .i64) bD;simp only[bM]at bG;have cM:=wo.tail bf bD;obtain⟨cN,cO,a⟩:=ah a;have B:=bz (Ow (eI .i64)) cO;simp only[bM]at B;simp only[a7,seval,-Int.reduceToNat,cE,cG,cI,bA,bC,aM,aL,bE,bF,B];obtain⟨dd,cP,a⟩:=ah a;refine aA (fun s t H e=>match s with|(bH,b1,b2)=>∃X:Nat,∃aO:Nat,∃n:Nat,∃d:Nat,∃aP:Nat,∃aQ:List D,t 3=.buf 18 n 1 0 (b).length∧t 6=.buf 6 X 1 0 (b1).length∧t 7=.buf 7 aO 1 aP (b2).length∧t 10=.int .i64 cJ∧t 76=.buf (NK 18 ((cJ:Int).toNat*1)) d 1 0 (cN).length∧t 77=.int .i64 ((cN).length:Int)∧t 78=.int .i64 bH∧H 6=some ⟨X,3,ae (eI .i64) b1,false,true,false⟩∧H 7=some ⟨aO,3,aQ,false,true,false⟩∧H 18=some ⟨n,22,[.nr 3 1 d (ae (Ow (eI .i64)) b)],false,true,true⟩∧d<=4*e∧wo (eI .i64) aQ aP b2) (fun o x t H e=>match o with|(aR,aS)=>x=.exit 6∧∃P:Nat,∃Q:Nat,∃y:Nat,∃j:Nat,∃R:Nat,∃S:List D,t 3=.buf 18 y 1 0 (b).length∧t 6=.buf 6 P 1 0 (aR).length∧t 7=.buf 7 Q 1 R (aS).length∧H 6=some ⟨P,3,ae (eI .i64) aR,false,true,false⟩∧H 7=some ⟨Q,3,S,false,true,false⟩∧H 18=some ⟨y,22,[.nr 3 1 j (ae (Ow (eI .i64)) b)],false,true,true⟩∧j<=4*e∧wo (eI .i64) S R aS) cP ?_ ?_ ?_
      ·refine⟨aF,e+1+1,O,w,(bc+(1:Int).toNat*1),(bd),?_,?_,?_,?_,?_,?_,?_,?_,?_,?_,?_,cM⟩;all_goals (first|rfl|omega|(simp only[a7,seval,-Int.reduceToNat,cE,cF,cH,bA,aN]<;>rfl))
      ·rintro⟨bH,b1,b2⟩ t H e ⟨X,aO,n,d,aP,aQ,b3,aT,b4,aU,aV,aW,T,cQ,de,bI,df,bg⟩ c a;simp only[lH]at a;have aX:=bg.fit;have aY:=bg.eq;simp only[bM]at aX aY;simp only[a7,seval,-Int.reduceToNat,aW,T];apply sp an a<;>intro _ a
       ·obtain⟨dw,cR,a⟩:=ah a;have bJ:=bz (eI .i64) cR;simp only[bM]at bJ;obtain⟨dx,aZ,a⟩:=ah a;have C:=bz (eI .i64) aZ;simp only[bM]at C;simp only[a7,seval,-Int.reduceToNat,B,aT,aV,T,cQ,bI,bJ,C];apply sp an a<;>intro _ a
        ·obtain⟨cS,cT,a⟩:=ah a;have bK:=bz (eI .i64) cT;simp only[bM]at bK;have C:=bz (eI .i64) aZ;simp only[bM]at C;have cU:=fE (eI .i64) (x':=IntKind.i64.wrap (cS+1)) (fo:=0) (cs:=[.int .i64 (IntKind.i64.wrap (cS+1))]) aZ rfl (aki rfl);simp only[bM,Nat.add_zero]at cU;have bL:=cU;simp only[putCells,List.length_cons,List.length_nil,ajf]at bL;obtain⟨cV,cW,a⟩:=ah a;obtain⟨cX,bN,cY,cZ⟩:=iT (eI .i64) cW;simp only[bM]at bN;cases a;simp only[a7,seval,-Int.reduceToNat,B,aT,b4,aU,T,cQ,de,aX,aY,bK,C,bL,cX,bN,cY,cZ];apply iG;refine⟨X,e+1+1+1+1,n,d,0,(ae (eI .i64) cV),?_,?_,?_,?_,?_,?_,?_,?_,?_,?_,?_,(wo.self (eI .i64) cV)⟩;all_goals (first|rfl|omega|(simp only[a7,seval,-Int.reduceToNat,b3,aT,aU,aV,aW,bI]<;>rfl))
        ·cases a;simp only[a7,seval,-Int.reduceToNat,T];apply iG;refine⟨X,aO,n,d,aP,aQ,?_,?_,?_,?_,?_,?_,?_,?_,?_,?_,?_,bg⟩;all_goals (first|rfl|omega|(simp only[a7,seval,-Int.reduceToNat,b3,aT,b4,aU,aV,aW]<;>rfl))
       ·cases a;simp only[a7,seval,-Int.reduceToNat];apply jG;refine⟨rfl,⟨X,aO,n,d,aP,aQ,?_,?_,?_,?_,?_,?_,?_,bg⟩⟩;all_goals (first|rfl|omega|(simp only[a7,seval,-Int.reduceToNat,b3,aT,b4]<;>rfl))
      ·rintro x t H e hx;rcases dd with⟨aR,aS⟩;dsimp only at hx a;obtain⟨rfl,⟨P,Q,y,j,R,S,c0,c3,c4,c5,c6,b5,bh,a1⟩⟩:=hx;have U:=a1.fit;have V:=a1.eq;simp only[bM]at U V;cases a;simp only[a7,seval,-Int.reduceToNat];apply iG;refine⟨P,Q,y,j,R,S,?_,?_,?_,?_,?_,?_,?_,a1⟩;all_goals (first|rfl|omega|(simp only[a7,seval,-Int.reduceToNat,a6,a8,Y,bo,ag,ai,I,aj,ak,u,v,aI,aK,bC,aM,aL,bE,cL,bF,bG,B,aN,aN,c0,c3,c4,c5,c6,b5,bh,U,V]<;>rfl))
     ·cases a;simp only[a7,seval,-Int.reduceToNat];apply jG;refine⟨rfl,⟨aF,?_,?_⟩⟩;all_goals ((simp only[a7,seval,-Int.reduceToNat,cF,cH]<;>rfl))
    ·rintro x t H e hx;obtain⟨aG,rfl⟩:∃z,z=db:=⟨_,rfl⟩;dsimp only at hx a;obtain⟨rfl,⟨aH,dh⟩⟩:=hx;cases a;simp only[a7,seval,-Int.reduceToNat,dh]
def pf:=dN (dy (bJ rI)) (fun x:dE=>kV x) (fun r:(List Int) =>.clean (.sl false false r.length (ae (eI .i64) r))) l d
def tI:Env:=(Am.ext bf 54 false sO)
def FZ:bI prog tI:=(bI.none.add Mw false)
def fm:=ai @w<|ai @XI<|ai @sO.eq_1<|@tI.eq_1
def GU:bZ prog 28 pf:=dT FZ func28 (by kernel_rfl) (fun _ _=>rfl) (fun _=>by kernel_rfl) ntmps28 results28 rfl fun B r a=>by
 simp only[hZ]at a⊢;unfold kV at a;obtain⟨q,u,a⟩:=ah a;simp only[fm,seval,u];obtain⟨C,v,a⟩:=ah a;refine aA (fun s t H e=>match s with|(j,h)=>∃b:Nat,t 3=.buf 3 b 1 0 (h).length∧t 7=.sl false false q.length (ae (eI .i64) q)∧t 8=.int .i64 (q.length:Int)∧t 9=.int .i64 j∧H 3=some ⟨b,3,ae (eI .i64) h,false,true,false⟩) (fun o x t H e=>match o with|d=>x=.exit 0∧∃f:Nat,t 3=.buf 3 f 1 0 (d).length∧H 3=some ⟨f,3,ae (eI .i64) d,false,true,false⟩) v ?_ ?_ ?_
 ·refine⟨1,?_,?_,?_,?_,?_⟩;all_goals (rfl)
 ·rintro⟨j,h⟩ t H e ⟨b,i⟩ c a;simp only[jB]at a;simp only[fm,seval,i];apply sp an a<;>intro _ a
  ·obtain⟨E,w,a⟩:=ah a;have k:=bz (eI .i64) w;simp only[bM]at k;simp only[fm,seval,i,k];apply sp an a<;>intro _ a
   ·obtain⟨D,l,a⟩:=ah a;obtain⟨m,g,n,p⟩:=iT (eI .i64) l;simp only[bM]at g;cases a;simp only[fm,seval,i,m,g,n,p];apply iG;refine⟨e+1+1+1,?_⟩;and_intros<;>first|rfl|(simp only[fm,seval,i]<;>rfl)
   ·cases a;simp only[fm,seval,i];apply iG;refine⟨b,?_⟩;and_intros<;>first|rfl|(simp only[fm,seval,i]<;>rfl)
  ·cases a;simp only[fm,seval];apply jG;refine⟨rfl,⟨b,?_,?_⟩⟩;all_goals ((simp only[fm,seval,i]<;>rfl))
 ·rintro x t H e A;obtain⟨d,rfl⟩:∃z,z=C:=⟨_,rfl⟩;dsimp only at A a;obtain⟨rfl,⟨f,y⟩⟩:=A;cases a;simp only[fm,seval,y]
def iR:=dN (fK (bJ rI) (dy (jZ au))) (fun x:dE×(List al)=>dZ x.1 x.2) (fun r:(List aG) =>.clean (.sl false false r.length (ae fO r))) l d
def acH {β:Type} {F:dE×(List al)->Option β} {R:β->RK} (b:Int) (a:(List bV)) (c:(List al)):dN (fK (bJ rI) (dy (jZ au))) F R none [.agg [.int .i64 b,.sl false false a.length (ae bP a)],.sl false false c.length (ae au c)]=(F ((dE.mk b a),c)).map fun r=>(R r,none):=cn _ _ _ ((dE.mk b a),c)
def kI:Env:=(Am.wA 11 (84,5,4) bf)
def rV:bI prog kI:=(bI.wA bI.none 11 (84,5,4))
def bY:=ai @w<|@kI.eq_1
def s7 (w:dE) (T:(List al)) (r:(List aG)) (a:dZ w T=some r):vT tab kI FU Tryz.f29 [.agg [.int .i64 w.aC,.sl false false w.aP.length (ae bP w.aP)],.sl false false T.length (ae au T)]=some (79,84,5,5,r.length,ae aU r):=by
 apply X5 rfl ntmps29 results29;unfold dZ at a;obtain⟨x1,U,a⟩:=ah a;have V:=VC (E:=aU) (ty':=84) (s:=5) (f:=4) (k := .i64) TS (by rfl) rfl rfl rfl rfl rfl U;obtain⟨W,aD,aE,aF,aH⟩:=mk_one aU U;simp only[bY,seval,V,W];obtain⟨o8,ax,a⟩:=ah a;refine aA (fun s t H e=>match s with|(G,y)=>∃A:Nat,∃l:Nat,∃g:Nat,t 1=.sl false false T.length (ae au T)∧t 2=.ptr 2 A 0∧t 5=.buf 11 l 5 0 (y).length∧t 13=.int .i64 ((x1).length:Int)∧t 14=.int .i64 G∧H 2=some ⟨A,32,[.int .i64 w.aC,.sl false false w.aP.length (ae bP w.aP)],false,false,false⟩∧H 11=some ⟨l,79,[.nr 84 5 g (ae aU y)],false,true,true⟩∧g<=4*e) (fun o x t H e=>match o with|n=>x=.exit 0∧∃B:Nat,∃i:Nat,∃d:Nat,t 2=.ptr 2 B 0∧t 5=.buf 11 i 5 0 (n).length∧H 2=some ⟨B,32,[.int .i64 w.aC,.sl false false w.aP.length (ae bP w.aP)],false,false,false⟩∧H 11=some ⟨i,79,[.nr 84 5 d (ae aU n)],false,true,true⟩∧d<=4*e) ax ?_ ?_ ?_
 ·refine⟨0,1,4*(1)+2,?_,?_,?_,?_,?_,?_,?_,?_⟩;all_goals (first|rfl|omega|(simp only[bY,seval,V,W]<;>rfl))
 ·rintro⟨G,y⟩ t H e ⟨A,l,g,Za⟩ c a;simp only[iy]at a;simp only[bY,seval,Za];apply sp an a<;>intro _ a
  ·obtain⟨p,X,a⟩:=ah a;have I:=bz au X;simp only[bM]at I;obtain⟨ay,C,a⟩:=ah a;have J:=bz aU C;simp only[bM]at J;have K:=kc aU 0 4 (aki rfl) C;simp only[bM,Nat.add_zero]at K;have Y:=fE aU (x':=(aG.mk p ay.bU)) (fo:=0) (cs:=[.int .i64 p.bK.ak,.sl false false p.bK.aa.length (ae (eI .i64) p.bK.aa),.int .i64 p.bL.ak,.sl false false p.bL.aa.length (ae (eI .i64) p.bL.aa)]) C rfl (aki rfl);simp only[bM,Nat.add_zero]at Y;have L:=Y;simp only[putCells,List.length_cons,List.length_nil,ajf,Nat.reduceAdd]at L;cases a;simp only[bY,seval,Za,I,J,K,L];apply iG;refine⟨A,l,g,?_,?_,?_,?_,?_,?_,?_,?_⟩;all_goals (first|rfl|omega|(simp only[bY,seval,Za]<;>rfl))
  ·cases a;simp only[bY,seval];apply jG;refine⟨rfl,⟨A,l,g,?_,?_,?_,?_,?_⟩⟩;all_goals (first|rfl|omega|(simp only[bY,seval,Za]<;>rfl))
 ·rintro x t H e Z;obtain⟨n,rfl⟩:∃z,z=o8:=⟨_,rfl⟩;dsimp only at Z a;obtain⟨rfl,⟨B,i,d,aa⟩⟩:=Z;simp only[bY,seval,aa];obtain⟨az,ab,a⟩:=ah a;refine aA (fun s t H e=>match s with|(M,D)=>∃m:Nat,∃h:Nat,t 5=.buf 11 m 5 0 (D).length∧t 27=.sl false false w.aP.length (ae bP w.aP)∧t 28=.int .i64 (w.aP.length:Int)∧t 29=.int .i64 M∧H 11=some ⟨m,79,[.nr 84 5 h (ae aU D)],false,true,true⟩∧h<=4*e) (fun o x t H e=>match o with|q=>x=.exit 2∧∃u:Nat,∃j:Nat,t 5=.buf 11 u 5 0 (q).length∧H 11=some ⟨u,79,[.nr 84 5 j (ae aU q)],false,true,true⟩∧j<=4*e) ab ?_ ?_ ?_
  ·refine⟨i,d,?_,?_,?_,?_,?_,?_⟩;all_goals (first|rfl|omega|(simp only[bY,seval,aa]<;>rfl))
  ·rintro⟨M,D⟩ t H e ⟨m,h,Zb⟩ c a;simp only[iz]at a;simp only[bY,seval,Zb];apply sp an a<;>intro _ a
   ·obtain⟨aI,ad,a⟩:=ah a;have N:=bz bP ad;simp only[bM]at N;obtain⟨aB,b,a⟩:=ah a;have v:=bz aU b;simp only[bM]at v;have O:=kS aU 4 b;have ag:=kc aU 4 1 (aki rfl) b;simp only[bM]at O ag;obtain⟨S,ai,a⟩:=ah a;obtain⟨aj,P,ak,ao⟩:=iT bW ai;simp only[bM]at P;have v:=bz aU b;simp only[bM]at v;have aq:=kS aU 4 b;have ar:=kc aU 4 1 (aki rfl) b;simp only[bM]at aq ar;have av:=QP aU (x':=(aG.mk aB.bl S)) 4 .und (.nx S.length (ae bW S)) b rfl (aki rfl);have Q:=VQ aU 4 .und b (aki rfl);simp only[bM]at av Q;have R:=av;simp only[putCells,List.length_cons,List.length_nil,ajf]at R;have F:=Q;simp only[putCells,List.length_cons,List.length_nil,ajf]at F;have aw:bump h (e+1+1)=some (4*(e+1+1)+1):=kG (by omega);simp only[bY,seval,Zb,N,O,aj,P,ak,ao,v,R,F,aw];refine bu (by kernel_rfl) ?_;cases a;apply iG;refine⟨m,4*(e+1+1)+1,?_,?_,?_,?_,?_,?_⟩;all_goals (first|rfl|omega|(simp only[bY,seval,Zb]<;>rfl))
   ·cases a;simp only[bY,seval];apply jG;refine⟨rfl,⟨m,h,?_,?_,?_⟩⟩;all_goals (first|rfl|omega|(simp only[bY,seval,Zb]<;>rfl))
  ·rintro x t H e Z;obtain⟨q,rfl⟩:∃z,z=az:=⟨_,rfl⟩;dsimp only at Z a;obtain⟨rfl,⟨u,j,aC⟩⟩:=Z;cases a;simp only[bY,seval,aC]
def Ah:bZ prog 29 iR:=by
 unfold iR;exact bZ.ofW (E:=fO) (EN:=aU) (ty:=79) (t:=84) (s:=5) tok rV mixed func29 (by kernel_rfl) ⟨by kernel_rfl,by kernel_rfl⟩ (fun _=>aki (by kernel_rfl)) rfl (fun _=>rfl) (fun x=>by simp[dO,tR,fA,bA,sX]) (fun x r h=>s7 x.1 x.2 r h)
def mF:=cj (fK (bJ rI) (dy (jZ au))) (fun x:dE×(List al)=>dZ x.1 x.2) (fun r:(List aG)=>(79,84,5,5,r.length,ae aU r))
def sk (b:Int) (a:(List bV)) (c:(List al)):mF [.agg [.int .i64 b,.sl false false a.length (ae bP a)],.sl false false c.length (ae au c)]=(dZ (dE.mk b a) c).map fun r:(List aG)=>(79,84,5,5,r.length,ae aU r):=aeu _ _ _ ((dE.mk b a),c)
def qo:FOk prog 29 mF:=FOk.of tok rV mixed func29 (by kernel_rfl) ⟨by kernel_rfl,by kernel_rfl⟩ (fun _=>aki (by kernel_rfl)) (fun x r h=>s7 x.1 x.2 r h)
def gp:=dN (fK (bJ bW) (dy (aI .i64))) (fun x:eS×Int=>dM x.1 x.2) (fun r:Int =>.clean (.int .i64 r)) l d
def af9 {β:Type} {F:eS×Int->Option β} {R:β->RK} (c:Int) (d:Int) (a:(List Int)) (e:Int) (b:(List Int)) (f:Int):dN (fK (bJ bW) (dy (aI .i64))) F R none [.agg [.int .i64 c,.int .i64 d,.sl false false a.length (ae (eI .i64) a),.int .i64 e,.sl false false b.length (ae (eI .i64) b)],.int .i64 f]=(F ((eS.mk c (al.mk (aF.mk d a) (aF.mk e b))),f)).map fun r=>(R r,none):=cn _ _ _ ((eS.mk c (al.mk (aF.mk d a) (aF.mk e b))),f)
def jy:Env:=(Am.ext bf 50 false eG)
def tO:bI prog jy:=(bI.none.add oc false)
def uE:=ai @w<|ai @sh7<|ai @eG.eq_1<|@jy.eq_1
def tS:bZ prog 97 gp:=dT tO func97 (by kernel_rfl) (fun _ _=>rfl) (fun _=>by kernel_rfl) ntmps97 results97 rfl fun⟨c,d⟩ r a=>by
 simp only[hZ]at a⊢;unfold dM at a;obtain⟨e,b,a⟩:=ah a;cases a;simp only[uE,seval,b]
def b9:=dN (fK (jZ bW) (fK (aI .i64) (dy (Yc 97)))) (fun x:(List eS)×Int×Unit=>bt x.1 x.2.1) (fun r:Int×Bool =>.clean (.tup [.int .i64 r.1,.bool r.2])) l d
def aga {β:Type} {F:(List eS)×Int×Unit->Option β} {R:β->RK} (a:(List eS)) (b:Int):dN (fK (jZ bW) (fK (aI .i64) (dy (Yc 97)))) F R none [.sl false false a.length (ae bW a),.int .i64 b,.fn 97]=(F (a,b,())).map fun r=>(R r,none):=cn _ _ _ (a,b,())
def cN:Env:=(Am.ext bf 97 false gp)
def iJ:bI prog cN:=(bI.none.add tS false)
def aK:=ai @w<|ai @af9<|ai @gp.eq_1<|@cN.eq_1
def iK:bZ prog 96 b9:=dT iJ func96 (by kernel_rfl) (fun _ _=>rfl) (fun _=>by kernel_rfl) ntmps96 results96 rfl fun⟨h,q,_⟩ r a=>by
 simp only[hZ]at a⊢;unfold bt at a;simp only[aK,seval,-Int.reduceToNat];obtain⟨A,u,a⟩:=ah a;refine aA (fun s t H e=>match s with|(i,b)=>t 0=.sl false false h.length (ae bW h)∧t 1=.int .i64 q∧t 2=.fn 97∧t 8=.int .i64 (h.length:Int)∧t 9=.int .i64 i∧t 10=.int .i64 b) (fun o x t H e=>match o with|d=>x=.exit 0∧t 0=.sl false false h.length (ae bW h)∧t 1=.int .i64 q∧t 2=.fn 97∧t 8=.int .i64 (h.length:Int)∧t 9=.int .i64 d) u ?_ ?_ ?_
 ·refine⟨?_,?_,?_,?_,?_,?_⟩;all_goals (rfl)
 ·rintro⟨i,b⟩ t H e j c a;simp only[b8]at a;simp only[aK,seval,-Int.reduceToNat,j];apply sp an a<;>intro _ a
  ·obtain⟨F,v,a⟩:=ah a;have w:=vQ v;obtain⟨B,k,a⟩:=ah a;have f:=bz bW k;simp only[bM]at f;obtain⟨C,l,a⟩:=ah a;simp only[aK,seval,-Int.reduceToNat,j,w,f,l];apply sp an a<;>intro _ a
   ·cases a;simp only[aK,seval,-Int.reduceToNat];apply iG;and_intros<;>first|rfl|(simp only[aK,seval,-Int.reduceToNat,j]<;>rfl)
   ·cases a;simp only[aK,seval,-Int.reduceToNat];apply iG;and_intros<;>first|rfl|(simp only[aK,seval,-Int.reduceToNat,j]<;>rfl)
  ·cases a;simp only[aK,seval,-Int.reduceToNat];apply jG;refine⟨rfl,⟨?_,?_,?_,?_,?_⟩⟩;all_goals ((simp only[aK,seval,-Int.reduceToNat,j]<;>rfl))
 ·rintro x t H e y;obtain⟨d,rfl⟩:∃z,z=A:=⟨_,rfl⟩;dsimp only at y a;obtain⟨rfl,m⟩:=y;simp only[aK,seval,-Int.reduceToNat,m];apply sp fG a<;>intro _ a
  ·obtain⟨D,n,a⟩:=ah a;have g:=bz bW n;simp only[bM]at g;obtain⟨E,p,a⟩:=ah a;cases a;simp only[aK,seval,-Int.reduceToNat,m,g,p]
  ·cases a;simp only[aK,seval,-Int.reduceToNat]
def fv:=Ii 79 84 5 aU (dy (aI .i64)) (fun (q:aG) (x:Int)=>de q x) (fun r:Int×Bool =>.tup [.int .i64 r.1,.bool r.2])
def jV (b a:List D) (c:aG) (d:Int):fv 79 84 5 b.length (b++(aU.cells c++a)) [.int .i64 d]=(de c d).map fun r=>(.tup [.int .i64 r.2.1,.bool r.2.2],b++(aU.cells r.1++a)):=Mk _ _ _ _ _ _ _ b a c (d)
def iE:Env:=(Am.ext bf 96 false b9)
def vu:bI prog iE:=(bI.none.add iK false)
def wD:=ai @w<|ai @vnp<|ai @aga<|ai @b9.eq_1<|@iE.eq_1
def wz (b a:List D) (e:aG) (f:Int) (r:aG×(Int×Bool)) (c:de e f=some r):vU tab iE FU Tryz.f55 79 84 5 b.length (b++(aU.cells e++a)) [.int .i64 f]=some (.tup [.int .i64 r.2.1,.bool r.2.2],b++(aU.cells r.1++a)):=by
 apply yP rfl ntmps55 results55;rw[dO];unfold de at c;obtain⟨g,d,c⟩:=ah c;cases c;simp only[wD,seval,d]
def dQ:NOk prog 55 fv:=NOk.of tok vu mixed func55 (by kernel_rfl) ⟨by kernel_rfl,by kernel_rfl⟩ (fun _=>aki (by kernel_rfl)) (fun b a q x c r h=>wz b a q x (c,r) h)
def kE:=mkE 84 bW (fK (aI .i64) (dy (aI .i64))) (fun (l:(List eS)) (x:Int×Int)=>gS l x.1 x.2)
def tl (b a:List D) (c:(List eS)) (d e:Int):kE (some (.buf 0 0 5 b.length c.length,⟨0,84,b++(ae bW c++a),false,true,false⟩)) [.int .i64 d,.int .i64 e]=(gS c d e).map fun r=>(.fresh 84 5 r.length (ae bW r),none):=aai _ _ _ _ b a c (d,e)
def si:bZ prog 57 kE:=abV bW rfl
def uI:=dN (fK (bJ au) (dy (bJ au))) (fun x:al×al=>pI x.1 x.2) (fun r:al×Int =>.clean (.tup [.agg [.int .i64 r.1.bK.ak,.sl false false r.1.bK.aa.length (ae (eI .i64) r.1.bK.aa),.int .i64 r.1.bL.ak,.sl false false r.1.bL.aa.length (ae (eI .i64) r.1.bL.aa)],.int .i64 r.2])) l d
def zJ:Env:=(Am.ext (Am.ext (Am.ext bf 36 false db) 38 false gF) 39 false ib)
def OY:bI prog zJ:=(((bI.none.add fW false).add pr false).add te false)
def jX:=ai @w<|ai @Ri<|ai @db.eq_1<|ai @sh6<|ai @gF.eq_1<|ai @ib.eq_1<|@zJ.eq_1
def Qv:bZ prog 58 uI:=dT OY func58 (by kernel_rfl) (fun _ _=>rfl) (fun _=>by kernel_rfl) ntmps58 results58 rfl fun⟨h,i⟩ r a=>by
 simp only[hZ]at a⊢;unfold pI at a;obtain⟨q,j,a⟩:=ah a;simp only[jX,seval,j];obtain⟨p,k,a⟩:=ah a;refine bS 0 (fun s t H e=>match s with|g=>∃b:Nat,∃c:Nat,∃d:Nat,t 2=.ptr 2 b 0∧t 3=.ptr 3 c 0∧t 4=.ptr 4 d 0∧t 6=.bool g∧H 2=some ⟨b,41,[.int .i64 h.bK.ak,.sl false false h.bK.aa.length (ae (eI .i64) h.bK.aa),.int .i64 h.bL.ak,.sl false false h.bL.aa.length (ae (eI .i64) h.bL.aa)],false,false,false⟩∧H 3=some ⟨c,41,[.int .i64 i.bK.ak,.sl false false i.bK.aa.length (ae (eI .i64) i.bK.aa),.int .i64 i.bL.ak,.sl false false i.bL.aa.length (ae (eI .i64) i.bL.aa)],false,false,false⟩∧H 4=some ⟨d,41,[.int .i64 0,.sl true true 0 [],.int .i64 0,.sl true true 0 []],false,false,false⟩) (fun s=>s=p) ?_ ?_
 ·rintro g t H e ⟨b,c,d,f⟩ rfl;try dsimp only at a
  simp only[jX,seval,f];apply sp an a<;>intro _ a
  ·cases a;simp only[jX,seval,f]
  ·simp only[jX,seval,f];apply sp an a<;>intro _ a
   ·cases a;simp only[jX,seval,f]
   ·obtain⟨u,l,a⟩:=ah a;obtain⟨v,m,a⟩:=ah a;obtain⟨w,n,a⟩:=ah a;simp only[jX,seval,f,l,m,n];refine bu (by kernel_rfl) ?_;cases a;simp only[seval]
 ·clear a;have a:=k;simp only[jX,seval];apply sp aZ a<;>intro _ a
  ·cases a;simp only[jX,seval];rw[aw];refine⟨_,rfl,?_⟩;refine⟨0,0,0,?_,?_,?_,?_,?_,?_,?_⟩;all_goals (rfl)
  ·obtain⟨x,o,a⟩:=ah a;cases a;simp only[jX,seval,o];rw[aw];refine⟨_,rfl,?_⟩;refine⟨0,0,0,?_,?_,?_,?_,?_,?_,?_⟩;all_goals (rfl)
def ju:=Ii 79 84 5 aU (dy (aI .i64)) (fun (q:aG) (x:Int)=>dW q x) (fun r:Unit =>.tup [])
def gI:Env:=(Am.ext (Am.ext (Am.ext (Am.qJ 55 (0,fv) (Am.ext bf 33 false fN)) 56 false mG) 57 true kE) 58 false uI)
def uj:bI prog gI:=((((bI.qJ (bI.none.add nk false) dQ.callable dQ.calls).add DG false).add si true).add Qv false)
def bX:=ai @w<|ai @vnp<|ai @vnl<|ai @sh2<|ai @fN.eq_1<|ai @Rj<|ai @mG.eq_1<|ai @uI.eq_1<|@gI.eq_1
def vw (g h:List D) (R:aG) (S:Int) (r:aG×(Unit)) (a:dW R S=some r):vU tab gI FU Tryz.f30 79 84 5 g.length (g++(aU.cells R++h)) [.int .i64 S]=some (.tup [],g++(aU.cells r.1++h)):=by
 apply yP rfl ntmps30 results30;rw[dO];unfold dW at a;have T:=jV g h R S;simp only[bM]at T;obtain⟨U,E,a⟩:=ah a;have V:bump 0 (1)=some (4*(1)+1):=kG (by omega);simp only[bX,seval,T,E];apply sp an a<;>intro _ a
 ·cases a;simp only[bX,seval]
 ·obtain⟨r5,F,a⟩:=ah a;obtain⟨x6,y,a⟩:=ah a;have A:=bz bW y;simp only[bM]at A;have B:=kS bW 1 y;have G:=kc bW 1 4 (aki rfl) y;simp only[bM]at B G;obtain⟨C,I,a⟩:=ah a;simp only[bX,seval,F,A,B,I];refine bu (by kernel_rfl) ?_;have W:=tl [] [] U.1.bU U.2.1 (IntKind.i64.wrap (U.2.1+1));simp only[List.nil_append,akr,List.length_nil]at W;obtain⟨X,p,a⟩:=ah a;have J:bump (4*(1)+1) (4)=some (4*(4)+1):=kG (by omega);obtain⟨b,q,a⟩:=ah a;simp only[bX,seval,W,p,q];refine bu (by kernel_rfl) ?_;obtain⟨Y,K,a⟩:=ah a;refine aA (fun s t H e=>match s with|(u,j)=>∃n:Nat,∃i:Nat,t 0=.ptr 0 0 g.length∧t 6=.ptr 6 n 0∧t 57=.int .i64 ((X).length:Int)∧t 58=.int .i64 u∧H 0=some ⟨0,79,[.nr 84 5 i (g++([.int .i64 b.1.bK.ak,.sl false false b.1.bK.aa.length (ae (eI .i64) b.1.bK.aa),.int .i64 b.1.bL.ak,.sl false false b.1.bL.aa.length (ae (eI .i64) b.1.bL.aa),.nx (j).length (ae bW j)]++h))],false,true,true⟩∧H 6=some ⟨n,41,[.int .i64 C.1.bK.ak,.sl false false C.1.bK.aa.length (ae (eI .i64) C.1.bK.aa),.int .i64 C.1.bL.ak,.sl false false C.1.bL.aa.length (ae (eI .i64) C.1.bL.aa)],false,false,false⟩∧i<=4*e) (fun o x t H e=>match o with|f=>x=.exit 0∧∃k:Nat,t 0=.ptr 0 0 g.length∧H 0=some ⟨0,79,[.nr 84 5 k (g++([.int .i64 b.1.bK.ak,.sl false false b.1.bK.aa.length (ae (eI .i64) b.1.bK.aa),.int .i64 b.1.bL.ak,.sl false false b.1.bL.aa.length (ae (eI .i64) b.1.bL.aa),.nx (f).length (ae bW f)]++h))],false,true,true⟩∧k<=4*e) K ?_ ?_ ?_
  ·refine⟨3,4*(4)+1,?_,?_,?_,?_,?_,?_,?_⟩;all_goals (first|rfl|omega|(simp only[bX,seval,T,E,V,F,A,B,G,I,W,p,J,q]<;>rfl))
  ·rintro⟨u,j⟩ t H e ⟨n,i,Q⟩ c a;simp only[e9]at a;simp only[bX,seval,Q];apply sp an a<;>intro _ a
   ·obtain⟨Z,d,a⟩:=ah a;have m:=bz bW d;simp only[bM]at m;have v:=kS bW 1 d;have L:=kc bW 1 4 (aki rfl) d;simp only[bM]at v L;obtain⟨l,M,a⟩:=ah a;have m:=bz bW d;simp only[bM]at m;have N:=kS bW 1 d;have O:=kc bW 1 4 (aki rfl) d;simp only[bM]at N O;have P:=fE bW (x':=(eS.mk Z.nP l.1)) (fo:=1) (cs:=[.int .i64 l.1.bK.ak,.sl false false l.1.bK.aa.length (ae (eI .i64) l.1.bK.aa),.int .i64 l.1.bL.ak,.sl false false l.1.bL.aa.length (ae (eI .i64) l.1.bL.aa)]) d rfl (aki rfl);simp only[bM]at P;have w:=P;simp only[putCells,List.length_cons,List.length_nil,ajf,Nat.reduceAdd]at w;simp only[bX,seval,Q,v,M,m,w];refine bu (by kernel_rfl) ?_;cases a;apply iG;refine⟨n,i,?_,?_,?_,?_,?_,?_,?_⟩;all_goals (first|rfl|omega|(simp only[bX,seval,Q]<;>rfl))
   ·cases a;simp only[bX,seval];apply jG;refine⟨rfl,⟨i,?_,?_,?_⟩⟩;all_goals (first|rfl|omega|(simp only[bX,seval,Q]<;>rfl))
  ·rintro x t H e hx;obtain⟨f,rfl⟩:∃z,z=Y:=⟨_,rfl⟩;dsimp only at hx a;obtain⟨rfl,⟨k,aa⟩⟩:=hx;cases a;simp only[bX,seval,aa]
def mj:NOk prog 30 ju:=NOk.of tok uj mixed func30 (by kernel_rfl) ⟨by kernel_rfl,by kernel_rfl⟩ (fun _=>aki (by kernel_rfl)) (fun b a q x c r h=>vw b a q x (c,r) h)
def jj:=dN (fK (bJ au) (dy (bJ au))) (fun x:al×al=>pJ x.1 x.2) (fun r:al×Int =>.clean (.tup [.agg [.int .i64 r.1.bK.ak,.sl false false r.1.bK.aa.length (ae (eI .i64) r.1.bK.aa),.int .i64 r.1.bL.ak,.sl false false r.1.bL.aa.length (ae (eI .i64) r.1.bL.aa)],.int .i64 r.2])) l d
def zL:Env:=(Am.ext (Am.ext (Am.ext bf 36 false db) 38 false gF) 39 false ib)
def O0:bI prog zL:=(((bI.none.add fW false).add pr false).add te false)
def mU:=ai @w<|ai @Ri<|ai @db.eq_1<|ai @sh6<|ai @gF.eq_1<|ai @ib.eq_1<|@zL.eq_1
def xz:bZ prog 13 jj:=dT O0 func13 (by kernel_rfl) (fun _ _=>rfl) (fun _=>by kernel_rfl) ntmps13 results13 rfl fun⟨g,h⟩ r a=>by
 simp only[hZ]at a⊢;unfold pJ at a;obtain⟨q,j,a⟩:=ah a;simp only[mU,seval,j];obtain⟨p,k,a⟩:=ah a;refine bS 0 (fun s t H e=>match s with|b=>∃c:Nat,∃d:Nat,∃f:Nat,t 2=.ptr 2 c 0∧t 3=.ptr 3 d 0∧t 4=.ptr 4 f 0∧t 13=.bool b∧H 2=some ⟨c,41,[.int .i64 g.bK.ak,.sl false false g.bK.aa.length (ae (eI .i64) g.bK.aa),.int .i64 g.bL.ak,.sl false false g.bL.aa.length (ae (eI .i64) g.bL.aa)],false,false,false⟩∧H 3=some ⟨d,41,[.int .i64 h.bK.ak,.sl false false h.bK.aa.length (ae (eI .i64) h.bK.aa),.int .i64 h.bL.ak,.sl false false h.bL.aa.length (ae (eI .i64) h.bL.aa)],false,false,false⟩∧H 4=some ⟨f,41,[.int .i64 0,.sl true true 0 [],.int .i64 0,.sl true true 0 []],false,false,false⟩) (fun s=>s=p) ?_ ?_
 ·rintro b t H e ⟨c,d,f,i⟩ rfl;try dsimp only at a
  simp only[mU,seval,i];apply sp an a<;>intro _ a
  ·cases a;simp only[mU,seval,i]
  ·obtain⟨u,l,a⟩:=ah a;obtain⟨v,m,a⟩:=ah a;obtain⟨w,n,a⟩:=ah a;simp only[mU,seval,i,l,m,n];refine bu (by kernel_rfl) ?_;cases a;simp only[seval]
 ·clear a;have a:=k;simp only[mU,seval];apply sp aZ a<;>intro _ a
  ·cases a;simp only[mU,seval];rw[aw];refine⟨_,rfl,?_⟩;refine⟨0,0,0,?_,?_,?_,?_,?_,?_,?_⟩;all_goals (rfl)
  ·obtain⟨x,o,a⟩:=ah a;cases a;simp only[mU,seval,o];rw[aw];refine⟨_,rfl,?_⟩;refine⟨0,0,0,?_,?_,?_,?_,?_,?_,?_⟩;all_goals (rfl)
def jP:=dN (fK (bJ au) (fK (bJ au) (dy (bJ au)))) (fun x:al×al×al=>iA x.1 x.2.1 x.2.2) (fun r:al =>.clean (.agg [.int .i64 r.bK.ak,.sl false false r.bK.aa.length (ae (eI .i64) r.bK.aa),.int .i64 r.bL.ak,.sl false false r.bL.aa.length (ae (eI .i64) r.bL.aa)])) l d
def agb {β:Type} {F:al×al×al->Option β} {R:β->RK} (g:Int) (a:(List Int)) (h:Int) (b:(List Int)) (i:Int) (c:(List Int)) (j:Int) (d:(List Int)) (k:Int) (e:(List Int)) (l:Int) (f:(List Int)):dN (fK (bJ au) (fK (bJ au) (dy (bJ au)))) F R none [.agg [.int .i64 g,.sl false false a.length (ae (eI .i64) a),.int .i64 h,.sl false false b.length (ae (eI .i64) b)],.agg [.int .i64 i,.sl false false c.length (ae (eI .i64) c),.int .i64 j,.sl false false d.length (ae (eI .i64) d)],.agg [.int .i64 k,.sl false false e.length (ae (eI .i64) e),.int .i64 l,.sl false false f.length (ae (eI .i64) f)]]=(F ((al.mk (aF.mk g a) (aF.mk h b)),(al.mk (aF.mk i c) (aF.mk j d)),(al.mk (aF.mk k e) (aF.mk l f)))).map fun r=>(R r,none):=cn _ _ _ ((al.mk (aF.mk g a) (aF.mk h b)),(al.mk (aF.mk i c) (aF.mk j d)),(al.mk (aF.mk k e) (aF.mk l f)))
def vt:Env:=(Am.ext (Am.ext bf 12 false fM) 13 false jj)
def Ih:bI prog vt:=((bI.none.add td false).add xz false)
def Nj:=ai @w<|ai @Rj<|ai @fM.eq_1<|ai @jj.eq_1<|@vt.eq_1
def pt:bZ prog 32 jP:=dT Ih func32 (by kernel_rfl) (fun _ _=>rfl) (fun _=>by kernel_rfl) ntmps32 results32 rfl fun⟨d,e,f⟩ r a=>by
 simp only[hZ]at a⊢;unfold iA at a;obtain⟨g,b,a⟩:=ah a;obtain⟨h,c,a⟩:=ah a;cases a;simp only[Nj,seval,b,c]
def aem:Yi prog 98 (84,5,72):=ace
def kr:=Ii 79 84 5 aU (fK (aI .i64) (dy (bJ au))) (fun (q:aG) (x:Int×al)=>eU q x.1 x.2) (fun r:Unit =>.tup [])
def wC (f c:List D) (g:aG) (h:Int) (d:Int) (a:(List Int)) (e:Int) (b:(List Int)):kr 79 84 5 f.length (f++(aU.cells g++c)) [.int .i64 h,.agg [.int .i64 d,.sl false false a.length (ae (eI .i64) a),.int .i64 e,.sl false false b.length (ae (eI .i64) b)]]=(eU g h (al.mk (aF.mk d a) (aF.mk e b))).map fun r=>(.tup [],f++(aU.cells r.1++c)):=Mk _ _ _ _ _ _ _ f c g (h,(al.mk (aF.mk d a) (aF.mk e b)))
def iX:Env:=(Am.Ga 98 (84,5,72) (Am.qJ 55 (0,fv) (Am.ext (Am.ext bf 32 false jP) 33 false fN)))
def wv:bI prog iX:=(bI.Ga (bI.qJ ((bI.none.add pt false).add nk false) dQ.callable dQ.calls) aem)
def jh:=ai @w<|ai @vnp<|ai @vnl<|ai @agb<|ai @jP.eq_1<|ai @sh2<|ai @fN.eq_1<|@iX.eq_1
def xv (d c:List D) (q:aG) (s:Int) (h:al) (r:aG×(Unit)) (a:eU q s h=some r):vU tab iX FU Tryz.f59 79 84 5 d.length (d++(aU.cells q++c)) [.int .i64 s,.agg [.int .i64 h.bK.ak,.sl false false h.bK.aa.length (ae (eI .i64) h.bK.aa),.int .i64 h.bL.ak,.sl false false h.bL.aa.length (ae (eI .i64) h.bL.aa)]]=some (.tup [],d++(aU.cells r.1++c)):=by
 apply yP rfl ntmps59 results59;rw[dO];unfold eU at a;have z:=jV d c q s;simp only[bM]at z;obtain⟨F,t,a⟩:=ah a;have B:bump 0 (2)=some (4*(2)+1):=kG (by omega);simp only[jh,seval,z,t];apply sp an a<;>intro _ a
 ·obtain⟨C,b,a⟩:=ah a;have e:=bz bW b;simp only[bM]at e;have j:=kS bW 1 b;have u:=kc bW 1 4 (aki rfl) b;simp only[bM]at j u;obtain⟨G,v,a⟩:=ah a;obtain⟨i,w,a⟩:=ah a;have e:=bz bW b;simp only[bM]at e;have x:=kS bW 1 b;have y:=kc bW 1 4 (aki rfl) b;simp only[bM]at x y;have k:=fE bW (x':=(eS.mk C.nP i)) (fo:=1) (cs:=[.int .i64 i.bK.ak,.sl false false i.bK.aa.length (ae (eI .i64) i.bK.aa),.int .i64 i.bL.ak,.sl false false i.bL.aa.length (ae (eI .i64) i.bL.aa)]) b rfl (aki rfl);simp only[bM]at k;have f:=k;simp only[putCells,List.length_cons,List.length_nil,ajf,Nat.reduceAdd]at f;simp only[jh,seval,j,v,w,e,f];refine bu (by kernel_rfl) ?_;cases a;simp only[jh,seval]
 ·obtain⟨E,l,a⟩:=ah a;obtain⟨m,n,o,p,g⟩:=acd bW l;simp only[bM]at g;have A:bump (4*(2)+1) (4)=some (4*(4)+1):=kG (by omega);simp only[jh,ne_eq,not_false_eq_true,seval,m,n,o,p,g];refine bu (by kernel_rfl) ?_;cases a;simp only[seval]
def n9:NOk prog 59 kr:=NOk.of tok wv mixed func59 (by kernel_rfl) ⟨by kernel_rfl,by kernel_rfl⟩ (fun _=>aki (by kernel_rfl)) (fun b a q x c r h=>xv b a q x.1 x.2 (c,r) h)
def ku:=Ii 79 84 5 aU (fK (aI .i64) (dy (bJ fO))) (fun (q:aG) (x:Int×aG)=>eV q x.1 x.2) (fun r:Unit =>.tup [])
def iY:Env:=(Am.qJ 59 (0,kr) (Am.ext (Am.qJ 55 (0,fv) (Am.ext (Am.ext bf 32 false jP) 33 false fN)) 57 true kE))
def wx:bI prog iY:=(bI.qJ ((bI.qJ ((bI.none.add pt false).add nk false) dQ.callable dQ.calls).add si true) n9.callable n9.calls)
def cy:=ai @w<|ai @vnp<|ai @vnl<|ai @agb<|ai @jP.eq_1<|ai @sh2<|ai @fN.eq_1<|@iY.eq_1
def xw (d b:List D) (T:aG) (U:Int) (v:aG) (r:aG×(Unit)) (a:eV T U v=some r):vU tab iY FU Tryz.f31 79 84 5 d.length (d++(aU.cells T++b)) [.int .i64 U,.agg [.int .i64 v.bl.bK.ak,.sl false false v.bl.bK.aa.length (ae (eI .i64) v.bl.bK.aa),.int .i64 v.bl.bL.ak,.sl false false v.bl.bL.aa.length (ae (eI .i64) v.bl.bL.aa),.sl false false v.bU.length (ae bW v.bU)]]=some (.tup [],d++(aU.cells r.1++b)):=by
 apply yP rfl ntmps31 results31;rw[dO];unfold eV at a;have V:=jV d b T U;simp only[bM]at V;obtain⟨W,I,a⟩:=ah a;have X:bump 0 (2)=some (4*(2)+1):=kG (by omega);simp only[cy,seval,V,I];apply sp an a<;>intro _ a
 ·cases a;simp only[cy,seval]
 ·obtain⟨G,C,a⟩:=ah a;have E:=bz bW C;simp only[bM]at E;have F:=kS bW 1 C;have J:=kc bW 1 4 (aki rfl) C;simp only[bM]at F J;have Y:=tl [] [] W.1.bU W.2.1 (IntKind.i64.wrap (W.2.1+1));simp only[List.nil_append,akr,List.length_nil]at Y;obtain⟨r8,K,a⟩:=ah a;have Z:bump (4*(2)+1) (5)=some (4*(5)+1):=kG (by omega);obtain⟨ag,z,a⟩:=ah a;simp only[cy,seval,E,F,Y,K,z];refine bu (by kernel_rfl) ?_;obtain⟨aa,L,a⟩:=ah a;refine aA (fun s t H e=>match s with|(A,m,f,n,g,h)=>∃w:Nat,∃l:Nat,t 0=.ptr 0 0 d.length∧t 8=.ptr 8 w 0∧t 50=.sl false false v.bU.length (ae bW v.bU)∧t 51=.int .i64 (v.bU.length:Int)∧t 52=.int .i64 A∧H 0=some ⟨0,79,[.nr 84 5 l (d++([.int .i64 m,.sl false false f.length (ae (eI .i64) f),.int .i64 n,.sl false false g.length (ae (eI .i64) g),.nx (h).length (ae bW h)]++b))],false,true,true⟩∧H 8=some ⟨w,41,[.int .i64 G.gA.bK.ak,.sl false false G.gA.bK.aa.length (ae (eI .i64) G.gA.bK.aa),.int .i64 G.gA.bL.ak,.sl false false G.gA.bL.aa.length (ae (eI .i64) G.gA.bL.aa)],false,false,false⟩∧l<=4*e) (fun o x t H e=>match o with|(q,i,u,j,k)=>x=.exit 0∧∃p:Nat,t 0=.ptr 0 0 d.length∧H 0=some ⟨0,79,[.nr 84 5 p (d++([.int .i64 q,.sl false false i.length (ae (eI .i64) i),.int .i64 u,.sl false false j.length (ae (eI .i64) j),.nx (k).length (ae bW k)]++b))],false,true,true⟩∧p<=4*e) L ?_ ?_ ?_
  ·refine⟨4,4*(5)+1,?_,?_,?_,?_,?_,?_,?_,?_⟩;all_goals (first|rfl|omega|(simp only[cy,seval,V,I,X,E,F,J,Y,K,Z,z]<;>rfl))
  ·rintro⟨A,m,f,n,g,h⟩ t H e ⟨w,l,S⟩ c a;simp only[fL]at a;simp only[cy,seval,S];apply sp an a<;>intro _ a
   ·obtain⟨ab,M,a⟩:=ah a;have B:=bz bW M;simp only[bM]at B;obtain⟨ai,N,a⟩:=ah a;obtain⟨y,O,a⟩:=ah a;have P:=wC d b (aG.mk (al.mk (aF.mk m f) (aF.mk n g)) h) ab.nP y.bK.ak y.bK.aa y.bL.ak y.bL.aa;simp only[bM]at P;obtain⟨aj,Q,a⟩:=ah a;have R:bump l (e+1+1)=some (4*(e+1+1)+1):=kG (by omega);simp only[cy,seval,S,B,N,O,P,Q,R];refine bu (by kernel_rfl) ?_;cases a;apply iG;refine⟨w,4*(e+1+1)+1,?_,?_,?_,?_,?_,?_,?_,?_⟩;all_goals (first|rfl|omega|(simp only[cy,seval,S]<;>rfl))
   ·cases a;simp only[cy,seval];apply jG;refine⟨rfl,⟨l,?_,?_,?_⟩⟩;all_goals (first|rfl|omega|(simp only[cy,seval,S]<;>rfl))
  ·rintro x t H e hx;rcases aa with⟨q,i,u,j,k⟩;dsimp only at hx a;obtain⟨rfl,⟨p,ad⟩⟩:=hx;cases a;simp only[cy,seval,ad]
def oa:NOk prog 31 ku:=NOk.of tok wx mixed func31 (by kernel_rfl) ⟨by kernel_rfl,by kernel_rfl⟩ (fun _=>aki (by kernel_rfl)) (fun b a q x c r h=>xw b a q x.1 x.2 (c,r) h)
def jO:=dN (fK (bJ rI) (dy (jZ au))) (fun x:dE×(List al)=>iw x.1 x.2) (fun r:(List al)×Int =>.clean (.tup [.sl false false r.1.length (ae au r.1),.int .i64 r.2])) l d
def uw {C:List (Bool×aG)} {i:Int} {b:aG} (h:P.idx C i=some (false,b)) (a:Int):ju 79 84 5 (i.toNat*bH.size) (ae bH C) [.int .i64 a]=(dW b a).map fun r=>(.tup [],ae bH (C.set i.toNat (false,r.1))):=VA nN h (a)
def wB {C:List (Bool×aG)} {i:Int} {g:aG} (h:P.idx C i=some (false,g)) (f:Int) (d:Int) (a:(List Int)) (e:Int) (b:(List Int)) (c:(List eS)):ku 79 84 5 (i.toNat*bH.size) (ae bH C) [.int .i64 f,.agg [.int .i64 d,.sl false false a.length (ae (eI .i64) a),.int .i64 e,.sl false false b.length (ae (eI .i64) b),.sl false false c.length (ae bW c)]]=(eV g f (aG.mk (al.mk (aF.mk d a) (aF.mk e b)) c)).map fun r=>(.tup [],ae bH (C.set i.toNat (false,r.1))):=VA nN h (f,(aG.mk (al.mk (aF.mk d a) (aF.mk e b)) c))
def z6:Env:=(Am.ext (Am.ext (Am.qJ 31 (0,ku) (Am.qJ 30 (5,ju) (Am.Bh 29 mF (Am.ext (Am.ext (Am.ext bf 26 false iQ) 27 false j8) 28 false pf)))) 32 false jP) 33 false fN)
def Pg:bI prog z6:=(((bI.qJ (bI.qJ (bI.Bh (((bI.none.add qM false).add uv false).add GU false) qo.callable qo.calls) mj.callable mj.calls) oa.callable oa.calls).add pt false).add nk false)
def bo:=ai @w<|ai @vnl<|ai @XI<|ai @iQ.eq_1<|ai @acG<|ai @j8.eq_1<|ai @pf.eq_1<|ai @sk<|ai @agb<|ai @jP.eq_1<|ai @sh2<|ai @fN.eq_1<|@z6.eq_1
def xB:bZ prog 8 jO:=dT Pg func8 (by kernel_rfl) (fun _ _=>rfl) (fun _=>by kernel_rfl) ntmps8 results8 rfl fun⟨K,p1⟩ r a=>by
 simp only[hZ]at a⊢;unfold iw at a;obtain⟨r1,bC,a⟩:=ah a;simp only[bo,seval,bC];obtain⟨o2,bD,a⟩:=ah a;refine bS 0 (fun s t H e=>match s with|Y=>∃O:Nat,t 1=.sl false false p1.length (ae au p1)∧t 2=.ptr 2 O 0∧t 14=.bool Y∧H 2=some ⟨O,32,[.int .i64 K.aC,.sl false false K.aP.length (ae bP K.aP)],false,false,false⟩) (fun s=>s=o2) ?_ ?_
 ·rintro Y t H e ⟨O,av⟩ rfl;try dsimp only at a
  simp only[bo,seval,av];apply sp an a<;>intro _ a
  ·cases a;simp only[bo,seval]
  ·obtain⟨r4,bE,a⟩:=ah a;simp only[bo,seval,av,bE];apply sp an a<;>intro _ a
   ·cases a;simp only[bo,seval]
   ·obtain⟨r6,bF,a⟩:=ah a;have bG:=JP nN r6;simp only[bo,seval,av,bF,bG];obtain⟨bI,aS,a⟩:=ah a;refine aA (fun s t H e=>match s with|(g,Q)=>∃Z:Nat,∃C:Nat,∃m:Nat,t 2=.ptr 2 Z 0∧t 6=.buf 32 C 5 0 (Q).length∧t 34=.int .i64 ((r6).length:Int)∧t 35=.int .i64 g∧H 2=some ⟨Z,32,[.int .i64 K.aC,.sl false false K.aP.length (ae bP K.aP)],false,false,false⟩∧H 32=some ⟨C,79,[.nr 84 5 m (ae bH Q)],false,true,true⟩∧m<=4*e) (fun o x t H e=>match o with|b=>x=.exit 1∧∃aa:Nat,∃u:Nat,∃j:Nat,t 2=.ptr 2 aa 0∧t 6=.buf 32 u 5 0 (b).length∧H 2=some ⟨aa,32,[.int .i64 K.aC,.sl false false K.aP.length (ae bP K.aP)],false,false,false⟩∧H 32=some ⟨u,79,[.nr 84 5 j (ae bH b)],false,true,true⟩∧j<=4*e) aS ?_ ?_ ?_
    ·refine⟨O,e+1,4*(e+1)+2,?_,?_,?_,?_,?_,?_,?_⟩;all_goals (first|rfl|omega|(simp only[bo,seval,av]<;>rfl))
    ·rintro⟨g,Q⟩ t H e ⟨Z,C,m,Zb⟩ c a;simp only[lh]at a;simp only[bo,seval,Zb];apply sp an a<;>intro _ a
     ·obtain⟨bT,ab,a⟩:=ah a;have ad:=And.intro (rX ab) (lv bH ab);simp only[bM]at ad;obtain⟨bJ,aT,a⟩:=ah a;have ay:P.idx Q g=some (false,bJ):=ab.trans (congrArg some (QJ aT));have aU:=uw ay g;simp only[bM]at aU;obtain⟨bK,aV,a⟩:=ah a;have aW:bump m (e+1+1)=some (4*(e+1+1)+1):=kG (by omega);have az:=afB nN Fu Fw Fv ay bK.1;rw[oK]at az;simp only[bo,seval,Zb,ad,aU,aV,aW,az];obtain⟨bL,aX,a⟩:=ah a;refine aA (fun s t H e=>match s with|(aR,D)=>∃ag:Nat,∃E:Nat,∃n:Nat,t 2=.ptr 2 ag 0∧t 6=.buf 32 E 5 0 (D).length∧t 7=.int .i64 g∧t 8=.int .i64 aR∧t 34=.int .i64 ((r6).length:Int)∧t 35=.int .i64 g∧H 2=some ⟨ag,32,[.int .i64 K.aC,.sl false false K.aP.length (ae bP K.aP)],false,false,false⟩∧H 32=some ⟨E,79,[.nr 84 5 n (ae bH D)],false,true,true⟩∧n<=4*e) (fun o x t H e=>match o with|L=>x=.exit 3∧∃R:Nat,∃v:Nat,∃k:Nat,t 2=.ptr 2 R 0∧t 6=.buf 32 v 5 0 (L).length∧t 34=.int .i64 ((r6).length:Int)∧t 35=.int .i64 g∧H 2=some ⟨R,32,[.int .i64 K.aC,.sl false false K.aP.length (ae bP K.aP)],false,false,false⟩∧H 32=some ⟨v,79,[.nr 84 5 k (ae bH L)],false,true,true⟩∧k<=4*e) aX ?_ ?_ ?_
      ·refine⟨Z,C,4*(e+1+1)+1,?_,?_,?_,?_,?_,?_,?_,?_,?_⟩;all_goals (first|rfl|omega|(simp only[bo,seval,Zb]<;>rfl))
      ·rintro⟨aR,D⟩ t H e ⟨ag,E,n,Zd⟩ c a;simp only[nA]at a;simp only[bo,seval,Zd];apply sp an a<;>intro _ a
       ·obtain⟨bU,ai,a⟩:=ah a;have aB:=And.intro (rX ai) (lv bH ai);simp only[bM]at aB;obtain⟨bV,aj,a⟩:=ah a;have aC:=And.intro (rX aj) (lv bH aj);simp only[bM]at aC;obtain⟨X,aY,a⟩:=ah a;have aD:P.idx D g=some (true,X):=aj.trans (congrArg some (Rn aY));have aE:=kS bH 0 aD;have a1:=kc bH 0 5 (aki rfl) aD;simp only[bM,Nat.add_zero]at aE a1;obtain⟨bN,a6,a⟩:=ah a;have a7:P.idx D aR=some (false,bN):=ai.trans (congrArg some (QJ a6));have a8:=wB a7 g X.bl.bK.ak X.bl.bK.aa X.bl.bL.ak X.bl.bL.aa X.bU;simp only[bM]at a8;obtain⟨bX,ba,a⟩:=ah a;have bb:bump n (e+1)=some (4*(e+1)+1):=kG (by omega);simp only[bo,seval,ad,Zd,aB,aC,aE,a8,ba,bb];refine bu (by kernel_rfl) ?_;cases a;apply iG;refine⟨ag,E,4*(e+1)+1,?_,?_,?_,?_,?_,?_,?_,?_,?_⟩;all_goals (first|rfl|omega|(simp only[bo,seval,Zd]<;>rfl))
       ·cases a;simp only[bo,seval];apply jG;refine⟨rfl,⟨ag,E,n,?_,?_,?_,?_,?_,?_,?_⟩⟩;all_goals (first|rfl|omega|(simp only[bo,seval,Zd]<;>rfl))
      ·rintro x t H e hx;obtain⟨L,rfl⟩:∃z,z=bL:=⟨_,rfl⟩;dsimp only at hx a;obtain⟨rfl,⟨R,v,k,bc⟩⟩:=hx;cases a;simp only[bo,seval,bc];apply iG;refine⟨R,v,k,?_,?_,?_,?_,?_,?_,?_⟩;all_goals (first|rfl|omega|(simp only[bo,seval,bc]<;>rfl))
     ·cases a;simp only[bo,seval];apply jG;refine⟨rfl,⟨Z,C,m,?_,?_,?_,?_,?_⟩⟩;all_goals (first|rfl|omega|(simp only[bo,seval,Zb]<;>rfl))
    ·rintro x t H e hx;obtain⟨b,rfl⟩:∃z,z=bI:=⟨_,rfl⟩;dsimp only at hx a;obtain⟨rfl,⟨aa,u,j,bd⟩⟩:=hx;obtain⟨bY,bf,a⟩:=ah a;obtain⟨bg,bh,bj,aG,bk⟩:=mk_one au bf;simp only[bM]at aG;simp only[bo,seval,bd,bg,bh,bj,aG,bk];obtain⟨bO,bl,a⟩:=ah a;refine aA (fun s t H e=>match s with|(F,M)=>∃ak:Nat,∃S:Nat,∃w:Nat,t 6=.buf 32 S 5 0 (b).length∧t 9=.buf 9 ak 4 0 (M).length∧t 10=.int .i64 F∧H 9=some ⟨ak,41,ae au M,false,true,false⟩∧H 32=some ⟨S,79,[.nr 84 5 w (ae bH b)],false,true,true⟩∧w<=4*e) (fun o x t H e=>match o with|ao=>x=.exit 5∧∃aq:Nat,t 9=.buf 9 aq 4 0 (ao).length∧H 9=some ⟨aq,41,ae au ao,false,true,false⟩) bl ?_ ?_ ?_
     ·refine⟨e,u,j,?_,?_,?_,?_,?_,?_⟩;all_goals (first|rfl|omega|(simp only[bo,seval,bd]<;>rfl))
     ·rintro⟨F,M⟩ t H e ⟨ak,S,w,Ze⟩ c a;simp only[lj]at a;simp only[bo,seval,Ze];apply sp an a<;>intro _ a
      ·obtain⟨b1,G,a⟩:=ah a;have q:=And.intro (rX G) (lv bH G);simp only[bM]at q;obtain⟨ax,bm,a⟩:=ah a;have T:P.idx b F=some (true,ax):=G.trans (congrArg some (Rn bm));have aH:=kS bH 0 T;have aI:=kc bH 0 4 (aki rfl) T;simp only[bM,Nat.add_zero]at aH aI;obtain⟨b2,bn,a⟩:=ah a;obtain⟨b3,bp,a⟩:=ah a;simp only[bo,seval,Ze,q,aH,aI,bn,bp];refine bu (by kernel_rfl) ?_;have q:=And.intro (rX G) (lv bH G);simp only[bM]at q;have aK:=kS bH 4 T;have bq:=kc bH 4 1 (aki rfl) T;simp only[bM]at aK bq;simp only[bo,seval,q,aK];obtain⟨bQ,br,a⟩:=ah a;refine aA (fun s t H e=>match s with|(aL,U,y,V,A)=>∃ar:Nat,∃I:Nat,∃J:Nat,∃p:Nat,t 6=.buf 32 J 5 0 (b).length∧t 9=.buf 9 ar 4 0 (M).length∧t 10=.int .i64 F∧t 11=.ptr 11 I 0∧t 83=.sl false false ax.bU.length (ae bW ax.bU)∧t 84=.int .i64 (ax.bU.length:Int)∧t 85=.int .i64 aL∧H 9=some ⟨ar,41,ae au M,false,true,false⟩∧H 11=some ⟨I,41,[.int .i64 U,.sl false false y.length (ae (eI .i64) y),.int .i64 V,.sl false false A.length (ae (eI .i64) A)],false,false,false⟩∧H 32=some ⟨J,79,[.nr 84 5 p (ae bH b)],false,true,true⟩∧p<=4*e) (fun o x t H e=>match o with|(h,d,i,f)=>x=.exit 7∧∃W:Nat,∃N:Nat,∃B:Nat,∃l:Nat,t 6=.buf 32 B 5 0 (b).length∧t 9=.buf 9 W 4 0 (M).length∧t 10=.int .i64 F∧t 11=.ptr 11 N 0∧H 9=some ⟨W,41,ae au M,false,true,false⟩∧H 11=some ⟨N,41,[.int .i64 h,.sl false false d.length (ae (eI .i64) d),.int .i64 i,.sl false false f.length (ae (eI .i64) f)],false,false,false⟩∧H 32=some ⟨B,79,[.nr 84 5 l (ae bH b)],false,true,true⟩∧l<=4*e) br ?_ ?_ ?_
       ·refine⟨ak,e+1,S,w,?_,?_,?_,?_,?_,?_,?_,?_,?_,?_,?_⟩;all_goals (first|rfl|omega|(simp only[bo,seval,Ze]<;>rfl))
       ·rintro⟨aL,U,y,V,A⟩ t H e ⟨ar,I,J,p,Zg⟩ c a;simp only[pV]at a;simp only[bo,seval,Zg];apply sp an a<;>intro _ a
        ·obtain⟨b4,bs,a⟩:=ah a;have aM:=bz bW bs;simp only[bM]at aM;obtain⟨b5,bt,a⟩:=ah a;have aN:=bz au bt;simp only[bM]at aN;obtain⟨b6,bw,a⟩:=ah a;simp only[bo,seval,Zg,aM,aN,bw];refine bu (by kernel_rfl) ?_;cases a;apply iG;refine⟨ar,I,J,p,?_,?_,?_,?_,?_,?_,?_,?_,?_,?_,?_⟩;all_goals (first|rfl|omega|(simp only[bo,seval,Zg]<;>rfl))
        ·cases a;simp only[bo,seval];apply jG;refine⟨rfl,⟨ar,I,J,p,?_,?_,?_,?_,?_,?_,?_,?_⟩⟩;all_goals (first|rfl|omega|(simp only[bo,seval,Zg]<;>rfl))
       ·rintro x t H e hx;rcases bQ with⟨h,d,i,f⟩;dsimp only at hx a;obtain⟨rfl,⟨W,N,B,l,bx⟩⟩:=hx;obtain⟨b7,aO,a⟩:=ah a;have aP:=bz au aO;simp only[bM]at aP;have bA:=fE au (x':=(al.mk (aF.mk h d) (aF.mk i f))) (fo:=0) (cs:=[.int .i64 h,.sl false false d.length (ae (eI .i64) d),.int .i64 i,.sl false false f.length (ae (eI .i64) f)]) aO rfl (aki rfl);simp only[bM,Nat.add_zero]at bA;have aQ:=bA;simp only[putCells,List.length_cons,List.length_nil,ajf,Nat.reduceAdd]at aQ;cases a;simp only[bo,seval,q,bx,aP,aQ];apply iG;refine⟨W,B,l,?_,?_,?_,?_,?_,?_⟩;all_goals (first|rfl|omega|(simp only[bo,seval,bx]<;>rfl))
      ·cases a;simp only[bo,seval];apply jG;refine⟨rfl,⟨ak,?_,?_⟩⟩;all_goals ((simp only[bo,seval,Ze]<;>rfl))
     ·rintro x t H e hx;obtain⟨ao,rfl⟩:∃z,z=bO:=⟨_,rfl⟩;dsimp only at hx a;obtain⟨rfl,⟨aq,bR⟩⟩:=hx;cases a;simp only[bo,seval,bR]
 ·clear a;have a:=bD;simp only[bo,seval];apply sp aZ a<;>intro _ a
  ·cases a;simp only[bo,seval];rw[aw];refine⟨_,rfl,?_⟩;refine⟨0,?_,?_,?_,?_⟩;all_goals (rfl)
  ·obtain⟨b8,bB,a⟩:=ah a;cases a;simp only[bo,seval,bB];rw[aw];refine⟨_,rfl,?_⟩;refine⟨0,?_,?_,?_,?_⟩;all_goals (rfl)
def pk:=dN (fK (bJ fl) (dy (bJ fl))) (fun x:aF×aF=>kZ x.1 x.2) (fun r:Bool =>.clean (.bool r)) l d
def G1:bZ prog 110 pk:=dT bI.none func110 (by kernel_rfl) (fun _ _=>rfl) (fun _=>by kernel_rfl) ntmps110 results110 rfl fun⟨j,k⟩ r a=>by
 simp only[hZ]at a⊢;unfold kZ at a;simp only[w,seval];obtain⟨A,v,a⟩:=ah a;refine bS 0 (fun s t H e=>match s with|f=>∃b:Nat,∃d:Nat,t 2=.ptr 2 b 0∧t 3=.ptr 3 d 0∧t 19=.bool f∧H 2=some ⟨b,39,[.int .i64 j.ak,.sl false false j.aa.length (ae (eI .i64) j.aa)],false,false,false⟩∧H 3=some ⟨d,39,[.int .i64 k.ak,.sl false false k.aa.length (ae (eI .i64) k.aa)],false,false,false⟩) (fun s=>s=A) ?_ ?_
 ·rintro f t H e ⟨b,d,l⟩ rfl;try dsimp only at a
  simp only[w,seval,l];apply sp an a<;>intro _ a
  ·cases a;simp only[w,seval]
  ·simp only[w,seval];obtain⟨B,y,a⟩:=ah a;refine aA (fun s t H e=>match s with|m=>∃g:Nat,∃h:Nat,t 2=.ptr 2 g 0∧t 3=.ptr 3 h 0∧t 5=.int .i64 m∧H 2=some ⟨g,39,[.int .i64 j.ak,.sl false false j.aa.length (ae (eI .i64) j.aa)],false,false,false⟩∧H 3=some ⟨h,39,[.int .i64 k.ak,.sl false false k.aa.length (ae (eI .i64) k.aa)],false,false,false⟩) (fun o x t H e=>match o with|(.inl _)=>x=.exit 0|(.inr r)=>x=.ret∧gi .clean tab none [.tmp 4] ⟨t,EH H,e⟩=some (.clean (.bool r),none)) y ?_ ?_ ?_
   ·refine⟨b,d,?_⟩;and_intros<;>first|rfl|(simp only[w,seval,l]<;>rfl)
   ·rintro m t H e ⟨g,h,q⟩ c a;simp only[og]at a;simp only[w,seval,q];apply sp an a<;>intro _ a
    ·obtain⟨E,z,a⟩:=ah a;have n:=bz (eI .i64) z;simp only[bM]at n;obtain⟨C,p,a⟩:=ah a;have i:=bz (eI .i64) p;simp only[bM]at i;simp only[w,seval,q,n,i];refine bu (by kernel_rfl) ?_;apply sp an a<;>intro _ a
     ·cases a;simp only[w,seval];refine tQ ⟨rfl,?_⟩;simp only[w,seval]
     ·cases a;simp only[w,seval,q];apply iG;refine⟨g,h,?_⟩;and_intros<;>first|rfl|(simp only[w,seval,q]<;>rfl)
    ·cases a;simp only[w,seval];apply jG;exact rfl
   ·rintro x t H e u;rcases B with _|F
    ·dsimp only at u a;subst u;cases a;simp only[w,seval]
    ·dsimp only at u a;obtain⟨rfl,D⟩:=u;cases a;simp only[aX,ba,cv,cA];exact D
 ·clear a;have a:=v;simp only[w,seval];apply sp aZ a<;>intro _ a
  ·cases a;simp only[w,seval];rw[aw];refine⟨_,rfl,?_⟩;refine⟨0,0,?_,?_,?_,?_,?_⟩;all_goals (rfl)
  ·cases a;simp only[w,seval];rw[aw];refine⟨_,rfl,?_⟩;refine⟨0,0,?_,?_,?_,?_,?_⟩;all_goals (rfl)
def uO:=dN (fK (bJ au) (dy (bJ au))) (fun x:al×al=>Bm x.1 x.2) (fun r:Bool =>.clean (.bool r)) l d
def zY:Env:=(Am.ext bf 110 false pk)
def Pe:bI prog zY:=(bI.none.add G1 false)
def Ax:=ai @w<|ai @sh6<|ai @pk.eq_1<|@zY.eq_1
def QD:bZ prog 77 uO:=dT Pe func77 (by kernel_rfl) (fun _ _=>rfl) (fun _=>by kernel_rfl) ntmps77 results77 rfl fun⟨d,e⟩ r a=>by
 simp only[hZ]at a⊢;unfold Bm at a;obtain⟨f,b,a⟩:=ah a;simp only[Ax,seval,b];apply sp fG a<;>intro _ a
 ·obtain⟨g,c,a⟩:=ah a;cases a;simp only[Ax,seval,c]
 ·cases a;simp only[Ax,seval]
def uP:=dN (fK (jZ au) (dy (jZ au))) (fun x:(List al)×(List al)=>Bn x.1 x.2) (fun r:Bool =>.clean (.bool r)) l d
def agc {β:Type} {F:(List al)×(List al)->Option β} {R:β->RK} (a:(List al)) (b:(List al)):dN (fK (jZ au) (dy (jZ au))) F R none [.sl false false a.length (ae au a),.sl false false b.length (ae au b)]=(F (a,b)).map fun r=>(R r,none):=cn _ _ _ (a,b)
def zZ:Env:=(Am.ext bf 77 false uO)
def Pf:bI prog zZ:=(bI.none.add QD false)
def iD:=ai @w<|ai @Rj<|ai @uO.eq_1<|@zZ.eq_1
def QF:bZ prog 43 uP:=dT Pf func43 (by kernel_rfl) (fun _ _=>rfl) (fun _=>by kernel_rfl) ntmps43 results43 rfl fun⟨k,l⟩ r a=>by
 simp only[hZ]at a⊢;unfold Bn at a;simp only[iD,seval];apply sp an a<;>intro _ a
 ·cases a;simp only[iD,seval]
 ·simp only[iD,seval];obtain⟨p,m,a⟩:=ah a;refine aA (fun s t H e=>match s with|d=>t 0=.sl false false k.length (ae au k)∧t 1=.sl false false l.length (ae au l)∧t 5=.int .i64 d) (fun o x t H e=>match o with|(.inl _)=>x=.exit 0|(.inr r)=>x=.ret∧gi .clean tab none [.tmp 4] ⟨t,EH H,e⟩=some (.clean (.bool r),none)) m ?_ ?_ ?_
  ·refine⟨?_,?_,?_⟩;all_goals (rfl)
  ·rintro d t H e i c a;simp only[DO]at a;simp only[iD,seval,i];apply sp an a<;>intro _ a
   ·obtain⟨w,n,a⟩:=ah a;have f:=bz au n;simp only[bM]at f;obtain⟨q,g,a⟩:=ah a;have b:=bz au g;simp only[bM]at b;obtain⟨u,h,a⟩:=ah a;simp only[iD,seval,i,f,b,h];refine bu (by kernel_rfl) ?_;apply sp an a<;>intro _ a
    ·cases a;simp only[iD,seval];refine tQ ⟨rfl,?_⟩;simp only[iD,seval]
    ·cases a;simp only[iD,seval,i];apply iG;and_intros<;>first|rfl|(simp only[iD,seval,i]<;>rfl)
   ·cases a;simp only[iD,seval];apply jG;exact rfl
  ·rintro x t H e j;rcases p with _|y
   ·dsimp only at j a;subst j;cases a;simp only[iD,seval]
   ·dsimp only at j a;obtain⟨rfl,v⟩:=j;cases a;simp only[aX,ba,cv,cA];exact v
def pc:=dN (fK (bJ fl) (dy (bJ fl))) (fun x:aF×aF=>mY x.1 x.2) (fun r:Int =>.clean (.int .i64 r)) l d
def tE:Env:=(Am.ext (Am.ext (Am.ext bf 50 false eG) 66 false ey) 72 false gL)
def FV:bI prog tE:=(((bI.none.add oc false).add gK false).add sh false)
def fX:=ai @w<|ai @sh7<|ai @eG.eq_1<|ai @sh3<|ai @ey.eq_1<|ai @sh5<|ai @gL.eq_1<|@tE.eq_1
def GL:bZ prog 42 pc:=dT FV func42 (by kernel_rfl) (fun _ _=>rfl) (fun _=>by kernel_rfl) ntmps42 results42 rfl fun⟨g,h⟩ r a=>by
 simp only[hZ]at a⊢;unfold mY at a;obtain⟨o,i,a⟩:=ah a;simp only[fX,seval,i];obtain⟨n,j,a⟩:=ah a;refine bS 0 (fun s t H e=>match s with|b=>∃c:Nat,∃d:Nat,t 2=.ptr 2 c 0∧t 3=.ptr 3 d 0∧t 12=.bool b∧H 2=some ⟨c,39,[.int .i64 g.ak,.sl false false g.aa.length (ae (eI .i64) g.aa)],false,false,false⟩∧H 3=some ⟨d,39,[.int .i64 h.ak,.sl false false h.aa.length (ae (eI .i64) h.aa)],false,false,false⟩) (fun s=>s=n) ?_ ?_
 ·rintro b t H e ⟨c,d,f⟩ rfl;try dsimp only at a
  simp only[fX,seval,f];apply sp an a<;>intro _ a
  ·cases a;simp only[fX,seval]
  ·simp only[fX,seval,f];apply sp an a<;>intro _ a
   ·obtain⟨p,k,a⟩:=ah a;cases a;simp only[fX,seval,f,k]
   ·obtain⟨q,l,a⟩:=ah a;simp only[fX,seval,f,l];refine bu (by kernel_rfl) ?_;cases a;simp only[seval]
 ·clear a;have a:=j;simp only[fX,seval];apply sp aZ a<;>intro _ a
  ·cases a;simp only[fX,seval];rw[aw];refine⟨_,rfl,?_⟩;refine⟨0,0,?_,?_,?_,?_,?_⟩;all_goals (rfl)
  ·obtain⟨u,m,a⟩:=ah a;cases a;simp only[fX,seval,m];rw[aw];refine⟨_,rfl,?_⟩;refine⟨0,0,?_,?_,?_,?_,?_⟩;all_goals (rfl)
def eH:=dN (fK (bJ au) (dy (bJ au))) (fun x:al×al=>fD x.1 x.2) (fun r:Int =>.clean (.int .i64 r)) l d
def rU:Env:=(Am.ext (Am.ext (Am.ext bf 36 false db) 38 false gF) 42 false pc)
def D8:bI prog rU:=(((bI.none.add fW false).add pr false).add GL false)
def iC:=ai @w<|ai @Ri<|ai @db.eq_1<|ai @sh6<|ai @gF.eq_1<|ai @pc.eq_1<|@rU.eq_1
def qe:bZ prog 15 eH:=dT D8 func15 (by kernel_rfl) (fun _ _=>rfl) (fun _=>by kernel_rfl) ntmps15 results15 rfl fun⟨f,g⟩ r a=>by
 simp only[hZ]at a⊢;unfold fD at a;obtain⟨p,i,a⟩:=ah a;simp only[iC,seval,i];obtain⟨o,j,a⟩:=ah a;refine bS 0 (fun s t H e=>match s with|b=>∃c:Nat,∃d:Nat,t 2=.ptr 2 c 0∧t 3=.ptr 3 d 0∧t 12=.bool b∧H 2=some ⟨c,41,[.int .i64 f.bK.ak,.sl false false f.bK.aa.length (ae (eI .i64) f.bK.aa),.int .i64 f.bL.ak,.sl false false f.bL.aa.length (ae (eI .i64) f.bL.aa)],false,false,false⟩∧H 3=some ⟨d,41,[.int .i64 g.bK.ak,.sl false false g.bK.aa.length (ae (eI .i64) g.bK.aa),.int .i64 g.bL.ak,.sl false false g.bL.aa.length (ae (eI .i64) g.bL.aa)],false,false,false⟩) (fun s=>s=o) ?_ ?_
 ·rintro b t H e ⟨c,d,h⟩ rfl;try dsimp only at a
  simp only[iC,seval,h];apply sp an a<;>intro _ a
  ·cases a;simp only[iC,seval]
  ·obtain⟨q,k,a⟩:=ah a;obtain⟨u,l,a⟩:=ah a;obtain⟨v,m,a⟩:=ah a;simp only[iC,seval,h,k,l,m];refine bu (by kernel_rfl) ?_;cases a;simp only[seval]
 ·clear a;have a:=j;simp only[iC,seval];apply sp aZ a<;>intro _ a
  ·cases a;simp only[iC,seval];rw[aw];refine⟨_,rfl,?_⟩;refine⟨0,0,?_,?_,?_,?_,?_⟩;all_goals (rfl)
  ·obtain⟨w,n,a⟩:=ah a;cases a;simp only[iC,seval,n];rw[aw];refine⟨_,rfl,?_⟩;refine⟨0,0,?_,?_,?_,?_,?_⟩;all_goals (rfl)
def ki:=dN (fK (bJ rI) (fK (jZ au) (dy (jZ au)))) (fun x:dE×(List al)×(List al)=>nz x.1 x.2.1 x.2.2) (fun r:Bool =>.clean (.bool r)) l d
def agd {β:Type} {F:dE×(List al)×(List al)->Option β} {R:β->RK} (b:Int) (a:(List bV)) (c:(List al)) (d:(List al)):dN (fK (bJ rI) (fK (jZ au) (dy (jZ au)))) F R none [.agg [.int .i64 b,.sl false false a.length (ae bP a)],.sl false false c.length (ae au c),.sl false false d.length (ae au d)]=(F ((dE.mk b a),c,d)).map fun r=>(R r,none):=cn _ _ _ ((dE.mk b a),c,d)
def tN:Env:=(Am.ext (Am.ext (Am.ext (Am.ext (Am.ext bf 15 false eH) 26 false iQ) 27 false j8) 29 false iR) 32 false jP)
def F4:bI prog tN:=(((((bI.none.add qe false).add qM false).add uv false).add Ah false).add pt false)
def bB:=ai @w<|ai @Rj<|ai @eH.eq_1<|ai @XI<|ai @iQ.eq_1<|ai @acG<|ai @j8.eq_1<|ai @acH<|ai @iR.eq_1<|ai @agb<|ai @jP.eq_1<|@tN.eq_1
def xA:bZ prog 19 ki:=dT F4 func19 (by kernel_rfl) (fun _ _=>rfl) (fun _=>by kernel_rfl) ntmps19 results19 rfl fun⟨R,T,v⟩ r a=>by
 simp only[hZ]at a⊢;unfold nz at a;obtain⟨r1,U,a⟩:=ah a;simp only[bB,seval,U];obtain⟨o2,V,a⟩:=ah a;refine bS 0 (fun s t H e=>match s with|k=>∃l:Nat,t 1=.sl false false T.length (ae au T)∧t 2=.sl false false v.length (ae au v)∧t 3=.ptr 3 l 0∧t 28=.bool k∧H 3=some ⟨l,32,[.int .i64 R.aC,.sl false false R.aP.length (ae bP R.aP)],false,false,false⟩) (fun s=>s=o2) ?_ ?_
 ·rintro k t H e ⟨l,C⟩ rfl;try dsimp only at a
  simp only[bB,seval,C];apply sp an a<;>intro _ a
  ·cases a;simp only[bB,seval]
  ·obtain⟨w,W,a⟩:=ah a;simp only[bB,seval,C,W];obtain⟨X,G,a⟩:=ah a;refine aA (fun s t H e=>match s with|b=>t 2=.sl false false v.length (ae au v)∧t 31=.sl false false w.length (ae fO w)∧t 32=.int .i64 (w.length:Int)∧t 33=.int .i64 b) (fun o x t H e=>match o with|(.inl _)=>x=.exit 0|(.inr r)=>x=.ret∧gi .clean tab none [.tmp 6] ⟨t,EH H,e⟩=some (.clean (.bool r),none)) G ?_ ?_ ?_
   ·and_intros<;>first|rfl|(simp only[bB,seval,C]<;>rfl)
   ·rintro b t H e Y c a;simp only[xP]at a;simp only[bB,seval,Y];apply sp an a<;>intro _ a
    ·obtain⟨D,I,a⟩:=ah a;have m:=bz fO I;simp only[bM]at m;simp only[bB,seval,Y,m];obtain⟨Z,J,a⟩:=ah a;refine aA (fun s t H e=>match s with|(y,n,g,p,h)=>∃q:Nat,t 2=.sl false false v.length (ae au v)∧t 7=.int .i64 b∧t 9=.ptr 9 q 0∧t 31=.sl false false w.length (ae fO w)∧t 32=.int .i64 (w.length:Int)∧t 33=.int .i64 b∧t 41=.sl false false D.bU.length (ae bW D.bU)∧t 42=.int .i64 (D.bU.length:Int)∧t 43=.int .i64 y∧H 9=some ⟨q,41,[.int .i64 n,.sl false false g.length (ae (eI .i64) g),.int .i64 p,.sl false false h.length (ae (eI .i64) h)],false,false,false⟩) (fun o x t H e=>match o with|(i,d,j,f)=>x=.exit 2∧∃u:Nat,t 2=.sl false false v.length (ae au v)∧t 7=.int .i64 b∧t 9=.ptr 9 u 0∧t 31=.sl false false w.length (ae fO w)∧t 32=.int .i64 (w.length:Int)∧t 33=.int .i64 b∧H 9=some ⟨u,41,[.int .i64 i,.sl false false d.length (ae (eI .i64) d),.int .i64 j,.sl false false f.length (ae (eI .i64) f)],false,false,false⟩) J ?_ ?_ ?_
     ·refine⟨e+1+1,?_⟩;and_intros<;>first|rfl|(simp only[bB,seval,Y]<;>rfl)
     ·rintro⟨y,n,g,p,h⟩ t H e ⟨q,S⟩ c a;simp only[xQ]at a;simp only[bB,seval,S];apply sp an a<;>intro _ a
      ·obtain⟨aa,K,a⟩:=ah a;have z:=bz bW K;simp only[bM]at z;obtain⟨ab,L,a⟩:=ah a;have A:=bz au L;simp only[bM]at A;obtain⟨ad,M,a⟩:=ah a;simp only[bB,seval,S,z,A,M];refine bu (by kernel_rfl) ?_;cases a;apply iG;refine⟨q,?_⟩;and_intros<;>first|rfl|(simp only[bB,seval,S]<;>rfl)
      ·cases a;simp only[bB,seval];apply jG;refine⟨rfl,⟨q,?_,?_,?_,?_,?_,?_,?_⟩⟩;all_goals ((simp only[bB,seval,S]<;>rfl))
     ·rintro x t H e E;rcases Z with⟨i,d,j,f⟩;dsimp only at E a;obtain⟨rfl,⟨u,F⟩⟩:=E;obtain⟨ag,N,a⟩:=ah a;have B:=bz au N;simp only[bM]at B;obtain⟨ai,O,a⟩:=ah a;simp only[bB,seval,m,F,B,O];refine bu (by kernel_rfl) ?_;apply sp an a<;>intro _ a
      ·cases a;simp only[bB,seval];refine tQ ⟨rfl,?_⟩;simp only[bB,seval]
      ·cases a;simp only[bB,seval,F];apply iG;and_intros<;>first|rfl|(simp only[bB,seval,F]<;>rfl)
    ·cases a;simp only[bB,seval];apply jG;exact rfl
   ·rintro x t H e E;rcases X with _|rb
    ·dsimp only at E a;subst E;cases a;simp only[bB,seval]
    ·dsimp only at E a;obtain⟨rfl,hE⟩:=E;cases a;simp only[aX,ba,cv,cA];exact hE
 ·clear a;have a:=V;simp only[bB,seval];apply sp aZ a<;>intro _ a
  ·cases a;simp only[bB,seval];rw[aw];refine⟨_,rfl,?_⟩;refine⟨0,?_,?_,?_,?_,?_⟩;all_goals (rfl)
  ·obtain⟨aj,P,a⟩:=ah a;simp only[bB,seval,P];apply sp aZ a<;>intro _ a
   ·cases a;simp only[bB,seval];rw[aw];refine⟨_,rfl,?_⟩;refine⟨0,?_,?_,?_,?_,?_⟩;all_goals (rfl)
   ·obtain⟨ak,Q,a⟩:=ah a;cases a;simp only[bB,seval,Q];rw[aw];refine⟨_,rfl,?_⟩;refine⟨0,?_,?_,?_,?_,?_⟩;all_goals (rfl)
def zo:=dN (fK (bJ rI) (fK (jZ (eI .i64)) (dy (jZ (eI .i64))))) (fun x:dE×(List Int)×(List Int)=>pK x.1 x.2.1 x.2.2) (fun r:Bool =>.clean (.bool r)) l d
def zQ:Env:=(Am.ext (Am.ext (Am.ext (Am.ext bf 8 false jO) 17 false oD) 19 false ki) 43 false uP)
def O5:bI prog zQ:=((((bI.none.add xB false).add DH false).add xA false).add QF false)
def sB:=ai @w<|ai @acH<|ai @jO.eq_1<|ai @sh0<|ai @oD.eq_1<|ai @agd<|ai @ki.eq_1<|ai @agc<|ai @uP.eq_1<|@zQ.eq_1
def Qx:bZ prog 18 zo:=dT O5 func18 (by kernel_rfl) (fun _ _=>rfl) (fun _=>by kernel_rfl) ntmps18 results18 rfl fun⟨g,h,i⟩ r a=>by
 simp only[hZ]at a⊢;unfold pK at a;obtain⟨j,b,a⟩:=ah a;obtain⟨k,c,a⟩:=ah a;simp only[sB,seval,b,c];refine bu (by kernel_rfl) ?_;apply sp vS a<;>intro _ a
 ·obtain⟨l,d,a⟩:=ah a;obtain⟨m,e,a⟩:=ah a;simp only[sB,seval,d,e];apply sp vS a<;>intro _ a
  ·obtain⟨n,f,a⟩:=ah a;simp only[sB,seval,b,f];refine bu (by kernel_rfl) ?_;cases a;simp only[seval]
  ·simp only[sB,seval];refine bu (by kernel_rfl) ?_;cases a;simp only[seval]
 ·simp only[sB,seval];refine bu (by kernel_rfl) ?_;cases a;simp only[seval]
def sM:=dN (as0) (fun x:Unit=>um) (fun r:Bool =>.clean (.bool r)) l d
def age {β:Type} {F:Unit->Option β} {R:β->RK} : dN (as0) F R none []=(F (())).map fun r=>(R r,none):=cn _ _ _ (())
def vD (a:(List Int)):oD none [.sl false false a.length (ae (eI .i64) a)]=(mh a).map fun r:(List al)=>(.clean (.sl false false r.length (ae au r)),none):=cn _ _ _ (a)
def vE (b:Int) (a:(List bV)) (c:(List Int)) (d:(List Int)):zo none [.agg [.int .i64 b,.sl false false a.length (ae bP a)],.sl false false c.length (ae (eI .i64) c),.sl false false d.length (ae (eI .i64) d)]=(pK (dE.mk b a) c d).map fun r:Bool=>(.clean (.bool r),none):=cn _ _ _ ((dE.mk b a),c,d)
def Is (b:Int) (a:(List bV)) (c:(List al)) (d:(List al)):ki none [.agg [.int .i64 b,.sl false false a.length (ae bP a)],.sl false false c.length (ae au c),.sl false false d.length (ae au d)]=(nz (dE.mk b a) c d).map fun r:Bool=>(.clean (.bool r),none):=cn _ _ _ ((dE.mk b a),c,d)
def He (b:Int) (a:(List bV)) (c:(List al)):jO none [.agg [.int .i64 b,.sl false false a.length (ae bP a)],.sl false false c.length (ae au c)]=(iw (dE.mk b a) c).map fun r:(List al)×Int=>(.clean (.tup [.sl false false r.1.length (ae au r.1),.int .i64 r.2]),none):=cn _ _ _ ((dE.mk b a),c)
def xh:Env:=(Am.ext (Am.ext (Am.ext (Am.ext (Am.ext bf 8 false jO) 16 false uK) 17 false oD) 18 false zo) 19 false ki)
def L0:bI prog xh:=(((((bI.none.add xB false).add Qy false).add DH false).add Qx false).add xA false)
def dq:=ai @w<|ai @sh8<|ai @uK.eq_1<|@xh.eq_1
def Mu:bZ prog 4 sM:=dT L0 func4 (by kernel_rfl) (fun _ _=>rfl) (fun _=>by kernel_rfl) ntmps4 results4 rfl fun _ r a=>by
 simp only[hZ]at a⊢;unfold um at a;obtain⟨f,E,a⟩:=ah a;obtain⟨g,F,a⟩:=ah a;obtain⟨S,G,a⟩:=ah a;obtain⟨V,I,a⟩:=ah a;obtain⟨W,J,a⟩:=ah a;obtain⟨X,K,a⟩:=ah a;have T:=vD ([1,0]);simp only[bk,bM,List.length_cons,ajf,Nat.reduceAdd]at T;obtain⟨Y,L,a⟩:=ah a;have U:=He 2 ([S,X]) Y;simp only[bk,bM,List.length_cons,ajf,Nat.reduceAdd]at U;obtain⟨M,h,a⟩:=ah a;simp only[dq,seval,E,F,G,I,J,K,T,L,U,h];refine bu (by kernel_rfl) ?_;have i:=vD ([1]);simp only[bk,bM,List.length_cons,ajf]at i;obtain⟨N,j,a⟩:=ah a;have k:=He 2 ([f,g]) N;simp only[bk,bM,List.length_cons,ajf,Nat.reduceAdd]at k;obtain⟨O,l,a⟩:=ah a;simp only[dq,seval,i,j,k,l];refine bu (by kernel_rfl) ?_;have m:=vE 2 ([f,g]) ([30,0]) ([40,20]);simp only[bk,bM,List.length_cons,ajf,Nat.reduceAdd]at m;obtain⟨Z,n,a⟩:=ah a;simp only[dq,seval,m,n];obtain⟨P,o,a⟩:=ah a;refine bS 0 (fun s t H e=>match s with|d=>∃b:Nat,t 1=.ptr 1 b 0∧t 6=.int .i64 M.2∧t 8=.int .i64 O.2∧t 9=.bool d∧H 1=some ⟨b,32,[.int .i64 2,.sl false false ([f,g]).length (ae bP ([f,g]))],false,false,false⟩) (fun s=>s=P) ?_ ?_
 ·rintro d t H e ⟨b,c⟩ rfl;try dsimp only at a
  simp only[dq,seval,c];apply sp vS a<;>intro _ a
  ·simp only[dq,seval,c];apply sp vS a<;>intro _ a
   ·simp only[dq,seval,c];apply sp vS a<;>intro _ a
    ·have p:=vD ([30,0]);simp only[bk,bM,List.length_cons,ajf,Nat.reduceAdd]at p;obtain⟨Q,q,a⟩:=ah a;have u:=vD ([40,21]);simp only[bk,bM,List.length_cons,ajf,Nat.reduceAdd]at u;obtain⟨R,v,a⟩:=ah a;have w:=Is 2 ([f,g]) Q R;simp only[bk,bM,List.length_cons,ajf,Nat.reduceAdd]at w;obtain⟨aa,x,a⟩:=ah a;simp only[dq,seval,c,p,q,u,v,w,x];refine bu (by kernel_rfl) ?_;cases a;simp only[seval]
    ·simp only[dq,seval];refine bu (by kernel_rfl) ?_;cases a;simp only[seval]
   ·simp only[dq,seval];refine bu (by kernel_rfl) ?_;cases a;simp only[seval]
  ·simp only[dq,seval];refine bu (by kernel_rfl) ?_;cases a;simp only[seval]
 ·clear a;have a:=o;simp only[dq,seval];apply sp fG a<;>intro _ a
  ·have y:=vE 3 ([S,V]) ([6,3,0]) ([6,9,3]);simp only[bk,bM,List.length_cons,ajf,Nat.reduceAdd]at y;obtain⟨ab,z,a⟩:=ah a;simp only[dq,seval,y,z];apply sp fG a<;>intro _ a
   ·have A:=vE 1 ([W]) ([1]) ([4]);simp only[bk,bM,List.length_cons,ajf]at A;obtain⟨ad,B,a⟩:=ah a;simp only[dq,seval,A,B];apply sp fG a<;>intro _ a
    ·have C:=vE 0 ([]) ([]) ([]);simp only[bM]at C;obtain⟨ag,D,a⟩:=ah a;cases a;simp only[dq,seval,C,D];rw[aw];refine⟨_,rfl,?_⟩;refine⟨1,?_,?_,?_,?_,?_⟩;all_goals (rfl)
    ·cases a;simp only[dq,seval];rw[aw];refine⟨_,rfl,?_⟩;refine⟨1,?_,?_,?_,?_,?_⟩;all_goals (rfl)
   ·cases a;simp only[dq,seval];rw[aw];refine⟨_,rfl,?_⟩;refine⟨1,?_,?_,?_,?_,?_⟩;all_goals (rfl)
  ·cases a;simp only[dq,seval];rw[aw];refine⟨_,rfl,?_⟩;refine⟨1,?_,?_,?_,?_,?_⟩;all_goals (rfl)
def oF:=dN (fK (bJ au) (dy (aI .i64))) (fun x:al×Int=>vG x.1 x.2) (fun r:Bool =>.clean (.bool r)) l d
def acI {β:Type} {F:al×Int->Option β} {R:β->RK} (c:Int) (a:(List Int)) (d:Int) (b:(List Int)) (e:Int):dN (fK (bJ au) (dy (aI .i64))) F R none [.agg [.int .i64 c,.sl false false a.length (ae (eI .i64) a),.int .i64 d,.sl false false b.length (ae (eI .i64) b)],.int .i64 e]=(F ((al.mk (aF.mk c a) (aF.mk d b)),e)).map fun r=>(R r,none):=cn _ _ _ ((al.mk (aF.mk c a) (aF.mk d b)),e)
def GZ:bZ prog 21 oF:=dT bI.none func21 (by kernel_rfl) (fun _ _=>rfl) (fun _=>by kernel_rfl) ntmps21 results21 rfl fun⟨b,c⟩ r a=>by
 simp only[hZ]at a⊢;unfold vG at a;simp only[w,seval];apply sp fG a<;>intro _ a
 ·cases a;simp only[w,seval]
 ·cases a;simp only[w,seval]
def pn:=dN (dy (bJ BW)) (fun x:gN=>k9 x) (fun r:Bool =>.clean (.bool r)) l d
def agf {β:Type} {F:gN->Option β} {R:β->RK} (a:(List jQ)) (b:(List D1)) (c:(List (List al))):dN (dy (bJ BW)) F R none [.agg [.sl false false a.length (ae bN a),.sl false false b.length (ae fC b),.sl false false c.length (ae (nM au) c)]]=(F ((gN.mk a b c))).map fun r=>(R r,none):=cn _ _ _ ((gN.mk a b c))
def tL:Env:=(Am.ext bf 21 false oF)
def F2:bI prog tL:=(bI.none.add GZ false)
def bc:=ai @w<|ai @acI<|ai @oF.eq_1<|@tL.eq_1
def G2:bZ prog 20 pn:=dT F2 func20 (by kernel_rfl) (fun _ _=>rfl) (fun _=>by kernel_rfl) ntmps20 results20 rfl fun d r a=>by
 simp only[hZ]at a⊢;unfold k9 at a;simp only[bc,seval];obtain⟨G,C,a⟩:=ah a;refine bS 0 (fun s t H e=>match s with|h=>∃f:Nat,t 1=.ptr 1 f 0∧t 20=.bool h∧H 1=some ⟨f,60,[.sl false false d.aq.length (ae bN d.aq),.sl false false d.aO.length (ae fC d.aO),.sl false false d.aL.length (ae (nM au) d.aL)],false,false,false⟩) (fun s=>s=G) ?_ ?_
 ·rintro h t H e ⟨f,p⟩ rfl;try dsimp only at a
  simp only[bc,seval,p];apply sp an a<;>intro _ a
  ·cases a;simp only[bc,seval]
  ·simp only[bc,seval];obtain⟨D,q,a⟩:=ah a;refine aA (fun s t H e=>match s with|k=>∃l:Nat,t 1=.ptr 1 l 0∧t 3=.int .i64 k∧H 1=some ⟨l,60,[.sl false false d.aq.length (ae bN d.aq),.sl false false d.aO.length (ae fC d.aO),.sl false false d.aL.length (ae (nM au) d.aL)],false,false,false⟩) (fun o x t H e=>match o with|(.inl _)=>x=.exit 0|(.inr r)=>x=.ret∧gi .clean tab none [.tmp 2] ⟨t,EH H,e⟩=some (.clean (.bool r),none)) q ?_ ?_ ?_
   ·refine⟨f,?_⟩;and_intros<;>first|rfl|(simp only[bc,seval,p]<;>rfl)
   ·rintro k t H e ⟨l,E⟩ c a;simp only[oh]at a;simp only[bc,seval,E];apply sp an a<;>intro _ a
    ·obtain⟨I,i,a⟩:=ah a;have b:=bz (nM au) i;simp only[bM]at b;simp only[bc,seval,E,b];apply sp an a<;>intro _ a
     ·cases a;simp only[bc,seval];refine tQ ⟨rfl,?_⟩;simp only[bc,seval]
     ·simp only[bc,seval];obtain⟨F,u,a⟩:=ah a;refine aA (fun s t H e=>match s with|v=>∃j:Nat,t 1=.ptr 1 j 0∧t 3=.int .i64 k∧t 4=.int .i64 v∧H 1=some ⟨j,60,[.sl false false d.aq.length (ae bN d.aq),.sl false false d.aO.length (ae fC d.aO),.sl false false d.aL.length (ae (nM au) d.aL)],false,false,false⟩) (fun o x t H e=>match o with|(.inl _)=>x=.exit 2∧∃g:Nat,t 1=.ptr 1 g 0∧t 3=.int .i64 k∧H 1=some ⟨g,60,[.sl false false d.aq.length (ae bN d.aq),.sl false false d.aO.length (ae fC d.aO),.sl false false d.aL.length (ae (nM au) d.aL)],false,false,false⟩|(.inr r)=>x=.ret∧gi .clean tab none [.tmp 2] ⟨t,EH H,e⟩=some (.clean (.bool r),none)) u ?_ ?_ ?_
      ·refine⟨l,?_⟩;and_intros<;>first|rfl|(simp only[bc,seval,E]<;>rfl)
      ·rintro v t H e ⟨j,w⟩ c a;simp only[eO]at a;have b:=bz (nM au) i;simp only[bM]at b;simp only[bc,seval,w,b];apply sp an a<;>intro _ a
       ·have b:=bz (nM au) i;simp only[bM]at b;obtain⟨J,y,a⟩:=ah a;have n:=bz au y;simp only[bM]at n;obtain⟨K,z,a⟩:=ah a;simp only[bc,seval,w,b,n,z];apply sp an a<;>intro _ a
        ·cases a;simp only[bc,seval];refine tQ ⟨rfl,?_⟩;simp only[bc,seval]
        ·cases a;simp only[bc,seval,w];apply iG;refine⟨j,?_⟩;and_intros<;>first|rfl|(simp only[bc,seval,w]<;>rfl)
       ·cases a;simp only[bc,seval];apply jG;refine⟨rfl,⟨j,?_,?_,?_⟩⟩;all_goals ((simp only[bc,seval,w]<;>rfl))
      ·rintro x t H e m;rcases F with _|rd
       ·dsimp only at m a;obtain⟨rfl,⟨g,A⟩⟩:=m;cases a;simp only[bc,seval,A];apply iG;refine⟨g,?_⟩;and_intros<;>first|rfl|(simp only[bc,seval,A]<;>rfl)
       ·dsimp only at m a;obtain⟨rfl,B⟩:=m;cases a;simp only[aX,ba,cv];apply tQ;first|exact⟨rfl,B⟩|(simp only[bc,seval]at B;exact⟨rfl,B⟩)
    ·cases a;simp only[bc,seval];apply jG;exact rfl
   ·rintro x t H e m;rcases D with _|L
    ·dsimp only at m a;subst m;cases a;simp only[bc,seval]
    ·dsimp only at m a;obtain⟨rfl,B⟩:=m;cases a;simp only[aX,ba,cv,cA];exact B
 ·clear a;have a:=C;simp only[bc,seval];apply sp aZ a<;>intro _ a
  ·cases a;simp only[bc,seval];rw[aw];refine⟨_,rfl,?_⟩;refine⟨0,?_,?_,?_⟩;all_goals (rfl)
  ·simp only[bc,seval];apply sp aZ a<;>intro _ a
   ·cases a;simp only[bc,seval];rw[aw];refine⟨_,rfl,?_⟩;refine⟨0,?_,?_,?_⟩;all_goals (rfl)
   ·cases a;simp only[bc,seval];rw[aw];refine⟨_,rfl,?_⟩;refine⟨0,?_,?_,?_⟩;all_goals (rfl)
def yh:=dN (dy (bJ sW)) (fun x:ct=>yG x) (fun r:Bool =>.clean (.bool r)) l d
def acJ {β:Type} {F:ct->Option β} {R:β->RK} (a:(List Int)) (b:(List ck)):dN (dy (bJ sW)) F R none [.agg [.sl false false a.length (ae (eI .i64) a),.sl false false b.length (ae dp b)]]=(F ((ct.mk a b))).map fun r=>(R r,none):=cn _ _ _ ((ct.mk a b))
def Cj:Env:=(Am.ext bf 20 false pn)
def S2:bI prog Cj:=(bI.none.add G2 false)
def du:=ai @w<|ai @agf<|ai @pn.eq_1<|@Cj.eq_1
def To:bZ prog 5 yh:=dT S2 func5 (by kernel_rfl) (fun _ _=>rfl) (fun _=>by kernel_rfl) ntmps5 results5 rfl fun h r a=>by
 simp only[hZ]at a⊢;unfold yG at a;simp only[du,seval];obtain⟨u,p,a⟩:=ah a;refine bS 0 (fun s t H e=>match s with|f=>∃d:Nat,t 1=.ptr 1 d 0∧t 13=.bool f∧H 1=some ⟨d,25,[.sl false false h.av.length (ae (eI .i64) h.av),.sl false false h.aD.length (ae dp h.aD)],false,false,false⟩) (fun s=>s=u) ?_ ?_
 ·rintro f t H e ⟨d,k⟩ rfl;try dsimp only at a
  simp only[du,seval,k];apply sp an a<;>intro _ a
  ·cases a;simp only[du,seval]
  ·simp only[du,seval];obtain⟨v,q,a⟩:=ah a;refine aA (fun s t H e=>match s with|l=>∃i:Nat,t 1=.ptr 1 i 0∧t 3=.int .i64 l∧H 1=some ⟨i,25,[.sl false false h.av.length (ae (eI .i64) h.av),.sl false false h.aD.length (ae dp h.aD)],false,false,false⟩) (fun o x t H e=>match o with|(.inl _)=>x=.exit 0|(.inr r)=>x=.ret∧gi .clean tab none [.tmp 2] ⟨t,EH H,e⟩=some (.clean (.bool r),none)) q ?_ ?_ ?_
   ·refine⟨d,?_⟩;and_intros<;>first|rfl|(simp only[du,seval,k]<;>rfl)
   ·rintro l t H e ⟨i,j⟩ c a;simp only[vH]at a;simp only[du,seval,j];apply sp an a<;>intro _ a
    ·obtain⟨w,g,a⟩:=ah a;have b:=bz dp g;simp only[bM]at b;obtain⟨y,m,a⟩:=ah a;simp only[du,seval,j,b,m];apply sp aZ a<;>intro _ a
     ·cases a;simp only[du,seval];refine tQ ⟨rfl,?_⟩;simp only[du,seval]
     ·have b:=bz dp g;simp only[bM]at b;simp only[du,seval,j,b];apply sp aZ a<;>intro _ a
      ·cases a;simp only[du,seval];refine tQ ⟨rfl,?_⟩;simp only[du,seval]
      ·have b:=bz dp g;simp only[bM]at b;simp only[du,seval,j,b];apply sp an a<;>intro _ a
       ·cases a;simp only[du,seval];refine tQ ⟨rfl,?_⟩;simp only[du,seval]
       ·cases a;simp only[du,seval,j];apply iG;refine⟨i,?_⟩;and_intros<;>first|rfl|(simp only[du,seval,j]<;>rfl)
    ·cases a;simp only[du,seval];apply jG;exact rfl
   ·rintro x t H e n;rcases v with _|A
    ·dsimp only at n a;subst n;cases a;simp only[du,seval]
    ·dsimp only at n a;obtain⟨rfl,z⟩:=n;cases a;simp only[aX,ba,cv,cA];exact z
 ·clear a;have a:=p;simp only[du,seval];apply sp aZ a<;>intro _ a
  ·cases a;simp only[du,seval];rw[aw];refine⟨_,rfl,?_⟩;refine⟨0,?_,?_,?_⟩;all_goals (rfl)
  ·cases a;simp only[du,seval];rw[aw];refine⟨_,rfl,?_⟩;refine⟨0,?_,?_,?_⟩;all_goals (rfl)
def yi:=dN (fK (jZ au) (dy (aI .i64))) (fun x:(List al)×Int=>yH x.1 x.2) (fun r:Bool =>.clean (.bool r)) l d
def Ck:Env:=(Am.ext bf 21 false oF)
def S3:bI prog Ck:=(bI.none.add GZ false)
def fI:=ai @w<|ai @acI<|ai @oF.eq_1<|@Ck.eq_1
def Tp:bZ prog 6 yi:=dT S3 func6 (by kernel_rfl) (fun _ _=>rfl) (fun _=>by kernel_rfl) ntmps6 results6 rfl fun⟨g,m⟩ r a=>by
 simp only[hZ]at a⊢;unfold yH at a;simp only[fI,seval];obtain⟨u,n,a⟩:=ah a;refine aA (fun s t H e=>match s with|h=>t 0=.sl false false g.length (ae au g)∧t 1=.int .i64 m∧t 5=.int .i64 h) (fun o x t H e=>match o with|(.inl _)=>x=.exit 0∧t 0=.sl false false g.length (ae au g)|(.inr r)=>x=.ret∧gi .clean tab none [.tmp 4] ⟨t,EH H,e⟩=some (.clean (.bool r),none)) n ?_ ?_ ?_
 ·refine⟨?_,?_,?_⟩;all_goals (rfl)
 ·rintro h t H e k c a;simp only[vJ]at a;simp only[fI,seval,k];obtain⟨v,p,a⟩:=ah a;refine bS 0 (fun s t H e=>match s with|b=>t 0=.sl false false g.length (ae au g)∧t 1=.int .i64 m∧t 5=.int .i64 h∧t 13=.bool b) (fun s=>s=v) ?_ ?_
  ·rintro b t H e d rfl;try dsimp only at a
   simp only[fI,seval,d];apply sp an a<;>intro _ a
   ·obtain⟨w,i,a⟩:=ah a;have f:=bz au i;simp only[bM]at f;obtain⟨y,j,a⟩:=ah a;simp only[fI,seval,d,f,j];apply sp an a<;>intro _ a
    ·cases a;simp only[fI,seval];refine tQ ⟨rfl,?_⟩;simp only[fI,seval]
    ·cases a;simp only[fI,seval,d];apply iG;and_intros<;>first|rfl|(simp only[fI,seval,d]<;>rfl)
   ·cases a;simp only[fI,seval];apply jG;refine⟨rfl,?_⟩;all_goals ((simp only[fI,seval,d]<;>rfl))
  ·clear a;have a:=p;simp only[fI,seval];apply sp fG a<;>intro _ a
   ·cases a;simp only[fI,seval,k];rw[aw];refine⟨_,rfl,?_⟩;and_intros<;>first|rfl|(simp only[fI,seval,k]<;>rfl)
   ·cases a;simp only[fI,seval];rw[aw];refine⟨_,rfl,?_⟩;and_intros<;>first|rfl|(simp only[fI,seval,k]<;>rfl)
 ·rintro x t H e l;rcases u with _|A
  ·dsimp only at l a;obtain⟨rfl,q⟩:=l;cases a;simp only[fI,seval,q]
  ·dsimp only at l a;obtain⟨rfl,z⟩:=l;cases a;simp only[aX,ba,cv,cA];exact z
def tZ:=dN (fK (bJ au) (dy (bJ au))) (fun x:al×al=>qK x.1 x.2) (fun r:al =>.clean (.agg [.int .i64 r.bK.ak,.sl false false r.bK.aa.length (ae (eI .i64) r.bK.aa),.int .i64 r.bL.ak,.sl false false r.bL.aa.length (ae (eI .i64) r.bL.aa)])) l d
def Cd:Env:=(Am.ext bf 12 false fM)
def SV:bI prog Cd:=(bI.none.add td false)
def X9:=ai @w<|ai @Rj<|ai @fM.eq_1<|@Cd.eq_1
def GV:bZ prog 46 tZ:=dT SV func46 (by kernel_rfl) (fun _ _=>rfl) (fun _=>by kernel_rfl) ntmps46 results46 rfl fun⟨c,d⟩ r a=>by
 simp only[hZ]at a⊢;unfold qK at a;obtain⟨e,b,a⟩:=ah a;cases a;simp only[X9,seval,b]
def sP:=dN (dy (jZ au)) (fun x:(List al)=>rj x) (fun r:Bool =>.clean (.bool r)) l d
def agh {β:Type} {F:(List al)->Option β} {R:β->RK} (a:(List al)):dN (dy (jZ au)) F R none [.sl false false a.length (ae au a)]=(F (a)).map fun r=>(R r,none):=cn _ _ _ (a)
def xm:Env:=(Am.ext (Am.ext (Am.ext (Am.ext (Am.ext bf 11 false dS) 15 false eH) 33 false fN) 36 false db) 46 false tZ)
def L5:bI prog xm:=(((((bI.none.add lL false).add qe false).add nk false).add fW false).add GV false)
def fb:=ai @w<|ai @Ri<|ai @dS.eq_1<|ai @Rj<|ai @eH.eq_1<|ai @sh2<|ai @fN.eq_1<|ai @db.eq_1<|ai @tZ.eq_1<|@xm.eq_1
def Mx:bZ prog 111 sP:=dT L5 func111 (by kernel_rfl) (fun _ _=>rfl) (fun _=>by kernel_rfl) ntmps111 results111 rfl fun B r a=>by
 simp only[hZ]at a⊢;unfold rj at a;obtain⟨P,D,a⟩:=ah a;simp only[fb,seval,D];obtain⟨G,E,a⟩:=ah a;refine aA (fun s t H e=>match s with|(p,j,f,k,g)=>∃l:Nat,t 3=.ptr 3 l 0∧t 7=.sl false false B.length (ae au B)∧t 8=.int .i64 (B.length:Int)∧t 9=.int .i64 p∧H 3=some ⟨l,41,[.int .i64 j,.sl false false f.length (ae (eI .i64) f),.int .i64 k,.sl false false g.length (ae (eI .i64) g)],false,false,false⟩) (fun o x t H e=>match o with|(.inl (h,b,i,d))=>x=.exit 0∧∃m:Nat,t 3=.ptr 3 m 0∧H 3=some ⟨m,41,[.int .i64 h,.sl false false b.length (ae (eI .i64) b),.int .i64 i,.sl false false d.length (ae (eI .i64) d)],false,false,false⟩|(.inr r)=>x=.ret∧gi .clean tab none [.tmp 2] ⟨t,EH H,e⟩=some (.clean (.bool r),none)) E ?_ ?_ ?_
 ·refine⟨1,?_,?_,?_,?_,?_⟩;all_goals (rfl)
 ·rintro⟨p,j,f,k,g⟩ t H e ⟨l,q⟩ c a;simp only[qL]at a;simp only[fb,seval,q];apply sp an a<;>intro _ a
  ·obtain⟨I,u,a⟩:=ah a;have n:=bz au u;simp only[bM]at n;obtain⟨J,v,a⟩:=ah a;simp only[fb,seval,q,n,v];apply sp aZ a<;>intro _ a
   ·cases a;simp only[fb,seval];refine tQ ⟨rfl,?_⟩;simp only[fb,seval]
   ·obtain⟨K,w,a⟩:=ah a;simp only[fb,seval,w];apply sp an a<;>intro _ a
    ·cases a;simp only[fb,seval];refine tQ ⟨rfl,?_⟩;simp only[fb,seval]
    ·obtain⟨L,y,a⟩:=ah a;cases a;simp only[fb,seval,q,y];apply iG;refine⟨l,?_⟩;and_intros<;>first|rfl|(simp only[fb,seval,q]<;>rfl)
  ·cases a;simp only[fb,seval];apply jG;refine⟨rfl,⟨l,?_,?_⟩⟩;all_goals ((simp only[fb,seval,q]<;>rfl))
 ·rintro x t H e C;rcases G with⟨h,b,i,d⟩|Q
  ·dsimp only at C a;obtain⟨rfl,⟨m,F⟩⟩:=C;obtain⟨M,z,a⟩:=ah a;obtain⟨N,A,a⟩:=ah a;simp only[fb,seval,F,z,A];refine bu (by kernel_rfl) ?_;cases a;simp only[seval]
  ·dsimp only at C a;obtain⟨rfl,O⟩:=C;cases a;simp only[aX,ba,cv,cA];exact O
def mu:=dN (dy (bJ BW)) (fun x:gN=>kl x) (fun r:Bool =>.clean (.bool r)) l d
def p8:Env:=(Am.ext (Am.ext bf 40 false ef) 111 false sP)
def Cm:bI prog p8:=((bI.none.add kn false).add Mx false)
def aH:=ai @w<|ai @sh9<|ai @ef.eq_1<|ai @agh<|ai @sP.eq_1<|@p8.eq_1
def Cy:bZ prog 78 mu:=dT Cm func78 (by kernel_rfl) (fun _ _=>rfl) (fun _=>by kernel_rfl) ntmps78 results78 rfl fun b r a=>by
 simp only[hZ]at a⊢;unfold kl at a;simp only[aH,seval];obtain⟨o1,ao,a⟩:=ah a;refine bS 0 (fun s t H e=>match s with|l=>∃g:Nat,t 1=.ptr 1 g 0∧t 27=.bool l∧H 1=some ⟨g,60,[.sl false false b.aq.length (ae bN b.aq),.sl false false b.aO.length (ae fC b.aO),.sl false false b.aL.length (ae (nM au) b.aL)],false,false,false⟩) (fun s=>s=o1) ?_ ?_
 ·rintro l t H e ⟨g,N⟩ rfl;try dsimp only at a
  simp only[aH,seval,N];apply sp an a<;>intro _ a
  ·cases a;simp only[aH,seval]
  ·simp only[aH,seval,N];obtain⟨aq,Q,a⟩:=ah a;refine aA (fun s t H e=>match s with|D=>∃m:Nat,t 1=.ptr 1 m 0∧t 29=.sl false false b.aO.length (ae fC b.aO)∧t 30=.int .i64 (b.aO.length:Int)∧t 31=.int .i64 D∧H 1=some ⟨m,60,[.sl false false b.aq.length (ae bN b.aq),.sl false false b.aO.length (ae fC b.aO),.sl false false b.aL.length (ae (nM au) b.aL)],false,false,false⟩) (fun o x t H e=>match o with|(.inl _)=>x=.exit 0∧∃h:Nat,t 1=.ptr 1 h 0∧H 1=some ⟨h,60,[.sl false false b.aq.length (ae bN b.aq),.sl false false b.aO.length (ae fC b.aO),.sl false false b.aL.length (ae (nM au) b.aL)],false,false,false⟩|(.inr r)=>x=.ret∧gi .clean tab none [.tmp 2] ⟨t,EH H,e⟩=some (.clean (.bool r),none)) Q ?_ ?_ ?_
   ·refine⟨g,?_⟩;and_intros<;>first|rfl|(simp only[aH,seval,N]<;>rfl)
   ·rintro D t H e ⟨m,P⟩ c a;simp only[lJ]at a;simp only[aH,seval,P];apply sp an a<;>intro _ a
    ·obtain⟨ax,R,a⟩:=ah a;have n:=bz fC R;simp only[bM]at n;obtain⟨ay,S,a⟩:=ah a;simp only[aH,seval,P,n,S];apply sp Bz a<;>intro _ a
     ·simp only[aH,seval];refine bu (by kernel_rfl) ?_;cases a;refine tQ ⟨rfl,?_⟩;simp only[aH,seval]
     ·simp only[aH,seval];apply sp Bz a<;>intro _ a
      ·simp only[aH,seval];refine bu (by kernel_rfl) ?_;cases a;refine tQ ⟨rfl,?_⟩;simp only[aH,seval]
      ·obtain⟨az,T,a⟩:=ah a;have E:=bz (nM au) T;simp only[bM]at E;simp only[aH,seval,P,n,E];refine bu (by kernel_rfl) ?_;apply sp an a<;>intro _ a
       ·cases a;simp only[aH,seval];refine tQ ⟨rfl,?_⟩;simp only[aH,seval]
       ·cases a;simp only[aH,seval,P];apply iG;refine⟨m,?_⟩;and_intros<;>first|rfl|(simp only[aH,seval,P]<;>rfl)
    ·cases a;simp only[aH,seval];apply jG;refine⟨rfl,⟨m,?_,?_⟩⟩;all_goals ((simp only[aH,seval,P]<;>rfl))
   ·rintro x t H e k;rcases aq with _|rb
    ·dsimp only at k a;obtain⟨rfl,⟨h,U⟩⟩:=k;simp only[aH,seval,U];obtain⟨ar,V,a⟩:=ah a;refine aA (fun s t H e=>match s with|d=>∃C:Nat,t 1=.ptr 1 C 0∧t 59=.sl false false b.aq.length (ae bN b.aq)∧t 60=.int .i64 (b.aq.length:Int)∧t 61=.int .i64 d∧H 1=some ⟨C,60,[.sl false false b.aq.length (ae bN b.aq),.sl false false b.aO.length (ae fC b.aO),.sl false false b.aL.length (ae (nM au) b.aL)],false,false,false⟩) (fun o x t H e=>match o with|(.inl _)=>x=.exit 2|(.inr r)=>x=.ret∧gi .clean tab none [.tmp 2] ⟨t,EH H,e⟩=some (.clean (.bool r),none)) V ?_ ?_ ?_
     ·refine⟨h,?_⟩;and_intros<;>first|rfl|(simp only[aH,seval,U]<;>rfl)
     ·rintro d t H e ⟨C,Zc⟩ c a;simp only[lK]at a;simp only[aH,seval,Zc];apply sp an a<;>intro _ a
      ·obtain⟨j,W,a⟩:=ah a;have p:=bz bN W;simp only[bM]at p;obtain⟨aB,X,a⟩:=ah a;obtain⟨Y,Z,aa,F,ab⟩:=mk_one au X;simp only[bM]at F;simp only[aH,seval,Zc,p,Y,Z,aa,F,ab];obtain⟨av,ad,a⟩:=ah a;refine aA (fun s t H e=>match s with|(G,O)=>∃q:Nat,∃u:Nat,∃v:Nat,t 1=.ptr 1 q 0∧t 5=.int .i64 d∧t 6=.ptr 6 u 0∧t 7=.buf 7 v 4 0 (O).length∧t 59=.sl false false b.aq.length (ae bN b.aq)∧t 60=.int .i64 (b.aq.length:Int)∧t 61=.int .i64 d∧t 72=.int .i64 (b.aO.length:Int)∧t 73=.int .i64 G∧H 1=some ⟨q,60,[.sl false false b.aq.length (ae bN b.aq),.sl false false b.aO.length (ae fC b.aO),.sl false false b.aL.length (ae (nM au) b.aL)],false,false,false⟩∧H 6=some ⟨u,99,[.int .i64 j.bG,.int .i64 j.aY,.int .i64 j.aT],false,false,false⟩∧H 7=some ⟨v,41,ae au O,false,true,false⟩) (fun o x t H e=>match o with|w=>x=.exit 4∧∃i:Nat,∃y:Nat,∃A:Nat,t 1=.ptr 1 i 0∧t 6=.ptr 6 y 0∧t 7=.buf 7 A 4 0 (w).length∧t 59=.sl false false b.aq.length (ae bN b.aq)∧t 60=.int .i64 (b.aq.length:Int)∧t 61=.int .i64 d∧H 1=some ⟨i,60,[.sl false false b.aq.length (ae bN b.aq),.sl false false b.aO.length (ae fC b.aO),.sl false false b.aL.length (ae (nM au) b.aL)],false,false,false⟩∧H 6=some ⟨y,99,[.int .i64 j.bG,.int .i64 j.aY,.int .i64 j.aT],false,false,false⟩∧H 7=some ⟨A,41,ae au w,false,true,false⟩) ad ?_ ?_ ?_
       ·refine⟨C,e+1,e+1+1,?_⟩;and_intros<;>first|rfl|(simp only[aH,seval,Zc]<;>rfl)
       ·rintro⟨G,O⟩ t H e ⟨q,u,v,Ze⟩ c a;simp only[gX]at a;simp only[aH,seval,Ze];apply sp an a<;>intro _ a
        ·obtain⟨aC,ag,a⟩:=ah a;have I:=bz (nM au) ag;simp only[bM]at I;obtain⟨f,ai,a⟩:=ah a;have J:=bz au ai;simp only[bM]at J;obtain⟨aD,K,a⟩:=ah a;have L:=bz au K;simp only[bM]at L;have aj:=fE au (x':=f) (fo:=0) (cs:=[.int .i64 f.bK.ak,.sl false false f.bK.aa.length (ae (eI .i64) f.bK.aa),.int .i64 f.bL.ak,.sl false false f.bL.aa.length (ae (eI .i64) f.bL.aa)]) K rfl (aki rfl);simp only[bM,Nat.add_zero]at aj;have M:=aj;simp only[putCells,List.length_cons,List.length_nil,ajf,Nat.reduceAdd]at M;cases a;simp only[aH,seval,p,Ze,I,J,L,M];apply iG;refine⟨q,u,v,?_⟩;and_intros<;>first|rfl|(simp only[aH,seval,Ze]<;>rfl)
        ·cases a;simp only[aH,seval];apply jG;refine⟨rfl,⟨q,u,v,?_,?_,?_,?_,?_,?_,?_,?_,?_⟩⟩;all_goals ((simp only[aH,seval,Ze]<;>rfl))
       ·rintro x t H e k;obtain⟨w,rfl⟩:∃z,z=av:=⟨_,rfl⟩;dsimp only at k a;obtain⟨rfl,⟨i,y,A,B⟩⟩:=k;obtain⟨aE,ak,a⟩:=ah a;simp only[aH,seval,B,ak];apply sp aZ a<;>intro _ a
        ·cases a;simp only[aH,seval];refine tQ ⟨rfl,?_⟩;simp only[aH,seval]
        ·simp only[aH,seval,B];apply sp aZ a<;>intro _ a
         ·cases a;simp only[aH,seval];refine tQ ⟨rfl,?_⟩;simp only[aH,seval]
         ·obtain⟨aF,al,a⟩:=ah a;simp only[aH,seval,B,al];apply sp an a<;>intro _ a
          ·cases a;simp only[aH,seval];refine tQ ⟨rfl,?_⟩;simp only[aH,seval]
          ·cases a;simp only[aH,seval,B];apply iG;refine⟨i,?_⟩;and_intros<;>first|rfl|(simp only[aH,seval,B]<;>rfl)
      ·cases a;simp only[aH,seval];apply jG;exact rfl
     ·rintro x t H e k;rcases ar with _|rc
      ·dsimp only at k a;subst k;cases a;simp only[aH,seval]
      ·dsimp only at k a;obtain⟨rfl,hE⟩:=k;cases a;simp only[aX,ba,cv,cA];exact hE
    ·dsimp only at k a;obtain⟨rfl,hE⟩:=k;cases a;simp only[aX,ba,cv,cA];exact hE
 ·clear a;have a:=ao;simp only[aH,seval];apply sp aZ a<;>intro _ a
  ·cases a;simp only[aH,seval];rw[aw];refine⟨_,rfl,?_⟩;refine⟨0,?_,?_,?_⟩;all_goals (rfl)
  ·simp only[aH,seval];apply sp aZ a<;>intro _ a
   ·cases a;simp only[aH,seval];rw[aw];refine⟨_,rfl,?_⟩;refine⟨0,?_,?_,?_⟩;all_goals (rfl)
   ·cases a;simp only[aH,seval];rw[aw];refine⟨_,rfl,?_⟩;refine⟨0,?_,?_,?_⟩;all_goals (rfl)
def qu:=dN (fK (bJ ig) (dy (Wx (eI .i64)))) (fun x:ic×Int=>oU x.1 x.2) (fun r:Bool =>.clean (.bool r)) l d
def agi {β:Type} {F:ic×Int->Option β} {R:β->RK} (a:Int) (b:Int) (c:Int):dN (fK (bJ ig) (dy (Wx (eI .i64)))) F R none [.agg [.int .i64 a,.int .i64 b],.ip [.int .i64 c]]=(F ((ic.mk a b),c)).map fun r=>(R r,none):=cn _ _ _ ((ic.mk a b),c)
def vp:Env:=(Am.ext bf 40 false ef)
def Ie:bI prog vp:=(bI.none.add kn false)
def vW:=ai @w<|ai @sh9<|ai @ef.eq_1<|@vp.eq_1
def Im:bZ prog 79 qu:=dT Ie func79 (by kernel_rfl) (fun _ _=>rfl) (fun _=>by kernel_rfl) ntmps79 results79 rfl fun⟨d,e⟩ r a=>by
 simp only[hZ]at a⊢;unfold oU at a;obtain⟨f,b,a⟩:=ah a;simp only[vW,seval,b];apply sp aZ a<;>intro _ a
 ·cases a;simp only[vW,seval]
 ·obtain⟨g,c,a⟩:=ah a;cases a;simp only[vW,seval,c]
def qv:=dN (fK (aI .i64) (dy (Wx (eI .i64)))) (fun x:Int×Int=>oV x.1 x.2) (fun r:Bool =>.clean (.bool r)) l d
def agj {β:Type} {F:Int×Int->Option β} {R:β->RK} (a:Int) (b:Int):dN (fK (aI .i64) (dy (Wx (eI .i64)))) F R none [.int .i64 a,.ip [.int .i64 b]]=(F (a,b)).map fun r=>(R r,none):=cn _ _ _ (a,b)
def vr:Env:=(Am.ext bf 40 false ef)
def Ig:bI prog vr:=(bI.none.add kn false)
def Ni:=ai @w<|ai @sh9<|ai @ef.eq_1<|@vr.eq_1
def Io:bZ prog 80 qv:=dT Ig func80 (by kernel_rfl) (fun _ _=>rfl) (fun _=>by kernel_rfl) ntmps80 results80 rfl fun⟨c,d⟩ r a=>by
 simp only[hZ]at a⊢;unfold oV at a;obtain⟨e,b,a⟩:=ah a;cases a;simp only[Ni,seval,b]
def p6:=dN (dy (jZ (eI .i64))) (fun x:(List Int)=>pA x) (fun r:(List Int) =>.clean (.clo 132 0 [.ip [.sl false false r.length (ae (eI .i64) r)]]))
def wb (a:(List Int)):p6 none [.sl false false a.length (ae (eI .i64) a)]=(pA a).map fun r:(List Int)=>(.clean (.clo 132 0 [.ip [.sl false false r.length (ae (eI .i64) r)]]),none):=cn _ _ _ a
def Cz:bZ prog 113 p6:=X3
def dP:=dN (dy (Lr 132 0 (dy (Wx (nM (eI .i64)))))) (fun x:(List Int)=>cX x) (fun r:(List Int) =>.fresh 3 1 r.length (ae (eI .i64) r))
def fT (a:(List Int)):dP none [.clo 132 0 [.ip [.sl false false a.length (ae (eI .i64) a)]]]=(cX a).map fun r:(List Int)=>(.fresh 3 1 r.length (ae (eI .i64) r),none):=cn _ _ _ a
def kC:bZ prog 112 dP:=XM
def pg:=dN (fK (jZ (eI .i64)) (dy (aI .i64))) (fun x:(List Int)×Int=>kW x.1 x.2) (fun r:Bool =>.clean (.bool r)) l d
def tJ:Env:=(Am.ext (Am.ext bf 112 false dP) 113 false p6)
def F0:bI prog tJ:=((bI.none.add kC false).add Cz false)
def fp:=ai @w<|ai @fT<|ai @wb<|@tJ.eq_1
def GW:bZ prog 81 pg:=dT F0 func81 (by kernel_rfl) (fun _ _=>rfl) (fun _=>by kernel_rfl) ntmps81 results81 rfl fun⟨u,k⟩ r a=>by
 simp only[hZ]at a⊢;unfold kW at a;obtain⟨y,l,a⟩:=ah a;obtain⟨g,m,a⟩:=ah a;simp only[fp,seval,l,m];obtain⟨v,n,a⟩:=ah a;refine aA (fun s t H e=>match s with|f=>∃b:Nat,t 1=.int .i64 k∧t 5=.buf 5 b 1 0 (g).length∧t 11=.buf 5 b 1 0 (g).length∧t 12=.int .i64 ((g).length:Int)∧t 13=.int .i64 f∧H 5=some ⟨b,3,ae (eI .i64) g,false,true,false⟩) (fun o x t H e=>match o with|(.inl _)=>x=.exit 0∧∃d:Nat,t 1=.int .i64 k∧t 5=.buf 5 d 1 0 (g).length∧H 5=some ⟨d,3,ae (eI .i64) g,false,true,false⟩|(.inr r)=>x=.ret∧gi .clean tab none [.tmp 4] ⟨t,EH H,e⟩=some (.clean (.bool r),none)) n ?_ ?_ ?_
 ·refine⟨1,?_,?_,?_,?_,?_,?_⟩;all_goals (rfl)
 ·rintro f t H e ⟨b,h⟩ c a;simp only[n5]at a;simp only[fp,seval,h];apply sp an a<;>intro _ a
  ·obtain⟨z,p,a⟩:=ah a;have i:=bz (eI .i64) p;simp only[bM]at i;simp only[fp,seval,h,i];apply sp an a<;>intro _ a
   ·cases a;simp only[fp,seval];refine tQ ⟨rfl,?_⟩;simp only[fp,seval]
   ·cases a;simp only[fp,seval,h];apply iG;refine⟨b,?_⟩;and_intros<;>first|rfl|(simp only[fp,seval,h]<;>rfl)
  ·cases a;simp only[fp,seval];apply jG;refine⟨rfl,⟨b,?_,?_,?_⟩⟩;all_goals ((simp only[fp,seval,h]<;>rfl))
 ·rintro x t H e j;rcases v with _|A
  ·dsimp only at j a;obtain⟨rfl,⟨d,q⟩⟩:=j;cases a;simp only[fp,seval,q]
  ·dsimp only at j a;obtain⟨rfl,w⟩:=j;cases a;simp only[aX,ba,cv,cA];exact w
def dH:=dN (fK (jZ ig) (dy (Lr 79 0 (dy (Wx (eI .i64)))))) (fun x:(List ic)×(Int)=>cY x.1 x.2) (fun r:Int =>.clean (.int .i64 r)) l d
def agk {β:Type} {F:(List ic)×(Int)->Option β} {R:β->RK} (b:(List ic)) (a:Int):dN (fK (jZ ig) (dy (Lr 79 0 (dy (Wx (eI .i64)))))) F R none [.sl false false b.length (ae ig b),.clo 79 0 [.ip [.int .i64 a]]]=(F (b,(a))).map fun r=>(R r,none):=cn _ _ _ (b,(a))
def fi:Env:=(Am.ext bf 79 false qu)
def mN:bI prog fi:=(bI.none.add Im false)
def bq:=ai @w<|ai @agi<|ai @qu.eq_1<|@fi.eq_1
def mQ:bZ prog 114 dH:=dT mN func114 (by kernel_rfl) (fun _ _=>rfl) (fun _=>by kernel_rfl) ntmps114 results114 rfl fun⟨g,b⟩ r a=>by
 simp only[hZ]at a⊢;unfold cY at a;simp only[bq,seval];obtain⟨m,j,a⟩:=ah a;refine aA (fun s t H e=>match s with|d=>t 0=.sl false false g.length (ae ig g)∧t 1=.clo 79 0 [.ip [.int .i64 b]]∧t 7=.int .i64 (g.length:Int)∧t 8=.int .i64 d) (fun o x t H e=>match o with|(.inl _)=>x=.exit 0|(.inr r)=>x=.ret∧gi .clean tab none [.tmp 4] ⟨t,EH H,e⟩=some (.clean (.int .i64 r),none)) j ?_ ?_ ?_
 ·refine⟨?_,?_,?_,?_⟩;all_goals (rfl)
 ·rintro d t H e h c a;simp only[dB]at a;simp only[bq,seval,h];apply sp an a<;>intro _ a
  ·obtain⟨p,k,a⟩:=ah a;have f:=bz ig k;simp only[bM]at f;obtain⟨q,l,a⟩:=ah a;simp only[bq,seval,h,f,l];apply sp an a<;>intro _ a
   ·cases a;simp only[bq,seval];refine tQ ⟨rfl,?_⟩;simp only[bq,seval]
   ·cases a;simp only[bq,seval,h];apply iG;and_intros<;>first|rfl|(simp only[bq,seval,h]<;>rfl)
  ·cases a;simp only[bq,seval];apply jG;exact rfl
 ·rintro x t H e i;rcases m with _|u
  ·dsimp only at i a;subst i;cases a;simp only[bq,seval]
  ·dsimp only at i a;obtain⟨rfl,n⟩:=i;cases a;simp only[aX,ba,cv,cA];exact n
def di:=dN (fK (jZ ig) (dy (Lr 79 0 (dy (Wx (eI .i64)))))) (fun x:(List ic)×(Int)=>cc x.1 x.2) (fun r:Bool =>.clean (.bool r)) l d
def eM:Env:=(Am.ext bf 114 false dH)
def lV:bI prog eM:=(bI.none.add mQ false)
def mo:=ai @w<|ai @agk<|ai @dH.eq_1<|@eM.eq_1
def lY:bZ prog 82 di:=dT lV func82 (by kernel_rfl) (fun _ _=>rfl) (fun _=>by kernel_rfl) ntmps82 results82 rfl fun⟨d,b⟩ r a=>by
 simp only[hZ]at a⊢;unfold cc at a;obtain⟨e,c,a⟩:=ah a;cases a;simp only[mo,seval,c]
def dI:=dN (fK (jZ (eI .i64)) (dy (Lr 80 0 (dy (Wx (eI .i64)))))) (fun x:(List Int)×(Int)=>cZ x.1 x.2) (fun r:Int =>.clean (.int .i64 r)) l d
def agl {β:Type} {F:(List Int)×(Int)->Option β} {R:β->RK} (b:(List Int)) (a:Int):dN (fK (jZ (eI .i64)) (dy (Lr 80 0 (dy (Wx (eI .i64)))))) F R none [.sl false false b.length (ae (eI .i64) b),.clo 80 0 [.ip [.int .i64 a]]]=(F (b,(a))).map fun r=>(R r,none):=cn _ _ _ (b,(a))
def fj:Env:=(Am.ext bf 80 false qv)
def mO:bI prog fj:=(bI.none.add Io false)
def bs:=ai @w<|ai @agj<|ai @qv.eq_1<|@fj.eq_1
def mR:bZ prog 115 dI:=dT mO func115 (by kernel_rfl) (fun _ _=>rfl) (fun _=>by kernel_rfl) ntmps115 results115 rfl fun⟨g,b⟩ r a=>by
 simp only[hZ]at a⊢;unfold cZ at a;simp only[bs,seval];obtain⟨m,j,a⟩:=ah a;refine aA (fun s t H e=>match s with|d=>t 0=.sl false false g.length (ae (eI .i64) g)∧t 1=.clo 80 0 [.ip [.int .i64 b]]∧t 7=.int .i64 (g.length:Int)∧t 8=.int .i64 d) (fun o x t H e=>match o with|(.inl _)=>x=.exit 0|(.inr r)=>x=.ret∧gi .clean tab none [.tmp 4] ⟨t,EH H,e⟩=some (.clean (.int .i64 r),none)) j ?_ ?_ ?_
 ·refine⟨?_,?_,?_,?_⟩;all_goals (rfl)
 ·rintro d t H e h c a;simp only[dC]at a;simp only[bs,seval,h];apply sp an a<;>intro _ a
  ·obtain⟨p,k,a⟩:=ah a;have f:=bz (eI .i64) k;simp only[bM]at f;obtain⟨q,l,a⟩:=ah a;simp only[bs,seval,h,f,l];apply sp an a<;>intro _ a
   ·cases a;simp only[bs,seval];refine tQ ⟨rfl,?_⟩;simp only[bs,seval]
   ·cases a;simp only[bs,seval,h];apply iG;and_intros<;>first|rfl|(simp only[bs,seval,h]<;>rfl)
  ·cases a;simp only[bs,seval];apply jG;exact rfl
 ·rintro x t H e i;rcases m with _|u
  ·dsimp only at i a;subst i;cases a;simp only[bs,seval]
  ·dsimp only at i a;obtain⟨rfl,n⟩:=i;cases a;simp only[aX,ba,cv,cA];exact n
def dj:=dN (fK (jZ (eI .i64)) (dy (Lr 80 0 (dy (Wx (eI .i64)))))) (fun x:(List Int)×(Int)=>cd x.1 x.2) (fun r:Bool =>.clean (.bool r)) l d
def eN:Env:=(Am.ext bf 115 false dI)
def lW:bI prog eN:=(bI.none.add mR false)
def mq:=ai @w<|ai @agl<|ai @dI.eq_1<|@eN.eq_1
def lZ:bZ prog 83 dj:=dT lW func83 (by kernel_rfl) (fun _ _=>rfl) (fun _=>by kernel_rfl) ntmps83 results83 rfl fun⟨d,b⟩ r a=>by
 simp only[hZ]at a⊢;unfold cd at a;obtain⟨e,c,a⟩:=ah a;cases a;simp only[mq,seval,c]
def uM:=dN (fK (bJ dp) (dy (aI .i64))) (fun x:ck×Int=>uq x.1 x.2) (fun r:Bool =>.clean (.bool r)) l d
def agm {β:Type} {F:ck×Int->Option β} {R:β->RK} (a:(List jQ)) (b:(List D1)) (c:(List (List al))) (d:(List ic)) (e:(List Int)) (f:Int):dN (fK (bJ dp) (dy (aI .i64))) F R none [.agg [.sl false false a.length (ae bN a),.sl false false b.length (ae fC b),.sl false false c.length (ae (nM au) c),.sl false false d.length (ae ig d),.sl false false e.length (ae (eI .i64) e)],.int .i64 f]=(F ((ck.mk (gN.mk a b c) d e),f)).map fun r=>(R r,none):=cn _ _ _ ((ck.mk (gN.mk a b c) d e),f)
def zT:Env:=(Am.ext (Am.ext (Am.ext (Am.ext bf 78 false mu) 81 false pg) 82 false di) 83 false dj)
def O8:bI prog zT:=((((bI.none.add Cy false).add GW false).add lY false).add lZ false)
def b7:=ai @w<|ai @agf<|ai @mu.eq_1<|ai @sh4<|ai @pg.eq_1<|ai @agk<|ai @di.eq_1<|ai @agl<|ai @dj.eq_1<|@zT.eq_1
def QA:bZ prog 44 uM:=dT O8 func44 (by kernel_rfl) (fun _ _=>rfl) (fun _=>by kernel_rfl) ntmps44 results44 rfl fun⟨b,O⟩ r a=>by
 simp only[hZ]at a⊢;unfold uq at a;obtain⟨r1,ak,a⟩:=ah a;simp only[b7,seval,ak];apply sp an a<;>intro _ a
 ·cases a;simp only[b7,seval]
 ·simp only[b7,seval];obtain⟨o8,al,a⟩:=ah a;refine aA (fun s t H e=>match s with|(D,K)=>∃j:Nat,∃k:Nat,∃q:Nat,∃l:Nat,t 2=.ptr 2 j 0∧t 3=.ptr 3 k 0∧t 5=.buf 5 q 1 0 (K).length∧t 6=.buf 6 l 1 0 0∧t 19=.sl false false b.ay.aq.length (ae bN b.ay.aq)∧t 20=.int .i64 (b.ay.aq.length:Int)∧t 21=.int .i64 D∧H 2=some ⟨j,63,[.sl false false b.ay.aq.length (ae bN b.ay.aq),.sl false false b.ay.aO.length (ae fC b.ay.aO),.sl false false b.ay.aL.length (ae (nM au) b.ay.aL),.sl false false b.a8.length (ae ig b.a8),.sl false false b.aC.length (ae (eI .i64) b.aC)],false,false,false⟩∧H 3=some ⟨k,3,[.int .i64 O],false,false,false⟩∧H 5=some ⟨q,3,ae (eI .i64) K,false,true,false⟩∧H 6=some ⟨l,3,[],false,true,false⟩) (fun o x t H e=>match o with|d=>x=.exit 0∧∃f:Nat,∃g:Nat,∃h:Nat,∃i:Nat,t 2=.ptr 2 f 0∧t 3=.ptr 3 g 0∧t 5=.buf 5 h 1 0 (d).length∧t 6=.buf 6 i 1 0 0∧H 2=some ⟨f,63,[.sl false false b.ay.aq.length (ae bN b.ay.aq),.sl false false b.ay.aO.length (ae fC b.ay.aO),.sl false false b.ay.aL.length (ae (nM au) b.ay.aL),.sl false false b.a8.length (ae ig b.a8),.sl false false b.aC.length (ae (eI .i64) b.aC)],false,false,false⟩∧H 3=some ⟨g,3,[.int .i64 O],false,false,false⟩∧H 5=some ⟨h,3,ae (eI .i64) d,false,true,false⟩∧H 6=some ⟨i,3,[],false,true,false⟩) al ?_ ?_ ?_
  ·refine⟨0,0,2,2,?_,?_,?_,?_,?_,?_,?_,?_,?_,?_,?_⟩;all_goals (rfl)
  ·rintro⟨D,K⟩ t H e ⟨j,k,q,l,L⟩ c a;simp only[nf]at a;simp only[b7,seval,L];apply sp an a<;>intro _ a
   ·obtain⟨aq,P,a⟩:=ah a;have E:=bz bN P;simp only[bM]at E;simp only[b7,seval,L,E];apply sp an a<;>intro _ a
    ·obtain⟨ar,Q,a⟩:=ah a;obtain⟨R,F,S,T⟩:=iT (eI .i64) Q;simp only[bM]at F;cases a;simp only[b7,seval,L,R,F,S,T];apply iG;refine⟨j,k,e+1+1+1,l,?_⟩;and_intros<;>first|rfl|(simp only[b7,seval,L]<;>rfl)
    ·cases a;simp only[b7,seval,L];apply iG;refine⟨j,k,q,l,?_⟩;and_intros<;>first|rfl|(simp only[b7,seval,L]<;>rfl)
   ·cases a;simp only[b7,seval];apply jG;refine⟨rfl,⟨j,k,q,l,?_,?_,?_,?_,?_,?_,?_,?_⟩⟩;all_goals ((simp only[b7,seval,L]<;>rfl))
  ·rintro x t H e U;obtain⟨d,rfl⟩:∃z,z=o8:=⟨_,rfl⟩;dsimp only at U a;obtain⟨rfl,⟨f,g,h,i,V⟩⟩:=U;simp only[b7,seval,V];obtain⟨ao,W,a⟩:=ah a;refine aA (fun s t H e=>match s with|(G,M)=>∃m:Nat,∃n:Nat,∃p:Nat,∃u:Nat,t 2=.ptr 2 m 0∧t 3=.ptr 3 n 0∧t 5=.buf 5 p 1 0 (d).length∧t 6=.buf 6 u 1 0 (M).length∧t 36=.sl false false b.ay.aO.length (ae fC b.ay.aO)∧t 37=.int .i64 (b.ay.aO.length:Int)∧t 38=.int .i64 G∧H 2=some ⟨m,63,[.sl false false b.ay.aq.length (ae bN b.ay.aq),.sl false false b.ay.aO.length (ae fC b.ay.aO),.sl false false b.ay.aL.length (ae (nM au) b.ay.aL),.sl false false b.a8.length (ae ig b.a8),.sl false false b.aC.length (ae (eI .i64) b.aC)],false,false,false⟩∧H 3=some ⟨n,3,[.int .i64 O],false,false,false⟩∧H 5=some ⟨p,3,ae (eI .i64) d,false,true,false⟩∧H 6=some ⟨u,3,ae (eI .i64) M,false,true,false⟩) (fun o x t H e=>match o with|v=>x=.exit 2∧∃w:Nat,∃y:Nat,∃A:Nat,∃B:Nat,t 2=.ptr 2 w 0∧t 3=.ptr 3 y 0∧t 5=.buf 5 A 1 0 (d).length∧t 6=.buf 6 B 1 0 (v).length∧H 2=some ⟨w,63,[.sl false false b.ay.aq.length (ae bN b.ay.aq),.sl false false b.ay.aO.length (ae fC b.ay.aO),.sl false false b.ay.aL.length (ae (nM au) b.ay.aL),.sl false false b.a8.length (ae ig b.a8),.sl false false b.aC.length (ae (eI .i64) b.aC)],false,false,false⟩∧H 3=some ⟨y,3,[.int .i64 O],false,false,false⟩∧H 5=some ⟨A,3,ae (eI .i64) d,false,true,false⟩∧H 6=some ⟨B,3,ae (eI .i64) v,false,true,false⟩) W ?_ ?_ ?_
   ·refine⟨f,g,h,i,?_⟩;and_intros<;>first|rfl|(simp only[b7,seval,V]<;>rfl)
   ·rintro⟨G,M⟩ t H e ⟨m,n,p,u,N⟩ c a;simp only[ng]at a;simp only[b7,seval,N];apply sp an a<;>intro _ a
    ·obtain⟨av,X,a⟩:=ah a;have I:=bz fC X;simp only[bM]at I;simp only[b7,seval,N,I];apply sp an a<;>intro _ a
     ·obtain⟨aw,Y,a⟩:=ah a;obtain⟨Z,J,aa,ab⟩:=iT (eI .i64) Y;simp only[bM]at J;cases a;simp only[b7,seval,N,Z,J,aa,ab];apply iG;refine⟨m,n,p,e+1+1+1,?_⟩;and_intros<;>first|rfl|(simp only[b7,seval,N]<;>rfl)
     ·cases a;simp only[b7,seval,N];apply iG;refine⟨m,n,p,u,?_⟩;and_intros<;>first|rfl|(simp only[b7,seval,N]<;>rfl)
    ·cases a;simp only[b7,seval];apply jG;refine⟨rfl,⟨m,n,p,u,?_,?_,?_,?_,?_,?_,?_,?_⟩⟩;all_goals ((simp only[b7,seval,N]<;>rfl))
   ·rintro x t H e U;obtain⟨v,rfl⟩:∃z,z=ao:=⟨_,rfl⟩;dsimp only at U a;obtain⟨rfl,⟨w,y,A,B,C⟩⟩:=U;obtain⟨ax,ad,a⟩:=ah a;simp only[b7,seval,C,ad];apply sp fG a<;>intro _ a
    ·obtain⟨ay,ag,a⟩:=ah a;simp only[b7,seval,C,ag];apply sp fG a<;>intro _ a
     ·obtain⟨az,ai,a⟩:=ah a;simp only[b7,seval,C,ai];apply sp fG a<;>intro _ a
      ·obtain⟨aB,aj,a⟩:=ah a;cases a;simp only[b7,seval,C,aj]
      ·cases a;simp only[b7,seval]
     ·cases a;simp only[b7,seval]
    ·cases a;simp only[b7,seval]
def sN:=dN (dy (bJ sW)) (fun x:ct=>q9 x) (fun r:Int×Int =>.clean (.tup [.int .i64 r.1,.int .i64 r.2])) l d
def xi:Env:=(Am.ext (Am.ext bf 40 false ef) 44 false uM)
def L1:bI prog xi:=((bI.none.add kn false).add QA false)
def aM:=ai @w<|ai @sh9<|ai @ef.eq_1<|ai @agm<|ai @uM.eq_1<|@xi.eq_1
end Go.Proofs.YtokgehacmjmfkaaGreat.Am
