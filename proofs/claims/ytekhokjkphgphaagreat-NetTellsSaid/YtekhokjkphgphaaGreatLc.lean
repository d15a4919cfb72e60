import Derived.Test.YtekhokjkphgphaaGreatLb
set_option linter.unusedSimpArgs false
set_option linter.unusedVariables false
set_option linter.defProp false
noncomputable section
open Go.Proofs.Tryz
namespace Go.Proofs.YtekhokjkphgphaaGreat.Am
open Go.RowKit
def Hi (s:Nat):D->Bool
 | .nx n xs=>xs.length==n*s
 | d=>fD d
def pI (k o:Nat) (cs:List D):List D:=cs.mapIdx fun i d=>if o<=i∧i<o+k then Vs d else d
section
variable {P:Program} {T:Nat->Option Ty} {N:Nat} {M:Nat->Prop} {L:jM} {w0:World} {blk:Nat->Option (Nat×Nat)} {V:Nat->Nat->Prop} {t:Nat->D} {h:Nat->Option Row} {a:Act} {w:World} {e:Nat} {o:Oper} {Γ:Env}
def Vi (o:Nat) (cs:List D):pI 0 o cs=cs:=by
 unfold pI;apply ag2;intro i;rw[ahu];cases cs[i]? with
 | none=>rfl
 | some d=>simp only[Option.map_some];rw[if_neg (by omega)]
def xX (k o:Nat) (cs:List D) (i:Nat):(pI k o cs)[i]? = (cs[i]?).map fun d=>if o<=i∧i<o+k then Vs d else d:=by
 unfold pI;rw[ahu]
def Inv.aa0 (C:Inv N M L w0 blk V t (EH h) a w) {x:Nat} {r:Row} {ty s nv o:Nat} {cs:List D} (E:h x=some r) (v:r.mp=true) (y:r.cells=[.nr ty s nv cs]) (z:r.fz=false) (F:x<PK):∀k:Nat,((cs.drop o).take k).all (Hi s)=true ->
  Inv N M L w0 blk V t (EH (bY h x (some ⟨r.v,r.ty,[.nr ty s nv (pI k o cs)],false,r.lst,true⟩))) a w∧∀b,Own M (EH (bY h x (some ⟨r.v,r.ty,[.nr ty s nv (pI k o cs)],false,r.lst,true⟩))) blk b->Own M (EH h) blk b
 | 0,_=>by
  have:bY h x (some (⟨r.v,r.ty,[.nr ty s nv (pI 0 o cs)],false,r.lst,true⟩:Row))=h:=by
   funext k
   by_cases G:k=x
   ·rw[G,aA,Vi,E];cases r;simp only at v y z;rw[v,y,z]
   ·rw[aC _ _ G]
  rw[this];exact⟨C,fun _ h=>h⟩
 | k+1,c=>by
  have j:((cs.drop o).take k).all (Hi s)=true:=by
   rw[ae7]at c ⊢;intro d O;obtain⟨i,g⟩:=afi O;refine c d (afo (i:=i) ?_);rw[afc]at g ⊢;split at g
   ·rw[if_pos (by omega)];exact g
   ·cases g
  obtain⟨H,h2⟩:=C.aa0 E v y z F k j;have l:(∀n xs,cs[o+k]?≠some (.nx n xs))->pI (k+1) o cs=pI k o cs:=by
   intro P;apply ag2;intro i;rw[xX,xX];cases m:cs[i]? with
   | none=>rfl
   | some d =>
    simp only[Option.map_some,ae5]
    by_cases hik:i=o+k
    ·subst hik;rw[if_pos (by omega),if_neg (by omega)];cases d<;>first|rfl|exact absurd m (P _ _)
    ·by_cases f:o<=i∧i<o+k
     ·rw[if_pos f,if_pos (by omega)]
     ·rw[if_neg f,if_neg (by omega)]
  by_cases hnx:∃n xs,cs[o+k]? = some (.nx n xs)
  rotate_left
  ·rw[l fun n xs h=>hnx ⟨n,xs,h⟩];exact⟨H,h2⟩
  obtain⟨n,xs,hnx⟩:=hnx;have p:xs.length=n*s:=by
   have:=ae7.1 c (.nx n xs) (afo (i:=k) (by rw[afc,if_pos (by omega),afd];exact hnx));simpa [Hi] using this
  have q:pI (k+1) o cs=(pI k o cs).set (o+k) (.sl false false n xs):=by
   have A:=(afp.1 hnx).1;apply ag2;intro i;rw[xX]
   by_cases hik:i=o+k
   ·subst hik;rw[ahv (by simpa [pI] using A),hnx];simp only[Option.map_some];rw[if_pos (by omega)];rfl
   ·rw[ahw (fun e=>hik e.symm),xX];cases m:cs[i]? with
    | none=>rfl
    | some d =>
     simp only[Option.map_some,ae5]
     by_cases f:o<=i∧i<o+k
     ·rw[if_pos f,if_pos (by omega)]
     ·rw[if_neg f,if_neg (by omega)]
  have Q:(pI k o cs)[o+k]? = some (.nx n xs):=by
   rw[xX,hnx];simp only[Option.map_some];rw[if_neg (by omega)]
  obtain⟨I,J⟩:=H.aaY (x:=x) (aA _ _ _) rfl rfl rfl F Q p;have u:∀(K B:Option Row),bY (bY h x K) x B=bY h x B:=by
   intro K B;funext i
   by_cases g:i=x
   ·rw[g,aA,aA]
   ·rw[aC _ _ g,aC _ _ g,aC _ _ g]
  rw[u,<- q]at I J;exact⟨I,fun b R=>h2 b (J b R)⟩
def V6 (x:Nat) (r:Row) (ty s o k:Nat):Option Nat->Option (D×List D)->Option cd
 | some b,some (d,a)=>if ((a.drop o).take k).all (Hi s)=true then some ⟨d,[(x,some ⟨r.v,r.ty,[.nr ty s b (pI k o a)],false,r.lst,true⟩)]⟩ else none
 | _,_=>none
def V5 (e x:Nat) (r:Row) (ty s nv:Nat) (cs:List D) (o:Nat):Option (Nat×(Nat->Nat->Nat->Nat->List D->List D->Option (D×List D)))->Option (List D×List Nat)->Option cd
 | some p,some (aeS,[])=>V6 x r ty s o p.1 (bump nv e) (p.2 r.ty ty s o cs aeS)
 | _,_=>none
def yj (Γ:Env) (e:Nat) (h:Nat->Option Row) (g:Nat):List D->Option cd
 | .ptr x v o::rest =>
  match gx h x v with
  | some (r,ty,s,nv,cs)=>V5 e x r ty s nv cs o (Γ.nx.lnd g) (bX (EH h) rest)
  | none=>none
 | _=>none
def uu {g:Nat} {i:List D} {E:cd} (a:yj Γ e h g i=some E):∃x v o rest r ty s nv cs p c f d b,i=.ptr x v o::rest∧gx h x v=some (r,ty,s,nv,cs)∧Γ.nx.lnd g=some p∧bX (EH h) rest=some (c,[])∧bump nv e=some f∧p.2 r.ty ty s o cs c=some (d,b) ∧
  ((b.drop o).take p.1).all (Hi s)=true∧E=⟨d,[(x,some ⟨r.v,r.ty,[.nr ty s f (pI p.1 o b)],false,r.lst,true⟩)]⟩:=by
 unfold yj at a;split at a<;>try (cases a;done)
 rename_i x v o rest;split at a<;>try (cases a;done)
 rename_i r ty s nv cs l;unfold V5 at a;split at a<;>try (cases a;done)
 rename_i p c m k;unfold V6 at a;split at a<;>try (cases a;done)
 rename_i f d b n q;split at a<;>try (cases a;done)
 rename_i j;exact⟨x,v,o,rest,r,ty,s,nv,cs,p,c,f,d,b,rfl,l,m,k,n,q,j,by simpa using a.symm⟩
def V7 (hΓ:bG P Γ) (hI:Inv N M L w0 blk V t (EH h) a w) (Q:Yo V h e) {g:Nat} {dst:Option Nat} {l:List D} {vs:Array Value} {E:cd} (hE:yj Γ e h g l=some E) (B:vs.size=l.length)
  (hr:∀(j:Nat) d,l[j]? = some d->RT w (Own M (EH h) blk) (EH h) blk V d (vs.getD j undef)):eW P g∧Calls P g vs w fun e' w'=>∃v,e'=.returned v∧jK N M L w0 V t h a e dst E v w':=by
 obtain⟨x,v,o,rest,r,ty,s,nv,cs,p,R,S,d,ah,rfl,hl,hp,T,hb,hs,C,rfl⟩:=uu hE;obtain⟨y,hv,U,z,c,A⟩:=iD hl;obtain⟨W,m⟩:=hΓ.lnd g p hp;refine⟨W,?_⟩;have h0:=hr 0 _ rfl;have X:=fJ y z A c;obtain⟨Y,F,Z⟩:=h0.2 _ X hv;have aa:vs = #[.pointer (some ⟨Y.1,Y.2+o,none⟩)]++vs.extract 1 vs.size:=by
  have h1:0<vs.size:=by rw[B];simp
  rw[<- Z];apply Array.ext
  ·simp;omega
  ·intro i h1 h2;cases i with
   | zero=>simp[af7 h1]
   | succ i=>simp[af9];congr 1;omega
 have G:(vs.extract 1 vs.size).size=rest.length:=by simp at B ⊢;omega
 have ab:∀(j:Nat) d,rest[j]? = some d->RT w (Own M (EH h) blk) (EH h) blk V d ((vs.extract 1 vs.size).getD j undef):=by
  intro j d hj;have:=hr (j+1) d (by simpa using hj);have e1:(vs.extract 1 vs.size).getD j undef=vs.getD (j+1) undef:=by
   simp only[ae1];congr 1;rw[Array.getElem?_extract];split
   ·congr 1;omega
   ·rename_i K;rw[Array.getElem?_eq_none (by omega)]
  rw[e1];exact this
 obtain⟨M',n⟩:∃M':Nat->Prop,∀b,M' b↔Own M (EH h) blk b∧¬InX blk h x b:=⟨_,fun _=>Iff.rfl⟩;have hInX:∀b,InX blk h x b->Own M (EH h) blk b:=by
  rintro b ⟨k,r',g',q0,q1,q2,q3⟩;refine .inr ⟨k,r',g',q1,?_,q2,q3⟩;rcases eD y z A c q0 q1 with⟨_,rfl⟩|⟨_,_,_,_,_,rfl⟩<;>exact U
 have q:=J0 (blk:=blk) y z A c;have hQ:∀b,(M' b∨xl (rO blk x) (EH (oa (jy r.ty ty s 0 cs))) b)->Own M (EH h) blk b:=fun b hb=>hb.elim (fun hb=>((n b).1 hb).1) (fun hb=>hInX b ((q b).1 hb));have f:=hI.DW T ⟨fun b h=>h,fun x y=>by cases y⟩ G ab;have hA:zB w (fun b=>M' b∨xl (rO blk x) (EH (oa (jy r.ty ty s 0 cs))) b) R (vs.extract 1 vs.size):=⟨f.1,fun j d hj=>(f.2 j d hj).less hQ,fun b hb=>(f.tab b hb).less hQ⟩;rw[aa];refine (m _ _ _ _ _ _ _ _ hs w M' (rO blk x) _ _ Y _ rfl rfl (fun b hb=>hI.zk ((n b).1 hb).1) (fun b hb ad=>((n b).1 ad).2 ((q b).1 hb)) (by rw[rO,sZ];exact F) (hI.aa5 y z A U c hQ) hA).mono fun e' w' hg =>?_;obtain⟨u,H,he,hbey,q0,ae,I,qR,ag⟩:=hg;refine⟨u,he,pC blk H x,?_⟩;obtain⟨k1,k2⟩:=hI.back y z A U c (Q x r ty s nv cs S y z A c hb) F rfl n ⟨hbey.os,hbey.tape,hbey.output,hbey.size,fun k hk hn=>hbey.block k hk fun K=>hn ((q k).1 K)⟩ q0 ae (fun b hb=>(I b hb).imp id fun K=>(q b).1 K) qR;obtain⟨k3,k4⟩:=k1.aa0 (x:=x) (o:=o) (aA _ _ _) rfl rfl rfl c p.1 C;have J:∀(r1 r2:Option Row),bY (bY h x r1) x r2=bY h x r2:=by
  intro r1 r2;funext i
  by_cases O:i=x
  ·rw[O,aA,aA]
  ·rw[aC _ _ O,aC _ _ O,aC _ _ O]
 rw[J]at k3 k4;exact⟨k3.weaken fun _ _ h =>.inl h,bQ (ag.less fun b hb=>k2 b (k4 b hb))⟩
end
def PQ:D->D->Option D
 | .nx _ _,.sl true true 0 []=>some (.nx 0 [])
 | .nx _ _,_=>none
 | _,d=>if fD d=true then some (canon d) else none
def tN:List D->List D->Option (List D)
 | [],[]=>some []
 | c::cs,x::xs =>
  match PQ c x,tN cs xs with
  | some y,some a=>some (y::a)
  | _,_=>none
 | _,_=>none
def stZ (x:Nat) (r:Row) (ty s:Nat):Option Nat->Option (List D)->Option cd
 | some a,some cs'=>some ⟨.und,[(x,some ⟨r.v,r.ty,[.nr ty s a cs'],false,r.lst,true⟩)]⟩
 | _,_=>none
def Rx (n e x:Nat) (r:Row) (ty s nv:Nat) (cs:List D):D->Option cd
 | .agg xs=>if xs.length=n then stZ x r ty s (bump nv e) (tN cs xs) else none
 | _=>none
def qX (τ:Ty) (e:Nat) (h:Nat->Option Row) (p d:D):Option cd :=
 match p with
 | .ptr x v o =>
  match gx h x v with
  | some (r,ty,s,nv,cs)=>if r.lst=false∧o=0∧cs.length=τ.size then Rx τ.size e x r ty s nv cs d else none
  | none=>none
 | _=>none
def Q0 (x:Nat) (r:Row) (ty s nv:Nat) (cs:List D):Option D->Option cd
 | some d=>some ⟨d,[(x,some ⟨r.v,r.ty,[.nr ty s nv cs],false,r.lst,true⟩)]⟩
 | none=>none
def qT (τ:Ty) (h:Nat->Option Row):D->Option cd
 | .ptr x v o =>
  match gx h x v with
  | some (r,ty,s,nv,cs)=>if r.lst=false∧o=0∧cs.length=τ.size∧1<τ.size∧cs.all (Hi s)=true then Q0 x r ty s nv (pI τ.size 0 cs) (j0 τ (cs.map Vs)) else none
  | none=>none
 | _=>none
def Yk:Option cd->Option cd->Option cd
 | some E,_=>some E
 | none,y=>y
def vW (τ:Ty) (h:Nat->Option Row) (p:D):Option cd:=Yk (qT τ h p) (qU τ h p)
def vY (τ:Ty) (e:Nat) (h:Nat->Option Row) (p d:D):Option cd:=Yk (qX τ e h p d) (nP τ e h p d)
def PR:∀ {cs xs ys:List D},tN cs xs=some ys->ys.length=cs.length∧xs.length=cs.length∧∀(j:Nat) c x,cs[j]? = some c->xs[j]? = some x->∃y,ys[j]? = some y∧PQ c x=some y
 | [],[],ys,h=>by simp only[tN,ae5]at h;subst h;exact⟨rfl,rfl,fun j c x a=>by simp at a⟩
 | c::cs,x::xs,ys,h=>by
  simp only[tN]at h;split at h
  ·rename_i y d e f;simp only[ae5]at h;subst h;obtain⟨g,i,k⟩:=PR f;refine⟨by simp[g],by simp[i],fun j l m a b =>?_⟩;cases j with
   | zero =>
    simp only[List.getElem?_cons_zero,ae5]at a b ⊢;subst a b;exact⟨y,rfl,e⟩
   | succ j=>exact k j l m (by simpa using a) (by simpa using b)
  ·cases h
 | [],x::xs,ys,h=>by simp[tN]at h
 | c::cs,[],ys,h=>by simp[tN]at h
def GW {c x y:D} (h:PQ c x=some y):(x=.sl true true 0 []∧y=.nx 0 [])∨(fD x=true∧y=canon x):=by
 unfold PQ at h;split at h
 ·simp only[ae5]at h;exact .inl ⟨rfl,h.symm⟩
 ·cases h
 ·split at h
  ·rename_i a;simp only[ae5]at h;exact .inr ⟨a,h.symm⟩
  ·cases h
section
variable {P:Program} {T:Nat->Option Ty} {N:Nat} {M:Nat->Prop} {L:jM} {w0:World} {blk:Nat->Option (Nat×Nat)} {V:Nat->Nat->Prop} {t:Nat->D} {h:Nat->Option Row} {a:Act} {w:World} {e:Nat} {o:Oper} {Γ:Env}
def Ww (x:Nat):Dj (EH h) (fun k=>if rt k=x∧k≠x then none else EH h k):=by
 intro k b a;simp only at a;split at a
 ·cases a
 ·exact⟨b,a,.refl _⟩
open Classical in
def Wu (hT:iI P T) (hI:Inv N M L w0 blk V t (EH h) a w) (aB:Yo V h e) {ty:Nat} {p x:Operand} {τ:Ty} {E:cd} (ho:o.op=.store ty p x) (hτ:T ty=some τ) (B:qX τ e h (ev t p) (ev t x)=some E):dZ P o a w (jK N M L w0 V t h a e o.dst E):=by
 have hp:=hI.ev p;have hq:=hI.ev x;have aO:=hI.big;have aP:=cQ;generalize ev t p=pd at *;generalize ev t x=d at *;unfold qX at B;split at B<;>try (cases B;done)
 rename_i y v c0;split at B<;>try (cases B;done)
 rename_i r J s nv cs hl;obtain⟨hx,hv,hz,hm,n,hc⟩:=iD hl;have ab:=fJ hx hm hc n;obtain⟨g,hg,al⟩:=hp.2 _ ab hv;split at B<;>try (cases B;done)
 rename_i ad;obtain⟨_,rfl,aQ⟩:=ad;unfold Rx at B;split at B<;>try (cases B;done)
 rename_i xs;split at B<;>try (cases B;done)
 rename_i aD;unfold stZ at B;split at B<;>try (cases B;done)
 rename_i K C hb aE;simp only[ae5]at B;subst B;obtain⟨z1,z2,z3⟩:=PR aE;have an:RP w (Own M (EH h) blk) (.agg xs) (a.eval x):=hq;obtain⟨m,aF,aG,ao⟩:∃m:List Value,a.eval x=.agg m.toArray∧m.length=xs.length∧∀j x,xs[j]? = some x->RP w (Own M (EH h) blk) x (m.getD j undef):=by
  generalize a.eval x=u at an;cases an with
  | agg xs m h1 h2 h3=>exact⟨m,rfl,h1,h2⟩
 have aH:∀(j:Nat) x,xs[j]? = some x->fD x=true:=by
  intro j x f;have Y:=(afp.1 f).1;obtain⟨y',_,k2⟩:=z3 j _ x (ae9 (by omega)) f;rcases GW k2 with⟨rfl,_⟩|⟨k3,_⟩
  ·rfl
  ·exact k3
 have aq:∀u∈m,u.oneCell'=true:=by
  intro u hu;obtain⟨j,f⟩:=afi hu;have Y:=(afp.1 f).1;have O:=ae9 (l:=xs) (i:=j) (by omega);have:=ao j _ O;have X:m.getD j undef=u:=by simp[List.getD,f]
  rw[X]at this;exact this.sj (fa (aH j _ O)).1
 obtain⟨z,k1,k2,k3⟩:=hI.Cx hx hm hc n hg;have Q:=run_storeCells_at P g.1 (g.2+0) r.ty m 0 z w k1 (by omega) aq;rw[afw]at Q;have ar:(z.toList.take g.2++m++z.toList.drop (g.2+m.length)).toArray.size=z.size:=by simp;omega
 have R:∀j,j<cs.length->(z.toList.take g.2++m++z.toList.drop (g.2+m.length)).toArray.getD (g.2+j) undef=m.getD j undef:=by
  intro j f;have:=sH z m g.2 (g.2+j) (by omega);rw[this,if_neg (by omega),if_pos (by omega)];congr 1;omega
 generalize aR:(z.toList.take g.2++m++z.toList.drop (g.2+m.length)).toArray=arr' at Q ar R;obtain⟨G,au,hheap⟩:=Av (g:=g) (arr':=arr') k1;have av:Own M (EH h) blk g.1 := .inr ⟨y,_,g,ab,hz,hg,rfl⟩;have hK:∀o,NK y o≠y∧2*PK<=NK y o:=fun o=>by have:=e9 y o;omega
 have ae:=Ww (h:=h) y;have hA:=hI.le ae;generalize ag:(fun k=>if rt k=y∧k≠y then none else EH h k)=h1 at hA ae;have aI:h1 y=some ⟨r.v,r.ty,cs.mapIdx (rP y s),r.fz,r.lst,true⟩:=by
  rw[<- ag];simp only[ne_eq,not_true_eq_false,and_false,if_false];exact ab
 have ah:∀o,h1 (NK y o)=none:=fun o=>by
  rw[<- ag];simp only;rw[if_pos ⟨vf n,(hK o).1⟩]
 have aw:∀k,rt k≠y->h1 k=EH h k:=fun k hk=>by
  rw[<- ag];simp only;rw[if_neg (fun hh=>hk hh.1)]
 have aa:∀(j:Nat) d,C[j]? = some d->(d=.nx 0 []∧m.getD j undef=.slice none 0 0)∨(fD d=true∧RP w (Own M (EH h) blk) d (m.getD j undef)):=by
  intro j d f;have Y:=(afp.1 f).1;have O:=ae9 (l:=xs) (i:=j) (by omega);obtain⟨y',q1,q2⟩:=z3 j _ _ (ae9 (by omega)) O;rw[f]at q1;cases q1;have hr:=ao j _ O;rcases GW q2 with⟨X,rfl⟩|⟨X,rfl⟩
  ·refine .inl ⟨rfl,?_⟩;rw[X]at hr;generalize m.getD j undef=u at hr;cases hr with
   | sl A c _ _ _ _ aS g1 g2 g3 g4 g5 g6 g7 g8 =>
    obtain⟨rfl,rfl⟩:=(g3 rfl).1 rfl;rfl
  ·refine .inr ⟨?_,hr.canon⟩;generalize xs[j]=q at X;cases q<;>first|rfl|cases X
 have ai:∀ {d:D} {u:Value},RP w (Own M (EH h) blk) d u->RP (w.setRow g.1 arr') (Own M h1 blk) d u:=fun hr=>hr.keep fun b q1 q2=>⟨by rw[au];exact q1,BG ae q2,hheap b (fun e=>q2 (e ▸ av))⟩;have hB:=hA.kg (x:=y) (r0:=⟨r.v,r.ty,C.mapIdx (rP y s),false,r.lst,true⟩) (w':=w.setRow g.1 arr') aI hz rfl rfl rfl rfl (by rw[au];exact aeX _) (fun b _ hb=>hheap b (hb g hg)) (by
  rw[hg];refine⟨by simp[World.shape?,G,k1,ar],.inr ⟨fun d hd =>?_,arr',G,by simp only[aht];omega,fun j d f =>?_⟩⟩
  ·obtain⟨j,f⟩:=afi hd;simp only[ahu,aeV]at f;obtain⟨d0,_,rfl⟩:=f;exact lP _ _ _ _
  ·simp only[ahu,aeV]at f;obtain⟨d0,F,rfl⟩:=f;have Y:=(afp.1 F).1;rw[R j (by omega)];rcases aa j d0 F with⟨rfl,_⟩|⟨q1,q2⟩
   ·trivial
   ·rw[kh q1];exact (fa q1).2.2.2 (ai q2)) (fun hh=>by cases hh) (fun _ g' ax j x' s' n' f=>by
  rw[hg]at ax;cases ax;simp only[ahu,aeV]at f;obtain⟨d0,F,he⟩:=f;obtain⟨aT,rfl,rfl,rfl⟩:=rG he;have Y:=(afp.1 F).1;exact⟨⟨n,.inr rfl⟩,_,bd G (by omega),fun r1 ay=>by rw[ah]at ay;cases ay⟩)
 obtain⟨S,hS⟩:∃S:Nat->Prop,∀k,S k↔∃o xs,k=NK y o∧C[o]? = some (.nx 0 xs):=⟨_,fun _=>Iff.rfl⟩;have U:∀(j n':Nat) (xs:List D),C[j]? = some (.nx n' xs)->n'=0∧xs=[]∧m.getD j undef=.slice none 0 0:=by
  intro j n' xs f;rcases aa j _ f with⟨X,e2⟩|⟨X,_⟩
  ·cases X;exact⟨rfl,rfl,e2⟩
  ·cases X
 have aj:bY h y (some (⟨r.v,r.ty,[.nr J s K C],false,r.lst,true⟩:Row)) y=some ⟨r.v,r.ty,[.nr J s K C],false,r.lst,true⟩:=aA _ _ _;have hC:=hB.addEmpty S J K (h':=EH (bY h y (some ⟨r.v,r.ty,[.nr J s K C],false,r.lst,true⟩))) (blk':=fun k=>if S k then none else blk k) (fun k hk=>by
   obtain⟨H,xs,rfl,Z⟩:=(hS k).1 hk;have:=hK H;exact⟨by omega,by omega,aB y r J s nv cs K hx hm hc n hb H,by rw[aC _ _ (hK H).1,ah]⟩) (fun k hk=>by
   refine⟨?_,by rw[if_pos hk]⟩;obtain⟨H,xs,rfl,Z⟩:=(hS k).1 hk;rw[eL aj rfl rfl n,Z];obtain⟨_,rfl,_⟩:=U H 0 xs Z;rfl) (fun k hk=>by
   refine⟨?_,by rw[if_neg hk]⟩
   by_cases hkd:rt k=y
   ·rcases pF hkd with rfl|⟨H,rfl⟩
    ·rw[aA,fJ aj rfl rfl n]
    ·rw[aC _ _ (hK H).1,ah,eL aj rfl rfl n];cases az:C[H]? with
     | none=>rfl
     | some d0 =>
      cases d0 with
      | nx n' xs =>
       obtain⟨rfl,_,_⟩:=U H n' xs az;exact absurd ((hS _).2 ⟨H,xs,rfl,az⟩) hk
      | _=>rfl
   ·rw[aC _ _ (fun e=>hkd (by rw[e,ig (by omega)])),aw k hkd];exact ec (by rw[aC _ _ hkd])) (fun y1 r1 g1 hy aJ ak j x' s' n' f hs=>by
   obtain⟨H,xs,rfl,Z⟩:=(hS _).1 hs;obtain⟨⟨p1,p2⟩,u,p3,_⟩:=hB.pha y1 r1 g1 hy aJ ak j _ s' n' f;rcases p2 with p2|p2
   ·have:=e9 y H;omega
   obtain⟨rfl,rfl⟩:=uc n p1 p2;rw[aA]at hy;rw[hg]at ak;cases hy;cases ak;simp only[ahu,aeV]at f;obtain⟨d0,F,he⟩:=f;obtain⟨aK,rfl,_,rfl⟩:=rG he;obtain⟨aL,_,aM⟩:=U H n' aK F;have aU:=(afp.1 F).1;refine⟨_,bd G (by omega),aL,none,?_⟩;rw[R H (by omega)];exact aM)
 refine .inr (.inl ⟨w.setRow g.1 arr',?_,fun k=>if S k then none else blk k,?_,trivial⟩)
 ·have I:(a.eval x).cells.toList=m:=by rw[aF];rfl
  have aN:(a.eval x).cells.size=τ.size:=by rw[<- aD,<- aG,<- I];simp
  have W:(storeCells ⟨g.1,g.2+0,none⟩ (a.eval x).cells.toList 0).run P w=.ok () (w.setRow g.1 arr'):=by rw[I];exact Q
  rw[afw]at W al;simp[execOp,ho,Instr.storeAt,Instr.sureAddr,al,storeVar,run_sizeOf (hT ty τ hτ),aN,W]
 ·exact hC.weaken fun _ _ h =>.inl h
open Classical in
def Wq (hT:iI P T) (hI:Inv N M L w0 blk V t (EH h) a w) {ty d Q s f:Nat} {τ:Ty} {E:cd} (ho:o.op=.alloc ty) (hd:o.dst=some d) (hV:js N V d e) (ad:∀o,¬V (NK d o) (4*e+2)) (hτ:T ty=some τ)
  (hE:YR τ ty e d Q s f=some E):dZ P o a w (jK N M L w0 V t h a e o.dst E):=by
 have al:=hI.big;have an:=cQ;unfold YR at hE;split at hE<;>try (cases hE;done)
 rename_i R;obtain⟨c4,c5,c6,l,U⟩:=R;simp only[ae5]at hE;subst hE;obtain⟨z,ae,ag⟩:=jJ (hT ty τ hτ) w;have ao:(τ.zero.map oF).length=τ.size:=by rw[afq,c6]
 have hf:f<τ.size:=by
  rw[ahs]at U;rcases afE f τ.size with W|aq
  ·exact W
  ·rw[agx (by omega)]at U;cases U
 have aa:(τ.zero.map oF)[f]? = some (.sl true true 0 []):=by
  rw[ahs]at U;unfold Xk at U;split at U
  ·assumption
  ·cases U
 have ah:(np τ f).length=τ.size:=by
  unfold np;rw[ka (by simp;omega)];simp[c6]
 have A:∀(m:Nat) (x:D),(np τ f)[m]? = some x->(m=f∧x=.nx 0 [])∨(m≠f∧∃y,(τ.zero.map oF)[m]? = some y∧x=canon y):=by
  intro m x F;unfold np at F
  by_cases X:m=f
  ·subst X;rw[fG (by simp;omega)]at F;exact .inl ⟨rfl,by simpa using F.symm⟩
  ·rw[gV (by simp;omega) X,aeU,aeV]at F;obtain⟨y,h1,h2⟩:=F;exact .inr ⟨X,y,h1,h2.symm⟩
 obtain⟨vs,G⟩:∃vs:Array Value,vs=τ.zero.toArray:=⟨_,rfl⟩;have ar:vs.size=τ.size:=by rw[G];simpa using c6
 have O:∀(M':Nat->Prop) (w':World) (j:Nat) (x:D),(np τ f)[j]? = some x->fD x=true->RP w' M' x (vs.getD j undef):=by
  intro M' w' j x c ai;rw[G];rcases A _ x c with⟨_,rfl⟩|⟨_,y,h1,rfl⟩
  ·cases ai
  ·exact (rK (w:=w') (M:=M') τ.zero (ae7.2 fun y Y=>(fa (ae7.1 c5 y Y)).1) _ y h1).2.canon
 have p:∀(j:Nat) (n':Nat) (xs:List D),(np τ f)[j]? = some (.nx n' xs)->n'=0∧xs=[]∧vs.getD j undef=.slice none 0 0:=by
  intro j n' xs c;rcases A _ _ c with⟨F,q⟩|⟨_,y,h1,q⟩
  ·simp only[D.nx.injEq]at q;refine⟨q.1,q.2,?_⟩;rw[G,F];rw[aeU,aeV]at aa;obtain⟨v,v1,v2⟩:=aa;simp only[ae1,List.getElem?_toArray,v1,Option.getD_some];exact Tl v2
  ·have:=ae7.1 c5 y (afo h1);cases y<;>first|(cases q;done)|(cases this;done)
 generalize np τ f=cs at ah A O p;have hA:=hI.le (zS (h:=h) d l);have hold:∀b,b<w.heap.size->(w.alloc (.cells vs ty)).heap[b]? = w.heap[b]?:=fun b hb=>Below.heap_alloc w _ b hb;have H:=(Below.refl w.heap.size w).alloc (aeX _) (.cells vs ty);have B:=heap_alloc_new w (.cells vs ty);have Z:∀o,EH (bY h d none) (NK d o)=none:=fun o=>by rw[s8 l,aA];rfl
 have C:∀o,NK d o≠d:=fun o=>by have:=e9 d o;omega
 have hB:=hA.DU (w':=w.alloc (.cells vs ty)) (h1:=EH (bY h d none)) (old:=none) (d:=d) (e:=e) (r0:=⟨e,ty,cs.mapIdx (rP d s),false,false,true⟩) (go:=some (w.heap.size,0)) H.os H.tape H.output H.size (fun k I _=>hold k I) (fun y Y=>by cases Y) rfl hV
  ⟨.inl (aeX _),.inr ⟨fun x hx=>by
   obtain⟨j,c⟩:=afi hx;simp only[ahu,aeV]at c;obtain⟨d0,n,rfl⟩:=c;exact lP _ _ _ _,vs,B,by simp only[aht];omega,fun j x c=>by
   simp only[ahu,aeV]at c;obtain⟨d0,n,rfl⟩:=c;rw[afH]
   by_cases J:fD d0=true
   ·rw[kh J];exact (fa J).2.2.2 (O _ _ j d0 n J)
   ·cases d0<;>first|trivial|exact absurd rfl J⟩⟩ rfl rfl (fun _ g hg j x s' n' c=>by
   cases hg;simp only[ahu,aeV]at c;obtain⟨d0,n,q⟩:=c;obtain⟨xs,rfl,rfl,rfl⟩:=rG q;have W:=(afp.1 n).1;refine⟨⟨l,.inr rfl⟩,_,bd B (by omega),fun r hr =>?_⟩;rw[aC _ _ (C j),Z]at hr;cases hr)
 obtain⟨S,hS⟩:∃S:Nat->Prop,∀k,S k↔∃o xs,k=NK d o∧cs[o]? = some (.nx 0 xs):=⟨_,fun _=>Iff.rfl⟩;have hC:=hB.addEmpty S Q (4*e+2) (h':=EH (bY h d (some ⟨e,ty,[.nr Q s (4*e+2) cs],false,false,true⟩))) (blk':=fun k=>if S k then none else bY blk d (some (w.heap.size,0)) k) (fun k I=>by
   obtain⟨i,xs,rfl,K⟩:=(hS k).1 I;have:=e9 d i;refine⟨by omega,by omega,?_,by rw[aC _ _ (C i),Z]⟩;rintro (hv|⟨q,_⟩)
   ·exact ad i hv
   ·exact C i q) (fun k I=>by
   refine⟨?_,by rw[if_pos I]⟩;obtain⟨i,xs,rfl,K⟩:=(hS k).1 I;rw[eL (aA _ _ _) rfl rfl l,K];obtain⟨_,rfl,_⟩:=p i 0 xs K;rfl) (fun k I=>by
   refine⟨?_,by rw[if_neg I]⟩
   by_cases hkd:rt k=d
   ·rcases pF hkd with rfl|⟨i,rfl⟩
    ·rw[aA,fJ (aA _ _ _) rfl rfl l]
    ·rw[aC _ _ (C i),Z,eL (aA _ _ _) rfl rfl l];cases ab:cs[i]? with
     | none=>rfl
     | some d0 =>
      cases d0 with
      | nx n' xs =>
       obtain⟨rfl,_,_⟩:=p i n' xs ab;exact absurd ((hS _).2 ⟨i,xs,rfl,ab⟩) I
      | _=>rfl
   ·rw[aC _ _ (fun e=>hkd (by rw[e,ig (by omega)]))];exact ec (by rw[aC _ _ hkd,aC _ _ hkd])) (fun y r g Y F hg j x s' n' c hs=>by
   obtain⟨i,xs,rfl,K⟩:=(hS _).1 hs;obtain⟨⟨p1,p2⟩,u,p3,_⟩:=hB.pha y r g Y F hg j _ s' n' c;rcases p2 with p2|p2
   ·have:=e9 d i;omega
   obtain⟨rfl,rfl⟩:=uc l p1 p2;rw[aA]at Y hg;cases Y;cases hg;simp only[ahu,aeV]at c;obtain⟨d0,n,q⟩:=c;obtain⟨aj,rfl,_,rfl⟩:=rG q;obtain⟨k1,_,k3⟩:=p i n' aj n;have W:=(afp.1 n).1;refine⟨_,bd B (by omega),k1,none,?_⟩;rw[afH];exact k3)
 have ak:¬S d:=fun hs=>by
  obtain⟨i,_,q,_⟩:=(hS d).1 hs;exact C i q.symm
 refine aN (v := .pointer (some ⟨w.heap.size,0,none⟩)) (w':=w.alloc (.cells vs ty)) ?_ ⟨fun k=>if S k then none else bY blk d (some (w.heap.size,0)) k,?_,?_⟩
 ·rw[G];simp[execOp,ho,Instr.alloc,ae,newVar,newRow,ag]
 ·refine hC.weaken fun x v hx =>?_;rcases hx with hx|⟨rfl,rfl⟩
  ·exact .inl hx
  ·exact .inr ⟨hd,rfl⟩
 ·exact⟨.inr ⟨hd,rfl⟩,fun r hr hv=>⟨(w.heap.size,0),by simp only;rw[if_neg ak,aA],rfl⟩⟩
def Wn (K:iI P T) (C:Inv N M L w0 blk V t (EH h) a w) {ty:Nat} {p:Operand} {τ:Ty} {E:cd} (O:o.op=.load ty p) (Q:T ty=some τ) (b:qT τ h (ev t p)=some E):dZ P o a w (jK N M L w0 V t h a e o.dst E):=by
 have R:=C.ev p;generalize S:ev t p=q at *;unfold qT at b;split at b<;>try (cases b;done)
 rename_i x v c;split at b<;>try (cases b;done)
 rename_i r f s nv cs U;obtain⟨D,W,X,F,i,G⟩:=iD U;have u:=fJ D F G i;obtain⟨g,Y,y⟩:=R.2 _ u W;split at b<;>try (cases b;done)
 rename_i k;obtain⟨_,rfl,Z,_,H⟩:=k;unfold Q0 at b;split at b<;>try (cases b;done)
 rename_i d hd;simp only[ae5]at b;subst b;obtain⟨I,_⟩:=C.aa0 (o:=0) D F G X i τ.size (by rw[agk,agj (by omega)];exact H);have z:bY h x (some (⟨r.v,r.ty,[.nr f s nv (pI τ.size 0 cs)],false,r.lst,true⟩:Row)) x=some ⟨r.v,r.ty,[.nr f s nv (pI τ.size 0 cs)],false,r.lst,true⟩:=aA _ _ _;have aa:(pI τ.size 0 cs).length=cs.length:=by simp[pI]
 have A:At w (Own M (EH (bY h x (some ⟨r.v,r.ty,[.nr f s nv (pI τ.size 0 cs)],false,r.lst,true⟩))) blk) g.1 (g.2+0) (cs.map Vs):=by
  intro j d1 J;rw[aeU,aeV]at J;obtain⟨d0,l,rfl⟩:=J;have B:=ae7.1 H d0 (afo l);have ab:=(afp.1 l).1;have m:fD (Vs d0)=true:=by
   cases d0<;>first|rfl|exact B
  have n:(pI τ.size 0 cs)[0+j]? = some (Vs d0):=by
   rw[afH,xX,l];simp only[Option.map_some];rw[if_pos (by omega)]
  obtain⟨ad,k1,k2,k3⟩:=I.Cx z rfl rfl i Y;have ae:=(afp.1 n).1;refine⟨(fa m).1,_,?_,k3 _ _ n m⟩;rw[afh];exact bd k1 (by omega)
 have:=rZ (e:=e) (o:=o) K I O Q y A (by rw[afq];exact Z) hd;exact this
end
def V2 (e d:Nat):Option (Nat×Nat×Nat×Nat×Nat×List D)->Option cd
 | some (ty,t,s,S,n,cs)=>if d<PK then some ⟨.buf d e S 0 n,[(d,some ⟨e,ty,[.nr t s (4*e+2) cs],false,true,true⟩)]⟩ else none
 | none=>none
def Sx (p:List D->Option (Nat×Nat×Nat×Nat×Nat×List D)) (e d:Nat):Option (List D×List Nat)->Option cd
 | some (aeS,[])=>V2 e d (p aeS)
 | _=>none
def yF {p:List D->Option (Nat×Nat×Nat×Nat×Nat×List D)} {e d:Nat} {c:Option (List D×List Nat)} {E:cd} (a:Sx p e d c=some E):∃b ty t s S n cs,c=some (b,[])∧p b=some (ty,t,s,S,n,cs)∧d<PK∧E=⟨.buf d e S 0 n,[(d,some ⟨e,ty,[.nr t s (4*e+2) cs],false,true,true⟩)]⟩:=by
 unfold Sx at a;split at a<;>try (cases a;done)
 rename_i b;unfold V2 at a;split at a<;>try (cases a;done)
 rename_i ty t s S n cs f;split at a<;>try (cases a;done)
 rename_i g;exact⟨b,ty,t,s,S,n,cs,rfl,f,g,by simpa using a.symm⟩
section
variable {P:Program} {T:Nat->Option Ty} {N:Nat} {M:Nat->Prop} {L:jM} {w0:World} {blk:Nat->Option (Nat×Nat)} {V:Nat->Nat->Prop} {t:Nat->D} {h:Nat->Option Row} {a:Act} {w:World} {e:Nat} {o:Oper} {Γ:Env}
def V3 (hΓ:bG P Γ) (hI:Inv N M L w0 blk V t (EH h) a w) {g d:Nat} {dst:Option Nat} {p:List D->Option (Nat×Nat×Nat×Nat×Nat×List D)} {I:List D} {vs:Array Value} {E:cd} (hd:dst=some d) (hV:js N V d e) (an:∀o',¬V (NK d o') (4*e+2)) (hp:Γ.nx.res g=some p)
  (hE:Sx p e d (bX (EH h) I)=some E) (ao:vs.size=I.length) (hr:∀(j:Nat) d,I[j]? = some d->RT w (Own M (EH h) blk) (EH h) blk V d (vs.getD j undef)):eW P g∧Calls P g vs w fun e' w'=>∃v,e'=.returned v∧jK N M L w0 V t h a e dst E v w':=by
 obtain⟨aG,ty,ti,s,S,n,cs,aq,hs,f,rfl⟩:=yF hE;obtain⟨ar,T⟩:=hΓ.res g p hp;refine⟨ar,?_⟩;have aa:=hI.DW aq ⟨fun b h=>h,fun x hx=>by cases hx⟩ ao hr;refine (T _ _ _ _ _ _ _ hs w (Own M (EH h) blk) _ vs rfl (fun b hb=>hI.zk hb) aa).mono fun e' w' r =>?_;obtain⟨u,c,q,hbel,aj,hR,hu⟩:=r;refine⟨u,q,pC blk c d,?_⟩;have hA:=hI.le (zS (h:=h) d f);generalize ab:bY h d (some (⟨e,ty,[.nr ti s (4*e+2) cs],false,true,true⟩:Row))=Q;have au:aW h [(d,some (⟨e,ty,[.nr ti s (4*e+2) cs],false,true,true⟩:Row))]=Q:=by rw[<- ab];rfl
 rw[au];have A:Q d=some ⟨e,ty,[.nr ti s (4*e+2) cs],false,true,true⟩:=by rw[<- ab,aA]
 have av:∀k,rt k=d->EH (bY h d none) k=none:=fun k i=>R5 (by rw[i,aA]);have X:∀k,rt k≠d->EH Q k=EH (bY h d none) k:=fun k i=>ec (by rw[<- ab,aC _ _ i,aC _ _ i]);have Y:∀k,rt k≠d->pC blk c d k=blk k:=fun k i=>if_neg i;have U:pC blk c d d=c 0:=by unfold pC;rw[if_pos (Aq f),vG]
 have ad:∀o,pC blk c d (NK d o)=c (NK 0 o):=fun o=>by unfold pC;rw[if_pos (vf f),lH f]
 have C:∀k z,rt k=d->EH Q k=some z->∃H,EH (oa (jy ty ti s 0 cs)) (G3 d k)=some H∧pC blk c d k=c (G3 d k):=by
  intro k z i q;have hq:pC blk c d k=c (G3 d k):=if_pos i;rcases eD A rfl rfl f i q with⟨rfl,_⟩|⟨o,n,xs,rfl,ho,_⟩
  ·rw[vG]at hq ⊢;exact⟨_,wU,hq⟩
  ·rw[lH f]at hq ⊢;exact⟨_,uY ho,hq⟩
 have Z:∀b,Own M (EH Q) (pC blk c d) b->Own M (EH h) blk b∨xl c (EH (oa (jy ty ti s 0 cs))) b:=by
  intro b ae;rcases ae with ae|⟨k,z,g,i,aw,r,q⟩
  ·exact .inl (.inl ae)
  ·by_cases W:rt k=d
   ·obtain⟨H,q1,q2⟩:=C k z W i;exact .inr ⟨_,H,g,q1,by rw[<- q2];exact r,q⟩
   ·rw[X k W]at i;rw[Y k W]at r;refine .inl (.inr ⟨k,z,g,?_,aw,r,q⟩);rw[<- i];exact ec (by rw[aC _ _ W])
 have ak:∀ {g:Nat×Nat} {H:Row},H.mp=false->dV w' (fun b=>Own M (EH h) blk b∨xl c (EH (oa (jy ty ti s 0 cs))) b) g H->dV w' (Own M (EH Q) (pC blk c d)) g H:=by
  intro g H ax hr;unfold dV at hr ⊢;rw[ax]at hr ⊢;obtain⟨J,R,k2,k3⟩:=hr;exact⟨J,R,k2,fun j d B=>⟨(k3 j d B).1,(k3 j d B).2.less Z⟩⟩
 have F:∀k z,rt k=d->EH Q k=some z->∀g,pC blk c d k=some g->w.heap.size<=g.1:=by
  intro k z i q g r;obtain⟨H,q1,q2⟩:=C k z i q;exact aj g.1 ⟨_,H,g,q1,by rw[<- q2];exact r,rfl⟩
 have al:Inv N M L w0 (pC blk c d) (fun y v=>V y v∨(y=d∧v=e)) t (EH Q) a w':=by
  refine hA.aau (fun k=>rt k=d) (fun _ _ h =>.inl h) hbel.os hbel.tape hbel.output hbel.size (fun k i _=>hbel.block k i) (fun k z i q=>by rw[av k i]at q;cases q) (fun k i=>⟨X k i,Y k i⟩) ?_ ?_ ?_ ?_ ?_
  ·intro k z i q;rcases eD A rfl rfl f i q with⟨rfl,rfl⟩|⟨o,n,xs,rfl,ho,rfl⟩
   ·refine⟨rfl,fun hn =>.inr ⟨rfl,rfl⟩,?_⟩;rw[U];have m:=hR.rows 0 _ wU;cases r:c 0 with
    | none =>
     rw[r]at m;have h1:cs.mapIdx (rP 0 s)=[]:=m;have Q:cs.length=0:=by
      have:=congrArg List.length h1;simpa using this
     show cs.mapIdx (rP k s)=[];rw[aga Q];rfl
    | some g0 =>
     rw[r]at m;have m:dV w' (fun b=>Own M (EH h) blk b∨xl c (EH (oa (jy ty ti s 0 cs))) b) g0 ⟨0,ty,cs.mapIdx (rP 0 s),false,true,true⟩:=m;refine⟨.inl (F k _ i q g0 (U.trans r)),?_⟩;unfold dV at m ⊢;simp only at m ⊢;rcases m with⟨ks,vs,R,_⟩|⟨_,J,k2,k3,k4⟩
     ·exfalso;simp only at R;have hl:cs.length=1:=by
       have:=congrArg List.length R;simpa using this
      match cs,hl with
      | [d],_ =>
       simp only[List.mapIdx_cons,List.mapIdx_nil,afk,and_true]at R;have:=lP 0 s 0 d;rw[R]at this;cases this
     ·refine .inr ⟨fun d hd =>?_,J,k2,by simpa using k3,fun j d B =>?_⟩
      ·obtain⟨j,B⟩:=afi hd;simp only[ahu,aeV]at B;obtain⟨d0,K,rfl⟩:=B;exact lP _ _ _ _
      ·simp only[ahu,aeV]at B;obtain⟨d0,K,rfl⟩:=B
       by_cases O:fD d0=true
       ·rw[kh O];have ay:(cs.mapIdx (rP 0 s))[j]? = some d0:=by rw[ahu,K];exact congrArg some (kh O)
        exact (fa O).2.2.2 (((fa O).2.2.1 (k4 j _ ay)).less Z)
       ·cases d0<;>first|trivial|exact absurd rfl O
   ·refine⟨rfl,fun hn=>by have:=e9 d o;have:=hI.big;have:=cQ;omega,?_⟩;have m:=hR.rows _ _ (uY ho);rw[ad];cases r:c (NK 0 o) with
    | none=>rw[r]at m;exact m
    | some g =>
     rw[r]at m;refine⟨.inl (F _ _ i q g ((ad o).trans r)),ak rfl ?_⟩;obtain⟨J,R,k2,k3⟩:=m;exact⟨J,R,k2,k3⟩
  ·intro k l H r2 g g' i hl q ag r az aB;obtain⟨q1,p1,p2⟩:=C k H i q;obtain⟨q2,p3,p4⟩:=C l r2 hl ag;have e1:=hR.inj _ _ _ _ g g' p1 p3 (by rw[<- p2];exact r) (by rw[<- p4];exact az) aB;rcases eD A rfl rfl f i q with⟨rfl,_⟩|⟨o,n,xs,rfl,ho,_⟩
   ·rcases eD A rfl rfl f hl ag with⟨rfl,_⟩|⟨o',n',aD,rfl,aE,_⟩
    ·rfl
    ·rw[vG,lH f]at e1;have:=e9 0 o';have:=cQ;omega
   ·rcases eD A rfl rfl f hl ag with⟨rfl,_⟩|⟨o',n',aD,rfl,aE,_⟩
    ·rw[vG,lH f]at e1;have:=e9 0 o;have:=cQ;omega
    ·rw[lH f,lH f]at e1;rw[(uc nL nL e1).2]
  ·intro k z i hv q;rcases eD A rfl rfl f i q with⟨rfl,rfl⟩|⟨o,n,xs,rfl,ho,rfl⟩
   ·exact absurd hv hV.no
   ·exact absurd hv (an o)
  ·intro k z g i q ah r j x' s' n B;rcases eD A rfl rfl f i q with⟨rfl,rfl⟩|⟨o,n',xs,rfl,ho,rfl⟩;rotate_left
   ·cases ah
   simp only[ahu,aeV]at B;obtain⟨d0,K,aF⟩:=B;obtain⟨aH,rfl,rfl,rfl⟩:=rG aF;rw[U]at r;obtain⟨_,u,R,k2⟩:=hR.pha 0 _ g wU rfl r j (NK 0 j) s' n (by simp only[ahu,K,Option.map_some,rP]);refine⟨⟨f,.inr rfl⟩,u,R,fun _ _ =>?_⟩;have:=k2 _ (uY K);rw[ad];exact this
  ·intro y z j x' s' n hy q ah B ai;have G:=(hA.rows y z q).2;cases r:blk y with
   | none =>
    rw[r]at G;have G:z.cells=[]:=G;rw[G]at B;cases B
   | some g =>
    obtain⟨q1,q2⟩:=(hA.pha y z g q ah r j x' s' n B).1;rcases q2 with rfl|rfl
    ·have:rt (PK+y)=PK+y:=ig (by omega);rw[this]at ai;omega
    ·rw[vf q1]at ai;rw[Aq q1]at hy;exact hy ai
 refine⟨al.weaken fun x v hx =>?_,.inr ⟨hd,rfl⟩,fun z _ _ =>?_⟩
 ·rcases hx with hx|⟨rfl,rfl⟩
  ·exact .inl hx
  ·exact .inr ⟨hd,rfl⟩
 ·rw[U];exact hu.2 ⟨0,0,[],false,false,false⟩ rfl rfl
def Ej (y:Inv N M L w0 blk V t h a w) {c:Call} {f:Operand} {g:Nat} (A:o.op=.call c) (B:c.callee=.value f) (C:ev t f=.fn g) {Φ:Value->World->Prop}
  (D:∀vs:Array Value,vs.size=(c.args.toList.map (ev t)).length->(∀(j:Nat) d,(c.args.toList.map (ev t))[j]? = some d->RT w (Own M h blk) h blk V d (vs.getD j undef))->eW P g∧Calls P g vs w fun E F=>∃v,E=.returned v∧Φ v F):dZ P o a w Φ:=by
 have k:=y.ev f;have e:∀(j:Nat) d,(c.args.toList.map (ev t))[j]? = some d->RT w (Own M h blk) h blk V d ((c.args.map a.eval).getD j undef):=by
  intro j d m;rw[aeU]at m;cases n:c.args.toList[j]? with
  | none=>simp[n]at m
  | some x =>
   simp only[n,Option.map_some,ae5]at m;subst m;have:(c.args.map a.eval).getD j undef=a.eval x:=by
    have p:c.args[j]? = some x:=by simpa using n
    simp[p]
   rw[this];exact y.ev x
 have q:(c.args.map a.eval).size=(c.args.toList.map (ev t)).length:=by simp
 rw[C]at k;have l:a.eval f=.func (.func g) #[] #[]:=by
  have r:RP w (Own M h blk) (.fn g) (a.eval f):=k;generalize a.eval f=u at *;cases r;rfl
 obtain⟨⟨z,s,i,b⟩,G⟩:=D _ q e;have H:¬z.name = "runtime.NumGoroutine":=by simpa using i
 have I:¬z.body=none:=by
  intro J;rw[J]at b;cases b
 exact .inr (.inr ⟨g,#[]++c.args.map a.eval++#[],by simp[execOp,A,resolve,B,l,Deferred.ofValue,invoke,callFunc,program,Sem.run,s,H,I],by simpa using G⟩)
end
def iA (vs:Operand->D):Op->Option (D×List D)
 | .call c=>match c.callee with | .value f=>some (vs f,c.args.toList.map vs)|_=>none
 | _=>none
def oN {vs:Operand->D} {op:Op} {q:D} {a:List D} (b:iA vs op=some (q,a)):∃c f,op=.call c∧c.callee=.value f∧q=vs f∧a=c.args.toList.map vs:=by
 unfold iA at b;split at b<;>try (cases b;done)
 rename_i c;split at b<;>try (cases b;done)
 rename_i f d;simp only[ae5,Prod.mk.injEq]at b;exact⟨c,f,rfl,d,b.1.symm,b.2.symm⟩
def Ch (Γ:Env) (e:Nat) (h:Nat->Option Row):Option (D×List D)->Option cd
 | some (.fn g,args)=>yj Γ e h g args
 | _=>none
def Is (e d:Nat) (h:Nat->Option Row) (a:List D):Option (List D->Option (Nat×Nat×Nat×Nat×Nat×List D))->Option cd
 | some p=>Sx p e d (bX (EH h) a)
 | none=>none
def oQ (Γ:Env) (e:Nat) (h:Nat->Option Row):Option Nat->Option (D×List D)->Option cd
 | some d,some (.fn g,args)=>Is e d h args (Γ.nx.res g)
 | _,_=>none
def vX (T:Nat->Option Ty) (Γ:Env) (e:Nat) (o:Oper) (vs:Operand->D) (h:Nat->Option Row):Option cd :=
 match o.op with
 | .load ty p=>match T ty with|some τ=>vW τ h (vs p)|none=>none
 | .store ty p x=>match T ty with|some τ=>vY τ e h (vs p) (vs x)|none=>none
 | .call c=>Ch Γ e h (iA vs (.call c))
 | _=>none
def Yj (h:Nat->Option Row):Option cd->Option cd->Option cd
 | some ⟨v,hw⟩,_=>some ⟨v,kQ h hw⟩
 | none,y=>y
def p5 (T:Nat->Option Ty) (Γ:Env) (e:Nat) (o:Oper) (vs:Operand->D) (h:Nat->Option Row):Option cd :=
 match gS T Γ e o vs with
 | some E=>some E
 | none =>
  match oQ Γ e h o.dst (iA vs o.op) with
  | some E=>some E
  | none=>Yj h (rL T Γ e o vs (EH h)) (vX T Γ e o vs h)
def cH (o:Oper) (vs:Operand->D):List Nat:=(gP o vs).map rt
def VE (N e:Nat) (done:List Nat) (h:Nat->Option Row) (x v:Nat):Prop:=(x<N∧(v<e∨(v=e∧x∈done))) ∨
 (2*PK<=x∧v<=4*e+3∧(x % PK∉done->v<=4*e+1)∧∀r ty s nv cs,h (x % PK)=some r->r.mp=true->r.cells=[.nr ty s nv cs]->v<=nv)
def G1 (e:Nat) (done:List Nat) (h:Nat->Option Row):Prop:=∀x r ty s nv cs,h x=some r->r.mp=true->r.cells=[.nr ty s nv cs]->x<PK->nv<=4*e+3∧(x∉done->nv<=4*e+1)
def gW (e:Nat) (h h':Nat->Option Row):Prop:=∀x r' b d a c,h' x=some r'->r'.mp=true->r'.cells=[.nr b d a c]->x<PK->∃r ty s nv cs,h x=some r∧r.mp=true∧r.cells=[.nr ty s nv cs]∧(a=nv∨bump nv e=some a)
def gW.refl (e:Nat) (h:Nat->Option Row):gW e h h:=fun x r ty s nv cs a b c _=>⟨r,ty,s,nv,cs,a,b,c,.inl rfl⟩
def J5 {nv e a:Nat} (h:bump nv e=some a):nv<a∧(a=4*e+1∨(nv=4*e+2∧a=4*e+3)):=by
 unfold bump at h;split at h
 ·cases h;omega
 ·split at h
  ·cases h;omega
  ·cases h
def G1.step {e:Nat} {done a:List Nat} {h h':Nat->Option Row} (k:G1 e done h) (l:gW e h h') (i:∀x,x∈done->x∈a):G1 e a h':=by
 intro x m b n c d o p q j;obtain⟨r,ty,s,nv,cs,t,u,v,f⟩:=l x m b n c d o p q j;obtain⟨w,q2⟩:=k x r ty s nv cs t u v j;rcases f with rfl|f
 ·exact⟨w,fun hn=>q2 fun h=>hn (i x h)⟩
 ·obtain⟨y,g⟩:=J5 f;refine⟨by omega,fun hn =>?_⟩;rcases g with g|⟨g,z⟩
  ·omega
  ·have:=q2 fun h=>hn (i x h);omega
def VE.step {N e:Nat} {done a:List Nat} {h h':Nat->Option Row} (m:gW e h h') (l:∀x,x∈done->x∈a) {x v:Nat} (n:VE N e done h x v):VE N e a h' x v:=by
 rcases n with⟨b,c⟩|⟨b,c,h3,o⟩
 ·exact .inl ⟨b,c.imp id fun⟨d,f⟩=>⟨d,l x f⟩⟩
 ·refine .inr ⟨b,c,fun hn=>h3 fun h=>hn (l _ h),fun p g q i j t u w =>?_⟩;obtain⟨r,ty,s,nv,cs,d,f,y,k⟩:=m _ p g q i j t u w (I2 _);have:=o r ty s nv cs d f y;rcases k with rfl|k
  ·exact this
  ·have:=(J5 k).1;omega
def G1.aci {N e:Nat} {done:List Nat} {h:Nat->Option Row} (g:G1 e done h):VNr (VE N e done h) h:=by
 intro x r ty s nv cs b i c a o;obtain⟨j,k⟩:=g x r ty s nv cs b i c a;refine .inr ⟨e9 x o,j,by rw[ud o a];exact k,fun p l q m n d t f =>?_⟩;rw[ud o a,b]at d;cases d;rw[c]at f;cases f;exact aeX _
def G1.new {N e:Nat} {done:List Nat} {h:Nat->Option Row} (l:G1 e done h) (m:N<=PK):Yo (VE N e done h) h e:=by
 intro x r ty s nv cs b c d f g a o i;have j:=e9 x o;have:=cQ;rcases i with⟨n,_⟩|⟨_,_,_,k⟩
 ·omega
 ·have p:=k r ty s nv cs (by rw[ud o g];exact c) d f;have q:=(J5 a).1;omega
def M9 (e:Nat):∀(l:List (Nat×Option Row)) (h:Nat->Option Row),gW e h (aW h (kQ h l))
 | [],h =>.refl e h
 | (k,r)::l,h=>by
  intro x E p F t u G H I J;obtain⟨K,d,v,f,g,a,m,c,n⟩:=M9 e l (bY h (rt k) (Ap h k r)) x E p F t u G H I J
  by_cases b:x=rt k
  rotate_left
  ·rw[aC _ _ b]at a;exact⟨K,d,v,f,g,a,m,c,n⟩
  ·rw[b,aA]at a;unfold Ap at a;split at a
   ·exfalso;obtain⟨_,L,_⟩:=By (o:=0) a;unfold Hh at a;split at a
    ·split at a
     ·split at a
      ·cases a
      ·rename_i w;simp only[ae5]at a;subst a;exact w _ _ _ _ c
     ·rename_i y;simp only[ae5]at a;subst a;exact y m
    ·cases a
   ·rename_i z;have i:rt k=k % PK:=by unfold rt;rw[if_neg z]
    rw[aeV]at a;obtain⟨q,A,j⟩:=a;unfold Gc at j;split at j
    ·rename_i B;split at j
     ·rename_i ty s nv cs C;subst j;simp only at c;refine⟨q,ty,s,nv,cs,by rw[b,i];exact A,B,C,?_⟩;unfold Gv at c;split at c<;>(simp only[afk,D.nr.injEq,and_true]at c;obtain⟨rfl,rfl,rfl,_⟩:=c;exact n)
     ·subst j;exact⟨q,d,v,f,g,by rw[b,i];exact A,m,c,n⟩
    ·subst j;exact⟨q,d,v,f,g,by rw[b,i];exact A,m,c,n⟩
section
variable {P:Program} {T:Nat->Option Ty} {N:Nat} {M:Nat->Prop} {L:jM} {w0:World} {blk:Nat->Option (Nat×Nat)} {t:Nat->D} {h h':Nat->Option Row} {a:Act} {w:World} {e:Nat} {o:Oper} {Γ:Env} {done:List Nat}
def gW.set {x:Nat} {r n:Row} {ty s nv a f o:Nat} {cs g:List D} (p:h x=some r) (q:r.mp=true) (t:r.cells=[.nr ty s nv cs]) (i:n.cells=[.nr f o a g]) (u:a=nv∨bump nv e=some a):gW e h (bY h x (some n)):=by
 intro y v j w k l d m b z
 by_cases c:y=x
 ·subst c;rw[aA]at d;cases d;rw[i]at b;cases b;exact⟨r,ty,s,nv,cs,p,q,t,u⟩
 ·rw[aC _ _ c]at d;exact⟨v,j,w,k,l,d,m,b,.inl rfl⟩
def gW.drop {y:Nat} (g:gW e (bY h y none) h'):gW e h h':=by
 intro x i c j d f l m n o;obtain⟨r,ty,s,nv,cs,b,k⟩:=g x i c j d f l m n o
 by_cases a:x=y
 ·subst a;rw[aA]at b;cases b
 ·rw[aC _ _ a]at b;exact⟨r,ty,s,nv,cs,b,k⟩
def It {τ:Ty} {d:D} {E:cd} (a:qU τ h d=some E):E.hw=[]:=by
 unfold qU at a;split at a<;>try (cases a;done)
 split at a<;>try (cases a;done)
 unfold NR at a;split at a
 ·split at a<;>try (cases a;done)
  cases a;rfl
 ·split at a<;>try (cases a;done)
  split at a<;>try (cases a;done)
  cases a;rfl
 ·cases a
def Qp {τ:Ty} {d:D} {E:cd} (a:qT τ h d=some E):gW e h (aW h E.hw):=by
 unfold qT at a;split at a<;>try (cases a;done)
 split at a<;>try (cases a;done)
 rename_i r ty s nv cs b;obtain⟨c,j,k,f,g,i⟩:=iD b;split at a<;>try (cases a;done)
 unfold Q0 at a;split at a<;>try (cases a;done)
 cases a;exact gW.set c f i rfl (.inl rfl)
def Qs {τ:Ty} {p d:D} {E:cd} (a:qX τ e h p d=some E):gW e h (aW h E.hw):=by
 unfold qX at a;split at a<;>try (cases a;done)
 split at a<;>try (cases a;done)
 rename_i r ty s nv cs b;obtain⟨c,m,n,f,g,i⟩:=iD b;split at a<;>try (cases a;done)
 unfold Rx at a;split at a<;>try (cases a;done)
 split at a<;>try (cases a;done)
 unfold stZ at a;split at a<;>try (cases a;done)
 rename_i j k l _;cases a;exact gW.set c f i rfl (.inr l)
def Qr {τ:Ty} {p d:D} {E:cd} (a:nP τ e h p d=some E):gW e h (aW h E.hw):=by
 unfold nP at a;split at a<;>try (cases a;done)
 rename_i l x m;split at a<;>try (cases a;done)
 rename_i r ty s nv cs n;obtain⟨g,z,A,i,o,j⟩:=iD n;split at a<;>try (cases a;done)
 have b:∀ {k:Option (List D)},Lj τ l r ty s nv cs m k=some E->gW e h (aW h E.hw):=by
  intro k a;unfold Lj at a;split at a<;>try (cases a;done)
  split at a<;>try (cases a;done)
  cases a;exact gW.set g i j rfl (.inl rfl)
 unfold Hv at a;split at a
 ·rename_i t B C F G;split at a<;>try (cases a;done)
  split at a
  ·split at a<;>try (cases a;done)
   unfold Li at a;split at a<;>try (cases a;done)
   split at a<;>try (cases a;done)
   cases a;exact gW.set g i j rfl (.inl rfl)
  ·split at a<;>try (cases a;done)
   split at a<;>try (cases a;done)
   rename_i q c;split at a<;>try (cases a;done)
   unfold BN at a;split at a<;>try (cases a;done)
   rename_i u v;cases a;obtain⟨f,w⟩:=cw c;refine gW.drop (y:=t) ?_;exact gW.set (by
    rw[aC]
    ·exact g
    ·rintro rfl;rw[g]at f;cases f;have:=ia c;rw[i]at this;cases this) i j rfl (.inr v)
 ·exact b a
structure ub (N:Nat) (M:Nat->Prop) (L:jM) (w0:World) (blk:Nat->Option (Nat×Nat)) (e:Nat) (done:List Nat) (t:Nat->D) (h:Nat->Option Row) (a:Act) (w:World):Prop where
 inv:Inv N M L w0 blk (VE N e done h) t (EH h) a w
 nv:G1 e done h
def DD (N:Nat) (M:Nat->Prop) (L:jM) (w0:World) (t:Nat->D) (h:Nat->Option Row) (a:Act) (e:Nat) (done:List Nat) (E:cd) (v:Value) (c:World):Prop :=
 ∃b,ub N M L w0 b e done t (aW h E.hw) a c∧RT c (Own M (EH (aW h E.hw)) b) (EH (aW h E.hw)) b (VE N e done (aW h E.hw)) E.val v
def Qo (hT:iI P T) (hΓ:bG P Γ) (q:ub N M L w0 blk e done t h a w) (hd:∀d:Nat,o.dst=some d->d∉done∧d<N) {E:cd} (j:p5 T Γ e o (ev t) h=some E):dZ P o a w (DD N M L w0 t h a e (o.dst.toList++done) E):=by
 have u:=q.inv.big;have au:=cQ;have hV:∀d:Nat,o.dst=some d->js N (VE N e done h) d e:=by
  intro d aq;obtain⟨V,H⟩:=hd d aq;replace H:(d:Nat)<N:=H;refine⟨fun hv =>?_,H⟩;rcases hv with⟨_,hv|⟨_,hv⟩⟩|⟨hv,_⟩
  ·omega
  ·exact V hv
  ·omega
 have hP:∀x v,VE N e done h x v->x<N∨2*PK<=x:=fun x v hv=>hv.imp (fun h=>h.1) (fun h=>h.1);have y:∀x,x∈done->x∈o.dst.toList++done:=fun x W=>afb _ W;have fin:gW e h (aW h E.hw)->∀ {v:Value} {B:World},jK N M L w0 (VE N e done h) t h a e o.dst E v B->DD N M L w0 t h a e (o.dst.toList++done) E v B:=by
  intro aa v B k;obtain⟨I,J,K⟩:=k;have O:∀x n,VE N e done h x n∨(o.dst=some x∧n=e)->VE N e (o.dst.toList++done) (aW h E.hw) x n:=by
   rintro x n (hv|⟨W,rfl⟩)
   ·exact hv.step aa y
   ·exact .inl ⟨(hd x W).2,.inr ⟨rfl,afa _ (by rw[W];simp)⟩⟩
  refine⟨I,⟨J.weaken O,q.nv.step aa y⟩,K.mono ⟨fun _ J K=>⟨J,K,rfl⟩,O,fun _ _ _ r' J K=>⟨⟨r',J,K⟩,rfl,fun _ _=>rfl⟩⟩⟩
 have fin2:∀ {E0:cd} {d:Nat} {r0:Row} {z s:Nat} {X:List D},o.dst=some d->E0.hw=[(d,some r0)]->r0.mp=true->r0.cells=[.nr z s (4*e+2) X]->∀ {v:Value} {B:World},jK N M L w0 (VE N e done h) t h a e o.dst E0 v B->DD N M L w0 t h a e (o.dst.toList++done) E0 v B:=by
  intro E0 d r0 z s X b Q Y m v B k;obtain⟨I,J,K⟩:=k;obtain⟨F,R⟩:=hd d b;have ak:aW h E0.hw=bY h d (some r0):=by rw[Q];rfl
  have O:∀x n,VE N e done h x n∨(o.dst=some x∧n=e)->VE N e (o.dst.toList++done) (aW h E0.hw) x n:=by
   rintro x n (hv|⟨W,rfl⟩)
   ·rcases hv with⟨V,H⟩|⟨V,H,q3,q4⟩
    ·exact .inl ⟨V,H.imp id fun⟨p1,p2⟩=>⟨p1,y _ p2⟩⟩
    ·refine .inr ⟨V,H,fun hn=>q3 fun h=>hn (y _ h),fun r' ab s1 ad ae S k2 k3 =>?_⟩;rw[ak]at S
     by_cases G:x % PK=d
     ·rw[G,aA]at S;cases S;rw[m]at k3;cases k3;have:=q3 (by rw[G];exact F);omega
     ·rw[aC _ _ G]at S;exact q4 r' ab s1 ad ae S k2 k3
   ·exact .inl ⟨(hd x W).2,.inr ⟨rfl,afa _ (by rw[W];simp)⟩⟩
  refine⟨I,⟨J.weaken O,?_⟩,K.mono ⟨fun _ J K=>⟨J,K,rfl⟩,O,fun _ _ _ r' J K=>⟨⟨r',J,K⟩,rfl,fun _ _=>rfl⟩⟩⟩;intro x r' ab s1 ad ae S k2 k3 hp;rw[ak]at S
  by_cases G:x=d
  ·subst G;rw[aA]at S;cases S;rw[m]at k3;cases k3;exact⟨by omega,fun hn=>absurd (afa _ (by rw[b];simp)) hn⟩
  ·rw[aC _ _ G]at S;obtain⟨p1,p2⟩:=q.nv x r' ab s1 ad ae S k2 k3 hp;exact⟨p1,fun hn=>p2 fun h=>hn (y _ h)⟩
 have al:∀d:Nat,o.dst=some d->∀o',¬VE N e done h (NK d o') (4*e+2):=by
  intro d b o' hv;obtain⟨F,R⟩:=hd d b;have ag:(d:Nat)<PK:=ae0 R u;rcases hv with⟨hv,_⟩|⟨_,_,hv,_⟩
  ·have:=e9 d o';omega
  ·have:=hv (by rw[ud o' ag];exact F);omega
 unfold p5 at j;split at j
 ·rename_i E0 i;simp only[ae5]at j;subst j;unfold gS at i;split at i<;>try (cases i;done)
  rotate_left
  ·rename_i ty U;split at i<;>try (cases i;done)
   rename_i d b;split at i<;>try (cases i;done)
   rename_i z s f hn;split at i<;>try (cases i;done)
   rename_i τ Z;obtain⟨F,R⟩:=hd d b;have k:=Wq hT q.inv U b (hV d b) (al d b) Z i;obtain⟨r0,Q,Y,m⟩:∃r0:Row,E0.hw=[(d,some r0)]∧r0.mp=true∧∃cs,r0.cells=[.nr z s (4*e+2) cs]:=by
    unfold YR at i;split at i<;>try (cases i;done)
    cases i;exact⟨_,rfl,rfl,_,rfl⟩
   obtain⟨X,m⟩:=m;exact k.mono fun v B k=>fin2 b Q Y m k
  rename_i ty l c U;split at i<;>try (cases i;done)
  rename_i d b;split at i<;>try (cases i;done)
  rename_i z s f hn;split at i<;>try (cases i;done)
  rename_i τ Z;obtain⟨F,R⟩:=hd d b;have k:=Wr hT q.inv U b (hV d b) (fun o' hv=>by
   have ag:(d:Nat)<PK:=ae0 R u;rcases hv with⟨hv,_⟩|⟨_,_,hv,_⟩
   ·have:=e9 d o';omega
   ·have:=hv (by rw[ud o' ag];exact F);omega) Z i
  obtain⟨r0,Q,Y,m⟩:∃r0:Row,E0.hw=[(d,some r0)]∧r0.mp=true∧∃cs,r0.cells=[.nr z s (4*e+2) cs]:=by
   unfold kp at i;split at i<;>try (cases i;done)
   split at i<;>try (cases i;done)
   split at i<;>try (cases i;done)
   cases i;exact⟨_,rfl,rfl,_,rfl⟩
  obtain⟨X,m⟩:=m;exact k.mono fun v B k=>fin2 b Q Y m k
 split at j
 ·rename_i E0 A;simp only[ae5]at j;subst j;unfold oQ at A;split at A<;>try (cases A;done)
  rename_i d g an b ah;obtain⟨c,f,ai,aj,hq,C⟩:=oN ah;unfold Is at A;split at A<;>try (cases A;done)
  rename_i p hp;obtain⟨_,z,ti,s',S',n',ao,_,_,_,ar⟩:=yF A;subst C;have k:=Ej q.inv ai aj hq.symm (fun vs V H=>V3 hΓ q.inv b (hV d b) (al d b) hp A V H);refine k.mono fun v B k =>?_;exact fin2 (r0:=⟨e,z,[.nr ti s' (4*e+2) ao],false,true,true⟩) b (by rw[ar]) rfl rfl k
 ·unfold Yj at j;split at j
  ·rename_i v0 hw he;simp only[ae5]at j;subst j;have k:=Uh hT hΓ q.inv hV hP he;exact k.mono fun v B k=>fin (M9 e hw h) (k.le (M7 hw h))
  ·unfold vX at j;split at j
   ·rename_i ty p U;split at j<;>try (cases j;done)
    rename_i τ Z;unfold vW Yk at j;split at j
    ·rename_i E0 hF;simp only[ae5]at j;subst j;exact (Wn hT q.inv U Z hF).mono fun v B k=>fin (Qp hF) k
    ·exact (Wo hT q.inv q.nv.aci U Z j).mono fun v B k=>fin (by rw[It j];exact .refl e h) k
   ·rename_i ty p x U;split at j<;>try (cases j;done)
    rename_i τ Z;unfold vY Yk at j;split at j
    ·rename_i E0 hF;simp only[ae5]at j;subst j;exact (Wu hT q.inv (q.nv.new u) U Z hF).mono fun v B k=>fin (Qs hF) k
    ·exact (Wt hT q.inv (q.nv.new u) U Z j).mono fun v B k=>fin (Qr j) k
   ·rename_i c U;unfold Ch at j;split at j<;>try (cases j;done)
    rename_i g an ah;obtain⟨c',f,ai,aj,hq,C⟩:=oN ah;cases ai;subst C;refine (Ej q.inv U aj hq.symm (fun vs V H=>V7 hΓ q.inv (q.nv.new u) (dst:=o.dst) j V H)).mono fun v B k=>fin ?_ k;obtain⟨x,v,o',rest,r,ty,s,nv,cs,p,av,aw,d,ao,_,hl,_,_,hb,_,_,rfl⟩:=uu j;obtain⟨W,_,_,hm,_,hc⟩:=iD hl;exact gW.set W hm hc rfl (.inr hb)
   ·cases j
end
section
variable {T:Nat->Option Ty} {h h':Nat->Option Row} {e:Nat} {o:Oper} {Γ:Env}
def oU {x v:Nat} (a:h x=h' x):gx h x v=gx h' x v:=by simp[gx,a]
def mM {x v:Nat} {q:Row×Nat×Nat×Nat×List D} (a:gx h x v=some q):x<PK:=by
 obtain⟨r,ty,s,nv,cs⟩:=q;exact (iD a).2.2.2.2.1
def Cm:∀(l:List (Nat×Option Row)) {h h':Nat->Option Row},(∀p∈l,h (rt p.1)=h' (rt p.1))->kQ h l=kQ h' l
 | [],_,_,_=>rfl
 | (k,r)::l,h,h',d=>by
  have e:h (rt k)=h' (rt k):=d (k,r) (by simp);have f:Ap h k r=Ap h' k r:=by
   unfold Ap;split
   ·rfl
   ·rename_i a;have:rt k=k % PK:=by unfold rt;rw[if_neg a]
    rw[<- this,e]
  unfold kQ;rw[f];congr 1;refine Cm l fun p b =>?_
  by_cases c:rt p.1=rt k
  ·rw[c,aA,aA]
  ·rw[aC _ _ c,aC _ _ c];exact d p (agt _ b)
def Cn:∀(l:List (Nat×Option Row)) {h:Nat->Option Row},∀p∈kQ h l,∃q∈l,p.1=rt q.1
 | [],_,p,a=>by simp[kQ]at a
 | (k,r)::l,h,p,a=>by
  unfold kQ at a;rcases ae3.1 a with rfl|a
  ·exact⟨(k,r),by simp,rfl⟩
  ·obtain⟨q,b,c⟩:=Cn l p a;exact⟨q,agt _ b,c⟩
def U1 {τ:Ty} {p d:D} {E:cd} (a:nP τ e h p d=some E):∀q∈E.hw,q.1<PK∧(q.1∈nm p∨q.1∈nm d):=by
 unfold nP at a;split at a<;>try (cases a;done)
 rename_i f k g;split at a<;>try (cases a;done)
 rename_i r ty s nv cs n;have i:=mM n;split at a<;>try (cases a;done)
 have one:∀ {l:Option Row} (q:Nat×Option Row),q∈[(f,l)]->q.1<PK∧(q.1∈nm (.ptr f k g)∨q.1∈nm d):=by
  intro l q c;simp only[afj]at c;subst c;exact⟨i,.inl (by simp[nm,iK])⟩
 have b:∀ {m:Option (List D)},Lj τ f r ty s nv cs g m=some E->∀q∈E.hw,q.1<PK∧(q.1∈nm (.ptr f k g)∨q.1∈nm d):=by
  intro m a;unfold Lj at a;split at a<;>try (cases a;done)
  split at a<;>try (cases a;done)
  cases a;exact one
 unfold Hv at a;split at a
 ·rename_i o t u v w;split at a<;>try (cases a;done)
  split at a
  ·split at a<;>try (cases a;done)
   unfold Li at a;split at a<;>try (cases a;done)
   split at a<;>try (cases a;done)
   cases a;exact one
  ·split at a<;>try (cases a;done)
   rename_i j;split at a<;>try (cases a;done)
   split at a<;>try (cases a;done)
   unfold BN at a;split at a<;>try (cases a;done)
   cases a;intro q c;rcases ae3.1 c with rfl|c
   ·exact⟨j,.inr (by simp[nm,iK])⟩
   ·exact one q c
 ·exact b a
def Uz {τ:Ty} {p:D} {E:cd} (a:qT τ h p=some E):∀q∈E.hw,q.1<PK∧q.1∈nm p:=by
 unfold qT at a;split at a<;>try (cases a;done)
 rename_i e f g;split at a<;>try (cases a;done)
 rename_i r ty s nv cs d;have b:=mM d;split at a<;>try (cases a;done)
 unfold Q0 at a;split at a<;>try (cases a;done)
 cases a;intro q c;simp only[afj]at c;subst c;exact⟨b,by simp[nm,iK]⟩
def U3 {τ:Ty} {p d:D} {E:cd} (a:qX τ e h p d=some E):∀q∈E.hw,q.1<PK∧(q.1∈nm p∨q.1∈nm d):=by
 unfold qX at a;split at a<;>try (cases a;done)
 rename_i g i j;split at a<;>try (cases a;done)
 rename_i r ty s nv cs f;have b:=mM f;split at a<;>try (cases a;done)
 unfold Rx at a;split at a<;>try (cases a;done)
 split at a<;>try (cases a;done)
 unfold stZ at a;split at a<;>try (cases a;done)
 cases a;intro q c;simp only[afj]at c;subst c;exact⟨b,.inl (by simp[nm,iK])⟩
def Uy {τ:Ty} {d:D} (b:∀x∈nm d,x<2*PK->h x=h' x):qT τ h d=qT τ h' d:=by
 unfold qT;split
 ·rename_i x v o
  by_cases c:x<2*PK
  ·rw[oU (b x (by simp[nm,iK]) c)]
  ·have a:∀h:Nat->Option Row,gx h x v=none:=by
    intro h;cases e:gx h x v with
    | none=>rfl
    | some q=>have:=mM e;omega
   rw[a,a]
 ·rfl
def U2 {τ:Ty} {p d:D} (c:∀x∈nm p,x<2*PK->h x=h' x):qX τ e h p d=qX τ e h' p d:=by
 unfold qX;split
 ·rename_i x v o
  by_cases a:x<2*PK
  ·rw[oU (c x (by simp[nm,iK]) a)]
  ·have b:∀h:Nat->Option Row,gx h x v=none:=by
    intro h;cases f:gx h x v with
    | none=>rfl
    | some q=>have:=mM f;omega
   rw[b,b]
 ·rfl
def UA {τ:Ty} {d:D} (b:∀x∈nm d,x<2*PK->h x=h' x):qU τ h d=qU τ h' d:=by
 unfold qU;split
 ·rename_i x v o
  by_cases c:x<2*PK
  ·rw[oU (b x (by simp[nm,iK]) c)]
  ·have a:∀h:Nat->Option Row,gx h x v=none:=by
    intro h;cases e:gx h x v with
    | none=>rfl
    | some q=>have:=mM e;omega
   rw[a,a]
 ·rfl
def U0 {τ:Ty} {p d:D} (f:∀x∈nm p,x<2*PK->h x=h' x) (g:∀x∈nm d,x<2*PK->h x=h' x):nP τ e h p d=nP τ e h' p d:=by
 unfold nP;split
 ·rename_i x v o
  by_cases a:x<2*PK
  rotate_left
  ·have c:∀h:Nat->Option Row,gx h x v=none:=by
    intro h;cases i:gx h x v with
    | none=>rfl
    | some q=>have:=mM i;omega
   rw[c,c]
  rw[oU (f x (by simp[nm,iK]) a)];split
  ·split
   ·unfold Hv;split
    ·rename_i y j k l n
     by_cases b:y<2*PK
     ·rw[cU (g y (by simp[nm,iK]) b)]
     ·split
      ·split
       ·rfl
       ·rw[if_neg (by have:=cQ;omega),if_neg (by have:=cQ;omega)]
      ·rfl
    ·rfl
   ·rfl
  ·rfl
 ·rfl
def fi {vs:Operand->D} {x:Nat} (a:x∈gP o vs):rt x∈cH o vs:=aeW.2 ⟨x,a,rfl⟩
def py {vs:Operand->D} {y:Operand} (e:y∈o.op.operands.toList) (f:∀a b c,o.op ≠ .pick a b c) (g:∀a,o.op ≠ .move a) (h:∀a b c,o.op ≠ .makeFunc a b c) {x:Nat} (i:x∈nm (vs y)):x∈gP o vs:=by
 unfold gP;split
 ·rename_i d;exact absurd d (g _)
 ·rename_i d;exact absurd d (f _ _ _)
 ·rename_i d;exact absurd d (h _ _ _)
 ·exact afa _ (ago.2 ⟨y,e,i⟩)
def HW {vs:Operand->D} {q:D} {a:List D} (j:iA vs o.op=some (q,a)) (k:∀x∈cH o vs,h x=h' x):∀d∈a,∀x∈nm d,h (rt x)=h' (rt x):=by
 obtain⟨c,f,e,g,_,b⟩:=oN j;subst b;intro d l x i;obtain⟨y,m,rfl⟩:=aeW.1 l;exact k _ (fi (py (y:=y) (by simp[e,Op.operands,Call.operands,g];exact .inr (by simpa using m)) (by simp[e]) (by simp[e]) (by simp[e]) i))
def Mj {g:Nat} {a:List D} (i:∀d∈a,∀x∈nm d,h (rt x)=h' (rt x)):yj Γ e h g a=yj Γ e h' g a:=by
 unfold yj;split
 ·rename_i x v c rest;have b:bX (EH h) rest=bX (EH h') rest:=ju fun d k x f=>ec (i d (agt _ k) x f)
  by_cases l:x<2*PK
  ·have:=i _ ags x (by simp[nm,iK]);rw[ig l]at this;rw[oU this,b]
  ·have j:∀h:Nat->Option Row,gx h x v=none:=by
    intro h;cases m:gx h x v with
    | none=>rfl
    | some q=>have:=mM m;omega
   rw[j,j]
 ·rfl
def MW {vs:Operand->D} (f:∀x∈cH o vs,h x=h' x):oQ Γ e h o.dst (iA vs o.op)=oQ Γ e h' o.dst (iA vs o.op):=by
 unfold oQ;split
 ·rename_i d g b c i;unfold Is;split
  ·rw[ju fun d c x a=>ec (HW i f d c x a)]
  ·rfl
 ·rfl
def Qq {vs:Operand->D} (i:∀x∈cH o vs,h x=h' x):vX T Γ e o vs h=vX T Γ e o vs h':=by
 unfold vX;split
 ·rename_i ty p a;split
  ·have d:∀x∈nm (vs p),x<2*PK->h x=h' x:=fun x b f=>by
    have:=i _ (fi (py (y:=p) (by simp[a,Op.operands]) (by simp[a]) (by simp[a]) (by simp[a]) b))
    rwa [ig f]at this
   unfold vW;rw[UA d,Uy d]
  ·rfl
 ·rename_i ty p x a;split
  ·have d:∀x∈nm (vs p),x<2*PK->h x=h' x:=fun y b f=>by
    have:=i _ (fi (py (y:=p) (by simp[a,Op.operands]) (by simp[a]) (by simp[a]) (by simp[a]) b))
    rwa [ig f]at this
   unfold vY;rw[U0 d (fun y b f=>by
    have:=i _ (fi (py (y:=x) (by simp[a,Op.operands]) (by simp[a]) (by simp[a]) (by simp[a]) b))
    rwa [ig f]at this),U2 d]
  ·rfl
 ·rename_i c a;unfold Ch;split
  ·rename_i g j k;exact Mj (HW (by rw[a];exact k) i)
  ·rfl
 ·rfl
def Qm {vs:Operand->D} (hx:∀x∈cH o vs,h x=h' x):p5 T Γ e o vs h=p5 T Γ e o vs h':=by
 have b:rL T Γ e o vs (EH h)=rL T Γ e o vs (EH h'):=Ug fun x a=>ec (hx _ (fi a));unfold p5;rw[b,Qq hx,MW hx];split
 ·rfl
 split
 ·rfl
 ·cases c:rL T Γ e o vs (EH h') with
  | none=>rfl
  | some E =>
   simp only[Yj];rw[Cm E.hw fun p d=>hx _ (fi (Iu c p d))]
def Qn {vs:Operand->D} {E:cd} (b:p5 T Γ e o vs h=some E):∀p∈E.hw,p.1∈cH o vs:=by
 unfold p5 at b;split at b
 ·rename_i G a;simp only[ae5]at b;subst b;unfold gS at a;split at a<;>try (cases a;done)
  rotate_left
  ·rename_i ty i;split at a<;>try (cases a;done)
   rename_i d j;split at a<;>try (cases a;done)
   split at a<;>try (cases a;done)
   unfold YR at a;split at a<;>try (cases a;done)
   rename_i k;cases a;intro p n;simp only[afj]at n;subst n;have B:d∈gP o vs:=by
    unfold gP;rw[i];exact afb _ (by rw[j];simp)
   have:=fi B
   rwa [ig (by have:=k.2.2.2.1;omega)]at this
  rename_i ty l c i;split at a<;>try (cases a;done)
  rename_i d j;split at a<;>try (cases a;done)
  split at a<;>try (cases a;done)
  unfold kp at a;split at a<;>try (cases a;done)
  split at a<;>try (cases a;done)
  split at a<;>try (cases a;done)
  rename_i k;cases a;intro p n;simp only[afj]at n;subst n;have B:d∈gP o vs:=by
   unfold gP;rw[i];exact afb _ (by rw[j];simp)
  have:=fi B
  rwa [ig (by have:=k.2.2.2.2.2.2.1;omega)]at this
 split at b
 ·rename_i G m;simp only[ae5]at b;subst b;unfold oQ at m;split at m<;>try (cases m;done)
  rename_i d g C j w;obtain⟨c,f,z,F,u,t⟩:=oN w;unfold Is at m;split at m<;>try (cases m;done)
  obtain⟨_,_,_,_,_,_,_,_,_,O,rfl⟩:=yF m;intro p n;simp only[afj]at n;subst n;have B:d∈gP o vs:=by
   unfold gP;rw[z];exact afb _ (by rw[j];simp)
  have:=fi B
  rwa [ig (by omega)]at this
 ·unfold Yj at b;split at b
  ·rename_i Z P Q;simp only[ae5]at b;subst b;intro p n;obtain⟨q,H,I⟩:=Cn P p n;rw[I];exact fi (Iu Q q H)
  ·unfold vX at b;split at b
   ·rename_i ty p i;split at b<;>try (cases b;done)
    unfold vW Yk at b;split at b
    ·rename_i G J;simp only[ae5]at b;subst b;intro q u;obtain⟨R,A⟩:=Uz J q u;have:q.1∈gP o vs:=py (y:=p) (by simp[i,Op.operands]) (by simp[i]) (by simp[i]) (by simp[i]) A;have:=fi this
     rwa [ig (by omega)]at this
    rw[It b];intro p n;simp at n
   ·rename_i ty p x i;split at b<;>try (cases b;done)
    intro q u;have K:q.1<PK∧(q.1∈nm (vs p)∨q.1∈nm (vs x)):=by
     unfold vY Yk at b;split at b
     ·rename_i G J;simp only[ae5]at b;subst b;exact U3 J q u
     ·exact U1 b q u
    obtain⟨R,A⟩:=K;have:q.1∈gP o vs:=by
     rcases A with A|A
     ·exact py (y:=p) (by simp[i,Op.operands]) (by simp[i]) (by simp[i]) (by simp[i]) A
     ·exact py (y:=x) (by simp[i,Op.operands]) (by simp[i]) (by simp[i]) (by simp[i]) A
    have:=fi this
    rwa [ig (by omega)]at this
   ·rename_i c i;unfold Ch at b;split at b<;>try (cases b;done)
    rename_i g C w;obtain⟨c',f,z,F,u,t⟩:=oN w;cases z;obtain⟨x,v,N,rest,r,ty,s,nv,cs,p,S,U,d,V,L,W,_,_,_,_,_,rfl⟩:=uu b;have X:=mM W;intro q u;simp only[afj]at u;subst u;obtain⟨y,Y,M⟩:∃y∈c.args.toList,vs y=.ptr x v N:=by
     have:(.ptr x v N:D)∈c.args.toList.map vs:=by rw[<- t,L];exact ags
     obtain⟨y,H,I⟩:=aeW.1 this;exact⟨y,H,I⟩
    have:x∈gP o vs:=py (y:=y) (by simp[i,Op.operands,Call.operands,F];exact .inr (by simpa using Y)) (by simp[i]) (by simp[i]) (by simp[i]) (by rw[M];simp[nm,iK]);have:=fi this
    rwa [ig (by omega)]at this
   ·cases b
def YE {vs a:Operand->D} (hx:∀y∈o.op.operands.toList,vs y=a y):p5 T Γ e o vs h=p5 T Γ e o a h∧cH o vs=cH o a:=by
 obtain⟨j,k⟩:=aaP (T:=T) (Γ:=Γ) (e:=e) (h:=EH h) hx;have m:gS T Γ e o vs=gS T Γ e o a:=by
  unfold gS;split
  ·rename_i ty l c b;rw[hx l (by simp[b,Op.operands]),hx c (by simp[b,Op.operands])]
  ·rfl
  ·rfl
 have d:∀c,o.op=.call c->iA vs (.call c)=iA a (.call c):=by
  intro c b;unfold iA;simp only;split
  ·rename_i f i;rw[hx f (by simp[b,Op.operands,Call.operands,i]),agp fun y n=>hx y (by simp[b,Op.operands,Call.operands,i];exact .inr (by simpa using n))]
  ·rfl
 have q:vX T Γ e o vs h=vX T Γ e o a h:=by
  unfold vX;split
  ·rename_i ty p b;rw[hx p (by simp[b,Op.operands])]
  ·rename_i ty p x b;rw[hx p (by simp[b,Op.operands]),hx x (by simp[b,Op.operands])]
  ·rename_i c b;rw[d c b]
  ·rfl
 have r:iA vs o.op=iA a o.op:=by
  by_cases g:∃c,o.op=.call c
  ·obtain⟨c,g⟩:=g;rw[g];exact d c g
  ·unfold iA;split
   ·rename_i c b;exact absurd ⟨c,b⟩ g
   ·rfl
 unfold p5 cH;rw[j,k,m,q,r];exact⟨rfl,rfl⟩
end
structure kU where
 tc:List Nat
 q:Bool
def wC (ops:Array Oper) (t:Nat->D) (o:Oper):Option Bool :=
 match o.guard with
 | none=>some true
 | some (j,a) =>
  match (ops[j]?).bind (·.dst) with
  | some g=>match t g with | .bool b=>some (b==a) | .skp=>some false|_=>none
  | none=>none
def eO (t:Nat->D) (dst:Option Nat) (d:D):Nat->D :=
 match dst with
 | none=>t
 | some i=>bY t i d
def fits (N:Nat) (dst:Option Nat):Bool :=
 match dst with
 | none=>true
 | some i=>decide (i<N)
def step1 (T:Nat->Option Ty) (Γ:Env) (N e:Nat) (ops:Array Oper) (o:Oper) (t:Nat->D) (h:Nat->Option Row):Option ((Nat->D)×(Nat->Option Row)×kU) :=
 if fits N o.dst then
  match wC ops t o with
  | some true =>
   match p5 T Γ e o (ev t) h with
   | some E=>some (eO t o.dst E.val,aW h E.hw,⟨cH o (ev t),E.hw.isEmpty⟩)
   | none=>none
  | some false=>some (eO t o.dst .skp,h,⟨[],true⟩)
  | none=>none
 else none
section
variable {P:Program} {T:Nat->Option Ty} {N:Nat} {M:Nat->Prop} {L:jM} {w0:World} {blk:Nat->Option (Nat×Nat)} {t:Nat->D} {h:Nat->Option Row} {a:Act} {w:World} {e:Nat} {o:Oper} {Γ:Env} {ops:Array Oper}
def Aa {V:Nat->Nat->Prop} (r:Inv N M L w0 blk V t h a w) {b:Bool} (c:wC ops t o=some b):Region.wanted o (yielded ops a.tmps)=b:=by
 unfold wC at c;split at c
 ·rename_i m;simp only[ae5]at c;subst c;simp[Region.wanted,m]
 ·rename_i j e m;split at c
  ·rename_i g i;split at c
   ·rename_i n p;simp only[ae5]at c;subst c;have k:=r.slots g;rw[p]at k;have d:=xn k;have l:a.tmps[g]? = some (.bool n):=by
     simp only[ae1]at d;cases f:a.tmps[g]? with
     | none=>rw[f]at d;cases d
     | some v=>rw[f]at d;simp only[Option.getD_some]at d;rw[d]
    have q:yielded ops a.tmps j=some n:=by
     unfold yielded;rw[i];simp[l]
    simp only[Region.wanted,m,q];cases n<;>cases e<;>rfl
   ·rename_i p;simp only[ae5]at c;subst c;have k:=r.slots g;rw[p]at k;have d:a.tmps.getD g undef=undef:=k;have q:yielded ops a.tmps j=none:=by
     unfold yielded;rw[i];simp only[ae1]at d;cases f:a.tmps[g]? with
     | none=>simp only[Option.bind_some,f]
     | some v=>rw[f]at d;simp only[Option.getD_some]at d;subst d;simp only[Option.bind_some,f];rfl
    simp only[Region.wanted,m,q]<;>cases e<;>rfl
   ·cases c
  ·cases c
def Inv.abl {V:Nat->Nat->Prop} (b:Inv N M L w0 blk V t h a w) (c:fits N o.dst=true) {d:D} {v:Value} (e:RT w (Own M h blk) h blk V d v):Inv N M L w0 blk V (eO t o.dst d) h (a.put o.dst v) w:=by
 cases f:o.dst with
 | none=>simpa [eO,Act.put] using b
 | some i =>
  rw[f]at c;exact b.put (by simpa [fits] using c) e
def Lk (u:iI P T) (y:bG P Γ) {done:List Nat} {q:Nat->D} {h':Nat->Option Row} {f:kU} {K:Act->World->Prop} {Q:Exit->Act->World->Prop} (i:ub N M L w0 blk e done t h a w)
  (b:step1 T Γ N e ops o t h=some (q,h',f)) (z:∀d,o.dst=some d->d∉done) (r:∀s m c,ub N M L w0 c e (o.dst.toList++done) q h' s m->K s m) :
  if Region.wanted o (yielded ops a.tmps) then o.wp P a w K Q∨(o.asks P a w∧LetsOut Q) else K (a.put o.dst undef) w:=by
 unfold step1 at b;split at b
 ·rename_i l;split at b
  ·rename_i p;rw[Aa i.inv p];simp only[if_true];split at b
   ·rename_i E A;simp only[ae5,Prod.mk.injEq]at b;obtain⟨rfl,rfl,_⟩:=b;have:=Qo u y i (fun d j=>⟨z d j,by rw[j]at l;simpa [fits] using l⟩) A;refine .inl (this.wp fun v m B =>?_);obtain⟨c,k,C⟩:=B;exact r _ _ c ⟨k.inv.abl l C,k.nv⟩
   ·cases b
  ·rename_i p;rw[Aa i.inv p];simp only[afv,if_false];simp only[ae5,Prod.mk.injEq]at b;obtain⟨rfl,rfl,_⟩:=b;have g:∀x,x∈done->x∈o.dst.toList++done:=fun x hx=>afb _ hx;exact r _ _ blk ⟨(i.inv.abl l (d := .skp) (v:=undef) rfl).weaken fun x n hx=>hx.step (.refl e h) g,i.nv.step (.refl e h) g⟩
  ·cases b
 ·cases b
def fw {x:Nat} : ∀ {l:List (Nat×Option Row)} {h:Nat->Option Row},(∀p∈l,p.1≠x)->aW h l x=h x
 | [],_,_=>rfl
 | (y,r)::l,h,hn=>by
  simp only[aW];rw[fw (fun p a=>hn p (by simp[a]))];exact aC _ _ (fun e=>hn (y,r) (by simp) e.symm)
def AM {x:Nat} : ∀ {l:List (Nat×Option Row)} {h h':Nat->Option Row},(∃p∈l,p.1=x)->aW h l x=aW h' l x
 | [],_,_,he=>by obtain⟨p,b,_⟩:=he;simp at b
 | (y,r)::l,h,h',he=>by
  simp only[aW]
  by_cases hl:∃p∈l,p.1=x
  ·exact AM hl
  ·have c:∀p∈l,p.1≠x:=fun p b a=>hl ⟨p,b,a⟩;rw[fw c,fw c];obtain⟨p,b,a⟩:=he;rcases ae3.1 b with rfl|b
   ·simp only at a;subst a;rw[aA,aA]
   ·exact absurd a (c p b)
def L2 {l l':List (Nat×Option Row)} {h:Nat->Option Row} (hd:∀p∈l,∀q∈l',p.1≠q.1):aW (aW h l) l'=aW (aW h l') l:=by
 funext x
 by_cases h1:∃p∈l,p.1=x
 ·obtain⟨p,b,rfl⟩:=h1;rw[fw (fun q f e=>hd p b q f e.symm)];exact AM ⟨p,b,rfl⟩
 ·have d:∀p∈l,p.1≠x:=fun p b a=>h1 ⟨p,b,a⟩;rw[fw d]
  by_cases h2:∃p∈l',p.1=x
  ·exact AM h2
  ·have c:∀p∈l',p.1≠x:=fun p b a=>h2 ⟨p,b,a⟩;rw[fw c,fw c,fw d]
def UO {t:Nat->D} {x y:Option Nat} {v u:D} (hne:∀d,x=some d->y≠some d):eO (eO t x v) y u=eO (eO t y u) x v:=by
 cases x with
 | none=>rfl
 | some i =>
  cases y with
  | none=>rfl
  | some j=>exact X6 t v u (fun e=>hne i rfl (by rw[e]))
def Ts {t:Nat->D} {x:Option Nat} {v:D} {s:Nat} (hne:x≠some s):eO t x v s=t s:=by
 cases x with
 | none=>rfl
 | some i=>exact aC _ _ (fun e=>hne (by rw[e]))
def Ps {t t1:Nat->D} {h m:Nat->Option Row} {f:kU} (b:step1 T Γ N e ops o t h=some (t1,m,f)) :
  ∃v hw,t1=eO t o.dst v∧m=aW h hw∧(∀p∈hw,p.1∈f.tc)∧(f.q=true->hw=[]) ∧
   ∀a h',(∀s∈o.looksAt ops,t s=a s)->(∀x∈f.tc,h x=h' x)->step1 T Γ N e ops o a h'=some (eO a o.dst v,aW h' hw,f):=by
 have d:∀a:Nat->D,(∀s∈o.looksAt ops,t s=a s)->wC ops t o=wC ops a o:=by
  intro a c;unfold wC;split
  ·rfl
  ·rename_i j n w;split
   ·rename_i g k;rw[c g (by simp[Oper.looksAt,w,k])]
   ·rfl
 have l:∀a:Nat->D,(∀s∈o.looksAt ops,t s=a s)->∀y∈o.op.operands.toList,ev t y=ev a y:=by
  intro a c y z;cases y with
  | tmp i=>exact c i (by unfold Oper.looksAt;exact afa _ (List.mem_filterMap.2 ⟨_,z,rfl⟩))
  | const v=>rfl
  | global g=>rfl
  | func f=>rfl
 unfold step1 at b;split at b
 ·rename_i q;split at b
  ·rename_i k;split at b
   ·rename_i E r;simp only[ae5,Prod.mk.injEq]at b;obtain⟨rfl,rfl,rfl⟩:=b;refine⟨E.val,E.hw,rfl,rfl,Qn r,fun A=>by simpa using A,fun a h' c hh =>?_⟩;obtain⟨B,u⟩:=YE (T:=T) (Γ:=Γ) (e:=e) (h:=h) (l a c);have C:p5 T Γ e o (ev a) h'=some E:=by
     rw[<- r,B];exact (Qm (fun x F=>hh x (by rw[u];exact F))).symm
    unfold step1;rw[if_pos q,<- d a c,k];simp only[C,u]
   ·cases b
  ·rename_i k;simp only[ae5,Prod.mk.injEq]at b;obtain⟨rfl,rfl,rfl⟩:=b;refine⟨.skp,[],rfl,rfl,fun p G=>by simp at G,fun _=>rfl,fun a h' c hh =>?_⟩;unfold step1;rw[if_pos q,<- d a c,k];rfl
  ·cases b
 ·cases b
def P6 (T:Nat->Option Ty) (Γ:Env) (N e:Nat) (ops:Array Oper) (F:Nat->kU):List Nat->(Nat->D)->(Nat->Option Row)->(Nat->D)->(Nat->Option Row)->Prop
 | [],t,h,a,h'=>t=a∧h=h'
 | i::L,t,h,a,h'=>∃o t1 b,ops[i]? = some o∧step1 T Γ N e ops o t h=some (t1,b,F i)∧P6 T Γ N e ops F L t1 b a h'
def YA (l a:List Nat):Bool:=l.all fun x => !a.contains x
structure R8 (ops:Array Oper) (F:Nat->kU) (j i:Nat):Prop where
 apart:∀oj oi,ops[j]? = some oj->ops[i]? = some oi->oj.apart ops oi=true
 foot:((F j).q&&(F i).q||YA (F j).tc (F i).tc)=true
def swap {F:Nat->kU} {i j:Nat} {L:List Nat} {t H:Nat->D} {h h':Nat->Option Row} (O:P6 T Γ N e ops F (j::i::L) t h H h') (I:R8 ops F j i):P6 T Γ N e ops F (i::j::L) t h H h':=by
 obtain⟨z,t1,h1,g,A,w,t2,U,k,B,c⟩:=O;obtain⟨a1,a2,a3⟩:=Oper.apart_spec (I.apart z w g k);obtain⟨V,J,rfl,rfl,P,Q,m⟩:=Ps A;obtain⟨vi,C,rfl,rfl,K,R,n⟩:=Ps B;have a:=I.foot;simp only[agw,afx]at a;have d1:∀x∈(F i).tc,∀p∈J,p.1≠x:=by
  intro x f p b o;rcases a with⟨h1,_⟩|h1
  ·rw[Q h1]at b;simp at b
  ·simp only[YA,ae7]at h1;have:=h1 p.1 (P p b);rw[o]at this;simp[f]at this
 have d2:∀x∈(F j).tc,∀p∈C,p.1≠x:=by
  intro x f p b o;rcases a with⟨_,h1⟩|h1
  ·rw[R h1]at b;simp at b
  ·simp only[YA,ae7]at h1;have:=h1 x f;have M:=K p b;rw[o]at M;simp[M]at this
 have r:=n t h (fun s E=>Ts (fun u=>a1 s u E)) (fun x f=>fw (d1 x f));have v:=m (eO t w.dst vi) (aW h C) (fun s E=>(Ts (fun u=>a3 s u E)).symm) (fun x f=>(fw (d2 x f)).symm);refine⟨w,_,_,k,r,z,_,_,g,v,?_⟩;rw[UO (x:=w.dst) (y:=z.dst) (fun d u G=>a2 d G u),L2 (l:=C) (l':=J) (fun p b q S o=>d1 p.1 (K p b) q S o.symm)];exact c
def front {F:Nat->kU} {i:Nat} {a:List Nat} : ∀ {pre:List Nat} {t c:Nat->D} {h h':Nat->Option Row},P6 T Γ N e ops F (pre++i::a) t h c h'->(∀j∈pre,R8 ops F j i)->P6 T Γ N e ops F (i::(pre++a)) t h c h'
 | [],_,_,_,_,hr,_=>hr
 | j::pre,t,c,h,h',hr,hi=>by
  obtain⟨g,t1,l,d,f,b⟩:=hr;have m:=front (pre:=pre) b (fun k n=>hi k (by simp[n]));exact swap ⟨g,t1,l,d,f,m⟩ (hi j (by simp))
def direct (o:Oper):List Nat:=(o.after.toList.filter (Region.binds .any)).map (·.on)
def xv:List Oper->List (List Nat)->List (List Nat)
 | [],acc=>acc
 | o::l,acc=>xv l (acc++[direct o++(direct o).flatMap fun k=>acc.getD k []])
def aaM (ops:Array Oper):List (List Nat):=xv ops.toList []
def Ea (S:Nat->Prop):∀(l:List Oper) (acc:List (List Nat)) (k:Nat),k=acc.length->(∀i j,j∈acc.getD i []->i<k->(∀m o,ops[m]? = some o->S m->∀d∈direct o,S d)->(∀o,ops[i]? = some o->∀d∈direct o,S d)->S j) ->
  (∀j,l[j]? = ops[k+j]?)->∀i j,j∈(xv l acc).getD i []->(∀m o,ops[m]? = some o->S m->∀d∈direct o,S d)->(∀o,ops[i]? = some o->∀d∈direct o,S d)->S j
 | [],acc,k,hk,a,h,i,j,e,n,p=>by
  simp only[xv]at e
  by_cases q:i<k
  ·exact a i j e q n p
  ·have:acc.getD i []=[]:=by simp[List.getD,agx (show acc.length<=i by omega)]
   rw[this]at e;simp at e
 | o::l,acc,k,hk,a,h,i,j,e,n,p=>by
  simp only[xv]at e;refine Ea S l _ (k+1) (by simp[hk]) ?_ (fun j=>by have:=h (j+1);simpa [afh,Nat.add_comm 1 j] using this) i j e n p;intro b r c y hS' f
  by_cases s:b<k
  ·have:(acc++[direct o++(direct o).flatMap fun k=>acc.getD k []]).getD b []=acc.getD b []:=by
    simp[List.getD,afQ (show b<acc.length by omega)]
   rw[this]at c;exact a b r c s hS' f
  ·obtain rfl:b=k:=by omega
   have:(acc++[direct o++(direct o).flatMap fun k=>acc.getD k []]).getD b []=direct o++(direct o).flatMap fun k=>acc.getD k []:=by
    simp[List.getD,afT (show acc.length<=b by omega),hk]
   rw[this]at c;have z:ops[b]? = some o:=by have:=h 0;simpa using this.symm
   rcases agr.1 c with t|t
   ·exact f o z r t
   ·obtain⟨m,A,g⟩:=ago.1 t;have u:=f o z m A
    by_cases v:m<b
    ·exact a m r g v hS' (fun B w d x=>hS' m B w u d x)
    ·have:acc.getD m []=[]:=by simp[List.getD,agx (show acc.length<=m by omega)]
     rw[this]at g;simp at g
def Yz {S:Nat->Prop} {i j:Nat} (a:j∈(aaM ops).getD i []) (b:∀m o,ops[m]? = some o->S m->∀d∈direct o,S d) (c:∀o,ops[i]? = some o->∀d∈direct o,S d):S j :=
 Ea S ops.toList [] 0 rfl (fun i j a _ _ _=>by simp at a) (fun j=>by simp) i j a b c
def Wh (acc:List Nat):List Nat->Nat
 | []=>0
 | k::l=>(2 ^ k ||| acc.getD k 0) ||| Wh acc l
def Eb:List Oper->List Nat->List Nat
 | [],acc=>acc
 | o::l,acc=>Eb l (acc++[Wh acc (direct o)])
def SE (ops:Array Oper):List Nat:=Eb ops.toList []
def SG {a:List Nat} {j:Nat} : ∀ {l:List Nat},(Wh a l).testBit j=true->j∈l∨∃k∈l,(a.getD k 0).testBit j=true
 | [],h=>by simp[Wh]at h
 | k::l,h=>by
  simp only[Wh,Nat.testBit_or,agw,Nat.testBit_two_pow,decide_eq_true_eq]at h;rcases h with (rfl|h)|h
  ·exact .inl (ags ..)
  ·exact .inr ⟨k,ags ..,h⟩
  ·rcases SG h with h|⟨b,c,d⟩
   ·exact .inl (agt _ h)
   ·exact .inr ⟨b,agt _ c,d⟩
def B3:∀(l:List Oper) (b:List Nat) (c:List (List Nat)),b.length=c.length->(∀i j,(b.getD i 0).testBit j=true->j∈c.getD i [])->∀i j,((Eb l b).getD i 0).testBit j=true->j∈(xv l c).getD i []
 | [],_,_,_,h,i,j,d=>h i j d
 | o::l,b,c,f,h,i,j,d=>by
  refine B3 l _ _ (by simp[f]) (fun e g a =>?_) i j d
  by_cases m:e<b.length
  ·rw[afz,afQ m,<- afz]at a;rw[afz,afQ (by omega),<- afz];exact h e g a
  ·by_cases n:e=b.length
   ·subst n;rw[afz,afT (aeX _),af8]at a;simp only[List.getElem?_cons_zero,Option.getD_some]at a;rw[f,afz,afT (aeX _),af8];simp only[List.getElem?_cons_zero,Option.getD_some,agr,ago];rcases SG a with a|⟨k,p,a⟩
    ·exact .inl a
    ·exact .inr ⟨k,p,h k g a⟩
   ·rw[afz,agx (by simp;omega)]at a;simp at a
def Wa {i j:Nat} (h:((SE ops).getD i 0).testBit j=true):j∈(aaM ops).getD i [] :=
 B3 ops.toList [] [] rfl (fun i j h=>by simp at h) i j h
def Se (ops:Array Oper) (F:Nat->kU):Prop:=∀j i,j<i->i<ops.size->j∈(aaM ops).getD i []∨R8 ops F j i
def Vj (hT:iI P T) (hΓ:bG P Γ) {F:Nat->kU} {Q:Exit->Act->World->Prop} {t':Nat->D} {h':Nat->Option Row} (hp:Se ops F) (G:∀i o,ops[i]? = some o->∀d∈direct o,d<i)
  (W:∀(i j:Nat) (oi oj:Oper) (d:Nat),ops[i]? = some oi->ops[j]? = some oj->oi.dst=some d->oj.dst=some d->i=j) (hQ:∀a' w' r done,ub N M L w0 r e done t' h' a' w'->Q .normal a' w') :
  ∀(n:Nat) (LL:List Nat) (listed:Array Bool) (t:Nat->D) (h:Nat->Option Row) (a:Act) (w:World) (blk:Nat->Option (Nat×Nat)) (done:List Nat),LL.length=n->(∀i,i∈LL↔listed.getD i true=false)->LL.Pairwise (· < ·)->(∀i∈LL,i<ops.size)->listed.size=ops.size ->
   (∀i o,ops[i]? = some o->listed.getD i false=true->∀d∈direct o,listed.getD d false=true)->(∀d∈done,∃i o,ops[i]? = some o∧o.dst=some d∧listed.getD i false=true) ->
   P6 T Γ N e ops F LL t h t' h'->ub N M L w0 blk e done t h a w->wpAny P .any ops Q n listed a w:=by
 intro n
 induction n with
 | zero =>
  intro LL listed t h a w blk done hn E X hlt x hdown g hr hI;have:LL=[]:=aga hn;subst this;obtain⟨rfl,rfl⟩:=hr;refine⟨?_,hQ a w blk done hI⟩;refine List.eq_nil_iff_forall_not_mem.2 fun i hi =>?_;have:=(mem_ready.1 hi).1;exact absurd ((E i).2 this) (by simp)
 | succ n ih =>
  intro LL listed t h a w blk done hn E X hlt x hdown g hr hI;refine⟨fun y =>?_,fun i hi =>?_⟩
  ·cases LL with
   | nil=>simp at hn
   | cons i LL =>
    obtain⟨o,t1,V,z,_⟩:=hr;have p:i∈Region.ready .any ops listed:=by
     refine mem_ready.2 ⟨(E i).1 (by simp),o,z,fun A H hb =>?_⟩;have c:A.on∈direct o:=aeW.2 ⟨A,agy.2 ⟨by simpa using H,hb⟩,rfl⟩;have ak:=G i o z _ c
     by_cases hm:A.on∈i::LL
     ·rcases ae3.1 hm with hm|hm
      ·omega
      ·have:=(agz.1 X).1 _ hm;omega
     ·have V:¬listed.getD A.on true=false:=fun hf=>hm ((E _).2 hf);have h2:A.on<listed.size:=by rw[x];have:=hlt i (by simp);omega
      have:listed.getD A.on true=listed.getD A.on false:=by simp[Array.getD,h2]
      rw[<- this];simpa using V
    rw[y]at p;simp at p
  ·obtain⟨I,o,z,B⟩:=mem_ready.1 hi;have J:i∈LL:=(E i).2 I;obtain⟨C,s,rfl⟩:=List.append_of_mem J;have u:i<listed.size:=by rw[x];exact hlt i J
   have f:∀d∈direct o,listed.getD d false=true:=by
    intro d c;obtain⟨A,H,rfl⟩:=aeW.1 c;obtain⟨V,h2⟩:=agy.1 H;exact B A (by simpa using V) h2
   have Y:∀j∈C,R8 ops F j i:=by
    intro j hj;have aa:j<i:=by
     have:=List.pairwise_append.1 X;exact this.2.2 j hj i (by simp)
    rcases hp j i aa (hlt i J) with hc|hc
    ·have ab:listed.getD j false=true:=Yz (S:=fun m=>listed.getD m false=true) hc (fun m om hm ad d c=>hdown m om hm ad d c) (fun o' v d c=>by
      rw[z]at v;cases v;exact f d c)
     have Z:=(E j).1 (by simp[hj]);have ae:j<listed.size:=by omega
     have:listed.getD j true=listed.getD j false:=by simp[Array.getD,ae]
     rw[this,ab]at Z;cases Z
    ·exact hc
   obtain⟨o',t1,V,v,K,O⟩:=front hr Y;rw[z]at v;cases v;unfold wpOp;simp only[z];refine Lk hT hΓ hI K (fun d c ag =>?_) (fun a' w' r ah =>?_)
   ·obtain⟨k,ok,hk,R,b⟩:=g d ag;have:=W i k o ok d z hk c R;subst this;have:listed.getD i true=listed.getD i false:=by simp[Array.getD,u]
    rw[this,b]at I;cases I
   ·have q:∀k,(listed.setIfInBounds i true).getD k false=true↔k=i∨listed.getD k false=true:=by
     intro k
     by_cases l:k=i
     ·subst l;simp[u]
     ·rw[getD_set_ne false (Ne.symm l)];simp[l]
    have U:∀k,(listed.setIfInBounds i true).getD k true=false↔k≠i∧listed.getD k true=false:=by
     intro k
     by_cases l:k=i
     ·subst l;simp[u]
     ·rw[getD_set_ne true (Ne.symm l)];simp[l]
    have ai:(C++i::s).Nodup:=X.imp (fun h=>Nat.ne_of_lt h);refine ih (C++s) (listed.setIfInBounds i true) t1 V a' w' r _ (by simp at hn ⊢;omega) (fun k =>?_) ?_ (fun k hk=>hlt k (by simp at hk ⊢;rcases hk with hk|hk<;>simp[hk])) (by simpa using x) (fun k ok hk b d c =>?_) (fun d c =>?_) O ah
    ·rw[U];constructor
     ·intro hk;have aj:k∈C++i::s:=by simp at hk ⊢;rcases hk with hk|hk<;>simp[hk]
      refine⟨fun e =>?_,(E k).1 aj⟩;subst e;have:=List.nodup_append.1 ai;simp only[agA]at this;rcases agr.1 hk with hk|hk
      ·exact this.2.2 k hk k (by simp) rfl
      ·exact this.2.1.1 hk
     ·rintro⟨hk,b⟩;have:=(E k).2 b;simp only[agr,ae3]at this ⊢;rcases this with h|h|h
      ·exact .inl h
      ·exact absurd h hk
      ·exact .inr h
    ·refine List.Pairwise.sublist ?_ X;exact List.Sublist.append_left (List.sublist_cons_self _ _) _
    ·rw[q];rcases (q k).1 b with rfl|b
     ·rw[z]at hk;cases hk;exact .inr (f d c)
     ·exact .inr (hdown k ok hk b d c)
    ·rcases agr.1 c with c|c
     ·exact⟨i,o,z,by simpa using c,(q i).2 (.inl rfl)⟩
     ·obtain⟨k,ok,hk,R,b⟩:=g d c;exact⟨k,ok,hk,R,(q k).2 (.inr b)⟩
end
def BL (T:Nat->Option Ty) (Γ:Env) (N e:Nat) (ops:Array Oper):List Oper->(Nat->D)->(Nat->Option Row)->Option ((Nat->D)×(Nat->Option Row)×List kU)
 | [],t,h=>some (t,h,[])
 | o::l,t,h =>
  match step1 T Γ N e ops o t h with
  | some (t1,a,f) =>
   match BL T Γ N e ops l t1 a with
   | some (t2,h2,fs)=>some (t2,h2,f::fs)
   | none=>none
  | none=>none
def KP:List Nat->Bool
 | []=>true
 | x::l => !l.contains x&&KP l
def Wx (ops:Array Oper):Bool:=KP (ops.toList.filterMap (·.dst))
def Sm (ops:Array Oper) (j i:Nat):Bool :=
 match ops[j]?,ops[i]? with
 | some oj,some oi=>oj.apart ops oi
 | _,_=>true
def Ql (ops:Array Oper):Bool :=
 (ops.toList.zipIdx.all fun p=>(direct p.1).all fun d=>decide (d<p.2)) &&
 ((List.range ops.size).all fun i=>(List.range i).all fun j=>((SE ops).getD i 0).testBit j||Sm ops j i)
def Jh (ops:Array Oper):List (Nat×Nat):=(List.range ops.size).flatMap fun i=>((List.range i).filter fun j => !((SE ops).getD i 0).testBit j).map fun j=>(j,i)
def Xs (fs:List kU) (p:Nat×Nat):Bool :=
 match fs[p.1]?,fs[p.2]? with
 | some f,some g=>f.q&&g.q||YA f.tc g.tc
 | _,_=>false
def Es (ops:Array Oper) (fs:List kU):Bool:=(Jh ops).all (Xs fs)
inductive Ex where
 | normal
 | exit (n:Nat)
 | ret
structure St where
 t:Nat->D
 h:Nat->Option Row
 e:Nat
def iter (f:St->Option (Ex×St)):Nat->St->Option (Ex×St)
 | 0,_=>none
 | n+1,s =>
  match f s with
  | some (.normal,s1)=>iter f n s1
  | r=>r
def xW (T:Nat->Option Ty) (Γ:Env) (N:Nat) (ops:Array Oper) (a:Bool) (s:St):Option (Ex×St) :=
 match BL T Γ N s.e ops ops.toList s.t s.h with
 | some (t,h,fs)=>if !a||Es ops fs then some (.normal,⟨t,h,s.e+1⟩) else none
 | none=>none
def PH (d:D) (x y:Option (Ex×St)):Option (Ex×St) :=
 match d with
 | .bool b=>if b then x else y
 | _=>none
def abG (r:Option (Ex×St)) (k:St->Option (Ex×St)):Option (Ex×St) :=
 match r with
 | some (.normal,s)=>k s
 | r=>r
def RX (id:Nat) (r:Option (Ex×St)):Option (Ex×St) :=
 match r with
 | some (.exit n,s)=>if n=id then some (.normal,s) else some (.exit n,s)
 | r=>r
def fV (T:Nat->Option Ty) (Γ:Env) (N F:Nat):Code->St->Option (Ex×St)
 | .skip,s=>some (.normal,s)
 | .region _ ops draw,s=>xW T Γ N ops draw s
 | .seq a b,s=>abG (fV T Γ N F a s) (fV T Γ N F b)
 | .cond c x y,s=>PH (ev s.t c) (fV T Γ N F x s) (fV T Γ N F y s)
 | .block id b,s=>RX id (fV T Γ N F b s)
 | .loop b,s=>iter (fV T Γ N F b) F s
 | .exit id,s=>some (.exit id,s)
 | .ret,s=>some (.ret,s)
 | _,_=>none
def codeOk:Code->Bool
 | .region _ ops draw=>Wx ops&&(!draw||Ql ops)
 | .seq a b=>codeOk a&&codeOk b
 | .cond _ x y=>codeOk x&&codeOk y
 | .block _ b=>codeOk b
 | .loop b=>codeOk b
 | _=>true
section
variable {P:Program} {T:Nat->Option Ty} {N:Nat} {M:Nat->Prop} {L:jM} {w0:World} {blk:Nat->Option (Nat×Nat)} {t:Nat->D} {h:Nat->Option Row} {a:Act} {w:World} {e:Nat} {o:Oper} {Γ:Env} {ops:Array Oper}
def Jb:∀ {l:List Nat},KP l=true->l.Nodup
 | [],_=>List.nodup_nil
 | x::l,h=>by
  simp only[KP,afx,afy,List.contains_eq_mem,decide_eq_false_iff_not]at h;exact agA.2 ⟨h.1,Jb h.2⟩
def G6:∀ {l:List Oper} {done:List Nat},(l.filterMap (·.dst)).Nodup->(∀o∈l,∀d,o.dst=some d->d∉done)->∀o e,l=o::e->(e.filterMap (·.dst)).Nodup∧∀c∈e,∀d,c.dst=some d->d∉o.dst.toList++done:=by
 intro l done f g o e i;subst i;cases h:o.dst with
 | none =>
  rw[List.filterMap_cons_none h]at f;exact⟨f,fun c a d b=>by simpa using g c (by simp[a]) d b⟩
 | some x =>
  rw[List.filterMap_cons_some h]at f;obtain⟨j,k⟩:=agA.1 f;refine⟨k,fun c a d b hm =>?_⟩;simp only[Option.toList_some,List.singleton_append,ae3]at hm;rcases hm with rfl|hm
  ·exact j (List.mem_filterMap.2 ⟨c,a,b⟩)
  ·exact g c (by simp[a]) d b hm
def zt (s:iI P T) (u:bG P Γ) {Q:Exit->Act->World->Prop} : ∀ {l:List Oper} {t g:Nat->D} {h h':Nat->Option Row} {fs:List kU} {a:Act} {w:World} {blk:Nat->Option (Nat×Nat)} {done:List Nat},
  BL T Γ N e ops l t h=some (g,h',fs)->(l.filterMap (·.dst)).Nodup->(∀o∈l,∀d,o.dst=some d->d∉done)->ub N M L w0 blk e done t h a w ->
  (∀i j c done,ub N M L w0 c e done g h' i j->Q .normal i j)->wpList P ops Q l a w
 | [],t,g,h,h',fs,a,w,blk,done,b,_,_,k,m=>by
  simp only[BL,ae5,Prod.mk.injEq]at b;obtain⟨rfl,rfl,_⟩:=b;exact m a w blk done k
 | o::l,t,g,h,h',fs,a,w,blk,done,b,x,v,k,m=>by
  simp only[BL]at b;split at b
  ·rename_i t1 A f y;split at b
   ·rename_i t2 B z n;simp only[ae5,Prod.mk.injEq]at b;obtain⟨rfl,rfl,_⟩:=b;obtain⟨p,q⟩:=G6 x v o l rfl;have:=Lk (K:=wpList P ops Q l) (Q:=Q) s u k y (v o (by simp)) (fun i j c r=>zt s u n p q r m);unfold wpList;exact this
   ·cases b
  ·cases b
def Ar {F:Nat->kU} : ∀ {l:List Oper} {k:Nat} {t b:Nat->D} {h h':Nat->Option Row} {fs:List kU},BL T Γ N e ops l t h=some (b,h',fs)->(∀j,l[j]? = ops[k+j]?)->(∀j f,fs[j]? = some f->F (k+j)=f) ->
  fs.length=l.length∧P6 T Γ N e ops F (List.range' k l.length) t h b h'
 | [],k,t,b,h,h',fs,a,_,_=>by
  simp only[BL,ae5,Prod.mk.injEq]at a;obtain⟨rfl,rfl,rfl⟩:=a;exact⟨rfl,rfl,rfl⟩
 | o::l,k,t,b,h,h',fs,a,d,g=>by
  simp only[BL]at a;split at a
  ·rename_i t1 i f m;split at a
   ·rename_i t2 u n c;simp only[ae5,Prod.mk.injEq]at a;obtain⟨rfl,rfl,rfl⟩:=a;obtain⟨p,q⟩:=Ar (k:=k+1) c (fun j=>by have:=d (j+1);simpa [afh,Nat.add_comm 1 j] using this) (fun j r s=>by have:=g (j+1) r (by simpa using s);rwa [show k+(j+1)=k+1+j by omega]at this);refine⟨by simp[p],o,t1,i,by have:=d 0;simpa using this.symm,?_,q⟩;have:=g 0 f rfl;rw[afw]at this;rw[this];exact m
   ·cases a
  ·cases a
def Holds (N:Nat) (M:Nat->Prop) (L:jM) (w0:World) (s:St) (a:Act) (w:World):Prop:=∃blk,ub N M L w0 blk s.e [] s.t s.h a w
def Hz (hT:iI P T) (hΓ:bG P Γ) (hm:P.follows .mixedOrders=true) {id:Nat} {c:Bool} {s:St} {x:Ex} {s':St} {Q:Exit->Act->World->Prop} (C:xW T Γ N ops c s=some (x,s')) (p:(Wx ops&&(!c||Ql ops))=true)
  (hH:Holds N M L w0 s a w) (hQ:∀D E,Holds N M L w0 s' D E->Q .normal D E):x=.normal∧(Code.region id ops c).wp P Q a w:=by
 unfold xW at C;split at C
 ·rename_i t h fs u;split at C
  ·rename_i e;simp only[ae5,Prod.mk.injEq]at C;obtain⟨rfl,rfl⟩:=C;refine⟨rfl,?_⟩;simp only[afx]at p;have R:(ops.toList.filterMap (·.dst)).Nodup:=Jb p.1;obtain⟨blk,hI⟩:=hH;have y:∀D E g done,ub N M L w0 g s.e done t h D E->Q .normal D E:=by
    intro D E g done S;refine hQ D E ⟨g,S.inv.weaken fun x v hx =>?_,fun x r ty s nv cs k1 k2 k3 k4 =>?_⟩
    ·rcases hx with⟨m,hx|⟨hx,_⟩⟩|⟨m,h2,h3,h4⟩
     ·exact .inl ⟨m,.inl (by simp only;omega)⟩
     ·exact .inl ⟨m,.inl (by simp only;omega)⟩
     ·exact .inr ⟨m,by simp only;omega,fun _=>by simp only;omega,h4⟩
    ·have:=S.nv x r ty s nv cs k1 k2 k3 k4;exact⟨by simp only;omega,fun _=>by simp only;omega⟩
   cases c with
   | false =>
    apply wp_region_list;exact zt hT hΓ u R (done:=[]) (fun o _ d _=>by simp) hI y
   | true =>
    simp only[agl,afZ]at e p;apply wp_region_any hm;have G:=p.2;simp only[Ql,afx]at G
    let F:Nat->kU:=fun i=>fs.getD i ⟨[],true⟩
    obtain⟨U,z⟩:=Ar (F:=F) (k:=0) u (fun j=>by simp) (fun j f A=>by simp[F,List.getD,A]);have H:∀i o,ops[i]? = some o->∀d∈direct o,d<i:=by
     intro i o O d hd;have h1:=G.1;rw[ae7]at h1;have n:(o,i)∈ops.toList.zipIdx:=by
      rw[List.mem_zipIdx_iff_getElem?];simpa using O
     have:=h1 _ n;rw[ae7]at this;simpa using this d hd
    have V:∀(i j:Nat) (oi oj:Oper) (d:Nat),ops[i]? = some oi->ops[j]? = some oj->oi.dst=some d->oj.dst=some d->i=j:=by
     have key:∀(l:List Oper),(l.filterMap (·.dst)).Nodup->∀(i j:Nat) (oi oj:Oper) (d:Nat),l[i]? = some oi->l[j]? = some oj->oi.dst=some d->oj.dst=some d->i=j:=by
      intro l
      induction l with
      | nil=>intro _ i j oi oj d b;simp at b
      | cons o l ih =>
       intro m i j oi oj d b A I J;have aa:(l.filterMap (·.dst)).Nodup:=by
        cases O:o.dst with
        | none=>rw[List.filterMap_cons_none O]at m;exact m
        | some x=>rw[List.filterMap_cons_some O]at m;exact (agA.1 m).2
       have B:∀(k:Nat) (ok:Oper),l[k]? = some ok->o.dst=some d->ok.dst=some d->False:=by
        intro k ok hk O ab;rw[List.filterMap_cons_some O]at m;exact (agA.1 m).1 (List.mem_filterMap.2 ⟨ok,afo hk,ab⟩)
       cases i with
       | zero =>
        simp only[List.getElem?_cons_zero,ae5]at b;subst b;cases j with
        | zero=>rfl
        | succ j=>exact (B j oj (by simpa using A) I J).elim
       | succ i =>
        cases j with
        | zero =>
         simp only[List.getElem?_cons_zero,ae5]at A;subst A;exact (B i oi (by simpa using b) J I).elim
        | succ j=>rw[ih aa i j oi oj d (by simpa using b) (by simpa using A) I J]
     intro i j oi oj d b A;exact key ops.toList R i j oi oj d (by simpa using b) (by simpa using A)
    have q:Se ops F:=by
     intro j i W b
     by_cases hc:((SE ops).getD i 0).testBit j=true
     ·exact .inl (Wa hc)
     ·refine .inr ⟨fun oj oi ad ae =>?_,?_⟩
      ·have h2:=G.2;rw[ae7]at h2;have:=h2 i (agB.2 b);rw[ae7]at this;have:=this j (agB.2 W);simp only[agw]at this;rcases this with h'|h'
       ·exact absurd h' hc
       ·simpa [Sm,ad,ae] using h'
      ·rw[Es,ae7]at e;have n:(j,i)∈Jh ops:=by
        refine ago.2 ⟨i,agB.2 b,aeW.2 ⟨j,agy.2 ⟨agB.2 W,?_⟩,rfl⟩⟩;simpa using hc
       have:=e _ n;have X:i<fs.length:=by rw[U];simpa using b
       have Y:j<fs.length:=by omega
       simp only[Xs,ae9 Y,ae9 X]at this;simp only[F,afz,ae9 Y,ae9 X,Option.getD_some];exact this
    rw[afA,<- List.range_eq_range']at z;have Z:∀i,(Array.replicate ops.size false).getD i false=false:=by
     intro i
     by_cases b:i<ops.size
     ·simp[Array.getD,b]
     ·simp[Array.getD,b]
    have K:∀i,(Array.replicate ops.size false).getD i true=false↔i<ops.size:=by
     intro i
     by_cases b:i<ops.size
     ·simp[Array.getD,b]
     ·simp[Array.getD,b]
    exact Vj hT hΓ q H V y ops.size (List.range ops.size) (Array.replicate ops.size false) s.t s.h a _ blk [] (by simp) (fun i=>by rw[K];exact agB) agC (fun i b=>agB.1 b) (by simp)
     (fun i o _ hl=>by rw[Z]at hl;cases hl) (fun d hd=>by simp at hd) z ⟨hI.inv.drew,hI.nv⟩
  ·cases C
 ·cases C
def EJ:Ex->Exit
 | .normal =>.normal
 | .exit n =>.exit n
 | .ret =>.ret
def jh (E:iI P T) (G:bG P Γ) (H:P.follows .mixedOrders=true) {F:Nat} : ∀(c:Code) (s:St) (x:Ex) (j:St) (Q:Exit->Act->World->Prop) (a:Act) (w:World),fV T Γ N F c s=some (x,j)->codeOk c=true->Holds N M L w0 s a w ->
  (∀k l,Holds N M L w0 j k l->Q (EJ x) k l)->c.wp P Q a w:=by
 intro c
 induction c with
 | skip =>
  intro s x j Q a w e _ m i;simp only[fV,ae5,Prod.mk.injEq]at e;obtain⟨rfl,rfl⟩:=e;exact wp_skip (i a w m)
 | region id ops draw =>
  intro s x j Q a w e f m i;simp only[fV]at e;have I:x=.normal:=by
   unfold xW at e;split at e
   ·split at e
    ·simp only[ae5,Prod.mk.injEq]at e;exact e.1.symm
    ·cases e
   ·cases e
  subst I;exact (Hz E G H e f m i).2
 | seq b c p ihc =>
  intro s x j Q a w e f m i;simp only[codeOk,afx]at f;simp only[fV,abG]at e;apply wp_seq;split at e
  ·rename_i q o;exact p s .normal q _ a w o f.1 m (fun k l g=>ihc q x j Q k l e f.2 g i)
  ·rename_i r hne;refine p s x j _ a w e f.1 m (fun k l g =>?_);cases x with
   | normal=>exact absurd e (fun h=>hne j h)
   | exit n=>exact i k l g
   | ret=>exact i k l g
 | cond c b d p y =>
  intro s x j Q a w e f m i;simp only[codeOk,afx]at f;simp only[fV]at e;unfold PH at e;split at e
  ·rename_i B J;obtain⟨blk,z⟩:=m;have C:=z.inv.ev c;rw[J]at C;refine wp_cond (t:=B) (xn C) ?_;cases B with
   | true=>exact p s x j Q a w e f.1 ⟨blk,z⟩ i
   | false=>exact y s x j Q a w e f.2 ⟨blk,z⟩ i
  ·cases e
 | block id b u =>
  intro s x j Q a w e f m i;simp only[fV]at e;apply wp_block;unfold RX at e;split at e
  ·rename_i n q o;refine u s (.exit n) q _ a w o f m (fun k l g =>?_);split at e
   ·rename_i A;simp only[ae5,Prod.mk.injEq]at e;obtain⟨rfl,rfl⟩:=e;simp only[EJ,Exit.inBlock,A,if_true];exact i k l g
   ·rename_i A;simp only[ae5,Prod.mk.injEq]at e;obtain⟨rfl,rfl⟩:=e;simp only[EJ,Exit.inBlock,A,if_false];exact i k l g
  ·rename_i r hne;refine u s x j _ a w e f m (fun k l g =>?_);cases x with
   | normal=>exact i k l g
   | exit n=>exact absurd e (fun h=>hne n j h)
   | ret=>exact i k l g
 | loop b u =>
  intro s x j Q a w e f m i;simp only[fV]at e;refine wp_loop_ghost (fun n a w=>∃s,Holds N M L w0 s a w∧iter (fV T Γ N F b) n s=some (x,j)) F ⟨s,m,e⟩ ?_;intro n a w ⟨q,v,o⟩;cases n with
  | zero=>simp[iter]at o
  | succ n =>
   simp only[iter]at o;split at o
   ·rename_i D K;exact u q .normal D _ a w K f v (fun k l g=>⟨n,by omega,D,g,o⟩)
   ·rename_i r hne;refine u q x j _ a w o f v (fun k l g =>?_);cases x with
    | normal=>exact absurd o (fun h=>hne j h)
    | exit n=>exact i k l g
    | ret=>exact i k l g
 | exit id =>
  intro s x j Q a w e _ m i;simp only[fV,ae5,Prod.mk.injEq]at e;obtain⟨rfl,rfl⟩:=e;exact wp_exit (i a w m)
 | ret =>
  intro s x j Q a w e _ m i;simp only[fV,ae5,Prod.mk.injEq]at e;obtain⟨rfl,rfl⟩:=e;exact wp_ret (i a w m)
 | _=>intro s x j Q a w e;simp[fV]at e
end
def OT (T:Nat->Option Ty) (s:St):ResultVar->Option (D×List Nat)
 | .tmp i=>cG s.h (s.t i)
 | .cell i ty =>
  match T ty,s.t i with
  | some τ,.ptr x v o=>match eM τ s.h (.ptr x v o) with|some E=>some (iQ E.val,[])|none=>none
  | _,_=>none
def vw (T:Nat->Option Ty) (s:St):List ResultVar->Option (List D×List Nat)
 | []=>some ([],[])
 | r::b =>
  match OT T s r with
  | some (d,fr)=>match vw T s b with
   | some (ds,a)=>some (d::ds,fr++a)
   | none=>none
  | none=>none
def nk:List D->D
 | [d]=>d
 | ds =>.tup ds
inductive Mode where
 | clean|same|tight
 | fresh (ty s:Nat)
def cg:Option (D×Row)->List D->St
 | none,args=>⟨fun i=>args.getD i .und,fun _=>none,0⟩
 | some (d0,r),args=>⟨fun i=>(d0::args).getD i .und,fun x=>if x=0 then some { r with v:=0 } else none,1⟩
def lM:Option (D×Row)->St->Option (Option Row)
 | none,_=>some none
 | some (_,r),s =>
  match s.h 0 with
  | some a=>if a.v=0∧a.fz=false∧a.ty=r.ty∧(a.mp=r.mp∧uK a=true) then some (some a) else none
  | none=>none
def Xn:Option (D×Row)->List Nat->Bool
 | none,_=>true
 | some _,fr => !fr.contains 0
def qY (T:Nat->Option Ty) (a:Option (D×Row)) (b:List ResultVar) (s:St):Option (RK×Option Row) :=
 match vw T s b,lM a s with
 | some (c,d),some o=>if Xn a d then some (.clean (nk c),o) else none
 | _,_=>none
def Kn (a:Option (D×Row)) (b:List ResultVar) (s:St):Option (RK×Option Row) :=
 match b with
 | [.tmp i] =>
  match s.t i,lM a s with
  | .buf 0 0 sz o n,some (some r)=>some (.same sz o n,some r)
  | _,_=>none
 | _=>none
def Iy:D->Option (RK×Option Row)
 | .sl nl a n xs=>some (.clean (.sl nl a n xs),none)
 | _=>none
def EG (a:Option (D×Row)) (b:List ResultVar) (s:St):Option (RK×Option Row) :=
 match a,b with
 | none,[.tmp i]=>Iy (s.t i)
 | _,_=>none
def xA (ty s o n:Nat):Option Row->Option (RK×Option Row)
 | some r=>if r.fz=false∧r.ty=ty∧o+n*s<=r.cells.length then some (.fresh ty s n ((r.cells.drop o).take (n*s)),none) else none
 | none=>none
def qu (ty s:Nat) (h:Nat->Option Row):D->Option (RK×Option Row)
 | .buf x v a o n=>if a=s then xA ty s o n (live h x v) else none
 | .sl _ b 0 _=>if b=true then some (.fresh ty s 0 [],none) else none
 | _=>none
def tq (ty s:Nat) (b:List ResultVar) (a:St):Option (RK×Option Row) :=
 match b with
 | [.tmp i]=>qu ty s a.h (a.t i)
 | _=>none
def eB (b:Mode) (T:Nat->Option Ty) (a:Option (D×Row)) (c:List ResultVar) (s:St):Option (RK×Option Row) :=
 match b with
 | .clean=>qY T a c s
 | .same=>Kn a c s
 | .tight=>EG a c s
 | .fresh ty sz=>tq ty sz c s
def kT (b:Mode) (T:Nat->Option Ty) (Γ:Env) (F:Nat) (e:Func) (a:Option (D×Row)) (d:List D):Option (RK×Option Row) :=
 match e.body with
 | some c =>
  if e.ntmps<=PK then
   match fV T Γ e.ntmps F c (cg a d) with
   | some (.exit _,_)=>none
   | some (_,s)=>eB b T a e.results.toList ⟨s.t,EH s.h,s.e⟩
   | none=>none
  else none
 | none=>none
def FH:Option (D×Row)->Bool
 | none=>true
 | some (.buf 0 0 _ _ _,_)=>true
 | some (.ptr 0 0 _,_)=>true
 | some (.mp 0 0,_)=>true
 | _=>false
def Fv:Option (D×Row)->List D->Nat
 | none,aeS=>aeS.length
 | some _,aeS=>aeS.length+1
section
variable {P:Program} {T:Nat->Option Ty} {N:Nat} {M:Nat->Prop} {L:jM} {w0:World} {blk:Nat->Option (Nat×Nat)} {a:Act} {w:World} {Γ:Env}
def Inv.aag {V:Nat->Nat->Prop} {t:Nat->D} {h:Nat->Option Row} (d:Inv N M L w0 blk V t h a w) (e:List Nat):pT M h blk e M where
 le b c := .inl c
 no x j r g f i c:=d.notM f i c
def BK (a:Array Value):ResultVar->Sem Value
 | .tmp t=>pure (a.getD t undef)
 | .cell b t=>do loadVar t (<- asAddr (a.getD b undef))
def Gl (a:Func) (b:Array Value):results a b=(do
  let vs <- a.results.mapM (BK b)
  pure (if h:vs.size=1 then vs[0] else .tuple vs)):=by
 unfold results;congr 1
def US (n:iI P T) {j:Nat->Prop} {ty:Nat} {τ:Ty} {g c:Nat} {xs:List D} {d:D} (o:T ty=some τ) (f:At w j g c xs) (p:xs.length=τ.size) (b:j0 τ xs=some d) :
  ∃u,(loadVar ty ⟨g,c,none⟩).run P w=.ok u w∧RP w j d u:=by
 obtain⟨k,h,q,l,r⟩:=f.adC;have a:τ.ds.tw=false->xs.length=1∧xs=[d]:=by
  intro i;simp only[j0,i,afv,if_false]at b;split at b
  ·simp only[ae5]at b;subst b;exact⟨rfl,rfl⟩
  ·cases b
 have e:=kO (n ty τ o) w g c k (by rw[h,p]) q (fun i=>by rw[h];exact (a i).1);refine⟨_,e,?_⟩;cases m:τ.ds.tw with
 | true =>
  simp only[j0,m,if_true,ae5]at b;subst b;exact .agg xs k h l r
 | false =>
  obtain⟨_,rfl⟩:=a m;exact l 0 d rfl
def XE (z:iI P T) {q:Nat->Prop} {V:Nat->Nat->Prop} {s:St} (j:Inv N M L w0 blk V s.t s.h a w) {r:ResultVar} {d:D} {t:List Nat} (c:OT T s r=some (d,t)) (hl:pT M s.h blk t q):∃u,(BK a.tmps r).run P w=.ok u w∧RP w q d u:=by
 cases r with
 | tmp i =>
  simp only[OT]at c;exact⟨a.tmps.getD i undef,rfl,j.cG c hl (j.slots i)⟩
 | cell i ty =>
  simp only[OT]at c;split at c
  ·rename_i τ x v o A B;split at c
   ·rename_i E e;simp only[ae5,Prod.mk.injEq]at c;obtain⟨rfl,_⟩:=c;have f:=j.slots i;rw[B]at f;simp only[eM]at e;split at e
    ·rename_i C h;obtain⟨y,F⟩:=cw h;split at e
     ·rename_i G;split at e
      ·rename_i J k;simp only[ae5]at e;subst e;obtain⟨g,H,l⟩:=f.2 C y F;have m:=((j.rowAt y H (ia h)).drop o).take τ.size;obtain⟨u,n,p⟩:=US z A m (by simp;omega) k;refine⟨u,?_,(p.less fun b I=>hl.le b I).iQ⟩;simp only[BK,l,asAddr,aft,Sem.run_pure,Result.andThen_ok,n]
      ·cases e
     ·cases e
    ·cases e
   ·cases c
  ·cases c
def O7 (n:iI P T) {o:Nat->Prop} {V:Nat->Nat->Prop} {s:St} (p:Inv N M L w0 blk V s.t s.h a w):∀(f:List ResultVar) (b:List D) (g:List Nat),vw T s f=some (b,g)->pT M s.h blk g o ->
  ∃c:List Value,(f.mapM (BK a.tmps)).run P w=.ok c w∧c.length=b.length∧∀j d,b[j]? = some d->RP w o d (c.getD j undef)
 | [],b,g,h,_=>by
  simp only[vw,ae5,Prod.mk.injEq]at h;obtain⟨rfl,_⟩:=h;exact⟨[],by simp,rfl,fun j d e=>by simp at e⟩
 | r::f,b,g,h,q=>by
  simp only[vw]at h;split at h
  ·rename_i d t v;split at h
   ·rename_i i k x;simp only[ae5,Prod.mk.injEq]at h;obtain⟨rfl,rfl⟩:=h;obtain⟨c,y,z,A⟩:=O7 n p f i k x q.right;obtain⟨u,l,m⟩:=XE (P:=P) n p v q.left;refine⟨u::c,?_,by simp[z],fun j d e =>?_⟩
    ·simp only[List.mapM_cons,aft,l,Result.andThen_ok,y,Sem.run_pure]
    ·cases j with
     | zero=>simp only[List.getElem?_cons_zero,ae5]at e;subst e;simpa using m
     | succ j=>simpa using A j d (by simpa using e)
   ·cases h
  ·cases h
def sF (l:iI P T) {k:Nat->Prop} {V:Nat->Nat->Prop} {s:St} (m:Inv N M L w0 blk V s.t s.h a w) {f:Func} {b:List D} {g:List Nat} (h:vw T s f.results.toList=some (b,g)) (n:pT M s.h blk g k) :
  ∃v,(results f a.tmps).run P w=.ok v w∧RP w k (nk b) v:=by
 obtain⟨e,o,i,c⟩:=O7 (P:=P) l m _ b g h n;have p:(f.results.mapM (BK a.tmps)).run P w=.ok e.toArray w:=by
  rw[afM,Sem.run_map,o];rfl
 rw[Gl];simp only[aft,p,Result.andThen_ok,Sem.run_pure];refine⟨_,rfl,?_⟩
 match e,b,i,c with
 | [u],[d],_,c=>simpa [nk] using c 0 d rfl
 | [],[],_,_=>exact .tup [] [] rfl (fun j x q=>by simp at q)
 | r::t::e,d1::d2::b,i,c =>
  have:¬(r::t::e).toArray.size=1:=by simp
  rw[dif_neg this];exact .tup _ _ (by simpa using i) c
def pr {a:Func} {b:Array Value} {i:Nat} (h:a.results.toList=[.tmp i]):(results a b).run P w=.ok (b.getD i undef) w:=by
 have c:a.results = #[.tmp i]:=by rw[<- h]
 rw[Gl,c];simp[BK]
def Inv.tq {V:Nat->Nat->Prop} {s:St} {q U:Nat} (t:Inv N M L w0 blk V s.t s.h a w) {K:Func} {y:RK} {out:Option Row} (e:Am.tq q U K.results.toList s=some (y,out)) :
  out=none∧∃v ty p n cells,y=.fresh ty p n cells∧(results K a.tmps).run P w=.ok v w∧vE w0 w M (LB L) v y:=by
 unfold Am.tq at e;split at e
 ·rename_i i k;have f:=t.slots i;unfold qu at e;split at e
  ·rename_i x v p o n z;rw[z]at f;split at e
   ·rename_i B;subst B;unfold xA at e;split at e
    ·rename_i r l;split at e
     ·rename_i h;obtain⟨W,C,X⟩:=h;simp only[ae5,Prod.mk.injEq]at e;obtain⟨rfl,rfl⟩:=e;refine⟨rfl,a.tmps.getD i undef,_,_,_,_,rfl,pr k,?_⟩;obtain⟨O,hv⟩:=cw l;have D:((r.cells.drop o).take (n*p)).length=n*p:=by simp;omega
      rcases t.zG l f with⟨g,o',c,cs,E,Q,R,F,Y,Z,g7,S⟩|⟨E,rfl,R,A,F⟩
      ·by_cases G:0<c∨o=0
       ·obtain⟨k1,k2⟩:=Z G;subst k1;refine .inl ⟨(g.1,g.2+o),c,cs,Q,(show w0.heap.size<=g.1∨LB L g.1 from t.base O E),by rw[<- C];exact Y,R,F,k2,by rw[D];simp only;omega,fun j d m =>?_⟩;rw[dt]at m;split at m
        ·rw[afh];refine⟨(S _ _ m).1,(S _ _ m).2.less fun b H =>?_⟩;rcases H with H|rfl
         ·exact .inl H
         ·exact .inr ⟨x,r,g,O,W,E,rfl⟩
        ·cases m
       ·have hn:n=0:=by omega
        have I:c=0:=by omega
        subst hn I;exact .inr ⟨rfl,by simp,_,Q⟩
      ·exact .inr ⟨rfl,by simp,A,F⟩
     ·cases e
    ·cases e
   ·cases e
  ·rename_i T tg xs z;rw[z]at f;split at e
   ·rename_i J;simp only[ae5,Prod.mk.injEq]at e;obtain⟨rfl,rfl⟩:=e;refine⟨rfl,a.tmps.getD i undef,_,_,_,_,rfl,pr k,.inr ⟨rfl,rfl,?_⟩⟩;have hr:RP w (Own M s.h blk) (.sl T tg 0 xs) (a.tmps.getD i undef):=f;generalize a.tmps.getD i undef=u at *;cases hr with
    | sl A c T tight n xs us h1 h2 h3 h4 h5 h6 h7 h8 =>
     have G:c=0:=by
      exact h5 J
     subst G;exact⟨A,rfl⟩
   ·cases e
  ·cases e
 ·cases e
def wY {args:List D} {vs:Array Value} {n i:Nat} (b:vs.size=args.length):(vs++Array.replicate (n-vs.size) undef).getD i undef=vs.getD i undef∨args.getD i .und=.und:=by
 by_cases a:i<args.length
 ·left;have:i<vs.size:=by omega
  simp[ae1,Array.getElem?_append_left this]
 ·right;simp[List.getD,agx (agD a)]
def TZ {h:Nat->Option Row} (c:∀k r,h k=some r->k<2*PK∧uK r=true):EH h=h:=by
 funext k
 by_cases d:k<2*PK
 ·rw[s9 d];cases a:h k with
  | none=>rfl
  | some r =>
   simp only[Option.map_some,Dz];split
   ·rename_i e;obtain⟨f,vs,b⟩:=Ag (c k r a).2 e;cases r;simp only at b;subst b;rfl
   ·rfl
 ·have g:h k=none:=by
   cases a:h k with
   | none=>rfl
   | some r=>exact absurd (c k r a).1 d
  rw[g];unfold EH;rw[if_neg d];cases a:h (k % PK) with
  | none=>rfl
  | some r =>
   simp only[Option.bind_some,sg];split
   ·rename_i e;obtain⟨f,vs,b⟩:=Ag (c _ r a).2 e;rw[b];rfl
   ·rfl
def DF {h:Nat->Option Row} (b:∀k r,h k=some r->k<2*PK∧r.mp=false):EH h=h:=by
 funext k
 by_cases c:k<2*PK
 ·rw[s9 c];cases a:h k with
  | none=>rfl
  | some r =>
   simp only[Option.map_some,Dz,(b k r a).2];rfl
 ·have d:h k=none:=by
   cases a:h k with
   | none=>rfl
   | some r=>exact absurd (b k r a).1 c
  rw[d];unfold EH;rw[if_neg c];cases a:h (k % PK) with
  | none=>rfl
  | some r =>
   simp only[Option.bind_some,sg,(b _ r a).2];rfl
def ki (hT:iI P T) (hΓ:bG P Γ) (hm:P.follows .mixedOrders=true) {L:Mode} {f:FuncId} {B:Func} {F:Nat} {lent:Option (D×Row)} {a:List D} {rk:RK} {ae:Option Row} (hf:P.funcs[f]? = some B)
  (X:(match B.body with|some c=>codeOk c|none=>true)=true) (hn:Fv lent a<=B.ntmps) (G:FH lent=true)
  (d:kT L T Γ F B lent a=some (rk,ae)):sJ P f lent a rk ae:=by
 unfold kT at d;split at d<;>try (cases d;done)
 rename_i c hc;rw[hc]at X;simp only at X;split at d<;>try (cases d;done)
 rename_i ab;split at d<;>try (cases d;done)
 rename_i x s an hv;cases lent with
 | none =>
  intro w M vs hM h;have hI:Inv B.ntmps M none w (fun _=>none) (fun x v=>x<B.ntmps∧v<0) (cg none a).t (cg none a).h { tmps:=vs++Array.replicate (B.ntmps-vs.size) undef,defers:=[] } w:={
   tab:=fun b e=>(h.tab b e).less fun b e=>by
    rcases e with e|⟨x,r,g,l,_⟩
    ·exact e
    ·cases l
   below:=ez.refl _ _
   mlt:=hM
   lent:=fun b e=>absurd e rV
   pin:=fun C K=>by cases K
   defers:=rfl
   tsz:=by have:=h.1;simp only[Fv]at hn;simp;omega
   slots:=fun i=>by
    simp only[cg];rcases wY (n:=B.ntmps) (i:=i) h.1 with he|he
    ·rw[he]
     by_cases hi:i<a.length
     ·have E:=h.2 i _ (ae9 hi);have N:a.getD i .und=a[i]:=by simp[List.getD,hi]
      rw[N];exact bQ (E.less fun b e=>by
       rcases e with e|⟨x,r,g,l,_⟩
       ·exact e
       ·cases l)
     ·have N:a.getD i .und=.und:=by simp[List.getD,agx (agD hi)]
      rw[N];trivial
    ·rw[he];trivial
   rows:=fun x r l=>by cases l
   inj:=fun x y r s g g' l=>by cases l
   big:=ab
   pha:=fun y r g A=>by cases A
   ali:=fun y r g A=>by cases A }
  apply calls_of_wp hf hc;refine jh hT hΓ hm c (cg none a) x s _ _ _ hv X ⟨_,⟨(by rw[DF (fun k r Y=>by cases Y)];exact hI.weaken fun x v l=>absurd l.2 (Nat.not_lt_zero _)),fun x r ty s nv cs l=>by cases l⟩⟩ (fun W w' hH =>?_);obtain⟨q,ag⟩:=hH;obtain⟨sE,O⟩:∃sE:St,sE=⟨s.t,EH s.h,s.e⟩:=⟨_,rfl⟩;have hI':Inv B.ntmps M none w q (VE B.ntmps s.e [] s.h) sE.t sE.h W w':=by rw[O];exact ag.inv
  rw[<- O]at d;have t:Below w.heap.size w w':=hI'.below.below (fun b e=>absurd e rV);have u:W.defers=[]∧∃v,(results B W.tmps).run P w'=.ok v w'∧(∃v',Ending.returned v=.returned v'∧Below w.heap.size w w'∧vE w w' M (fun _=>False) v' rk):=by
   refine⟨hI'.defers,?_⟩;cases L with
   | clean =>
    simp only[eB,qY,lM]at d;split at d<;>try (cases d;done)
    rename_i ds fr o Q R;split at d<;>try (cases d;done)
    simp only[ae5,Prod.mk.injEq]at d;obtain⟨rfl,_⟩:=d;obtain⟨v,H,z⟩:=sF (P:=P) hT hI' Q (hI'.aag fr);exact⟨v,H,v,rfl,t,z⟩
   | same =>
    simp only[eB,Kn,lM]at d;split at d<;>try (cases d;done)
    split at d
    ·rename_i hq;cases hq
    ·cases d
   | tight =>
    simp only[eB,EG]at d;split at d<;>try (cases d;done)
    rename_i i _ ah;have Z:=hI'.slots i;generalize sE.t i=dd at *;unfold Iy at d;split at d<;>try (cases d;done)
    rename_i nl tg n xs;simp only[ae5,Prod.mk.injEq]at d;obtain⟨rfl,_⟩:=d;have aq:RP w' (Own M sE.h q) (.sl nl tg n xs) (W.tmps.getD i undef):=Z;exact⟨W.tmps.getD i undef,pr ah,_,rfl,t,aq.less fun b e =>.inl e⟩
   | fresh ax s0 =>
    obtain⟨rfl,v,ty,sz,n,cells,rfl,H,z⟩:=hI'.tq (P:=P) d;refine⟨v,H,v,rfl,t,?_⟩;rcases z with⟨g,k1,cs,k2,k3,k4⟩|z
    ·exact .inl ⟨g,k1,cs,k2,k3.imp id (fun e=>absurd e rV),k4⟩
    ·exact .inr z
  cases x with
  | normal=>exact u
  | ret=>exact u
  | exit n=>exact (an n rfl).elim
 | some p =>
  obtain⟨d0,r⟩:=p;intro w M C u0 vs hM hgoM hz ai ad aj h;have S:∀b,Own M (cg (some (d0,r)) a).h (fun x=>if x=0 then C else none) b↔(M b∨vA C b):=by
   intro b;constructor
   ·rintro (e|⟨x,U,g,l,_,K,he⟩)
    ·exact .inl e
    ·simp only[cg]at l;split at l
     ·rename_i h0;subst h0;simp only[if_true]at K;exact .inr ⟨g,K,he.symm⟩
     ·cases l
   ·rintro (e|⟨g,K,he⟩)
    ·exact .inl e
    ·exact .inr ⟨0,{ r with v:=0 },g,rfl,hz,by simpa using K,he.symm⟩
  have hI:Inv B.ntmps M (KK C) w (fun x=>if x=0 then C else none) (fun x v=>x<B.ntmps∧v<1) (cg (some (d0,r)) a).t (cg (some (d0,r)) a).h { tmps:=(#[u0]++vs)++Array.replicate (B.ntmps-(#[u0]++vs).size) undef,defers:=[] } w:={
   tab:=fun b e=>(h.tab b e).less fun b e=>(S b).1 e
   below:=ez.refl _ _
   mlt:=hM
   lent:=fun b e=>hgoM b (J1.1 e)
   pin:=fun aB K=>by
    cases K;exact⟨⟨by simp only[Fv]at hn;omega,agE⟩,fun U _ _=>⟨rfl,fun g _=>rfl⟩⟩
   defers:=rfl
   tsz:=by have:=h.1;simp only[Fv]at hn;simp;omega
   slots:=fun i=>by
    simp only[cg];rcases wY (args:=d0::a) (vs:=#[u0]++vs) (n:=B.ntmps) (i:=i) (by simp[h.1];omega) with he|he
    ·rw[he];cases i with
     | zero =>
      have N:(#[u0]++vs).getD 0 undef=u0:=by simp[Array.getElem?_append]
      rw[N];simp only[af0];cases d0 with
      | buf x v sz o n =>
       have V:x=0∧v=0:=by
        simp only[FH]at G;split at G<;>simp_all
       obtain⟨rfl,rfl⟩:=V;exact⟨⟨by simp only[Fv]at hn;omega,agE⟩,fun U E h2=>by simpa using aj.2 ⟨0,0,[],false,false,false⟩ rfl rfl⟩
      | ptr x v o =>
       have V:x=0∧v=0:=by
        simp only[FH]at G;split at G<;>simp_all
       obtain⟨rfl,rfl⟩:=V;exact⟨⟨by simp only[Fv]at hn;omega,agE⟩,fun U E h2=>by simpa using aj.2 ⟨0,0,[],false,false,false⟩ rfl rfl⟩
      | mp x v =>
       have V:x=0∧v=0:=by
        simp only[FH]at G;split at G<;>simp_all
       obtain⟨rfl,rfl⟩:=V;exact⟨⟨by simp only[Fv]at hn;omega,agE⟩,fun U E h2=>by simpa using aj.2 ⟨0,0,[],false,false,false⟩ rfl rfl⟩
      | _=>simp[FH]at G
     | succ i =>
      have N:(#[u0]++vs).getD (i+1) undef=vs.getD i undef:=by
       simp only[ae1];rw[Array.getElem?_append_right (by simp)];simp
      rw[N];simp only[af1]
      by_cases hi:i<a.length
      ·have E:=h.2 i _ (ae9 hi);have N:a.getD i .und=a[i]:=by simp[List.getD,hi]
       rw[N];exact bQ (E.less fun b e=>(S b).1 e)
      ·have N:a.getD i .und=.und:=by simp[List.getD,agx (agD hi)]
       rw[N];trivial
    ·rw[he];trivial
   rows:=fun x U l=>by
    simp only[cg]at l;split at l
    ·rename_i h0;subst h0;simp only[ae5]at l;subst l;refine⟨fun hn=>⟨hn,agE⟩,?_⟩;simp only[if_true];cases C with
     | none=>exact ad
     | some g =>
      exact⟨.inr (J1.2 ⟨g,rfl,rfl⟩),dV.keep (r':={ r with v:=0 }) ad rfl rfl rfl rfl (fun b E h2=>⟨E,fun e=>h2 ((S b).1 e),rfl⟩)⟩
    ·cases l
   inj:=fun x y m r2 g g' l A _ _ _=>by
    simp only[cg]at l A;split at l
    ·split at A
     ·omega
     ·cases A
    ·cases l
   big:=ab
   pha:=fun y m g A hm _ j x s n hj=>by
    simp only[cg]at A;split at A
    ·simp only[ae5]at A;subst A;obtain⟨ks,ay,hc⟩:=Ag ai hm;rw[show ({ r with v:=0 } : Row).cells=r.cells from rfl,hc]at hj;cases j<;>simp at hj
    ·cases A
   ali:=fun y m g A aC=>by
    simp only[cg]at A;split at A
    ·simp only[ae5]at A;subst A;simp_all
    ·cases A }
  have aa:EH (cg (some (d0,r)) a).h=(cg (some (d0,r)) a).h:=by
   refine TZ fun k U Y =>?_;simp only[cg]at Y;split at Y
   ·rename_i h0;subst h0;simp only[ae5]at Y;subst Y;exact⟨(by have:=cQ;omega),by simpa [uK] using ai⟩
   ·cases Y
  have ar:G1 (cg (some (d0,r)) a).e [] (cg (some (d0,r)) a).h:=by
   intro x U ty s nv cs l az;simp only[cg]at l;split at l
   ·simp only[ae5]at l;subst l;intro au;obtain⟨ks,ay,hc⟩:=Ag ai az;rw[show ({ r with v:=0 } : Row).cells=r.cells from rfl,hc]at au;cases au
   ·cases l
  apply calls_of_wp hf hc;refine jh hT hΓ hm c (cg (some (d0,r)) a) x s _ _ _ hv X ⟨_,⟨(by rw[aa];exact hI.weaken fun x v l =>.inl ⟨l.1,.inl l.2⟩),ar⟩⟩ (fun W w' hH =>?_);obtain⟨q,ag⟩:=hH;obtain⟨sE,O⟩:∃sE:St,sE=⟨s.t,EH s.h,s.e⟩:=⟨_,rfl⟩;have hI':Inv B.ntmps M (KK C) w q (VE B.ntmps s.e [] s.h) sE.t sE.h W w':=by rw[O];exact ag.inv
  rw[<- O]at d;have t:ez (vA C) w w':=⟨hI'.below.os,hI'.below.tape,hI'.below.output,hI'.below.size,fun k Y hn=>hI'.below.block k Y (fun e=>hn (J1.1 e))⟩;have I:∀m,lM (some (d0,r)) sE=some (some m)->sE.h 0=some m∧m.v=0∧m.fz=false∧(m.ty=r.ty∧(m.mp=r.mp∧uK m=true))∧q 0=C∧(∀g,C=some g->w'.shape? g.1=w.shape? g.1)∧(∀b,(M b∨vA C b)->Own M sE.h q b):=by
   intro m hl;simp only[lM]at hl;split at hl<;>try (cases hl;done)
   rename_i r2 h2;split at hl<;>try (cases hl;done)
   rename_i ak;simp only[ae5]at hl;subst hl;obtain⟨c1,c2,c3⟩:=ak;obtain⟨_,k2⟩:=hI'.pin _ rfl;obtain⟨k3,k4⟩:=k2 r2 h2 c1;refine⟨h2,c1,c2,c3,k3,k4,?_⟩;rintro b (e|⟨g,K,he⟩)
   ·exact .inl e
   ·exact .inr ⟨0,r2,g,h2,c2,k3.trans K,he.symm⟩
  have J:∀m,lM (some (d0,r)) sE=some (some m)->Sg w' (fun b=>M b∨vA C b) C m:=by
   intro m hl;obtain⟨E,_,_,h4,h5,_,h7⟩:=I m hl;have:=(hI'.rows 0 m E).2;rw[h5]at this;cases C with
   | none=>exact this
   | some g =>
    exact dV.keep this.2 rfl rfl rfl rfl (fun b E h2=>⟨E,fun e=>h2 (h7 b e),rfl⟩)
  have u:W.defers=[]∧∃v,(results B W.tmps).run P w'=.ok v w'∧(∃v',Ending.returned v=.returned v'∧ez (vA C) w w'∧ZK w w' M C r ae∧ZM w w' M C v' rk):=by
   refine⟨hI'.defers,?_⟩;cases L with
   | clean =>
    simp only[eB,qY]at d;split at d<;>try (cases d;done)
    rename_i ds fr o Q R;split at d<;>try (cases d;done)
    rename_i av;simp only[Xn,afy,List.contains_eq_mem,decide_eq_false_iff_not]at av;simp only[ae5,Prod.mk.injEq]at d;obtain⟨rfl,rfl⟩:=d;cases o with
    | none =>
     simp only[lM]at R;split at R<;>try (cases R;done)
     split at R<;>cases R
    | some m =>
     obtain⟨E,h2,h3,h4,h5,h6,h7⟩:=I m R;have al:pT M sE.h q fr (fun b=>M b∨vA C b):=by
      refine⟨h7,fun x l U g aw K e =>?_⟩;rcases e with e|⟨g',aA,he⟩
      ·exact hI'.notM aw K e
      ·have:x=0:=hI'.inj x 0 U m g g' aw E K (h5.trans aA) he;subst this;exact av l
     obtain⟨v,H,z⟩:=sF (P:=P) hT hI' Q al;exact⟨v,H,v,rfl,t,⟨h4.1,h3,h4.2,h6,J m R⟩,z⟩
   | same =>
    simp only[eB,Kn]at d;split at d<;>try (cases d;done)
    rename_i i ah;split at d<;>try (cases d;done)
    rename_i sz o n m ht R;simp only[ae5,Prod.mk.injEq]at d;obtain⟨rfl,rfl⟩:=d;obtain⟨E,h2,h3,h4,h5,h6,h7⟩:=I m R;refine⟨W.tmps.getD i undef,pr ah,_,rfl,t,⟨h4.1,h3,h4.2,h6,J m R⟩,?_⟩;have Z:=hI'.slots i;rw[ht]at Z;refine⟨trivial,fun U _ _ =>?_⟩;have:=Z.2 m E h2;rw[h5]at this;exact this
   | tight =>
    simp only[eB,EG]at d;cases d
   | fresh ax s0 =>
    obtain⟨rfl,v,ty,sz,n,cells,rfl,H,z⟩:=hI'.tq (P:=P) d;refine⟨v,H,v,rfl,t,trivial,?_⟩;rcases z with⟨g,k1,cs,k2,k3,k4⟩|z
    ·exact .inl ⟨g,k1,cs,k2,k3.imp id (fun e=>J1.1 e),k4⟩
    ·exact .inr z
  cases x with
  | normal=>exact u
  | ret=>exact u
  | exit n=>exact (an n rfl).elim
def ext (Γ:Env) (f:Nat) (l:Bool) (G:Option (D×Row)->List D->Option (RK×Option Row)):Env:=⟨fun g=>if g=f then l else Γ.lends g,fun g a b=>if g=f then G a b else Γ.sem g a b,Γ.own,Γ.hint,Γ.ins,Γ.grw,Γ.nst,Γ.nx⟩
def bG.ext (d:bG P Γ) {f:Nat} {l:Bool} {G:Option (D×Row)->List D->Option (RK×Option Row)} (i:∀a b e c,G a b=some (e,c)->sJ P f a b e c) (j:eW P f):bG P (Am.ext Γ f l G):=by
 refine⟨fun g a b e c h =>?_,d.ins,d.grw,d.lnd,d.res⟩;simp only[Am.ext]at h;split at h
 ·rename_i k;subst k;exact⟨i a b e c h,j⟩
 ·exact d.calls g a b e c h
def bl:Env:=⟨fun _=>false,fun _ _ _=>none,fun _=>true,fun _=>none,fun _=>none,fun _=>none,fun _=>none,{}⟩
def bG.none:bG P bl:=⟨fun f a b d c h=>(by cases h),fun f p h=>(by cases h),fun f p h=>(by cases h),fun f p h=>(by cases h),fun f p h=>(by cases h)⟩
def keep (d:Nat) (Γ:Env):Env:=⟨Γ.lends,Γ.sem,fun i=>i != d&&Γ.own i,Γ.hint,Γ.ins,Γ.grw,Γ.nst,Γ.nx⟩
def bG.keep (a:bG P Γ) (d:Nat):bG P (Am.keep d Γ):=⟨a.calls,a.ins,a.grw,a.lnd,a.res⟩
def vv (d:Nat) (p:Nat×Nat×Nat) (Γ:Env):Env:=⟨Γ.lends,Γ.sem,Γ.own,Γ.hint,Γ.ins,Γ.grw,fun i=>if i=d then some p else Γ.nst i,Γ.nx⟩
def bG.vv (a:bG P Γ) (d:Nat) (p:Nat×Nat×Nat):bG P (Am.vv d p Γ):=⟨a.calls,a.ins,a.grw,a.lnd,a.res⟩
end
def s5 (ty t s o:Nat) (cs a:List D):St:=⟨fun i=>(.ptr 0 0 o::a).getD i .und,oa (jy ty t s 0 cs),1⟩
def ZZ (t s:Nat) (b:List D):List D->Option (D×List D)
 | [.nr c d _ a]=>if c=t∧d=s then some (nk b,a) else none
 | _=>none
def ZY (ty t s:Nat):Option (List D×List Nat)->Option Row->Option (D×List D)
 | some (a,b),some r=>if r.v=0∧r.fz=false∧r.ty=ty∧r.mp=true∧b.all (fun k=>rt k != 0)=true then ZZ t s a r.cells else none
 | _,_=>none
def ab9 (T:Nat->Option Ty) (ty t s:Nat) (b:List ResultVar) (a:St):Option (D×List D):=ZY ty t s (vw T ⟨a.t,EH a.h,a.e⟩ b) (a.h 0)
def RZ (T:Nat->Option Ty) (Γ:Env) (F:Nat) (b:Func) (ty t s o:Nat) (cs a:List D):Option (D×List D) :=
 match b.body with
 | some c =>
  if b.ntmps<=PK then
   match fV T Γ b.ntmps F c (s5 ty t s o cs a) with
   | some (.exit _,_)=>none
   | some (_,st)=>ab9 T ty t s b.results.toList st
   | none=>none
  else none
 | none=>none
def ZX (x S n:Nat) (ty:Nat):List D->Option (Nat×Nat×Nat×Nat×Nat×List D)
 | [.nr t s _ cs]=>if x<PK then some (ty,t,s,S,n,cs) else none
 | _=>none
def ZW (x v S n:Nat):Option Row->Option (Nat×Nat×Nat×Nat×Nat×List D)
 | some r=>if r.v=v∧r.fz=false∧r.mp=true then ZX x S n r.ty r.cells else none
 | none=>none
def ZV (h:Nat->Option Row):D->Option (Nat×Nat×Nat×Nat×Nat×List D)
 | .buf x v S 0 n=>ZW x v S n (h x)
 | _=>none
def ab8 (b:List ResultVar) (a:St):Option (Nat×Nat×Nat×Nat×Nat×List D) :=
 match b with
 | [.tmp i]=>ZV a.h (a.t i)
 | _=>none
def LG (T:Nat->Option Ty) (Γ:Env) (F:Nat) (b:Func) (a:List D):Option (Nat×Nat×Nat×Nat×Nat×List D) :=
 match b.body with
 | some c =>
  if b.ntmps<=PK then
   match fV T Γ b.ntmps F c (cg none a) with
   | some (.exit _,_)=>none
   | some (_,st)=>ab8 b.results.toList st
   | none=>none
  else none
 | none=>none
section
variable {P:Program} {T:Nat->Option Ty} {N:Nat} {M:Nat->Prop} {L:jM} {w0:World} {blk:Nat->Option (Nat×Nat)} {a:Act} {w:World} {Γ:Env}
def LI (hT:iI P T) (hΓ:bG P Γ) (hm:P.follows .mixedOrders=true) {f:FuncId} {K:Func} {F:Nat} {ty t s o:Nat} {cs a ad:List D} {d:D} (hf:P.funcs[f]? = some K)
  (W:(match K.body with|some c=>codeOk c|none=>true)=true) (hn:a.length+1<=K.ntmps)
  (z:RZ T Γ F K ty t s o cs a=some (d,ad)):PV P f ty t s o cs a d ad:=by
 unfold RZ at z;split at z<;>try (cases z;done)
 rename_i c hc;rw[hc]at W;simp only at W;split at z<;>try (cases z;done)
 rename_i ae;split at z<;>try (cases z;done)
 rename_i x st al hv;intro w M blk E C m vs L N hM hdis X hR A;have ay:=cQ;have ag:∀k r,E k=some r->r.fz=false:=by
  intro k r G;rw[L]at G;rcases jq G with⟨_,rfl⟩|⟨_,_,_,_,_,rfl⟩<;>rfl
 have H:∀b,Own M E blk b↔(M b∨xl blk E b):=by
  intro b;constructor
  ·rintro (e|⟨k,r,g,C,_,h2,h3⟩)
   ·exact .inl e
   ·exact .inr ⟨k,r,g,C,h2,h3⟩
  ·rintro (e|⟨k,r,g,C,h2,h3⟩)
   ·exact .inl e
   ·exact .inr ⟨k,r,g,C,ag k r C,h2,h3⟩
 have Y:E 0=some ⟨0,ty,cs.mapIdx (rP 0 s),false,true,true⟩:=by rw[L];exact wU
 obtain⟨LL,Z⟩:∃LL:jM,LL=some (some m,xl blk E):=⟨_,rfl⟩;have O:∀b,LB LL b↔xl blk E b:=by
  intro b;subst Z;constructor
  ·rintro⟨p,hp,h⟩;cases hp;rcases h with⟨g,S,rfl⟩|h
   ·cases S;exact⟨0,_,m,Y,X,rfl⟩
   ·exact h
  ·exact fun h=>⟨_,rfl,.inr h⟩
 have hI:Inv K.ntmps M LL w blk (fun x v=>x<K.ntmps∧v<1) (s5 ty t s o cs a).t E { tmps:=(#[Value.pointer (some ⟨m.1,m.2+o,none⟩)]++vs)++Array.replicate (K.ntmps-(#[Value.pointer (some ⟨m.1,m.2+o,none⟩)]++vs).size) undef,defers:=[] } w:={
  tab:=fun b e=>(A.tab b e).less fun b e=>(H b).1 e
  below:=ez.refl _ _
  mlt:=hM
  lent:=fun b e=>hdis b ((O b).1 e)
  pin:=fun p hp=>by
   subst Z;cases hp;exact⟨⟨by omega,agE⟩,fun r' _ _=>⟨X,fun g _=>rfl⟩⟩
  defers:=rfl
  tsz:=by have:=A.1;simp;omega
  slots:=fun i=>by
   simp only[s5];rcases wY (args := .ptr 0 0 o::a) (vs:=#[.pointer (some ⟨m.1,m.2+o,none⟩)]++vs) (n:=K.ntmps) (i:=i) (by simp[A.1];omega) with he|he
   ·rw[he];cases i with
    | zero =>
     have e1:(#[Value.pointer (some ⟨m.1,m.2+o,none⟩)]++vs).getD 0 undef=.pointer (some ⟨m.1,m.2+o,none⟩):=by simp[Array.getElem?_append]
     rw[e1];simp only[af0];exact⟨⟨by omega,agE⟩,fun r' _ _=>⟨m,X,rfl⟩⟩
    | succ i =>
     have e1:(#[Value.pointer (some ⟨m.1,m.2+o,none⟩)]++vs).getD (i+1) undef=vs.getD i undef:=by
      simp only[ae1];rw[Array.getElem?_append_right (by simp)];simp
     rw[e1];simp only[af1]
     by_cases hi:i<a.length
     ·have C:=A.2 i _ (ae9 hi);have e1:a.getD i .und=a[i]:=by simp[List.getD,hi]
      rw[e1];exact bQ (C.less fun b e=>(H b).1 e)
     ·have e1:a.getD i .und=.und:=by simp[List.getD,agx (agD hi)]
      rw[e1];trivial
   ·rw[he];trivial
  rows:=fun k r G=>by
   refine⟨fun hn =>?_,?_⟩
   ·rw[L]at G;rcases jq G with⟨rfl,rfl⟩|⟨o',_,_,rfl,_,rfl⟩
    ·exact⟨hn,agE⟩
    ·have:=e9 0 o';omega
   ·have:=hR.rows k r G;cases S:blk k with
    | none=>rw[S]at this;exact this
    | some g =>
     rw[S]at this;exact⟨.inr ((O g.1).2 ⟨k,r,g,G,S,rfl⟩),this.keep rfl rfl rfl rfl fun b U q2=>⟨U,fun e=>q2 ((H b).1 e),rfl⟩⟩
  inj:=hR.inj
  big:=ae
  pha:=hR.pha
  ali:=fun y r g hy hz=>by rw[ag y r hy]at hz;cases hz }
 have ah:G1 (s5 ty t s o cs a).e [] (s5 ty t s o cs a).h:=by
  intro k r' az s' an ao V aA ai;simp only[s5,oa]at V;split at V
  ·simp only[ae5]at V;subst V;simp only[jy,afk,D.nr.injEq,and_true]at ai;obtain⟨_,_,rfl,_⟩:=ai;exact fun _=>⟨by simp[s5],fun _=>by simp[s5]⟩
  ·cases V
 have aq:EH (s5 ty t s o cs a).h=E:=L.symm;apply calls_of_wp hf hc;refine jh hT hΓ hm c (s5 ty t s o cs a) x st _ _ _ hv W ⟨_,⟨(by rw[aq];exact hI.weaken fun x v V=>Or.inl ⟨V.1,Or.inl V.2⟩),ah⟩⟩ (fun a' w' hH =>?_);obtain⟨u,ar⟩:=hH;have hI':=ar.inv;unfold ab9 ZY at z;split at z<;>try (cases z;done)
 rename_i ds fr r1 aj Q;split at z<;>try (cases z;done)
 rename_i aa;obtain⟨c1,c2,c3,c4,c5⟩:=aa;unfold ZZ at z;split at z<;>try (cases z;done)
 rename_i t' s' an ao j;split at z<;>try (cases z;done)
 rename_i au;obtain⟨rfl,rfl⟩:=au;simp only[ae5,Prod.mk.injEq]at z;obtain⟨rfl,rfl⟩:=z;have av:=fJ Q c4 j nL;obtain⟨p1,p2⟩:=(hI'.pin (some m,xl blk E) Z).2 _ av c1;have R:=J0 (blk:=u) Q c4 j nL;rw[c3]at R;have hQ:∀b,(M b∨xl (rO u 0) C b)->Own M (EH st.h) u b:=by
  rintro b (e|e)
  ·exact .inl e
  ·rw[N]at e;obtain⟨k,r',g',q0,U,q2,q3⟩:=(R b).1 e;refine .inr ⟨k,r',g',U,?_,q2,q3⟩;rcases eD Q c4 j nL q0 U with⟨_,rfl⟩|⟨_,_,_,_,_,rfl⟩<;>exact c2
 have ab:pT M (EH st.h) u fr (fun b=>M b∨xl (rO u 0) C b):=by
  refine⟨hQ,fun k G r' g ak S e =>?_⟩;rcases e with e|e
  ·exact hI'.notM ak S e
  ·rw[N]at e;obtain⟨l,r2,g',q0,U,q2,q3⟩:=(R _).1 e;have:=hI'.inj k l r' r2 g g' ak U S q2 q3.symm;subst this;have:=ae7.1 c5 _ G;simp[q0]at this
 obtain⟨v,aw,ax⟩:=sF (P:=P) (s:=⟨st.t,EH st.h,st.e⟩) hT hI' aj ab;have I:=hI'.aa5 Q c4 j c2 nL hQ;rw[c3,<- N]at I;have J:a'.defers=[]∧∃v,(results K a'.tmps).run P w'=.ok v w'∧(∃v' B,Ending.returned v=.returned v'∧ez (xl blk E) w w'∧B 0=some m∧w'.shape? m.1=w.shape? m.1∧(∀b,xl B C b->w.heap.size<=b∨xl blk E b)∧HF w' (fun b=>M b∨xl B C b) B C∧RP w' (fun b=>M b∨xl B C b) (nk ds) v'):=by
  refine⟨hI'.defers,v,aw,v,rO u 0,rfl,⟨hI'.below.os,hI'.below.tape,hI'.below.output,hI'.below.size,fun k G hn=>hI'.below.block k G fun e=>hn ((O k).1 e)⟩,by rw[rO,sZ];exact p1,p2 m rfl,fun b e =>?_,I,ax⟩;rw[N]at e;obtain⟨k,r',g',q0,U,q2,q3⟩:=(R b).1 e;rcases hI'.base U q2 with q|q
  ·exact .inl (by omega)
  ·exact .inr (by rw[<- q3];exact (O _).1 q)
 cases x with
 | normal=>exact J
 | ret=>exact J
 | exit n=>exact (al n rfl).elim
def aek (I:iI P T) (J:bG P Γ) (K:P.follows .mixedOrders=true) {f:FuncId} {e:Func} {F:Nat} {a:List D} {c:Code} {x:Ex} {p:St} (L:P.funcs[f]? = some e) (N:e.body=some c) (z:codeOk c=true) (W:a.length<=e.ntmps) (t:e.ntmps<=PK)
  (O:fV T Γ e.ntmps F c (cg none a)=some (x,p)) (A:∀n,x ≠ .exit n) {w:World} {M:Nat->Prop} {vs:Array Value} (Q:∀b,M b->b<w.heap.size) (d:zB w M a vs) {Φ:Ending->World->Prop}
  (B:∀q o h,Inv e.ntmps M none w h (VE e.ntmps p.e [] p.h) p.t (EH p.h) q o->∃v,(results e q.tmps).run P o=.ok v o∧Φ (.returned v) o):Calls P f vs w Φ:=by
 have R:Inv e.ntmps M none w (fun _=>none) (fun x v=>x<e.ntmps∧v<0) (cg none a).t (cg none a).h { tmps:=vs++Array.replicate (e.ntmps-vs.size) undef,defers:=[] } w:={
  tab:=fun b j=>(d.tab b j).less fun b j=>by
   rcases j with j|⟨x,r,g,l,_⟩
   ·exact j
   ·cases l
  below:=ez.refl _ _
  mlt:=Q
  lent:=fun b j=>absurd j rV
  pin:=fun X S=>by cases S
  defers:=rfl
  tsz:=by have:=d.1;simp;omega
  slots:=fun i=>by
   simp only[cg];rcases wY (n:=e.ntmps) (i:=i) d.1 with he|he
   ·rw[he]
    by_cases C:i<a.length
    ·have E:=d.2 i _ (ae9 C);have G:a.getD i .und=a[i]:=by simp[List.getD,C]
     rw[G];exact bQ (E.less fun b j=>by
      rcases j with j|⟨x,r,g,l,_⟩
      ·exact j
      ·cases l)
    ·have G:a.getD i .und=.und:=by simp[List.getD,agx (agD C)]
     rw[G];trivial
   ·rw[he];trivial
  rows:=fun x r l=>by cases l
  inj:=fun x y r s g Y l=>by cases l
  big:=t
  pha:=fun y r g H=>by cases H
  ali:=fun y r g H=>by cases H }
 apply calls_of_wp L N;refine jh I J K c (cg none a) x p _ _ _ O z ⟨_,⟨(by rw[DF (fun k r B=>by cases B)];exact R.weaken fun x v l=>absurd l.2 (Nat.not_lt_zero _)),fun x r ty s nv cs l=>by cases l⟩⟩ (fun q o U =>?_);obtain⟨h,u⟩:=U;obtain⟨v,E,V⟩:=B q o h u.inv;have m:q.defers=[]∧∃v,(results e q.tmps).run P o=.ok v o∧Φ (.returned v) o:=⟨u.inv.defers,v,E,V⟩;cases x with
 | normal=>exact m
 | ret=>exact m
 | exit n=>exact (A n rfl).elim
def PI {F:Nat} {f:Func} {e:List D} {ty t s S n:Nat} {cs:List D} (a:LG T Γ F f e=some (ty,t,s,S,n,cs)) :
  ∃c x g i k v r nv,f.body=some c∧f.ntmps<=PK∧fV T Γ f.ntmps F c (cg none e)=some (x,g)∧(∀m,x ≠ .exit m)∧f.results.toList=[.tmp i]∧g.t i=.buf k v S 0 n∧g.h k=some r∧r.v=v∧r.fz=false∧r.mp=true∧k<PK∧r.ty=ty∧r.cells=[.nr t s nv cs]:=by
 unfold LG at a;split at a<;>try (cases a;done)
 rename_i c l;split at a<;>try (cases a;done)
 rename_i h;split at a<;>try (cases a;done)
 rename_i x g hne o;unfold ab8 at a;split at a<;>try (cases a;done)
 rename_i i j;unfold ZV at a;split at a<;>try (cases a;done)
 rename_i k v H I p;unfold ZW at a;split at a<;>try (cases a;done)
 rename_i r q;split at a<;>try (cases a;done)
 rename_i b;unfold ZX at a;split at a<;>try (cases a;done)
 rename_i J K nv u d;split at a<;>try (cases a;done)
 rename_i w;simp only[ae5,Prod.mk.injEq]at a;obtain⟨y,z,A,B,C,E⟩:=a;subst z A B C E;exact⟨c,x,g,i,k,v,r,nv,l,h,o,fun m G=>hne m G,j,p,q,b.1,b.2.1,b.2.2,w,y,d⟩
def LH (X:iI P T) (Y:bG P Γ) (Z:P.follows .mixedOrders=true) {f:FuncId} {E:Func} {F:Nat} {e:List D} {ty t s S n:Nat} {cs:List D} (hf:P.funcs[f]? = some E)
  (m:(match E.body with|some c=>codeOk c|none=>true)=true) (hn:e.length<=E.ntmps)
  (hr:LG T Γ F E e=some (ty,t,s,S,n,cs)):PU P f e ty t s S n cs:=by
 obtain⟨c,x,st,i,k,v,r,nv,Q,y,hv,K,L,ht,G,c1,R,H,I,z,a⟩:=PI hr;rw[Q]at m;simp only at m;intro w M h vs A hM o;refine aek X Y Z hf Q m hn y hv K hM o fun a' w' d j =>?_;have p:=J0 (blk:=d) G H a I;rw[z,<- A]at p;have B:Below w.heap.size w w':=j.below.below (fun b u=>absurd u rV);have hQ:∀b,(M b∨xl (rO d k) h b)->Own M (EH st.h) d b:=by
  rintro b (u|u)
  ·exact .inl u
  ·obtain⟨l,N,U,V,J,O,W⟩:=(p b).1 u;refine .inr ⟨l,N,U,J,?_,O,W⟩;rcases eD G H a I V J with⟨_,rfl⟩|⟨_,_,_,_,_,rfl⟩<;>exact R
 have g:=j.aa5 G H a R I hQ;rw[z,<- A]at g;have C:=j.slots i;rw[ht]at C;refine⟨_,pr L,_,rO d k,rfl,B,fun b u =>?_,g,trivial,fun N _ _ =>?_⟩
 ·obtain⟨l,N,U,V,J,O,W⟩:=(p b).1 u;rcases j.base J O with q|q
  ·omega
  ·exact absurd q rV
 ·rw[rO,sZ];exact C.2 _ (fJ G H a I) c1
end
def WY:dp->D
 | (n,none) =>.int .i64 n
 | (a,some b) =>.agg [.int .i64 a,.int .i64 b]
def NO {w:World} {M:Nat->Prop} (k:dp):RP w M (WY k) (lv k):=by
 obtain⟨a,x⟩:=k;cases x with
 | none=>exact .int _ _
 | some b =>
  refine .agg [.int .i64 a,.int .i64 b] [.int .i64 a,.int .i64 b] rfl (fun j x c =>?_) (fun x d =>?_)
  ·match j,c with
   | 0,c=>simp only[List.getElem?_cons_zero,ae5]at c;subst c;exact .int _ _
   | 1,c=>simp only[List.getElem?_cons_succ,List.getElem?_cons_zero,ae5]at c;subst c;exact .int _ _
   | j+2,c=>simp at c
  ·simp only[ae3,af2,or_false]at d;rcases d with rfl|rfl<;>rfl
section
variable {P:Program} {T:Nat->Option Ty} {N:Nat} {M:Nat->Prop} {L:jM} {w0:World} {blk:Nat->Option (Nat×Nat)} {V:Nat->Nat->Prop} {t:Nat->D} {h:Nat->Option Row} {a:Act} {w:World} {e:Nat} {o:Oper} {Γ:Env} {done:List Nat}
def vC {x v ty:Nat} {a:List dp} {vs:List D} {fz lst:Bool} (b:h x=some ⟨v,ty,[.mpc a vs],fz,lst,true⟩) (c:x<PK):EH h x=some ⟨v,ty,[.mpc a vs],fz,lst,true⟩∧∀o,EH h (NK x o)=none:=by
 constructor
 ·rw[s9 (by have:=cQ;omega),b];rfl
 ·intro o;rw[s8 c,b];rfl
def xo (m:ub N M L w0 blk e done t h a w) (p:∀d:Nat,o.dst=some d->d∉done∧d<N) {E:cd} {v:Value} {l:World} (b:gW e h (aW h E.hw)) (q:jK N M L w0 (VE N e done h) t h a e o.dst E v l):DD N M L w0 t h a e (o.dst.toList++done) E v l:=by
 have c:∀x,x∈done->x∈o.dst.toList++done:=fun x k=>afb _ k;obtain⟨f,g,i⟩:=q;have j:∀x n,VE N e done h x n∨(o.dst=some x∧n=e)->VE N e (o.dst.toList++done) (aW h E.hw) x n:=by
  rintro x n (r|⟨k,rfl⟩)
  ·exact r.step b c
  ·exact .inl ⟨(p x k).2,.inr ⟨rfl,afa _ (by rw[k];simp)⟩⟩
 exact⟨f,⟨g.weaken j,m.nv.step b c⟩,i.mono ⟨fun _ g i=>⟨g,i,rfl⟩,j,fun _ _ _ s g i=>⟨⟨s,g,i⟩,rfl,fun _ _=>rfl⟩⟩⟩
def AP {ops:Array Oper} {l:List Oper} {Q:Exit->Act->World->Prop} (i:o.guard=none) {K:(Nat->D)->(Nat->Option Row)->Prop} (r:ub N M L w0 blk e done t h a w) (j:fits N o.dst=true)
  (k:dZ P o a w fun v c=>∃E:cd,K (eO t o.dst E.val) (aW h E.hw)∧DD N M L w0 t h a e (o.dst.toList++done) E v c)
  (m:∀f h' g c b,K f h'->ub N M L w0 b e (o.dst.toList++done) f h' g c->wpList P ops Q l g c):wpList P ops Q (o::l) a w:=by
 unfold wpList;have:Region.wanted o (yielded ops a.tmps)=true:=by simp[Region.wanted,i]
 rw[this];simp only[if_true];refine .inl (k.wp fun v c n =>?_);obtain⟨E,p,b,d,q⟩:=n;exact m _ _ _ _ b p ⟨d.inv.abl j q,d.nv⟩
def Qi (hT:iI P T) (hI:Inv N M L w0 blk V t (EH h) a w) {ty d x v v' f k el:Nat} {m:Operand} {l:List dp} {vs:List D} {lst:Bool} (ho:o.op=.range ty m) (hd:o.dst=some d) (hV:js N V d e) (hu:P.underlying ty=some (.map k el)) (hm:ev t m=.mp x v)
  (K:h x=some ⟨v,f,[.mpc l vs],false,lst,true⟩) (ad:f<900000) (J:x<PK) (Q:d≠x) :
  dZ P o a w (jK N M L w0 V t h a e o.dst ⟨.ptr d e 0,[(x,some ⟨v,f,[.mpc l vs],true,true,true⟩),(d,some ⟨e,900000,[.mpc l vs],false,true,true⟩)]⟩):=by
 have au:=cQ;have ar:=hI.big;have av:d<N:=hV.lt;have F:d<PK:=by omega
 obtain⟨ae,aw⟩:=vC K J;have R:=hI.ev m;rw[hm]at R;have ag:kR (EH h) x v=some (l,vs):=by unfold kR;rw[ae];simp[ad]
 obtain⟨g,r,h1,h2,h3,h4,h5,ah,S,B,c,p,ax,ai,us,hk,hv⟩:=hI.N1 ag R;have U:=run_range_map (P:=P) w ty k el g.1 B c hu p;have aj:=hI.le (zS (h:=h) d F);have ak:bY h d none x=some ⟨v,f,[.mpc l vs],false,lst,true⟩:=by rw[aC _ _ (Ne.symm Q)];exact K
 obtain⟨W,X⟩:=vC ak J;have hA:=aj.freeze [x];have C:∀z,aW (EH (bY h d none)) (jw (EH (bY h d none)) [x]) z=if z=x then some ⟨v,f,[.mpc l vs],true,true,true⟩ else EH (bY h d none) z:=by
  intro z;rw[AW]
  by_cases hz:z=x
  ·subst hz;rw[if_pos (by simp),if_pos rfl,W];rfl
  ·rw[if_neg (by simpa using hz),if_neg hz]
 generalize ay:aW (EH (bY h d none)) (jw (EH (bY h d none)) [x])=G at hA C;have Y:=heap_alloc_new w (.mapIter (some g.1) c #[] c);have hold:∀b,b<w.heap.size->(w.alloc (.mapIter (some g.1) c #[] c)).heap[b]? = w.heap[b]?:=fun b s=>Below.heap_alloc w _ b s;have u:=(Below.refl w.heap.size w).alloc (aeX _) (.mapIter (some g.1) c #[] c);have Z:g.1<w.heap.size:=(af5.1 p).1;have H:G x=some ⟨v,f,[.mpc l vs],true,true,true⟩:=by rw[C,if_pos rfl]
 have al:¬Own M G blk g.1:=by
  rintro (s|⟨y,r',g',E,A,I,he⟩)
  ·exact hA.notM H h5 s
  ·have:y=x:=hA.inj y x r' _ g' g E H I h5 he;subst this;rw[H]at E;cases E;cases A
 have hB:=hA.DU (w':=w.alloc (.mapIter (some g.1) c #[] c)) (h1:=G) (old:=none) (d:=d) (e:=e) (r0:=⟨e,900000,[.mpc l vs],false,true,true⟩) (go:=some (w.heap.size,0)) u.os u.tape u.output u.size (fun k hk _=>hold k hk) (fun y E=>by cases E) rfl hV
  ⟨.inl (aeX _),.inl ⟨l,vs,rfl,S,fun q=>absurd q (Nat.lt_irrefl _),fun _=>⟨rfl,g.1,B,c,#[],[],List.range l.length,us,Y,by have:=u.size;omega,by
   rintro (s|s)
   ·exact al s
   ·have:g.1=w.heap.size:=s;omega,(hold _ Z).trans p,ai,(af8 900000).symm,aeY _,by simp,List.nodup_range,fun i=>by
   rw[agB];constructor
   ·intro hi;exact⟨B[i]'(by omega),af7 (by omega),by simp⟩
   ·rintro⟨e1,an,_⟩;have:=(af5.1 an).1;omega,fun i hi=>by simp at hi,fun j k' O=>by
   obtain⟨e1,p1,p2,p3⟩:=hk j k' O;have ao:=(afp.1 O).1;exact⟨j,e1,by simp[ao],p1,p2,p3⟩,fun j y O=>(hv j y O).keep fun b q1 q2=>⟨by have:=u.size;omega,by
    rintro (s|s)
    ·apply q2;rcases s with s|⟨y,r',g',E,A,I,he⟩
     ·exact .inl s
     ·by_cases aa:y=x
      ·subst aa;rw[H]at E;cases E;cases A
      ·rw[C,if_neg aa]at E;obtain⟨r2,q3,q4⟩:=zS (h:=h) d F y r' E;refine .inr ⟨y,r2,g',q3,?_,I,he⟩;rcases q4 with rfl|⟨_,cs,rfl,_⟩|⟨_,kk,rfl⟩
       ·exact A
       ·exact A
       ·exact A
    ·have:b=w.heap.size:=s;omega,hold b q1⟩⟩⟩⟩ rfl rfl (fun _ g' I j x' s' n' O=>by cases j<;>simp at O)
 have ab:bY G d (some (⟨e,900000,[.mpc l vs],false,true,true⟩:Row))=EH (aW h [(x,some ⟨v,f,[.mpc l vs],true,true,true⟩),(d,some ⟨e,900000,[.mpc l vs],false,true,true⟩)]):=by
  have aq:aW h [(x,some ⟨v,f,[.mpc l vs],true,true,true⟩),(d,some ⟨e,900000,[.mpc l vs],false,true,true⟩)]=bY (bY h x (some ⟨v,f,[.mpc l vs],true,true,true⟩)) d (some ⟨e,900000,[.mpc l vs],false,true,true⟩):=rfl;rw[aq];have k1:bY (bY h x (some (⟨v,f,[.mpc l vs],true,true,true⟩:Row))) d (some ⟨e,900000,[.mpc l vs],false,true,true⟩) d=some ⟨e,900000,[.mpc l vs],false,true,true⟩:=aA _ _ _;have k2:bY (bY h x (some (⟨v,f,[.mpc l vs],true,true,true⟩:Row))) d (some ⟨e,900000,[.mpc l vs],false,true,true⟩) x=some ⟨v,f,[.mpc l vs],true,true,true⟩:=by rw[aC _ _ (Ne.symm Q),aA]
  obtain⟨m1,m2⟩:=vC k1 F;obtain⟨m3,m4⟩:=vC k2 J;have k3:bY h d none d=none:=aA _ _ _;funext z
  by_cases hzd:rt z=d
  ·rcases pF hzd with rfl|⟨o',rfl⟩
   ·rw[aA,m1]
   ·rw[aC _ _ (by have:=e9 d o';omega),m2,C,if_neg (by have:=e9 d o';omega),s8 F,k3];rfl
  ·rw[aC _ _ (fun e=>hzd (by rw[e,ig (by omega)])),C]
   by_cases hzx:rt z=x
   ·rcases pF hzx with rfl|⟨o',rfl⟩
    ·rw[if_pos rfl,m3]
    ·rw[if_neg (by have:=e9 x o';omega),m4,X]
   ·rw[if_neg (fun e=>hzx (by rw[e,ig (by omega)]))];exact ec (by rw[aC _ _ hzd,aC _ _ hzd,aC _ _ hzx])
 rw[ab]at hB;refine aN (v := .pointer (some ⟨w.heap.size,0,none⟩)) (w':=w.alloc (.mapIter (some g.1) c #[] c)) ?_ ⟨bY blk d (some (w.heap.size,0)),hB.weaken fun x n K =>?_,?_⟩
 ·simp[execOp,ho,ah,U]
 ·rcases K with K|⟨rfl,rfl⟩
  ·exact .inl K
  ·exact .inr ⟨hd,rfl⟩
 ·exact⟨.inr ⟨hd,rfl⟩,fun r hr hv=>⟨(w.heap.size,0),aA _ _ _,rfl⟩⟩
def Inv.iter (k:Inv N M L w0 blk V t (EH h) a w) {y v ty:Nat} {p:Operand} {f:List dp} {vs:List D} {lst:Bool} (m:Am.ev t p=.ptr y v 0) (n:h y=some ⟨v,ty,[.mpc f vs],false,lst,true⟩) (i:900000<=ty) (j:y<PK) :
  ∃(g:Nat×Nat),blk y=some g∧a.eval p=.pointer (some ⟨g.1,g.2+0,none⟩)∧vs.length=f.length∧LS w (Own M (EH h) blk) g ty f vs:=by
 obtain⟨c,_⟩:=vC n j;have d:=k.ev p;rw[m]at d;obtain⟨g,l,o⟩:=d.2 _ c rfl;have b:=k.rowIs c l;unfold dV at b;simp only at b;rcases b with⟨q,r,e,s,_,u⟩|⟨e,_⟩
 ·simp only[afk,D.mpc.injEq,and_true]at e;obtain⟨rfl,rfl⟩:=e;exact⟨g,l,o,s,u i⟩
 ·have:=e _ (afj.2 rfl);cases this
def R6 {y v ty b:Nat} {i c:List dp} {vs d:List D} {fz lst fz' a:Bool} (j:h y=some ⟨v,ty,[.mpc i vs],fz,lst,true⟩) (f:y<PK):EH (bY h y (some ⟨v,b,[.mpc c d],fz',a,true⟩))=bY (EH h) y (some ⟨v,b,[.mpc c d],fz',a,true⟩):=by
 obtain⟨_,k⟩:=vC j f;have g:bY h y (some (⟨v,b,[.mpc c d],fz',a,true⟩:Row)) y=some ⟨v,b,[.mpc c d],fz',a,true⟩:=aA _ _ _;obtain⟨l,m⟩:=vC g f;funext z
 by_cases hz:rt z=y
 ·rcases pF hz with rfl|⟨n,rfl⟩
  ·rw[aA,l]
  ·rw[aC _ _ (by have:=e9 y n;have:=cQ;omega),m,k]
 ·rw[aC _ _ (fun e=>hz (by rw[e,ig (by have:=cQ;omega)]))];exact ec (by rw[aC _ _ hz])
def Ud (hI:Inv N M L w0 blk V t (EH h) a w) {y v ty:Nat} {p:Operand} {I:List dp} {vs:List D} {lst:Bool} (ho:o.op=.next p false) (hp:ev t p=.ptr y v 0) (hy:h y=some ⟨v,ty,[.mpc I vs],false,lst,true⟩) (ay:900000<=ty) (R:y<PK) :
  dZ P o a w fun v' w'=>(I.drop (ty-900000)=[]∧jK N M L w0 V t h a e o.dst ⟨.tup [.bool false],[]⟩ v' w') ∨
   ∃(j:Nat) (k:dp) (x:D),(I.drop (ty-900000))[j]? = some k∧(vs.drop (ty-900000))[j]? = some x∧jK N M L w0 V t h a e o.dst ⟨.tup [.bool true,WY k,x],[(y,some ⟨v,900001,[.mpc (k::(I.drop (ty-900000)).eraseIdx j) (x::(vs.drop (ty-900000)).eraseIdx j)],false,lst,true⟩)]⟩ v' w':=by
 obtain⟨g,hg,ae,ao,aq,b,s,f,seen,c,l,us,h1,h2,h3,h4,ag,k1,k2,k3,k4,k5,k6,k7,k8⟩:=hI.iter hp hy ay R;rw[aq,afw]at ae;obtain⟨ah,_⟩:=vC hy R;rw[<- k1];have S:(I.drop c.length).length=l.length:=by rw[afg,<- k3,af6];omega
 have az:(vs.drop c.length).length=l.length:=by rw[afg,ao,<- k3,af6];omega
 rcases run_next_at (P:=P) w o.type g.1 b f f seen s f h1 h4 ag.1 (aeX _) with⟨aA,F⟩|⟨B,aB,w1,aD,F⟩
 ·refine aN (v := .tuple #[.bool false]) (w':=w) (by simp[execOp,ho,ae,F]) (.inl ⟨?_,?_⟩)
  ·have aE:l=[]:=by
    refine List.eq_nil_iff_forall_not_mem.2 fun i T =>?_;obtain⟨e1,G,q2⟩:=(k5 i).1 T;have:e1∈(leftOf s seen).toList:=by
     unfold leftOf;simp only[Array.toList_filter,agy];exact⟨by simpa using afL G,by rw[q2];rfl⟩
    have h0:(leftOf s seen).toList.length=0:=by simpa using aA
    rw[aga h0]at this;cases this
   rw[aE]at S;exact aga S
  ·refine bn.dO (h:=EH h) hI (bQ (.tup _ [_] rfl fun j x O =>?_))
   match j,O with
   | 0,O=>simp only[List.getElem?_cons_zero,ae5]at O;subst O;exact .bool _
   | j+1,O=>simp at O
 ·obtain⟨m1,m2⟩:=mem_left aB;obtain⟨i,T⟩:=afi m1;rw[afK]at T;have aF:i∈l:=(k5 i).2 ⟨B,T,m2⟩;obtain⟨j,O⟩:∃j,j=l.idxOf i:=⟨_,rfl⟩;have aG:j<l.length:=by rw[O];exact af4 aF
  have aH:l[j]? = some i:=by rw[ae9 aG];simp[O]
  have ar:l.erase i=l.eraseIdx j:=List.erase_eq_eraseIdx_of_idxOf O.symm;have U:(I.drop c.length)[j]? = some ((I.drop c.length)[j]'(by omega)):=ae9 _;have W:(vs.drop c.length)[j]? = some ((vs.drop c.length)[j]'(by omega)):=ae9 _;generalize (I.drop c.length)[j]'(by omega)=k at U;generalize (vs.drop c.length)[j]'(by omega)=x at W;have au:∀n:Nat,(c++l)[c.length+n]? = l[n]?:=fun n=>by rw[afT (by omega)];congr 1;omega
  have H:B.key=lv k∧B.val=us (c.length+j):=by
   rw[afd]at U;obtain⟨i',J,G,q2,X,q4⟩:=k7 _ _ U;rw[au,aH]at G;cases G;rw[T]at q2;cases q2;exact⟨X,q4⟩
  have Z:RP w (Own M (EH h) blk) x (us (c.length+j)):=by
   rw[afd]at W;exact k8 _ _ W
  have av:w1.heap=w.heap∧w1.os=w.os∧w1.tape=w.tape∧w1.output=w.output:=by rcases aD with rfl|rfl<;>exact⟨rfl,rfl,rfl,rfl⟩
  obtain⟨p1,p2,p3,p4⟩:=av;generalize Y:ChangeMaps.setBlock w1 g.1 (.mapIter (some b) f (seen.push B.born) f)=w' at F;have aw:g.1<w.heap.size:=(af5.1 h1).1;have ai:w'.heap=w.heap.setIfInBounds g.1 (.mapIter (some b) f (seen.push B.born) f):=by rw[<- Y,<- p1];rfl
  have aj:w'.heap.size=w.heap.size:=by rw[ai];simp
  have aa:w'.heap[g.1]? = some (.mapIter (some b) f (seen.push B.born) f):=by rw[ai,Array.getElem?_setIfInBounds,if_pos rfl,if_pos aw]
  have hheap:∀Q,Q≠g.1->w'.heap[Q]? = w.heap[Q]?:=fun Q hb=>by rw[ai,Array.getElem?_setIfInBounds,if_neg (Ne.symm hb)]
  have ab:Own M (EH h) blk g.1 := .inr ⟨y,_,g,ah,rfl,hg,rfl⟩;have aI:b≠g.1:=fun e=>h3 (e ▸ ab);have ak:∀ {d:D} {u:Value},RP w (Own M (EH h) blk) d u->RP w' (Own M (EH h) blk) d u:=fun hr=>hr.keep fun b G q2=>⟨by rw[aj];exact G,q2,hheap b (fun e=>q2 (e ▸ ab))⟩;have ad:∀ {n:Nat} {J:MapEntry},s[n]? = some J->(J.born==B.born)=decide (n=i):=by
   intro n J A
   by_cases al:n=i
   ·subst al;rw[T]at A;cases A;simp
   ·have:J.born≠B.born:=by
     intro he;have aJ:=ag.2.1;have a1:(s.toList.map (·.born))[n]? = some J.born:=by simp[A]
     have a2:(s.toList.map (·.born))[i]? = some B.born:=by simp[T]
     have aK:=(afp.1 a1).1;have aL:=(afp.1 a2).1;exact al ((List.getElem_inj (h₀:=aK) (h₁:=aL) aJ).1 (by
      have b1:=(afp.1 a1).2;have b2:=(afp.1 a2).2;rw[b1,b2,he]))
    simp[al,this]
  have hB:=hI.kg (x:=y) (r:=⟨v,ty,[.mpc I vs],false,lst,true⟩) (r0:=⟨v,900001,[.mpc (k::(I.drop c.length).eraseIdx j) (x::(vs.drop c.length).eraseIdx j)],false,lst,true⟩) (w':=w') ah rfl rfl
   (by rw[<- Y];exact p2) (by rw[<- Y];exact p3) (by rw[<- Y];exact p4) (by rw[aj];exact aeX _) (fun Q _ hb=>hheap Q (hb g hg)) (by
   rw[hg];refine⟨by simp[World.shape?,aa,h1],.inl ⟨_,_,rfl,?_,fun q=>absurd q (by show ¬(900001<900000);omega),fun _=>⟨aq,b,s,f,seen.push B.born,[i],l.eraseIdx j,fun m=>if m=0 then B.val else us (c.length+(if m-1<j then m-1 else m)),aa,by rw[aj];exact h2,h3,(hheap b aI).trans h4,ag,(agf (n:=900000) (m:=1)).symm,aeX _,?_,?_,fun n =>?_,fun n A =>?_,fun m k' E =>?_,fun m x' E =>?_⟩⟩⟩
   ·simp only[List.length_cons,List.length_eraseIdx];rw[S,az]
   ·simp only[af6,List.length_cons,List.length_nil,List.length_eraseIdx];rw[S];split<;>omega
   ·rw[<- ar];exact k4.erase _
   ·rw[<- ar,k4.mem_erase_iff,k5];constructor
    ·rintro⟨G,J,q2,X⟩;exact⟨J,q2,by rw[contains_push,X,ad q2];simpa using G⟩
    ·rintro⟨J,q2,X⟩;rw[contains_push,ad q2,Bool.or_eq_false_iff,decide_eq_false_iff_not]at X;exact⟨X.2,J,q2,X.1⟩
   ·simp only[afj]at A;subst A;exact⟨B,T,by simp⟩
   ·cases m with
    | zero =>
     simp only[List.getElem?_cons_zero,ae5]at E;subst E;exact⟨i,B,rfl,T,H.1,by simp⟩
    | succ m =>
     rw[af3,List.getElem?_eraseIdx]at E;have K:(I.drop c.length)[if m<j then m else m+1]? = some k':=by
      by_cases C:m<j
      ·rw[if_pos C]at E ⊢;exact E
      ·rw[if_neg C]at E ⊢;exact E
     rw[afd]at K;obtain⟨i',J,G,q2,X,q4⟩:=k7 _ _ K;rw[au]at G;refine⟨i',J,?_,q2,X,?_⟩
     ·rw[List.singleton_append,af3,List.getElem?_eraseIdx]
      by_cases C:m<j
      ·rw[if_pos C]at G ⊢;exact G
      ·rw[if_neg C]at G ⊢;exact G
     ·simp only[Nat.add_eq_zero_iff,agV,and_false,if_false,agJ];exact q4
   ·cases m with
    | zero =>
     simp only[List.getElem?_cons_zero,ae5]at E;subst E;simp only[if_true];rw[H.2];exact ak Z
    | succ m =>
     rw[af3,List.getElem?_eraseIdx]at E;have K:(vs.drop c.length)[if m<j then m else m+1]? = some x':=by
      by_cases C:m<j
      ·rw[if_pos C]at E ⊢;exact E
      ·rw[if_neg C]at E ⊢;exact E
     rw[afd]at K;simp only[Nat.add_eq_zero_iff,agV,and_false,if_false,agJ];exact ak (k8 _ _ K)) (fun hh=>by cases hh) (fun _ g' an j' x' s' n' aM=>by cases j'<;>simp at aM)
  refine aN (v := .tuple #[.bool true,B.key,B.val]) (w':=w') (by simp[execOp,ho,ae,F]) (.inr ⟨j,k,x,U,W,blk,?_,?_⟩)
  ·show Inv _ _ _ _ _ _ _ (EH (bY h y (some _))) _ _;rw[R6 hy R];exact hB.weaken fun _ _ h =>.inl h
  ·have aO:∀Q,Own M (EH (bY h y (some ⟨v,900001,[.mpc (k::(I.drop c.length).eraseIdx j) (x::(vs.drop c.length).eraseIdx j)],false,lst,true⟩))) blk Q->Own M (EH h) blk Q:=by
    rw[R6 hy R];rintro Q (hb|⟨z,r',g',hz,aP,an,he⟩)
    ·exact .inl hb
    ·by_cases ax:z=y
     ·subst ax;exact .inr ⟨z,_,g',ah,rfl,an,he⟩
     ·rw[aC _ _ ax]at hz;exact .inr ⟨z,r',g',hz,aP,an,he⟩
   refine bQ (.tup _ [.bool true,B.key,B.val] rfl fun n d A =>?_)
   match n,A with
   | 0,A=>simp only[List.getElem?_cons_zero,ae5]at A;subst A;exact .bool _
   | 1,A =>
    simp only[List.getElem?_cons_succ,List.getElem?_cons_zero,ae5]at A;subst A;simp only[af1,af0];rw[H.1];exact NO k
   | 2,A =>
    simp only[List.getElem?_cons_succ,List.getElem?_cons_zero,ae5]at A;subst A;simp only[af1,af0];rw[H.2];exact (ak Z).less aO
   | n+3,A=>simp at A
def Qf (E:Inv N M L w0 blk V t (EH h) a w) {y v:Nat} {p:Operand} {k:dp} {x:D} {ks:List dp} {vs:List D} {lst:Bool} (K:o.op=.entry p) (O:ev t p=.ptr y v 0) (Q:h y=some ⟨v,900001,[.mpc (k::ks) (x::vs)],false,lst,true⟩) (u:y<PK) :
  dZ P o a w (jK N M L w0 V t h a e o.dst ⟨.tup [WY k,x],[]⟩):=by
 obtain⟨g,hg,m,F,z,b,q,f,seen,c,l,us,G,h2,h3,R,A,S,k2,k3,k4,k5,T,U,W⟩:=E.iter O Q (by omega) u;rw[z,afw]at m;have B:c.length=1:=by rw[S]
 match c,B with
 | [i],_ =>
  obtain⟨r,H,X⟩:=T i (by simp);obtain⟨i',e',I,J,Y,Z⟩:=U 0 k rfl;simp only[List.singleton_append,List.getElem?_cons_zero,ae5]at I;subst I;rw[H]at J;cases J;obtain⟨s0,C⟩:=Array.back?_eq_some_iff.1 X;rw[C]at G;have s:=run_entry_at (P:=P) w g.1 b f s0 q f r G R (by simpa using afL H) A.2.1;refine aN (v := .tuple #[r.key,r.val]) (w':=w) (by simp[execOp,K,m,s]) (bn.dO (h:=EH h) E (bQ (.tup _ [r.key,r.val] rfl fun n d j =>?_)))
  match n,j with
  | 0,j =>
   simp only[List.getElem?_cons_zero,ae5]at j;subst j;simp only[af0];rw[Y];exact NO k
  | 1,j =>
   simp only[List.getElem?_cons_succ,List.getElem?_cons_zero,ae5]at j;subst j;simp only[af1,af0];rw[Z];exact W 0 x rfl
  | n+2,j=>simp at j
end
def tab (t:Nat):Option Ty :=
 match t with
 | 2=>some ⟨.int .i64,1,8,[.int .i64 0],false⟩
 | 3=>some ⟨.int .i64,1,8,[.int .i64 0],false⟩
 | 4=>some ⟨.bool,1,1,[.bool false],false⟩
 | 5=>some ⟨.int .u8,1,1,[.int .u8 0],false⟩
 | 9=>some ⟨.str,1,16,[.string ⟨#[]⟩],false⟩
 | 12=>some ⟨.int .u64,1,8,[.int .u64 0],false⟩
 | 21=>some ⟨.int .i32,1,4,[.int .i32 0],false⟩
 | 22=>some ⟨.slice 3,1,24,[.slice none 0 0],false⟩
 | 23=>some ⟨.slice 60,1,24,[.slice none 0 0],false⟩
 | 24=>some ⟨.struct [(22,0),(23,1)],2,48,[.slice none 0 0,.slice none 0 0],false⟩
 | 25=>some ⟨.struct [(22,0),(23,1)],2,48,[.slice none 0 0,.slice none 0 0],false⟩
 | 26=>some ⟨.slice 50,1,24,[.slice none 0 0],false⟩
 | 27=>some ⟨.struct [(3,0),(26,1)],2,32,[.int .i64 0,.slice none 0 0],false⟩
 | 28=>some ⟨.struct [(3,0),(26,1)],2,32,[.int .i64 0,.slice none 0 0],false⟩
 | 32=>some ⟨.int .i64,1,8,[.int .i64 0],false⟩
 | 39=>some ⟨.struct [(3,0),(22,1)],2,32,[.int .i64 0,.slice none 0 0],false⟩
 | 40=>some ⟨.struct [(3,0),(22,1)],2,32,[.int .i64 0,.slice none 0 0],false⟩
 | 41=>some ⟨.struct [(40,0),(40,2)],4,64,[.int .i64 0,.slice none 0 0,.int .i64 0,.slice none 0 0],false⟩
 | 42=>some ⟨.struct [(40,0),(40,2)],4,64,[.int .i64 0,.slice none 0 0,.int .i64 0,.slice none 0 0],false⟩
 | 49=>some ⟨.struct [(3,0),(3,1),(42,2)],6,80,[.int .i64 0,.int .i64 0,.int .i64 0,.slice none 0 0,.int .i64 0,.slice none 0 0],false⟩
 | 50=>some ⟨.struct [(3,0),(3,1),(42,2)],6,80,[.int .i64 0,.int .i64 0,.int .i64 0,.slice none 0 0,.int .i64 0,.slice none 0 0],false⟩
 | 53=>some ⟨.slice 85,1,24,[.slice none 0 0],false⟩
 | 54=>some ⟨.slice 87,1,24,[.slice none 0 0],false⟩
 | 55=>some ⟨.slice 78,1,24,[.slice none 0 0],false⟩
 | 56=>some ⟨.struct [(53,0),(54,1),(55,2)],3,72,[.slice none 0 0,.slice none 0 0,.slice none 0 0],false⟩
 | 57=>some ⟨.struct [(53,0),(54,1),(55,2)],3,72,[.slice none 0 0,.slice none 0 0,.slice none 0 0],false⟩
 | 58=>some ⟨.slice 65,1,24,[.slice none 0 0],false⟩
 | 59=>some ⟨.struct [(57,0),(58,3),(22,4)],5,120,[.slice none 0 0,.slice none 0 0,.slice none 0 0,.slice none 0 0,.slice none 0 0],false⟩
 | 60=>some ⟨.struct [(57,0),(58,3),(22,4)],5,120,[.slice none 0 0,.slice none 0 0,.slice none 0 0,.slice none 0 0,.slice none 0 0],false⟩
 | 64=>some ⟨.struct [(3,0),(3,1)],2,16,[.int .i64 0,.int .i64 0],true⟩
 | 65=>some ⟨.struct [(3,0),(3,1)],2,16,[.int .i64 0,.int .i64 0],true⟩
 | 67=>some ⟨.map 70 42,1,8,[.map none],false⟩
 | 69=>some ⟨.struct [(3,0),(3,1)],2,16,[.int .i64 0,.int .i64 0],true⟩
 | 70=>some ⟨.struct [(3,0),(3,1)],2,16,[.int .i64 0,.int .i64 0],true⟩
 | 78=>some ⟨.slice 42,1,24,[.slice none 0 0],false⟩
 | 81=>some ⟨.slice 22,1,24,[.slice none 0 0],false⟩
 | 84=>some ⟨.struct [(3,0),(3,1),(3,2)],3,24,[.int .i64 0,.int .i64 0,.int .i64 0],true⟩
 | 85=>some ⟨.struct [(3,0),(3,1),(3,2)],3,24,[.int .i64 0,.int .i64 0,.int .i64 0],true⟩
 | 86=>some ⟨.struct [(3,0),(3,1),(3,2),(9,3)],4,40,[.int .i64 0,.int .i64 0,.int .i64 0,.string ⟨#[]⟩],true⟩
 | 87=>some ⟨.struct [(3,0),(3,1),(3,2),(9,3)],4,40,[.int .i64 0,.int .i64 0,.int .i64 0,.string ⟨#[]⟩],true⟩
 | 99=>some ⟨.int .u64,1,8,[.int .u64 0],false⟩
 | 118=>some ⟨.int .i64,1,8,[.int .i64 0],false⟩
 | 126=>some ⟨.int .u32,1,4,[.int .u32 0],false⟩
 | 128=>some ⟨.int .u64,1,8,[.int .u64 0],false⟩
 | 141=>some ⟨.int .u64,1,8,[.int .u64 0],false⟩
 | _=>none
def Pw:tab 3=some ⟨.int .i64,1,8,[.int .i64 0],false⟩:=rfl
def aav:tab 4=some ⟨.bool,1,1,[.bool false],false⟩:=rfl
def aaw:tab 5=some ⟨.int .u8,1,1,[.int .u8 0],false⟩:=rfl
def XY:tab 9=some ⟨.str,1,16,[.string ⟨#[]⟩],false⟩:=rfl
def Lm:tab 22=some ⟨.slice 3,1,24,[.slice none 0 0],false⟩:=rfl
def Ry:tab 23=some ⟨.slice 60,1,24,[.slice none 0 0],false⟩:=rfl
def Lo:tab 25=some ⟨.struct [(22,0),(23,1)],2,48,[.slice none 0 0,.slice none 0 0],false⟩:=rfl
def Rz:tab 26=some ⟨.slice 50,1,24,[.slice none 0 0],false⟩:=rfl
def Lp:tab 28=some ⟨.struct [(3,0),(26,1)],2,32,[.int .i64 0,.slice none 0 0],false⟩:=rfl
def RA:tab 40=some ⟨.struct [(3,0),(22,1)],2,32,[.int .i64 0,.slice none 0 0],false⟩:=rfl
def Lq:tab 42=some ⟨.struct [(40,0),(40,2)],4,64,[.int .i64 0,.slice none 0 0,.int .i64 0,.slice none 0 0],false⟩:=rfl
def Lr:tab 50=some ⟨.struct [(3,0),(3,1),(42,2)],6,80,[.int .i64 0,.int .i64 0,.int .i64 0,.slice none 0 0,.int .i64 0,.slice none 0 0],false⟩:=rfl
def RB:tab 53=some ⟨.slice 85,1,24,[.slice none 0 0],false⟩:=rfl
def RD:tab 54=some ⟨.slice 87,1,24,[.slice none 0 0],false⟩:=rfl
def RE:tab 55=some ⟨.slice 78,1,24,[.slice none 0 0],false⟩:=rfl
def RF:tab 57=some ⟨.struct [(53,0),(54,1),(55,2)],3,72,[.slice none 0 0,.slice none 0 0,.slice none 0 0],false⟩:=rfl
def RG:tab 58=some ⟨.slice 65,1,24,[.slice none 0 0],false⟩:=rfl
def Ls:tab 60=some ⟨.struct [(57,0),(58,3),(22,4)],5,120,[.slice none 0 0,.slice none 0 0,.slice none 0 0,.slice none 0 0,.slice none 0 0],false⟩:=rfl
def Lt:tab 65=some ⟨.struct [(3,0),(3,1)],2,16,[.int .i64 0,.int .i64 0],true⟩:=rfl
def XV:tab 67=some ⟨.map 70 42,1,8,[.map none],false⟩:=rfl
def XW:tab 70=some ⟨.struct [(3,0),(3,1)],2,16,[.int .i64 0,.int .i64 0],true⟩:=rfl
def Lu:tab 78=some ⟨.slice 42,1,24,[.slice none 0 0],false⟩:=rfl
def XX:tab 81=some ⟨.slice 22,1,24,[.slice none 0 0],false⟩:=rfl
def Lv:tab 85=some ⟨.struct [(3,0),(3,1),(3,2)],3,24,[.int .i64 0,.int .i64 0,.int .i64 0],true⟩:=rfl
def Lw:tab 87=some ⟨.struct [(3,0),(3,1),(3,2),(9,3)],4,40,[.int .i64 0,.int .i64 0,.int .i64 0,.string ⟨#[]⟩],true⟩:=rfl
def XZ:tab 99=some ⟨.int .u64,1,8,[.int .u64 0],false⟩:=rfl
def TM:tab 126=some ⟨.int .u32,1,4,[.int .u32 0],false⟩:=rfl
def TN:tab 128=some ⟨.int .u64,1,8,[.int .u64 0],false⟩:=rfl
def aem:eX prog 2 ⟨.int .i64,1,8,[.int .i64 0],false⟩:=⟨by kernel_rfl,by kernel_rfl,by kernel_rfl,fun h=>by cases h⟩
def aen:eX prog 3 ⟨.int .i64,1,8,[.int .i64 0],false⟩:=⟨by kernel_rfl,by kernel_rfl,by kernel_rfl,fun h=>by cases h⟩
def aeo:eX prog 4 ⟨.bool,1,1,[.bool false],false⟩:=⟨by kernel_rfl,by kernel_rfl,by kernel_rfl,fun h=>by cases h⟩
def aep:eX prog 5 ⟨.int .u8,1,1,[.int .u8 0],false⟩:=⟨by kernel_rfl,by kernel_rfl,by kernel_rfl,fun h=>by cases h⟩
def aeq:eX prog 9 ⟨.str,1,16,[.string ⟨#[]⟩],false⟩:=⟨by kernel_rfl,by kernel_rfl,by kernel_rfl,fun h=>by cases h⟩
def acZ:eX prog 12 ⟨.int .u64,1,8,[.int .u64 0],false⟩:=⟨by kernel_rfl,by kernel_rfl,by kernel_rfl,fun h=>by cases h⟩
def ac0:eX prog 21 ⟨.int .i32,1,4,[.int .i32 0],false⟩:=⟨by kernel_rfl,by kernel_rfl,by kernel_rfl,fun h=>by cases h⟩
def ac1:eX prog 22 ⟨.slice 3,1,24,[.slice none 0 0],false⟩:=⟨by kernel_rfl,by kernel_rfl,by kernel_rfl,fun h=>by cases h⟩
def ac2:eX prog 23 ⟨.slice 60,1,24,[.slice none 0 0],false⟩:=⟨by kernel_rfl,by kernel_rfl,by kernel_rfl,fun h=>by cases h⟩
def ac3:eX prog 24 ⟨.struct [(22,0),(23,1)],2,48,[.slice none 0 0,.slice none 0 0],false⟩:=⟨by kernel_rfl,by kernel_rfl,by kernel_rfl,fun h=>by cases h⟩
def ac4:eX prog 25 ⟨.struct [(22,0),(23,1)],2,48,[.slice none 0 0,.slice none 0 0],false⟩:=⟨by kernel_rfl,by kernel_rfl,by kernel_rfl,fun h=>by cases h⟩
def ac5:eX prog 26 ⟨.slice 50,1,24,[.slice none 0 0],false⟩:=⟨by kernel_rfl,by kernel_rfl,by kernel_rfl,fun h=>by cases h⟩
def ac6:eX prog 27 ⟨.struct [(3,0),(26,1)],2,32,[.int .i64 0,.slice none 0 0],false⟩:=⟨by kernel_rfl,by kernel_rfl,by kernel_rfl,fun h=>by cases h⟩
def ac7:eX prog 28 ⟨.struct [(3,0),(26,1)],2,32,[.int .i64 0,.slice none 0 0],false⟩:=⟨by kernel_rfl,by kernel_rfl,by kernel_rfl,fun h=>by cases h⟩
def ac8:eX prog 32 ⟨.int .i64,1,8,[.int .i64 0],false⟩:=⟨by kernel_rfl,by kernel_rfl,by kernel_rfl,fun h=>by cases h⟩
def ac9:eX prog 39 ⟨.struct [(3,0),(22,1)],2,32,[.int .i64 0,.slice none 0 0],false⟩:=⟨by kernel_rfl,by kernel_rfl,by kernel_rfl,fun h=>by cases h⟩
def ada:eX prog 40 ⟨.struct [(3,0),(22,1)],2,32,[.int .i64 0,.slice none 0 0],false⟩:=⟨by kernel_rfl,by kernel_rfl,by kernel_rfl,fun h=>by cases h⟩
def adb:eX prog 41 ⟨.struct [(40,0),(40,2)],4,64,[.int .i64 0,.slice none 0 0,.int .i64 0,.slice none 0 0],false⟩:=⟨by kernel_rfl,by kernel_rfl,by kernel_rfl,fun h=>by cases h⟩
def ade:eX prog 42 ⟨.struct [(40,0),(40,2)],4,64,[.int .i64 0,.slice none 0 0,.int .i64 0,.slice none 0 0],false⟩:=⟨by kernel_rfl,by kernel_rfl,by kernel_rfl,fun h=>by cases h⟩
def adf:eX prog 49 ⟨.struct [(3,0),(3,1),(42,2)],6,80,[.int .i64 0,.int .i64 0,.int .i64 0,.slice none 0 0,.int .i64 0,.slice none 0 0],false⟩:=⟨by kernel_rfl,by kernel_rfl,by kernel_rfl,fun h=>by cases h⟩
def adg:eX prog 50 ⟨.struct [(3,0),(3,1),(42,2)],6,80,[.int .i64 0,.int .i64 0,.int .i64 0,.slice none 0 0,.int .i64 0,.slice none 0 0],false⟩:=⟨by kernel_rfl,by kernel_rfl,by kernel_rfl,fun h=>by cases h⟩
def adh:eX prog 53 ⟨.slice 85,1,24,[.slice none 0 0],false⟩:=⟨by kernel_rfl,by kernel_rfl,by kernel_rfl,fun h=>by cases h⟩
def adi:eX prog 54 ⟨.slice 87,1,24,[.slice none 0 0],false⟩:=⟨by kernel_rfl,by kernel_rfl,by kernel_rfl,fun h=>by cases h⟩
def adj:eX prog 55 ⟨.slice 78,1,24,[.slice none 0 0],false⟩:=⟨by kernel_rfl,by kernel_rfl,by kernel_rfl,fun h=>by cases h⟩
def adk:eX prog 56 ⟨.struct [(53,0),(54,1),(55,2)],3,72,[.slice none 0 0,.slice none 0 0,.slice none 0 0],false⟩:=⟨by kernel_rfl,by kernel_rfl,by kernel_rfl,fun h=>by cases h⟩
def adl:eX prog 57 ⟨.struct [(53,0),(54,1),(55,2)],3,72,[.slice none 0 0,.slice none 0 0,.slice none 0 0],false⟩:=⟨by kernel_rfl,by kernel_rfl,by kernel_rfl,fun h=>by cases h⟩
def adm:eX prog 58 ⟨.slice 65,1,24,[.slice none 0 0],false⟩:=⟨by kernel_rfl,by kernel_rfl,by kernel_rfl,fun h=>by cases h⟩
def adn:eX prog 59 ⟨.struct [(57,0),(58,3),(22,4)],5,120,[.slice none 0 0,.slice none 0 0,.slice none 0 0,.slice none 0 0,.slice none 0 0],false⟩:=⟨by kernel_rfl,by kernel_rfl,by kernel_rfl,fun h=>by cases h⟩
def ado:eX prog 60 ⟨.struct [(57,0),(58,3),(22,4)],5,120,[.slice none 0 0,.slice none 0 0,.slice none 0 0,.slice none 0 0,.slice none 0 0],false⟩:=⟨by kernel_rfl,by kernel_rfl,by kernel_rfl,fun h=>by cases h⟩
def adp:eX prog 64 ⟨.struct [(3,0),(3,1)],2,16,[.int .i64 0,.int .i64 0],true⟩:=⟨by kernel_rfl,by kernel_rfl,by kernel_rfl,fun _=>⟨by kernel_rfl,by kernel_rfl,by kernel_rfl⟩⟩
def adq:eX prog 65 ⟨.struct [(3,0),(3,1)],2,16,[.int .i64 0,.int .i64 0],true⟩:=⟨by kernel_rfl,by kernel_rfl,by kernel_rfl,fun _=>⟨by kernel_rfl,by kernel_rfl,by kernel_rfl⟩⟩
def adr:eX prog 67 ⟨.map 70 42,1,8,[.map none],false⟩:=⟨by kernel_rfl,by kernel_rfl,by kernel_rfl,fun h=>by cases h⟩
def ads:eX prog 69 ⟨.struct [(3,0),(3,1)],2,16,[.int .i64 0,.int .i64 0],true⟩:=⟨by kernel_rfl,by kernel_rfl,by kernel_rfl,fun _=>⟨by kernel_rfl,by kernel_rfl,by kernel_rfl⟩⟩
def adt:eX prog 70 ⟨.struct [(3,0),(3,1)],2,16,[.int .i64 0,.int .i64 0],true⟩:=⟨by kernel_rfl,by kernel_rfl,by kernel_rfl,fun _=>⟨by kernel_rfl,by kernel_rfl,by kernel_rfl⟩⟩
def adu:eX prog 78 ⟨.slice 42,1,24,[.slice none 0 0],false⟩:=⟨by kernel_rfl,by kernel_rfl,by kernel_rfl,fun h=>by cases h⟩
def adv:eX prog 81 ⟨.slice 22,1,24,[.slice none 0 0],false⟩:=⟨by kernel_rfl,by kernel_rfl,by kernel_rfl,fun h=>by cases h⟩
def adw:eX prog 84 ⟨.struct [(3,0),(3,1),(3,2)],3,24,[.int .i64 0,.int .i64 0,.int .i64 0],true⟩:=⟨by kernel_rfl,by kernel_rfl,by kernel_rfl,fun _=>⟨by kernel_rfl,by kernel_rfl,by kernel_rfl⟩⟩
def adx:eX prog 85 ⟨.struct [(3,0),(3,1),(3,2)],3,24,[.int .i64 0,.int .i64 0,.int .i64 0],true⟩:=⟨by kernel_rfl,by kernel_rfl,by kernel_rfl,fun _=>⟨by kernel_rfl,by kernel_rfl,by kernel_rfl⟩⟩
def ady:eX prog 86 ⟨.struct [(3,0),(3,1),(3,2),(9,3)],4,40,[.int .i64 0,.int .i64 0,.int .i64 0,.string ⟨#[]⟩],true⟩:=⟨by kernel_rfl,by kernel_rfl,by kernel_rfl,fun _=>⟨by kernel_rfl,by kernel_rfl,by kernel_rfl⟩⟩
def adz:eX prog 87 ⟨.struct [(3,0),(3,1),(3,2),(9,3)],4,40,[.int .i64 0,.int .i64 0,.int .i64 0,.string ⟨#[]⟩],true⟩:=⟨by kernel_rfl,by kernel_rfl,by kernel_rfl,fun _=>⟨by kernel_rfl,by kernel_rfl,by kernel_rfl⟩⟩
def adA:eX prog 99 ⟨.int .u64,1,8,[.int .u64 0],false⟩:=⟨by kernel_rfl,by kernel_rfl,by kernel_rfl,fun h=>by cases h⟩
def abB:eX prog 118 ⟨.int .i64,1,8,[.int .i64 0],false⟩:=⟨by kernel_rfl,by kernel_rfl,by kernel_rfl,fun h=>by cases h⟩
def abC:eX prog 126 ⟨.int .u32,1,4,[.int .u32 0],false⟩:=⟨by kernel_rfl,by kernel_rfl,by kernel_rfl,fun h=>by cases h⟩
def abD:eX prog 128 ⟨.int .u64,1,8,[.int .u64 0],false⟩:=⟨by kernel_rfl,by kernel_rfl,by kernel_rfl,fun h=>by cases h⟩
def abE:eX prog 141 ⟨.int .u64,1,8,[.int .u64 0],false⟩:=⟨by kernel_rfl,by kernel_rfl,by kernel_rfl,fun h=>by cases h⟩
def tok:iI prog tab:=by
 intro t τ h;unfold tab at h;split at h
 ·cases h;exact aem
 ·cases h;exact aen
 ·cases h;exact aeo
 ·cases h;exact aep
 ·cases h;exact aeq
 ·cases h;exact acZ
 ·cases h;exact ac0
 ·cases h;exact ac1
 ·cases h;exact ac2
 ·cases h;exact ac3
 ·cases h;exact ac4
 ·cases h;exact ac5
 ·cases h;exact ac6
 ·cases h;exact ac7
 ·cases h;exact ac8
 ·cases h;exact ac9
 ·cases h;exact ada
 ·cases h;exact adb
 ·cases h;exact ade
 ·cases h;exact adf
 ·cases h;exact adg
 ·cases h;exact adh
 ·cases h;exact adi
 ·cases h;exact adj
 ·cases h;exact adk
 ·cases h;exact adl
 ·cases h;exact adm
 ·cases h;exact adn
 ·cases h;exact ado
 ·cases h;exact adp
 ·cases h;exact adq
 ·cases h;exact adr
 ·cases h;exact ads
 ·cases h;exact adt
 ·cases h;exact adu
 ·cases h;exact adv
 ·cases h;exact adw
 ·cases h;exact adx
 ·cases h;exact ady
 ·cases h;exact adz
 ·cases h;exact adA
 ·cases h;exact abB
 ·cases h;exact abC
 ·cases h;exact abD
 ·cases h;exact abE
 ·cases h
def mixed:Tryz.prog.follows .mixedOrders=true:=by kernel_rfl
def tC {α:Type} (x:Option α) (K:α->Prop):Prop :=
 match x with
 | some a=>K a
 | none=>False
def br (b:Bool) (A B:Prop):Prop:=(b=true->A)∧(b=false->B)
def R0 (d:D) (t:Nat->D) (g:Nat) (A B:(Nat->D)->Prop):Prop :=
 match d with
 | .bool b=>br b (A (bY t g (.bool b))) (B (bY t g (.bool b)))
 | _=>False
def wpS (d:D) (t:Nat->D) (g:Nat) (A B S:(Nat->D)->Prop):Prop :=
 match d with
 | .skp=>S t
 | d=>R0 d t g A B
def AD {t:Nat->D} {g:Nat} {b:Bool} {A B S:(Nat->D)->Prop} : wpS (.bool b) t g A B S=br b (A (bY t g (.bool b))) (B (bY t g (.bool b))):=rfl
def Yd (ops:List Oper) (t:Nat->D) (gd:Option (Nat×Bool)) (A B:(Nat->D)->Prop):Prop :=
 match gd with
 | none=>A t
 | some (j,a)=>tC ((ops[j]?).bind (·.dst)) fun g=>wpS (t g) t g (if a then A else B) (if a then B else A) B
def PM (T:Nat->Option Ty) (Γ:Env) (e:Nat) (o:Oper) (t:Nat->D) (h:Nat->Option Row) (K:(Nat->D)->cd->Prop):Prop :=
 match o.op with
 | .pick (.tmp c) a b=>R0 (t c) t c (fun t=>K t ⟨ev t a,[]⟩) (fun t=>K t ⟨ev t b,[]⟩)
 | _=>tC (p5 T Γ e o (ev t) h) (K t)
def Gq (T:Nat->Option Ty) (Γ:Env) (N e:Nat) (ops:List Oper):List Oper->(Nat->D)->(Nat->Option Row)->((Nat->D)->(Nat->Option Row)->Prop)->Prop
 | [],t,h,K=>K t h
 | o::l,t,h,K=>fits N o.dst=true∧Yd ops t o.guard (fun t=>PM T Γ e o t h fun t E=>Gq T Γ N e ops l (eO t o.dst E.val) (aW h E.hw) K) (fun t=>Gq T Γ N e ops l (eO t o.dst .skp) h K)
def runK (T:Nat->Option Ty) (Γ:Env) (N e:Nat) (ops:List Oper):List Oper->(Nat->D)->(Nat->Option Row)->List kU->((Nat->D)->(Nat->Option Row)->List kU->Prop)->Prop
 | [],t,h,fs,K=>K t h fs
 | o::l,t,h,fs,K=>fits N o.dst=true∧Yd ops t o.guard (fun t=>PM T Γ e o t h fun t E=>runK T Γ N e ops l (eO t o.dst E.val) (aW h E.hw) (fs++[⟨cH o (ev t),E.hw.isEmpty⟩]) K) (fun t=>runK T Γ N e ops l (eO t o.dst .skp) h (fs++[⟨[],true⟩]) K)
abbrev Kt:=Ex->(Nat->D)->(Nat->Option Row)->Nat->Prop
def acN (x:Ex) (A:Prop) (B:Prop):Prop :=
 match x with
 | .normal=>A
 | _=>B
def VW (id:Nat) (x:Ex) (t:Nat->D) (h:Nat->Option Row) (e:Nat) (K:Kt):Prop :=
 match x with
 | .exit n=>if n=id then K .normal t h e else K (.exit n) t h e
 | x=>K x t h e
def wpR (T:Nat->Option Ty) (Γ:Env) (N:Nat) (ops:Array Oper) (a:Bool) (t:Nat->D) (h:Nat->Option Row) (e:Nat) (K:(Nat->D)->(Nat->Option Row)->Prop):Prop :=
 match a with
 | true=>runK T Γ N e ops.toList ops.toList t h [] fun t h fs=>Es ops fs=true∧K t h
 | false=>Gq T Γ N e ops.toList ops.toList t h K
def PO (T:Nat->Option Ty) (Γ:Env) (N F:Nat):Code->(Nat->D)->(Nat->Option Row)->Nat->Kt->Prop
 | .skip,t,h,e,K=>K .normal t h e
 | .region _ ops draw,t,h,e,K=>wpR T Γ N ops draw t h e fun t h=>K .normal t h (e+1)
 | .seq a b,t,h,e,K=>PO T Γ N F a t h e fun x t h e=>acN x (PO T Γ N F b t h e K) (K x t h e)
 | .cond c x y,t,h,e,K =>
  match c with
  | .tmp g=>R0 (t g) t g (fun t=>PO T Γ N F x t h e K) (fun t=>PO T Γ N F y t h e K)
  | .const (.bool true)=>PO T Γ N F x t h e K
  | .const (.bool false)=>PO T Γ N F y t h e K
  | _=>False
 | .block id b,t,h,e,K=>PO T Γ N F b t h e fun x t h e=>VW id x t h e K
 | .loop b,t,h,e,K=>∃x s,iter (fV T Γ N F b) F ⟨t,h,e⟩=some (x,s)∧K x s.t s.h s.e
 | .exit id,t,h,e,K=>K (.exit id) t h e
 | .ret,t,h,e,K=>K .ret t h e
 | _,_,_,_,_=>False
def aaR (a:Mode) (T:Nat->Option Ty) (b:Option (D×Row)) (c:List ResultVar) (x:Ex) (t:Nat->D) (h:Nat->Option Row) (e:Nat) (r:RK×Option Row):Prop :=
 match x with
 | .exit _=>False
 | _=>eB a T b c ⟨t,EH h,e⟩=some r
def wpf (d:Mode) (T:Nat->Option Ty) (Γ:Env) (F:Nat) (f:Func) (a:Option (D×Row)) (b:List D) (r:RK×Option Row):Prop :=
 tC f.body fun c=>PO T Γ f.ntmps F c (cg a b).t (cg a b).h (cg a b).e fun x t h e=>aaR d T a f.results.toList x t h e r
def FE {α:Type} (a:α) (K:α->Prop):tC (some a) K=K a:=rfl
def FC {α:Type} {x:Option α} {K:α->Prop} (h:tC x K):∃a,x=some a∧K a:=by
 cases x with
 | none=>exact h.elim
 | some a=>exact⟨a,rfl,h⟩
def RS {t:Nat->D} {g:Nat} {d:D} (h:t g=d):bY t g d=t:=by
 funext j;unfold bY;split
 ·rename_i e;subst e;exact h.symm
 ·rfl
def Yv (A B:Prop):br true A B=A:=by simp[br]
def VY (A B:Prop):br false A B=B:=by simp[br]
def Yu {b:Bool} {A B:Prop} (h:br b A B):if b then A else B:=by
 cases b with
 | true=>exact h.1 rfl
 | false=>exact h.2 rfl
def Yb {t:Nat->D} {g:Nat} {b:Bool} {A B:(Nat->D)->Prop} : R0 (.bool b) t g A B=br b (A (bY t g (.bool b))) (B (bY t g (.bool b))):=rfl
def AA {t:Nat->D} {g:Nat} {A B:(Nat->D)->Prop} (h:t g=.bool true):R0 (.bool true) t g A B=A t:=by simp[R0,RS h,Yv]
def xY {t:Nat->D} {g:Nat} {A B:(Nat->D)->Prop} (h:t g=.bool false):R0 (.bool false) t g A B=B t:=by simp[R0,RS h,VY]
def AE {t:Nat->D} {g:Nat} {A B S:(Nat->D)->Prop} (h:t g=.bool true):wpS (.bool true) t g A B S=A t:=AA h
def xZ {t:Nat->D} {g:Nat} {A B S:(Nat->D)->Prop} (h:t g=.bool false):wpS (.bool false) t g A B S=B t:=xY h
def R1 {t:Nat->D} {g:Nat} {A B:(Nat->D)->Prop} (h:R0 (t g) t g A B):∃b,t g=.bool b∧(if b then A t else B t):=by
 unfold R0 at h;split at h
 ·rename_i b a;rw[RS a]at h;exact⟨b,a,Yu h⟩
 ·exact h.elim
section
variable {T:Nat->Option Ty} {Γ:Env} {N F e:Nat}
def Ye {ops:Array Oper} {t:Nat->D} {o:Oper} {A B:(Nat->D)->Prop} (h:Yd ops.toList t o.guard A B):∃b,wC ops t o=some b∧(if b then A t else B t):=by
 unfold Yd at h;unfold wC;split at h
 ·rename_i d;try rw[d]
  exact⟨true,rfl,by simpa using h⟩
 ·rename_i j a d;try rw[d]
  obtain⟨g,e,c⟩:=FC h;rw[afK]at e;unfold wpS at c;split at c
  ·rename_i f;simp only[e,f];exact⟨false,rfl,c⟩
  ·obtain⟨b,i,k⟩:=R1 c;simp only[e,i];refine⟨_,rfl,?_⟩;cases b<;>cases a<;>simpa using k
def Yc {o:Oper} {t:Nat->D} {h:Nat->Option Row} {K:(Nat->D)->cd->Prop} (d:PM T Γ e o t h K):∃E,p5 T Γ e o (ev t) h=some E∧K t E:=by
 unfold PM at d;split at d
 ·rename_i c a b i;obtain⟨v,f,g⟩:=R1 d;have j:oQ Γ e h o.dst none=none:=by cases o.dst<;>rfl
  cases v with
  | true=>exact⟨⟨ev t a,[]⟩,by unfold p5 gS rL;rw[i];simp only[ev,f,Yj,kQ,iA,j],by simpa only[if_true] using g⟩
  | false=>exact⟨⟨ev t b,[]⟩,by unfold p5 gS rL;rw[i];simp only[ev,f,Yj,kQ,iA,j],by simpa only[afv,if_false] using g⟩
 ·obtain⟨E,f,g⟩:=FC d;exact⟨E,f,g⟩
def As {ops:Array Oper} {K:(Nat->D)->(Nat->Option Row)->Prop} : ∀(l:List Oper) (t:Nat->D) (h:Nat->Option Row),Gq T Γ N e ops.toList l t h K->∃a h' fs,BL T Γ N e ops l t h=some (a,h',fs)∧K a h'
 | [],t,h,hk=>⟨t,h,[],rfl,hk⟩
 | o::l,t,h,hk=>by
  unfold Gq at hk;obtain⟨g,i⟩:=hk;obtain⟨b,j,f⟩:=Ye i;unfold BL step1;rw[if_pos g,j];cases b with
  | true =>
   obtain⟨E,k,m⟩:=Yc (by simpa using f);obtain⟨a,h',fs,c,d⟩:=As l _ _ m;simp only[k,c];exact⟨_,_,_,rfl,d⟩
  | false =>
   obtain⟨a,h',fs,c,d⟩:=As l _ _ (by simpa using f);simp only[c];exact⟨_,_,_,rfl,d⟩
def La {ops:Array Oper} {K:(Nat->D)->(Nat->Option Row)->List kU->Prop} : ∀(l:List Oper) (t:Nat->D) (h:Nat->Option Row) (f0:List kU),runK T Γ N e ops.toList l t h f0 K->∃a h' fs,BL T Γ N e ops l t h=some (a,h',fs)∧K a h' (f0++fs)
 | [],t,h,f0,hk=>⟨t,h,[],rfl,by unfold runK at hk;simpa using hk⟩
 | o::l,t,h,f0,hk=>by
  unfold runK at hk;obtain⟨g,i⟩:=hk;obtain⟨b,j,f⟩:=Ye i;unfold BL step1;rw[if_pos g,j];cases b with
  | true =>
   obtain⟨E,k,m⟩:=Yc (by simpa using f);obtain⟨a,h',fs,c,d⟩:=La l _ _ _ m;simp only[k,c];exact⟨_,_,_,rfl,by simpa using d⟩
  | false =>
   obtain⟨a,h',fs,c,d⟩:=La l _ _ _ (by simpa using f);simp only[c];exact⟨_,_,_,rfl,by simpa using d⟩
def abH {ops:Array Oper} {a:Bool} {t:Nat->D} {h:Nat->Option Row} {K:(Nat->D)->(Nat->Option Row)->Prop} (f:wpR T Γ N ops a t h e K):∃b h',xW T Γ N ops a ⟨t,h,e⟩=some (.normal,⟨b,h',e+1⟩)∧K b h':=by
 unfold xW;cases a with
 | false =>
  obtain⟨b,h',fs,d,c⟩:=As _ _ _ f;simp only[d];exact⟨b,h',by simp,c⟩
 | true =>
  obtain⟨b,h',fs,d,c,g⟩:=La _ _ _ _ f;simp only[d];exact⟨b,h',by rw[agF]at c;simp[c],g⟩
def LJ:∀(c:Code) (t:Nat->D) (h:Nat->Option Row) (e:Nat) (K:Kt),PO T Γ N F c t h e K->∃x s,fV T Γ N F c ⟨t,h,e⟩=some (x,s)∧K x s.t s.h s.e:=by
 intro c
 induction c with
 | skip=>intro t h e K d;exact⟨_,_,rfl,d⟩
 | region i ops draw =>
  intro t h e K d;obtain⟨z,h',j,f⟩:=abH d;exact⟨_,_,j,f⟩
 | seq a b m o =>
  intro t h e K d;obtain⟨x,s,j,f⟩:=m _ _ _ _ d;simp only[fV,j];cases x with
  | normal =>
   obtain⟨r,u,v,w⟩:=o _ _ _ _ f;exact⟨r,u,v,w⟩
  | exit n=>exact⟨_,_,rfl,f⟩
  | ret=>exact⟨_,_,rfl,f⟩
 | cond c x y k l =>
  intro t h e K d;unfold PO at d;split at d
  ·rename_i g;obtain⟨b,j,f⟩:=R1 d;simp only[fV,ev,j,PH];cases b with
   | true=>exact k _ _ _ _ (by simpa using f)
   | false=>exact l _ _ _ _ (by simpa using f)
  ·simpa only[fV,ev,oF,PH,if_true] using k _ _ _ _ d
  ·simpa only[fV,ev,oF,PH,afv,if_false] using l _ _ _ _ d
  ·exact d.elim
 | block id b q =>
  intro t h e K d;obtain⟨x,s,j,f⟩:=q _ _ _ _ d;simp only[fV,j];cases x with
  | normal=>exact⟨_,_,rfl,f⟩
  | ret=>exact⟨_,_,rfl,f⟩
  | exit n =>
   simp only[RX];unfold VW at f;simp only at f;split at f
   ·rename_i p;rw[if_pos p];exact⟨_,_,rfl,f⟩
   ·rename_i p;rw[if_neg p];exact⟨_,_,rfl,f⟩
 | loop b q=>intro t h e K d;exact d
 | exit id=>intro t h e K d;exact⟨_,_,rfl,d⟩
 | ret=>intro t h e K d;exact⟨_,_,rfl,d⟩
 | _=>intro t h e K d;exact d.elim
def R2 {d:Mode} {g:Func} {a:Option (D×Row)} {b:List D} {r:RK×Option Row} (h:wpf d T Γ F g a b r) (i:g.ntmps<=PK):kT d T Γ F g a b=some r:=by
 obtain⟨c,j,k⟩:=FC h;obtain⟨x,s,l,f⟩:=LJ _ _ _ _ _ k;unfold kT;simp only[j];rw[if_pos i];have m:cg a b=⟨(cg a b).t,(cg a b).h,(cg a b).e⟩:=rfl;rw[m,l];unfold aaR at f;split at f
 ·exact f.elim
 ·rename_i o;split
  ·rename_i n _ e;cases e;exact (o n rfl).elim
  ·rename_i _ p q _ e;cases e;exact f
  ·rename_i e;cases e
def TR {α:Type} (f:Nat->α) (i:Nat) (v:α) (j:Nat):bY f i v j=if j=i then v else f j:=ahM
def L3 (a:List D) (i:Nat):D:=a.getD i .und
def HI (d:D) (l:List D):L3 (d::l) 0=d:=ahM
def HH (d:D) (l:List D) (i:Nat):L3 (d::l) (i+1)=L3 l i:=ahM
def Xl (_:Nat):Option Row:=none
end
inductive W where
 | code (c:Code)
 | blk (id:Nat)
section
variable (T:Nat->Option Ty) (Γ:Env) (N F:Nat)
def dB:List W->Kt->Kt
 | [],Q=>Q
 | .code c::ws,Q=>fun x t h e=>acN x (PO T Γ N F c t h e (dB ws Q)) (dB ws Q x t h e)
 | .blk id::ws,Q=>fun x t h e=>VW id x t h e (dB ws Q)
def lh (ops l:List Oper) (ws:List W) (Q:Kt) (t:Nat->D) (h:Nat->Option Row) (e:Nat):Prop :=
 Gq T Γ N e ops l t h fun t h=>dB T Γ N F ws Q .normal t h (e+1)
def lZ (ops l:List Oper) (ws:List W) (Q:Kt) (t:Nat->D) (h:Nat->Option Row) (e:Nat) (fs:List kU):Prop :=
 runK T Γ N e ops l t h fs fun t h fs=>Es ops.toArray fs=true∧dB T Γ N F ws Q .normal t h (e+1)
def rN (o:Oper) (ops l:List Oper) (ws:List W) (Q:Kt) (t:Nat->D) (h:Nat->Option Row) (e:Nat):Prop :=
 PM T Γ e o t h fun t E=>lh T Γ N F ops l ws Q (eO t o.dst E.val) (aW h E.hw) e
def vt (o:Oper) (ops l:List Oper) (ws:List W) (Q:Kt) (t:Nat->D) (h:Nat->Option Row) (e:Nat) (fs:List kU):Prop :=
 PM T Γ e o t h fun t E=>lZ T Γ N F ops l ws Q (eO t o.dst E.val) (aW h E.hw) e (fs++[⟨cH o (ev t),E.hw.isEmpty⟩])
def yf (d:D) (g:Nat) (a:Bool) (o:Oper) (ops l:List Oper) (ws:List W) (Q:Kt) (t:Nat->D) (h:Nat->Option Row) (e:Nat):Prop :=
 wpS d t g (fun t=>if a then rN T Γ N F o ops l ws Q t h e else lh T Γ N F ops l ws Q (eO t o.dst .skp) h e) (fun t=>if a then lh T Γ N F ops l ws Q (eO t o.dst .skp) h e else rN T Γ N F o ops l ws Q t h e) (fun t=>lh T Γ N F ops l ws Q (eO t o.dst .skp) h e)
def yg (d:D) (g:Nat) (a:Bool) (o:Oper) (ops l:List Oper) (ws:List W) (Q:Kt) (t:Nat->D) (h:Nat->Option Row) (e:Nat) (fs:List kU):Prop :=
 wpS d t g (fun t=>if a then vt T Γ N F o ops l ws Q t h e fs else lZ T Γ N F ops l ws Q (eO t o.dst .skp) h e (fs++[⟨[],true⟩])) (fun t=>if a then lZ T Γ N F ops l ws Q (eO t o.dst .skp) h e (fs++[⟨[],true⟩]) else vt T Γ N F o ops l ws Q t h e fs) (fun t=>lZ T Γ N F ops l ws Q (eO t o.dst .skp) h e (fs++[⟨[],true⟩]))
def Gy (x y:Option cd) (dst:Option Nat) (ops l:List Oper) (ws:List W) (Q:Kt) (t:Nat->D) (h:Nat->Option Row) (e:Nat):Prop :=
 tC (Yj h x y) fun E=>lh T Γ N F ops l ws Q (eO t dst E.val) (aW h E.hw) e
def Gz (x y:Option cd) (dst:Option Nat) (a:List Nat) (ops l:List Oper) (ws:List W) (Q:Kt) (t:Nat->D) (h:Nat->Option Row) (e:Nat) (fs:List kU):Prop :=
 tC (Yj h x y) fun E=>lZ T Γ N F ops l ws Q (eO t dst E.val) (aW h E.hw) e (fs++[⟨a,E.hw.isEmpty⟩])
def CO (x:Option cd) (dst:Option Nat) (ops l:List Oper) (ws:List W) (Q:Kt) (t:Nat->D) (h:Nat->Option Row) (e:Nat):Prop:=Gy T Γ N F x none dst ops l ws Q t h e
def LP (x:Option cd) (dst:Option Nat) (a:List Nat) (ops l:List Oper) (ws:List W) (Q:Kt) (t:Nat->D) (h:Nat->Option Row) (e:Nat) (fs:List kU):Prop:=Gz T Γ N F x none dst a ops l ws Q t h e fs
def XP (y:Option cd) (dst:Option Nat) (ops l:List Oper) (ws:List W) (Q:Kt) (t:Nat->D) (h:Nat->Option Row) (e:Nat):Prop :=
 tC y fun E=>lh T Γ N F ops l ws Q (eO t dst E.val) (aW h E.hw) e
def Zu (y:Option cd) (dst:Option Nat) (a:List Nat) (ops l:List Oper) (ws:List W) (Q:Kt) (t:Nat->D) (h:Nat->Option Row) (e:Nat) (fs:List kU):Prop :=
 tC y fun E=>lZ T Γ N F ops l ws Q (eO t dst E.val) (aW h E.hw) e (fs++[⟨a,E.hw.isEmpty⟩])
def Lx (d:D) (g:Nat) (x y:Code) (ws:List W) (Q:Kt) (t:Nat->D) (h:Nat->Option Row) (e:Nat):Prop :=
 R0 d t g (fun t=>dB T Γ N F (.code x::ws) Q .normal t h e) (fun t=>dB T Γ N F (.code y::ws) Q .normal t h e)
def Xu (d:D) (g:Nat) (a b:Operand) (dst:Option Nat) (ops l:List Oper) (ws:List W) (Q:Kt) (t:Nat->D) (h:Nat->Option Row) (e:Nat):Prop :=
 R0 d t g (fun t=>lh T Γ N F ops l ws Q (eO t dst (ev t a)) h e) (fun t=>lh T Γ N F ops l ws Q (eO t dst (ev t b)) h e)
def Xv (d:D) (g:Nat) (a b:Operand) (dst:Option Nat) (ops l:List Oper) (ws:List W) (Q:Kt) (t:Nat->D) (h:Nat->Option Row) (e:Nat) (fs:List kU):Prop :=
 R0 d t g (fun t=>lZ T Γ N F ops l ws Q (eO t dst (ev t a)) h e (fs++[⟨[],true⟩])) (fun t=>lZ T Γ N F ops l ws Q (eO t dst (ev t b)) h e (fs++[⟨[],true⟩]))
def Tv (b:Code) (ws:List W) (Q:Kt) (t:Nat->D) (h:Nat->Option Row) (e:Nat):Prop:=PO T Γ N F (.loop b) t h e (dB T Γ N F ws Q)
end
def IT {n:Nat} (h:n<=1000000):n<=maxLen:=aeZ h (by decide)
def Jm {z:List D} : n9 0 z=[]:=ahM
def Jl {n:Nat} {z:List D} : n9 (n+1) z=z++n9 n z:=by simp[n9,List.replicate_succ]
def IH {N:Nat} : fits N none=true:=ahM
def II {N i:Nat} : fits N (some i)=decide (i<N):=ahM
def vT:List Oper->Nat->Nat
 | [],_=>0
 | o::_,0=>o.dst.getD 0
 | _::l,j+1=>vT l j
def Ab:List Oper->Nat->Bool
 | [],_=>false
 | o::_,0=>o.dst.isSome
 | _::l,j+1=>Ab l j
def En:∀(l:List Oper) (j:Nat),Ab l j=true->(l[j]?).bind (·.dst)=some (vT l j)
 | [],j,h=>by simp[Ab]at h
 | o::l,0,h=>by
  simp only[Ab]at h;simp only[List.getElem?_cons_zero,Option.bind_some,vT];cases a:o.dst with
  | none=>rw[a]at h;cases h
  | some d=>rfl
 | o::l,j+1,h=>by simpa [vT] using En l j h
def Ep {d:Nat} {op:Op} {ty:Nat} {pos:String} {af:Array Edge} {gd:Option (Nat×Bool)} {l:List Oper} : vT (⟨some d,op,ty,pos,af,gd⟩::l) 0=d:=ahM
def Eo {o:Oper} {l:List Oper} {j:Nat} : vT (o::l) (j+1)=vT l j:=ahM
def E7 {d:Nat} {op:Op} {ty:Nat} {pos:String} {af:Array Edge} {gd:Option (Nat×Bool)} {l:List Oper} : Ab (⟨some d,op,ty,pos,af,gd⟩::l) 0=true:=ahM
def E6 {o:Oper} {l:List Oper} {j:Nat} : Ab (o::l) (j+1)=Ab l j:=ahM
section
variable {dst:Option Nat} {ty:Nat} {pos:String} {af:Array Edge} {gd:Option (Nat×Bool)} {vs:Operand->D}
def KO (vs:Operand->D):List Operand->List Nat
 | []=>[]
 | x::l=>nm (vs x)++KO vs l
def lX (vs:Operand->D):∀l:List Operand,(l.flatMap fun x=>nm (vs x))=KO vs l
 | []=>Eq.trans rfl rfl
 | x::l=>by rw[agq,lX vs l];exact Eq.trans rfl rfl
def Ti:KO vs []=[]:=ahM
def Oe {x:Operand} {l:List Operand} : KO vs (x::l)=nm (vs x)++KO vs l:=ahM
def CS {o:BinOp} {a z:Nat} {x y:Operand} : cH ⟨dst,.binOp o a x y z,ty,pos,af,gd⟩ vs=(KO vs [x,y]++dst.toList).map rt:=by rw[<- lX];rfl
def GH {o:UnOp} {a:Nat} {x:Operand} : cH ⟨dst,.unOp o a x,ty,pos,af,gd⟩ vs=(KO vs [x]++dst.toList).map rt:=by rw[<- lX];rfl
def Ay {x:Operand} : cH ⟨dst,.assign x,ty,pos,af,gd⟩ vs=(KO vs [x]++dst.toList).map rt:=by rw[<- lX];rfl
def GG {a:Nat} {x:Operand} : cH ⟨dst,.load a x,ty,pos,af,gd⟩ vs=(KO vs [x]++dst.toList).map rt:=by rw[<- lX];rfl
def CU {a:Nat} {x y:Operand} : cH ⟨dst,.store a x y,ty,pos,af,gd⟩ vs=(KO vs [x,y]++dst.toList).map rt:=by rw[<- lX];rfl
def vl {a i:Nat} {x:Operand} : cH ⟨dst,.fieldAddr a x i,ty,pos,af,gd⟩ vs=(KO vs [x]++dst.toList).map rt:=by rw[<- lX];rfl
def vo {a:Nat} {x i:Operand} : cH ⟨dst,.indexAddr a x i,ty,pos,af,gd⟩ vs=(KO vs [x,i]++dst.toList).map rt:=by rw[<- lX];rfl
def vp {a:Nat} {x y:Operand} : cH ⟨dst,.makeSlice a x y,ty,pos,af,gd⟩ vs=(KO vs [x,y]++dst.toList).map rt:=by rw[<- lX];rfl
def CR {a:Nat} : cH ⟨dst,.alloc a,ty,pos,af,gd⟩ vs=(KO vs []++dst.toList).map rt:=by rw[<- lX];rfl
def yA {x:Operand} {i:Nat} : cH ⟨dst,.extract x i,ty,pos,af,gd⟩ vs=(KO vs [x]++dst.toList).map rt:=by rw[<- lX];rfl
def CT {b:Nat} {a:List (Nat×Operand)} : cH ⟨dst,.build b a.toArray,ty,pos,af,gd⟩ vs=(KO vs (a.map (·.2))++dst.toList).map rt:=by rw[<- lX];rfl
def tL {c a:Nat} {b:List (Nat×Operand)} : cH ⟨dst,.buildSlice c a b.toArray,ty,pos,af,gd⟩ vs=(KO vs (b.map (·.2))++dst.toList).map rt:=by rw[<- lX];rfl
def GF {x:Operand} {l:List Operand} {a:Array Nat} : cH ⟨dst,.call ⟨.value x,l.toArray,a⟩,ty,pos,af,gd⟩ vs=(KO vs (x::l)++dst.toList).map rt:=by
 rw[<- lX];simp[cH,gP,Op.operands,Call.operands]
def yz {x:Builtin} {l:List Operand} {a:Array Nat} : cH ⟨dst,.call ⟨.builtin x,l.toArray,a⟩,ty,pos,af,gd⟩ vs=(KO vs l++dst.toList).map rt:=by
 rw[<- lX];simp[cH,gP,Op.operands,Call.operands]
end
section
variable {T:Nat->Option Ty} {ty e:Nat} {dst:Option Nat} {h:Nat->Option Row}
def Sp {k:IntKind} {n:Int} : dh T ty e dst h (.int k n)=some ⟨.int k n,[]⟩:=ahM
def L4 {b:Bool} : dh T ty e dst h (.bool b)=some ⟨.bool b,[]⟩:=ahM
def VV {a:Bool} {n:Nat} {xs:List D} : dh T ty e dst h (.sl false a n xs)=some ⟨.sl false a n xs,[]⟩:=ahM
def VU {x v:Nat} : dh T ty e dst h (.mp x v)=some ⟨.mp x v,[]⟩:=ahM
def Dm {f a:Nat} {xs:List D} : dh T ty e dst h (.clo f a xs)=some ⟨.clo f a xs,[]⟩:=ahM
def aaH (b:Bool) (T:Nat->Option Ty) (ty e d:Nat) (h:Nat->Option Row) (x:D):Option cd:=if b then dh T ty e (some d) h x else mI h x
def HN {d:Nat} {x:D} : aaH true T ty e d h x=dh T ty e (some d) h x:=ahM
def DY {d:Nat} {x:D} : aaH false T ty e d h x=mI h x:=ahM
def ZS {q:Nat->Bool} {d:Nat} {x:D} : sM T q ty e (some d) h x=aaH (q d) T ty e d h x:=ahM
def VH {a b:Bool} {n:Nat} {xs:List D} : mI h (.sl a b n xs)=some ⟨.sl false false n xs,[]⟩:=ahM
def Ys (e d y s o n:Nat) (r:Row):Bool->Option cd
 | true=>some ⟨.buf y r.v s o n,[]⟩
 | false=>some ⟨.buf d e s o n,[(y,none),(d,some { r with v:=e })]⟩
def DX {d y s o n:Nat} {r:Row} : Ys e d y s o n r false=some ⟨.buf d e s o n,[(y,none),(d,some { r with v:=e })]⟩:=ahM
def aaG (y v s o n:Nat):Option Row->Option cd
 | some _=>some ⟨.buf y v s o n,[]⟩
 | none=>some ⟨.und,[]⟩
def HJ {y v s o n:Nat} {r:Row} : aaG y v s o n (some r)=some ⟨.buf y v s o n,[]⟩:=ahM
def VT (e:Nat) (dst:Option Nat) (y s o n:Nat) (w:Option cd):Option Row->Option cd
 | some r=>match dst with|some d=>Ys e d y s o n r r.fz|none=>w
 | none=>w
def HL {d y s o n:Nat} {r:Row} {w:Option cd} : VT e (some d) y s o n w (some r)=Ys e d y s o n r r.fz:=ahM
def HK {d y s o n:Nat} {w:Option cd} : VT e (some d) y s o n w none=w:=ahM
def Sn {d y v s o n:Nat} : dh T ty e (some d) h (.buf y v s o n)=VT e (some d) y s o n (aaG y v s o n (oS h y v)) (live h y v):=by
 simp only[dh];cases a:live h y v with
 | none=>simp only[VT];cases oS h y v<;>simp[aaG]
 | some r =>
  obtain⟨_,b⟩:=cw a;simp only[VT];cases c:r.fz<;>simp[Ys,b,c]
def Yt (e:Nat) (dst:Option Nat) (T:Nat->Option Ty):Option Ty->Option cd
 | some τ =>
  match dst with
  | some d=>match τ.ds with
   | .slice el=>match T el with|some φ=>some ⟨.buf d e φ.size 0 0,[(d,some ⟨e,el,[],false,true,false⟩)]⟩|none=>none
   | _=>none
  | none=>none
 | none=>none
def HM {d el b c:Nat} {z:List Value} {q:Bool} {φ:Ty} (a:T el=some φ):Yt e (some d) T (some ⟨.slice el,b,c,z,q⟩)=some ⟨.buf d e φ.size 0 0,[(d,some ⟨e,el,[],false,true,false⟩)]⟩:=by simp only[Yt,a]
def Sq:dh T ty e dst h (.sl true true 0 [])=Yt e dst T (T ty):=by
 unfold dh Yt;cases dst<;>cases T ty<;>rfl
end
def okD (x:Option D):Option cd:=match x with|some d=>some ⟨d,[]⟩|none=>none
def Om (d:D):okD (some d)=some ⟨d,[]⟩:=ahM
def F5 (x:Option Ty) (f:Ty->Option cd):Option cd:=match x with|some τ=>f τ|none=>none
def OD (τ:Ty) (f:Ty->Option cd):F5 (some τ) f=f τ:=ahM
def ab5 (x:Option (List D×List Nat)) (h:Nat->Option Row) (ty d e:Nat):Option cd :=
 match x with
 | some (cs,a)=>if a.contains d=false then some ⟨.ptr d e 0,jw h a++[(d,some ⟨e,ty,cs,false,false,false⟩)]⟩ else none
 | none=>none
def HQ (cs:List D) (a:List Nat) (h:Nat->Option Row) (ty d e:Nat):ab5 (some (cs,a)) h ty d e=if a.contains d=false then some ⟨.ptr d e 0,jw h a++[(d,some ⟨e,ty,cs,false,false,false⟩)]⟩ else none:=ahM
def abk (d e:Nat):Option Nat->D
 | some y =>.pm d e y
 | none =>.ptr d e 0
def Ji {d e:Nat} : abk d e none=.ptr d e 0:=ahM
def DV (x:Option Ty) (ty d e:Nat) (y:Option Nat):Option cd :=
 match x with
 | some τ=>if (τ.zero.map oF).all bz then some ⟨abk d e y,[(d,some ⟨e,ty,τ.zero.map oF,false,false,false⟩)]⟩ else none
 | none=>none
def BX (τ:Ty) (ty d e:Nat) (y:Option Nat):DV (some τ) ty d e y=if (τ.zero.map oF).all bz then some ⟨abk d e y,[(d,some ⟨e,ty,τ.zero.map oF,false,false,false⟩)]⟩ else none:=ahM
def Xg (T:Nat->Option Ty) (x:Option Ty) (ty e d:Nat):Option cd:=match x with|some τ=>nO T ty τ e d|none=>none
def Xh {T:Nat->Option Ty} {τ φ:Ty} {b:Bool} {ty e d:Nat} (a:Fl T τ=some (b,φ)) (c:ty<900000):Xg T (some τ) ty e d=some ⟨.mp d e,[(d,some ⟨e,ty,[.mpc [] []],false,true,true⟩)]⟩:=by simp only[Xg,nO,a];rw[if_neg (by omega)]
def ZT (x y:Option Ty) (d:D):Option cd :=
 match x,y,d with
 | some τ,some _,.int _ n=>(match τ.ds with | .int k=>some ⟨.int k (k.wrap n),[]⟩|_=>none)
 | _,_,_=>none
def H6 (k:IntKind) (b c:Nat) (z:List Value) (q:Bool) (σ:Ty) (a:IntKind) (n:Int):ZT (some ⟨.int k,b,c,z,q⟩) (some σ) (.int a n)=some ⟨.int k (k.wrap n),[]⟩:=ahM
def YF (d:D) (i:Nat):Option cd:=match d with | .tup xs=>(match xs[i]? with|some d=>some ⟨d,[]⟩|none=>none)|_=>none
def M4 (xs:List D) (i:Nat):YF (.tup xs) i=okD xs[i]?:=by simp only[YF,okD]
section
variable {T:Nat->Option Ty} {Γ:Env} {N F e:Nat} {ws:List W} {Q:Kt} {t:Nat->D} {h:Nat->Option Row}
def bS {x:Ex} : dB T Γ N F [] Q x t h e=Q x t h e:=ahM
def Jw:dB T Γ N F (.code .skip::ws) Q .normal t h e=dB T Γ N F ws Q .normal t h e:=ahM
def O1 {a b:Code} : dB T Γ N F (.code (.seq a b)::ws) Q .normal t h e=dB T Γ N F (.code a :: .code b::ws) Q .normal t h e:=ahM
def O0:dB T Γ N F (.code .ret::ws) Q .normal t h e=dB T Γ N F ws Q .ret t h e:=ahM
def Ju {id:Nat} : dB T Γ N F (.code (.exit id)::ws) Q .normal t h e=dB T Γ N F ws Q (.exit id) t h e:=ahM
def Gr {id:Nat} {b:Code} : dB T Γ N F (.code (.block id b)::ws) Q .normal t h e=dB T Γ N F (.code b :: .blk id::ws) Q .normal t h e:=ahM
def Jv {b:Code} : dB T Γ N F (.code (.loop b)::ws) Q .normal t h e=Tv T Γ N F b ws Q t h e:=ahM
def aP {c:Code} : dB T Γ N F (.code c::ws) Q .ret t h e=dB T Γ N F ws Q .ret t h e:=ahM
def wV {c:Code} {n:Nat} : dB T Γ N F (.code c::ws) Q (.exit n) t h e=dB T Γ N F ws Q (.exit n) t h e:=ahM
def vg {id:Nat} : dB T Γ N F (.blk id::ws) Q .normal t h e=dB T Γ N F ws Q .normal t h e:=ahM
def aV {id:Nat} : dB T Γ N F (.blk id::ws) Q .ret t h e=dB T Γ N F ws Q .ret t h e:=ahM
def yw {id n:Nat} : dB T Γ N F (.blk id::ws) Q (.exit n) t h e=if n=id then dB T Γ N F ws Q .normal t h e else dB T Γ N F ws Q (.exit n) t h e:=ahM
def CL {i:Nat} {ops:List Oper} : dB T Γ N F (.code (.region i ops.toArray false)::ws) Q .normal t h e=lh T Γ N F ops ops ws Q t h e:=ahM
def Gt {i:Nat} {ops:List Oper} : dB T Γ N F (.code (.region i ops.toArray true)::ws) Q .normal t h e=lZ T Γ N F ops ops ws Q t h e []:=ahM
def Jt {g:Nat} {x y:Code} : dB T Γ N F (.code (.cond (.tmp g) x y)::ws) Q .normal t h e=Lx T Γ N F (t g) g x y ws Q t h e:=ahM
def Gs {x y:Code} : dB T Γ N F (.code (.cond (.const (.bool false)) x y)::ws) Q .normal t h e=dB T Γ N F (.code y::ws) Q .normal t h e:=ahM
def JR {g:Nat} {x y:Code} (a:t g=.bool true):Lx T Γ N F (.bool true) g x y ws Q t h e=dB T Γ N F (.code x::ws) Q .normal t h e:=AA a
def GK {g:Nat} {x y:Code} (a:t g=.bool false):Lx T Γ N F (.bool false) g x y ws Q t h e=dB T Γ N F (.code y::ws) Q .normal t h e:=xY a
def U7 {b:Bool} {g:Nat} {x y:Code} : Lx T Γ N F (.bool b) g x y ws Q t h e=br b (dB T Γ N F (.code x::ws) Q .normal (bY t g (.bool true)) h e) (dB T Γ N F (.code y::ws) Q .normal (bY t g (.bool false)) h e):=by
 unfold Lx;rw[Yb];cases b<;>simp[br]
variable {ops l:List Oper} {dst:Option Nat} {op:Op} {ty:Nat} {pos:String} {af:Array Edge} {gd:Option (Nat×Bool)} {fs:List kU}
def OY:lh T Γ N F ops [] ws Q t h e=dB T Γ N F ws Q .normal t h (e+1):=ahM
def Jr (a:fits N dst=true):lh T Γ N F ops (⟨dst,op,ty,pos,af,none⟩::l) ws Q t h e=rN T Γ N F ⟨dst,op,ty,pos,af,none⟩ ops l ws Q t h e:=by
 simp only[lh,Gq,Yd,a,true_and,rN]
def Gn {j:Nat} {a:Bool} (b:fits N dst=true) (c:Ab ops j=true):lh T Γ N F ops (⟨dst,op,ty,pos,af,some (j,a)⟩::l) ws Q t h e=yf T Γ N F (t (vT ops j)) (vT ops j) a ⟨dst,op,ty,pos,af,none⟩ ops l ws Q t h e:=by
 simp only[lh,Gq,Yd,b,true_and,En ops j c,FE,yf]<;>cases a<;>rfl
def PA {g:Nat} {a:Bool} {o:Oper} : yf T Γ N F .skp g a o ops l ws Q t h e=lh T Γ N F ops l ws Q (eO t o.dst .skp) h e:=ahM
def JS {g:Nat} {o:Oper} (a:t g=.bool true):yf T Γ N F (.bool true) g true o ops l ws Q t h e=rN T Γ N F o ops l ws Q t h e:=(AE a).trans (if_pos rfl)
def GL {g:Nat} {o:Oper} (a:t g=.bool false):yf T Γ N F (.bool false) g true o ops l ws Q t h e=lh T Γ N F ops l ws Q (eO t o.dst .skp) h e:=(xZ a).trans (if_pos rfl)
def GM {g:Nat} {o:Oper} (a:t g=.bool true):yf T Γ N F (.bool true) g false o ops l ws Q t h e=lh T Γ N F ops l ws Q (eO t o.dst .skp) h e:=(AE a).trans (if_neg (by decide))
def CV {g:Nat} {o:Oper} (a:t g=.bool false):yf T Γ N F (.bool false) g false o ops l ws Q t h e=rN T Γ N F o ops l ws Q t h e:=(xZ a).trans (if_neg (by decide))
def U8 {b:Bool} {g:Nat} {o:Oper} : yf T Γ N F (.bool b) g true o ops l ws Q t h e=br b (rN T Γ N F o ops l ws Q (bY t g (.bool true)) h e) (lh T Γ N F ops l ws Q (eO (bY t g (.bool false)) o.dst .skp) h e):=by
 unfold yf;rw[AD];cases b<;>simp[br]
def RO {b:Bool} {g:Nat} {o:Oper} : yf T Γ N F (.bool b) g false o ops l ws Q t h e=br b (lh T Γ N F ops l ws Q (eO (bY t g (.bool true)) o.dst .skp) h e) (rN T Γ N F o ops l ws Q (bY t g (.bool false)) h e):=by
 unfold yf;rw[AD];cases b<;>simp[br]
def OZ:lZ T Γ N F ops [] ws Q t h e fs=(Es ops.toArray fs=true∧dB T Γ N F ws Q .normal t h (e+1)):=ahM
def Js (a:fits N dst=true):lZ T Γ N F ops (⟨dst,op,ty,pos,af,none⟩::l) ws Q t h e fs=vt T Γ N F ⟨dst,op,ty,pos,af,none⟩ ops l ws Q t h e fs:=by
 simp only[lZ,runK,Yd,a,true_and,vt]
def Gp {j:Nat} {a:Bool} (b:fits N dst=true) (c:Ab ops j=true):lZ T Γ N F ops (⟨dst,op,ty,pos,af,some (j,a)⟩::l) ws Q t h e fs=yg T Γ N F (t (vT ops j)) (vT ops j) a ⟨dst,op,ty,pos,af,none⟩ ops l ws Q t h e fs:=by
 simp only[lZ,runK,Yd,b,true_and,En ops j c,FE,yg]<;>cases a<;>rfl
def PC {g:Nat} {a:Bool} {o:Oper} : yg T Γ N F .skp g a o ops l ws Q t h e fs=lZ T Γ N F ops l ws Q (eO t o.dst .skp) h e (fs++[⟨[],true⟩]):=ahM
def JT {g:Nat} {o:Oper} (a:t g=.bool true):yg T Γ N F (.bool true) g true o ops l ws Q t h e fs=vt T Γ N F o ops l ws Q t h e fs:=(AE a).trans (if_pos rfl)
def GN {g:Nat} {o:Oper} (a:t g=.bool false):yg T Γ N F (.bool false) g true o ops l ws Q t h e fs=lZ T Γ N F ops l ws Q (eO t o.dst .skp) h e (fs++[⟨[],true⟩]):=(xZ a).trans (if_pos rfl)
def GO {g:Nat} {o:Oper} (a:t g=.bool true):yg T Γ N F (.bool true) g false o ops l ws Q t h e fs=lZ T Γ N F ops l ws Q (eO t o.dst .skp) h e (fs++[⟨[],true⟩]):=(AE a).trans (if_neg (by decide))
def CW {g:Nat} {o:Oper} (a:t g=.bool false):yg T Γ N F (.bool false) g false o ops l ws Q t h e fs=vt T Γ N F o ops l ws Q t h e fs:=(xZ a).trans (if_neg (by decide))
def U9 {b:Bool} {g:Nat} {o:Oper} : yg T Γ N F (.bool b) g true o ops l ws Q t h e fs=br b (vt T Γ N F o ops l ws Q (bY t g (.bool true)) h e fs) (lZ T Γ N F ops l ws Q (eO (bY t g (.bool false)) o.dst .skp) h e (fs++[⟨[],true⟩])):=by
 unfold yg;rw[AD];cases b<;>simp[br]
def RQ {b:Bool} {g:Nat} {o:Oper} : yg T Γ N F (.bool b) g false o ops l ws Q t h e fs=br b (lZ T Γ N F ops l ws Q (eO (bY t g (.bool true)) o.dst .skp) h e (fs++[⟨[],true⟩])) (vt T Γ N F o ops l ws Q (bY t g (.bool false)) h e fs):=by
 unfold yg;rw[AD];cases b<;>simp[br]
def Pj {d:D} {a:List (Nat×Option Row)} : CO T Γ N F (some ⟨d,a⟩) dst ops l ws Q t h e=lh T Γ N F ops l ws Q (eO t dst d) (aW h (kQ h a)) e:=ahM
def Po {d:D} {a:List (Nat×Option Row)} {b:List Nat} : LP T Γ N F (some ⟨d,a⟩) dst b ops l ws Q t h e fs=lZ T Γ N F ops l ws Q (eO t dst d) (aW h (kQ h a)) e (fs++[⟨b,(kQ h a).isEmpty⟩]):=ahM
def TF {c:Prop} [Decidable c] {E:cd} : CO T Γ N F (if c then some E else none) dst ops l ws Q t h e=(c∧CO T Γ N F (some E) dst ops l ws Q t h e):=by
 by_cases a:c<;>simp[a,CO,Gy,Yj,tC]
def TI {c:Prop} [Decidable c] {E:cd} {a:List Nat} : LP T Γ N F (if c then some E else none) dst a ops l ws Q t h e fs=(c∧LP T Γ N F (some E) dst a ops l ws Q t h e fs):=by
 by_cases b:c<;>simp[b,LP,Gz,Yj,tC]
def JF {E:cd} {y:Option cd} : Gy T Γ N F (some E) y dst ops l ws Q t h e=CO T Γ N F (some E) dst ops l ws Q t h e:=ahM
def JM {E:cd} {y:Option cd} {a:List Nat} : Gz T Γ N F (some E) y dst a ops l ws Q t h e fs=LP T Γ N F (some E) dst a ops l ws Q t h e fs:=ahM
def JE {y:Option cd} : Gy T Γ N F none y dst ops l ws Q t h e=XP T Γ N F y dst ops l ws Q t h e:=ahM
def JL {y:Option cd} {a:List Nat} : Gz T Γ N F none y dst a ops l ws Q t h e fs=Zu T Γ N F y dst a ops l ws Q t h e fs:=ahM
def TE {x:Option cd} : Gy T Γ N F x none dst ops l ws Q t h e=CO T Γ N F x dst ops l ws Q t h e:=ahM
def TH {x:Option cd} {a:List Nat} : Gz T Γ N F x none dst a ops l ws Q t h e fs=LP T Γ N F x dst a ops l ws Q t h e fs:=ahM
def JG {d:D} {a:List (Nat×Option Row)} : XP T Γ N F (some ⟨d,a⟩) dst ops l ws Q t h e=lh T Γ N F ops l ws Q (eO t dst d) (aW h a) e:=ahM
def JN {d:D} {a:List (Nat×Option Row)} {b:List Nat} : Zu T Γ N F (some ⟨d,a⟩) dst b ops l ws Q t h e fs=lZ T Γ N F ops l ws Q (eO t dst d) (aW h a) e (fs++[⟨b,a.isEmpty⟩]):=ahM
def Ga {g:Nat} {a b:Operand} (c:t g=.bool true):Xu T Γ N F (.bool true) g a b dst ops l ws Q t h e=lh T Γ N F ops l ws Q (eO t dst (ev t a)) h e:=AA c
def CG {g:Nat} {a b:Operand} (c:t g=.bool false):Xu T Γ N F (.bool false) g a b dst ops l ws Q t h e=lh T Γ N F ops l ws Q (eO t dst (ev t b)) h e:=xY c
def Gb {g:Nat} {a b:Operand} (c:t g=.bool true):Xv T Γ N F (.bool true) g a b dst ops l ws Q t h e fs=lZ T Γ N F ops l ws Q (eO t dst (ev t a)) h e (fs++[⟨[],true⟩]):=AA c
def CH {g:Nat} {a b:Operand} (c:t g=.bool false):Xv T Γ N F (.bool false) g a b dst ops l ws Q t h e fs=lZ T Γ N F ops l ws Q (eO t dst (ev t b)) h e (fs++[⟨[],true⟩]):=xY c
def MH {c:Nat} {a b:Operand} : rN T Γ N F ⟨dst,.pick (.tmp c) a b,ty,pos,af,gd⟩ ops l ws Q t h e=Xu T Γ N F (t c) c a b dst ops l ws Q t h e:=ahM
def MN {c:Nat} {a b:Operand} : vt T Γ N F ⟨dst,.pick (.tmp c) a b,ty,pos,af,gd⟩ ops l ws Q t h e fs=Xv T Γ N F (t c) c a b dst ops l ws Q t h e fs:=ahM
def zP {x y:Option cd} (f:∀c a b,op ≠ .pick c a b) (g:gS T Γ e ⟨dst,op,ty,pos,af,gd⟩ (ev t)=none) (d:oQ Γ e h dst (iA (ev t) op)=none) (i:rL T Γ e ⟨dst,op,ty,pos,af,gd⟩ (ev t) (EH h)=x) (j:vX T Γ e ⟨dst,op,ty,pos,af,gd⟩ (ev t) h=y):rN T Γ N F ⟨dst,op,ty,pos,af,gd⟩ ops l ws Q t h e=Gy T Γ N F x y dst ops l ws Q t h e:=by
 subst i;subst j;unfold rN Gy PM p5;rw[g];simp only;rw[d];cases op<;>first|rfl|exact absurd rfl (f _ _ _)
def zR {x y:Option cd} (f:∀c a b,op ≠ .pick c a b) (g:gS T Γ e ⟨dst,op,ty,pos,af,gd⟩ (ev t)=none) (d:oQ Γ e h dst (iA (ev t) op)=none) (i:rL T Γ e ⟨dst,op,ty,pos,af,gd⟩ (ev t) (EH h)=x) (j:vX T Γ e ⟨dst,op,ty,pos,af,gd⟩ (ev t) h=y):vt T Γ N F ⟨dst,op,ty,pos,af,gd⟩ ops l ws Q t h e fs=Gz T Γ N F x y dst (cH ⟨dst,op,ty,pos,af,gd⟩ (ev t)) ops l ws Q t h e fs:=by
 subst i;subst j;unfold vt Gz PM p5;rw[g];simp only;rw[d];cases op<;>first|rfl|exact absurd rfl (f _ _ _)
def fL {x:Option cd} (f:∀c a b,op ≠ .pick c a b) (g:rL T Γ e ⟨dst,op,ty,pos,af,gd⟩ (ev t) (EH h)=x) (i:gS T Γ e ⟨dst,op,ty,pos,af,gd⟩ (ev t)=none:=by rfl) (j:vX T Γ e ⟨dst,op,ty,pos,af,gd⟩ (ev t) h=none:=by rfl) (d:oQ Γ e h dst (iA (ev t) op)=none:=by first|rfl|(cases dst<;>rfl)):rN T Γ N F ⟨dst,op,ty,pos,af,gd⟩ ops l ws Q t h e=CO T Γ N F x dst ops l ws Q t h e:=zP f i d g j
def lI {x:Option cd} (f:∀c a b,op ≠ .pick c a b) (g:rL T Γ e ⟨dst,op,ty,pos,af,gd⟩ (ev t) (EH h)=x) (i:gS T Γ e ⟨dst,op,ty,pos,af,gd⟩ (ev t)=none:=by rfl) (j:vX T Γ e ⟨dst,op,ty,pos,af,gd⟩ (ev t) h=none:=by rfl) (d:oQ Γ e h dst (iA (ev t) op)=none:=by first|rfl|(cases dst<;>rfl)):vt T Γ N F ⟨dst,op,ty,pos,af,gd⟩ ops l ws Q t h e fs=LP T Γ N F x dst (cH ⟨dst,op,ty,pos,af,gd⟩ (ev t)) ops l ws Q t h e fs:=zR f i d g j
def MG {x:Operand} : rN T Γ N F ⟨dst,.move x,ty,pos,af,gd⟩ ops l ws Q t h e=lh T Γ N F ops l ws Q (eO t dst (ev t x)) h e:=(fL (fun _ _ _ a=>by cases a) rfl).trans rfl
def MM {x:Operand} : vt T Γ N F ⟨dst,.move x,ty,pos,af,gd⟩ ops l ws Q t h e fs=lZ T Γ N F ops l ws Q (eO t dst (ev t x)) h e (fs++[⟨[],true⟩]):=(lI (fun _ _ _ a=>by cases a) rfl).trans rfl
def H9 {o:BinOp} {a z:Nat} {x y:Operand} : rN T Γ N F ⟨dst,.binOp o a x y z,ty,pos,af,gd⟩ ops l ws Q t h e=CO T Γ N F (okD (DZ T a o (ev t x) (ev t y))) dst ops l ws Q t h e:=fL (fun _ _ _ b=>by cases b) (by simp only[rL];first|rfl|(cases DZ T a o (ev t x) (ev t y)<;>rfl))
def Ii {o:BinOp} {a z:Nat} {x y:Operand} : vt T Γ N F ⟨dst,.binOp o a x y z,ty,pos,af,gd⟩ ops l ws Q t h e fs=LP T Γ N F (okD (DZ T a o (ev t x) (ev t y))) dst (cH ⟨dst,.binOp o a x y z,ty,pos,af,gd⟩ (ev t)) ops l ws Q t h e fs:=lI (fun _ _ _ b=>by cases b) (by simp only[rL];first|rfl|(cases DZ T a o (ev t x) (ev t y)<;>rfl))
def MI {o:UnOp} {a:Nat} {x:Operand} : rN T Γ N F ⟨dst,.unOp o a x,ty,pos,af,gd⟩ ops l ws Q t h e=CO T Γ N F (okD (Vb o (ev t x))) dst ops l ws Q t h e:=fL (fun _ _ _ b=>by cases b) (by simp only[rL];first|rfl|(cases Vb o (ev t x)<;>rfl))
def MO {o:UnOp} {a:Nat} {x:Operand} : vt T Γ N F ⟨dst,.unOp o a x,ty,pos,af,gd⟩ ops l ws Q t h e fs=LP T Γ N F (okD (Vb o (ev t x))) dst (cH ⟨dst,.unOp o a x,ty,pos,af,gd⟩ (ev t)) ops l ws Q t h e fs:=lI (fun _ _ _ b=>by cases b) (by simp only[rL];first|rfl|(cases Vb o (ev t x)<;>rfl))
def Eg {x:Operand} : rN T Γ N F ⟨dst,.assign x,ty,pos,af,gd⟩ ops l ws Q t h e=CO T Γ N F (sM T Γ.own ty e dst (EH h) (ev t x)) dst ops l ws Q t h e:=fL (fun _ _ _ a=>by cases a) rfl
def Ei {x:Operand} : vt T Γ N F ⟨dst,.assign x,ty,pos,af,gd⟩ ops l ws Q t h e fs=LP T Γ N F (sM T Γ.own ty e dst (EH h) (ev t x)) dst (cH ⟨dst,.assign x,ty,pos,af,gd⟩ (ev t)) ops l ws Q t h e fs:=lI (fun _ _ _ a=>by cases a) rfl
def zQ {f:Nat} {first caps:List Operand} : rN T Γ N F ⟨dst,.makeFunc (.func f) first.toArray caps.toArray,ty,pos,af,gd⟩ ops l ws Q t h e=CO T Γ N F (if (first.map (ev t)++caps.map (ev t)).all sh then some ⟨.clo f first.length (first.map (ev t)++caps.map (ev t)),[]⟩ else none) dst ops l ws Q t h e:=fL (fun _ _ _ a=>by cases a) rfl
def ME {a:Nat} {x:Operand} : rN T Γ N F ⟨dst,.load a x,ty,pos,af,gd⟩ ops l ws Q t h e=Gy T Γ N F (F5 (T a) fun τ=>qS τ (EH h) (ev t x)) (F5 (T a) fun τ=>vW τ h (ev t x)) dst ops l ws Q t h e:=zP (fun _ _ _ b=>by cases b) rfl (by cases dst<;>rfl) (by simp only[rL];first|rfl|(cases T a<;>rfl)) (by simp only[vX];first|rfl|(cases T a<;>rfl))
def MK {a:Nat} {x:Operand} : vt T Γ N F ⟨dst,.load a x,ty,pos,af,gd⟩ ops l ws Q t h e fs=Gz T Γ N F (F5 (T a) fun τ=>qS τ (EH h) (ev t x)) (F5 (T a) fun τ=>vW τ h (ev t x)) dst (cH ⟨dst,.load a x,ty,pos,af,gd⟩ (ev t)) ops l ws Q t h e fs:=zR (fun _ _ _ b=>by cases b) rfl (by cases dst<;>rfl) (by simp only[rL];first|rfl|(cases T a<;>rfl)) (by simp only[vX];first|rfl|(cases T a<;>rfl))
def Ig {a:Nat} {x y:Operand} : rN T Γ N F ⟨dst,.store a x y,ty,pos,af,gd⟩ ops l ws Q t h e=Gy T Γ N F (F5 (T a) fun τ=>gK τ (EH h) (ev t x) (ev t y)) (F5 (T a) fun τ=>vY τ e h (ev t x) (ev t y)) dst ops l ws Q t h e:=zP (fun _ _ _ b=>by cases b) rfl (by cases dst<;>rfl) (by simp only[rL];first|rfl|(cases T a<;>rfl)) (by simp only[vX];first|rfl|(cases T a<;>rfl))
def Il {a:Nat} {x y:Operand} : vt T Γ N F ⟨dst,.store a x y,ty,pos,af,gd⟩ ops l ws Q t h e fs=Gz T Γ N F (F5 (T a) fun τ=>gK τ (EH h) (ev t x) (ev t y)) (F5 (T a) fun τ=>vY τ e h (ev t x) (ev t y)) dst (cH ⟨dst,.store a x y,ty,pos,af,gd⟩ (ev t)) ops l ws Q t h e fs:=zR (fun _ _ _ b=>by cases b) rfl (by cases dst<;>rfl) (by simp only[rL];first|rfl|(cases T a<;>rfl)) (by simp only[vX];first|rfl|(cases T a<;>rfl))
def yk {a i:Nat} {x:Operand} : rN T Γ N F ⟨dst,.fieldAddr a x i,ty,pos,af,gd⟩ ops l ws Q t h e=CO T Γ N F (F5 (T a) fun τ=>fE T τ (EH h) i (ev t x)) dst ops l ws Q t h e:=fL (fun _ _ _ b=>by cases b) (by simp only[rL];first|rfl|(cases T a<;>rfl))
def yo {a i:Nat} {x:Operand} : vt T Γ N F ⟨dst,.fieldAddr a x i,ty,pos,af,gd⟩ ops l ws Q t h e fs=LP T Γ N F (F5 (T a) fun τ=>fE T τ (EH h) i (ev t x)) dst (cH ⟨dst,.fieldAddr a x i,ty,pos,af,gd⟩ (ev t)) ops l ws Q t h e fs:=lI (fun _ _ _ b=>by cases b) (by simp only[rL];first|rfl|(cases T a<;>rfl))
def yl {a:Nat} {x i:Operand} : rN T Γ N F ⟨dst,.indexAddr a x i,ty,pos,af,gd⟩ ops l ws Q t h e=CO T Γ N F (F5 (T a) fun τ=>cy T τ (EH h) (ev t x) (ev t i)) dst ops l ws Q t h e:=fL (fun _ _ _ b=>by cases b) (by simp only[rL];first|rfl|(cases T a<;>rfl))
def yp {a:Nat} {x i:Operand} : vt T Γ N F ⟨dst,.indexAddr a x i,ty,pos,af,gd⟩ ops l ws Q t h e fs=LP T Γ N F (F5 (T a) fun τ=>cy T τ (EH h) (ev t x) (ev t i)) dst (cH ⟨dst,.indexAddr a x i,ty,pos,af,gd⟩ (ev t)) ops l ws Q t h e fs:=lI (fun _ _ _ b=>by cases b) (by simp only[rL];first|rfl|(cases T a<;>rfl))
def Ib {a:Nat} {x i:Operand} : rN T Γ N F ⟨dst,.index a x i,ty,pos,af,gd⟩ ops l ws Q t h e=CO T Γ N F (F5 (T a) fun τ=>lu T τ (ev t x) (ev t i)) dst ops l ws Q t h e:=fL (fun _ _ _ b=>by cases b) (by simp only[rL];first|rfl|(cases T a<;>rfl))
def Ic {a:Nat} {x:Operand} {b c d:Option Operand} : rN T Γ N F ⟨dst,.slice a x b c d,ty,pos,af,gd⟩ ops l ws Q t h e=CO T Γ N F (F5 (T a) fun τ=>gJ T τ (EH h) (ev t x) (b.map (ev t)) (c.map (ev t)) (d.map (ev t))) dst ops l ws Q t h e:=fL (fun _ _ _ f=>by cases f) (by simp only[rL];first|rfl|(cases T a<;>rfl))
def Ia {a:Nat} {b:List (Nat×Operand)} : rN T Γ N F ⟨dst,.build a b.toArray,ty,pos,af,gd⟩ ops l ws Q t h e=CO T Γ N F (F5 (T a) fun τ=>qP Γ.own T τ (EH h) dst (b.map fun p=>(p.1,ev t p.2))) dst ops l ws Q t h e:=fL (fun _ _ _ c=>by cases c) (by simp only[rL];first|rfl|(cases T a<;>rfl))
def Ij {a:Nat} {b:List (Nat×Operand)} : vt T Γ N F ⟨dst,.build a b.toArray,ty,pos,af,gd⟩ ops l ws Q t h e fs=LP T Γ N F (F5 (T a) fun τ=>qP Γ.own T τ (EH h) dst (b.map fun p=>(p.1,ev t p.2))) dst (cH ⟨dst,.build a b.toArray,ty,pos,af,gd⟩ (ev t)) ops l ws Q t h e fs:=lI (fun _ _ _ c=>by cases c) (by simp only[rL];first|rfl|(cases T a<;>rfl))
def vQ {b a d:Nat} {c:List (Nat×Operand)} : rN T Γ N F ⟨some d,.buildSlice b a c.toArray,ty,pos,af,gd⟩ ops l ws Q t h e=CO T Γ N F (F5 (T b) fun τ=>ef T τ (EH h) e d a (c.map fun p=>(p.1,ev t p.2))) (some d) ops l ws Q t h e:=fL (fun _ _ _ f=>by cases f) (by simp only[rL];first|rfl|(cases T b<;>rfl))
def vR {b a d:Nat} {c:List (Nat×Operand)} : vt T Γ N F ⟨some d,.buildSlice b a c.toArray,ty,pos,af,gd⟩ ops l ws Q t h e fs=LP T Γ N F (F5 (T b) fun τ=>ef T τ (EH h) e d a (c.map fun p=>(p.1,ev t p.2))) (some d) (cH ⟨some d,.buildSlice b a c.toArray,ty,pos,af,gd⟩ (ev t)) ops l ws Q t h e fs:=lI (fun _ _ _ f=>by cases f) (by simp only[rL];first|rfl|(cases T b<;>rfl))
def Ft (T:Nat->Option Ty) (e d a:Nat) (x y:D):Option (Nat×Nat×Nat)->Option cd
 | some p=>(match T a with|some τ=>kp T τ e d p.1 p.2.1 p.2.2 x y|none=>none)
 | none=>none
def I0 {d a:Nat} {x y:D} : Ft T e d a x y none=none:=ahM
def I1 {d a:Nat} {x y:D} {p:Nat×Nat×Nat} {τ:Ty} (b:T a=some τ):Ft T e d a x y (some p)=kp T τ e d p.1 p.2.1 p.2.2 x y:=by simp only[Ft,b]
def stM (y x:Option cd) (dst:Option Nat) (ops l:List Oper) (ws:List W) (Q:Kt) (t:Nat->D) (h:Nat->Option Row) (e:Nat):Prop :=
 match y with
 | some E=>XP T Γ N F (some E) dst ops l ws Q t h e
 | none=>CO T Γ N F x dst ops l ws Q t h e
def abx (y x:Option cd) (dst:Option Nat) (a:List Nat) (ops l:List Oper) (ws:List W) (Q:Kt) (t:Nat->D) (h:Nat->Option Row) (e:Nat) (fs:List kU):Prop :=
 match y with
 | some E=>Zu T Γ N F (some E) dst a ops l ws Q t h e fs
 | none=>LP T Γ N F x dst a ops l ws Q t h e fs
def ym {a d:Nat} {x y:Operand} : rN T Γ N F ⟨some d,.makeSlice a x y,ty,pos,af,gd⟩ ops l ws Q t h e=stM (T:=T) (Γ:=Γ) (N:=N) (F:=F) (Ft T e d a (ev t x) (ev t y) (Γ.nst d)) (F5 (T a) fun τ=>sa T τ e d (ev t x) (ev t y)) (some d) ops l ws Q t h e:=by
 have b:gS T Γ e ⟨some d,.makeSlice a x y,ty,pos,af,gd⟩ (ev t)=Ft T e d a (ev t x) (ev t y) (Γ.nst d):=by
  unfold gS Ft;simp only;cases Γ.nst d<;>rfl
 cases c:Ft T e d a (ev t x) (ev t y) (Γ.nst d) with
 | none=>exact fL (fun _ _ _ f=>by cases f) (by simp only[rL];first|rfl|(cases T a<;>rfl)) (b.trans c)
 | some E=>unfold rN PM p5;rw[b,c];rfl
def yr {a d:Nat} {x y:Operand} : vt T Γ N F ⟨some d,.makeSlice a x y,ty,pos,af,gd⟩ ops l ws Q t h e fs=abx (T:=T) (Γ:=Γ) (N:=N) (F:=F) (Ft T e d a (ev t x) (ev t y) (Γ.nst d)) (F5 (T a) fun τ=>sa T τ e d (ev t x) (ev t y)) (some d) (cH ⟨some d,.makeSlice a x y,ty,pos,af,gd⟩ (ev t)) ops l ws Q t h e fs:=by
 have b:gS T Γ e ⟨some d,.makeSlice a x y,ty,pos,af,gd⟩ (ev t)=Ft T e d a (ev t x) (ev t y) (Γ.nst d):=by
  unfold gS Ft;simp only;cases Γ.nst d<;>rfl
 cases c:Ft T e d a (ev t x) (ev t y) (Γ.nst d) with
 | none=>exact lI (fun _ _ _ f=>by cases f) (by simp only[rL];first|rfl|(cases T a<;>rfl)) (b.trans c)
 | some E=>unfold vt PM p5;rw[b,c];rfl
def Pk {x:Option cd} : stM (T:=T) (Γ:=Γ) (N:=N) (F:=F) none x dst ops l ws Q t h e=CO T Γ N F x dst ops l ws Q t h e:=ahM
def JH {x:Option cd} {a:List Nat} : abx (T:=T) (Γ:=Γ) (N:=N) (F:=F) none x dst a ops l ws Q t h e fs=LP T Γ N F x dst a ops l ws Q t h e fs:=ahM
def Pm {x:Option cd} {E:cd} : stM (T:=T) (Γ:=Γ) (N:=N) (F:=F) (some E) x dst ops l ws Q t h e=XP T Γ N F (some E) dst ops l ws Q t h e:=ahM
def VN (T:Nat->Option Ty) (e d a:Nat):Option (Nat×Nat×Nat)->Option cd
 | some p=>(match T a with|some τ=>YR τ a e d p.1 p.2.1 p.2.2|none=>none)
 | none=>none
def LZ {d a:Nat} : VN T e d a none=none:=ahM
def L0 {d a:Nat} {p:Nat×Nat×Nat} {τ:Ty} (b:T a=some τ):VN T e d a (some p)=YR τ a e d p.1 p.2.1 p.2.2:=by simp only[VN,b]
def H8 {a d:Nat} : rN T Γ N F ⟨some d,.alloc a,ty,pos,af,gd⟩ ops l ws Q t h e=stM (T:=T) (Γ:=Γ) (N:=N) (F:=F) (VN T e d a (Γ.nst d)) (DV (T a) a d e (Γ.hint d)) (some d) ops l ws Q t h e:=by
 have b:gS T Γ e ⟨some d,.alloc a,ty,pos,af,gd⟩ (ev t)=VN T e d a (Γ.nst d):=by
  unfold gS VN;simp only;cases Γ.nst d<;>rfl
 cases c:VN T e d a (Γ.nst d) with
 | none=>exact fL (fun _ _ _ f=>by cases f) (by simp only[rL];cases T a with|none=>rfl|some τ=>(dsimp only[DV];cases Γ.hint d<;>rfl)) (b.trans c)
 | some E=>unfold rN PM p5;rw[b,c];rfl
def Ih {a d:Nat} : vt T Γ N F ⟨some d,.alloc a,ty,pos,af,gd⟩ ops l ws Q t h e fs=abx (T:=T) (Γ:=Γ) (N:=N) (F:=F) (VN T e d a (Γ.nst d)) (DV (T a) a d e (Γ.hint d)) (some d) (cH ⟨some d,.alloc a,ty,pos,af,gd⟩ (ev t)) ops l ws Q t h e fs:=by
 have b:gS T Γ e ⟨some d,.alloc a,ty,pos,af,gd⟩ (ev t)=VN T e d a (Γ.nst d):=by
  unfold gS VN;simp only;cases Γ.nst d<;>rfl
 cases c:VN T e d a (Γ.nst d) with
 | none=>exact lI (fun _ _ _ f=>by cases f) (by simp only[rL];cases T a with|none=>rfl|some τ=>(dsimp only[DV];cases Γ.hint d<;>rfl)) (b.trans c)
 | some E=>unfold vt PM p5;rw[b,c];rfl
def B7 {a d:Nat} : rN T Γ N F ⟨some d,.makeMap a none,ty,pos,af,gd⟩ ops l ws Q t h e=CO T Γ N F (Xg T (T a) a e d) (some d) ops l ws Q t h e:=fL (fun _ _ _ b=>by cases b) (by simp only[rL];first|rfl|(cases T a<;>rfl))
def Eh {a:Nat} {m i:Operand} {b:Bool} : rN T Γ N F ⟨dst,.lookup a m i b,ty,pos,af,gd⟩ ops l ws Q t h e=CO T Γ N F (F5 (T a) fun τ=>gT T τ (EH h) (ev t m) (ev t i) b) dst ops l ws Q t h e:=fL (fun _ _ _ c=>by cases c) (by simp only[rL];first|rfl|(cases T a<;>rfl))
def yn {a:Nat} {m i x:Operand} : rN T Γ N F ⟨dst,.mapUpdate a m i x,ty,pos,af,gd⟩ ops l ws Q t h e=CO T Γ N F (F5 (T a) fun τ=>dR T τ (EH h) (ev t m) (ev t i) (ev t x)) dst ops l ws Q t h e:=fL (fun _ _ _ b=>by cases b) (by simp only[rL];first|rfl|(cases T a<;>rfl))
def SH {a d:Nat} {x:Operand} : rN T Γ N F ⟨some d,.box a x,ty,pos,af,gd⟩ ops l ws Q t h e=CO T Γ N F (ab5 (fC (EH h) (ev t x)) (EH h) a d e) (some d) ops l ws Q t h e:=fL (fun _ _ _ b=>by cases b) (by simp only[rL];first|rfl|(cases fC (EH h) (ev t x)<;>rfl))
def B5 {a b:Nat} {x:Operand} : rN T Γ N F ⟨dst,.convert a b x,ty,pos,af,gd⟩ ops l ws Q t h e=CO T Γ N F (ZT (T b) (T a) (ev t x)) dst ops l ws Q t h e:=fL (fun _ _ _ c=>by cases c) rfl
def B6 {x:Nat} {i:Nat} : rN T Γ N F ⟨dst,.extract (.tmp x) i,ty,pos,af,gd⟩ ops l ws Q t h e=CO T Γ N F (YF (t x) i) dst ops l ws Q t h e:=fL (fun _ _ _ a=>by cases a) rfl
def B9 {x:Nat} {i:Nat} : vt T Γ N F ⟨dst,.extract (.tmp x) i,ty,pos,af,gd⟩ ops l ws Q t h e fs=LP T Γ N F (YF (t x) i) dst (cH ⟨dst,.extract (.tmp x) i,ty,pos,af,gd⟩ (ev t)) ops l ws Q t h e fs:=lI (fun _ _ _ a=>by cases a) rfl
def cnL (Γ:Env) (e:Nat) (h:Nat->Option Row) (g:Nat) (a:List D):Option (Nat×(Nat->Nat->Nat->Nat->List D->List D->Option (D×List D)))->Option cd
 | some _=>yj Γ e h g a
 | none=>none
def My {g:Nat} {a:List D} : cnL Γ e h g a none=none:=ahM
def WB {g:Nat} {a:List D} : Ch Γ e h (some (.fn g,a))=cnL Γ e h g a (Γ.nx.lnd g):=by
 cases c:Γ.nx.lnd g with
 | some p=>rfl
 | none =>
  show yj Γ e h g a=none;cases d:yj Γ e h g a with
  | none=>rfl
  | some E =>
   obtain⟨_,_,_,_,_,_,_,_,_,_,_,_,_,_,_,_,b,_⟩:=uu d;rw[c]at b;cases b
def SJ {f k:Nat} {xs a:List D} : Ch Γ e h (some (.clo f k xs,a))=none:=ahM
def WA {d g:Nat} {a:List D} : oQ Γ e h (some d) (some (.fn g,a))=Is e d h a (Γ.nx.res g):=ahM
def SI {dst:Option Nat} {f k:Nat} {xs a:List D} : oQ Γ e h dst (some (.clo f k xs,a))=none:=by cases dst<;>rfl
def MT {d:Nat} {a:List D} : Is e d h a none=none:=ahM
def stC (a x y:Option cd) (dst:Option Nat) (ops l:List Oper) (ws:List W) (Q:Kt) (t:Nat->D) (h:Nat->Option Row) (e:Nat):Prop :=
 match a with
 | some E=>XP T Γ N F (some E) dst ops l ws Q t h e
 | none=>Gy T Γ N F x y dst ops l ws Q t h e
def acY (b x y:Option cd) (dst:Option Nat) (a:List Nat) (ops l:List Oper) (ws:List W) (Q:Kt) (t:Nat->D) (h:Nat->Option Row) (e:Nat) (fs:List kU):Prop :=
 match b with
 | some E=>Zu T Γ N F (some E) dst a ops l ws Q t h e fs
 | none=>Gz T Γ N F x y dst a ops l ws Q t h e fs
def Ph {x y:Option cd} : stC (T:=T) (Γ:=Γ) (N:=N) (F:=F) none x y dst ops l ws Q t h e=Gy T Γ N F x y dst ops l ws Q t h e:=ahM
def JD {x y:Option cd} {a:List Nat} : acY (T:=T) (Γ:=Γ) (N:=N) (F:=F) none x y dst a ops l ws Q t h e fs=Gz T Γ N F x y dst a ops l ws Q t h e fs:=ahM
def MD {x:Operand} {a:List Operand} {b:Array Nat} : rN T Γ N F ⟨dst,.call ⟨.value x,a.toArray,b⟩,ty,pos,af,gd⟩ ops l ws Q t h e=stC (T:=T) (Γ:=Γ) (N:=N) (F:=F) (oQ Γ e h dst (some (ev t x,a.map (ev t)))) (iJ Γ (EH h) e dst (ev t x) (a.map (ev t))) (Ch Γ e h (some (ev t x,a.map (ev t)))) dst ops l ws Q t h e:=by
 have c:iA (ev t) (.call ⟨.value x,a.toArray,b⟩)=some (ev t x,a.map (ev t)):=rfl;cases d:oQ Γ e h dst (some (ev t x,a.map (ev t))) with
 | none=>exact zP (fun _ _ _ f=>by cases f) rfl (by rw[c];exact d) rfl rfl
 | some E=>unfold rN PM p5;simp only[gS,c,d];rfl
def MJ {x:Operand} {a:List Operand} {b:Array Nat} : vt T Γ N F ⟨dst,.call ⟨.value x,a.toArray,b⟩,ty,pos,af,gd⟩ ops l ws Q t h e fs=acY (T:=T) (Γ:=Γ) (N:=N) (F:=F) (oQ Γ e h dst (some (ev t x,a.map (ev t)))) (iJ Γ (EH h) e dst (ev t x) (a.map (ev t))) (Ch Γ e h (some (ev t x,a.map (ev t)))) dst (cH ⟨dst,.call ⟨.value x,a.toArray,b⟩,ty,pos,af,gd⟩ (ev t)) ops l ws Q t h e fs:=by
 have c:iA (ev t) (.call ⟨.value x,a.toArray,b⟩)=some (ev t x,a.map (ev t)):=rfl;cases d:oQ Γ e h dst (some (ev t x,a.map (ev t))) with
 | none=>exact zR (fun _ _ _ f=>by cases f) rfl (by rw[c];exact d) rfl rfl
 | some E=>unfold vt PM p5;simp only[gS,c,d];rfl
def B4 {x:Builtin} {a:List Operand} {b:List Nat} : rN T Γ N F ⟨dst,.call ⟨.builtin x,a.toArray,b.toArray⟩,ty,pos,af,gd⟩ ops l ws Q t h e=CO T Γ N F (dL T (EH h) e dst x b (a.map (ev t))) dst ops l ws Q t h e:=fL (fun _ _ _ c=>by cases c) rfl
def B8 {x:Builtin} {a:List Operand} {b:List Nat} : vt T Γ N F ⟨dst,.call ⟨.builtin x,a.toArray,b.toArray⟩,ty,pos,af,gd⟩ ops l ws Q t h e fs=LP T Γ N F (dL T (EH h) e dst x b (a.map (ev t))) dst (cH ⟨dst,.call ⟨.builtin x,a.toArray,b.toArray⟩,ty,pos,af,gd⟩ (ev t)) ops l ws Q t h e fs:=lI (fun _ _ _ c=>by cases c) rfl
def bu {o:Array Oper} {A:Prop} (a:Es o fs=true) (b:A):Es o fs=true∧A:=⟨a,b⟩
def aj {b:Bool} {g:Nat} {x y:Code} (a:b=true->dB T Γ N F (.code x::ws) Q .normal (bY t g (.bool true)) h e) (c:b=false->dB T Γ N F (.code y::ws) Q .normal (bY t g (.bool false)) h e):Lx T Γ N F (.bool b) g x y ws Q t h e:=by rw[U7];exact⟨a,c⟩
def dH {b:Bool} {g:Nat} {o:Oper} (a:b=true->rN T Γ N F o ops l ws Q (bY t g (.bool true)) h e) (c:b=false->lh T Γ N F ops l ws Q (eO (bY t g (.bool false)) o.dst .skp) h e):yf T Γ N F (.bool b) g true o ops l ws Q t h e:=by rw[U8];exact⟨a,c⟩
def aO {b:Bool} {g:Nat} {o:Oper} (a:b=true->lh T Γ N F ops l ws Q (eO (bY t g (.bool true)) o.dst .skp) h e) (c:b=false->rN T Γ N F o ops l ws Q (bY t g (.bool false)) h e):yf T Γ N F (.bool b) g false o ops l ws Q t h e:=by rw[RO];exact⟨a,c⟩
def xV {b:Bool} {g:Nat} {o:Oper} (a:b=true->vt T Γ N F o ops l ws Q (bY t g (.bool true)) h e fs) (c:b=false->lZ T Γ N F ops l ws Q (eO (bY t g (.bool false)) o.dst .skp) h e (fs++[⟨[],true⟩])):yg T Γ N F (.bool b) g true o ops l ws Q t h e fs:=by rw[U9];exact⟨a,c⟩
def jb {b:Bool} {g:Nat} {o:Oper} (a:b=true->lZ T Γ N F ops l ws Q (eO (bY t g (.bool true)) o.dst .skp) h e (fs++[⟨[],true⟩])) (c:b=false->vt T Γ N F o ops l ws Q (bY t g (.bool false)) h e fs):yg T Γ N F (.bool b) g false o ops l ws Q t h e fs:=by rw[RQ];exact⟨a,c⟩
def WD (a:Mode) (T:Nat->Option Ty) (b:Option (D×Row)) (c:List ResultVar) (r:RK×Option Row):Kt:=fun x t h e=>aaR a T b c x t h e r
def Cj {a:Mode} {b:Option (D×Row)} {c:List ResultVar} {r:RK×Option Row} : WD a T b c r .normal t h e=(eB a T b c ⟨t,EH h,e⟩=some r):=ahM
def bV {a:Mode} {b:Option (D×Row)} {c:List ResultVar} {r:RK×Option Row} : WD a T b c r .ret t h e=(eB a T b c ⟨t,EH h,e⟩=some r):=ahM
def aF {a:Mode} {d:Func} {c:Code} {n:Nat} {f:List ResultVar} {b:List D} {r:RK×Option Row} (h:d.body=some c) (g:d.ntmps=n) (i:d.results=f.toArray) (j:dB T Γ n F [.code c] (WD a T none f r) .normal (L3 b) Xl 0) (e:n<=1000000:=by exact agG rfl):kT a T Γ F d none b=some r:=by
 refine R2 ?_ (by rw[g];exact e);unfold wpf;rw[h,g,i];exact j
def OX (r:Row) (i:Nat):oa r i=if i=0 then some r else none:=ahM
def GU {a:Mode} {d:Func} {c:Code} {n:Nat} {f:List ResultVar} {d0:D} {ty:Nat} {cells:List D} {fz lst:Bool} {b:List D} {r:RK×Option Row} (h:d.body=some c) (g:d.ntmps=n) (i:d.results=f.toArray)
  (j:dB T Γ n F [.code c] (WD a T (some (d0,⟨0,ty,cells,fz,lst,false⟩)) f r) .normal (L3 (d0::b)) (oa ⟨0,ty,cells,fz,lst,false⟩) 1) (e:n<=1000000:=by exact agG rfl):kT a T Γ F d (some (d0,⟨0,ty,cells,fz,lst,false⟩)) b=some r:=by
 refine R2 ?_ (by rw[g];exact e);unfold wpf;rw[h,g,i];exact j
end
section
variable {h:Nat->Option Row} {k x o v ty fz' nv s n e:Nat} {cs xs:List D} {fz lst:Bool}
def Vu (a:k<2000000):EH h k=(h k).map (Dz k):=s9 (by rw[cQ];exact a)
def ZG (a:x<1000000):EH h (NK x o)=(h x).bind fun r=>sg r o:=s8 (by rw[cQ];exact a)
def JB:Dz k ⟨v,ty,cs,fz,lst,false⟩=⟨v,ty,cs,fz,lst,false⟩:=ahM
def TB {a:List dp} : Dz k ⟨v,ty,[.mpc a xs],fz,lst,true⟩=⟨v,ty,[.mpc a xs],fz,lst,true⟩:=ahM
def XJ {t:Nat} : Dz k ⟨v,ty,[.nr t s nv cs],fz,lst,true⟩=⟨v,ty,cs.mapIdx (rP k s),fz,lst,true⟩:=ahM
def Od {t:Nat} : sg ⟨v,ty,[.nr t s nv cs],fz,lst,true⟩ o=Fw t nv fz (cs.drop o).head?:=ahM
def Oc:Fw ty nv fz (some (.nx n xs))=some ⟨nv,ty,xs,fz,true,false⟩:=ahM
def aar (a:x<1000000):rt (NK x o)=x:=vf (by rw[cQ];exact a)
def IL:kQ h []=[]:=ahM
def IK {r:Option Row} {l:List (Nat×Option Row)} (a:k<2000000):kQ h ((k,r)::l)=(k,Hh r)::kQ (bY h k (Hh r)) l:=by
 have b:rt k=k:=ig (by rw[cQ];exact a);have c:Ap h k r=Hh r:=if_pos (by rw[cQ];exact a);simp only[kQ,b,c]
def M8 {r:Option Row} {l:List (Nat×Option Row)} (b:x<1000000):kQ h ((NK x o,r)::l)=(x,(h x).map (Gc o r))::kQ (bY h x ((h x).map (Gc o r))) l:=by
 have a:x<PK:=by rw[cQ];exact b
 have c:rt (NK x o)=x:=vf a;have d:Ap h (NK x o) r=(h x).map (Gc o r):=by
  unfold Ap;rw[if_neg (by have:=e9 x o;omega),ud o a,DM o a]
 simp only[kQ,c,d]
def Ja:Hh none=none:=ahM
def Fx:Hh (some ⟨v,ty,cs,fz,lst,false⟩)=some ⟨v,ty,cs,fz,lst,false⟩:=ahM
def Of {a:List dp} : Hh (some ⟨v,ty,[.mpc a xs],fz,lst,true⟩)=some ⟨v,ty,[.mpc a xs],fz,lst,true⟩:=ahM
def Tr {t:Nat} {r:Option Row} : Gc o r ⟨v,ty,[.nr t s nv cs],fz,lst,true⟩=⟨v,ty,Gv t s nv fz cs o r (cs.drop o).head?,fz,lst,true⟩:=ahM
def Tx {t b:Nat} {a:List D} : Gv t s nv fz cs o (some ⟨b,t,a,fz,true,false⟩) (some (.nx n xs))=if b=nv then [.nr t s nv (putCells cs o [.nx n a])] else [.nr t s nv (putCells cs o [.und])]:=by
 by_cases c:b=nv<;>simp[Gv,OK,c]
def lvN (x v:Nat):Option Row->Option (Row×Nat×Nat×Nat×List D)
 | some r=>if r.v=v∧r.fz=false∧r.mp=true∧x<1000000 then nrO r r.cells else none
 | none=>none
def NW:gx h x v=lvN x v (h x):=by
 unfold gx lvN;rw[cQ];cases h x<;>rfl
def W8 {t:Nat} (a:x<1000000):lvN x v (some ⟨v,ty,[.nr t s nv cs],false,lst,true⟩)=some (⟨v,ty,[.nr t s nv cs],false,lst,true⟩,t,s,nv,cs):=by
 simp only[lvN,true_and,a,and_self,if_true,nrO]
def aa2 (τ:Ty) (x o:Nat):Option (Row×Nat×Nat×Nat×List D)->Option cd
 | some (r,ty,s,nv,cs)=>NR τ x s nv o cs (cs.drop o).head?
 | none=>none
def S7 {τ:Ty} : qU τ h (.ptr x v o)=aa2 τ x o (gx h x v):=by
 simp only[qU,aa2]<;>cases gx h x v<;>rfl
def IS {τ:Ty} {r:Row} {t:Nat} : aa2 τ x o (some (r,t,s,nv,cs))=NR τ x s nv o cs (cs.drop o).head?:=ahM
def S6 {a:Ds} {b:Nat} {z:List Value} {q:Bool} : NR ⟨a,1,b,z,q⟩ x s nv o cs (some (.nx n xs))=if a.tw=false then some ⟨.buf (NK x o) nv s 0 n,[]⟩ else none:=by
 simp only[NR,true_and]
def aa3 (τ:Ty) (o:Nat) (cs:List D):Option cd :=
 if o+τ.size<=cs.length∧((cs.drop o).take τ.size).all fD=true then okD (j0 τ ((cs.drop o).take τ.size)) else none
def NS {τ:Ty} {a:IntKind} {i:Int} : NR τ x s nv o cs (some (.int a i))=aa3 τ o cs:=ahM
def Zt (τ:Ty) (e:Nat) (h:Nat->Option Row) (x o:Nat) (d:D):Option (Row×Nat×Nat×Nat×List D)->Option cd
 | some (r,ty,s,nv,cs)=>if o+τ.size<=cs.length∧0<τ.size then Hv τ e h x r ty s nv cs o d else none
 | none=>none
def TG {τ:Ty} {d:D} : nP τ e h (.ptr x v o) d=Zt τ e h x o d (gx h x v):=by
 simp only[nP,Zt]<;>cases gx h x v<;>rfl
def JJ {a:Ds} {m b:Nat} {z:List Value} {q:Bool} {d:D} {r:Row} {t:Nat} (c:0<m) (f:o+m<=cs.length):Zt ⟨a,m,b,z,q⟩ e h x o d (some (r,t,s,nv,cs))=Hv ⟨a,m,b,z,q⟩ e h x r t s nv cs o d:=by
 simp only[Zt,c,f,and_self,if_true]
def aby (x:Nat) (r:Row) (ty s:Nat) (cs:List D) (o y n:Nat) (b:Option Nat):Option Row->Option cd
 | some q=>if q.fz=false∧q.lst=true∧q.ty=ty∧q.cells.length=n*s then BN x r ty s cs o y n q b else none
 | none=>none
def JK {c:Ds} {b y a:Nat} {z:List Value} {q:Bool} {r:Row} {t:Nat} (d:y<1000000):Hv ⟨c,1,b,z,q⟩ e h x r t s nv cs o (.buf y a s 0 n)=aby x r t s cs o y n (bump nv e) (live h y a):=by
 have f:¬y=NK x o:=by have:=e9 x o;rw[cQ]at this;omega
 have g:y<PK:=by rw[cQ];exact d
 simp only[Hv,and_self,if_true,f,if_false,g]<;>cases live h y a<;>rfl
def JI {r q:Row} {t a y:Nat} (b:q.fz=false∧q.lst=true∧q.ty=t∧q.cells.length=n*s):aby x r t s cs o y n (some a) (some q)=some ⟨.und,[(y,none),(x,some ⟨r.v,r.ty,[.nr t s a (putCells cs o [.nx n q.cells])],false,r.lst,true⟩)]⟩:=by
 simp only[aby,b,and_self,if_true,BN]
def Pn {τ:Ty} {r:Row} {t:Nat} : Hv τ e h x r t s nv cs o (.agg xs)=Lj τ x r t s nv cs o (some xs):=ahM
def JO {τ:Ty} {r:Row} {t:Nat} {a:List D} : Lj τ x r t s nv cs o (some a)=if a.length=τ.size∧a.all fD=true then some ⟨.und,[(x,some ⟨r.v,r.ty,[.nr t s nv (putCells cs o (a.map canon))],false,r.lst,true⟩)]⟩ else none:=ahM
def J6 (a:nv<=4*e):bump nv e=some (4*e+1):=if_pos a
def L7 (a:nv=4*e+2):bump nv e=some (4*e+3):=by unfold bump;rw[if_neg (by omega),if_pos a]
def OH {E:cd} {y:Option cd} : Yk (some E) y=some E:=ahM
def OG {y:Option cd} : Yk none y=y:=ahM
def W0 (τ:Ty) (x o:Nat):Option (Row×Nat×Nat×Nat×List D)->Option cd
 | some (r,ty,s,nv,cs)=>if r.lst=false∧o=0∧cs.length=τ.size∧1<τ.size∧cs.all (Hi s)=true then Q0 x r ty s nv (pI τ.size 0 cs) (j0 τ (cs.map Vs)) else none
 | none=>none
def S5 {τ:Ty} : vW τ h (.ptr x v o)=Yk (W0 τ x o (gx h x v)) (qU τ h (.ptr x v o)):=by
 simp only[vW,qT]<;>cases gx h x v<;>rfl
def W1 {τ:Ty} {a ty:Nat} {cells:List D} {fz mp:Bool} {t:Nat} : W0 τ x o (some (⟨a,ty,cells,fz,true,mp⟩,t,s,nv,cs))=none:=by simp[W0]
def W2 {τ:Ty} {a ty:Nat} {cells:List D} {fz mp:Bool} {t:Nat} : W0 τ x o (some (⟨a,ty,cells,fz,false,mp⟩,t,s,nv,cs))=if o=0∧cs.length=τ.size∧1<τ.size∧cs.all (Hi s)=true then Q0 x ⟨a,ty,cells,fz,false,mp⟩ t s nv (pI τ.size 0 cs) (j0 τ (cs.map Vs)) else none:=by
 simp only[W0,true_and]
def IQ {r:Row} {t:Nat} {d:D} : Q0 x r t s nv cs (some d)=some ⟨d,[(x,some ⟨r.v,r.ty,[.nr t s nv cs],false,r.lst,true⟩)]⟩:=ahM
def XQ (τ:Ty) (e x o:Nat) (d:D):Option (Row×Nat×Nat×Nat×List D)->Option cd
 | some (r,ty,s,nv,cs)=>if r.lst=false∧o=0∧cs.length=τ.size then Rx τ.size e x r ty s nv cs d else none
 | none=>none
def TD {τ:Ty} {d:D} : vY τ e h (.ptr x v o) d=Yk (XQ τ e x o d (gx h x v)) (nP τ e h (.ptr x v o) d):=by
 simp only[vY,qX]<;>cases gx h x v<;>rfl
def XR {τ:Ty} {d:D} {a ty:Nat} {cells:List D} {fz mp:Bool} {t:Nat} : XQ τ e x o d (some (⟨a,ty,cells,fz,true,mp⟩,t,s,nv,cs))=none:=by simp[XQ]
def XS {τ:Ty} {d:D} {a ty:Nat} {cells:List D} {fz mp:Bool} {t:Nat} : XQ τ e x o d (some (⟨a,ty,cells,fz,false,mp⟩,t,s,nv,cs))=if o=0∧cs.length=τ.size then Rx τ.size e x ⟨a,ty,cells,fz,false,mp⟩ t s nv cs d else none:=by
 simp only[XQ,true_and]
def Pq {a t:Nat} {r:Row} : Rx a e x r t s nv cs (.agg xs)=if xs.length=a then stZ x r t s (bump nv e) (tN cs xs) else none:=ahM
def Pp {r:Row} {t a:Nat} {b:List D} : stZ x r t s (some a) (some b)=some ⟨.und,[(x,some ⟨r.v,r.ty,[.nr t s a b],false,r.lst,true⟩)]⟩:=ahM
def adL:Option D->Option (List D)->Option (List D)
 | some y,some a=>some (y::a)
 | _,_=>none
def JY {y:D} {a:List D} : adL (some y) (some a)=some (y::a):=ahM
def JZ:tN [] []=some []:=ahM
def GX {c x:D} {cs xs:List D} : tN (c::cs) (x::xs)=adL (PQ c x) (tN cs xs):=by
 simp only[tN];cases PQ c x<;>cases tN cs xs<;>rfl
def TX:PQ (.nx n xs) (.sl true true 0 [])=some (.nx 0 []):=ahM
def TW {k a:IntKind} {i j:Int} : PQ (.int k i) (.int a j)=some (.int a j):=ahM
def PL {a b:D} : pI 2 0 [a,b]=[Vs a,Vs b]:=ahM
def TP {k:IntKind} {i:Int} : Vs (.int k i)=.int k i:=ahM
def X5:Vs (.nx n xs)=.sl false false n xs:=ahM
def Tm {k:IntKind} {i:Int} : Hi s (.int k i)=true:=ahM
def Xo:Hi s (.nx n xs)=(xs.length==n*s):=ahM
end
section
variable {Γ:Env} {g d:Nat} {p:Nat×Nat×Nat}
def SS {f:Nat} {l:Bool} {G:Option (D×Row)->List D->Option (RK×Option Row)} : (Am.ext Γ f l G).nst g=Γ.nst g:=ahM
def NL:(Am.keep d Γ).nst g=Γ.nst g:=ahM
def I7:bl.nst g=none:=ahM
def Oi:(Am.vv d p Γ).nst g=if g=d then some p else Γ.nst g:=ahM
def FA:(Am.vv d p Γ).lends g=Γ.lends g:=ahM
def Ol {l:Option (D×Row)} {a:List D} : (Am.vv d p Γ).sem g l a=Γ.sem g l a:=ahM
def Oj:(Am.vv d p Γ).own g=Γ.own g:=ahM
def Jc:(Am.vv d p Γ).hint g=Γ.hint g:=ahM
def Oh:(Am.vv d p Γ).ins g=Γ.ins g:=ahM
def Og:(Am.vv d p Γ).grw g=Γ.grw g:=ahM
def WE {f:Nat} {l:Bool} {G:Option (D×Row)->List D->Option (RK×Option Row)} : (Am.ext Γ f l G).nx=Γ.nx:=ahM
def S2:(Am.keep d Γ).nx=Γ.nx:=ahM
def Tj:(Am.vv d p Γ).nx=Γ.nx:=ahM
def I6:bl.nx.lnd g=none:=ahM
def I9:bl.nx.res g=none:=ahM
end
section
variable {Γ:Env} {g d f:Nat} {p:Nat×(Nat->Nat->Nat->Nat->List D->List D->Option (D×List D))}
end
section
variable {Γ:Env} {g d f:Nat} {p:List D->Option (Nat×Nat×Nat×Nat×Nat×List D)}
end
section
variable {Γ:Env} {h:Nat->Option Row} {e x v o g:Nat} {rest:List D}
end
end Go.Proofs.YtekhokjkphgphaaGreat.Am
