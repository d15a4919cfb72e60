import Derived.Test.YtgnoaanebhmegaaIb
set_option linter.unusedSimpArgs false
set_option linter.unusedVariables false
noncomputable section
open Go.Proofs.Try
namespace Go.Proofs.Ytgnoaanebhmegaa.Am
open Go.RowKit
def j8 (k o:Nat) (cs:List D):List D:=cs.mapIdx fun i d=>if o<=i∧i<o+k then MR d else d
section
variable {P:Program} {T:Nat->Option Ty} {N:Nat} {M:Nat->Prop} {L:fV} {w0:World} {blk:Nat->Option (Nat×Nat)} {V:Nat->Nat->Prop} {t:Nat->D} {h:Nat->Option Row} {a:Act} {w:World} {e:Nat} {o:Oper} {Γ:Env}
theorem MS (o:Nat) (cs:List D):j8 0 o cs=cs:=by
 unfold j8;apply List.ext_getElem?;intro i;rw[Yb];cases cs[i]? with
 | none=>rfl
 | some d=>simp only[Option.map_some];rw[if_neg (by omega)]
theorem qt (k o:Nat) (cs:List D) (i:Nat):(j8 k o cs)[i]? = (cs[i]?).map fun d=>if o<=i∧i<o+k then MR d else d:=by
 unfold j8;rw[Yb]
theorem Inv.Ss (hI:Inv N M L w0 blk V t (EH h) a w) {x:Nat} {r:Row} {ty s nv o:Nat} {cs:List D} (hx:h x=some r) (hm:r.mp=true) (hc:r.cells=[.nr ty s nv cs]) (hz:r.fz=false) (hp:x<PK):∀k:Nat,((cs.drop o).take k).all (vv s)=true ->
  Inv N M L w0 blk V t (EH (bj h x (some ⟨r.v,r.ty,[.nr ty s nv (j8 k o cs)],false,r.lst,true⟩))) a w∧∀b,Own M (EH (bj h x (some ⟨r.v,r.ty,[.nr ty s nv (j8 k o cs)],false,r.lst,true⟩))) blk b->Own M (EH h) blk b
 | 0,_=>by
  have:bj h x (some (⟨r.v,r.ty,[.nr ty s nv (j8 0 o cs)],false,r.lst,true⟩:Row))=h:=by
   funext k
   by_cases hk:k=x
   ·rw[hk,aj,MS,hx];cases r;simp only at hm hc hz;rw[hm,hc,hz]
   ·rw[al _ _ hk]
  rw[this];exact⟨hI,fun _ h=>h⟩
 | k+1,O=>by
  have Y:((cs.drop o).take k).all (vv s)=true:=by
   rw[VR]at O ⊢;intro d hd;obtain⟨i,X⟩:=V2 hd;refine O d (V8 (i:=i) ?_);rw[VW]at X ⊢;split at X
   ·rw[if_pos (by omega)];exact X
   ·cases X
  obtain⟨h1,h2⟩:=hI.Ss hx hm hc hz hp k Y;have Z:(∀n xs,cs[o+k]?≠some (.nx n xs))->j8 (k+1) o cs=j8 k o cs:=by
   intro hn;apply List.ext_getElem?;intro i;rw[qt,qt];cases aa:cs[i]? with
   | none=>rfl
   | some d =>
    simp only[Option.map_some,VP]
    by_cases hik:i=o+k
    ·subst hik;rw[if_pos (by omega),if_neg (by omega)];cases d<;>first|rfl|exact absurd aa (hn _ _)
    ·by_cases U:o<=i∧i<o+k
     ·rw[if_pos U,if_pos (by omega)]
     ·rw[if_neg U,if_neg (by omega)]
  by_cases hnx:∃n xs,cs[o+k]? = some (.nx n xs)
  rotate_left
  ·rw[Z fun n xs h=>hnx ⟨n,xs,h⟩];exact⟨h1,h2⟩
  obtain⟨n,xs,hnx⟩:=hnx;have hlen:xs.length=n*s:=by
   have:=VR.1 O (.nx n xs) (V8 (i:=k) (by rw[VW,if_pos (by omega),VX];exact hnx));simpa [vv] using this
  have ab:j8 (k+1) o cs=(j8 k o cs).set (o+k) (.sl false false n xs):=by
   have ae:=(V9.1 hnx).1;apply List.ext_getElem?;intro i;rw[qt]
   by_cases hik:i=o+k
   ·subst hik;rw[List.getElem?_set_self (by simpa [j8] using ae),hnx];simp only[Option.map_some];rw[if_pos (by omega)];rfl
   ·rw[List.getElem?_set_ne (fun e=>hik e.symm),qt];cases aa:cs[i]? with
    | none=>rfl
    | some d =>
     simp only[Option.map_some,VP]
     by_cases U:o<=i∧i<o+k
     ·rw[if_pos U,if_pos (by omega)]
     ·rw[if_neg U,if_neg (by omega)]
  have hj:(j8 k o cs)[o+k]? = some (.nx n xs):=by
   rw[qt,hnx];simp only[Option.map_some];rw[if_neg (by omega)]
  obtain⟨h3,h4⟩:=h1.Sq (x:=x) (aj _ _ _) rfl rfl rfl hp hj hlen;have ad:∀(r1 r2:Option Row),bj (bj h x r1) x r2=bj h x r2:=by
   intro r1 r2;funext i
   by_cases X:i=x
   ·rw[X,aj,aj]
   ·rw[al _ _ X,al _ _ X,al _ _ X]
  rw[ad,<- ab]at h3 h4;exact⟨h3,fun b hb=>h2 b (h4 b hb)⟩
def CF (x:Nat) (r:Row) (ty s o k:Nat):Option Nat->Option (D×List D)->Option aR
 | some O,some (d,cs')=>if ((cs'.drop o).take k).all (vv s)=true then some ⟨d,[(x,some ⟨r.v,r.ty,[.nr ty s O (j8 k o cs')],false,r.lst,true⟩)]⟩ else none
 | _,_=>none
def wG (e x:Nat) (r:Row) (ty s nv:Nat) (cs:List D) (o:Nat):Option (Nat×(Nat->Nat->Nat->Nat->List D->List D->Option (D×List D)))->Option (List D×List Nat)->Option aR
 | some p,some (VA,[])=>CF x r ty s o p.1 (bump nv e) (p.2 r.ty ty s o cs VA)
 | _,_=>none
def mA (Γ:Env) (e:Nat) (h:Nat->Option Row) (g:Nat):List D->Option aR
 | .ptr x v o::rest =>
  match dG h x v with
  | some (r,ty,s,nv,cs)=>wG e x r ty s nv cs o (Γ.nx.lnd g) (aO (EH h) rest)
  | none=>none
 | _=>none
theorem nh {g:Nat} {args:List D} {E:aR} (O:mA Γ e h g args=some E):∃x v o rest r ty s nv cs p VA U d cs',args=.ptr x v o::rest∧dG h x v=some (r,ty,s,nv,cs)∧Γ.nx.lnd g=some p∧aO (EH h) rest=some (VA,[])∧bump nv e=some U∧p.2 r.ty ty s o cs VA=some (d,cs') ∧
  ((cs'.drop o).take p.1).all (vv s)=true∧E=⟨d,[(x,some ⟨r.v,r.ty,[.nr ty s U (j8 p.1 o cs')],false,r.lst,true⟩)]⟩:=by
 unfold mA at O;split at O<;>try (cases O;done)
 rename_i x v o rest;split at O<;>try (cases O;done)
 rename_i r ty s nv cs Z;unfold wG at O;split at O<;>try (cases O;done)
 rename_i p VA hp Y;unfold CF at O;split at O<;>try (cases O;done)
 rename_i U d cs' hb hs;split at O<;>try (cases O;done)
 rename_i X;exact⟨x,v,o,rest,r,ty,s,nv,cs,p,VA,U,d,cs',rfl,Z,hp,Y,hb,hs,X,by simpa using O.symm⟩
theorem NI (hΓ:bt P Γ) (hI:Inv N M L w0 blk V t (EH h) a w) (an:Qg V h e) {g:Nat} {dst:Option Nat} {args:List D} {vs:Array Value} {E:aR} (hE:mA Γ e h g args=some E) (aa:vs.size=args.length)
  (hr:∀(j:Nat) d,args[j]? = some d->RT w (Own M (EH h) blk) (EH h) blk V d (vs.getD j undef)):cu P g∧Calls P g vs w fun e' w'=>∃v,e'=.returned v∧jv N M L w0 V t h a e dst E v w':=by
 obtain⟨x,v,o,rest,r,ty,s,nv,cs,p,VA,ao,d,cs',rfl,hl,hp,aq,hb,hs,ab,rfl⟩:=nh hE;obtain⟨hx,hv,hz,hm,O,hc⟩:=eS hl;obtain⟨ar,X⟩:=hΓ.lnd g p hp;refine⟨ar,?_⟩;have h0:=hr 0 _ rfl;have au:=dF hx hm hc O;obtain⟨g0,ad,av⟩:=h0.2 _ au hv;have aw:vs = #[.pointer (some ⟨g0.1,g0.2+o,none⟩)]++vs.extract 1 vs.size:=by
  have h1:0<vs.size:=by rw[aa];simp
  rw[<- av];apply Array.ext
  ·simp;omega
  ·intro i h1 h2;cases i with
   | zero=>simp[WQ h1]
   | succ i=>simp[WU];congr 1;omega
 have ae:(vs.extract 1 vs.size).size=rest.length:=by simp at aa ⊢;omega
 have ax:∀(j:Nat) d,rest[j]? = some d->RT w (Own M (EH h) blk) (EH h) blk V d ((vs.extract 1 vs.size).getD j undef):=by
  intro j d hj;have:=hr (j+1) d (by simpa using hj);have e1:(vs.extract 1 vs.size).getD j undef=vs.getD (j+1) undef:=by
   simp only[VL];congr 1;rw[WW];split
   ·congr 1;omega
   ·rename_i hh;rw[WX (by omega)]
  rw[e1];exact this
 obtain⟨M',Y⟩:∃M':Nat->Prop,∀b,M' b↔Own M (EH h) blk b∧¬SX blk h x b:=⟨_,fun _=>Iff.rfl⟩;have hInX:∀b,SX blk h x b->Own M (EH h) blk b:=by
  rintro b ⟨k,r',g',q0,q1,q2,q3⟩;refine .inr ⟨k,r',g',q1,?_,q2,q3⟩;rcases cG hx hm hc O q0 q1 with⟨_,rfl⟩|⟨_,_,_,_,_,rfl⟩<;>exact hz
 have Z:=Cw (blk:=blk) hx hm hc O;have hQ:∀b,(M' b∨pQ (lL blk x) (EH (j3 (fF r.ty ty s 0 cs))) b)->Own M (EH h) blk b:=fun b hb=>hb.elim (fun hb=>((Y b).1 hb).1) (fun hb=>hInX b ((Z b).1 hb));have U:=hI.we aq ⟨fun b h=>h,fun x hx=>by cases hx⟩ ae ax;have hA:rN w (fun b=>M' b∨pQ (lL blk x) (EH (j3 (fF r.ty ty s 0 cs))) b) VA (vs.extract 1 vs.size):=⟨U.1,fun j d hj=>(U.2 j d hj).less hQ,fun b hb=>(U.tab b hb).less hQ⟩;rw[aw];refine (X _ _ _ _ _ _ _ _ hs w M' (lL blk x) _ _ g0 _ rfl rfl (fun b hb=>hI.rF ((Y b).1 hb).1) (fun b hb ay=>((Y b).1 ay).2 ((Z b).1 hb)) (by rw[lL,mq];exact ad) (hI.Sx hx hm hc hz O hQ) hA).mono fun e' w' hg =>?_;obtain⟨u,ah,he,hbey,q0,az,ai,qR,aA⟩:=hg;refine⟨u,he,j9 blk ah x,?_⟩;obtain⟨k1,k2⟩:=hI.back hx hm hc hz O (an x r ty s nv cs ao hx hm hc O hb) ad rfl Y ⟨hbey.os,hbey.tape,hbey.output,hbey.size,fun k hk hn=>hbey.block k hk fun hh=>hn ((Z k).1 hh)⟩ q0 az (fun b hb=>(ai b hb).imp id fun hh=>(Z b).1 hh) qR;obtain⟨k3,k4⟩:=k1.Ss (x:=x) (o:=o) (aj _ _ _) rfl rfl rfl O p.1 ab;have ak:∀(r1 r2:Option Row),bj (bj h x r1) x r2=bj h x r2:=by
  intro r1 r2;funext i
  by_cases hi:i=x
  ·rw[hi,aj,aj]
  ·rw[al _ _ hi,al _ _ hi,al _ _ hi]
 rw[ak]at k3 k4;exact⟨k3.weaken fun _ _ h =>.inl h,aS (aA.less fun b hb=>k2 b (k4 b hb))⟩
end
def zE:D->D->Option D
 | .nx _ _,.sl true true 0 []=>some (.nx 0 [])
 | .nx _ _,_=>none
 | _,d=>if dZ d=true then some (canon d) else none
def mP:List D->List D->Option (List D)
 | [],[]=>some []
 | c::cs,x::xs =>
  match zE c x,mP cs xs with
  | some y,some O=>some (y::O)
  | _,_=>none
 | _,_=>none
def SQ (x:Nat) (r:Row) (ty s:Nat):Option Nat->Option (List D)->Option aR
 | some O,some cs'=>some ⟨.und,[(x,some ⟨r.v,r.ty,[.nr ty s O cs'],false,r.lst,true⟩)]⟩
 | _,_=>none
def I7 (n e x:Nat) (r:Row) (ty s nv:Nat) (cs:List D):D->Option aR
 | .agg xs=>if xs.length=n then SQ x r ty s (bump nv e) (mP cs xs) else none
 | _=>none
def lj (τ:Ty) (e:Nat) (h:Nat->Option Row) (p d:D):Option aR :=
 match p with
 | .ptr x v o =>
  match dG h x v with
  | some (r,ty,s,nv,cs)=>if r.lst=false∧o=0∧cs.length=τ.size then I7 τ.size e x r ty s nv cs d else none
  | none=>none
 | _=>none
def IH (x:Nat) (r:Row) (ty s nv:Nat) (cs:List D):Option D->Option aR
 | some d=>some ⟨d,[(x,some ⟨r.v,r.ty,[.nr ty s nv cs],false,r.lst,true⟩)]⟩
 | none=>none
def kW (τ:Ty) (h:Nat->Option Row):D->Option aR
 | .ptr x v o =>
  match dG h x v with
  | some (r,ty,s,nv,cs)=>if r.lst=false∧o=0∧cs.length=τ.size∧1<τ.size∧cs.all (vv s)=true then IH x r ty s nv (j8 τ.size 0 cs) (gP τ (cs.map MR)) else none
  | none=>none
 | _=>none
def Qc:Option aR->Option aR->Option aR
 | some E,_=>some E
 | none,y=>y
def oM (τ:Ty) (h:Nat->Option Row) (p:D):Option aR:=Qc (kW τ h p) (kX τ h p)
def oO (τ:Ty) (e:Nat) (h:Nat->Option Row) (p d:D):Option aR:=Qc (lj τ e h p d) (jA τ e h p d)
theorem HT:∀ {cs xs ys:List D},mP cs xs=some ys->ys.length=cs.length∧xs.length=cs.length∧∀(j:Nat) c x,cs[j]? = some c->xs[j]? = some x->∃y,ys[j]? = some y∧zE c x=some y
 | [],[],ys,h=>by simp only[mP,VP]at h;subst h;exact⟨rfl,rfl,fun j c x O=>by simp at O⟩
 | c::cs,x::xs,ys,h=>by
  simp only[mP]at h;split at h
  ·rename_i y X h1 h2;simp only[VP]at h;subst h;obtain⟨Y,Z,k3⟩:=HT h2;refine⟨by simp[Y],by simp[Z],fun j c' x' O U =>?_⟩;cases j with
   | zero =>
    simp only[List.getElem?_cons_zero,VP]at O U ⊢;subst O U;exact⟨y,rfl,h1⟩
   | succ j=>exact k3 j c' x' (by simpa using O) (by simpa using U)
  ·cases h
 | [],x::xs,ys,h=>by simp[mP]at h
 | c::cs,[],ys,h=>by simp[mP]at h
theorem y4 {c x y:D} (h:zE c x=some y):(x=.sl true true 0 []∧y=.nx 0 [])∨(dZ x=true∧y=canon x):=by
 unfold zE at h;split at h
 ·simp only[VP]at h;exact .inl ⟨rfl,h.symm⟩
 ·cases h
 ·split at h
  ·rename_i O;simp only[VP]at h;exact .inr ⟨O,h.symm⟩
  ·cases h
section
variable {P:Program} {T:Nat->Option Ty} {N:Nat} {M:Nat->Prop} {L:fV} {w0:World} {blk:Nat->Option (Nat×Nat)} {V:Nat->Nat->Prop} {t:Nat->D} {h:Nat->Option Row} {a:Act} {w:World} {e:Nat} {o:Oper} {Γ:Env}
theorem Oc (x:Nat):vI (EH h) (fun k=>if rt k=x∧k≠x then none else EH h k):=by
 intro k r' hk;simp only at hk;split at hk
 ·cases hk
 ·exact⟨r',hk,.refl _⟩
open Classical in
theorem Oa (hT:fb P T) (hI:Inv N M L w0 blk V t (EH h) a w) (aN:Qg V h e) {ty:Nat} {p x:Operand} {τ:Ty} {E:aR} (ho:o.op=.store ty p x) (hτ:T ty=some τ) (X:lj τ e h (ev t p) (ev t x)=some E):db P o a w (jv N M L w0 V t h a e o.dst E):=by
 have hp:=hI.ev p;have hq:=hI.ev x;have a1:=hI.big;have a6:=b7;generalize ev t p=pd at *;generalize ev t x=d at *;unfold lj at X;split at X<;>try (cases X;done)
 rename_i y v c0;split at X<;>try (cases X;done)
 rename_i r ab s nv cs hl;obtain⟨hx,hv,hz,hm,U,hc⟩:=eS hl;have au:=dF hx hm hc U;obtain⟨g,hg,aB⟩:=hp.2 _ au hv;split at X<;>try (cases X;done)
 rename_i av;obtain⟨_,rfl,a7⟩:=av;unfold I7 at X;split at X<;>try (cases X;done)
 rename_i xs;split at X<;>try (cases X;done)
 rename_i aO;unfold SQ at X;split at X<;>try (cases X;done)
 rename_i ad cs' hb aP;simp only[VP]at X;subst X;obtain⟨z1,z2,z3⟩:=HT aP;have aC:RP w (Own M (EH h) blk) (.agg xs) (a.eval x):=hq;obtain⟨us,aQ,aS,aD⟩:∃us:List Value,a.eval x=.agg us.toArray∧us.length=xs.length∧∀j x,xs[j]? = some x->RP w (Own M (EH h) blk) x (us.getD j undef):=by
  generalize a.eval x=u at aC;cases aC with
  | agg xs us h1 h2 h3=>exact⟨us,rfl,h1,h2⟩
 have aT:∀(j:Nat) x,xs[j]? = some x->dZ x=true:=by
  intro j x O;have ao:=(V9.1 O).1;obtain⟨y',_,k2⟩:=z3 j _ x (VT (by omega)) O;rcases y4 k2 with⟨rfl,_⟩|⟨k3,_⟩
  ·rfl
  ·exact k3
 have aE:∀u∈us,u.oneCell'=true:=by
  intro u hu;obtain⟨j,O⟩:=V2 hu;have ao:=(V9.1 O).1;have ae:=VT (l:=xs) (i:=j) (by omega);have:=aD j _ ae;have e1:us.getD j undef=u:=by simp[List.getD,O]
  rw[e1]at this;exact this.nH (di (aT j _ ae)).1
 obtain⟨arr,k1,k2,k3⟩:=hI.uT hx hm hc U hg;have ah:=run_storeCells_at P g.1 (g.2+0) r.ty us 0 arr w k1 (by omega) aE;rw[Wf]at ah;have aF:(arr.toList.take g.2++us++arr.toList.drop (g.2+us.length)).toArray.size=arr.size:=by simp;omega
 have ai:∀j,j<cs.length->(arr.toList.take g.2++us++arr.toList.drop (g.2+us.length)).toArray.getD (g.2+j) undef=us.getD j undef:=by
  intro j O;have:=ma arr us g.2 (g.2+j) (by omega);rw[this,if_neg (by omega),if_pos (by omega)];congr 1;omega
 generalize a8:(arr.toList.take g.2++us++arr.toList.drop (g.2+us.length)).toArray=arr' at ah aF ai;obtain⟨Z,aG,hheap⟩:=sQ (g:=g) (arr':=arr') k1;have aH:Own M (EH h) blk g.1 := .inr ⟨y,_,g,au,hz,hg,rfl⟩;have hK:∀o,NK y o≠y∧2*PK<=NK y o:=fun o=>by have:=dO y o;omega
 have hle:=Oc (h:=h) y;have hA:=hI.le hle;generalize aw:(fun k=>if rt k=y∧k≠y then none else EH h k)=h1 at hA hle;have aU:h1 y=some ⟨r.v,r.ty,cs.mapIdx (lM y s),r.fz,r.lst,true⟩:=by
  rw[<- aw];simp only[ne_eq,not_true_eq_false,and_false,if_false];exact au
 have ax:∀o,h1 (NK y o)=none:=fun o=>by
  rw[<- aw];simp only;rw[if_pos ⟨oc U,(hK o).1⟩]
 have aI:∀k,rt k≠y->h1 k=EH h k:=fun k hk=>by
  rw[<- aw];simp only;rw[if_neg (fun hh=>hk hh.1)]
 have ar:∀(j:Nat) d,cs'[j]? = some d->(d=.nx 0 []∧us.getD j undef=.slice none 0 0)∨(dZ d=true∧RP w (Own M (EH h) blk) d (us.getD j undef)):=by
  intro j d O;have ao:=(V9.1 O).1;have ae:=VT (l:=xs) (i:=j) (by omega);obtain⟨y',q1,q2⟩:=z3 j _ _ (VT (by omega)) ae;rw[O]at q1;cases q1;have hr:=aD j _ ae;rcases y4 q2 with⟨e1,rfl⟩|⟨e1,rfl⟩
  ·refine .inl ⟨rfl,?_⟩;rw[e1]at hr;generalize us.getD j undef=u at hr;cases hr with
   | sl A c _ _ _ _ ba g1 g2 g3 g4 g5 g6 g7 g8 =>
    obtain⟨rfl,rfl⟩:=(g3 rfl).1 rfl;rfl
  ·refine .inr ⟨?_,hr.canon⟩;generalize xs[j]=q at e1;cases q<;>first|rfl|cases e1
 have ay:∀ {d:D} {u:Value},RP w (Own M (EH h) blk) d u->RP (w.setRow g.1 arr') (Own M h1 blk) d u:=fun hr=>hr.keep fun b q1 q2=>⟨by rw[aG];exact q1,tN hle q2,hheap b (fun e=>q2 (e ▸ aH))⟩;have hB:=hA.gY (x:=y) (r0:=⟨r.v,r.ty,cs'.mapIdx (lM y s),false,r.lst,true⟩) (w':=w.setRow g.1 arr') aU hz rfl rfl rfl rfl (by rw[aG];exact VG _) (fun b _ hb=>hheap b (hb g hg)) (by
  rw[hg];refine⟨by simp[World.shape?,Z,k1,aF],.inr ⟨fun d hd =>?_,arr',Z,by simp only[Ya];omega,fun j d O =>?_⟩⟩
  ·obtain⟨j,O⟩:=V2 hd;simp only[Yb,VD]at O;obtain⟨d0,_,rfl⟩:=O;exact ik _ _ _ _
  ·simp only[Yb,VD]at O;obtain⟨d0,Y,rfl⟩:=O;have ao:=(V9.1 Y).1;rw[ai j (by omega)];rcases ar j d0 Y with⟨rfl,_⟩|⟨q1,q2⟩
   ·trivial
   ·rw[gw q1];exact (di q1).2.2.2 (ay q2)) (fun hh=>by cases hh) (fun _ g' aJ j x' s' n' O=>by
  rw[hg]at aJ;cases aJ;simp only[Yb,VD]at O;obtain⟨d0,Y,he⟩:=O;obtain⟨bb,rfl,rfl,rfl⟩:=lH he;have ao:=(V9.1 Y).1;exact⟨⟨U,.inr rfl⟩,_,aL Z (by omega),fun r1 aK=>by rw[ax]at aK;cases aK⟩)
 obtain⟨S,hS⟩:∃S:Nat->Prop,∀k,S k↔∃o xs,k=NK y o∧cs'[o]? = some (.nx 0 xs):=⟨_,fun _=>Iff.rfl⟩;have ak:∀(j n':Nat) (xs:List D),cs'[j]? = some (.nx n' xs)->n'=0∧xs=[]∧us.getD j undef=.slice none 0 0:=by
  intro j n' xs O;rcases ar j _ O with⟨e1,e2⟩|⟨e1,_⟩
  ·cases e1;exact⟨rfl,rfl,e2⟩
  ·cases e1
 have az:bj h y (some (⟨r.v,r.ty,[.nr ab s ad cs'],false,r.lst,true⟩:Row)) y=some ⟨r.v,r.ty,[.nr ab s ad cs'],false,r.lst,true⟩:=aj _ _ _;have hC:=hB.addEmpty S ab ad (h':=EH (bj h y (some ⟨r.v,r.ty,[.nr ab s ad cs'],false,r.lst,true⟩))) (blk':=fun k=>if S k then none else blk k) (fun k hk=>by
   obtain⟨o',xs,rfl,aq⟩:=(hS k).1 hk;have:=hK o';exact⟨by omega,by omega,aN y r ab s nv cs ad hx hm hc U hb o',by rw[al _ _ (hK o').1,ax]⟩) (fun k hk=>by
   refine⟨?_,by rw[if_pos hk]⟩;obtain⟨o',xs,rfl,aq⟩:=(hS k).1 hk;rw[cM az rfl rfl U,aq];obtain⟨_,rfl,_⟩:=ak o' 0 xs aq;rfl) (fun k hk=>by
   refine⟨?_,by rw[if_neg hk]⟩
   by_cases hkd:rt k=y
   ·rcases nO hkd with rfl|⟨o',rfl⟩
    ·rw[aj,dF az rfl rfl U]
    ·rw[al _ _ (hK o').1,ax,cM az rfl rfl U];cases aM:cs'[o']? with
     | none=>rfl
     | some d0 =>
      cases d0 with
      | nx n' xs =>
       obtain⟨rfl,_,_⟩:=ak o' n' xs aM;exact absurd ((hS _).2 ⟨o',xs,rfl,aM⟩) hk
      | _=>rfl
   ·rw[al _ _ (fun e=>hkd (by rw[e,fj (by omega)])),aI k hkd];exact cR (by rw[al _ _ hkd])) (fun y1 r1 g1 hy aV aA j x' s' n' O hs=>by
   obtain⟨o',xs,rfl,aq⟩:=(hS _).1 hs;obtain⟨⟨p1,p2⟩,u,p3,_⟩:=hB.pha y1 r1 g1 hy aV aA j _ s' n' O;rcases p2 with p2|p2
   ·have:=dO y o';omega
   obtain⟨rfl,rfl⟩:=mV U p1 p2;rw[aj]at hy;rw[hg]at aA;cases hy;cases aA;simp only[Yb,VD]at O;obtain⟨d0,Y,he⟩:=O;obtain⟨aW,rfl,_,rfl⟩:=lH he;obtain⟨aX,_,aY⟩:=ak o' n' aW Y;have bc:=(V9.1 Y).1;refine⟨_,aL Z (by omega),aX,none,?_⟩;rw[ai o' (by omega)];exact aY)
 refine .inr (.inl ⟨w.setRow g.1 arr',?_,fun k=>if S k then none else blk k,?_,trivial⟩)
 ·have aa:(a.eval x).cells.toList=us:=by rw[aQ];rfl
  have aZ:(a.eval x).cells.size=τ.size:=by rw[<- aO,<- aS,<- aa];simp
  have an:(storeCells ⟨g.1,g.2+0,none⟩ (a.eval x).cells.toList 0).run P w=.ok () (w.setRow g.1 arr'):=by rw[aa];exact ah
  rw[Wf]at an aB;simp[execOp,ho,Instr.storeAt,Instr.sureAddr,aB,storeVar,run_sizeOf (hT ty τ hτ),aZ,an]
 ·exact hC.weaken fun _ _ h =>.inl h
open Classical in
theorem N6 (hT:fb P T) (hI:Inv N M L w0 blk V t (EH h) a w) {ty d an s f:Nat} {τ:Ty} {E:aR} (ho:o.op=.alloc ty) (hd:o.dst=some d) (hV:fY N V d e) (ay:∀o,¬V (NK d o) (4*e+2)) (hτ:T ty=some τ)
  (hE:SA τ ty e d an s f=some E):db P o a w (jv N M L w0 V t h a e o.dst E):=by
 have aF:=hI.big;have aG:=b7;unfold SA at hE;split at hE<;>try (cases hE;done)
 rename_i ao;obtain⟨c4,c5,c6,U,c8⟩:=ao;simp only[VP]at hE;subst hE;obtain⟨z,az,aA⟩:=fO (hT ty τ hτ) w;have aH:(τ.zero.map jR).length=τ.size:=by rw[Wa,c6]
 have hf:f<τ.size:=by
  rw[X9]at c8;rcases Wr f τ.size with aq|aI
  ·exact aq
  ·rw[Xg (by omega)]at c8;cases c8
 have aw:(τ.zero.map jR)[f]? = some (.sl true true 0 []):=by
  rw[X9]at c8;unfold QL at c8;split at c8
  ·assumption
  ·cases c8
 have aB:(ju τ f).length=τ.size:=by
  unfold ju;rw[gm (by simp;omega)];simp[c6]
 have Z:∀(m:Nat) (x:D),(ju τ f)[m]? = some x->(m=f∧x=.nx 0 [])∨(m≠f∧∃y,(τ.zero.map jR)[m]? = some y∧x=canon y):=by
  intro m x hm;unfold ju at hm
  by_cases ar:m=f
  ·subst ar;rw[dC (by simp;omega)]at hm;exact .inl ⟨rfl,by simpa using hm.symm⟩
  ·rw[ez (by simp;omega) ar,VC,VD]at hm;obtain⟨y,h1,h2⟩:=hm;exact .inr ⟨ar,y,h1,h2.symm⟩
 obtain⟨vs,ad⟩:∃vs:Array Value,vs=τ.zero.toArray:=⟨_,rfl⟩;have aJ:vs.size=τ.size:=by rw[ad];simpa using c6
 have ak:∀(M':Nat->Prop) (w':World) (j:Nat) (x:D),(ju τ f)[j]? = some x->dZ x=true->RP w' M' x (vs.getD j undef):=by
  intro M' w' j x O aC;rw[ad];rcases Z _ x O with⟨_,rfl⟩|⟨_,y,h1,rfl⟩
  ·cases aC
  ·exact (lJ (w:=w') (M:=M') τ.zero (VR.2 fun y hy=>(di (VR.1 c5 y hy)).1) _ y h1).2.canon
 have Y:∀(j:Nat) (n':Nat) (xs:List D),(ju τ f)[j]? = some (.nx n' xs)->n'=0∧xs=[]∧vs.getD j undef=.slice none 0 0:=by
  intro j n' xs O;rcases Z _ _ O with⟨hm,he⟩|⟨_,y,h1,he⟩
  ·simp only[D.nx.injEq]at he;refine⟨he.1,he.2,?_⟩;rw[ad,hm];rw[VC,VD]at aw;obtain⟨v,v1,v2⟩:=aw;simp only[VL,List.getElem?_toArray,v1,Option.getD_some];exact KW v2
  ·have:=VR.1 c5 y (V8 h1);cases y<;>first|(cases he;done)|(cases this;done)
 generalize ju τ f=cs at aB Z ak Y;have hA:=hI.le (CO (h:=h) d U);have hold:∀b,b<w.heap.size->(w.alloc (.cells vs ty)).heap[b]? = w.heap[b]?:=fun b hb=>Below.heap_alloc w _ b hb;have ae:=(Below.refl w.heap.size w).alloc (VG _) (.cells vs ty);have aa:=heap_alloc_new w (.cells vs ty);have au:∀o,EH (bj h d none) (NK d o)=none:=fun o=>by rw[nV U,aj];rfl
 have ab:∀o,NK d o≠d:=fun o=>by have:=dO d o;omega
 have hB:=hA.CA (w':=w.alloc (.cells vs ty)) (h1:=EH (bj h d none)) (old:=none) (d:=d) (e:=e) (r0:=⟨e,ty,cs.mapIdx (lM d s),false,false,true⟩) (go:=some (w.heap.size,0)) ae.os ae.tape ae.output ae.size (fun k hk _=>hold k hk) (fun y hy=>by cases hy) rfl hV
  ⟨.inl (VG _),.inr ⟨fun x hx=>by
   obtain⟨j,O⟩:=V2 hx;simp only[Yb,VD]at O;obtain⟨d0,X,rfl⟩:=O;exact ik _ _ _ _,vs,aa,by simp only[Ya];omega,fun j x O=>by
   simp only[Yb,VD]at O;obtain⟨d0,X,rfl⟩:=O;rw[Wt]
   by_cases ah:dZ d0=true
   ·rw[gw ah];exact (di ah).2.2.2 (ak _ _ j d0 X ah)
   ·cases d0<;>first|trivial|exact absurd rfl ah⟩⟩ rfl rfl (fun _ g hg j x s' n' O=>by
   cases hg;simp only[Yb,VD]at O;obtain⟨d0,X,he⟩:=O;obtain⟨xs,rfl,rfl,rfl⟩:=lH he;have aq:=(V9.1 X).1;refine⟨⟨U,.inr rfl⟩,_,aL aa (by omega),fun r hr =>?_⟩;rw[al _ _ (ab j),au]at hr;cases hr)
 obtain⟨S,hS⟩:∃S:Nat->Prop,∀k,S k↔∃o xs,k=NK d o∧cs[o]? = some (.nx 0 xs):=⟨_,fun _=>Iff.rfl⟩;have hC:=hB.addEmpty S an (4*e+2) (h':=EH (bj h d (some ⟨e,ty,[.nr an s (4*e+2) cs],false,false,true⟩))) (blk':=fun k=>if S k then none else bj blk d (some (w.heap.size,0)) k) (fun k hk=>by
   obtain⟨o',xs,rfl,ai⟩:=(hS k).1 hk;have:=dO d o';refine⟨by omega,by omega,?_,by rw[al _ _ (ab o'),au]⟩;rintro (hv|⟨he,_⟩)
   ·exact ay o' hv
   ·exact ab o' he) (fun k hk=>by
   refine⟨?_,by rw[if_pos hk]⟩;obtain⟨o',xs,rfl,ai⟩:=(hS k).1 hk;rw[cM (aj _ _ _) rfl rfl U,ai];obtain⟨_,rfl,_⟩:=Y o' 0 xs ai;rfl) (fun k hk=>by
   refine⟨?_,by rw[if_neg hk]⟩
   by_cases hkd:rt k=d
   ·rcases nO hkd with rfl|⟨o',rfl⟩
    ·rw[aj,dF (aj _ _ _) rfl rfl U]
    ·rw[al _ _ (ab o'),au,cM (aj _ _ _) rfl rfl U];cases ax:cs[o']? with
     | none=>rfl
     | some d0 =>
      cases d0 with
      | nx n' xs =>
       obtain⟨rfl,_,_⟩:=Y o' n' xs ax;exact absurd ((hS _).2 ⟨o',xs,rfl,ax⟩) hk
      | _=>rfl
   ·rw[al _ _ (fun e=>hkd (by rw[e,fj (by omega)]))];exact cR (by rw[al _ _ hkd,al _ _ hkd])) (fun y r g hy hm hg j x s' n' O hs=>by
   obtain⟨o',xs,rfl,ai⟩:=(hS _).1 hs;obtain⟨⟨p1,p2⟩,u,p3,_⟩:=hB.pha y r g hy hm hg j _ s' n' O;rcases p2 with p2|p2
   ·have:=dO d o';omega
   obtain⟨rfl,rfl⟩:=mV U p1 p2;rw[aj]at hy hg;cases hy;cases hg;simp only[Yb,VD]at O;obtain⟨d0,X,he⟩:=O;obtain⟨aD,rfl,_,rfl⟩:=lH he;obtain⟨k1,_,k3⟩:=Y o' n' aD X;have aq:=(V9.1 X).1;refine⟨_,aL aa (by omega),k1,none,?_⟩;rw[Wt];exact k3)
 have aE:¬S d:=fun hs=>by
  obtain⟨o',_,he,_⟩:=(hS d).1 hs;exact ab o' he.symm
 refine av (v := .pointer (some ⟨w.heap.size,0,none⟩)) (w':=w.alloc (.cells vs ty)) ?_ ⟨fun k=>if S k then none else bj blk d (some (w.heap.size,0)) k,?_,?_⟩
 ·rw[ad];simp[execOp,ho,Instr.alloc,az,newVar,newRow,aA]
 ·refine hC.weaken fun x v hx =>?_;rcases hx with hx|⟨rfl,rfl⟩
  ·exact .inl hx
  ·exact .inr ⟨hd,rfl⟩
 ·exact⟨.inr ⟨hd,rfl⟩,fun r hr hv=>⟨(w.heap.size,0),by simp only;rw[if_neg aE,aj],rfl⟩⟩
theorem N3 (hT:fb P T) (hI:Inv N M L w0 blk V t (EH h) a w) {ty:Nat} {p:Operand} {τ:Ty} {E:aR} (ho:o.op=.load ty p) (hτ:T ty=some τ) (O:kW τ h (ev t p)=some E):db P o a w (jv N M L w0 V t h a e o.dst E):=by
 have hp:=hI.ev p;generalize al:ev t p=q at *;unfold kW at O;split at O<;>try (cases O;done)
 rename_i x v c;split at O<;>try (cases O;done)
 rename_i r U s nv cs hl;obtain⟨hx,hv,hz,hm,X,hc⟩:=eS hl;have ad:=dF hx hm hc X;obtain⟨g,hg,ae⟩:=hp.2 _ ad hv;split at O<;>try (cases O;done)
 rename_i Y;obtain⟨_,rfl,c1,_,c2⟩:=Y;unfold IH at O;split at O<;>try (cases O;done)
 rename_i d hd;simp only[VP]at O;subst O;obtain⟨hF,_⟩:=hI.Ss (o:=0) hx hm hc hz X τ.size (by rw[W6,W5 (by omega)];exact c2);have ah:bj h x (some (⟨r.v,r.ty,[.nr U s nv (j8 τ.size 0 cs)],false,r.lst,true⟩:Row)) x=some ⟨r.v,r.ty,[.nr U s nv (j8 τ.size 0 cs)],false,r.lst,true⟩:=aj _ _ _;have an:(j8 τ.size 0 cs).length=cs.length:=by simp[j8]
 have ai:At w (Own M (EH (bj h x (some ⟨r.v,r.ty,[.nr U s nv (j8 τ.size 0 cs)],false,r.lst,true⟩))) blk) g.1 (g.2+0) (cs.map MR):=by
  intro j d1 hj;rw[VC,VD]at hj;obtain⟨d0,Z,rfl⟩:=hj;have ak:=VR.1 c2 d0 (V8 Z);have ao:=(V9.1 Z).1;have aa:dZ (MR d0)=true:=by
   cases d0<;>first|rfl|exact ak
  have ab:(j8 τ.size 0 cs)[0+j]? = some (MR d0):=by
   rw[Wt,qt,Z];simp only[Option.map_some];rw[if_pos (by omega)]
  obtain⟨arr,k1,k2,k3⟩:=hF.uT ah rfl rfl X hg;have aq:=(V9.1 ab).1;refine⟨(di aa).1,_,?_,k3 _ _ ab aa⟩;rw[V1];exact aL k1 (by omega)
 have:=lU (e:=e) (o:=o) hT hF ho hτ ae ai (by rw[Wa];exact c1) hd;exact this
end
def CE (e d:Nat):Option (Nat×Nat×Nat×Nat×Nat×List D)->Option aR
 | some (ty,t,s,S,n,cs)=>if d<PK then some ⟨.buf d e S 0 n,[(d,some ⟨e,ty,[.nr t s (4*e+2) cs],false,true,true⟩)]⟩ else none
 | none=>none
def Ab (p:List D->Option (Nat×Nat×Nat×Nat×Nat×List D)) (e d:Nat):Option (List D×List Nat)->Option aR
 | some (VA,[])=>CE e d (p VA)
 | _=>none
theorem qW {p:List D->Option (Nat×Nat×Nat×Nat×Nat×List D)} {e d:Nat} {c:Option (List D×List Nat)} {E:aR} (O:Ab p e d c=some E):∃VA ty t s S n cs,c=some (VA,[])∧p VA=some (ty,t,s,S,n,cs)∧d<PK∧E=⟨.buf d e S 0 n,[(d,some ⟨e,ty,[.nr t s (4*e+2) cs],false,true,true⟩)]⟩:=by
 unfold Ab at O;split at O<;>try (cases O;done)
 rename_i VA;unfold CE at O;split at O<;>try (cases O;done)
 rename_i ty t s S n cs U;split at O<;>try (cases O;done)
 rename_i X;exact⟨VA,ty,t,s,S,n,cs,rfl,U,X,by simpa using O.symm⟩
section
variable {P:Program} {T:Nat->Option Ty} {N:Nat} {M:Nat->Prop} {L:fV} {w0:World} {blk:Nat->Option (Nat×Nat)} {V:Nat->Nat->Prop} {t:Nat->D} {h:Nat->Option Row} {a:Act} {w:World} {e:Nat} {o:Oper} {Γ:Env}
theorem NG (hΓ:bt P Γ) (hI:Inv N M L w0 blk V t (EH h) a w) {g d:Nat} {dst:Option Nat} {p:List D->Option (Nat×Nat×Nat×Nat×Nat×List D)} {args:List D} {vs:Array Value} {E:aR} (hd:dst=some d) (hV:fY N V d e) (aE:∀o',¬V (NK d o') (4*e+2)) (hp:Γ.nx.res g=some p)
  (hE:Ab p e d (aO (EH h) args)=some E) (aF:vs.size=args.length) (hr:∀(j:Nat) d,args[j]? = some d->RT w (Own M (EH h) blk) (EH h) blk V d (vs.getD j undef)):cu P g∧Calls P g vs w fun e' w'=>∃v,e'=.returned v∧jv N M L w0 V t h a e dst E v w':=by
 obtain⟨VA,ty,ti,s,S,n,cs,aG,hs,U,rfl⟩:=qW hE;obtain⟨aH,ah⟩:=hΓ.res g p hp;refine⟨aH,?_⟩;have ar:=hI.we aG ⟨fun b h=>h,fun x hx=>by cases hx⟩ aF hr;refine (ah _ _ _ _ _ _ _ hs w (Own M (EH h) blk) _ vs rfl (fun b hb=>hI.rF hb) ar).mono fun e' w' Y =>?_;obtain⟨u,O,he,hbel,aB,hR,hu⟩:=Y;refine⟨u,he,j9 blk O d,?_⟩;have hA:=hI.le (CO (h:=h) d U);generalize au:bj h d (some (⟨e,ty,[.nr ti s (4*e+2) cs],false,true,true⟩:Row))=h2;have aI:ay h [(d,some (⟨e,ty,[.nr ti s (4*e+2) cs],false,true,true⟩:Row))]=h2:=by rw[<- au];rfl
 rw[aI];have Z:h2 d=some ⟨e,ty,[.nr ti s (4*e+2) cs],false,true,true⟩:=by rw[<- au,aj]
 have aJ:∀k,rt k=d->EH (bj h d none) k=none:=fun k hk=>Jo (by rw[hk,aj]);have an:∀k,rt k≠d->EH h2 k=EH (bj h d none) k:=fun k hk=>cR (by rw[<- au,al _ _ hk,al _ _ hk]);have ao:∀k,rt k≠d->j9 blk O d k=blk k:=fun k hk=>if_neg hk;have ai:j9 blk O d d=O 0:=by unfold j9;rw[if_pos (sO U),oA]
 have av:∀o,j9 blk O d (NK d o)=O (NK 0 o):=fun o=>by unfold j9;rw[if_pos (oc U),ib U]
 have aa:∀k r',rt k=d->EH h2 k=some r'->∃r1,EH (j3 (fF ty ti s 0 cs)) (zc d k)=some r1∧j9 blk O d k=O (zc d k):=by
  intro k r' hk he;have hq:j9 blk O d k=O (zc d k):=if_pos hk;rcases cG Z rfl rfl U hk he with⟨rfl,_⟩|⟨o,n,xs,rfl,ho,_⟩
  ·rw[oA]at hq ⊢;exact⟨_,pB,hq⟩
  ·rw[ib U]at hq ⊢;exact⟨_,nN ho,hq⟩
 have aq:∀b,Own M (EH h2) (j9 blk O d) b->Own M (EH h) blk b∨pQ O (EH (j3 (fF ty ti s 0 cs))) b:=by
  intro b aw;rcases aw with aw|⟨k,r',g,hk,aK,Y,he⟩
  ·exact .inl (.inl aw)
  ·by_cases ak:rt k=d
   ·obtain⟨r1,q1,q2⟩:=aa k r' ak hk;exact .inr ⟨_,r1,g,q1,by rw[<- q2];exact Y,he⟩
   ·rw[an k ak]at hk;rw[ao k ak]at Y;refine .inl (.inr ⟨k,r',g,?_,aK,Y,he⟩);rw[<- hk];exact cR (by rw[al _ _ ak])
 have aC:∀ {g:Nat×Nat} {r1:Row},r1.mp=false->cr w' (fun b=>Own M (EH h) blk b∨pQ O (EH (j3 (fF ty ti s 0 cs))) b) g r1->cr w' (Own M (EH h2) (j9 blk O d)) g r1:=by
  intro g r1 aL hr;unfold cr at hr ⊢;rw[aL]at hr ⊢;obtain⟨arr,k1,k2,k3⟩:=hr;exact⟨arr,k1,k2,fun j d hj=>⟨(k3 j d hj).1,(k3 j d hj).2.less aq⟩⟩
 have ab:∀k r',rt k=d->EH h2 k=some r'->∀g,j9 blk O d k=some g->w.heap.size<=g.1:=by
  intro k r' hk he g Y;obtain⟨r1,q1,q2⟩:=aa k r' hk he;exact aB g.1 ⟨_,r1,g,q1,by rw[<- q2];exact Y,rfl⟩
 have aD:Inv N M L w0 (j9 blk O d) (fun y v=>V y v∨(y=d∧v=e)) t (EH h2) a w':=by
  refine hA.RW (fun k=>rt k=d) (fun _ _ h =>.inl h) hbel.os hbel.tape hbel.output hbel.size (fun k hk _=>hbel.block k hk) (fun k r' hk he=>by rw[aJ k hk]at he;cases he) (fun k hk=>⟨an k hk,ao k hk⟩) ?_ ?_ ?_ ?_ ?_
  ·intro k r' hk he;rcases cG Z rfl rfl U hk he with⟨rfl,rfl⟩|⟨o,n,xs,rfl,ho,rfl⟩
   ·refine⟨rfl,fun hn =>.inr ⟨rfl,rfl⟩,?_⟩;rw[ai];have X:=hR.rows 0 _ pB;cases Y:O 0 with
    | none =>
     rw[Y]at X;have h1:cs.mapIdx (lM 0 s)=[]:=X;have h2:cs.length=0:=by
      have:=congrArg List.length h1;simpa using this
     show cs.mapIdx (lM k s)=[];rw[WY h2];rfl
    | some g0 =>
     rw[Y]at X;have X:cr w' (fun b=>Own M (EH h) blk b∨pQ O (EH (j3 (fF ty ti s 0 cs))) b) g0 ⟨0,ty,cs.mapIdx (lM 0 s),false,true,true⟩:=X;refine⟨.inl (ab k _ hk he g0 (ai.trans Y)),?_⟩;unfold cr at X ⊢;simp only at X ⊢;rcases X with⟨ks,vs,k1,_⟩|⟨_,arr,k2,k3,k4⟩
     ·exfalso;simp only at k1;have hl:cs.length=1:=by
       have:=congrArg List.length k1;simpa using this
      match cs,hl with
      | [d],_ =>
       simp only[List.mapIdx_cons,List.mapIdx_nil,V4,and_true]at k1;have:=ik 0 s 0 d;rw[k1]at this;cases this
     ·refine .inr ⟨fun d hd =>?_,arr,k2,by simpa using k3,fun j d hj =>?_⟩
      ·obtain⟨j,hj⟩:=V2 hd;simp only[Yb,VD]at hj;obtain⟨d0,ad,rfl⟩:=hj;exact ik _ _ _ _
      ·simp only[Yb,VD]at hj;obtain⟨d0,ad,rfl⟩:=hj
       by_cases ae:dZ d0=true
       ·rw[gw ae];have aM:(cs.mapIdx (lM 0 s))[j]? = some d0:=by rw[Yb,ad];exact congrArg some (gw ae)
        exact (di ae).2.2.2 (((di ae).2.2.1 (k4 j _ aM)).less aq)
       ·cases d0<;>first|trivial|exact absurd rfl ae
   ·refine⟨rfl,fun hn=>by have:=dO d o;have:=hI.big;have:=b7;omega,?_⟩;have X:=hR.rows _ _ (nN ho);rw[av];cases Y:O (NK 0 o) with
    | none=>rw[Y]at X;exact X
    | some g =>
     rw[Y]at X;refine⟨.inl (ab _ _ hk he g ((av o).trans Y)),aC rfl ?_⟩;obtain⟨arr,k1,k2,k3⟩:=X;exact⟨arr,k1,k2,k3⟩
  ·intro k l r1 r2 g g' hk hl he ax Y aN aP;obtain⟨q1,p1,p2⟩:=aa k r1 hk he;obtain⟨q2,p3,p4⟩:=aa l r2 hl ax;have e1:=hR.inj _ _ _ _ g g' p1 p3 (by rw[<- p2];exact Y) (by rw[<- p4];exact aN) aP;rcases cG Z rfl rfl U hk he with⟨rfl,_⟩|⟨o,n,xs,rfl,ho,_⟩
   ·rcases cG Z rfl rfl U hl ax with⟨rfl,_⟩|⟨o',n',aQ,rfl,aS,_⟩
    ·rfl
    ·rw[oA,ib U]at e1;have:=dO 0 o';have:=b7;omega
   ·rcases cG Z rfl rfl U hl ax with⟨rfl,_⟩|⟨o',n',aQ,rfl,aS,_⟩
    ·rw[oA,ib U]at e1;have:=dO 0 o;have:=b7;omega
    ·rw[ib U,ib U]at e1;rw[(mV jx jx e1).2]
  ·intro k r' hk hv he;rcases cG Z rfl rfl U hk he with⟨rfl,rfl⟩|⟨o,n,xs,rfl,ho,rfl⟩
   ·exact absurd hv hV.no
   ·exact absurd hv (aE o)
  ·intro k r' g hk he az Y j x' s' n hj;rcases cG Z rfl rfl U hk he with⟨rfl,rfl⟩|⟨o,n',xs,rfl,ho,rfl⟩;rotate_left
   ·cases az
   simp only[Yb,VD]at hj;obtain⟨d0,ad,aT⟩:=hj;obtain⟨aU,rfl,rfl,rfl⟩:=lH aT;rw[ai]at Y;obtain⟨_,u,k1,k2⟩:=hR.pha 0 _ g pB rfl Y j (NK 0 j) s' n (by simp only[Yb,ad,Option.map_some,lM]);refine⟨⟨U,.inr rfl⟩,u,k1,fun _ _ =>?_⟩;have:=k2 _ (nN ad);rw[av];exact this
  ·intro y r' j x' s' n hy he az hj aA;have hrow:=(hA.rows y r' he).2;cases Y:blk y with
   | none =>
    rw[Y]at hrow;have hrow:r'.cells=[]:=hrow;rw[hrow]at hj;cases hj
   | some g =>
    obtain⟨q1,q2⟩:=(hA.pha y r' g he az Y j x' s' n hj).1;rcases q2 with rfl|rfl
    ·have:rt (PK+y)=PK+y:=fj (by omega);rw[this]at aA;omega
    ·rw[oc q1]at aA;rw[sO q1]at hy;exact hy aA
 refine⟨aD.weaken fun x v hx =>?_,.inr ⟨hd,rfl⟩,fun r' _ _ =>?_⟩
 ·rcases hx with hx|⟨rfl,rfl⟩
  ·exact .inl hx
  ·exact .inr ⟨hd,rfl⟩
 ·rw[ai];exact hu.2 ⟨0,0,[],false,false,false⟩ rfl rfl
theorem wY (hI:Inv N M L w0 blk V t h a w) {c:Call} {f:Operand} {g:Nat} (ho:o.op=.call c) (hc:c.callee=.value f) (hf:ev t f=.fn g) {Φ:Value->World->Prop}
  (hk:∀vs:Array Value,vs.size=(c.args.toList.map (ev t)).length->(∀(j:Nat) d,(c.args.toList.map (ev t))[j]? = some d->RT w (Own M h blk) h blk V d (vs.getD j undef))->cu P g∧Calls P g vs w fun e' w'=>∃v,e'=.returned v∧Φ v w'):db P o a w Φ:=by
 have Y:=hI.ev f;have U:∀(j:Nat) d,(c.args.toList.map (ev t))[j]? = some d->RT w (Own M h blk) h blk V d ((c.args.map a.eval).getD j undef):=by
  intro j d hj;rw[VC]at hj;cases hx:c.args.toList[j]? with
  | none=>simp[hx]at hj
  | some x =>
   simp only[hx,Option.map_some,VP]at hj;subst hj;have:(c.args.map a.eval).getD j undef=a.eval x:=by
    have aa:c.args[j]? = some x:=by simpa using hx
    simp[aa]
   rw[this];exact hI.ev x
 have ab:(c.args.map a.eval).size=(c.args.toList.map (ev t)).length:=by simp
 rw[hf]at Y;have Z:a.eval f=.func (.func g) #[] #[]:=by
  have ad:RP w (Own M h blk) (.fn g) (a.eval f):=Y;generalize a.eval f=u at *;cases ad;rfl
 obtain⟨⟨fn,ae,X,O⟩,h2⟩:=hk _ ab U;have hn:¬fn.name = "runtime.NumGoroutine":=by simpa using X
 have hb:¬fn.body=none:=by
  intro h0;rw[h0]at O;cases O
 exact .inr (.inr ⟨g,#[]++c.args.map a.eval++#[],by simp[execOp,ho,resolve,hc,Z,Deferred.ofValue,invoke,callFunc,program,Sem.run,ae,hn,hb],by simpa using h2⟩)
end
def eQ (vs:Operand->D):Op->Option (D×List D)
 | .call c=>match c.callee with | .value f=>some (vs f,c.args.toList.map vs)|_=>none
 | _=>none
theorem jT {vs:Operand->D} {op:Op} {q:D} {args:List D} (O:eQ vs op=some (q,args)):∃c f,op=.call c∧c.callee=.value f∧q=vs f∧args=c.args.toList.map vs:=by
 unfold eQ at O;split at O<;>try (cases O;done)
 rename_i c;split at O<;>try (cases O;done)
 rename_i f U;simp only[VP,Prod.mk.injEq]at O;exact⟨c,f,rfl,U,O.1.symm,O.2.symm⟩
def uD (Γ:Env) (e:Nat) (h:Nat->Option Row):Option (D×List D)->Option aR
 | some (.fn g,args)=>mA Γ e h g args
 | _=>none
def xe (e d:Nat) (h:Nat->Option Row) (args:List D):Option (List D->Option (Nat×Nat×Nat×Nat×Nat×List D))->Option aR
 | some p=>Ab p e d (aO (EH h) args)
 | none=>none
def jr (Γ:Env) (e:Nat) (h:Nat->Option Row):Option Nat->Option (D×List D)->Option aR
 | some d,some (.fn g,args)=>xe e d h args (Γ.nx.res g)
 | _,_=>none
def oN (T:Nat->Option Ty) (Γ:Env) (e:Nat) (o:Oper) (vs:Operand->D) (h:Nat->Option Row):Option aR :=
 match o.op with
 | .load ty p=>match T ty with|some τ=>oM τ h (vs p)|none=>none
 | .store ty p x=>match T ty with|some τ=>oO τ e h (vs p) (vs x)|none=>none
 | .call c=>uD Γ e h (eQ vs (.call c))
 | _=>none
def Qb (h:Nat->Option Row):Option aR->Option aR->Option aR
 | some ⟨v,hw⟩,_=>some ⟨v,gO h hw⟩
 | none,y=>y
def kn (T:Nat->Option Ty) (Γ:Env) (e:Nat) (o:Oper) (vs:Operand->D) (h:Nat->Option Row):Option aR :=
 match er T Γ e o vs with
 | some E=>some E
 | none =>
  match jr Γ e h o.dst (eQ vs o.op) with
  | some E=>some E
  | none=>Qb h (jq T Γ e o vs (EH h)) (oN T Γ e o vs h)
def aN (o:Oper) (vs:Operand->D):List Nat:=(ej o vs).map rt
def VE (N e:Nat) (done:List Nat) (h:Nat->Option Row) (x v:Nat):Prop:=(x<N∧(v<e∨(v=e∧x∈done))) ∨
 (2*PK<=x∧v<=4*e+3∧(x % PK∉done->v<=4*e+1)∧∀r ty s nv cs,h (x % PK)=some r->r.mp=true->r.cells=[.nr ty s nv cs]->v<=nv)
def za (e:Nat) (done:List Nat) (h:Nat->Option Row):Prop:=∀x r ty s nv cs,h x=some r->r.mp=true->r.cells=[.nr ty s nv cs]->x<PK->nv<=4*e+3∧(x∉done->nv<=4*e+1)
def gN (e:Nat) (h h':Nat->Option Row):Prop:=∀x r' U X O cs',h' x=some r'->r'.mp=true->r'.cells=[.nr U X O cs']->x<PK->∃r ty s nv cs,h x=some r∧r.mp=true∧r.cells=[.nr ty s nv cs]∧(O=nv∨bump nv e=some O)
theorem gN.refl (e:Nat) (h:Nat->Option Row):gN e h h:=fun x r ty s nv cs O hm U _=>⟨r,ty,s,nv,cs,O,hm,U,.inl rfl⟩
theorem CD {nv e O:Nat} (h:bump nv e=some O):nv<O∧(O=4*e+1∨(nv=4*e+2∧O=4*e+3)):=by
 unfold bump at h;split at h
 ·cases h;omega
 ·split at h
  ·cases h;omega
  ·cases h
theorem za.step {e:Nat} {done O:List Nat} {h h':Nat->Option Row} (hN:za e done h) (hr:gN e h h') (hd:∀x,x∈done->x∈O):za e O h':=by
 intro x r' U s' X cs' hx hm hc hp;obtain⟨r,ty,s,nv,cs,k1,k2,k3,Y⟩:=hr x r' U s' X cs' hx hm hc hp;obtain⟨q1,q2⟩:=hN x r ty s nv cs k1 k2 k3 hp;rcases Y with rfl|Y
 ·exact⟨q1,fun hn=>q2 fun h=>hn (hd x h)⟩
 ·obtain⟨b1,Z⟩:=CD Y;refine⟨by omega,fun hn =>?_⟩;rcases Z with Z|⟨Z,b3⟩
  ·omega
  ·have:=q2 fun h=>hn (hd x h);omega
theorem VE.step {N e:Nat} {done O:List Nat} {h h':Nat->Option Row} (hr:gN e h h') (hd:∀x,x∈done->x∈O) {x v:Nat} (hv:VE N e done h x v):VE N e O h' x v:=by
 rcases hv with⟨h1,h2⟩|⟨h1,h2,h3,h4⟩
 ·exact .inl ⟨h1,h2.imp id fun⟨U,X⟩=>⟨U,hd x X⟩⟩
 ·refine .inr ⟨h1,h2,fun hn=>h3 fun h=>hn (hd _ h),fun r' Y s' Z cs' k1 k2 k3 =>?_⟩;obtain⟨r,ty,s,nv,cs,U,X,q3,q4⟩:=hr _ r' Y s' Z cs' k1 k2 k3 (Bq _);have:=h4 r ty s nv cs U X q3;rcases q4 with rfl|q4
  ·exact this
  ·have:=(CD q4).1;omega
theorem za.Ti {N e:Nat} {done:List Nat} {h:Nat->Option Row} (hN:za e done h):U7 (VE N e done h) h:=by
 intro x r ty s nv cs U hm X O o;obtain⟨q1,q2⟩:=hN x r ty s nv cs U hm X O;refine .inr ⟨dO x o,q1,by rw[mW o O];exact q2,fun r' aa s' ab cs' Y k2 Z =>?_⟩;rw[mW o O,U]at Y;cases Y;rw[X]at Z;cases Z;exact VG _
theorem za.new {N e:Nat} {done:List Nat} {h:Nat->Option Row} (hN:za e done h) (hb:N<=PK):Qg (VE N e done h) h e:=by
 intro x r ty s nv cs U X hm Y Z O o hv;have aa:=dO x o;have:=b7;rcases hv with⟨h1,_⟩|⟨_,_,_,h4⟩
 ·omega
 ·have h5:=h4 r ty s nv cs (by rw[mW o Z];exact X) hm Y;have h6:=(CD O).1;omega
theorem Ff (e:Nat):∀(l:List (Nat×Option Row)) (h:Nat->Option Row),gN e h (ay h (gO h l))
 | [],h =>.refl e h
 | (k,r)::l,h=>by
  intro x r' ad s' ae cs' hx hm hc hp;obtain⟨r1,Y,s1,Z,aa,O,k2,X,k4⟩:=Ff e l (bj h (rt k) (sM h k r)) x r' ad s' ae cs' hx hm hc hp
  by_cases U:x=rt k
  rotate_left
  ·rw[al _ _ U]at O;exact⟨r1,Y,s1,Z,aa,O,k2,X,k4⟩
  ·rw[U,aj]at O;unfold sM at O;split at O
   ·exfalso;obtain⟨_,h2,_⟩:=tL (o:=0) O;unfold x3 at O;split at O
    ·split at O
     ·split at O
      ·cases O
      ·rename_i ah;simp only[VP]at O;subst O;exact ah _ _ _ _ X
     ·rename_i ai;simp only[VP]at O;subst O;exact ai k2
    ·cases O
   ·rename_i ak;have ab:rt k=k % PK:=by unfold rt;rw[if_neg ak]
    rw[VD]at O;obtain⟨q,q1,q2⟩:=O;unfold yt at q2;split at q2
    ·rename_i an;split at q2
     ·rename_i ty s nv cs ao;subst q2;simp only at X;refine⟨q,ty,s,nv,cs,by rw[U,ab];exact q1,an,ao,?_⟩;unfold zt at X;split at X<;>(simp only[V4,D.nr.injEq,and_true]at X;obtain⟨rfl,rfl,rfl,_⟩:=X;exact k4)
     ·subst q2;exact⟨q,Y,s1,Z,aa,by rw[U,ab];exact q1,k2,X,k4⟩
    ·subst q2;exact⟨q,Y,s1,Z,aa,by rw[U,ab];exact q1,k2,X,k4⟩
section
variable {P:Program} {T:Nat->Option Ty} {N:Nat} {M:Nat->Prop} {L:fV} {w0:World} {blk:Nat->Option (Nat×Nat)} {t:Nat->D} {h h':Nat->Option Row} {a:Act} {w:World} {e:Nat} {o:Oper} {Γ:Env} {done:List Nat}
theorem gN.set {x:Nat} {r r':Row} {ty s nv O Z s':Nat} {cs cs':List D} (hx:h x=some r) (hm:r.mp=true) (hc:r.cells=[.nr ty s nv cs]) (aa:r'.cells=[.nr Z s' O cs']) (hn:O=nv∨bump nv e=some O):gN e h (bj h x (some r')):=by
 intro y r1 ab s1 ad ae Y ah U hp
 by_cases X:y=x
 ·subst X;rw[aj]at Y;cases Y;rw[aa]at U;cases U;exact⟨r,ty,s,nv,cs,hx,hm,hc,hn⟩
 ·rw[al _ _ X]at Y;exact⟨r1,ab,s1,ad,ae,Y,ah,U,.inl rfl⟩
theorem gN.drop {y:Nat} (Z:gN e (bj h y none) h'):gN e h h':=by
 intro x r' X s' Y cs' hx hm hc hp;obtain⟨r,ty,s,nv,cs,U,k⟩:=Z x r' X s' Y cs' hx hm hc hp
 by_cases O:x=y
 ·subst O;rw[aj]at U;cases U
 ·rw[al _ _ O]at U;exact⟨r,ty,s,nv,cs,U,k⟩
theorem AM {τ:Ty} {d:D} {E:aR} (O:kX τ h d=some E):E.hw=[]:=by
 unfold kX at O;split at O<;>try (cases O;done)
 split at O<;>try (cases O;done)
 unfold xN at O;split at O
 ·split at O<;>try (cases O;done)
  cases O;rfl
 ·split at O<;>try (cases O;done)
  split at O<;>try (cases O;done)
  cases O;rfl
 ·cases O
theorem Ip {τ:Ty} {d:D} {E:aR} (O:kW τ h d=some E):gN e h (ay h E.hw):=by
 unfold kW at O;split at O<;>try (cases O;done)
 split at O<;>try (cases O;done)
 rename_i r ty s nv cs U;obtain⟨X,hv,hz,hm,Y,Z⟩:=eS U;split at O<;>try (cases O;done)
 unfold IH at O;split at O<;>try (cases O;done)
 cases O;exact gN.set X hm Z rfl (.inl rfl)
theorem Is {τ:Ty} {p d:D} {E:aR} (O:lj τ e h p d=some E):gN e h (ay h E.hw):=by
 unfold lj at O;split at O<;>try (cases O;done)
 split at O<;>try (cases O;done)
 rename_i r ty s nv cs U;obtain⟨X,hv,hz,hm,Y,Z⟩:=eS U;split at O<;>try (cases O;done)
 unfold I7 at O;split at O<;>try (cases O;done)
 split at O<;>try (cases O;done)
 unfold SQ at O;split at O<;>try (cases O;done)
 rename_i aa cs' hb _;cases O;exact gN.set X hm Z rfl (.inr hb)
theorem Ir {τ:Ty} {p d:D} {E:aR} (O:jA τ e h p d=some E):gN e h (ay h E.hw):=by
 unfold jA at O;split at O<;>try (cases O;done)
 rename_i y0 v0 c0;split at O<;>try (cases O;done)
 rename_i r ty s nv cs hl;obtain⟨Y,hv,hz,hm,aa,Z⟩:=eS hl;split at O<;>try (cases O;done)
 have plain:∀ {c':Option (List D)},tU τ y0 r ty s nv cs c0 c'=some E->gN e h (ay h E.hw):=by
  intro c' O;unfold tU at O;split at O<;>try (cases O;done)
  split at O<;>try (cases O;done)
  cases O;exact gN.set Y hm Z rfl (.inl rfl)
 unfold qy at O;split at O
 ·rename_i yq vq sq oq nq;split at O<;>try (cases O;done)
  split at O
  ·split at O<;>try (cases O;done)
   unfold tS at O;split at O<;>try (cases O;done)
   split at O<;>try (cases O;done)
   cases O;exact gN.set Y hm Z rfl (.inl rfl)
  ·split at O<;>try (cases O;done)
   split at O<;>try (cases O;done)
   rename_i q U;split at O<;>try (cases O;done)
   unfold tT at O;split at O<;>try (cases O;done)
   rename_i ab hb;cases O;obtain⟨X,ad⟩:=bg U;refine gN.drop (y:=yq) ?_;exact gN.set (by
    rw[al]
    ·exact Y
    ·rintro rfl;rw[Y]at X;cases X;have:=eG U;rw[hm]at this;cases this) hm Z rfl (.inr hb)
 ·exact plain O
structure y9 (N:Nat) (M:Nat->Prop) (L:fV) (w0:World) (blk:Nat->Option (Nat×Nat)) (e:Nat) (done:List Nat) (t:Nat->D) (h:Nat->Option Row) (a:Act) (w:World):Prop where
 inv:Inv N M L w0 blk (VE N e done h) t (EH h) a w
 nv:za e done h
def HW (N:Nat) (M:Nat->Prop) (L:fV) (w0:World) (t:Nat->D) (h:Nat->Option Row) (a:Act) (e:Nat) (done:List Nat) (E:aR) (v:Value) (w':World):Prop :=
 ∃blk',y9 N M L w0 blk' e done t (ay h E.hw) a w'∧RT w' (Own M (EH (ay h E.hw)) blk') (EH (ay h E.hw)) blk' (VE N e done (ay h E.hw)) E.val v
theorem Io (hT:fb P T) (hΓ:bt P Γ) (hI:y9 N M L w0 blk e done t h a w) (hd:∀d:Nat,o.dst=some d->d∉done∧d<N) {E:aR} (X:kn T Γ e o (ev t) h=some E):db P o a w (HW N M L w0 t h a e (o.dst.toList++done) E):=by
 have aa:=hI.inv.big;have aI:=b7;have hV:∀d:Nat,o.dst=some d->fY N (VE N e done h) d e:=by
  intro d aG;obtain⟨q1,q2⟩:=hd d aG;replace q2:(d:Nat)<N:=q2;refine⟨fun hv =>?_,q2⟩;rcases hv with⟨_,hv|⟨_,hv⟩⟩|⟨hv,_⟩
  ·omega
  ·exact q1 hv
  ·omega
 have hP:∀x v,VE N e done h x v->x<N∨2*PK<=x:=fun x v hv=>hv.imp (fun h=>h.1) (fun h=>h.1);have ab:∀x,x∈done->x∈o.dst.toList++done:=fun x hx=>VV _ hx;have fin:gN e h (ay h E.hw)->∀ {v:Value} {w':World},jv N M L w0 (VE N e done h) t h a e o.dst E v w'->HW N M L w0 t h a e (o.dst.toList++done) E v w':=by
  intro av v w' Y;obtain⟨blk',h1,h2⟩:=Y;have an:∀x n,VE N e done h x n∨(o.dst=some x∧n=e)->VE N e (o.dst.toList++done) (ay h E.hw) x n:=by
   rintro x n (hv|⟨hx,rfl⟩)
   ·exact hv.step av ab
   ·exact .inl ⟨(hd x hx).2,.inr ⟨rfl,VU _ (by rw[hx];simp)⟩⟩
  refine⟨blk',⟨h1.weaken an,hI.nv.step av ab⟩,h2.mono ⟨fun _ h1 h2=>⟨h1,h2,rfl⟩,an,fun _ _ _ r' h1 h2=>⟨⟨r',h1,h2⟩,rfl,fun _ _=>rfl⟩⟩⟩
 have fin2:∀ {E0:aR} {d:Nat} {r0:Row} {ad s:Nat} {ar:List D},o.dst=some d->E0.hw=[(d,some r0)]->r0.mp=true->r0.cells=[.nr ad s (4*e+2) ar]->∀ {v:Value} {w':World},jv N M L w0 (VE N e done h) t h a e o.dst E0 v w'->HW N M L w0 t h a e (o.dst.toList++done) E0 v w':=by
  intro E0 d r0 ad s ar O ao au Z v w' Y;obtain⟨blk',h1,h2⟩:=Y;obtain⟨ai,aq⟩:=hd d O;have aE:ay h E0.hw=bj h d (some r0):=by rw[ao];rfl
  have an:∀x n,VE N e done h x n∨(o.dst=some x∧n=e)->VE N e (o.dst.toList++done) (ay h E0.hw) x n:=by
   rintro x n (hv|⟨hx,rfl⟩)
   ·rcases hv with⟨q1,q2⟩|⟨q1,q2,q3,q4⟩
    ·exact .inl ⟨q1,q2.imp id fun⟨p1,p2⟩=>⟨p1,ab _ p2⟩⟩
    ·refine .inr ⟨q1,q2,fun hn=>q3 fun h=>hn (ab _ h),fun r' aw s1 ax az k1 k2 k3 =>?_⟩;rw[aE]at k1
     by_cases ak:x % PK=d
     ·rw[ak,aj]at k1;cases k1;rw[Z]at k3;cases k3;have:=q3 (by rw[ak];exact ai);omega
     ·rw[al _ _ ak]at k1;exact q4 r' aw s1 ax az k1 k2 k3
   ·exact .inl ⟨(hd x hx).2,.inr ⟨rfl,VU _ (by rw[hx];simp)⟩⟩
  refine⟨blk',⟨h1.weaken an,?_⟩,h2.mono ⟨fun _ h1 h2=>⟨h1,h2,rfl⟩,an,fun _ _ _ r' h1 h2=>⟨⟨r',h1,h2⟩,rfl,fun _ _=>rfl⟩⟩⟩;intro x r' aw s1 ax az k1 k2 k3 hp;rw[aE]at k1
  by_cases ak:x=d
  ·subst ak;rw[aj]at k1;cases k1;rw[Z]at k3;cases k3;exact⟨by omega,fun hn=>absurd (VU _ (by rw[O];simp)) hn⟩
  ·rw[al _ _ ak]at k1;obtain⟨p1,p2⟩:=hI.nv x r' aw s1 ax az k1 k2 k3 hp;exact⟨p1,fun hn=>p2 fun h=>hn (ab _ h)⟩
 have aF:∀d:Nat,o.dst=some d->∀o',¬VE N e done h (NK d o') (4*e+2):=by
  intro d O o' hv;obtain⟨ai,aq⟩:=hd d O;have aA:(d:Nat)<PK:=VJ aq aa;rcases hv with⟨hv,_⟩|⟨_,_,hv,_⟩
  ·have:=dO d o';omega
  ·have:=hv (by rw[mW o' aA];exact ai);omega
 unfold kn at X;split at X
 ·rename_i E0 U;simp only[VP]at X;subst X;unfold er at U;split at U<;>try (cases U;done)
  rotate_left
  ·rename_i ty ho;split at U<;>try (cases U;done)
   rename_i d O;split at U<;>try (cases U;done)
   rename_i ad s f hn;split at U<;>try (cases U;done)
   rename_i τ hτ;obtain⟨ai,aq⟩:=hd d O;have Y:=N6 hT hI.inv ho O (hV d O) (aF d O) hτ U;obtain⟨r0,ao,au,Z⟩:∃r0:Row,E0.hw=[(d,some r0)]∧r0.mp=true∧∃cs,r0.cells=[.nr ad s (4*e+2) cs]:=by
    unfold SA at U;split at U<;>try (cases U;done)
    cases U;exact⟨_,rfl,rfl,_,rfl⟩
   obtain⟨ar,Z⟩:=Z;exact Y.mono fun v w' Y=>fin2 O ao au Z Y
  rename_i ty l c ho;split at U<;>try (cases U;done)
  rename_i d O;split at U<;>try (cases U;done)
  rename_i ad s f hn;split at U<;>try (cases U;done)
  rename_i τ hτ;obtain⟨ai,aq⟩:=hd d O;have Y:=N7 hT hI.inv ho O (hV d O) (fun o' hv=>by
   have aA:(d:Nat)<PK:=VJ aq aa;rcases hv with⟨hv,_⟩|⟨_,_,hv,_⟩
   ·have:=dO d o';omega
   ·have:=hv (by rw[mW o' aA];exact ai);omega) hτ U
  obtain⟨r0,ao,au,Z⟩:∃r0:Row,E0.hw=[(d,some r0)]∧r0.mp=true∧∃cs,r0.cells=[.nr ad s (4*e+2) cs]:=by
   unfold SC at U;split at U<;>try (cases U;done)
   split at U<;>try (cases U;done)
   split at U<;>try (cases U;done)
   cases U;exact⟨_,rfl,rfl,_,rfl⟩
  obtain⟨ar,Z⟩:=Z;exact Y.mono fun v w' Y=>fin2 O ao au Z Y
 split at X
 ·rename_i E0 ae;simp only[VP]at X;subst X;unfold jr at ae;split at ae<;>try (cases ae;done)
  rename_i d g args O aB;obtain⟨c,f,aC,aD,hq,ah⟩:=jT aB;unfold xe at ae;split at ae<;>try (cases ae;done)
  rename_i p hp;obtain⟨_,ad,ti,s',S',n',cs',_,_,_,aH⟩:=qW ae;subst ah;have Y:=wY hI.inv aC aD hq.symm (fun vs q1 q2=>NG hΓ hI.inv O (hV d O) (aF d O) hp ae q1 q2);refine Y.mono fun v w' Y =>?_;exact fin2 (r0:=⟨e,ad,[.nr ti s' (4*e+2) cs'],false,true,true⟩) O (by rw[aH]) rfl rfl Y
 ·unfold Qb at X;split at X
  ·rename_i v0 hw he;simp only[VP]at X;subst X;have Y:=L5 hT hΓ hI.inv hV hP he;exact Y.mono fun v w' Y=>fin (Ff e hw h) (Y.le (Fc hw h))
  ·unfold oN at X;split at X
   ·rename_i ty p ho;split at X<;>try (cases X;done)
    rename_i τ hτ;unfold oM Qc at X;split at X
    ·rename_i E0 hF;simp only[VP]at X;subst X;exact (N3 hT hI.inv ho hτ hF).mono fun v w' Y=>fin (Ip hF) Y
    ·exact (N4 hT hI.inv hI.nv.Ti ho hτ X).mono fun v w' Y=>fin (by rw[AM X];exact .refl e h) Y
   ·rename_i ty p x ho;split at X<;>try (cases X;done)
    rename_i τ hτ;unfold oO Qc at X;split at X
    ·rename_i E0 hF;simp only[VP]at X;subst X;exact (Oa hT hI.inv (hI.nv.new aa) ho hτ hF).mono fun v w' Y=>fin (Is hF) Y
    ·exact (N9 hT hI.inv (hI.nv.new aa) ho hτ X).mono fun v w' Y=>fin (Ir X) Y
   ·rename_i c ho;unfold uD at X;split at X<;>try (cases X;done)
    rename_i g args aB;obtain⟨c',f,aC,aD,hq,ah⟩:=jT aB;cases aC;subst ah;refine (wY hI.inv ho aD hq.symm (fun vs q1 q2=>NI hΓ hI.inv (hI.nv.new aa) (dst:=o.dst) X q1 q2)).mono fun v w' Y=>fin ?_ Y;obtain⟨x,v,o',rest,r,ty,s,nv,cs,p,VA,aJ,d,cs',_,hl,_,_,hb,_,_,rfl⟩:=nh X;obtain⟨hx,_,_,hm,_,hc⟩:=eS hl;exact gN.set hx hm hc rfl (.inr hb)
   ·cases X
end
section
variable {T:Nat->Option Ty} {h h':Nat->Option Row} {e:Nat} {o:Oper} {Γ:Env}
theorem jZ {x v:Nat} (O:h x=h' x):dG h x v=dG h' x v:=by simp[dG,O]
theorem je {x v:Nat} {q:Row×Nat×Nat×Nat×List D} (O:dG h x v=some q):x<PK:=by
 obtain⟨r,ty,s,nv,cs⟩:=q;exact (eS O).2.2.2.2.1
theorem uJ:∀(l:List (Nat×Option Row)) {h h':Nat->Option Row},(∀p∈l,h (rt p.1)=h' (rt p.1))->gO h l=gO h' l
 | [],_,_,_=>rfl
 | (k,r)::l,h,h',X=>by
  have hk:h (rt k)=h' (rt k):=X (k,r) (by simp);have Y:sM h k r=sM h' k r:=by
   unfold sM;split
   ·rfl
   ·rename_i O;have:rt k=k % PK:=by unfold rt;rw[if_neg O]
    rw[<- this,hk]
  unfold gO;rw[Y];congr 1;refine uJ l fun p U =>?_
  by_cases he:rt p.1=rt k
  ·rw[he,aj,aj]
  ·rw[al _ _ he,al _ _ he];exact X p (Xc _ U)
theorem uK:∀(l:List (Nat×Option Row)) {h:Nat->Option Row},∀p∈gO h l,∃q∈l,p.1=rt q.1
 | [],_,p,O=>by simp[gO]at O
 | (k,r)::l,h,p,O=>by
  unfold gO at O;rcases VN.1 O with rfl|O
  ·exact⟨(k,r),by simp,rfl⟩
  ·obtain⟨q,h1,h2⟩:=uK l p O;exact⟨q,Xc _ h1,h2⟩
theorem MH {τ:Ty} {p d:D} {E:aR} (O:jA τ e h p d=some E):∀q∈E.hw,q.1<PK∧(q.1∈nm p∨q.1∈nm d):=by
 unfold jA at O;split at O<;>try (cases O;done)
 rename_i y0 v0 X;split at O<;>try (cases O;done)
 rename_i r ty s nv cs hl;have Y:=je hl;split at O<;>try (cases O;done)
 have one:∀ {r':Option Row} (q:Nat×Option Row),q∈[(y0,r')]->q.1<PK∧(q.1∈nm (.ptr y0 v0 X)∨q.1∈nm d):=by
  intro r' q U;simp only[V3]at U;subst U;exact⟨Y,.inl (by simp[nm,ey])⟩
 have plain:∀ {Z:Option (List D)},tU τ y0 r ty s nv cs X Z=some E->∀q∈E.hw,q.1<PK∧(q.1∈nm (.ptr y0 v0 X)∨q.1∈nm d):=by
  intro Z O;unfold tU at O;split at O<;>try (cases O;done)
  split at O<;>try (cases O;done)
  cases O;exact one
 unfold qy at O;split at O
 ·rename_i yq vq sq oq nq;split at O<;>try (cases O;done)
  split at O
  ·split at O<;>try (cases O;done)
   unfold tS at O;split at O<;>try (cases O;done)
   split at O<;>try (cases O;done)
   cases O;exact one
  ·split at O<;>try (cases O;done)
   rename_i hyp;split at O<;>try (cases O;done)
   split at O<;>try (cases O;done)
   unfold tT at O;split at O<;>try (cases O;done)
   cases O;intro q U;rcases VN.1 U with rfl|U
   ·exact⟨hyp,.inr (by simp[nm,ey])⟩
   ·exact one q U
 ·exact plain O
theorem Mn {τ:Ty} {p:D} {E:aR} (O:kW τ h p=some E):∀q∈E.hw,q.1<PK∧q.1∈nm p:=by
 unfold kW at O;split at O<;>try (cases O;done)
 rename_i y0 v0 Z;split at O<;>try (cases O;done)
 rename_i r ty s nv cs Y;have U:=je Y;split at O<;>try (cases O;done)
 unfold IH at O;split at O<;>try (cases O;done)
 cases O;intro q X;simp only[V3]at X;subst X;exact⟨U,by simp[nm,ey]⟩
theorem MK {τ:Ty} {p d:D} {E:aR} (O:lj τ e h p d=some E):∀q∈E.hw,q.1<PK∧(q.1∈nm p∨q.1∈nm d):=by
 unfold lj at O;split at O<;>try (cases O;done)
 rename_i y0 v0 Z;split at O<;>try (cases O;done)
 rename_i r ty s nv cs Y;have U:=je Y;split at O<;>try (cases O;done)
 unfold I7 at O;split at O<;>try (cases O;done)
 split at O<;>try (cases O;done)
 unfold SQ at O;split at O<;>try (cases O;done)
 cases O;intro q X;simp only[V3]at X;subst X;exact⟨U,.inl (by simp[nm,ey])⟩
theorem Mm {τ:Ty} {d:D} (U:∀x∈nm d,x<2*PK->h x=h' x):kW τ h d=kW τ h' d:=by
 unfold kW;split
 ·rename_i x v o
  by_cases X:x<2*PK
  ·rw[jZ (U x (by simp[nm,ey]) X)]
  ·have O:∀h:Nat->Option Row,dG h x v=none:=by
    intro h;cases Y:dG h x v with
    | none=>rfl
    | some q=>have:=je Y;omega
   rw[O,O]
 ·rfl
theorem MJ {τ:Ty} {p d:D} (X:∀x∈nm p,x<2*PK->h x=h' x):lj τ e h p d=lj τ e h' p d:=by
 unfold lj;split
 ·rename_i x v o
  by_cases O:x<2*PK
  ·rw[jZ (X x (by simp[nm,ey]) O)]
  ·have U:∀h:Nat->Option Row,dG h x v=none:=by
    intro h;cases Y:dG h x v with
    | none=>rfl
    | some q=>have:=je Y;omega
   rw[U,U]
 ·rfl
theorem Mo {τ:Ty} {d:D} (U:∀x∈nm d,x<2*PK->h x=h' x):kX τ h d=kX τ h' d:=by
 unfold kX;split
 ·rename_i x v o
  by_cases X:x<2*PK
  ·rw[jZ (U x (by simp[nm,ey]) X)]
  ·have O:∀h:Nat->Option Row,dG h x v=none:=by
    intro h;cases Y:dG h x v with
    | none=>rfl
    | some q=>have:=je Y;omega
   rw[O,O]
 ·rfl
theorem MG {τ:Ty} {p d:D} (X:∀x∈nm p,x<2*PK->h x=h' x) (Y:∀x∈nm d,x<2*PK->h x=h' x):jA τ e h p d=jA τ e h' p d:=by
 unfold jA;split
 ·rename_i x v o
  by_cases O:x<2*PK
  rotate_left
  ·have U:∀h:Nat->Option Row,dG h x v=none:=by
    intro h;cases Z:dG h x v with
    | none=>rfl
    | some q=>have:=je Z;omega
   rw[U,U]
  rw[jZ (X x (by simp[nm,ey]) O)];split
  ·split
   ·unfold qy;split
    ·rename_i y vy s' oy n
     by_cases hyp:y<2*PK
     ·rw[bG (Y y (by simp[nm,ey]) hyp)]
     ·split
      ·split
       ·rfl
       ·rw[if_neg (by have:=b7;omega),if_neg (by have:=b7;omega)]
      ·rfl
    ·rfl
   ·rfl
  ·rfl
 ·rfl
theorem dr {vs:Operand->D} {x:Nat} (O:x∈ej o vs):rt x∈aN o vs:=VF.2 ⟨x,O,rfl⟩
theorem j6 {vs:Operand->D} {y:Operand} (U:y∈o.op.operands.toList) (h1:∀a b c,o.op ≠ .pick a b c) (h2:∀a,o.op ≠ .move a) (h3:∀a b c,o.op ≠ .makeFunc a b c) {x:Nat} (X:x∈nm (vs y)):x∈ej o vs:=by
 unfold ej;split
 ·rename_i O;exact absurd O (h2 _)
 ·rename_i O;exact absurd O (h1 _ _ _)
 ·rename_i O;exact absurd O (h3 _ _ _)
 ·exact VU _ (W9.2 ⟨y,U,X⟩)
theorem Ae {vs:Operand->D} {q:D} {args:List D} (Z:eQ vs o.op=some (q,args)) (hx:∀x∈aN o vs,h x=h' x):∀d∈args,∀x∈nm d,h (rt x)=h' (rt x):=by
 obtain⟨c,f,U,X,_,O⟩:=jT Z;subst O;intro d hd x Y;obtain⟨y,hy,rfl⟩:=VF.1 hd;exact hx _ (dr (j6 (y:=y) (by simp[U,Op.operands,Call.operands,X];exact .inr (by simpa using hy)) (by simp[U]) (by simp[U]) (by simp[U]) Y))
theorem D6 {g:Nat} {args:List D} (X:∀d∈args,∀x∈nm d,h (rt x)=h' (rt x)):mA Γ e h g args=mA Γ e h' g args:=by
 unfold mA;split
 ·rename_i x v c rest;have O:aO (EH h) rest=aO (EH h') rest:=fC fun d Z x U=>cR (X d (Xc _ Z) x U)
  by_cases hp:x<2*PK
  ·have:=X _ Xb x (by simp[nm,ey]);rw[fj hp]at this;rw[jZ this,O]
  ·have Y:∀h:Nat->Option Row,dG h x v=none:=by
    intro h;cases hl:dG h x v with
    | none=>rfl
    | some q=>have:=je hl;omega
   rw[Y,Y]
 ·rfl
theorem EX {vs:Operand->D} (X:∀x∈aN o vs,h x=h' x):jr Γ e h o.dst (eQ vs o.op)=jr Γ e h' o.dst (eQ vs o.op):=by
 unfold jr;split
 ·rename_i d g args U Y;unfold xe;split
  ·rw[fC fun d U x O=>cR (Ae Y X d U x O)]
  ·rfl
 ·rfl
theorem Iq {vs:Operand->D} (Z:∀x∈aN o vs,h x=h' x):oN T Γ e o vs h=oN T Γ e o vs h':=by
 unfold oN;split
 ·rename_i ty p O;split
  ·have X:∀x∈nm (vs p),x<2*PK->h x=h' x:=fun x U Y=>by
    have:=Z _ (dr (j6 (y:=p) (by simp[O,Op.operands]) (by simp[O]) (by simp[O]) (by simp[O]) U))
    rwa [fj Y]at this
   unfold oM;rw[Mo X,Mm X]
  ·rfl
 ·rename_i ty p x O;split
  ·have X:∀x∈nm (vs p),x<2*PK->h x=h' x:=fun y U Y=>by
    have:=Z _ (dr (j6 (y:=p) (by simp[O,Op.operands]) (by simp[O]) (by simp[O]) (by simp[O]) U))
    rwa [fj Y]at this
   unfold oO;rw[MG X (fun y U Y=>by
    have:=Z _ (dr (j6 (y:=x) (by simp[O,Op.operands]) (by simp[O]) (by simp[O]) (by simp[O]) U))
    rwa [fj Y]at this),MJ X]
  ·rfl
 ·rename_i c O;unfold uD;split
  ·rename_i g args hc;exact D6 (Ae (by rw[O];exact hc) Z)
  ·rfl
 ·rfl
theorem Il {vs:Operand->D} (hx:∀x∈aN o vs,h x=h' x):kn T Γ e o vs h=kn T Γ e o vs h':=by
 have h1:jq T Γ e o vs (EH h)=jq T Γ e o vs (EH h'):=L4 fun x O=>cR (hx _ (dr O));unfold kn;rw[h1,Iq hx,EX hx];split
 ·rfl
 split
 ·rfl
 ·cases U:jq T Γ e o vs (EH h') with
  | none=>rfl
  | some E =>
   simp only[Qb];rw[uJ E.hw fun p X=>hx _ (dr (AN U p X))]
theorem Im {vs:Operand->D} {E:aR} (U:kn T Γ e o vs h=some E):∀p∈E.hw,p.1∈aN o vs:=by
 unfold kn at U;split at U
 ·rename_i E0 O;simp only[VP]at U;subst U;unfold er at O;split at O<;>try (cases O;done)
  rotate_left
  ·rename_i ty X;split at O<;>try (cases O;done)
   rename_i d Y;split at O<;>try (cases O;done)
   split at O<;>try (cases O;done)
   unfold SA at O;split at O<;>try (cases O;done)
   rename_i Z;cases O;intro p hp;simp only[V3]at hp;subst hp;have hd:d∈ej o vs:=by
    unfold ej;rw[X];exact VV _ (by rw[Y];simp)
   have:=dr hd
   rwa [fj (by have:=Z.2.2.2.1;omega)]at this
  rename_i ty l c X;split at O<;>try (cases O;done)
  rename_i d Y;split at O<;>try (cases O;done)
  split at O<;>try (cases O;done)
  unfold SC at O;split at O<;>try (cases O;done)
  split at O<;>try (cases O;done)
  split at O<;>try (cases O;done)
  rename_i Z;cases O;intro p hp;simp only[V3]at hp;subst hp;have hd:d∈ej o vs:=by
   unfold ej;rw[X];exact VV _ (by rw[Y];simp)
  have:=dr hd
  rwa [fj (by have:=Z.2.2.2.2.2.2.1;omega)]at this
 split at U
 ·rename_i E0 aa;simp only[VP]at U;subst U;unfold jr at aa;split at aa<;>try (cases aa;done)
  rename_i d g args Y ad;obtain⟨c,f,ae,ah,hq,ab⟩:=jT ad;unfold xe at aa;split at aa<;>try (cases aa;done)
  obtain⟨_,_,_,_,_,_,_,_,_,al,rfl⟩:=qW aa;intro p hp;simp only[V3]at hp;subst hp;have hd:d∈ej o vs:=by
   unfold ej;rw[ae];exact VV _ (by rw[Y];simp)
  have:=dr hd
  rwa [fj (by omega)]at this
 ·unfold Qb at U;split at U
  ·rename_i v0 hw he;simp only[VP]at U;subst U;intro p hp;obtain⟨q,h1,h2⟩:=uK hw p hp;rw[h2];exact dr (AN he q h1)
  ·unfold oN at U;split at U
   ·rename_i ty p X;split at U<;>try (cases U;done)
    unfold oM Qc at U;split at U
    ·rename_i E0 hF;simp only[VP]at U;subst U;intro q hq;obtain⟨q1,q2⟩:=Mn hF q hq;have:q.1∈ej o vs:=j6 (y:=p) (by simp[X,Op.operands]) (by simp[X]) (by simp[X]) (by simp[X]) q2;have:=dr this
     rwa [fj (by omega)]at this
    rw[AM U];intro p hp;simp at hp
   ·rename_i ty p x X;split at U<;>try (cases U;done)
    intro q hq;have ai:q.1<PK∧(q.1∈nm (vs p)∨q.1∈nm (vs x)):=by
     unfold oO Qc at U;split at U
     ·rename_i E0 hF;simp only[VP]at U;subst U;exact MK hF q hq
     ·exact MH U q hq
    obtain⟨q1,q2⟩:=ai;have:q.1∈ej o vs:=by
     rcases q2 with q2|q2
     ·exact j6 (y:=p) (by simp[X,Op.operands]) (by simp[X]) (by simp[X]) (by simp[X]) q2
     ·exact j6 (y:=x) (by simp[X,Op.operands]) (by simp[X]) (by simp[X]) (by simp[X]) q2
    have:=dr this
    rwa [fj (by omega)]at this
   ·rename_i c X;unfold uD at U;split at U<;>try (cases U;done)
    rename_i g args ad;obtain⟨c',f,ae,ah,hq,ab⟩:=jT ad;cases ae;obtain⟨x,v,o',rest,r,ty,s,nv,cs,p,VA,an,d,cs',aj,hl,_,_,_,_,_,rfl⟩:=nh U;have ao:=je hl;intro q hq;simp only[V3]at hq;subst hq;obtain⟨y,hy,ak⟩:∃y∈c.args.toList,vs y=.ptr x v o':=by
     have:(.ptr x v o':D)∈c.args.toList.map vs:=by rw[<- ab,aj];exact Xb
     obtain⟨y,h1,h2⟩:=VF.1 this;exact⟨y,h1,h2⟩
    have:x∈ej o vs:=j6 (y:=y) (by simp[X,Op.operands,Call.operands,ah];exact .inr (by simpa using hy)) (by simp[X]) (by simp[X]) (by simp[X]) (by rw[ak];simp[nm,ey]);have:=dr this
    rwa [fj (by omega)]at this
   ·cases U
theorem Qy {vs O:Operand->D} (hx:∀y∈o.op.operands.toList,vs y=O y):kn T Γ e o vs h=kn T Γ e o O h∧aN o vs=aN o O:=by
 obtain⟨h1,h2⟩:=Si (T:=T) (Γ:=Γ) (e:=e) (h:=EH h) hx;have h3:er T Γ e o vs=er T Γ e o O:=by
  unfold er;split
  ·rename_i ty l c U;rw[hx l (by simp[U,Op.operands]),hx c (by simp[U,Op.operands])]
  ·rfl
  ·rfl
 have X:∀c,o.op=.call c->eQ vs (.call c)=eQ O (.call c):=by
  intro c U;unfold eQ;simp only;split
  ·rename_i f Z;rw[hx f (by simp[U,Op.operands,Call.operands,Z]),Xa fun y hy=>hx y (by simp[U,Op.operands,Call.operands,Z];exact .inr (by simpa using hy))]
  ·rfl
 have h4:oN T Γ e o vs h=oN T Γ e o O h:=by
  unfold oN;split
  ·rename_i ty p U;rw[hx p (by simp[U,Op.operands])]
  ·rename_i ty p x U;rw[hx p (by simp[U,Op.operands]),hx x (by simp[U,Op.operands])]
  ·rename_i c U;rw[X c U]
  ·rfl
 have h5:eQ vs o.op=eQ O o.op:=by
  by_cases Y:∃c,o.op=.call c
  ·obtain⟨c,Y⟩:=Y;rw[Y];exact X c Y
  ·unfold eQ;split
   ·rename_i c U;exact absurd ⟨c,U⟩ Y
   ·rfl
 unfold kn aN;rw[h1,h2,h3,h4,h5];exact⟨rfl,rfl⟩
end
structure gQ where
 tc:List Nat
 q:Bool
def oZ (ops:Array Oper) (t:Nat->D) (o:Oper):Option Bool :=
 match o.guard with
 | none=>some true
 | some (j,want) =>
  match (ops[j]?).bind (·.dst) with
  | some g=>match t g with | .bool b=>some (b==want) | .skp=>some false|_=>none
  | none=>none
def cP (t:Nat->D) (dst:Option Nat) (d:D):Nat->D :=
 match dst with
 | none=>t
 | some i=>bj t i d
def fits (N:Nat) (dst:Option Nat):Bool :=
 match dst with
 | none=>true
 | some i=>decide (i<N)
def step1 (T:Nat->Option Ty) (Γ:Env) (N e:Nat) (ops:Array Oper) (o:Oper) (t:Nat->D) (h:Nat->Option Row):Option ((Nat->D)×(Nat->Option Row)×gQ) :=
 if fits N o.dst then
  match oZ ops t o with
  | some true =>
   match kn T Γ e o (ev t) h with
   | some E=>some (cP t o.dst E.val,ay h E.hw,⟨aN o (ev t),E.hw.isEmpty⟩)
   | none=>none
  | some false=>some (cP t o.dst .skp,h,⟨[],true⟩)
  | none=>none
 else none
section
variable {P:Program} {T:Nat->Option Ty} {N:Nat} {M:Nat->Prop} {L:fV} {w0:World} {blk:Nat->Option (Nat×Nat)} {t:Nat->D} {h:Nat->Option Row} {a:Act} {w:World} {e:Nat} {o:Oper} {Γ:Env} {ops:Array Oper}
theorem sx {V:Nat->Nat->Prop} (hI:Inv N M L w0 blk V t h a w) {b:Bool} (O:oZ ops t o=some b):Region.wanted o (yielded ops a.tmps)=b:=by
 unfold oZ at O;split at O
 ·rename_i ho;simp only[VP]at O;subst O;simp[Region.wanted,ho]
 ·rename_i j want ho;split at O
  ·rename_i g Y;split at O
   ·rename_i b' hb;simp only[VP]at O;subst O;have hs:=hI.slots g;rw[hb]at hs;have U:=pR hs;have Z:a.tmps[g]? = some (.bool b'):=by
     simp only[VL]at U;cases X:a.tmps[g]? with
     | none=>rw[X]at U;cases U
     | some v=>rw[X]at U;simp only[Option.getD_some]at U;rw[U]
    have hy:yielded ops a.tmps j=some b':=by
     unfold yielded;rw[Y];simp[Z]
    simp only[Region.wanted,ho,hy];cases b'<;>cases want<;>rfl
   ·rename_i hb;simp only[VP]at O;subst O;have hs:=hI.slots g;rw[hb]at hs;have U:a.tmps.getD g undef=undef:=hs;have hy:yielded ops a.tmps j=none:=by
     unfold yielded;rw[Y];simp only[VL]at U;cases X:a.tmps[g]? with
     | none=>simp only[Option.bind_some,X]
     | some v=>rw[X]at U;simp only[Option.getD_some]at U;subst U;simp only[Option.bind_some,X];rfl
    simp only[Region.wanted,ho,hy]<;>cases want<;>rfl
   ·cases O
  ·cases O
theorem Inv.TC {V:Nat->Nat->Prop} (O:Inv N M L w0 blk V t h a w) (U:fits N o.dst=true) {d:D} {v:Value} (X:RT w (Own M h blk) h blk V d v):Inv N M L w0 blk V (cP t o.dst d) h (a.put o.dst v) w:=by
 cases Y:o.dst with
 | none=>simpa [cP,Act.put] using O
 | some i =>
  rw[Y]at U;exact O.put (by simpa [fits] using U) X
theorem Ll (hT:fb P T) (hΓ:bt P Γ) {done:List Nat} {t':Nat->D} {h':Nat->Option Row} {f:gQ} {K:Act->World->Prop} {Q:Exit->Act->World->Prop} (U:y9 N M L w0 blk e done t h a w)
  (hs:step1 T Γ N e ops o t h=some (t',h',f)) (hd:∀d,o.dst=some d->d∉done) (hK:∀a' w' blk',y9 N M L w0 blk' e (o.dst.toList++done) t' h' a' w'->K a' w') :
  if Region.wanted o (yielded ops a.tmps) then o.wp P a w K Q∨(o.asks P a w∧LetsOut Q) else K (a.put o.dst undef) w:=by
 unfold step1 at hs;split at hs
 ·rename_i Z;split at hs
  ·rename_i hg;rw[sx U.inv hg];simp only[if_true];split at hs
   ·rename_i E hE;simp only[VP,Prod.mk.injEq]at hs;obtain⟨rfl,rfl,_⟩:=hs;have:=Io hT hΓ U (fun d X=>⟨hd d X,by rw[X]at Z;simpa [fits] using Z⟩) hE;refine .inl (this.wp fun v w' hA =>?_);obtain⟨blk',Y,hR⟩:=hA;exact hK _ _ blk' ⟨Y.inv.TC Z hR,Y.nv⟩
   ·cases hs
  ·rename_i hg;rw[sx U.inv hg];simp only[Wg,if_false];simp only[VP,Prod.mk.injEq]at hs;obtain⟨rfl,rfl,_⟩:=hs;have O:∀x,x∈done->x∈o.dst.toList++done:=fun x hx=>VV _ hx;exact hK _ _ blk ⟨(U.inv.TC Z (d := .skp) (v:=undef) rfl).weaken fun x n hx=>hx.step (.refl e h) O,U.nv.step (.refl e h) O⟩
  ·cases hs
 ·cases hs
theorem dx {x:Nat} : ∀ {l:List (Nat×Option Row)} {h:Nat->Option Row},(∀p∈l,p.1≠x)->ay h l x=h x
 | [],_,_=>rfl
 | (y,r)::l,h,hn=>by
  simp only[ay];rw[dx (fun p O=>hn p (by simp[O]))];exact al _ _ (fun e=>hn (y,r) (by simp) e.symm)
theorem td {x:Nat} : ∀ {l:List (Nat×Option Row)} {h h':Nat->Option Row},(∃p∈l,p.1=x)->ay h l x=ay h' l x
 | [],_,_,he=>by obtain⟨p,U,_⟩:=he;simp at U
 | (y,r)::l,h,h',he=>by
  simp only[ay]
  by_cases hl:∃p∈l,p.1=x
  ·exact td hl
  ·have X:∀p∈l,p.1≠x:=fun p U O=>hl ⟨p,U,O⟩;rw[dx X,dx X];obtain⟨p,U,O⟩:=he;rcases VN.1 U with rfl|U
   ·simp only at O;subst O;rw[aj,aj]
   ·exact absurd O (X p U)
theorem DR {l l':List (Nat×Option Row)} {h:Nat->Option Row} (hd:∀p∈l,∀q∈l',p.1≠q.1):ay (ay h l) l'=ay (ay h l') l:=by
 funext x
 by_cases h1:∃p∈l,p.1=x
 ·obtain⟨p,U,rfl⟩:=h1;rw[dx (fun q Z e=>hd p U q Z e.symm)];exact td ⟨p,U,rfl⟩
 ·have Y:∀p∈l,p.1≠x:=fun p U O=>h1 ⟨p,U,O⟩;rw[dx Y]
  by_cases h2:∃p∈l',p.1=x
  ·exact td h2
  ·have X:∀p∈l',p.1≠x:=fun p U O=>h2 ⟨p,U,O⟩;rw[dx X,dx X,dx Y]
theorem Mx {t:Nat->D} {x y:Option Nat} {v u:D} (hne:∀d,x=some d->y≠some d):cP (cP t x v) y u=cP (cP t y u) x v:=by
 cases x with
 | none=>rfl
 | some i =>
  cases y with
  | none=>rfl
  | some j=>exact PZ t v u (fun e=>hne i rfl (by rw[e]))
theorem K4 {t:Nat->D} {x:Option Nat} {v:D} {s:Nat} (hne:x≠some s):cP t x v s=t s:=by
 cases x with
 | none=>rfl
 | some i=>exact al _ _ (fun e=>hne (by rw[e]))
theorem HC {t t1:Nat->D} {h h1:Nat->Option Row} {f:gQ} (hs:step1 T Γ N e ops o t h=some (t1,h1,f)) :
  ∃v hw,t1=cP t o.dst v∧h1=ay h hw∧(∀p∈hw,p.1∈f.tc)∧(f.q=true->hw=[]) ∧
   ∀O h',(∀s∈o.looksAt ops,t s=O s)->(∀x∈f.tc,h x=h' x)->step1 T Γ N e ops o O h'=some (cP O o.dst v,ay h' hw,f):=by
 have X:∀O:Nat->D,(∀s∈o.looksAt ops,t s=O s)->oZ ops t o=oZ ops O o:=by
  intro O U;unfold oZ;split
  ·rfl
  ·rename_i j want ho;split
   ·rename_i g Y;rw[U g (by simp[Oper.looksAt,ho,Y])]
   ·rfl
 have Z:∀O:Nat->D,(∀s∈o.looksAt ops,t s=O s)->∀y∈o.op.operands.toList,ev t y=ev O y:=by
  intro O U y hy;cases y with
  | tmp i=>exact U i (by unfold Oper.looksAt;exact VU _ (List.mem_filterMap.2 ⟨_,hy,rfl⟩))
  | const v=>rfl
  | global g=>rfl
  | func f=>rfl
 unfold step1 at hs;split at hs
 ·rename_i hf;split at hs
  ·rename_i Y;split at hs
   ·rename_i E hE;simp only[VP,Prod.mk.injEq]at hs;obtain⟨rfl,rfl,rfl⟩:=hs;refine⟨E.val,E.hw,rfl,rfl,Im hE,fun hq=>by simpa using hq,fun O h' U hh =>?_⟩;obtain⟨e1,e2⟩:=Qy (T:=T) (Γ:=Γ) (e:=e) (h:=h) (Z O U);have e3:kn T Γ e o (ev O) h'=some E:=by
     rw[<- hE,e1];exact (Il (fun x hx=>hh x (by rw[e2];exact hx))).symm
    unfold step1;rw[if_pos hf,<- X O U,Y];simp only[e3,e2]
   ·cases hs
  ·rename_i Y;simp only[VP,Prod.mk.injEq]at hs;obtain⟨rfl,rfl,rfl⟩:=hs;refine⟨.skp,[],rfl,rfl,fun p hp=>by simp at hp,fun _=>rfl,fun O h' U hh =>?_⟩;unfold step1;rw[if_pos hf,<- X O U,Y];rfl
  ·cases hs
 ·cases hs
def H2 (T:Nat->Option Ty) (Γ:Env) (N e:Nat) (ops:Array Oper) (F:Nat->gQ):List Nat->(Nat->D)->(Nat->Option Row)->(Nat->D)->(Nat->Option Row)->Prop
 | [],t,h,O,h'=>t=O∧h=h'
 | i::L,t,h,O,h'=>∃o t1 h1,ops[i]? = some o∧step1 T Γ N e ops o t h=some (t1,h1,F i)∧H2 T Γ N e ops F L t1 h1 O h'
def Qs (l l':List Nat):Bool:=l.all fun x => !l'.contains x
structure Jq (ops:Array Oper) (F:Nat->gQ) (j i:Nat):Prop where
 apart:∀oj oi,ops[j]? = some oj->ops[i]? = some oi->oj.apart ops oi=true
 foot:((F j).q&&(F i).q||Qs (F j).tc (F i).tc)=true
theorem swap {F:Nat->gQ} {i j:Nat} {L:List Nat} {t t':Nat->D} {h h':Nat->Option Row} (hr:H2 T Γ N e ops F (j::i::L) t h t' h') (hi:Jq ops F j i):H2 T Γ N e ops F (i::j::L) t h t' h':=by
 obtain⟨oj,t1,h1,Z,ai,oi,t2,h2,aa,aj,X⟩:=hr;obtain⟨a1,a2,a3⟩:=Oper.apart_spec (hi.apart oj oi Z aa);obtain⟨vj,wj,rfl,rfl,nj,qj,ab⟩:=HC ai;obtain⟨vi,wi,rfl,rfl,ni,qi,ad⟩:=HC aj;have O:=hi.foot;simp only[Xf,Wh]at O;have d1:∀x∈(F i).tc,∀p∈wj,p.1≠x:=by
  intro x Y p U he;rcases O with⟨h1,_⟩|h1
  ·rw[qj h1]at U;simp at U
  ·simp only[Qs,VR]at h1;have:=h1 p.1 (nj p U);rw[he]at this;simp[Y]at this
 have d2:∀x∈(F j).tc,∀p∈wi,p.1≠x:=by
  intro x Y p U he;rcases O with⟨_,h1⟩|h1
  ·rw[qi h1]at U;simp at U
  ·simp only[Qs,VR]at h1;have:=h1 x Y;have hm:=ni p U;rw[he]at hm;simp[hm]at this
 have ae:=ad t h (fun s hs=>K4 (fun hd=>a1 s hd hs)) (fun x Y=>dx (d1 x Y));have ah:=ab (cP t oi.dst vi) (ay h wi) (fun s hs=>(K4 (fun hd=>a3 s hd hs)).symm) (fun x Y=>(dx (d2 x Y)).symm);refine⟨oi,_,_,aa,ae,oj,_,_,Z,ah,?_⟩;rw[Mx (x:=oi.dst) (y:=oj.dst) (fun d hd ak=>a2 d ak hd),DR (l:=wi) (l':=wj) (fun p U q hq he=>d1 p.1 (ni p U) q hq he.symm)];exact X
theorem front {F:Nat->gQ} {i:Nat} {post:List Nat} : ∀ {pre:List Nat} {t U:Nat->D} {h h':Nat->Option Row},H2 T Γ N e ops F (pre++i::post) t h U h'->(∀j∈pre,Jq ops F j i)->H2 T Γ N e ops F (i::(pre++post)) t h U h'
 | [],_,_,_,_,hr,_=>hr
 | j::pre,t,U,h,h',hr,hi=>by
  obtain⟨oj,t1,h1,X,Y,O⟩:=hr;have Z:=front (pre:=pre) O (fun k hk=>hi k (by simp[hk]));exact swap ⟨oj,t1,h1,X,Y,Z⟩ (hi j (by simp))
def direct (o:Oper):List Nat:=(o.after.toList.filter (Region.binds .any)).map (·.on)
def pX:List Oper->List (List Nat)->List (List Nat)
 | [],acc=>acc
 | o::l,acc=>pX l (acc++[direct o++(direct o).flatMap fun k=>acc.getD k []])
def Sg (ops:Array Oper):List (List Nat):=pX ops.toList []
theorem wP (S:Nat->Prop):∀(l:List Oper) (acc:List (List Nat)) (k:Nat),k=acc.length->(∀i j,j∈acc.getD i []->i<k->(∀m o,ops[m]? = some o->S m->∀d∈direct o,S d)->(∀o,ops[i]? = some o->∀d∈direct o,S d)->S j) ->
  (∀j,l[j]? = ops[k+j]?)->∀i j,j∈(pX l acc).getD i []->(∀m o,ops[m]? = some o->S m->∀d∈direct o,S d)->(∀o,ops[i]? = some o->∀d∈direct o,S d)->S j
 | [],acc,k,hk,O,hl,i,j,Y,hS,hi=>by
  simp only[pX]at Y
  by_cases ab:i<k
  ·exact O i j Y ab hS hi
  ·have:acc.getD i []=[]:=by simp[List.getD,Xg (show acc.length<=i by omega)]
   rw[this]at Y;simp at Y
 | o::l,acc,k,hk,O,hl,i,j,Y,hS,hi=>by
  simp only[pX]at Y;refine wP S l _ (k+1) (by simp[hk]) ?_ (fun j=>by have:=hl (j+1);simpa [V1,Nat.add_comm 1 j] using this) i j Y hS hi;intro U j' X ak hS' Z
  by_cases ad:U<k
  ·have:(acc++[direct o++(direct o).flatMap fun k=>acc.getD k []]).getD U []=acc.getD U []:=by
    simp[List.getD,Wk (show U<acc.length by omega)]
   rw[this]at X;exact O U j' X ad hS' Z
  ·obtain rfl:U=k:=by omega
   have:(acc++[direct o++(direct o).flatMap fun k=>acc.getD k []]).getD U []=direct o++(direct o).flatMap fun k=>acc.getD k []:=by
    simp[List.getD,Wl (show acc.length<=U by omega),hk]
   rw[this]at X;have ho:ops[U]? = some o:=by have:=hl 0;simpa using this.symm
   rcases WV.1 X with hd|hd
   ·exact Z o ho j' hd
   ·obtain⟨m,hm,aa⟩:=W9.1 hd;have ae:=Z o ho m hm
    by_cases ah:m<U
    ·exact O m j' aa ah hS' (fun o' ai d aj=>hS' m o' ai ae d aj)
    ·have:acc.getD m []=[]:=by simp[List.getD,Xg (show acc.length<=m by omega)]
     rw[this]at aa;simp at aa
theorem Qp {S:Nat->Prop} {i j:Nat} (O:j∈(Sg ops).getD i []) (U:∀m o,ops[m]? = some o->S m->∀d∈direct o,S d) (X:∀o,ops[i]? = some o->∀d∈direct o,S d):S j :=
 wP S ops.toList [] 0 rfl (fun i j O _ _ _=>by simp at O) (fun j=>by simp) i j O U X
def NY (acc:List Nat):List Nat->Nat
 | []=>0
 | k::l=>(2 ^ k ||| acc.getD k 0) ||| NY acc l
def wQ:List Oper->List Nat->List Nat
 | [],acc=>acc
 | o::l,acc=>wQ l (acc++[NY acc (direct o)])
def J4 (ops:Array Oper):List Nat:=wQ ops.toList []
theorem J8 {acc:List Nat} {j:Nat} : ∀ {l:List Nat},(NY acc l).testBit j=true->j∈l∨∃k∈l,(acc.getD k 0).testBit j=true
 | [],h=>by simp[NY]at h
 | k::l,h=>by
  simp only[NY,Nat.testBit_or,Xf,Nat.testBit_two_pow,decide_eq_true_eq]at h;rcases h with (rfl|h)|h
  ·exact .inl (Xb ..)
  ·exact .inr ⟨k,Xb ..,h⟩
  ·rcases J8 h with h|⟨k',h1,h2⟩
   ·exact .inl (Xc _ h)
   ·exact .inr ⟨k',Xc _ h1,h2⟩
theorem ui:∀(l:List Oper) (U:List Nat) (acc:List (List Nat)),U.length=acc.length->(∀i j,(U.getD i 0).testBit j=true->j∈acc.getD i [])->∀i j,((wQ l U).getD i 0).testBit j=true->j∈(pX l acc).getD i []
 | [],_,_,_,h,i,j,X=>h i j X
 | o::l,U,acc,Z,h,i,j,X=>by
  refine ui l _ _ (by simp[Z]) (fun Y j' O =>?_) i j X
  by_cases h1:Y<U.length
  ·rw[Wj,Wk h1,<- Wj]at O;rw[Wj,Wk (by omega),<- Wj];exact h Y j' O
  ·by_cases h2:Y=U.length
   ·subst h2;rw[Wj,Wl (VG _),WR]at O;simp only[List.getElem?_cons_zero,Option.getD_some]at O;rw[Z,Wj,Wl (VG _),WR];simp only[List.getElem?_cons_zero,Option.getD_some,WV,W9];rcases J8 O with O|⟨k,hk,O⟩
    ·exact .inl O
    ·exact .inr ⟨k,hk,h k j' O⟩
   ·rw[Wj,Xg (by simp;omega)]at O;simp at O
theorem NQ {i j:Nat} (h:((J4 ops).getD i 0).testBit j=true):j∈(Sg ops).getD i [] :=
 ui ops.toList [] [] rfl (fun i j h=>by simp at h) i j h
def Jt (ops:Array Oper) (F:Nat->gQ):Prop:=∀j i,j<i->i<ops.size->j∈(Sg ops).getD i []∨Jq ops F j i
theorem MT (hT:fb P T) (hΓ:bt P Γ) {F:Nat->gQ} {Q:Exit->Act->World->Prop} {t':Nat->D} {h':Nat->Option Row} (hp:Jt ops F) (ak:∀i o,ops[i]? = some o->∀d∈direct o,d<i)
  (aw:∀(i j:Nat) (oi oj:Oper) (d:Nat),ops[i]? = some oi->ops[j]? = some oj->oi.dst=some d->oj.dst=some d->i=j) (hQ:∀a' w' blk' done,y9 N M L w0 blk' e done t' h' a' w'->Q .normal a' w') :
  ∀(n:Nat) (LL:List Nat) (listed:Array Bool) (t:Nat->D) (h:Nat->Option Row) (a:Act) (w:World) (blk:Nat->Option (Nat×Nat)) (done:List Nat),LL.length=n->(∀i,i∈LL↔listed.getD i true=false)->LL.Pairwise (· < ·)->(∀i∈LL,i<ops.size)->listed.size=ops.size ->
   (∀i o,ops[i]? = some o->listed.getD i false=true->∀d∈direct o,listed.getD d false=true)->(∀d∈done,∃i o,ops[i]? = some o∧o.dst=some d∧listed.getD i false=true) ->
   H2 T Γ N e ops F LL t h t' h'->y9 N M L w0 blk e done t h a w->wpAny P .any ops Q n listed a w:=by
 intro n
 induction n with
 | zero =>
  intro LL listed t h a w blk done hn hL hs hlt ah hdown Y hr hI;have:LL=[]:=WY hn;subst this;obtain⟨rfl,rfl⟩:=hr;refine⟨?_,hQ a w blk done hI⟩;refine List.eq_nil_iff_forall_not_mem.2 fun i hi =>?_;have:=(mem_ready.1 hi).1;exact absurd ((hL i).2 this) (by simp)
 | succ n ih =>
  intro LL listed t h a w blk done hn hL hs hlt ah hdown Y hr hI;refine⟨fun ai =>?_,fun i hi =>?_⟩
  ·cases LL with
   | nil=>simp at hn
   | cons i LL =>
    obtain⟨o,t1,h1,ho,_⟩:=hr;have aa:i∈Region.ready .any ops listed:=by
     refine mem_ready.2 ⟨(hL i).1 (by simp),o,ho,fun ed al hb =>?_⟩;have U:ed.on∈direct o:=VF.2 ⟨ed,Xh.2 ⟨by simpa using al,hb⟩,rfl⟩;have aH:=ak i o ho _ U
     by_cases hm:ed.on∈i::LL
     ·rcases VN.1 hm with hm|hm
      ·omega
      ·have:=(Xi.1 hs).1 _ hm;omega
     ·have h1:¬listed.getD ed.on true=false:=fun hf=>hm ((hL _).2 hf);have h2:ed.on<listed.size:=by rw[ah];have:=hlt i (by simp);omega
      have:listed.getD ed.on true=listed.getD ed.on false:=by simp[Array.getD,h2]
      rw[<- this];simpa using h1
    rw[ai]at aa;simp at aa
  ·obtain⟨an,o,ho,aj⟩:=mem_ready.1 hi;have ao:i∈LL:=(hL i).2 an;obtain⟨pre,post,rfl⟩:=List.append_of_mem ao;have ad:i<listed.size:=by rw[ah];exact hlt i ao
   have X:∀d∈direct o,listed.getD d false=true:=by
    intro d U;obtain⟨ed,al,rfl⟩:=VF.1 U;obtain⟨h1,h2⟩:=Xh.1 al;exact aj ed (by simpa using h1) h2
   have ax:∀j∈pre,Jq ops F j i:=by
    intro j hj;have az:j<i:=by
     have:=List.pairwise_append.1 hs;exact this.2.2 j hj i (by simp)
    rcases hp j i az (hlt i ao) with hc|hc
    ·have aA:listed.getD j false=true:=Qp (S:=fun m=>listed.getD m false=true) hc (fun m om hm aB d U=>hdown m om hm aB d U) (fun o' ae d U=>by
      rw[ho]at ae;cases ae;exact X d U)
     have ay:=(hL j).1 (by simp[hj]);have aC:j<listed.size:=by omega
     have:listed.getD j true=listed.getD j false:=by simp[Array.getD,aC]
     rw[this,aA]at ay;cases ay
    ·exact hc
   obtain⟨o',t1,h1,ae,aq,ar⟩:=front hr ax;rw[ho]at ae;cases ae;unfold wpOp;simp only[ho];refine Ll hT hΓ hI aq (fun d U aD =>?_) (fun a' w' blk' aE =>?_)
   ·obtain⟨k,ok,hk,au,O⟩:=Y d aD;have:=aw i k o ok d ho hk U au;subst this;have:listed.getD i true=listed.getD i false:=by simp[Array.getD,ad]
    rw[this,O]at an;cases an
   ·have ab:∀k,(listed.setIfInBounds i true).getD k false=true↔k=i∨listed.getD k false=true:=by
     intro k
     by_cases Z:k=i
     ·subst Z;simp[ad]
     ·rw[getD_set_ne false (Ne.symm Z)];simp[Z]
    have av:∀k,(listed.setIfInBounds i true).getD k true=false↔k≠i∧listed.getD k true=false:=by
     intro k
     by_cases Z:k=i
     ·subst Z;simp[ad]
     ·rw[getD_set_ne true (Ne.symm Z)];simp[Z]
    have aF:(pre++i::post).Nodup:=hs.imp (fun h=>Nat.ne_of_lt h);refine ih (pre++post) (listed.setIfInBounds i true) t1 h1 a' w' blk' _ (by simp at hn ⊢;omega) (fun k =>?_) ?_ (fun k hk=>hlt k (by simp at hk ⊢;rcases hk with hk|hk<;>simp[hk])) (by simpa using ah) (fun k ok hk O d U =>?_) (fun d U =>?_) ar aE
    ·rw[av];constructor
     ·intro hk;have aG:k∈pre++i::post:=by simp at hk ⊢;rcases hk with hk|hk<;>simp[hk]
      refine⟨fun e =>?_,(hL k).1 aG⟩;subst e;have:=List.nodup_append.1 aF;simp only[Xj]at this;rcases WV.1 hk with hk|hk
      ·exact this.2.2 k hk k (by simp) rfl
      ·exact this.2.1.1 hk
     ·rintro⟨hk,O⟩;have:=(hL k).2 O;simp only[WV,VN]at this ⊢;rcases this with h|h|h
      ·exact .inl h
      ·exact absurd h hk
      ·exact .inr h
    ·refine List.Pairwise.sublist ?_ hs;exact List.Sublist.append_left (List.sublist_cons_self _ _) _
    ·rw[ab];rcases (ab k).1 O with rfl|O
     ·rw[ho]at hk;cases hk;exact .inr (X d U)
     ·exact .inr (hdown k ok hk O d U)
    ·rcases WV.1 U with U|U
     ·exact⟨i,o,ho,by simpa using U,(ab i).2 (.inl rfl)⟩
     ·obtain⟨k,ok,hk,au,O⟩:=Y d U;exact⟨k,ok,hk,au,(ab k).2 (.inr O)⟩
end
def vD (T:Nat->Option Ty) (Γ:Env) (N e:Nat) (ops:Array Oper):List Oper->(Nat->D)->(Nat->Option Row)->Option ((Nat->D)×(Nat->Option Row)×List gQ)
 | [],t,h=>some (t,h,[])
 | o::l,t,h =>
  match step1 T Γ N e ops o t h with
  | some (t1,h1,f) =>
   match vD T Γ N e ops l t1 h1 with
   | some (t2,h2,fs)=>some (t2,h2,f::fs)
   | none=>none
  | none=>none
def Dc:List Nat->Bool
 | []=>true
 | x::l => !l.contains x&&Dc l
def Od (ops:Array Oper):Bool:=Dc (ops.toList.filterMap (·.dst))
def JE (ops:Array Oper) (j i:Nat):Bool :=
 match ops[j]?,ops[i]? with
 | some oj,some oi=>oj.apart ops oi
 | _,_=>true
def Ij (ops:Array Oper):Bool :=
 (ops.toList.zipIdx.all fun p=>(direct p.1).all fun d=>decide (d<p.2)) &&
 ((List.range ops.size).all fun i=>(List.range i).all fun j=>((J4 ops).getD i 0).testBit j||JE ops j i)
def BD (ops:Array Oper):List (Nat×Nat):=(List.range ops.size).flatMap fun i=>((List.range i).filter fun j => !((J4 ops).getD i 0).testBit j).map fun j=>(j,i)
def O9 (fs:List gQ) (p:Nat×Nat):Bool :=
 match fs[p.1]?,fs[p.2]? with
 | some f,some g=>f.q&&g.q||Qs f.tc g.tc
 | _,_=>false
def w9 (ops:Array Oper) (fs:List gQ):Bool:=(BD ops).all (O9 fs)
inductive Ex where
 | normal
 | exit (n:Nat)
 | ret
structure St where
 t:Nat->D
 h:Nat->Option Row
 e:Nat
def iter (f:St->Option (Ex×St)):Nat->St->Option (Ex×St)
 | 0,_=>none
 | n+1,s =>
  match f s with
  | some (.normal,s1)=>iter f n s1
  | r=>r
def qq (T:Nat->Option Ty) (Γ:Env) (N:Nat) (ops:Array Oper) (draw:Bool) (s:St):Option (Ex×St) :=
 match vD T Γ N s.e ops ops.toList s.t s.h with
 | some (t,h,fs)=>if !draw||w9 ops fs then some (.normal,⟨t,h,s.e+1⟩) else none
 | none=>none
def HN (d:D) (x y:Option (Ex×St)):Option (Ex×St) :=
 match d with
 | .bool b=>if b then x else y
 | _=>none
def SU (r:Option (Ex×St)) (k:St->Option (Ex×St)):Option (Ex×St) :=
 match r with
 | some (.normal,s)=>k s
 | r=>r
def Jj (id:Nat) (r:Option (Ex×St)):Option (Ex×St) :=
 match r with
 | some (.exit n,s)=>if n=id then some (.normal,s) else some (.exit n,s)
 | r=>r
def dP (T:Nat->Option Ty) (Γ:Env) (N F:Nat):Code->St->Option (Ex×St)
 | .skip,s=>some (.normal,s)
 | .region _ ops draw,s=>qq T Γ N ops draw s
 | .seq a b,s=>SU (dP T Γ N F a s) (dP T Γ N F b)
 | .cond c x y,s=>HN (ev s.t c) (dP T Γ N F x s) (dP T Γ N F y s)
 | .block id b,s=>Jj id (dP T Γ N F b s)
 | .loop b,s=>iter (dP T Γ N F b) F s
 | .exit id,s=>some (.exit id,s)
 | .ret,s=>some (.ret,s)
 | _,_=>none
def codeOk:Code->Bool
 | .region _ ops draw=>Od ops&&(!draw||Ij ops)
 | .seq a b=>codeOk a&&codeOk b
 | .cond _ x y=>codeOk x&&codeOk y
 | .block _ b=>codeOk b
 | .loop b=>codeOk b
 | _=>true
section
variable {P:Program} {T:Nat->Option Ty} {N:Nat} {M:Nat->Prop} {L:fV} {w0:World} {blk:Nat->Option (Nat×Nat)} {t:Nat->D} {h:Nat->Option Row} {a:Act} {w:World} {e:Nat} {o:Oper} {Γ:Env} {ops:Array Oper}
theorem BA:∀ {l:List Nat},Dc l=true->l.Nodup
 | [],_=>List.nodup_nil
 | x::l,h=>by
  simp only[Dc,Wh,Wi,List.contains_eq_mem,decide_eq_false_iff_not]at h;exact Xj.2 ⟨h.1,BA h.2⟩
theorem zf:∀ {l:List Oper} {done:List Nat},(l.filterMap (·.dst)).Nodup->(∀o∈l,∀d,o.dst=some d->d∉done)->∀o l',l=o::l'->(l'.filterMap (·.dst)).Nodup∧∀o'∈l',∀d,o'.dst=some d->d∉o.dst.toList++done:=by
 intro l done X Y o l' he;subst he;cases Z:o.dst with
 | none =>
  rw[List.filterMap_cons_none Z]at X;exact⟨X,fun o' O d U=>by simpa using Y o' (by simp[O]) d U⟩
 | some x =>
  rw[List.filterMap_cons_some Z]at X;obtain⟨h1,h2⟩:=Xj.1 X;refine⟨h2,fun o' O d U hm =>?_⟩;simp only[Option.toList_some,List.singleton_append,VN]at hm;rcases hm with rfl|hm
  ·exact h1 (List.mem_filterMap.2 ⟨o',O,U⟩)
  ·exact Y o' (by simp[O]) d U hm
theorem yZ (hT:fb P T) (hΓ:bt P Γ) {Q:Exit->Act->World->Prop} : ∀ {l:List Oper} {t U:Nat->D} {h h':Nat->Option Row} {fs:List gQ} {a:Act} {w:World} {blk:Nat->Option (Nat×Nat)} {done:List Nat},
  vD T Γ N e ops l t h=some (U,h',fs)->(l.filterMap (·.dst)).Nodup->(∀o∈l,∀d,o.dst=some d->d∉done)->y9 N M L w0 blk e done t h a w ->
  (∀X w' blk' done,y9 N M L w0 blk' e done U h' X w'->Q .normal X w')->wpList P ops Q l a w
 | [],t,U,h,h',fs,a,w,blk,done,O,_,_,Y,Z=>by
  simp only[vD,VP,Prod.mk.injEq]at O;obtain⟨rfl,rfl,_⟩:=O;exact Z a w blk done Y
 | o::l,t,U,h,h',fs,a,w,blk,done,O,hn,hd,Y,Z=>by
  simp only[vD]at O;split at O
  ·rename_i t1 h1 f hs;split at O
   ·rename_i t2 h2 ah aa;simp only[VP,Prod.mk.injEq]at O;obtain⟨rfl,rfl,_⟩:=O;obtain⟨ab,ad⟩:=zf hn hd o l rfl;have:=Ll (K:=wpList P ops Q l) (Q:=Q) hT hΓ Y hs (hd o (by simp)) (fun X w' blk' ae=>yZ hT hΓ aa ab ad ae Z);unfold wpList;exact this
   ·cases O
  ·cases O
theorem sP {F:Nat->gQ} : ∀ {l:List Oper} {k:Nat} {t U:Nat->D} {h h':Nat->Option Row} {fs:List gQ},vD T Γ N e ops l t h=some (U,h',fs)->(∀j,l[j]? = ops[k+j]?)->(∀j f,fs[j]? = some f->F (k+j)=f) ->
  fs.length=l.length∧H2 T Γ N e ops F (List.range' k l.length) t h U h'
 | [],k,t,U,h,h',fs,O,_,_=>by
  simp only[vD,VP,Prod.mk.injEq]at O;obtain⟨rfl,rfl,rfl⟩:=O;exact⟨rfl,rfl,rfl⟩
 | o::l,k,t,U,h,h',fs,O,Y,Z=>by
  simp only[vD]at O;split at O
  ·rename_i t1 h1 f hs;split at O
   ·rename_i t2 h2 aa X;simp only[VP,Prod.mk.injEq]at O;obtain⟨rfl,rfl,rfl⟩:=O;obtain⟨i1,i2⟩:=sP (k:=k+1) X (fun j=>by have:=Y (j+1);simpa [V1,Nat.add_comm 1 j] using this) (fun j f' hj=>by have:=Z (j+1) f' (by simpa using hj);rwa [show k+(j+1)=k+1+j by omega]at this);refine⟨by simp[i1],o,t1,h1,by have:=Y 0;simpa using this.symm,?_,i2⟩;have:=Z 0 f rfl;rw[Wf]at this;rw[this];exact hs
   ·cases O
  ·cases O
def Holds (N:Nat) (M:Nat->Prop) (L:fV) (w0:World) (s:St) (a:Act) (w:World):Prop:=∃blk,y9 N M L w0 blk s.e [] s.t s.h a w
theorem zD (hT:fb P T) (hΓ:bt P Γ) (hm:P.follows .mixedOrders=true) {id:Nat} {draw:Bool} {s:St} {x:Ex} {s':St} {Q:Exit->Act->World->Prop} (hr:qq T Γ N ops draw s=some (x,s')) (Z:(Od ops&&(!draw||Ij ops))=true)
  (hH:Holds N M L w0 s a w) (hQ:∀a' w',Holds N M L w0 s' a' w'->Q .normal a' w'):x=.normal∧(Code.region id ops draw).wp P Q a w:=by
 unfold qq at hr;split at hr
 ·rename_i t h fs ab;split at hr
  ·rename_i U;simp only[VP,Prod.mk.injEq]at hr;obtain⟨rfl,rfl⟩:=hr;refine⟨rfl,?_⟩;simp only[Wh]at Z;have ao:(ops.toList.filterMap (·.dst)).Nodup:=BA Z.1;obtain⟨blk,hI⟩:=hH;have ad:∀a' w' blk' done,y9 N M L w0 blk' s.e done t h a' w'->Q .normal a' w':=by
    intro a' w' blk' done aq;refine hQ a' w' ⟨blk',aq.inv.weaken fun x v hx =>?_,fun x r ty s nv cs k1 k2 k3 k4 =>?_⟩
    ·rcases hx with⟨X,hx|⟨hx,_⟩⟩|⟨X,h2,h3,h4⟩
     ·exact .inl ⟨X,.inl (by simp only;omega)⟩
     ·exact .inl ⟨X,.inl (by simp only;omega)⟩
     ·exact .inr ⟨X,by simp only;omega,fun _=>by simp only;omega,h4⟩
    ·have:=aq.nv x r ty s nv cs k1 k2 k3 k4;exact⟨by simp only;omega,fun _=>by simp only;omega⟩
   cases draw with
   | false =>
    apply wp_region_list;exact yZ hT hΓ ab ao (done:=[]) (fun o _ d _=>by simp) hI ad
   | true =>
    simp only[W7,Bool.false_or]at U Z;apply wp_region_any hm;have ai:=Z.2;simp only[Ij,Wh]at ai
    let F:Nat->gQ:=fun i=>fs.getD i ⟨[],true⟩
    obtain⟨hlen,ae⟩:=sP (F:=F) (k:=0) ab (fun j=>by simp) (fun j f hj=>by simp[F,List.getD,hj]);have aj:∀i o,ops[i]? = some o->∀d∈direct o,d<i:=by
     intro i o ho d hd;have h1:=ai.1;rw[VR]at h1;have Y:(o,i)∈ops.toList.zipIdx:=by
      rw[List.mem_zipIdx_iff_getElem?];simpa using ho
     have:=h1 _ Y;rw[VR]at this;simpa using this d hd
    have ar:∀(i j:Nat) (oi oj:Oper) (d:Nat),ops[i]? = some oi->ops[j]? = some oj->oi.dst=some d->oj.dst=some d->i=j:=by
     have key:∀(l:List Oper),(l.filterMap (·.dst)).Nodup->∀(i j:Nat) (oi oj:Oper) (d:Nat),l[i]? = some oi->l[j]? = some oj->oi.dst=some d->oj.dst=some d->i=j:=by
      intro l
      induction l with
      | nil=>intro _ i j oi oj d O;simp at O
      | cons o l ih =>
       intro X i j oi oj d O hj ak al;have ay:(l.filterMap (·.dst)).Nodup:=by
        cases ho:o.dst with
        | none=>rw[List.filterMap_cons_none ho]at X;exact X
        | some x=>rw[List.filterMap_cons_some ho]at X;exact (Xj.1 X).2
       have ah:∀(k:Nat) (ok:Oper),l[k]? = some ok->o.dst=some d->ok.dst=some d->False:=by
        intro k ok hk ho az;rw[List.filterMap_cons_some ho]at X;exact (Xj.1 X).1 (List.mem_filterMap.2 ⟨ok,V8 hk,az⟩)
       cases i with
       | zero =>
        simp only[List.getElem?_cons_zero,VP]at O;subst O;cases j with
        | zero=>rfl
        | succ j=>exact (ah j oj (by simpa using hj) ak al).elim
       | succ i =>
        cases j with
        | zero =>
         simp only[List.getElem?_cons_zero,VP]at hj;subst hj;exact (ah i oi (by simpa using O) al ak).elim
        | succ j=>rw[ih ay i j oi oj d (by simpa using O) (by simpa using hj) ak al]
     intro i j oi oj d O hj;exact key ops.toList ao i j oi oj d (by simpa using O) (by simpa using hj)
    have aa:Jt ops F:=by
     intro j i au O
     by_cases hc:((J4 ops).getD i 0).testBit j=true
     ·exact .inl (NQ hc)
     ·refine .inr ⟨fun oj oi aA aB =>?_,?_⟩
      ·have h2:=ai.2;rw[VR]at h2;have:=h2 i (Xl.2 O);rw[VR]at this;have:=this j (Xl.2 au);simp only[Xf]at this;rcases this with h'|h'
       ·exact absurd h' hc
       ·simpa [JE,aA,aB] using h'
      ·rw[w9,VR]at U;have Y:(j,i)∈BD ops:=by
        refine W9.2 ⟨i,Xl.2 O,VF.2 ⟨j,Xh.2 ⟨Xl.2 au,?_⟩,rfl⟩⟩;simpa using hc
       have:=U _ Y;have av:i<fs.length:=by rw[hlen];simpa using O
       have aw:j<fs.length:=by omega
       simp only[O9,VT aw,VT av]at this;simp only[F,Wj,VT aw,VT av,Option.getD_some];exact this
    rw[Wm,<- List.range_eq_range']at ae;have ax:∀i,(Array.replicate ops.size false).getD i false=false:=by
     intro i
     by_cases O:i<ops.size
     ·simp[Array.getD,O]
     ·simp[Array.getD,O]
    have an:∀i,(Array.replicate ops.size false).getD i true=false↔i<ops.size:=by
     intro i
     by_cases O:i<ops.size
     ·simp[Array.getD,O]
     ·simp[Array.getD,O]
    exact MT hT hΓ aa aj ar ad ops.size (List.range ops.size) (Array.replicate ops.size false) s.t s.h a _ blk [] (by simp) (fun i=>by rw[an];exact Xl) List.pairwise_lt_range (fun i O=>Xl.1 O) (by simp)
     (fun i o _ hl=>by rw[ax]at hl;cases hl) (fun d hd=>by simp at hd) ae ⟨hI.inv.drew,hI.nv⟩
  ·cases hr
 ·cases hr
def CX:Ex->Exit
 | .normal =>.normal
 | .exit n =>.exit n
 | .ret =>.ret
theorem gz (hT:fb P T) (hΓ:bt P Γ) (hm:P.follows .mixedOrders=true) {F:Nat} : ∀(c:Code) (s:St) (x:Ex) (Z:St) (Q:Exit->Act->World->Prop) (a:Act) (w:World),dP T Γ N F c s=some (x,Z)->codeOk c=true->Holds N M L w0 s a w ->
  (∀a' w',Holds N M L w0 Z a' w'->Q (CX x) a' w')->c.wp P Q a w:=by
 intro c
 induction c with
 | skip =>
  intro s x Z Q a w O _ hH Y;simp only[dP,VP,Prod.mk.injEq]at O;obtain⟨rfl,rfl⟩:=O;exact wp_skip (Y a w hH)
 | region id ops draw =>
  intro s x Z Q a w O U hH Y;simp only[dP]at O;have hx:x=.normal:=by
   unfold qq at O;split at O
   ·split at O
    ·simp only[VP,Prod.mk.injEq]at O;exact O.1.symm
    ·cases O
   ·cases O
  subst hx;exact (zD hT hΓ hm O U hH Y).2
 | seq b c aa ihc =>
  intro s x Z Q a w O U hH Y;simp only[codeOk,Wh]at U;simp only[dP,SU]at O;apply wp_seq;split at O
  ·rename_i s1 h1;exact aa s .normal s1 _ a w h1 U.1 hH (fun a' w' X=>ihc s1 x Z Q a' w' O U.2 X Y)
  ·rename_i r hne;refine aa s x Z _ a w O U.1 hH (fun a' w' X =>?_);cases x with
   | normal=>exact absurd O (fun h=>hne Z h)
   | exit n=>exact Y a' w' X
   | ret=>exact Y a' w' X
 | cond c b d aa ad =>
  intro s x Z Q a w O U hH Y;simp only[codeOk,Wh]at U;simp only[dP]at O;unfold HN at O;split at O
  ·rename_i bb hb;obtain⟨blk,hI⟩:=hH;have hv:=hI.inv.ev c;rw[hb]at hv;refine wp_cond (t:=bb) (pR hv) ?_;cases bb with
   | true=>exact aa s x Z Q a w O U.1 ⟨blk,hI⟩ Y
   | false=>exact ad s x Z Q a w O U.2 ⟨blk,hI⟩ Y
  ·cases O
 | block id b ih =>
  intro s x Z Q a w O U hH Y;simp only[dP]at O;apply wp_block;unfold Jj at O;split at O
  ·rename_i n s1 h1;refine ih s (.exit n) s1 _ a w h1 U hH (fun a' w' X =>?_);split at O
   ·rename_i hn;simp only[VP,Prod.mk.injEq]at O;obtain⟨rfl,rfl⟩:=O;simp only[CX,Exit.inBlock,hn,if_true];exact Y a' w' X
   ·rename_i hn;simp only[VP,Prod.mk.injEq]at O;obtain⟨rfl,rfl⟩:=O;simp only[CX,Exit.inBlock,hn,if_false];exact Y a' w' X
  ·rename_i r hne;refine ih s x Z _ a w O U hH (fun a' w' X =>?_);cases x with
   | normal=>exact Y a' w' X
   | exit n=>exact absurd O (fun h=>hne n Z h)
   | ret=>exact Y a' w' X
 | loop b ih =>
  intro s x Z Q a w O U hH Y;simp only[dP]at O;refine wp_loop_ghost (fun n a w=>∃s,Holds N M L w0 s a w∧iter (dP T Γ N F b) n s=some (x,Z)) F ⟨s,hH,O⟩ ?_;intro n a w ⟨s1,ab,h1⟩;cases n with
  | zero=>simp[iter]at h1
  | succ n =>
   simp only[iter]at h1;split at h1
   ·rename_i s2 h2;exact ih s1 .normal s2 _ a w h2 U ab (fun a' w' X=>⟨n,by omega,s2,X,h1⟩)
   ·rename_i r hne;refine ih s1 x Z _ a w h1 U ab (fun a' w' X =>?_);cases x with
    | normal=>exact absurd h1 (fun h=>hne Z h)
    | exit n=>exact Y a' w' X
    | ret=>exact Y a' w' X
 | exit id =>
  intro s x Z Q a w O _ hH Y;simp only[dP,VP,Prod.mk.injEq]at O;obtain⟨rfl,rfl⟩:=O;exact wp_exit (Y a w hH)
 | ret =>
  intro s x Z Q a w O _ hH Y;simp only[dP,VP,Prod.mk.injEq]at O;obtain⟨rfl,rfl⟩:=O;exact wp_ret (Y a w hH)
 | _=>intro s x Z Q a w O;simp[dP]at O
end
def G3 (T:Nat->Option Ty) (s:St):ResultVar->Option (D×List Nat)
 | .tmp i=>aV s.h (s.t i)
 | .cell i ty =>
  match T ty,s.t i with
  | some τ,.ptr x v o=>match ch τ s.h (.ptr x v o) with|some E=>some (dT E.val,[])|none=>none
  | _,_=>none
def nM (T:Nat->Option Ty) (s:St):List ResultVar->Option (List D×List Nat)
 | []=>some ([],[])
 | r::rs =>
  match G3 T s r with
  | some (d,fr)=>match nM T s rs with
   | some (ds,O)=>some (d::ds,fr++O)
   | none=>none
  | none=>none
def iD:List D->D
 | [d]=>d
 | ds =>.tup ds
inductive Mode where
 | clean|same|tight
 | fresh (ty s:Nat)
def a8:Option (D×Row)->List D->St
 | none,args=>⟨fun i=>args.getD i .und,fun _=>none,0⟩
 | some (d0,r),args=>⟨fun i=>(d0::args).getD i .und,fun x=>if x=0 then some { r with v:=0 } else none,1⟩
def gG:Option (D×Row)->St->Option (Option Row)
 | none,_=>some none
 | some (_,r),s =>
  match s.h 0 with
  | some O=>if O.v=0∧O.fz=false∧O.ty=r.ty∧(O.mp=r.mp∧mL O=true) then some (some O) else none
  | none=>none
def O0:Option (D×Row)->List Nat->Bool
 | none,_=>true
 | some _,fr => !fr.contains 0
def lk (T:Nat->Option Ty) (lent:Option (D×Row)) (rs:List ResultVar) (s:St):Option (RK×Option Row) :=
 match nM T s rs,gG lent s with
 | some (ds,fr),some o=>if O0 lent fr then some (.clean (iD ds),o) else none
 | _,_=>none
def vN (lent:Option (D×Row)) (rs:List ResultVar) (s:St):Option (RK×Option Row) :=
 match rs with
 | [.tmp i] =>
  match s.t i,gG lent s with
  | .buf 0 0 O o n,some (some r)=>some (.same O o n,some r)
  | _,_=>none
 | _=>none
def p7:D->Option (RK×Option Row)
 | .sl nl O n xs=>some (.clean (.sl nl O n xs),none)
 | _=>none
def xo (lent:Option (D×Row)) (rs:List ResultVar) (s:St):Option (RK×Option Row) :=
 match lent,rs with
 | none,[.tmp i]=>p7 (s.t i)
 | _,_=>none
def p6 (ty s o n:Nat):Option Row->Option (RK×Option Row)
 | some r=>if r.fz=false∧r.ty=ty∧o+n*s<=r.cells.length then some (.fresh ty s n ((r.cells.drop o).take (n*s)),none) else none
 | none=>none
def jB (ty s:Nat) (h:Nat->Option Row):D->Option (RK×Option Row)
 | .buf x v O o n=>if O=s then p6 ty s o n (live h x v) else none
 | .sl _ U 0 _=>if U=true then some (.fresh ty s 0 [],none) else none
 | _=>none
def mH (ty s:Nat) (rs:List ResultVar) (st:St):Option (RK×Option Row) :=
 match rs with
 | [.tmp i]=>jB ty s st.h (st.t i)
 | _=>none
def fp (mode:Mode) (T:Nat->Option Ty) (lent:Option (D×Row)) (rs:List ResultVar) (s:St):Option (RK×Option Row) :=
 match mode with
 | .clean=>lk T lent rs s
 | .same=>vN lent rs s
 | .tight=>xo lent rs s
 | .fresh ty O=>mH ty O rs s
def iQ (mode:Mode) (T:Nat->Option Ty) (Γ:Env) (F:Nat) (fn:Func) (lent:Option (D×Row)) (args:List D):Option (RK×Option Row) :=
 match fn.body with
 | some c =>
  if fn.ntmps<=PK then
   match dP T Γ fn.ntmps F c (a8 lent args) with
   | some (.exit _,_)=>none
   | some (_,s)=>fp mode T lent fn.results.toList ⟨s.t,EH s.h,s.e⟩
   | none=>none
  else none
 | none=>none
def yh:Option (D×Row)->Bool
 | none=>true
 | some (.buf 0 0 _ _ _,_)=>true
 | some (.ptr 0 0 _,_)=>true
 | some (.mp 0 0,_)=>true
 | _=>false
def xY:Option (D×Row)->List D->Nat
 | none,VA=>VA.length
 | some _,VA=>VA.length+1
section
variable {P:Program} {T:Nat->Option Ty} {N:Nat} {M:Nat->Prop} {L:fV} {w0:World} {blk:Nat->Option (Nat×Nat)} {a:Act} {w:World} {Γ:Env}
theorem Inv.RB {V:Nat->Nat->Prop} {t:Nat->D} {h:Nat->Option Row} (U:Inv N M L w0 blk V t h a w) (fr:List Nat):ki M h blk fr M where
 le b O := .inl O
 no x Z r g X Y O:=U.notM X Y O
def tQ (O:Array Value):ResultVar->Sem Value
 | .tmp t=>pure (O.getD t undef)
 | .cell b t=>do loadVar t (<- asAddr (O.getD b undef))
theorem yA (fn:Func) (O:Array Value):results fn O=(do
  let vs <- fn.results.mapM (tQ O)
  pure (if h:vs.size=1 then vs[0] else .tuple vs)):=by
 unfold results;congr 1
theorem Mz (hT:fb P T) {M':Nat->Prop} {ty:Nat} {τ:Ty} {g c:Nat} {xs:List D} {d:D} (hτ:T ty=some τ) (Y:At w M' g c xs) (hl:xs.length=τ.size) (U:gP τ xs=some d) :
  ∃u,(loadVar ty ⟨g,c,none⟩).run P w=.ok u w∧RP w M' d u:=by
 obtain⟨us,h1,h2,h3,h4⟩:=Y.T9;have O:τ.ds.ko=false->xs.length=1∧xs=[d]:=by
  intro Z;simp only[gP,Z,Wg,if_false]at U;split at U
  ·simp only[VP]at U;subst U;exact⟨rfl,rfl⟩
  ·cases U
 have X:=gL (hT ty τ hτ) w g c us (by rw[h1,hl]) h2 (fun Z=>by rw[h1];exact (O Z).1);refine⟨_,X,?_⟩;cases ha:τ.ds.ko with
 | true =>
  simp only[gP,ha,if_true,VP]at U;subst U;exact .agg xs us h1 h3 h4
 | false =>
  obtain⟨_,rfl⟩:=O ha;exact h3 0 d rfl
theorem Ph (hT:fb P T) {M':Nat->Prop} {V:Nat->Nat->Prop} {s:St} (Y:Inv N M L w0 blk V s.t s.h a w) {r:ResultVar} {d:D} {fr:List Nat} (h1:G3 T s r=some (d,fr)) (hl:ki M s.h blk fr M'):∃u,(tQ a.tmps r).run P w=.ok u w∧RP w M' d u:=by
 cases r with
 | tmp i =>
  simp only[G3]at h1;exact⟨a.tmps.getD i undef,rfl,Y.aV h1 hl (Y.slots i)⟩
 | cell i ty =>
  simp only[G3]at h1;split at h1
  ·rename_i τ x v o hτ hp;split at h1
   ·rename_i E O;simp only[VP,Prod.mk.injEq]at h1;obtain⟨rfl,_⟩:=h1;have U:=Y.slots i;rw[hp]at U;simp only[ch]at O;split at O
    ·rename_i rr X;obtain⟨hx,hv⟩:=bg X;split at O
     ·rename_i hle;split at O
      ·rename_i d' Z;simp only[VP]at O;subst O;obtain⟨g,hg,aa⟩:=U.2 rr hx hv;have ab:=((Y.rowAt hx hg (eG X)).drop o).take τ.size;obtain⟨u,ad,ae⟩:=Mz hT hτ ab (by simp;omega) Z;refine⟨u,?_,(ae.less fun b hb=>hl.le b hb).dT⟩;simp only[tQ,aa,asAddr,Wd,Sem.run_pure,Result.andThen_ok,ad]
      ·cases O
     ·cases O
    ·cases O
   ·cases h1
  ·cases h1
theorem Hh (hT:fb P T) {M':Nat->Prop} {V:Nat->Nat->Prop} {s:St} (hI:Inv N M L w0 blk V s.t s.h a w):∀(rs:List ResultVar) (ds:List D) (fr:List Nat),nM T s rs=some (ds,fr)->ki M s.h blk fr M' ->
  ∃us:List Value,(rs.mapM (tQ a.tmps)).run P w=.ok us w∧us.length=ds.length∧∀j d,ds[j]? = some d->RP w M' d (us.getD j undef)
 | [],ds,fr,h,_=>by
  simp only[nM,VP,Prod.mk.injEq]at h;obtain⟨rfl,_⟩:=h;exact⟨[],by simp,rfl,fun j d O=>by simp at O⟩
 | r::rs,ds,fr,h,hl=>by
  simp only[nM]at h;split at h
  ·rename_i d aa h1;split at h
   ·rename_i U X h2;simp only[VP,Prod.mk.injEq]at h;obtain⟨rfl,rfl⟩:=h;obtain⟨us,i1,i2,i3⟩:=Hh hT hI rs U X h2 hl.right;obtain⟨u,Y,Z⟩:=Ph (P:=P) hT hI h1 hl.left;refine⟨u::us,?_,by simp[i2],fun j d O =>?_⟩
    ·simp only[List.mapM_cons,Wd,Y,Result.andThen_ok,i1,Sem.run_pure]
    ·cases j with
     | zero=>simp only[List.getElem?_cons_zero,VP]at O;subst O;simpa using Z
     | succ j=>simpa using i3 j d (by simpa using O)
   ·cases h
  ·cases h
theorem l9 (O:fb P T) {M':Nat->Prop} {V:Nat->Nat->Prop} {s:St} (U:Inv N M L w0 blk V s.t s.h a w) {fn:Func} {ds:List D} {fr:List Nat} (h:nM T s fn.results.toList=some (ds,fr)) (X:ki M s.h blk fr M') :
  ∃v,(results fn a.tmps).run P w=.ok v w∧RP w M' (iD ds) v:=by
 obtain⟨us,i1,i2,i3⟩:=Hh (P:=P) O U _ ds fr h X;have hm:(fn.results.mapM (tQ a.tmps)).run P w=.ok us.toArray w:=by
  rw[Wx,Sem.run_map,i1];rfl
 rw[yA];simp only[Wd,hm,Result.andThen_ok,Sem.run_pure];refine⟨_,rfl,?_⟩
 match us,ds,i2,i3 with
 | [u],[d],_,i3=>simpa [iD] using i3 0 d rfl
 | [],[],_,_=>exact .tup [] [] rfl (fun j x Y=>by simp at Y)
 | Z::u2::us,d1::d2::ds,i2,i3 =>
  have:¬(Z::u2::us).toArray.size=1:=by simp
  rw[dif_neg this];exact .tup _ _ (by simpa using i2) i3
theorem j4 {fn:Func} {O:Array Value} {i:Nat} (h:fn.results.toList=[.tmp i]):(results fn O).run P w=.ok (O.getD i undef) w:=by
 have he:fn.results = #[.tmp i]:=by rw[<- h]
 rw[yA,he];simp[tQ]
theorem Inv.mH {V:Nat->Nat->Prop} {s:St} {aa s0:Nat} (hI:Inv N M L w0 blk V s.t s.h a w) {fn:Func} {rk:RK} {out:Option Row} (he:Am.mH aa s0 fn.results.toList s=some (rk,out)) :
  out=none∧∃v ty sz n cells,rk=.fresh ty sz n cells∧(results fn a.tmps).run P w=.ok v w∧qV w0 w M (LB L) v rk:=by
 unfold Am.mH at he;split at he
 ·rename_i i X;have O:=hI.slots i;unfold jB at he;split at he
  ·rename_i x v sz o n ht;rw[ht]at O;split at he
   ·rename_i ab;subst ab;unfold p6 at he;split at he
    ·rename_i r Y;split at he
     ·rename_i U;obtain⟨hz,ad,hle⟩:=U;simp only[VP,Prod.mk.injEq]at he;obtain⟨rfl,rfl⟩:=he;refine⟨rfl,a.tmps.getD i undef,_,_,_,_,rfl,j4 X,?_⟩;obtain⟨hx,hv⟩:=bg Y;have ae:((r.cells.drop o).take (n*sz)).length=n*sz:=by simp;omega
      rcases hI.rS Y O with⟨g,o',c,cs,g0,g1,g2,g3,g4,g5,g7,g8⟩|⟨g0,rfl,g2,A,g3⟩
      ·by_cases hc:0<c∨o=0
       ·obtain⟨k1,k2⟩:=g5 hc;subst k1;refine .inl ⟨(g.1,g.2+o),c,cs,g1,(show w0.heap.size<=g.1∨LB L g.1 from hI.base hx g0),by rw[<- ad];exact g4,g2,g3,k2,by rw[ae];simp only;omega,fun j d Z =>?_⟩;rw[bx]at Z;split at Z
        ·rw[V1];refine⟨(g8 _ _ Z).1,(g8 _ _ Z).2.less fun b hb =>?_⟩;rcases hb with hb|rfl
         ·exact .inl hb
         ·exact .inr ⟨x,r,g,hx,hz,g0,rfl⟩
        ·cases Z
       ·have hn:n=0:=by omega
        have ah:c=0:=by omega
        subst hn ah;exact .inr ⟨rfl,by simp,_,g1⟩
      ·exact .inr ⟨rfl,by simp,A,g3⟩
     ·cases he
    ·cases he
   ·cases he
  ·rename_i nl tg xs ht;rw[ht]at O;split at he
   ·rename_i ai;simp only[VP,Prod.mk.injEq]at he;obtain⟨rfl,rfl⟩:=he;refine⟨rfl,a.tmps.getD i undef,_,_,_,_,rfl,j4 X,.inr ⟨rfl,rfl,?_⟩⟩;have hr:RP w (Own M s.h blk) (.sl nl tg 0 xs) (a.tmps.getD i undef):=O;generalize a.tmps.getD i undef=u at *;cases hr with
    | sl A c nl tight n xs us h1 h2 h3 h4 h5 h6 h7 h8 =>
     have hc:c=0:=by
      exact h5 ai
     subst hc;exact⟨A,rfl⟩
   ·cases he
  ·cases he
 ·cases he
theorem pD {args:List D} {vs:Array Value} {n i:Nat} (hs:vs.size=args.length):(vs++Array.replicate (n-vs.size) undef).getD i undef=vs.getD i undef∨args.getD i .und=.und:=by
 by_cases O:i<args.length
 ·left;have:i<vs.size:=by omega
  simp[VL,Array.getElem?_append_left this]
 ·right;simp[List.getD,Xg (Xm O)]
theorem LN {h:Nat->Option Row} (X:∀k r,h k=some r->k<2*PK∧mL r=true):EH h=h:=by
 funext k
 by_cases hk:k<2*PK
 ·rw[mz hk];cases O:h k with
  | none=>rfl
  | some r =>
   simp only[Option.map_some,vG];split
   ·rename_i hm;obtain⟨ks,vs,U⟩:=sD (X k r O).2 hm;cases r;simp only at U;subst U;rfl
   ·rfl
 ·have h1:h k=none:=by
   cases O:h k with
   | none=>rfl
   | some r=>exact absurd (X k r O).1 hk
  rw[h1];unfold EH;rw[if_neg hk];cases O:h (k % PK) with
  | none=>rfl
  | some r =>
   simp only[Option.bind_some,lY];split
   ·rename_i hm;obtain⟨ks,vs,U⟩:=sD (X _ r O).2 hm;rw[U];rfl
   ·rfl
theorem vT {h:Nat->Option Row} (U:∀k r,h k=some r->k<2*PK∧r.mp=false):EH h=h:=by
 funext k
 by_cases hk:k<2*PK
 ·rw[mz hk];cases O:h k with
  | none=>rfl
  | some r =>
   simp only[Option.map_some,vG,(U k r O).2];rfl
 ·have h1:h k=none:=by
   cases O:h k with
   | none=>rfl
   | some r=>exact absurd (U k r O).1 hk
  rw[h1];unfold EH;rw[if_neg hk];cases O:h (k % PK) with
  | none=>rfl
  | some r =>
   simp only[Option.bind_some,lY,(U _ r O).2];rfl
theorem gA (hT:fb P T) (hΓ:bt P Γ) (hm:P.follows .mixedOrders=true) {mode:Mode} {f:FuncId} {fn:Func} {F:Nat} {lent:Option (D×Row)} {args:List D} {rk:RK} {out:Option Row} (hf:P.funcs[f]? = some fn)
  (aq:(match fn.body with|some c=>codeOk c|none=>true)=true) (hn:xY lent args<=fn.ntmps) (ae:yh lent=true)
  (O:iQ mode T Γ F fn lent args=some (rk,out)):mc P f lent args rk out:=by
 unfold iQ at O;split at O<;>try (cases O;done)
 rename_i c hc;rw[hc]at aq;simp only at aq;split at O<;>try (cases O;done)
 rename_i av;split at O<;>try (cases O;done)
 rename_i x s aC hv;cases lent with
 | none =>
  intro w M vs hM X;have hI:Inv fn.ntmps M none w (fun _=>none) (fun x v=>x<fn.ntmps∧v<0) (a8 none args).t (a8 none args).h { tmps:=vs++Array.replicate (fn.ntmps-vs.size) undef,defers:=[] } w:={
   tab:=fun b U=>(X.tab b U).less fun b U=>by
    rcases U with U|⟨x,r,g,Y,_⟩
    ·exact U
    ·cases Y
   below:=cC.refl _ _
   mlt:=hM
   lent:=fun b U=>absurd U lT
   pin:=fun go hg=>by cases hg
   defers:=rfl
   tsz:=by have:=X.1;simp only[xY]at hn;simp;omega
   slots:=fun i=>by
    simp only[a8];rcases pD (n:=fn.ntmps) (i:=i) X.1 with he|he
    ·rw[he]
     by_cases hi:i<args.length
     ·have h1:=X.2 i _ (VT hi);have e1:args.getD i .und=args[i]:=by simp[List.getD,hi]
      rw[e1];exact aS (h1.less fun b U=>by
       rcases U with U|⟨x,r,g,Y,_⟩
       ·exact U
       ·cases Y)
     ·have e1:args.getD i .und=.und:=by simp[List.getD,Xg (Xm hi)]
      rw[e1];trivial
    ·rw[he];trivial
   rows:=fun x r Y=>by cases Y
   inj:=fun x y r s g g' Y=>by cases Y
   big:=av
   pha:=fun y r g hy=>by cases hy
   ali:=fun y r g hy=>by cases hy }
  apply calls_of_wp hf hc;refine gz hT hΓ hm c (a8 none args) x s _ _ _ hv aq ⟨_,⟨(by rw[vT (fun k r hk=>by cases hk)];exact hI.weaken fun x v Y=>absurd Y.2 (Nat.not_lt_zero _)),fun x r ty s nv cs Y=>by cases Y⟩⟩ (fun a' w' hH =>?_);obtain⟨blk',aw⟩:=hH;obtain⟨sE,ak⟩:∃sE:St,sE=⟨s.t,EH s.h,s.e⟩:=⟨_,rfl⟩;have hI':Inv fn.ntmps M none w blk' (VE fn.ntmps s.e [] s.h) sE.t sE.h a' w':=by rw[ak];exact aw.inv
  rw[<- ak]at O;have aa:Below w.heap.size w w':=hI'.below.below (fun b U=>absurd U lT);have ab:a'.defers=[]∧∃v,(results fn a'.tmps).run P w'=.ok v w'∧(∃v',Ending.returned v=.returned v'∧Below w.heap.size w w'∧qV w w' M (fun _=>False) v' rk):=by
   refine⟨hI'.defers,?_⟩;cases mode with
   | clean =>
    simp only[fp,lk,gG]at O;split at O<;>try (cases O;done)
    rename_i ds fr o al ho;split at O<;>try (cases O;done)
    simp only[VP,Prod.mk.injEq]at O;obtain⟨rfl,_⟩:=O;obtain⟨v,ah,ad⟩:=l9 (P:=P) hT hI' al (hI'.RB fr);exact⟨v,ah,v,rfl,aa,ad⟩
   | same =>
    simp only[fp,vN,gG]at O;split at O<;>try (cases O;done)
    split at O
    ·rename_i hq;cases hq
    ·cases O
   | tight =>
    simp only[fp,xo]at O;split at O<;>try (cases O;done)
    rename_i i _ ax;have ar:=hI'.slots i;generalize sE.t i=dd at *;unfold p7 at O;split at O<;>try (cases O;done)
    rename_i nl tg n xs;simp only[VP,Prod.mk.injEq]at O;obtain⟨rfl,_⟩:=O;have aD:RP w' (Own M sE.h blk') (.sl nl tg n xs) (a'.tmps.getD i undef):=ar;exact⟨a'.tmps.getD i undef,j4 ax,_,rfl,aa,aD.less fun b U =>.inl U⟩
   | fresh aI s0 =>
    obtain⟨rfl,v,ty,sz,n,cells,rfl,ah,ad⟩:=hI'.mH (P:=P) O;refine⟨v,ah,v,rfl,aa,?_⟩;rcases ad with⟨g,k1,cs,k2,k3,k4⟩|ad
    ·exact .inl ⟨g,k1,cs,k2,k3.imp id (fun U=>absurd U lT),k4⟩
    ·exact .inr ad
  cases x with
  | normal=>exact ab
  | ret=>exact ab
  | exit n=>exact (aC n rfl).elim
 | some p =>
  obtain⟨d0,r⟩:=p;intro w M go u0 vs hM hgoM hz ay hrow az X;have an:∀b,Own M (a8 (some (d0,r)) args).h (fun x=>if x=0 then go else none) b↔(M b∨ou go b):=by
   intro b;constructor
   ·rintro (U|⟨x,r',g,Y,_,hg,he⟩)
    ·exact .inl U
    ·simp only[a8]at Y;split at Y
     ·rename_i h0;subst h0;simp only[if_true]at hg;exact .inr ⟨g,hg,he.symm⟩
     ·cases Y
   ·rintro (U|⟨g,hg,he⟩)
    ·exact .inl U
    ·exact .inr ⟨0,{ r with v:=0 },g,rfl,hz,by simpa using hg,he.symm⟩
  have hI:Inv fn.ntmps M (C9 go) w (fun x=>if x=0 then go else none) (fun x v=>x<fn.ntmps∧v<1) (a8 (some (d0,r)) args).t (a8 (some (d0,r)) args).h { tmps:=(#[u0]++vs)++Array.replicate (fn.ntmps-(#[u0]++vs).size) undef,defers:=[] } w:={
   tab:=fun b U=>(X.tab b U).less fun b U=>(an b).1 U
   below:=cC.refl _ _
   mlt:=hM
   lent:=fun b U=>hgoM b (Cx.1 U)
   pin:=fun go' hg=>by
    cases hg;exact⟨⟨by simp only[xY]at hn;omega,Xn⟩,fun r' _ _=>⟨rfl,fun g _=>rfl⟩⟩
   defers:=rfl
   tsz:=by have:=X.1;simp only[xY]at hn;simp;omega
   slots:=fun i=>by
    simp only[a8];rcases pD (args:=d0::args) (vs:=#[u0]++vs) (n:=fn.ntmps) (i:=i) (by simp[X.1];omega) with he|he
    ·rw[he];cases i with
     | zero =>
      have e1:(#[u0]++vs).getD 0 undef=u0:=by simp[Array.getElem?_append]
      rw[e1];simp only[WK];cases d0 with
      | buf x v sz o n =>
       have ao:x=0∧v=0:=by
        simp only[yh]at ae;split at ae<;>simp_all
       obtain⟨rfl,rfl⟩:=ao;exact⟨⟨by simp only[xY]at hn;omega,Xn⟩,fun r' h1 h2=>by simpa using az.2 ⟨0,0,[],false,false,false⟩ rfl rfl⟩
      | ptr x v o =>
       have ao:x=0∧v=0:=by
        simp only[yh]at ae;split at ae<;>simp_all
       obtain⟨rfl,rfl⟩:=ao;exact⟨⟨by simp only[xY]at hn;omega,Xn⟩,fun r' h1 h2=>by simpa using az.2 ⟨0,0,[],false,false,false⟩ rfl rfl⟩
      | mp x v =>
       have ao:x=0∧v=0:=by
        simp only[yh]at ae;split at ae<;>simp_all
       obtain⟨rfl,rfl⟩:=ao;exact⟨⟨by simp only[xY]at hn;omega,Xn⟩,fun r' h1 h2=>by simpa using az.2 ⟨0,0,[],false,false,false⟩ rfl rfl⟩
      | _=>simp[yh]at ae
     | succ i =>
      have e1:(#[u0]++vs).getD (i+1) undef=vs.getD i undef:=by
       simp only[VL];rw[Array.getElem?_append_right (by simp)];simp
      rw[e1];simp only[List.getD_cons_succ]
      by_cases hi:i<args.length
      ·have h1:=X.2 i _ (VT hi);have e1:args.getD i .und=args[i]:=by simp[List.getD,hi]
       rw[e1];exact aS (h1.less fun b U=>(an b).1 U)
      ·have e1:args.getD i .und=.und:=by simp[List.getD,Xg (Xm hi)]
       rw[e1];trivial
    ·rw[he];trivial
   rows:=fun x r' Y=>by
    simp only[a8]at Y;split at Y
    ·rename_i h0;subst h0;simp only[VP]at Y;subst Y;refine⟨fun hn=>⟨hn,Xn⟩,?_⟩;simp only[if_true];cases go with
     | none=>exact hrow
     | some g =>
      exact⟨.inr (Cx.2 ⟨g,rfl,rfl⟩),cr.keep (r':={ r with v:=0 }) hrow rfl rfl rfl rfl (fun b h1 h2=>⟨h1,fun U=>h2 ((an b).1 U),rfl⟩)⟩
    ·cases Y
   inj:=fun x y Z r2 g g' Y hy _ _ _=>by
    simp only[a8]at Y hy;split at Y
    ·split at hy
     ·omega
     ·cases hy
    ·cases Y
   big:=av
   pha:=fun y Z g hy hm _ j x s n hj=>by
    simp only[a8]at hy;split at hy
    ·simp only[VP]at hy;subst hy;obtain⟨ks,aJ,hc⟩:=sD ay hm;rw[show ({ r with v:=0 } : Row).cells=r.cells from rfl,hc]at hj;cases j<;>simp at hj
    ·cases hy
   ali:=fun y Z g hy aM=>by
    simp only[a8]at hy;split at hy
    ·simp only[VP]at hy;subst hy;simp_all
    ·cases hy }
  have au:EH (a8 (some (d0,r)) args).h=(a8 (some (d0,r)) args).h:=by
   refine LN fun k r' hk =>?_;simp only[a8]at hk;split at hk
   ·rename_i h0;subst h0;simp only[VP]at hk;subst hk;exact⟨(by have:=b7;omega),by simpa [mL] using ay⟩
   ·cases hk
  have aE:za (a8 (some (d0,r)) args).e [] (a8 (some (d0,r)) args).h:=by
   intro x r' ty s nv cs Y aK;simp only[a8]at Y;split at Y
   ·simp only[VP]at Y;subst Y;intro aF;obtain⟨ks,aJ,hc⟩:=sD ay aK;rw[show ({ r with v:=0 } : Row).cells=r.cells from rfl,hc]at aF;cases aF
   ·cases Y
  apply calls_of_wp hf hc;refine gz hT hΓ hm c (a8 (some (d0,r)) args) x s _ _ _ hv aq ⟨_,⟨(by rw[au];exact hI.weaken fun x v Y =>.inl ⟨Y.1,.inl Y.2⟩),aE⟩⟩ (fun a' w' hH =>?_);obtain⟨blk',aw⟩:=hH;obtain⟨sE,ak⟩:∃sE:St,sE=⟨s.t,EH s.h,s.e⟩:=⟨_,rfl⟩;have hI':Inv fn.ntmps M (C9 go) w blk' (VE fn.ntmps s.e [] s.h) sE.t sE.h a' w':=by rw[ak];exact aw.inv
  rw[<- ak]at O;have aa:cC (ou go) w w':=⟨hI'.below.os,hI'.below.tape,hI'.below.output,hI'.below.size,fun k hk hn=>hI'.below.block k hk (fun U=>hn (Cx.1 U))⟩;have ai:∀Z,gG (some (d0,r)) sE=some (some Z)->sE.h 0=some Z∧Z.v=0∧Z.fz=false∧(Z.ty=r.ty∧(Z.mp=r.mp∧mL Z=true))∧blk' 0=go∧(∀g,go=some g->w'.shape? g.1=w.shape? g.1)∧(∀b,(M b∨ou go b)->Own M sE.h blk' b):=by
   intro Z hl;simp only[gG]at hl;split at hl<;>try (cases hl;done)
   rename_i r2 h2;split at hl<;>try (cases hl;done)
   rename_i aA;simp only[VP]at hl;subst hl;obtain⟨c1,c2,c3⟩:=aA;obtain⟨_,k2⟩:=hI'.pin _ rfl;obtain⟨k3,k4⟩:=k2 r2 h2 c1;refine⟨h2,c1,c2,c3,k3,k4,?_⟩;rintro b (U|⟨g,hg,he⟩)
   ·exact .inl U
   ·exact .inr ⟨0,r2,g,h2,c2,k3.trans hg,he.symm⟩
  have aj:∀Z,gG (some (d0,r)) sE=some (some Z)->Jv w' (fun b=>M b∨ou go b) go Z:=by
   intro Z hl;obtain⟨h1,_,_,h4,h5,_,h7⟩:=ai Z hl;have:=(hI'.rows 0 Z h1).2;rw[h5]at this;cases go with
   | none=>exact this
   | some g =>
    exact cr.keep this.2 rfl rfl rfl rfl (fun b h1 h2=>⟨h1,fun U=>h2 (h7 b U),rfl⟩)
  have ab:a'.defers=[]∧∃v,(results fn a'.tmps).run P w'=.ok v w'∧(∃v',Ending.returned v=.returned v'∧cC (ou go) w w'∧Q9 w w' M go r out∧Rb w w' M go v' rk):=by
   refine⟨hI'.defers,?_⟩;cases mode with
   | clean =>
    simp only[fp,lk]at O;split at O<;>try (cases O;done)
    rename_i ds fr o al ho;split at O<;>try (cases O;done)
    rename_i aG;simp only[O0,Wi,List.contains_eq_mem,decide_eq_false_iff_not]at aG;simp only[VP,Prod.mk.injEq]at O;obtain⟨rfl,rfl⟩:=O;cases o with
    | none =>
     simp only[gG]at ho;split at ho<;>try (cases ho;done)
     split at ho<;>cases ho
    | some Z =>
     obtain⟨h1,h2,h3,h4,h5,h6,h7⟩:=ai Z ho;have aB:ki M sE.h blk' fr (fun b=>M b∨ou go b):=by
      refine⟨h7,fun x Y r' g aH hg U =>?_⟩;rcases U with U|⟨g',aL,he⟩
      ·exact hI'.notM aH hg U
      ·have:x=0:=hI'.inj x 0 r' Z g g' aH h1 hg (h5.trans aL) he;subst this;exact aG Y
     obtain⟨v,ah,ad⟩:=l9 (P:=P) hT hI' al aB;exact⟨v,ah,v,rfl,aa,⟨h4.1,h3,h4.2,h6,aj Z ho⟩,ad⟩
   | same =>
    simp only[fp,vN]at O;split at O<;>try (cases O;done)
    rename_i i ax;split at O<;>try (cases O;done)
    rename_i sz o n Z ht ho;simp only[VP,Prod.mk.injEq]at O;obtain⟨rfl,rfl⟩:=O;obtain⟨h1,h2,h3,h4,h5,h6,h7⟩:=ai Z ho;refine⟨a'.tmps.getD i undef,j4 ax,_,rfl,aa,⟨h4.1,h3,h4.2,h6,aj Z ho⟩,?_⟩;have ar:=hI'.slots i;rw[ht]at ar;refine⟨trivial,fun r' _ _ =>?_⟩;have:=ar.2 Z h1 h2;rw[h5]at this;exact this
   | tight =>
    simp only[fp,xo]at O;cases O
   | fresh aI s0 =>
    obtain⟨rfl,v,ty,sz,n,cells,rfl,ah,ad⟩:=hI'.mH (P:=P) O;refine⟨v,ah,v,rfl,aa,trivial,?_⟩;rcases ad with⟨g,k1,cs,k2,k3,k4⟩|ad
    ·exact .inl ⟨g,k1,cs,k2,k3.imp id (fun U=>Cx.1 U),k4⟩
    ·exact .inr ad
  cases x with
  | normal=>exact ab
  | ret=>exact ab
  | exit n=>exact (aC n rfl).elim
def ext (Γ:Env) (f:Nat) (l:Bool) (G:Option (D×Row)->List D->Option (RK×Option Row)):Env:=⟨fun g=>if g=f then l else Γ.lends g,fun g lent VA=>if g=f then G lent VA else Γ.sem g lent VA,Γ.own,Γ.hint,Γ.ins,Γ.grw,Γ.nst,Γ.nx⟩
theorem bt.ext (O:bt P Γ) {f:Nat} {l:Bool} {G:Option (D×Row)->List D->Option (RK×Option Row)} (U:∀lent VA rk out,G lent VA=some (rk,out)->mc P f lent VA rk out) (X:cu P f):bt P (Am.ext Γ f l G):=by
 refine⟨fun g lent VA rk out h =>?_,O.ins,O.grw,O.lnd,O.res⟩;simp only[Am.ext]at h;split at h
 ·rename_i he;subst he;exact⟨U lent VA rk out h,X⟩
 ·exact O.calls g lent VA rk out h
def bk:Env:=⟨fun _=>false,fun _ _ _=>none,fun _=>true,fun _=>none,fun _=>none,fun _=>none,fun _=>none,{}⟩
theorem bt.none:bt P bk:=⟨fun f lent args rk out h=>(by cases h),fun f p h=>(by cases h),fun f p h=>(by cases h),fun f p h=>(by cases h),fun f p h=>(by cases h)⟩
def keep (d:Nat) (Γ:Env):Env:=⟨Γ.lends,Γ.sem,fun i=>i != d&&Γ.own i,Γ.hint,Γ.ins,Γ.grw,Γ.nst,Γ.nx⟩
theorem bt.keep (O:bt P Γ) (d:Nat):bt P (Am.keep d Γ):=⟨O.calls,O.ins,O.grw,O.lnd,O.res⟩
def qJ (d y:Nat) (Γ:Env):Env:=⟨Γ.lends,Γ.sem,Γ.own,fun i=>if i=d then some y else Γ.hint i,Γ.ins,Γ.grw,Γ.nst,Γ.nx⟩
theorem bt.qJ (O:bt P Γ) (d y:Nat):bt P (Am.qJ d y Γ):=⟨O.calls,O.ins,O.grw,O.lnd,O.res⟩
def xJ (f:Nat) (p:Nat×Nat×Nat) (Γ:Env):Env:=⟨Γ.lends,Γ.sem,Γ.own,Γ.hint,fun g=>if g=f then some p else Γ.ins g,Γ.grw,Γ.nst,Γ.nx⟩
theorem bt.xJ (O:bt P Γ) {f:Nat} {p:Nat×Nat×Nat} (U:R4 P f p):bt P (Am.xJ f p Γ):=⟨O.calls,fun g q h=>by
 simp only[Am.xJ]at h;split at h
 ·rename_i he;subst he;cases h;exact U
 ·exact O.ins g q h,O.grw,O.lnd,O.res⟩
def zm (d:Nat) (p:Nat×Nat×Nat) (Γ:Env):Env:=⟨Γ.lends,Γ.sem,Γ.own,Γ.hint,Γ.ins,Γ.grw,fun i=>if i=d then some p else Γ.nst i,Γ.nx⟩
theorem bt.zm (O:bt P Γ) (d:Nat) (p:Nat×Nat×Nat):bt P (Am.zm d p Γ):=⟨O.calls,O.ins,O.grw,O.lnd,O.res⟩
def vt (f:Nat) (p:Nat×(Nat->Nat->Nat->Nat->List D->List D->Option (D×List D))) (Γ:Env):Env:=⟨Γ.lends,Γ.sem,Γ.own,Γ.hint,Γ.ins,Γ.grw,Γ.nst,⟨fun g=>if g=f then some p else Γ.nx.lnd g,Γ.nx.res⟩⟩
theorem bt.vt (O:bt P Γ) {f:Nat} {p:Nat×(Nat->Nat->Nat->Nat->List D->List D->Option (D×List D))} (U:cu P f) (X:∀ty t s o cs args d cs',p.2 ty t s o cs args=some (d,cs')->Cv P f ty t s o cs args d cs'):bt P (Am.vt f p Γ):=⟨O.calls,O.ins,O.grw,fun g q h=>by
 simp only[Am.vt]at h;split at h
 ·rename_i he;subst he;cases h;exact⟨U,X⟩
 ·exact O.lnd g q h,O.res⟩
def vu (f:Nat) (p:List D->Option (Nat×Nat×Nat×Nat×Nat×List D)) (Γ:Env):Env:=⟨Γ.lends,Γ.sem,Γ.own,Γ.hint,Γ.ins,Γ.grw,Γ.nst,⟨Γ.nx.lnd,fun g=>if g=f then some p else Γ.nx.res g⟩⟩
theorem bt.vu (O:bt P Γ) {f:Nat} {p:List D->Option (Nat×Nat×Nat×Nat×Nat×List D)} (U:cu P f) (X:∀args ty t s S n cs,p args=some (ty,t,s,S,n,cs)->Cu P f args ty t s S n cs):bt P (Am.vu f p Γ):=⟨O.calls,O.ins,O.grw,O.lnd,fun g q h=>by
 simp only[Am.vu]at h;split at h
 ·rename_i he;subst he;cases h;exact⟨U,X⟩
 ·exact O.res g q h⟩
def xD (f:Nat) (p:Grow) (Γ:Env):Env:=⟨Γ.lends,Γ.sem,Γ.own,Γ.hint,Γ.ins,fun g=>if g=f then some p else Γ.grw g,Γ.nst,Γ.nx⟩
theorem bt.xD (O:bt P Γ) {f:Nat} {p:Grow} (U:MZ P f p):bt P (Am.xD f p Γ):=⟨O.calls,O.ins,fun g q h=>by
 simp only[Am.xD]at h;split at h
 ·rename_i he;subst he;cases h;exact U
 ·exact O.grw g q h,O.lnd,O.res⟩
end
def my (ty t s o:Nat) (cs args:List D):St:=⟨fun i=>(.ptr 0 0 o::args).getD i .und,j3 (fF ty t s 0 cs),1⟩
def Om (t s:Nat) (ds:List D):List D->Option (D×List D)
 | [.nr O U _ cs']=>if O=t∧U=s then some (iD ds,cs') else none
 | _=>none
def E3 (ty t s:Nat):Option (List D×List Nat)->Option Row->Option (D×List D)
 | some (ds,fr),some r=>if r.v=0∧r.fz=false∧r.ty=ty∧r.mp=true∧fr.all (fun k=>rt k != 0)=true then Om t s ds r.cells else none
 | _,_=>none
def L7 (T:Nat->Option Ty) (ty t s:Nat) (rs:List ResultVar) (st:St):Option (D×List D):=E3 ty t s (nM T ⟨st.t,EH st.h,st.e⟩ rs) (st.h 0)
def Jk (T:Nat->Option Ty) (Γ:Env) (F:Nat) (fn:Func) (ty t s o:Nat) (cs args:List D):Option (D×List D) :=
 match fn.body with
 | some c =>
  if fn.ntmps<=PK then
   match dP T Γ fn.ntmps F c (my ty t s o cs args) with
   | some (.exit _,_)=>none
   | some (_,st)=>L7 T ty t s fn.results.toList st
   | none=>none
  else none
 | none=>none
def Ol (x S n:Nat) (ty:Nat):List D->Option (Nat×Nat×Nat×Nat×Nat×List D)
 | [.nr t s _ cs]=>if x<PK then some (ty,t,s,S,n,cs) else none
 | _=>none
def E1 (x v S n:Nat):Option Row->Option (Nat×Nat×Nat×Nat×Nat×List D)
 | some r=>if r.v=v∧r.fz=false∧r.mp=true then Ol x S n r.ty r.cells else none
 | none=>none
def Kh (h:Nat->Option Row):D->Option (Nat×Nat×Nat×Nat×Nat×List D)
 | .buf x v S 0 n=>E1 x v S n (h x)
 | _=>none
def L6 (rs:List ResultVar) (st:St):Option (Nat×Nat×Nat×Nat×Nat×List D) :=
 match rs with
 | [.tmp i]=>Kh st.h (st.t i)
 | _=>none
def DC (T:Nat->Option Ty) (Γ:Env) (F:Nat) (fn:Func) (args:List D):Option (Nat×Nat×Nat×Nat×Nat×List D) :=
 match fn.body with
 | some c =>
  if fn.ntmps<=PK then
   match dP T Γ fn.ntmps F c (a8 none args) with
   | some (.exit _,_)=>none
   | some (_,st)=>L6 fn.results.toList st
   | none=>none
  else none
 | none=>none
section
variable {P:Program} {T:Nat->Option Ty} {N:Nat} {M:Nat->Prop} {L:fV} {w0:World} {blk:Nat->Option (Nat×Nat)} {a:Act} {w:World} {Γ:Env}
theorem DE (hT:fb P T) (hΓ:bt P Γ) (hm:P.follows .mixedOrders=true) {f:FuncId} {fn:Func} {F:Nat} {ty t s o:Nat} {cs args cs':List D} {d:D} (hf:P.funcs[f]? = some fn)
  (al:(match fn.body with|some c=>codeOk c|none=>true)=true) (hn:args.length+1<=fn.ntmps)
  (X:Jk T Γ F fn ty t s o cs args=some (d,cs')):Cv P f ty t s o cs args d cs':=by
 unfold Jk at X;split at X<;>try (cases X;done)
 rename_i c hc;rw[hc]at al;simp only at al;split at X<;>try (cases X;done)
 rename_i av;split at X<;>try (cases X;done)
 rename_i x st aA hv;intro w M blk h0 h1 g0 vs ae ah hM hdis an hR Y;have aJ:=b7;have hfz:∀k r,h0 k=some r->r.fz=false:=by
  intro k r hk;rw[ae]at hk;rcases fw hk with⟨_,rfl⟩|⟨_,_,_,_,_,rfl⟩<;>rfl
 have aa:∀b,Own M h0 blk b↔(M b∨pQ blk h0 b):=by
  intro b;constructor
  ·rintro (O|⟨k,r,g,h1,_,h2,h3⟩)
   ·exact .inl O
   ·exact .inr ⟨k,r,g,h1,h2,h3⟩
  ·rintro (O|⟨k,r,g,h1,h2,h3⟩)
   ·exact .inl O
   ·exact .inr ⟨k,r,g,h1,hfz k r h1,h2,h3⟩
 have ao:h0 0=some ⟨0,ty,cs.mapIdx (lM 0 s),false,true,true⟩:=by rw[ae];exact pB
 obtain⟨LL,aq⟩:∃LL:fV,LL=some (some g0,pQ blk h0):=⟨_,rfl⟩;have ai:∀b,LB LL b↔pQ blk h0 b:=by
  intro b;subst aq;constructor
  ·rintro⟨p,hp,h⟩;cases hp;rcases h with⟨g,hg,rfl⟩|h
   ·cases hg;exact⟨0,_,g0,ao,an,rfl⟩
   ·exact h
  ·exact fun h=>⟨_,rfl,.inr h⟩
 have hI:Inv fn.ntmps M LL w blk (fun x v=>x<fn.ntmps∧v<1) (my ty t s o cs args).t h0 { tmps:=(#[Value.pointer (some ⟨g0.1,g0.2+o,none⟩)]++vs)++Array.replicate (fn.ntmps-(#[Value.pointer (some ⟨g0.1,g0.2+o,none⟩)]++vs).size) undef,defers:=[] } w:={
  tab:=fun b O=>(Y.tab b O).less fun b O=>(aa b).1 O
  below:=cC.refl _ _
  mlt:=hM
  lent:=fun b O=>hdis b ((ai b).1 O)
  pin:=fun p hp=>by
   subst aq;cases hp;exact⟨⟨by omega,Xn⟩,fun r' _ _=>⟨an,fun g _=>rfl⟩⟩
  defers:=rfl
  tsz:=by have:=Y.1;simp;omega
  slots:=fun i=>by
   simp only[my];rcases pD (args := .ptr 0 0 o::args) (vs:=#[.pointer (some ⟨g0.1,g0.2+o,none⟩)]++vs) (n:=fn.ntmps) (i:=i) (by simp[Y.1];omega) with he|he
   ·rw[he];cases i with
    | zero =>
     have e1:(#[Value.pointer (some ⟨g0.1,g0.2+o,none⟩)]++vs).getD 0 undef=.pointer (some ⟨g0.1,g0.2+o,none⟩):=by simp[Array.getElem?_append]
     rw[e1];simp only[WK];exact⟨⟨by omega,Xn⟩,fun r' _ _=>⟨g0,an,rfl⟩⟩
    | succ i =>
     have e1:(#[Value.pointer (some ⟨g0.1,g0.2+o,none⟩)]++vs).getD (i+1) undef=vs.getD i undef:=by
      simp only[VL];rw[Array.getElem?_append_right (by simp)];simp
     rw[e1];simp only[List.getD_cons_succ]
     by_cases hi:i<args.length
     ·have h1:=Y.2 i _ (VT hi);have e1:args.getD i .und=args[i]:=by simp[List.getD,hi]
      rw[e1];exact aS (h1.less fun b O=>(aa b).1 O)
     ·have e1:args.getD i .und=.und:=by simp[List.getD,Xg (Xm hi)]
      rw[e1];trivial
   ·rw[he];trivial
  rows:=fun k r hk=>by
   refine⟨fun hn =>?_,?_⟩
   ·rw[ae]at hk;rcases fw hk with⟨rfl,rfl⟩|⟨o',_,_,rfl,_,rfl⟩
    ·exact⟨hn,Xn⟩
    ·have:=dO 0 o';omega
   ·have:=hR.rows k r hk;cases hg:blk k with
    | none=>rw[hg]at this;exact this
    | some g =>
     rw[hg]at this;exact⟨.inr ((ai g.1).2 ⟨k,r,g,hk,hg,rfl⟩),this.keep rfl rfl rfl rfl fun b q1 q2=>⟨q1,fun O=>q2 ((aa b).1 O),rfl⟩⟩
  inj:=hR.inj
  big:=av
  pha:=hR.pha
  ali:=fun y r g hy hz=>by rw[hfz y r hy]at hz;cases hz }
 have aw:za (my ty t s o cs args).e [] (my ty t s o cs args).h:=by
  intro k r' aK s' aB aC hx aL ax;simp only[my,j3]at hx;split at hx
  ·simp only[VP]at hx;subst hx;simp only[fF,V4,D.nr.injEq,and_true]at ax;obtain⟨_,_,rfl,_⟩:=ax;exact fun _=>⟨by simp[my],fun _=>by simp[my]⟩
  ·cases hx
 have aD:EH (my ty t s o cs args).h=h0:=ae.symm;apply calls_of_wp hf hc;refine gz hT hΓ hm c (my ty t s o cs args) x st _ _ _ hv al ⟨_,⟨(by rw[aD];exact hI.weaken fun x v hx=>Or.inl ⟨hx.1,Or.inl hx.2⟩),aw⟩⟩ (fun a' w' hH =>?_);obtain⟨blk',aE⟩:=hH;have hI':=aE.inv;unfold L7 E3 at X;split at X<;>try (cases X;done)
 rename_i ds fr r1 ay aj;split at X<;>try (cases X;done)
 rename_i ar;obtain⟨c1,c2,c3,c4,c5⟩:=ar;unfold Om at X;split at X<;>try (cases X;done)
 rename_i t' s' aB aC U;split at X<;>try (cases X;done)
 rename_i aF;obtain⟨rfl,rfl⟩:=aF;simp only[VP,Prod.mk.injEq]at X;obtain⟨rfl,rfl⟩:=X;have aG:=dF aj c4 U jx;obtain⟨p1,p2⟩:=(hI'.pin (some g0,pQ blk h0) aq).2 _ aG c1;have ak:=Cw (blk:=blk') aj c4 U jx;rw[c3]at ak;have hQ:∀b,(M b∨pQ (lL blk' 0) h1 b)->Own M (EH st.h) blk' b:=by
  rintro b (O|O)
  ·exact .inl O
  ·rw[ah]at O;obtain⟨k,r',g',q0,q1,q2,q3⟩:=(ak b).1 O;refine .inr ⟨k,r',g',q1,?_,q2,q3⟩;rcases cG aj c4 U jx q0 q1 with⟨_,rfl⟩|⟨_,_,_,_,_,rfl⟩<;>exact c2
 have au:ki M (EH st.h) blk' fr (fun b=>M b∨pQ (lL blk' 0) h1 b):=by
  refine⟨hQ,fun k hk r' g az hg O =>?_⟩;rcases O with O|O
  ·exact hI'.notM az hg O
  ·rw[ah]at O;obtain⟨l,r2,g',q0,q1,q2,q3⟩:=(ak _).1 O;have:=hI'.inj k l r' r2 g g' az q1 hg q2 q3.symm;subst this;have:=VR.1 c5 _ hk;simp[q0]at this
 obtain⟨v,aH,aI⟩:=l9 (P:=P) (s:=⟨st.t,EH st.h,st.e⟩) hT hI' ay au;have ab:=hI'.Sx aj c4 U c2 jx hQ;rw[c3,<- ah]at ab;have ad:a'.defers=[]∧∃v,(results fn a'.tmps).run P w'=.ok v w'∧(∃v' Z,Ending.returned v=.returned v'∧cC (pQ blk h0) w w'∧Z 0=some g0∧w'.shape? g0.1=w.shape? g0.1∧(∀b,pQ Z h1 b->w.heap.size<=b∨pQ blk h0 b)∧zH w' (fun b=>M b∨pQ Z h1 b) Z h1∧RP w' (fun b=>M b∨pQ Z h1 b) (iD ds) v'):=by
  refine⟨hI'.defers,v,aH,v,lL blk' 0,rfl,⟨hI'.below.os,hI'.below.tape,hI'.below.output,hI'.below.size,fun k hk hn=>hI'.below.block k hk fun O=>hn ((ai k).1 O)⟩,by rw[lL,mq];exact p1,p2 g0 rfl,fun b O =>?_,ab,aI⟩;rw[ah]at O;obtain⟨k,r',g',q0,q1,q2,q3⟩:=(ak b).1 O;rcases hI'.base q1 q2 with q|q
  ·exact .inl (by omega)
  ·exact .inr (by rw[<- q3];exact (ai _).1 q)
 cases x with
 | normal=>exact ad
 | ret=>exact ad
 | exit n=>exact (aA n rfl).elim
theorem UU (hT:fb P T) (hΓ:bt P Γ) (hm:P.follows .mixedOrders=true) {f:FuncId} {fn:Func} {F:Nat} {args:List D} {c:Code} {x:Ex} {st:St} (hf:P.funcs[f]? = some fn) (hc:fn.body=some c) (ad:codeOk c=true) (hn:args.length<=fn.ntmps) (aa:fn.ntmps<=PK)
  (hv:dP T Γ fn.ntmps F c (a8 none args)=some (x,st)) (ae:∀n,x ≠ .exit n) {w:World} {M:Nat->Prop} {vs:Array Value} (hM:∀b,M b->b<w.heap.size) (O:rN w M args vs) {Φ:Ending->World->Prop}
  (hk:∀Z w' blk',Inv fn.ntmps M none w blk' (VE fn.ntmps st.e [] st.h) st.t (EH st.h) Z w'->∃v,(results fn Z.tmps).run P w'=.ok v w'∧Φ (.returned v) w'):Calls P f vs w Φ:=by
 have hI:Inv fn.ntmps M none w (fun _=>none) (fun x v=>x<fn.ntmps∧v<0) (a8 none args).t (a8 none args).h { tmps:=vs++Array.replicate (fn.ntmps-vs.size) undef,defers:=[] } w:={
  tab:=fun b U=>(O.tab b U).less fun b U=>by
   rcases U with U|⟨x,r,g,X,_⟩
   ·exact U
   ·cases X
  below:=cC.refl _ _
  mlt:=hM
  lent:=fun b U=>absurd U lT
  pin:=fun go hg=>by cases hg
  defers:=rfl
  tsz:=by have:=O.1;simp;omega
  slots:=fun i=>by
   simp only[a8];rcases pD (n:=fn.ntmps) (i:=i) O.1 with he|he
   ·rw[he]
    by_cases hi:i<args.length
    ·have h1:=O.2 i _ (VT hi);have e1:args.getD i .und=args[i]:=by simp[List.getD,hi]
     rw[e1];exact aS (h1.less fun b U=>by
      rcases U with U|⟨x,r,g,X,_⟩
      ·exact U
      ·cases X)
    ·have e1:args.getD i .und=.und:=by simp[List.getD,Xg (Xm hi)]
     rw[e1];trivial
   ·rw[he];trivial
  rows:=fun x r X=>by cases X
  inj:=fun x y r s g g' X=>by cases X
  big:=aa
  pha:=fun y r g hy=>by cases hy
  ali:=fun y r g hy=>by cases hy }
 apply calls_of_wp hf hc;refine gz hT hΓ hm c (a8 none args) x st _ _ _ hv ad ⟨_,⟨(by rw[vT (fun k r hk=>by cases hk)];exact hI.weaken fun x v X=>absurd X.2 (Nat.not_lt_zero _)),fun x r ty s nv cs X=>by cases X⟩⟩ (fun Z w' hH =>?_);obtain⟨blk',ab⟩:=hH;obtain⟨v,h1,h2⟩:=hk Z w' blk' ab.inv;have Y:Z.defers=[]∧∃v,(results fn Z.tmps).run P w'=.ok v w'∧Φ (.returned v) w':=⟨ab.inv.defers,v,h1,h2⟩;cases x with
 | normal=>exact Y
 | ret=>exact Y
 | exit n=>exact (ae n rfl).elim
theorem HO {F:Nat} {fn:Func} {args:List D} {ty t s S n:Nat} {cs:List D} (O:DC T Γ F fn args=some (ty,t,s,S,n,cs)) :
  ∃c x st i k v r nv,fn.body=some c∧fn.ntmps<=PK∧dP T Γ fn.ntmps F c (a8 none args)=some (x,st)∧(∀m,x ≠ .exit m)∧fn.results.toList=[.tmp i]∧st.t i=.buf k v S 0 n∧st.h k=some r∧r.v=v∧r.fz=false∧r.mp=true∧k<PK∧r.ty=ty∧r.cells=[.nr t s nv cs]:=by
 unfold DC at O;split at O<;>try (cases O;done)
 rename_i c hc;split at O<;>try (cases O;done)
 rename_i Y;split at O<;>try (cases O;done)
 rename_i x st hne hv;unfold L6 at O;split at O<;>try (cases O;done)
 rename_i i Z;unfold Kh at O;split at O<;>try (cases O;done)
 rename_i k v S' n' ht;unfold E1 at O;split at O<;>try (cases O;done)
 rename_i r hh;split at O<;>try (cases O;done)
 rename_i U;unfold Ol at O;split at O<;>try (cases O;done)
 rename_i t' s' nv cs' X;split at O<;>try (cases O;done)
 rename_i hk;simp only[VP,Prod.mk.injEq]at O;obtain⟨h1,h2,h3,h4,h5,h6⟩:=O;subst h2 h3 h4 h5 h6;exact⟨c,x,st,i,k,v,r,nv,hc,Y,hv,fun m hm=>hne m hm,Z,ht,hh,U.1,U.2.1,U.2.2,hk,h1,X⟩
theorem DD (hT:fb P T) (hΓ:bt P Γ) (hm:P.follows .mixedOrders=true) {f:FuncId} {fn:Func} {F:Nat} {args:List D} {ty t s S n:Nat} {cs:List D} (hf:P.funcs[f]? = some fn)
  (Y:(match fn.body with|some c=>codeOk c|none=>true)=true) (hn:args.length<=fn.ntmps)
  (hr:DC T Γ F fn args=some (ty,t,s,S,n,cs)):Cu P f args ty t s S n cs:=by
 obtain⟨c,x,st,i,k,v,r,nv,hc,ab,hv,aj,ak,ht,hh,c1,c2,c3,hk,ad,O⟩:=HO hr;rw[hc]at Y;simp only at Y;intro w M h vs ae hM Z;refine UU hT hΓ hm hf hc Y hn ab hv aj hM Z fun a' w' blk' X =>?_;have aa:=Cw (blk:=blk') hh c3 O hk;rw[ad,<- ae]at aa;have ah:Below w.heap.size w w':=X.below.below (fun b hb=>absurd hb lT);have hQ:∀b,(M b∨pQ (lL blk' k) h b)->Own M (EH st.h) blk' b:=by
  rintro b (hb|hb)
  ·exact .inl hb
  ·obtain⟨l,r',g',q0,q1,q2,q3⟩:=(aa b).1 hb;refine .inr ⟨l,r',g',q1,?_,q2,q3⟩;rcases cG hh c3 O hk q0 q1 with⟨_,rfl⟩|⟨_,_,_,_,_,rfl⟩<;>exact c2
 have U:=X.Sx hh c3 O c2 hk hQ;rw[ad,<- ae]at U;have ai:=X.slots i;rw[ht]at ai;refine⟨_,j4 ak,_,lL blk' k,rfl,ah,fun b hb =>?_,U,trivial,fun r' _ _ =>?_⟩
 ·obtain⟨l,r',g',q0,q1,q2,q3⟩:=(aa b).1 hb;rcases X.base q1 q2 with q|q
  ·omega
  ·exact absurd q lT
 ·rw[lL,mq];exact ai.2 _ (dF hh c3 O hk) c1
end
section
variable {P:Program} {T:Nat->Option Ty} {N:Nat} {M:Nat->Prop} {L:fV} {w0:World} {blk:Nat->Option (Nat×Nat)} {V:Nat->Nat->Prop} {t:Nat->D} {h:Nat->Option Row} {a:Act} {w:World} {e:Nat} {o:Oper} {Γ:Env} {done:List Nat}
theorem R2 {x v ty:Nat} {ks:List bC} {vs:List D} {fz lst:Bool} (O:h x=some ⟨v,ty,[.mpc ks vs],fz,lst,true⟩) (U:x<PK):EH h x=some ⟨v,ty,[.mpc ks vs],fz,lst,true⟩∧∀o,EH h (NK x o)=none:=by
 constructor
 ·rw[mz (by have:=b7;omega),O];rfl
 ·intro o;rw[nV U,O];rfl
theorem Inv.iter (hI:Inv N M L w0 blk V t (EH h) a w) {y v ty:Nat} {p:Operand} {ks:List bC} {vs:List D} {lst:Bool} (hp:Am.ev t p=.ptr y v 0) (hy:h y=some ⟨v,ty,[.mpc ks vs],false,lst,true⟩) (Z:900000<=ty) (hyp:y<PK) :
  ∃(g:Nat×Nat),blk y=some g∧a.eval p=.pointer (some ⟨g.1,g.2+0,none⟩)∧vs.length=ks.length∧DJ w (Own M (EH h) blk) g ty ks vs:=by
 obtain⟨U,_⟩:=R2 hy hyp;have X:=hI.ev p;rw[hp]at X;obtain⟨g,hg,hu⟩:=X.2 _ U rfl;have O:=hI.rowIs U hg;unfold cr at O;simp only at O;rcases O with⟨aa,ab,Y,k2,_,k4⟩|⟨Y,_⟩
 ·simp only[V4,D.mpc.injEq,and_true]at Y;obtain⟨rfl,rfl⟩:=Y;exact⟨g,hg,hu,k2,k4 Z⟩
 ·have:=Y _ (V3.2 rfl);cases this
end
def tab (t:Nat):Option Ty :=
 match t with
 | 2=>some ⟨.int .i64,1,8,[.int .i64 0],false⟩
 | 3=>some ⟨.int .i64,1,8,[.int .i64 0],false⟩
 | 4=>some ⟨.bool,1,1,[.bool false],false⟩
 | 5=>some ⟨.int .u8,1,1,[.int .u8 0],false⟩
 | 9=>some ⟨.str,1,16,[.string ⟨#[]⟩],false⟩
 | 12=>some ⟨.int .u64,1,8,[.int .u64 0],false⟩
 | 21=>some ⟨.int .i32,1,4,[.int .i32 0],false⟩
 | 22=>some ⟨.slice 27,1,24,[.slice none 0 0],false⟩
 | 23=>some ⟨.slice 3,1,24,[.slice none 0 0],false⟩
 | 24=>some ⟨.struct [(3,0),(23,1)],2,32,[.int .i64 0,.slice none 0 0],false⟩
 | 25=>some ⟨.struct [(3,0),(23,1)],2,32,[.int .i64 0,.slice none 0 0],false⟩
 | 26=>some ⟨.struct [(25,0),(25,2)],4,64,[.int .i64 0,.slice none 0 0,.int .i64 0,.slice none 0 0],false⟩
 | 27=>some ⟨.struct [(25,0),(25,2)],4,64,[.int .i64 0,.slice none 0 0,.int .i64 0,.slice none 0 0],false⟩
 | 28=>some ⟨.slice 23,1,24,[.slice none 0 0],false⟩
 | 32=>some ⟨.int .i64,1,8,[.int .i64 0],false⟩
 | 42=>some ⟨.struct [(22,0),(27,1)],5,88,[.slice none 0 0,.int .i64 0,.slice none 0 0,.int .i64 0,.slice none 0 0],false⟩
 | 43=>some ⟨.struct [(22,0),(27,1)],5,88,[.slice none 0 0,.int .i64 0,.slice none 0 0,.int .i64 0,.slice none 0 0],false⟩
 | 51=>some ⟨.int .u64,1,8,[.int .u64 0],false⟩
 | 63=>some ⟨.int .u32,1,4,[.int .u32 0],false⟩
 | 65=>some ⟨.int .u64,1,8,[.int .u64 0],false⟩
 | 82=>some ⟨.int .i64,1,8,[.int .i64 0],false⟩
 | 90=>some ⟨.int .u64,1,8,[.int .u64 0],false⟩
 | _=>none
theorem RX:tab 2=some ⟨.int .i64,1,8,[.int .i64 0],false⟩:=rfl
theorem Lw:tab 3=some ⟨.int .i64,1,8,[.int .i64 0],false⟩:=rfl
theorem RY:tab 4=some ⟨.bool,1,1,[.bool false],false⟩:=rfl
theorem RZ:tab 5=some ⟨.int .u8,1,1,[.int .u8 0],false⟩:=rfl
theorem R0:tab 9=some ⟨.str,1,16,[.string ⟨#[]⟩],false⟩:=rfl
theorem PF:tab 12=some ⟨.int .u64,1,8,[.int .u64 0],false⟩:=rfl
theorem PG:tab 21=some ⟨.int .i32,1,4,[.int .i32 0],false⟩:=rfl
theorem Dx:tab 22=some ⟨.slice 27,1,24,[.slice none 0 0],false⟩:=rfl
theorem Dy:tab 23=some ⟨.slice 3,1,24,[.slice none 0 0],false⟩:=rfl
theorem PH:tab 24=some ⟨.struct [(3,0),(23,1)],2,32,[.int .i64 0,.slice none 0 0],false⟩:=rfl
theorem I8:tab 25=some ⟨.struct [(3,0),(23,1)],2,32,[.int .i64 0,.slice none 0 0],false⟩:=rfl
theorem PI:tab 26=some ⟨.struct [(25,0),(25,2)],4,64,[.int .i64 0,.slice none 0 0,.int .i64 0,.slice none 0 0],false⟩:=rfl
theorem yO:tab 27=some ⟨.struct [(25,0),(25,2)],4,64,[.int .i64 0,.slice none 0 0,.int .i64 0,.slice none 0 0],false⟩:=rfl
theorem Dz:tab 28=some ⟨.slice 23,1,24,[.slice none 0 0],false⟩:=rfl
theorem PJ:tab 32=some ⟨.int .i64,1,8,[.int .i64 0],false⟩:=rfl
theorem PL:tab 42=some ⟨.struct [(22,0),(27,1)],5,88,[.slice none 0 0,.int .i64 0,.slice none 0 0,.int .i64 0,.slice none 0 0],false⟩:=rfl
theorem PM:tab 43=some ⟨.struct [(22,0),(27,1)],5,88,[.slice none 0 0,.int .i64 0,.slice none 0 0,.int .i64 0,.slice none 0 0],false⟩:=rfl
theorem PN:tab 51=some ⟨.int .u64,1,8,[.int .u64 0],false⟩:=rfl
theorem PO:tab 63=some ⟨.int .u32,1,4,[.int .u32 0],false⟩:=rfl
theorem PQ:tab 65=some ⟨.int .u64,1,8,[.int .u64 0],false⟩:=rfl
theorem PR:tab 82=some ⟨.int .i64,1,8,[.int .i64 0],false⟩:=rfl
theorem PS:tab 90=some ⟨.int .u64,1,8,[.int .u64 0],false⟩:=rfl
theorem UY:fW prog 2 ⟨.int .i64,1,8,[.int .i64 0],false⟩:=⟨by kernel_rfl,by kernel_rfl,by kernel_rfl,fun h=>by cases h⟩
theorem UZ:fW prog 3 ⟨.int .i64,1,8,[.int .i64 0],false⟩:=⟨by kernel_rfl,by kernel_rfl,by kernel_rfl,fun h=>by cases h⟩
theorem U0:fW prog 4 ⟨.bool,1,1,[.bool false],false⟩:=⟨by kernel_rfl,by kernel_rfl,by kernel_rfl,fun h=>by cases h⟩
theorem U1:fW prog 5 ⟨.int .u8,1,1,[.int .u8 0],false⟩:=⟨by kernel_rfl,by kernel_rfl,by kernel_rfl,fun h=>by cases h⟩
theorem U2:fW prog 9 ⟨.str,1,16,[.string ⟨#[]⟩],false⟩:=⟨by kernel_rfl,by kernel_rfl,by kernel_rfl,fun h=>by cases h⟩
theorem TS:fW prog 12 ⟨.int .u64,1,8,[.int .u64 0],false⟩:=⟨by kernel_rfl,by kernel_rfl,by kernel_rfl,fun h=>by cases h⟩
theorem TT:fW prog 21 ⟨.int .i32,1,4,[.int .i32 0],false⟩:=⟨by kernel_rfl,by kernel_rfl,by kernel_rfl,fun h=>by cases h⟩
theorem TU:fW prog 22 ⟨.slice 27,1,24,[.slice none 0 0],false⟩:=⟨by kernel_rfl,by kernel_rfl,by kernel_rfl,fun h=>by cases h⟩
theorem TV:fW prog 23 ⟨.slice 3,1,24,[.slice none 0 0],false⟩:=⟨by kernel_rfl,by kernel_rfl,by kernel_rfl,fun h=>by cases h⟩
theorem TW:fW prog 24 ⟨.struct [(3,0),(23,1)],2,32,[.int .i64 0,.slice none 0 0],false⟩:=⟨by kernel_rfl,by kernel_rfl,by kernel_rfl,fun h=>by cases h⟩
theorem TX:fW prog 25 ⟨.struct [(3,0),(23,1)],2,32,[.int .i64 0,.slice none 0 0],false⟩:=⟨by kernel_rfl,by kernel_rfl,by kernel_rfl,fun h=>by cases h⟩
theorem TY:fW prog 26 ⟨.struct [(25,0),(25,2)],4,64,[.int .i64 0,.slice none 0 0,.int .i64 0,.slice none 0 0],false⟩:=⟨by kernel_rfl,by kernel_rfl,by kernel_rfl,fun h=>by cases h⟩
theorem TZ:fW prog 27 ⟨.struct [(25,0),(25,2)],4,64,[.int .i64 0,.slice none 0 0,.int .i64 0,.slice none 0 0],false⟩:=⟨by kernel_rfl,by kernel_rfl,by kernel_rfl,fun h=>by cases h⟩
theorem T0:fW prog 28 ⟨.slice 23,1,24,[.slice none 0 0],false⟩:=⟨by kernel_rfl,by kernel_rfl,by kernel_rfl,fun h=>by cases h⟩
theorem T1:fW prog 32 ⟨.int .i64,1,8,[.int .i64 0],false⟩:=⟨by kernel_rfl,by kernel_rfl,by kernel_rfl,fun h=>by cases h⟩
theorem T2:fW prog 42 ⟨.struct [(22,0),(27,1)],5,88,[.slice none 0 0,.int .i64 0,.slice none 0 0,.int .i64 0,.slice none 0 0],false⟩:=⟨by kernel_rfl,by kernel_rfl,by kernel_rfl,fun h=>by cases h⟩
theorem T3:fW prog 43 ⟨.struct [(22,0),(27,1)],5,88,[.slice none 0 0,.int .i64 0,.slice none 0 0,.int .i64 0,.slice none 0 0],false⟩:=⟨by kernel_rfl,by kernel_rfl,by kernel_rfl,fun h=>by cases h⟩
theorem T4:fW prog 51 ⟨.int .u64,1,8,[.int .u64 0],false⟩:=⟨by kernel_rfl,by kernel_rfl,by kernel_rfl,fun h=>by cases h⟩
theorem T5:fW prog 63 ⟨.int .u32,1,4,[.int .u32 0],false⟩:=⟨by kernel_rfl,by kernel_rfl,by kernel_rfl,fun h=>by cases h⟩
theorem T6:fW prog 65 ⟨.int .u64,1,8,[.int .u64 0],false⟩:=⟨by kernel_rfl,by kernel_rfl,by kernel_rfl,fun h=>by cases h⟩
theorem T7:fW prog 82 ⟨.int .i64,1,8,[.int .i64 0],false⟩:=⟨by kernel_rfl,by kernel_rfl,by kernel_rfl,fun h=>by cases h⟩
theorem T8:fW prog 90 ⟨.int .u64,1,8,[.int .u64 0],false⟩:=⟨by kernel_rfl,by kernel_rfl,by kernel_rfl,fun h=>by cases h⟩
theorem tok:fb prog tab:=by
 intro t τ h;unfold tab at h;split at h
 ·cases h;exact UY
 ·cases h;exact UZ
 ·cases h;exact U0
 ·cases h;exact U1
 ·cases h;exact U2
 ·cases h;exact TS
 ·cases h;exact TT
 ·cases h;exact TU
 ·cases h;exact TV
 ·cases h;exact TW
 ·cases h;exact TX
 ·cases h;exact TY
 ·cases h;exact TZ
 ·cases h;exact T0
 ·cases h;exact T1
 ·cases h;exact T2
 ·cases h;exact T3
 ·cases h;exact T4
 ·cases h;exact T5
 ·cases h;exact T6
 ·cases h;exact T7
 ·cases h;exact T8
 ·cases h
theorem mixed:Try.prog.follows .mixedOrders=true:=by kernel_rfl
def lx {α:Type} (x:Option α) (K:α->Prop):Prop :=
 match x with
 | some a=>K a
 | none=>False
def br (b:Bool) (A B:Prop):Prop:=(b=true->A)∧(b=false->B)
def Jl (d:D) (t:Nat->D) (g:Nat) (A B:(Nat->D)->Prop):Prop :=
 match d with
 | .bool b=>br b (A (bj t g (.bool b))) (B (bj t g (.bool b)))
 | _=>False
def wpS (d:D) (t:Nat->D) (g:Nat) (A B S:(Nat->D)->Prop):Prop :=
 match d with
 | .skp=>S t
 | d=>Jl d t g A B
theorem s4 {t:Nat->D} {g:Nat} {b:Bool} {A B S:(Nat->D)->Prop} : wpS (.bool b) t g A B S=br b (A (bj t g (.bool b))) (B (bj t g (.bool b))):=rfl
def P5 (ops:List Oper) (t:Nat->D) (gd:Option (Nat×Bool)) (A B:(Nat->D)->Prop):Prop :=
 match gd with
 | none=>A t
 | some (j,want)=>lx ((ops[j]?).bind (·.dst)) fun g=>wpS (t g) t g (if want then A else B) (if want then B else A) B
def HQ (T:Nat->Option Ty) (Γ:Env) (e:Nat) (o:Oper) (t:Nat->D) (h:Nat->Option Row) (K:(Nat->D)->aR->Prop):Prop :=
 match o.op with
 | .pick (.tmp c) a b=>Jl (t c) t c (fun t=>K t ⟨ev t a,[]⟩) (fun t=>K t ⟨ev t b,[]⟩)
 | _=>lx (kn T Γ e o (ev t) h) (K t)
def yE (T:Nat->Option Ty) (Γ:Env) (N e:Nat) (ops:List Oper):List Oper->(Nat->D)->(Nat->Option Row)->((Nat->D)->(Nat->Option Row)->Prop)->Prop
 | [],t,h,K=>K t h
 | o::l,t,h,K=>fits N o.dst=true∧P5 ops t o.guard (fun t=>HQ T Γ e o t h fun t E=>yE T Γ N e ops l (cP t o.dst E.val) (ay h E.hw) K) (fun t=>yE T Γ N e ops l (cP t o.dst .skp) h K)
def runK (T:Nat->Option Ty) (Γ:Env) (N e:Nat) (ops:List Oper):List Oper->(Nat->D)->(Nat->Option Row)->List gQ->((Nat->D)->(Nat->Option Row)->List gQ->Prop)->Prop
 | [],t,h,fs,K=>K t h fs
 | o::l,t,h,fs,K=>fits N o.dst=true∧P5 ops t o.guard (fun t=>HQ T Γ e o t h fun t E=>runK T Γ N e ops l (cP t o.dst E.val) (ay h E.hw) (fs++[⟨aN o (ev t),E.hw.isEmpty⟩]) K) (fun t=>runK T Γ N e ops l (cP t o.dst .skp) h (fs++[⟨[],true⟩]) K)
abbrev Kt:=Ex->(Nat->D)->(Nat->Option Row)->Nat->Prop
def TF (x:Ex) (A:Prop) (B:Prop):Prop :=
 match x with
 | .normal=>A
 | _=>B
def Nz (id:Nat) (x:Ex) (t:Nat->D) (h:Nat->Option Row) (e:Nat) (K:Kt):Prop :=
 match x with
 | .exit n=>if n=id then K .normal t h e else K (.exit n) t h e
 | x=>K x t h e
def Ui (T:Nat->Option Ty) (Γ:Env) (N:Nat) (ops:Array Oper) (draw:Bool) (t:Nat->D) (h:Nat->Option Row) (e:Nat) (K:(Nat->D)->(Nat->Option Row)->Prop):Prop :=
 match draw with
 | true=>runK T Γ N e ops.toList ops.toList t h [] fun t h fs=>w9 ops fs=true∧K t h
 | false=>yE T Γ N e ops.toList ops.toList t h K
def HV (T:Nat->Option Ty) (Γ:Env) (N F:Nat):Code->(Nat->D)->(Nat->Option Row)->Nat->Kt->Prop
 | .skip,t,h,e,K=>K .normal t h e
 | .region _ ops draw,t,h,e,K=>Ui T Γ N ops draw t h e fun t h=>K .normal t h (e+1)
 | .seq a b,t,h,e,K=>HV T Γ N F a t h e fun x t h e=>TF x (HV T Γ N F b t h e K) (K x t h e)
 | .cond c x y,t,h,e,K =>
  match c with
  | .tmp g=>Jl (t g) t g (fun t=>HV T Γ N F x t h e K) (fun t=>HV T Γ N F y t h e K)
  | .const (.bool true)=>HV T Γ N F x t h e K
  | .const (.bool false)=>HV T Γ N F y t h e K
  | _=>False
 | .block id b,t,h,e,K=>HV T Γ N F b t h e fun x t h e=>Nz id x t h e K
 | .loop b,t,h,e,K=>∃x s,iter (dP T Γ N F b) F ⟨t,h,e⟩=some (x,s)∧K x s.t s.h s.e
 | .exit id,t,h,e,K=>K (.exit id) t h e
 | .ret,t,h,e,K=>K .ret t h e
 | _,_,_,_,_=>False
def Sk (mode:Mode) (T:Nat->Option Ty) (lent:Option (D×Row)) (rs:List ResultVar) (x:Ex) (t:Nat->D) (h:Nat->Option Row) (e:Nat) (r:RK×Option Row):Prop :=
 match x with
 | .exit _=>False
 | _=>fp mode T lent rs ⟨t,EH h,e⟩=some r
def U4 (mode:Mode) (T:Nat->Option Ty) (Γ:Env) (F:Nat) (fn:Func) (lent:Option (D×Row)) (args:List D) (r:RK×Option Row):Prop :=
 lx fn.body fun c=>HV T Γ fn.ntmps F c (a8 lent args).t (a8 lent args).h (a8 lent args).e fun x t h e=>Sk mode T lent fn.results.toList x t h e r
theorem nC {α:Type} (a:α) (K:α->Prop):lx (some a) K=K a:=rfl
theorem yf {α:Type} {x:Option α} {K:α->Prop} (h:lx x K):∃a,x=some a∧K a:=by
 cases x with
 | none=>exact h.elim
 | some a=>exact⟨a,rfl,h⟩
theorem Jh {t:Nat->D} {g:Nat} {d:D} (h:t g=d):bj t g d=t:=by
 funext j;unfold bj;split
 ·rename_i e;subst e;exact h.symm
 ·rfl
theorem CC (A B:Prop):br true A B=A:=by simp[br]
theorem wv (A B:Prop):br false A B=B:=by simp[br]
theorem Ql {b:Bool} {A B:Prop} (h:br b A B):if b then A else B:=by
 cases b with
 | true=>exact h.1 rfl
 | false=>exact h.2 rfl
theorem P3 {t:Nat->D} {g:Nat} {b:Bool} {A B:(Nat->D)->Prop} : Jl (.bool b) t g A B=br b (A (bj t g (.bool b))) (B (bj t g (.bool b))):=rfl
theorem sZ {t:Nat->D} {g:Nat} {A B:(Nat->D)->Prop} (h:t g=.bool true):Jl (.bool true) t g A B=A t:=by simp[Jl,Jh h,CC]
theorem qu {t:Nat->D} {g:Nat} {A B:(Nat->D)->Prop} (h:t g=.bool false):Jl (.bool false) t g A B=B t:=by simp[Jl,Jh h,wv]
theorem s5 {t:Nat->D} {g:Nat} {A B S:(Nat->D)->Prop} (h:t g=.bool true):wpS (.bool true) t g A B S=A t:=sZ h
theorem qv {t:Nat->D} {g:Nat} {A B S:(Nat->D)->Prop} (h:t g=.bool false):wpS (.bool false) t g A B S=B t:=qu h
theorem Jm {t:Nat->D} {g:Nat} {A B:(Nat->D)->Prop} (h:Jl (t g) t g A B):∃b,t g=.bool b∧(if b then A t else B t):=by
 unfold Jl at h;split at h
 ·rename_i b O;rw[Jh O]at h;exact⟨b,O,Ql h⟩
 ·exact h.elim
section
variable {T:Nat->Option Ty} {Γ:Env} {N F e:Nat}
theorem P6 {ops:Array Oper} {t:Nat->D} {o:Oper} {A B:(Nat->D)->Prop} (h:P5 ops.toList t o.guard A B):∃b,oZ ops t o=some b∧(if b then A t else B t):=by
 unfold P5 at h;unfold oZ;split at h
 ·rename_i O;try rw[O]
  exact⟨true,rfl,by simpa using h⟩
 ·rename_i j want O;try rw[O]
  obtain⟨g,h1,h2⟩:=yf h;rw[Ww]at h1;unfold wpS at h2;split at h2
  ·rename_i hs;simp only[h1,hs];exact⟨false,rfl,h2⟩
  ·obtain⟨b,h3,h4⟩:=Jm h2;simp only[h1,h3];refine⟨_,rfl,?_⟩;cases b<;>cases want<;>simpa using h4
theorem P4 {o:Oper} {t:Nat->D} {h:Nat->Option Row} {K:(Nat->D)->aR->Prop} (hw:HQ T Γ e o t h K):∃E,kn T Γ e o (ev t) h=some E∧K t E:=by
 unfold HQ at hw;split at hw
 ·rename_i c a b O;obtain⟨v,h1,h2⟩:=Jm hw;have U:jr Γ e h o.dst none=none:=by cases o.dst<;>rfl
  cases v with
  | true=>exact⟨⟨ev t a,[]⟩,by unfold kn er jq;rw[O];simp only[ev,h1,Qb,gO,eQ,U],by simpa only[if_true] using h2⟩
  | false=>exact⟨⟨ev t b,[]⟩,by unfold kn er jq;rw[O];simp only[ev,h1,Qb,gO,eQ,U],by simpa only[Wg,if_false] using h2⟩
 ·obtain⟨E,h1,h2⟩:=yf hw;exact⟨E,h1,h2⟩
theorem Dt {ops:Array Oper} {K:(Nat->D)->(Nat->Option Row)->Prop} : ∀(l:List Oper) (t:Nat->D) (h:Nat->Option Row),yE T Γ N e ops.toList l t h K->∃O h' fs,vD T Γ N e ops l t h=some (O,h',fs)∧K O h'
 | [],t,h,hk=>⟨t,h,[],rfl,hk⟩
 | o::l,t,h,hk=>by
  unfold yE at hk;obtain⟨U,X⟩:=hk;obtain⟨b,h1,h2⟩:=P6 X;unfold vD step1;rw[if_pos U,h1];cases b with
  | true =>
   obtain⟨E,h3,h4⟩:=P4 (by simpa using h2);obtain⟨O,h',fs,h5,h6⟩:=Dt l _ _ h4;simp only[h3,h5];exact⟨_,_,_,rfl,h6⟩
  | false =>
   obtain⟨O,h',fs,h5,h6⟩:=Dt l _ _ (by simpa using h2);simp only[h5];exact⟨_,_,_,rfl,h6⟩
theorem Dr {ops:Array Oper} {K:(Nat->D)->(Nat->Option Row)->List gQ->Prop} : ∀(l:List Oper) (t:Nat->D) (h:Nat->Option Row) (f0:List gQ),runK T Γ N e ops.toList l t h f0 K->∃O h' fs,vD T Γ N e ops l t h=some (O,h',fs)∧K O h' (f0++fs)
 | [],t,h,f0,hk=>⟨t,h,[],rfl,by unfold runK at hk;simpa using hk⟩
 | o::l,t,h,f0,hk=>by
  unfold runK at hk;obtain⟨U,X⟩:=hk;obtain⟨b,h1,h2⟩:=P6 X;unfold vD step1;rw[if_pos U,h1];cases b with
  | true =>
   obtain⟨E,h3,h4⟩:=P4 (by simpa using h2);obtain⟨O,h',fs,h5,h6⟩:=Dr l _ _ _ h4;simp only[h3,h5];exact⟨_,_,_,rfl,by simpa using h6⟩
  | false =>
   obtain⟨O,h',fs,h5,h6⟩:=Dr l _ _ _ (by simpa using h2);simp only[h5];exact⟨_,_,_,rfl,by simpa using h6⟩
theorem SV {ops:Array Oper} {draw:Bool} {t:Nat->D} {h:Nat->Option Row} {K:(Nat->D)->(Nat->Option Row)->Prop} (hk:Ui T Γ N ops draw t h e K):∃O h',qq T Γ N ops draw ⟨t,h,e⟩=some (.normal,⟨O,h',e+1⟩)∧K O h':=by
 unfold qq;cases draw with
 | false =>
  obtain⟨O,h',fs,h1,h2⟩:=Dt _ _ _ hk;simp only[h1];exact⟨O,h',by simp,h2⟩
 | true =>
  obtain⟨O,h',fs,h1,h2,h3⟩:=Dr _ _ _ _ hk;simp only[h1];exact⟨O,h',by rw[Xo]at h2;simp[h2],h3⟩
theorem P8:∀(c:Code) (t:Nat->D) (h:Nat->Option Row) (e:Nat) (K:Kt),HV T Γ N F c t h e K->∃x s,dP T Γ N F c ⟨t,h,e⟩=some (x,s)∧K x s.t s.h s.e:=by
 intro c
 induction c with
 | skip=>intro t h e K hk;exact⟨_,_,rfl,hk⟩
 | region i ops draw =>
  intro t h e K hk;obtain⟨t',h',h1,h2⟩:=SV hk;exact⟨_,_,h1,h2⟩
 | seq a b X Y =>
  intro t h e K hk;obtain⟨x,s,h1,h2⟩:=X _ _ _ _ hk;simp only[dP,h1];cases x with
  | normal =>
   obtain⟨x2,s2,h3,h4⟩:=Y _ _ _ _ h2;exact⟨x2,s2,h3,h4⟩
  | exit n=>exact⟨_,_,rfl,h2⟩
  | ret=>exact⟨_,_,rfl,h2⟩
 | cond c x y O U =>
  intro t h e K hk;unfold HV at hk;split at hk
  ·rename_i g;obtain⟨b,h1,h2⟩:=Jm hk;simp only[dP,ev,h1,HN];cases b with
   | true=>exact O _ _ _ _ (by simpa using h2)
   | false=>exact U _ _ _ _ (by simpa using h2)
  ·simpa only[dP,ev,jR,HN,if_true] using O _ _ _ _ hk
  ·simpa only[dP,ev,jR,HN,Wg,if_false] using U _ _ _ _ hk
  ·exact hk.elim
 | block id b ih =>
  intro t h e K hk;obtain⟨x,s,h1,h2⟩:=ih _ _ _ _ hk;simp only[dP,h1];cases x with
  | normal=>exact⟨_,_,rfl,h2⟩
  | ret=>exact⟨_,_,rfl,h2⟩
  | exit n =>
   simp only[Jj];unfold Nz at h2;simp only at h2;split at h2
   ·rename_i Z;rw[if_pos Z];exact⟨_,_,rfl,h2⟩
   ·rename_i Z;rw[if_neg Z];exact⟨_,_,rfl,h2⟩
 | loop b ih=>intro t h e K hk;exact hk
 | exit id=>intro t h e K hk;exact⟨_,_,rfl,hk⟩
 | ret=>intro t h e K hk;exact⟨_,_,rfl,hk⟩
 | _=>intro t h e K hk;exact hk.elim
theorem P9 {mode:Mode} {fn:Func} {lent:Option (D×Row)} {args:List D} {r:RK×Option Row} (h:U4 mode T Γ F fn lent args r) (O:fn.ntmps<=PK):iQ mode T Γ F fn lent args=some r:=by
 obtain⟨c,h1,h2⟩:=yf h;obtain⟨x,s,h3,h4⟩:=P8 _ _ _ _ _ h2;unfold iQ;simp only[h1];rw[if_pos O];have U:a8 lent args=⟨(a8 lent args).t,(a8 lent args).h,(a8 lent args).e⟩:=rfl;rw[U,h3];unfold Sk at h4;split at h4
 ·exact h4.elim
 ·rename_i X;split
  ·rename_i n _ he;cases he;exact (X n rfl).elim
  ·rename_i _ x' Y _ he;cases he;exact h4
  ·rename_i he;cases he
theorem LA {α:Type} (f:Nat->α) (i:Nat) (v:α) (j:Nat):bj f i v j=if j=i then v else f j:=Yc
def H6 (args:List D) (i:Nat):D:=args.getD i .und
theorem DS (i:Nat):H6 [] i=.und:=by simp[H6]
theorem zL (d:D) (l:List D):H6 (d::l) 0=d:=Yc
theorem zK (d:D) (l:List D) (i:Nat):H6 (d::l) (i+1)=H6 l i:=Yc
def RJ (_:Nat):Option Row:=none
theorem Bz (i:Nat):RJ i=none:=Yc
end
inductive W where
 | code (c:Code)
 | blk (id:Nat)
section
variable (T:Nat->Option Ty) (Γ:Env) (N F:Nat)
def bX:List W->Kt->Kt
 | [],Q=>Q
 | .code c::ws,Q=>fun x t h e=>TF x (HV T Γ N F c t h e (bX ws Q)) (bX ws Q x t h e)
 | .blk id::ws,Q=>fun x t h e=>Nz id x t h e (bX ws Q)
def iE (ops l:List Oper) (ws:List W) (Q:Kt) (t:Nat->D) (h:Nat->Option Row) (e:Nat):Prop :=
 yE T Γ N e ops l t h fun t h=>bX T Γ N F ws Q .normal t h (e+1)
def iF (ops l:List Oper) (ws:List W) (Q:Kt) (t:Nat->D) (h:Nat->Option Row) (e:Nat) (fs:List gQ):Prop :=
 runK T Γ N e ops l t h fs fun t h fs=>w9 ops.toArray fs=true∧bX T Γ N F ws Q .normal t h (e+1)
def kH (o:Oper) (ops l:List Oper) (ws:List W) (Q:Kt) (t:Nat->D) (h:Nat->Option Row) (e:Nat):Prop :=
 HQ T Γ e o t h fun t E=>iE T Γ N F ops l ws Q (cP t o.dst E.val) (ay h E.hw) e
def kI (o:Oper) (ops l:List Oper) (ws:List W) (Q:Kt) (t:Nat->D) (h:Nat->Option Row) (e:Nat) (fs:List gQ):Prop :=
 HQ T Γ e o t h fun t E=>iF T Γ N F ops l ws Q (cP t o.dst E.val) (ay h E.hw) e (fs++[⟨aN o (ev t),E.hw.isEmpty⟩])
def qz (d:D) (g:Nat) (want:Bool) (o:Oper) (ops l:List Oper) (ws:List W) (Q:Kt) (t:Nat->D) (h:Nat->Option Row) (e:Nat):Prop :=
 wpS d t g (fun t=>if want then kH T Γ N F o ops l ws Q t h e else iE T Γ N F ops l ws Q (cP t o.dst .skp) h e) (fun t=>if want then iE T Γ N F ops l ws Q (cP t o.dst .skp) h e else kH T Γ N F o ops l ws Q t h e) (fun t=>iE T Γ N F ops l ws Q (cP t o.dst .skp) h e)
def qA (d:D) (g:Nat) (want:Bool) (o:Oper) (ops l:List Oper) (ws:List W) (Q:Kt) (t:Nat->D) (h:Nat->Option Row) (e:Nat) (fs:List gQ):Prop :=
 wpS d t g (fun t=>if want then kI T Γ N F o ops l ws Q t h e fs else iF T Γ N F ops l ws Q (cP t o.dst .skp) h e (fs++[⟨[],true⟩])) (fun t=>if want then iF T Γ N F ops l ws Q (cP t o.dst .skp) h e (fs++[⟨[],true⟩]) else kI T Γ N F o ops l ws Q t h e fs) (fun t=>iF T Γ N F ops l ws Q (cP t o.dst .skp) h e (fs++[⟨[],true⟩]))
def yL (x y:Option aR) (dst:Option Nat) (ops l:List Oper) (ws:List W) (Q:Kt) (t:Nat->D) (h:Nat->Option Row) (e:Nat):Prop :=
 lx (Qb h x y) fun E=>iE T Γ N F ops l ws Q (cP t dst E.val) (ay h E.hw) e
def yM (x y:Option aR) (dst:Option Nat) (O:List Nat) (ops l:List Oper) (ws:List W) (Q:Kt) (t:Nat->D) (h:Nat->Option Row) (e:Nat) (fs:List gQ):Prop :=
 lx (Qb h x y) fun E=>iF T Γ N F ops l ws Q (cP t dst E.val) (ay h E.hw) e (fs++[⟨O,E.hw.isEmpty⟩])
def sS (x:Option aR) (dst:Option Nat) (ops l:List Oper) (ws:List W) (Q:Kt) (t:Nat->D) (h:Nat->Option Row) (e:Nat):Prop:=yL T Γ N F x none dst ops l ws Q t h e
def sT (x:Option aR) (dst:Option Nat) (O:List Nat) (ops l:List Oper) (ws:List W) (Q:Kt) (t:Nat->D) (h:Nat->Option Row) (e:Nat) (fs:List gQ):Prop:=yM T Γ N F x none dst O ops l ws Q t h e fs
def zy (y:Option aR) (dst:Option Nat) (ops l:List Oper) (ws:List W) (Q:Kt) (t:Nat->D) (h:Nat->Option Row) (e:Nat):Prop :=
 lx y fun E=>iE T Γ N F ops l ws Q (cP t dst E.val) (ay h E.hw) e
def zA (y:Option aR) (dst:Option Nat) (O:List Nat) (ops l:List Oper) (ws:List W) (Q:Kt) (t:Nat->D) (h:Nat->Option Row) (e:Nat) (fs:List gQ):Prop :=
 lx y fun E=>iF T Γ N F ops l ws Q (cP t dst E.val) (ay h E.hw) e (fs++[⟨O,E.hw.isEmpty⟩])
def DA (d:D) (g:Nat) (x y:Code) (ws:List W) (Q:Kt) (t:Nat->D) (h:Nat->Option Row) (e:Nat):Prop :=
 Jl d t g (fun t=>bX T Γ N F (.code x::ws) Q .normal t h e) (fun t=>bX T Γ N F (.code y::ws) Q .normal t h e)
def Pb (d:D) (g:Nat) (a b:Operand) (dst:Option Nat) (ops l:List Oper) (ws:List W) (Q:Kt) (t:Nat->D) (h:Nat->Option Row) (e:Nat):Prop :=
 Jl d t g (fun t=>iE T Γ N F ops l ws Q (cP t dst (ev t a)) h e) (fun t=>iE T Γ N F ops l ws Q (cP t dst (ev t b)) h e)
def Pc (d:D) (g:Nat) (a b:Operand) (dst:Option Nat) (ops l:List Oper) (ws:List W) (Q:Kt) (t:Nat->D) (h:Nat->Option Row) (e:Nat) (fs:List gQ):Prop :=
 Jl d t g (fun t=>iF T Γ N F ops l ws Q (cP t dst (ev t a)) h e (fs++[⟨[],true⟩])) (fun t=>iF T Γ N F ops l ws Q (cP t dst (ev t b)) h e (fs++[⟨[],true⟩]))
def K6 (b:Code) (ws:List W) (Q:Kt) (t:Nat->D) (h:Nat->Option Row) (e:Nat):Prop:=HV T Γ N F (.loop b) t h e (bX T Γ N F ws Q)
end
theorem Bg {n:Nat} (h:n<=1000000):n<=maxLen:=VI h (by decide)
theorem BK {z:List D} : jK 0 z=[]:=Yc
theorem BJ {n:Nat} {z:List D} : jK (n+1) z=z++jK n z:=by simp[jK,List.replicate_succ]
theorem AY {N:Nat} : fits N none=true:=Yc
theorem AZ {N i:Nat} : fits N (some i)=decide (i<N):=Yc
def oL:List Oper->Nat->Nat
 | [],_=>0
 | o::_,0=>o.dst.getD 0
 | _::l,j+1=>oL l j
def sy:List Oper->Nat->Bool
 | [],_=>false
 | o::_,0=>o.dst.isSome
 | _::l,j+1=>sy l j
theorem w4:∀(l:List Oper) (j:Nat),sy l j=true->(l[j]?).bind (·.dst)=some (oL l j)
 | [],j,h=>by simp[sy]at h
 | o::l,0,h=>by
  simp only[sy]at h;simp only[List.getElem?_cons_zero,Option.bind_some,oL];cases O:o.dst with
  | none=>rw[O]at h;cases h
  | some d=>rfl
 | o::l,j+1,h=>by simpa [oL] using w4 l j h
theorem w6 {d:Nat} {op:Op} {ty:Nat} {pos:String} {af:Array Edge} {gd:Option (Nat×Bool)} {l:List Oper} : oL (⟨some d,op,ty,pos,af,gd⟩::l) 0=d:=Yc
theorem w5 {o:Oper} {l:List Oper} {j:Nat} : oL (o::l) (j+1)=oL l j:=Yc
theorem xG {d:Nat} {op:Op} {ty:Nat} {pos:String} {af:Array Edge} {gd:Option (Nat×Bool)} {l:List Oper} : sy (⟨some d,op,ty,pos,af,gd⟩::l) 0=true:=Yc
theorem xF {o:Oper} {l:List Oper} {j:Nat} : sy (o::l) (j+1)=sy l j:=Yc
section
variable {dst:Option Nat} {ty:Nat} {pos:String} {af:Array Edge} {gd:Option (Nat×Bool)} {vs:Operand->D}
def sH (vs:Operand->D):List Operand->List Nat
 | []=>[]
 | x::l=>nm (vs x)++sH vs l
theorem dM (vs:Operand->D):∀l:List Operand,(l.flatMap fun x=>nm (vs x))=sH vs l
 | []=>Eq.trans rfl rfl
 | x::l=>by rw[List.flatMap_cons,dM vs l];exact Eq.trans rfl rfl
theorem KT:sH vs []=[]:=Yc
theorem Gx {x:Operand} {l:List Operand} : sH vs (x::l)=nm (vs x)++sH vs l:=Yc
theorem u5 {o:BinOp} {O z:Nat} {x y:Operand} : aN ⟨dst,.binOp o O x y z,ty,pos,af,gd⟩ vs=(sH vs [x,y]++dst.toList).map rt:=by rw[<- dM];rfl
theorem yR {o:UnOp} {O:Nat} {x:Operand} : aN ⟨dst,.unOp o O x,ty,pos,af,gd⟩ vs=(sH vs [x]++dst.toList).map rt:=by rw[<- dM];rfl
theorem sU {x:Operand} : aN ⟨dst,.assign x,ty,pos,af,gd⟩ vs=(sH vs [x]++dst.toList).map rt:=by rw[<- dM];rfl
theorem yQ {O:Nat} {x:Operand} : aN ⟨dst,.load O x,ty,pos,af,gd⟩ vs=(sH vs [x]++dst.toList).map rt:=by rw[<- dM];rfl
theorem vb {O:Nat} {x y:Operand} : aN ⟨dst,.store O x y,ty,pos,af,gd⟩ vs=(sH vs [x,y]++dst.toList).map rt:=by rw[<- dM];rfl
theorem pF {x:Operand} : aN ⟨dst,.nilCheck x,ty,pos,af,gd⟩ vs=(sH vs [x]++dst.toList).map rt:=by rw[<- dM];rfl
theorem og {O i:Nat} {x:Operand} : aN ⟨dst,.fieldAddr O x i,ty,pos,af,gd⟩ vs=(sH vs [x]++dst.toList).map rt:=by rw[<- dM];rfl
theorem u7 {O i:Nat} {x:Operand} : aN ⟨dst,.field O x i,ty,pos,af,gd⟩ vs=(sH vs [x]++dst.toList).map rt:=by rw[<- dM];rfl
theorem oh {O:Nat} {x i:Operand} : aN ⟨dst,.indexAddr O x i,ty,pos,af,gd⟩ vs=(sH vs [x,i]++dst.toList).map rt:=by rw[<- dM];rfl
theorem u9 {O:Nat} {x i:Operand} : aN ⟨dst,.index O x i,ty,pos,af,gd⟩ vs=(sH vs [x,i]++dst.toList).map rt:=by rw[<- dM];rfl
theorem oo {O:Nat} {x y:Operand} : aN ⟨dst,.makeSlice O x y,ty,pos,af,gd⟩ vs=(sH vs [x,y]++dst.toList).map rt:=by rw[<- dM];rfl
theorem u4 {O:Nat} : aN ⟨dst,.alloc O,ty,pos,af,gd⟩ vs=(sH vs []++dst.toList).map rt:=by rw[<- dM];rfl
theorem Cl {O:Nat} {x:Operand} : aN ⟨dst,.box O x,ty,pos,af,gd⟩ vs=(sH vs [x]++dst.toList).map rt:=by rw[<- dM];rfl
theorem qQ {O:Nat} : aN ⟨dst,.makeMap O none,ty,pos,af,gd⟩ vs=(sH vs []++dst.toList).map rt:=by rw[<- dM];rfl
theorem sW {O:Nat} {m i:Operand} {ok:Bool} : aN ⟨dst,.lookup O m i ok,ty,pos,af,gd⟩ vs=(sH vs [m,i]++dst.toList).map rt:=by rw[<- dM];rfl
theorem ot {O:Nat} {m i x:Operand} : aN ⟨dst,.mapUpdate O m i x,ty,pos,af,gd⟩ vs=(sH vs [m,i,x]++dst.toList).map rt:=by rw[<- dM];rfl
theorem sV {O:Nat} {m i x:Operand} : aN ⟨dst,.insert O m i x,ty,pos,af,gd⟩ vs=(sH vs [m,i,x]++dst.toList).map rt:=by rw[<- dM];rfl
theorem qO {a b:Nat} {x:Operand} : aN ⟨dst,.convert a b x,ty,pos,af,gd⟩ vs=(sH vs [x]++dst.toList).map rt:=by rw[<- dM];rfl
theorem qP {x:Operand} {i:Nat} : aN ⟨dst,.extract x i,ty,pos,af,gd⟩ vs=(sH vs [x]++dst.toList).map rt:=by rw[<- dM];rfl
theorem u6 {U:Nat} {O:List (Nat×Operand)} : aN ⟨dst,.build U O.toArray,ty,pos,af,gd⟩ vs=(sH vs (O.map (·.2))++dst.toList).map rt:=by rw[<- dM];rfl
theorem mO {U len:Nat} {O:List (Nat×Operand)} : aN ⟨dst,.buildSlice U len O.toArray,ty,pos,af,gd⟩ vs=(sH vs (O.map (·.2))++dst.toList).map rt:=by rw[<- dM];rfl
theorem va {Y:Nat} {x:Operand} {O U X:Option Operand} : aN ⟨dst,.slice Y x O U X,ty,pos,af,gd⟩ vs=(sH vs (x::(O.toList++(U.toList++X.toList)))++dst.toList).map rt:=by
 rw[<- dM];cases O<;>cases U<;>cases X<;>rfl
theorem yP {x:Operand} {l:List Operand} {O:Array Nat} : aN ⟨dst,.call ⟨.value x,l.toArray,O⟩,ty,pos,af,gd⟩ vs=(sH vs (x::l)++dst.toList).map rt:=by
 rw[<- dM];simp[aN,ej,Op.operands,Call.operands]
theorem qN {x:Builtin} {l:List Operand} {O:Array Nat} : aN ⟨dst,.call ⟨.builtin x,l.toArray,O⟩,ty,pos,af,gd⟩ vs=(sH vs l++dst.toList).map rt:=by
 rw[<- dM];simp[aN,ej,Op.operands,Call.operands]
end
section
variable {T:Nat->Option Ty} {ty e:Nat} {dst:Option Nat} {h:Nat->Option Row}
theorem JH {k:IntKind} {n:Int} : aW T ty e dst h (.int k n)=some ⟨.int k n,[]⟩:=Yc
theorem DT {b:Bool} : aW T ty e dst h (.bool b)=some ⟨.bool b,[]⟩:=Yc
theorem JL {b:ByteArray} : aW T ty e dst h (.str b)=some ⟨.str b,[]⟩:=Yc
theorem Nw {O:Bool} {n:Nat} {xs:List D} : aW T ty e dst h (.sl false O n xs)=some ⟨.sl false O n xs,[]⟩:=Yc
theorem JK {x v o:Nat} : aW T ty e dst h (.ptr x v o)=some ⟨.ptr x v o,[]⟩:=Yc
theorem Nt {xs:List D} : aW T ty e dst h (.ip xs)=some ⟨.ip xs,[]⟩:=Yc
theorem JF {xs:List D} : aW T ty e dst h (.agg xs)=some ⟨.agg xs,[]⟩:=Yc
theorem JM {xs:List D} : aW T ty e dst h (.tup xs)=some ⟨.tup xs,[]⟩:=Yc
theorem Ns {f:Nat} : aW T ty e dst h (.fn f)=some ⟨.fn f,[]⟩:=Yc
theorem Nu {x v:Nat} : aW T ty e dst h (.mp x v)=some ⟨.mp x v,[]⟩:=Yc
theorem JI {ks:List bC} {vs:List D} : aW T ty e dst h (.mpc ks vs)=some ⟨.mpc ks vs,[]⟩:=Yc
theorem Nv {x v y:Nat} : aW T ty e dst h (.pm x v y)=some ⟨.pm x v y,[]⟩:=Yc
theorem vK {f O:Nat} {xs:List D} : aW T ty e dst h (.clo f O xs)=some ⟨.clo f O xs,[]⟩:=Yc
def Sa (b:Bool) (T:Nat->Option Ty) (ty e d:Nat) (h:Nat->Option Row) (x:D):Option aR:=if b then aW T ty e (some d) h x else eX h x
theorem zR {d:Nat} {x:D} : Sa true T ty e d h x=aW T ty e (some d) h x:=Yc
theorem wh {d:Nat} {x:D} : Sa false T ty e d h x=eX h x:=Yc
theorem Rj {q:Nat->Bool} {d:Nat} {x:D} : me T q ty e (some d) h x=Sa (q d) T ty e d h x:=Yc
theorem JC {k:IntKind} {n:Int} : eX h (.int k n)=some ⟨.int k n,[]⟩:=Yc
theorem DM {b:Bool} : eX h (.bool b)=some ⟨.bool b,[]⟩:=Yc
theorem JD {b:ByteArray} : eX h (.str b)=some ⟨.str b,[]⟩:=Yc
theorem JA {xs:List D} : eX h (.agg xs)=some ⟨.agg (xs.map canon),[]⟩:=Yc
theorem Nf {a b:Bool} {n:Nat} {xs:List D} : eX h (.sl a b n xs)=some ⟨.sl false false n xs,[]⟩:=Yc
theorem JN:aW T ty e dst h .und=some ⟨.und,[]⟩:=Yc
def Qj (e d y s o n:Nat) (r:Row):Bool->Option aR
 | true=>some ⟨.buf y r.v s o n,[]⟩
 | false=>some ⟨.buf d e s o n,[(y,none),(d,some { r with v:=e })]⟩
theorem wg {d y s o n:Nat} {r:Row} : Qj e d y s o n r false=some ⟨.buf d e s o n,[(y,none),(d,some { r with v:=e })]⟩:=Yc
def R9 (y v s o n:Nat):Option Row->Option aR
 | some _=>some ⟨.buf y v s o n,[]⟩
 | none=>some ⟨.und,[]⟩
theorem zN {y v s o n:Nat} {r:Row} : R9 y v s o n (some r)=some ⟨.buf y v s o n,[]⟩:=Yc
def Nr (e:Nat) (dst:Option Nat) (y s o n:Nat) (w:Option aR):Option Row->Option aR
 | some r=>match dst with|some d=>Qj e d y s o n r r.fz|none=>w
 | none=>w
theorem zP {d y s o n:Nat} {r:Row} {w:Option aR} : Nr e (some d) y s o n w (some r)=Qj e d y s o n r r.fz:=Yc
theorem zO {d y s o n:Nat} {w:Option aR} : Nr e (some d) y s o n w none=w:=Yc
theorem JG {d y v s o n:Nat} : aW T ty e (some d) h (.buf y v s o n)=Nr e (some d) y s o n (R9 y v s o n (jX h y v)) (live h y v):=by
 simp only[aW];cases O:live h y v with
 | none=>simp only[Nr];cases jX h y v<;>simp[R9]
 | some r =>
  obtain⟨_,U⟩:=bg O;simp only[Nr];cases X:r.fz<;>simp[Qj,U,X]
def Qk (e:Nat) (dst:Option Nat) (T:Nat->Option Ty):Option Ty->Option aR
 | some τ =>
  match dst with
  | some d=>match τ.ds with
   | .slice el=>match T el with|some φ=>some ⟨.buf d e φ.size 0 0,[(d,some ⟨e,el,[],false,true,false⟩)]⟩|none=>none
   | _=>none
  | none=>none
 | none=>none
theorem zQ {d el b c:Nat} {z:List Value} {q:Bool} {φ:Ty} (O:T el=some φ):Qk e (some d) T (some ⟨.slice el,b,c,z,q⟩)=some ⟨.buf d e φ.size 0 0,[(d,some ⟨e,el,[],false,true,false⟩)]⟩:=by simp only[Qk,O]
theorem JJ:aW T ty e dst h (.sl true true 0 [])=Qk e dst T (T ty):=by
 unfold aW Qk;cases dst<;>cases T ty<;>rfl
end
def RL (x:Option D):Option aR:=match x with|some d=>some ⟨d,[]⟩|none=>none
theorem GM (d:D):RL (some d)=some ⟨d,[]⟩:=Yc
def rD (x:Option Ty) (f:Ty->Option aR):Option aR:=match x with|some τ=>f τ|none=>none
theorem GV (τ:Ty) (f:Ty->Option aR):rD (some τ) f=f τ:=Yc
def Sc (x:Option (List D×List Nat)) (h:Nat->Option Row) (ty d e:Nat):Option aR :=
 match x with
 | some (cs,fr)=>if fr.contains d=false then some ⟨.ptr d e 0,fB h fr++[(d,some ⟨e,ty,cs,false,false,false⟩)]⟩ else none
 | none=>none
theorem zV (cs:List D) (fr:List Nat) (h:Nat->Option Row) (ty d e:Nat):Sc (some (cs,fr)) h ty d e=if fr.contains d=false then some ⟨.ptr d e 0,fB h fr++[(d,some ⟨e,ty,cs,false,false,false⟩)]⟩ else none:=Yc
def QM (d e:Nat):Option Nat->D
 | some y =>.pm d e y
 | none =>.ptr d e 0
theorem BG {d e y:Nat} : QM d e (some y)=.pm d e y:=Yc
theorem BF {d e:Nat} : QM d e none=.ptr d e 0:=Yc
def wb (x:Option Ty) (ty d e:Nat) (y:Option Nat):Option aR :=
 match x with
 | some τ=>if (τ.zero.map jR).all aF then some ⟨QM d e y,[(d,some ⟨e,ty,τ.zero.map jR,false,false,false⟩)]⟩ else none
 | none=>none
theorem tY (τ:Ty) (ty d e:Nat) (y:Option Nat):wb (some τ) ty d e y=if (τ.zero.map jR).all aF then some ⟨QM d e y,[(d,some ⟨e,ty,τ.zero.map jR,false,false,false⟩)]⟩ else none:=Yc
def To (T:Nat->Option Ty) (x:Option Ty) (ty e d:Nat):Option aR:=match x with|some τ=>k9 T ty τ e d|none=>none
def NS (x y:Option Ty) (d:D):Option aR :=
 match x,y,d with
 | some τ,some _,.int _ n=>(match τ.ds with | .int k=>some ⟨.int k (k.wrap n),[]⟩|_=>none)
 | _,_,_=>none
theorem Ao (k:IntKind) (b c:Nat) (z:List Value) (q:Bool) (σ:Ty) (k':IntKind) (n:Int):NS (some ⟨.int k,b,c,z,q⟩) (some σ) (.int k' n)=some ⟨.int k (k.wrap n),[]⟩:=Yc
def QC (d:D) (i:Nat):Option aR:=match d with | .tup xs=>(match xs[i]? with|some d=>some ⟨d,[]⟩|none=>none)|_=>none
theorem E7 (xs:List D) (i:Nat):QC (.tup xs) i=RL xs[i]?:=by simp only[QC,RL]
section
variable {T:Nat->Option Ty} {Γ:Env} {N F e:Nat} {ws:List W} {Q:Kt} {t:Nat->D} {h:Nat->Option Row}
theorem dD {x:Ex} : bX T Γ N F [] Q x t h e=Q x t h e:=Yc
theorem BT:bX T Γ N F (.code .skip::ws) Q .normal t h e=bX T Γ N F ws Q .normal t h e:=Yc
theorem Hb {a b:Code} : bX T Γ N F (.code (.seq a b)::ws) Q .normal t h e=bX T Γ N F (.code a :: .code b::ws) Q .normal t h e:=Yc
theorem Ha:bX T Γ N F (.code .ret::ws) Q .normal t h e=bX T Γ N F ws Q .ret t h e:=Yc
theorem BR {id:Nat} : bX T Γ N F (.code (.exit id)::ws) Q .normal t h e=bX T Γ N F ws Q (.exit id) t h e:=Yc
theorem yF {id:Nat} {b:Code} : bX T Γ N F (.code (.block id b)::ws) Q .normal t h e=bX T Γ N F (.code b :: .blk id::ws) Q .normal t h e:=Yc
theorem BS {b:Code} : bX T Γ N F (.code (.loop b)::ws) Q .normal t h e=K6 T Γ N F b ws Q t h e:=Yc
theorem bf {c:Code} : bX T Γ N F (.code c::ws) Q .ret t h e=bX T Γ N F ws Q .ret t h e:=Yc
theorem aZ {c:Code} {n:Nat} : bX T Γ N F (.code c::ws) Q (.exit n) t h e=bX T Γ N F ws Q (.exit n) t h e:=Yc
theorem od {id:Nat} : bX T Γ N F (.blk id::ws) Q .normal t h e=bX T Γ N F ws Q .normal t h e:=Yc
theorem bq {id:Nat} : bX T Γ N F (.blk id::ws) Q .ret t h e=bX T Γ N F ws Q .ret t h e:=Yc
theorem qL {id n:Nat} : bX T Γ N F (.blk id::ws) Q (.exit n) t h e=if n=id then bX T Γ N F ws Q .normal t h e else bX T Γ N F ws Q (.exit n) t h e:=Yc
theorem u3 {i:Nat} {ops:List Oper} : bX T Γ N F (.code (.region i ops.toArray false)::ws) Q .normal t h e=iE T Γ N F ops ops ws Q t h e:=Yc
theorem yI {i:Nat} {ops:List Oper} : bX T Γ N F (.code (.region i ops.toArray true)::ws) Q .normal t h e=iF T Γ N F ops ops ws Q t h e []:=Yc
theorem BQ {g:Nat} {x y:Code} : bX T Γ N F (.code (.cond (.tmp g) x y)::ws) Q .normal t h e=DA T Γ N F (t g) g x y ws Q t h e:=Yc
theorem yH {x y:Code} : bX T Γ N F (.code (.cond (.const (.bool true)) x y)::ws) Q .normal t h e=bX T Γ N F (.code x::ws) Q .normal t h e:=Yc
theorem yG {x y:Code} : bX T Γ N F (.code (.cond (.const (.bool false)) x y)::ws) Q .normal t h e=bX T Γ N F (.code y::ws) Q .normal t h e:=Yc
theorem Cn {g:Nat} {x y:Code} (O:t g=.bool true):DA T Γ N F (.bool true) g x y ws Q t h e=bX T Γ N F (.code x::ws) Q .normal t h e:=sZ O
theorem yT {g:Nat} {x y:Code} (O:t g=.bool false):DA T Γ N F (.bool false) g x y ws Q t h e=bX T Γ N F (.code y::ws) Q .normal t h e:=qu O
theorem MN {b:Bool} {g:Nat} {x y:Code} : DA T Γ N F (.bool b) g x y ws Q t h e=br b (bX T Γ N F (.code x::ws) Q .normal (bj t g (.bool true)) h e) (bX T Γ N F (.code y::ws) Q .normal (bj t g (.bool false)) h e):=by
 unfold DA;rw[P3];cases b<;>simp[br]
variable {ops l:List Oper} {dst:Option Nat} {op:Op} {ty:Nat} {pos:String} {af:Array Edge} {gd:Option (Nat×Bool)} {fs:List gQ}
theorem G8:iE T Γ N F ops [] ws Q t h e=bX T Γ N F ws Q .normal t h (e+1):=Yc
theorem BO (O:fits N dst=true):iE T Γ N F ops (⟨dst,op,ty,pos,af,none⟩::l) ws Q t h e=kH T Γ N F ⟨dst,op,ty,pos,af,none⟩ ops l ws Q t h e:=by
 simp only[iE,yE,P5,O,true_and,kH]
theorem yC {j:Nat} {want:Bool} (O:fits N dst=true) (U:sy ops j=true):iE T Γ N F ops (⟨dst,op,ty,pos,af,some (j,want)⟩::l) ws Q t h e=qz T Γ N F (t (oL ops j)) (oL ops j) want ⟨dst,op,ty,pos,af,none⟩ ops l ws Q t h e:=by
 simp only[iE,yE,P5,O,true_and,w4 ops j U,nC,qz]<;>cases want<;>rfl
theorem HI {g:Nat} {want:Bool} {o:Oper} : qz T Γ N F .skp g want o ops l ws Q t h e=iE T Γ N F ops l ws Q (cP t o.dst .skp) h e:=Yc
theorem Co {g:Nat} {o:Oper} (O:t g=.bool true):qz T Γ N F (.bool true) g true o ops l ws Q t h e=kH T Γ N F o ops l ws Q t h e:=(s5 O).trans (if_pos rfl)
theorem yU {g:Nat} {o:Oper} (O:t g=.bool false):qz T Γ N F (.bool false) g true o ops l ws Q t h e=iE T Γ N F ops l ws Q (cP t o.dst .skp) h e:=(qv O).trans (if_pos rfl)
theorem yV {g:Nat} {o:Oper} (O:t g=.bool true):qz T Γ N F (.bool true) g false o ops l ws Q t h e=iE T Γ N F ops l ws Q (cP t o.dst .skp) h e:=(s5 O).trans (if_neg (by decide))
theorem vc {g:Nat} {o:Oper} (O:t g=.bool false):qz T Γ N F (.bool false) g false o ops l ws Q t h e=kH T Γ N F o ops l ws Q t h e:=(qv O).trans (if_neg (by decide))
theorem MO {b:Bool} {g:Nat} {o:Oper} : qz T Γ N F (.bool b) g true o ops l ws Q t h e=br b (kH T Γ N F o ops l ws Q (bj t g (.bool true)) h e) (iE T Γ N F ops l ws Q (cP (bj t g (.bool false)) o.dst .skp) h e):=by
 unfold qz;rw[s4];cases b<;>simp[br]
theorem Je {b:Bool} {g:Nat} {o:Oper} : qz T Γ N F (.bool b) g false o ops l ws Q t h e=br b (iE T Γ N F ops l ws Q (cP (bj t g (.bool true)) o.dst .skp) h e) (kH T Γ N F o ops l ws Q (bj t g (.bool false)) h e):=by
 unfold qz;rw[s4];cases b<;>simp[br]
theorem G9:iF T Γ N F ops [] ws Q t h e fs=(w9 ops.toArray fs=true∧bX T Γ N F ws Q .normal t h (e+1)):=Yc
theorem BP (O:fits N dst=true):iF T Γ N F ops (⟨dst,op,ty,pos,af,none⟩::l) ws Q t h e fs=kI T Γ N F ⟨dst,op,ty,pos,af,none⟩ ops l ws Q t h e fs:=by
 simp only[iF,runK,P5,O,true_and,kI]
theorem yD {j:Nat} {want:Bool} (O:fits N dst=true) (U:sy ops j=true):iF T Γ N F ops (⟨dst,op,ty,pos,af,some (j,want)⟩::l) ws Q t h e fs=qA T Γ N F (t (oL ops j)) (oL ops j) want ⟨dst,op,ty,pos,af,none⟩ ops l ws Q t h e fs:=by
 simp only[iF,runK,P5,O,true_and,w4 ops j U,nC,qA]<;>cases want<;>rfl
theorem HK {g:Nat} {want:Bool} {o:Oper} : qA T Γ N F .skp g want o ops l ws Q t h e fs=iF T Γ N F ops l ws Q (cP t o.dst .skp) h e (fs++[⟨[],true⟩]):=Yc
theorem Cp {g:Nat} {o:Oper} (O:t g=.bool true):qA T Γ N F (.bool true) g true o ops l ws Q t h e fs=kI T Γ N F o ops l ws Q t h e fs:=(s5 O).trans (if_pos rfl)
theorem yW {g:Nat} {o:Oper} (O:t g=.bool false):qA T Γ N F (.bool false) g true o ops l ws Q t h e fs=iF T Γ N F ops l ws Q (cP t o.dst .skp) h e (fs++[⟨[],true⟩]):=(qv O).trans (if_pos rfl)
theorem yX {g:Nat} {o:Oper} (O:t g=.bool true):qA T Γ N F (.bool true) g false o ops l ws Q t h e fs=iF T Γ N F ops l ws Q (cP t o.dst .skp) h e (fs++[⟨[],true⟩]):=(s5 O).trans (if_neg (by decide))
theorem vd {g:Nat} {o:Oper} (O:t g=.bool false):qA T Γ N F (.bool false) g false o ops l ws Q t h e fs=kI T Γ N F o ops l ws Q t h e fs:=(qv O).trans (if_neg (by decide))
theorem MP {b:Bool} {g:Nat} {o:Oper} : qA T Γ N F (.bool b) g true o ops l ws Q t h e fs=br b (kI T Γ N F o ops l ws Q (bj t g (.bool true)) h e fs) (iF T Γ N F ops l ws Q (cP (bj t g (.bool false)) o.dst .skp) h e (fs++[⟨[],true⟩])):=by
 unfold qA;rw[s4];cases b<;>simp[br]
theorem Jf {b:Bool} {g:Nat} {o:Oper} : qA T Γ N F (.bool b) g false o ops l ws Q t h e fs=br b (iF T Γ N F ops l ws Q (cP (bj t g (.bool true)) o.dst .skp) h e (fs++[⟨[],true⟩])) (kI T Γ N F o ops l ws Q (bj t g (.bool false)) h e fs):=by
 unfold qA;rw[s4];cases b<;>simp[br]
theorem Ho {d:D} {hw:List (Nat×Option Row)} : sS T Γ N F (some ⟨d,hw⟩) dst ops l ws Q t h e=iE T Γ N F ops l ws Q (cP t dst d) (ay h (gO h hw)) e:=Yc
theorem Hw {d:D} {hw:List (Nat×Option Row)} {O:List Nat} : sT T Γ N F (some ⟨d,hw⟩) dst O ops l ws Q t h e fs=iF T Γ N F ops l ws Q (cP t dst d) (ay h (gO h hw)) e (fs++[⟨O,(gO h hw).isEmpty⟩]):=Yc
theorem Lf {c:Prop} [Decidable c] {E:aR} : sS T Γ N F (if c then some E else none) dst ops l ws Q t h e=(c∧sS T Γ N F (some E) dst ops l ws Q t h e):=by
 by_cases O:c<;>simp[O,sS,yL,Qb,lx]
theorem Lk {c:Prop} [Decidable c] {E:aR} {O:List Nat} : sT T Γ N F (if c then some E else none) dst O ops l ws Q t h e fs=(c∧sT T Γ N F (some E) dst O ops l ws Q t h e fs):=by
 by_cases U:c<;>simp[U,sT,yM,Qb,lx]
theorem B4 {E:aR} {y:Option aR} : yL T Γ N F (some E) y dst ops l ws Q t h e=sS T Γ N F (some E) dst ops l ws Q t h e:=Yc
theorem Ce {E:aR} {y:Option aR} {O:List Nat} : yM T Γ N F (some E) y dst O ops l ws Q t h e fs=sT T Γ N F (some E) dst O ops l ws Q t h e fs:=Yc
theorem B3 {y:Option aR} : yL T Γ N F none y dst ops l ws Q t h e=zy T Γ N F y dst ops l ws Q t h e:=Yc
theorem Cd {y:Option aR} {O:List Nat} : yM T Γ N F none y dst O ops l ws Q t h e fs=zA T Γ N F y dst O ops l ws Q t h e fs:=Yc
theorem Le {x:Option aR} : yL T Γ N F x none dst ops l ws Q t h e=sS T Γ N F x dst ops l ws Q t h e:=Yc
theorem Lj {x:Option aR} {O:List Nat} : yM T Γ N F x none dst O ops l ws Q t h e fs=sT T Γ N F x dst O ops l ws Q t h e fs:=Yc
theorem B5 {d:D} {hw:List (Nat×Option Row)} : zy T Γ N F (some ⟨d,hw⟩) dst ops l ws Q t h e=iE T Γ N F ops l ws Q (cP t dst d) (ay h hw) e:=Yc
theorem Cf {d:D} {hw:List (Nat×Option Row)} {O:List Nat} : zA T Γ N F (some ⟨d,hw⟩) dst O ops l ws Q t h e fs=iF T Γ N F ops l ws Q (cP t dst d) (ay h hw) e (fs++[⟨O,hw.isEmpty⟩]):=Yc
theorem Hn {c:Prop} [Decidable c] {E:aR} : zy T Γ N F (if c then some E else none) dst ops l ws Q t h e=(c∧zy T Γ N F (some E) dst ops l ws Q t h e):=by
 by_cases O:c<;>simp[O,zy,lx]
theorem Hv {c:Prop} [Decidable c] {E:aR} {O:List Nat} : zA T Γ N F (if c then some E else none) dst O ops l ws Q t h e fs=(c∧zA T Γ N F (some E) dst O ops l ws Q t h e fs):=by
 by_cases U:c<;>simp[U,zA,lx]
theorem yo {g:Nat} {a b:Operand} (O:t g=.bool true):Pb T Γ N F (.bool true) g a b dst ops l ws Q t h e=iE T Γ N F ops l ws Q (cP t dst (ev t a)) h e:=sZ O
theorem uX {g:Nat} {a b:Operand} (O:t g=.bool false):Pb T Γ N F (.bool false) g a b dst ops l ws Q t h e=iE T Γ N F ops l ws Q (cP t dst (ev t b)) h e:=qu O
theorem yp {g:Nat} {a b:Operand} (O:t g=.bool true):Pc T Γ N F (.bool true) g a b dst ops l ws Q t h e fs=iF T Γ N F ops l ws Q (cP t dst (ev t a)) h e (fs++[⟨[],true⟩]):=sZ O
theorem uY {g:Nat} {a b:Operand} (O:t g=.bool false):Pc T Γ N F (.bool false) g a b dst ops l ws Q t h e fs=iF T Γ N F ops l ws Q (cP t dst (ev t b)) h e (fs++[⟨[],true⟩]):=qu O
theorem ED {c:Nat} {a b:Operand} : kH T Γ N F ⟨dst,.pick (.tmp c) a b,ty,pos,af,gd⟩ ops l ws Q t h e=Pb T Γ N F (t c) c a b dst ops l ws Q t h e:=Yc
theorem EK {c:Nat} {a b:Operand} : kI T Γ N F ⟨dst,.pick (.tmp c) a b,ty,pos,af,gd⟩ ops l ws Q t h e fs=Pc T Γ N F (t c) c a b dst ops l ws Q t h e fs:=Yc
theorem sb {x y:Option aR} (U:∀c a b,op ≠ .pick c a b) (hm:er T Γ e ⟨dst,op,ty,pos,af,gd⟩ (ev t)=none) (O:jr Γ e h dst (eQ (ev t) op)=none) (X:jq T Γ e ⟨dst,op,ty,pos,af,gd⟩ (ev t) (EH h)=x) (Y:oN T Γ e ⟨dst,op,ty,pos,af,gd⟩ (ev t) h=y):kH T Γ N F ⟨dst,op,ty,pos,af,gd⟩ ops l ws Q t h e=yL T Γ N F x y dst ops l ws Q t h e:=by
 subst X;subst Y;unfold kH yL HQ kn;rw[hm];simp only;rw[O];cases op<;>first|rfl|exact absurd rfl (U _ _ _)
theorem se {x y:Option aR} (U:∀c a b,op ≠ .pick c a b) (hm:er T Γ e ⟨dst,op,ty,pos,af,gd⟩ (ev t)=none) (O:jr Γ e h dst (eQ (ev t) op)=none) (X:jq T Γ e ⟨dst,op,ty,pos,af,gd⟩ (ev t) (EH h)=x) (Y:oN T Γ e ⟨dst,op,ty,pos,af,gd⟩ (ev t) h=y):kI T Γ N F ⟨dst,op,ty,pos,af,gd⟩ ops l ws Q t h e fs=yM T Γ N F x y dst (aN ⟨dst,op,ty,pos,af,gd⟩ (ev t)) ops l ws Q t h e fs:=by
 subst X;subst Y;unfold kI yM HQ kn;rw[hm];simp only;rw[O];cases op<;>first|rfl|exact absurd rfl (U _ _ _)
theorem cU {x:Option aR} (U:∀c a b,op ≠ .pick c a b) (X:jq T Γ e ⟨dst,op,ty,pos,af,gd⟩ (ev t) (EH h)=x) (hm:er T Γ e ⟨dst,op,ty,pos,af,gd⟩ (ev t)=none:=by rfl) (Y:oN T Γ e ⟨dst,op,ty,pos,af,gd⟩ (ev t) h=none:=by rfl) (O:jr Γ e h dst (eQ (ev t) op)=none:=by first|rfl|(cases dst<;>rfl)):kH T Γ N F ⟨dst,op,ty,pos,af,gd⟩ ops l ws Q t h e=sS T Γ N F x dst ops l ws Q t h e:=sb U hm O X Y
theorem cV {x:Option aR} (U:∀c a b,op ≠ .pick c a b) (X:jq T Γ e ⟨dst,op,ty,pos,af,gd⟩ (ev t) (EH h)=x) (hm:er T Γ e ⟨dst,op,ty,pos,af,gd⟩ (ev t)=none:=by rfl) (Y:oN T Γ e ⟨dst,op,ty,pos,af,gd⟩ (ev t) h=none:=by rfl) (O:jr Γ e h dst (eQ (ev t) op)=none:=by first|rfl|(cases dst<;>rfl)):kI T Γ N F ⟨dst,op,ty,pos,af,gd⟩ ops l ws Q t h e fs=sT T Γ N F x dst (aN ⟨dst,op,ty,pos,af,gd⟩ (ev t)) ops l ws Q t h e fs:=se U hm O X Y
theorem EC {x:Operand} : kH T Γ N F ⟨dst,.move x,ty,pos,af,gd⟩ ops l ws Q t h e=iE T Γ N F ops l ws Q (cP t dst (ev t x)) h e:=(cU (fun _ _ _ O=>by cases O) rfl).trans rfl
theorem EJ {x:Operand} : kI T Γ N F ⟨dst,.move x,ty,pos,af,gd⟩ ops l ws Q t h e fs=iF T Γ N F ops l ws Q (cP t dst (ev t x)) h e (fs++[⟨[],true⟩]):=(cV (fun _ _ _ O=>by cases O) rfl).trans rfl
theorem Aq {o:BinOp} {O z:Nat} {x y:Operand} : kH T Γ N F ⟨dst,.binOp o O x y z,ty,pos,af,gd⟩ ops l ws Q t h e=sS T Γ N F (RL (te T O o (ev t x) (ev t y))) dst ops l ws Q t h e:=cU (fun _ _ _ U=>by cases U) (by simp only[jq];first|rfl|(cases te T O o (ev t x) (ev t y)<;>rfl))
theorem Az {o:BinOp} {O z:Nat} {x y:Operand} : kI T Γ N F ⟨dst,.binOp o O x y z,ty,pos,af,gd⟩ ops l ws Q t h e fs=sT T Γ N F (RL (te T O o (ev t x) (ev t y))) dst (aN ⟨dst,.binOp o O x y z,ty,pos,af,gd⟩ (ev t)) ops l ws Q t h e fs:=cV (fun _ _ _ U=>by cases U) (by simp only[jq];first|rfl|(cases te T O o (ev t x) (ev t y)<;>rfl))
theorem EE {o:UnOp} {O:Nat} {x:Operand} : kH T Γ N F ⟨dst,.unOp o O x,ty,pos,af,gd⟩ ops l ws Q t h e=sS T Γ N F (RL (zC o (ev t x))) dst ops l ws Q t h e:=cU (fun _ _ _ U=>by cases U) (by simp only[jq];first|rfl|(cases zC o (ev t x)<;>rfl))
theorem EL {o:UnOp} {O:Nat} {x:Operand} : kI T Γ N F ⟨dst,.unOp o O x,ty,pos,af,gd⟩ ops l ws Q t h e fs=sT T Γ N F (RL (zC o (ev t x))) dst (aN ⟨dst,.unOp o O x,ty,pos,af,gd⟩ (ev t)) ops l ws Q t h e fs:=cV (fun _ _ _ U=>by cases U) (by simp only[jq];first|rfl|(cases zC o (ev t x)<;>rfl))
theorem wS {x:Operand} : kH T Γ N F ⟨dst,.assign x,ty,pos,af,gd⟩ ops l ws Q t h e=sS T Γ N F (me T Γ.own ty e dst (EH h) (ev t x)) dst ops l ws Q t h e:=cU (fun _ _ _ O=>by cases O) rfl
theorem wV {x:Operand} : kI T Γ N F ⟨dst,.assign x,ty,pos,af,gd⟩ ops l ws Q t h e fs=sT T Γ N F (me T Γ.own ty e dst (EH h) (ev t x)) dst (aN ⟨dst,.assign x,ty,pos,af,gd⟩ (ev t)) ops l ws Q t h e fs:=cV (fun _ _ _ O=>by cases O) rfl
theorem sc {f:Nat} {first caps:List Operand} : kH T Γ N F ⟨dst,.makeFunc (.func f) first.toArray caps.toArray,ty,pos,af,gd⟩ ops l ws Q t h e=sS T Γ N F (if (first.map (ev t)++caps.map (ev t)).all fU then some ⟨.clo f first.length (first.map (ev t)++caps.map (ev t)),[]⟩ else none) dst ops l ws Q t h e:=cU (fun _ _ _ O=>by cases O) rfl
theorem sf {f:Nat} {first caps:List Operand} : kI T Γ N F ⟨dst,.makeFunc (.func f) first.toArray caps.toArray,ty,pos,af,gd⟩ ops l ws Q t h e fs=sT T Γ N F (if (first.map (ev t)++caps.map (ev t)).all fU then some ⟨.clo f first.length (first.map (ev t)++caps.map (ev t)),[]⟩ else none) dst (aN ⟨dst,.makeFunc (.func f) first.toArray caps.toArray,ty,pos,af,gd⟩ (ev t)) ops l ws Q t h e fs:=cV (fun _ _ _ O=>by cases O) rfl
theorem EA {O:Nat} {x:Operand} : kH T Γ N F ⟨dst,.load O x,ty,pos,af,gd⟩ ops l ws Q t h e=yL T Γ N F (rD (T O) fun τ=>jV τ (EH h) (ev t x)) (rD (T O) fun τ=>oM τ h (ev t x)) dst ops l ws Q t h e:=sb (fun _ _ _ U=>by cases U) rfl (by cases dst<;>rfl) (by simp only[jq];first|rfl|(cases T O<;>rfl)) (by simp only[oN];first|rfl|(cases T O<;>rfl))
theorem EG {O:Nat} {x:Operand} : kI T Γ N F ⟨dst,.load O x,ty,pos,af,gd⟩ ops l ws Q t h e fs=yM T Γ N F (rD (T O) fun τ=>jV τ (EH h) (ev t x)) (rD (T O) fun τ=>oM τ h (ev t x)) dst (aN ⟨dst,.load O x,ty,pos,af,gd⟩ (ev t)) ops l ws Q t h e fs:=se (fun _ _ _ U=>by cases U) rfl (by cases dst<;>rfl) (by simp only[jq];first|rfl|(cases T O<;>rfl)) (by simp only[oN];first|rfl|(cases T O<;>rfl))
theorem Ax {O:Nat} {x y:Operand} : kH T Γ N F ⟨dst,.store O x y,ty,pos,af,gd⟩ ops l ws Q t h e=yL T Γ N F (rD (T O) fun τ=>bW τ (EH h) (ev t x) (ev t y)) (rD (T O) fun τ=>oO τ e h (ev t x) (ev t y)) dst ops l ws Q t h e:=sb (fun _ _ _ U=>by cases U) rfl (by cases dst<;>rfl) (by simp only[jq];first|rfl|(cases T O<;>rfl)) (by simp only[oN];first|rfl|(cases T O<;>rfl))
theorem AG {O:Nat} {x y:Operand} : kI T Γ N F ⟨dst,.store O x y,ty,pos,af,gd⟩ ops l ws Q t h e fs=yM T Γ N F (rD (T O) fun τ=>bW τ (EH h) (ev t x) (ev t y)) (rD (T O) fun τ=>oO τ e h (ev t x) (ev t y)) dst (aN ⟨dst,.store O x y,ty,pos,af,gd⟩ (ev t)) ops l ws Q t h e fs:=se (fun _ _ _ U=>by cases U) rfl (by cases dst<;>rfl) (by simp only[jq];first|rfl|(cases T O<;>rfl)) (by simp only[oN];first|rfl|(cases T O<;>rfl))
theorem sd {x:Operand} : kH T Γ N F ⟨dst,.nilCheck x,ty,pos,af,gd⟩ ops l ws Q t h e=sS T Γ N F (gh (EH h) (ev t x)) dst ops l ws Q t h e:=cU (fun _ _ _ O=>by cases O) rfl
theorem sg {x:Operand} : kI T Γ N F ⟨dst,.nilCheck x,ty,pos,af,gd⟩ ops l ws Q t h e fs=sT T Γ N F (gh (EH h) (ev t x)) dst (aN ⟨dst,.nilCheck x,ty,pos,af,gd⟩ (ev t)) ops l ws Q t h e fs:=cV (fun _ _ _ O=>by cases O) rfl
theorem qB {O i:Nat} {x:Operand} : kH T Γ N F ⟨dst,.fieldAddr O x i,ty,pos,af,gd⟩ ops l ws Q t h e=sS T Γ N F (rD (T O) fun τ=>cw T τ (EH h) i (ev t x)) dst ops l ws Q t h e:=cU (fun _ _ _ U=>by cases U) (by simp only[jq];first|rfl|(cases T O<;>rfl))
theorem qF {O i:Nat} {x:Operand} : kI T Γ N F ⟨dst,.fieldAddr O x i,ty,pos,af,gd⟩ ops l ws Q t h e fs=sT T Γ N F (rD (T O) fun τ=>cw T τ (EH h) i (ev t x)) dst (aN ⟨dst,.fieldAddr O x i,ty,pos,af,gd⟩ (ev t)) ops l ws Q t h e fs:=cV (fun _ _ _ U=>by cases U) (by simp only[jq];first|rfl|(cases T O<;>rfl))
theorem As {O i:Nat} {x:Operand} : kH T Γ N F ⟨dst,.field O x i,ty,pos,af,gd⟩ ops l ws Q t h e=sS T Γ N F (rD (T O) fun τ=>ja T τ i (ev t x)) dst ops l ws Q t h e:=cU (fun _ _ _ U=>by cases U) (by simp only[jq];first|rfl|(cases T O<;>rfl))
theorem AB {O i:Nat} {x:Operand} : kI T Γ N F ⟨dst,.field O x i,ty,pos,af,gd⟩ ops l ws Q t h e fs=sT T Γ N F (rD (T O) fun τ=>ja T τ i (ev t x)) dst (aN ⟨dst,.field O x i,ty,pos,af,gd⟩ (ev t)) ops l ws Q t h e fs:=cV (fun _ _ _ U=>by cases U) (by simp only[jq];first|rfl|(cases T O<;>rfl))
theorem qC {O:Nat} {x i:Operand} : kH T Γ N F ⟨dst,.indexAddr O x i,ty,pos,af,gd⟩ ops l ws Q t h e=sS T Γ N F (rD (T O) fun τ=>aU T τ (EH h) (ev t x) (ev t i)) dst ops l ws Q t h e:=cU (fun _ _ _ U=>by cases U) (by simp only[jq];first|rfl|(cases T O<;>rfl))
theorem qG {O:Nat} {x i:Operand} : kI T Γ N F ⟨dst,.indexAddr O x i,ty,pos,af,gd⟩ ops l ws Q t h e fs=sT T Γ N F (rD (T O) fun τ=>aU T τ (EH h) (ev t x) (ev t i)) dst (aN ⟨dst,.indexAddr O x i,ty,pos,af,gd⟩ (ev t)) ops l ws Q t h e fs:=cV (fun _ _ _ U=>by cases U) (by simp only[jq];first|rfl|(cases T O<;>rfl))
theorem Au {O:Nat} {x i:Operand} : kH T Γ N F ⟨dst,.index O x i,ty,pos,af,gd⟩ ops l ws Q t h e=sS T Γ N F (rD (T O) fun τ=>eh T τ (ev t x) (ev t i)) dst ops l ws Q t h e:=cU (fun _ _ _ U=>by cases U) (by simp only[jq];first|rfl|(cases T O<;>rfl))
theorem AD {O:Nat} {x i:Operand} : kI T Γ N F ⟨dst,.index O x i,ty,pos,af,gd⟩ ops l ws Q t h e fs=sT T Γ N F (rD (T O) fun τ=>eh T τ (ev t x) (ev t i)) dst (aN ⟨dst,.index O x i,ty,pos,af,gd⟩ (ev t)) ops l ws Q t h e fs:=cV (fun _ _ _ U=>by cases U) (by simp only[jq];first|rfl|(cases T O<;>rfl))
theorem Av {O:Nat} {x:Operand} {U X Y:Option Operand} : kH T Γ N F ⟨dst,.slice O x U X Y,ty,pos,af,gd⟩ ops l ws Q t h e=sS T Γ N F (rD (T O) fun τ=>bJ T τ (EH h) (ev t x) (U.map (ev t)) (X.map (ev t)) (Y.map (ev t))) dst ops l ws Q t h e:=cU (fun _ _ _ Z=>by cases Z) (by simp only[jq];first|rfl|(cases T O<;>rfl))
theorem AE {O:Nat} {x:Operand} {U X Y:Option Operand} : kI T Γ N F ⟨dst,.slice O x U X Y,ty,pos,af,gd⟩ ops l ws Q t h e fs=sT T Γ N F (rD (T O) fun τ=>bJ T τ (EH h) (ev t x) (U.map (ev t)) (X.map (ev t)) (Y.map (ev t))) dst (aN ⟨dst,.slice O x U X Y,ty,pos,af,gd⟩ (ev t)) ops l ws Q t h e fs:=cV (fun _ _ _ Z=>by cases Z) (by simp only[jq];first|rfl|(cases T O<;>rfl))
theorem Ar {O:Nat} {U:List (Nat×Operand)} : kH T Γ N F ⟨dst,.build O U.toArray,ty,pos,af,gd⟩ ops l ws Q t h e=sS T Γ N F (rD (T O) fun τ=>kU Γ.own T τ (EH h) dst (U.map fun p=>(p.1,ev t p.2))) dst ops l ws Q t h e:=cU (fun _ _ _ X=>by cases X) (by simp only[jq];first|rfl|(cases T O<;>rfl))
theorem AA {O:Nat} {U:List (Nat×Operand)} : kI T Γ N F ⟨dst,.build O U.toArray,ty,pos,af,gd⟩ ops l ws Q t h e fs=sT T Γ N F (rD (T O) fun τ=>kU Γ.own T τ (EH h) dst (U.map fun p=>(p.1,ev t p.2))) dst (aN ⟨dst,.build O U.toArray,ty,pos,af,gd⟩ (ev t)) ops l ws Q t h e fs:=cV (fun _ _ _ X=>by cases X) (by simp only[jq];first|rfl|(cases T O<;>rfl))
theorem oI {O len d:Nat} {U:List (Nat×Operand)} : kH T Γ N F ⟨some d,.buildSlice O len U.toArray,ty,pos,af,gd⟩ ops l ws Q t h e=sS T Γ N F (rD (T O) fun τ=>cv T τ (EH h) e d len (U.map fun p=>(p.1,ev t p.2))) (some d) ops l ws Q t h e:=cU (fun _ _ _ X=>by cases X) (by simp only[jq];first|rfl|(cases T O<;>rfl))
theorem oJ {O len d:Nat} {U:List (Nat×Operand)} : kI T Γ N F ⟨some d,.buildSlice O len U.toArray,ty,pos,af,gd⟩ ops l ws Q t h e fs=sT T Γ N F (rD (T O) fun τ=>cv T τ (EH h) e d len (U.map fun p=>(p.1,ev t p.2))) (some d) (aN ⟨some d,.buildSlice O len U.toArray,ty,pos,af,gd⟩ (ev t)) ops l ws Q t h e fs:=cV (fun _ _ _ X=>by cases X) (by simp only[jq];first|rfl|(cases T O<;>rfl))
def xX (T:Nat->Option Ty) (e d O:Nat) (x y:D):Option (Nat×Nat×Nat)->Option aR
 | some p=>(match T O with|some τ=>SC T τ e d p.1 p.2.1 p.2.2 x y|none=>none)
 | none=>none
theorem Bo {d O:Nat} {x y:D} : xX T e d O x y none=none:=Yc
theorem Bp {d O:Nat} {x y:D} {p:Nat×Nat×Nat} {τ:Ty} (U:T O=some τ):xX T e d O x y (some p)=SC T τ e d p.1 p.2.1 p.2.2 x y:=by simp only[xX,U]
def stM (y x:Option aR) (dst:Option Nat) (ops l:List Oper) (ws:List W) (Q:Kt) (t:Nat->D) (h:Nat->Option Row) (e:Nat):Prop :=
 match y with
 | some E=>zy T Γ N F (some E) dst ops l ws Q t h e
 | none=>sS T Γ N F x dst ops l ws Q t h e
def Pv (y x:Option aR) (dst:Option Nat) (O:List Nat) (ops l:List Oper) (ws:List W) (Q:Kt) (t:Nat->D) (h:Nat->Option Row) (e:Nat) (fs:List gQ):Prop :=
 match y with
 | some E=>zA T Γ N F (some E) dst O ops l ws Q t h e fs
 | none=>sT T Γ N F x dst O ops l ws Q t h e fs
theorem qD {O d:Nat} {x y:Operand} : kH T Γ N F ⟨some d,.makeSlice O x y,ty,pos,af,gd⟩ ops l ws Q t h e=stM (T:=T) (Γ:=Γ) (N:=N) (F:=F) (xX T e d O (ev t x) (ev t y) (Γ.nst d)) (rD (T O) fun τ=>lV T τ e d (ev t x) (ev t y)) (some d) ops l ws Q t h e:=by
 have hm:er T Γ e ⟨some d,.makeSlice O x y,ty,pos,af,gd⟩ (ev t)=xX T e d O (ev t x) (ev t y) (Γ.nst d):=by
  unfold er xX;simp only;cases Γ.nst d<;>rfl
 cases U:xX T e d O (ev t x) (ev t y) (Γ.nst d) with
 | none=>exact cU (fun _ _ _ X=>by cases X) (by simp only[jq];first|rfl|(cases T O<;>rfl)) (hm.trans U)
 | some E=>unfold kH HQ kn;rw[hm,U];rfl
theorem qH {O d:Nat} {x y:Operand} : kI T Γ N F ⟨some d,.makeSlice O x y,ty,pos,af,gd⟩ ops l ws Q t h e fs=Pv (T:=T) (Γ:=Γ) (N:=N) (F:=F) (xX T e d O (ev t x) (ev t y) (Γ.nst d)) (rD (T O) fun τ=>lV T τ e d (ev t x) (ev t y)) (some d) (aN ⟨some d,.makeSlice O x y,ty,pos,af,gd⟩ (ev t)) ops l ws Q t h e fs:=by
 have hm:er T Γ e ⟨some d,.makeSlice O x y,ty,pos,af,gd⟩ (ev t)=xX T e d O (ev t x) (ev t y) (Γ.nst d):=by
  unfold er xX;simp only;cases Γ.nst d<;>rfl
 cases U:xX T e d O (ev t x) (ev t y) (Γ.nst d) with
 | none=>exact cV (fun _ _ _ X=>by cases X) (by simp only[jq];first|rfl|(cases T O<;>rfl)) (hm.trans U)
 | some E=>unfold kI HQ kn;rw[hm,U];rfl
theorem Hq {x:Option aR} : stM (T:=T) (Γ:=Γ) (N:=N) (F:=F) none x dst ops l ws Q t h e=sS T Γ N F x dst ops l ws Q t h e:=Yc
theorem B6 {x:Option aR} {O:List Nat} : Pv (T:=T) (Γ:=Γ) (N:=N) (F:=F) none x dst O ops l ws Q t h e fs=sT T Γ N F x dst O ops l ws Q t h e fs:=Yc
theorem Hr {x:Option aR} {E:aR} : stM (T:=T) (Γ:=Γ) (N:=N) (F:=F) (some E) x dst ops l ws Q t h e=zy T Γ N F (some E) dst ops l ws Q t h e:=Yc
theorem B7 {x:Option aR} {O:List Nat} {E:aR} : Pv (T:=T) (Γ:=Γ) (N:=N) (F:=F) (some E) x dst O ops l ws Q t h e fs=zA T Γ N F (some E) dst O ops l ws Q t h e fs:=Yc
theorem Lg {x:Option aR} {c:Prop} [Decidable c] {E:aR} (O:c):stM (T:=T) (Γ:=Γ) (N:=N) (F:=F) (if c then some E else none) x dst ops l ws Q t h e=zy T Γ N F (some E) dst ops l ws Q t h e:=by rw[if_pos O];rfl
theorem Hp {x:Option aR} {O:List Nat} {c:Prop} [Decidable c] {E:aR} (U:c):Pv (T:=T) (Γ:=Γ) (N:=N) (F:=F) (if c then some E else none) x dst O ops l ws Q t h e fs=zA T Γ N F (some E) dst O ops l ws Q t h e fs:=by rw[if_pos U];rfl
def Nj (T:Nat->Option Ty) (e d O:Nat):Option (Nat×Nat×Nat)->Option aR
 | some p=>(match T O with|some τ=>SA τ O e d p.1 p.2.1 p.2.2|none=>none)
 | none=>none
theorem DN {d O:Nat} : Nj T e d O none=none:=Yc
theorem DO {d O:Nat} {p:Nat×Nat×Nat} {τ:Ty} (U:T O=some τ):Nj T e d O (some p)=SA τ O e d p.1 p.2.1 p.2.2:=by simp only[Nj,U]
theorem Ap {O d:Nat} : kH T Γ N F ⟨some d,.alloc O,ty,pos,af,gd⟩ ops l ws Q t h e=stM (T:=T) (Γ:=Γ) (N:=N) (F:=F) (Nj T e d O (Γ.nst d)) (wb (T O) O d e (Γ.hint d)) (some d) ops l ws Q t h e:=by
 have hm:er T Γ e ⟨some d,.alloc O,ty,pos,af,gd⟩ (ev t)=Nj T e d O (Γ.nst d):=by
  unfold er Nj;simp only;cases Γ.nst d<;>rfl
 cases U:Nj T e d O (Γ.nst d) with
 | none=>exact cU (fun _ _ _ X=>by cases X) (by simp only[jq];cases T O with|none=>rfl|some τ=>(dsimp only[wb];cases Γ.hint d<;>rfl)) (hm.trans U)
 | some E=>unfold kH HQ kn;rw[hm,U];rfl
theorem Ay {O d:Nat} : kI T Γ N F ⟨some d,.alloc O,ty,pos,af,gd⟩ ops l ws Q t h e fs=Pv (T:=T) (Γ:=Γ) (N:=N) (F:=F) (Nj T e d O (Γ.nst d)) (wb (T O) O d e (Γ.hint d)) (some d) (aN ⟨some d,.alloc O,ty,pos,af,gd⟩ (ev t)) ops l ws Q t h e fs:=by
 have hm:er T Γ e ⟨some d,.alloc O,ty,pos,af,gd⟩ (ev t)=Nj T e d O (Γ.nst d):=by
  unfold er Nj;simp only;cases Γ.nst d<;>rfl
 cases U:Nj T e d O (Γ.nst d) with
 | none=>exact cV (fun _ _ _ X=>by cases X) (by simp only[jq];cases T O with|none=>rfl|some τ=>(dsimp only[wb];cases Γ.hint d<;>rfl)) (hm.trans U)
 | some E=>unfold kI HQ kn;rw[hm,U];rfl
theorem uo {O d:Nat} : kH T Γ N F ⟨some d,.makeMap O none,ty,pos,af,gd⟩ ops l ws Q t h e=sS T Γ N F (To T (T O) O e d) (some d) ops l ws Q t h e:=cU (fun _ _ _ U=>by cases U) (by simp only[jq];first|rfl|(cases T O<;>rfl))
theorem uv {O d:Nat} : kI T Γ N F ⟨some d,.makeMap O none,ty,pos,af,gd⟩ ops l ws Q t h e fs=sT T Γ N F (To T (T O) O e d) (some d) (aN ⟨some d,.makeMap O none,ty,pos,af,gd⟩ (ev t)) ops l ws Q t h e fs:=cV (fun _ _ _ U=>by cases U) (by simp only[jq];first|rfl|(cases T O<;>rfl))
theorem wU {O:Nat} {m i:Operand} {ok:Bool} : kH T Γ N F ⟨dst,.lookup O m i ok,ty,pos,af,gd⟩ ops l ws Q t h e=sS T Γ N F (rD (T O) fun τ=>fJ T τ (EH h) (ev t m) (ev t i) ok) dst ops l ws Q t h e:=cU (fun _ _ _ U=>by cases U) (by simp only[jq];first|rfl|(cases T O<;>rfl))
theorem wX {O:Nat} {m i:Operand} {ok:Bool} : kI T Γ N F ⟨dst,.lookup O m i ok,ty,pos,af,gd⟩ ops l ws Q t h e fs=sT T Γ N F (rD (T O) fun τ=>fJ T τ (EH h) (ev t m) (ev t i) ok) dst (aN ⟨dst,.lookup O m i ok,ty,pos,af,gd⟩ (ev t)) ops l ws Q t h e fs:=cV (fun _ _ _ U=>by cases U) (by simp only[jq];first|rfl|(cases T O<;>rfl))
theorem qE {O:Nat} {m i x:Operand} : kH T Γ N F ⟨dst,.mapUpdate O m i x,ty,pos,af,gd⟩ ops l ws Q t h e=sS T Γ N F (rD (T O) fun τ=>cj T τ (EH h) (ev t m) (ev t i) (ev t x)) dst ops l ws Q t h e:=cU (fun _ _ _ U=>by cases U) (by simp only[jq];first|rfl|(cases T O<;>rfl))
theorem qI {O:Nat} {m i x:Operand} : kI T Γ N F ⟨dst,.mapUpdate O m i x,ty,pos,af,gd⟩ ops l ws Q t h e fs=sT T Γ N F (rD (T O) fun τ=>cj T τ (EH h) (ev t m) (ev t i) (ev t x)) dst (aN ⟨dst,.mapUpdate O m i x,ty,pos,af,gd⟩ (ev t)) ops l ws Q t h e fs:=cV (fun _ _ _ U=>by cases U) (by simp only[jq];first|rfl|(cases T O<;>rfl))
theorem wT {O:Nat} {m i x:Operand} : kH T Γ N F ⟨dst,.insert O m i x,ty,pos,af,gd⟩ ops l ws Q t h e=sS T Γ N F (rD (T O) fun τ=>cj T τ (EH h) (ev t m) (ev t i) (ev t x)) dst ops l ws Q t h e:=cU (fun _ _ _ U=>by cases U) (by simp only[jq];first|rfl|(cases T O<;>rfl))
theorem wW {O:Nat} {m i x:Operand} : kI T Γ N F ⟨dst,.insert O m i x,ty,pos,af,gd⟩ ops l ws Q t h e fs=sT T Γ N F (rD (T O) fun τ=>cj T τ (EH h) (ev t m) (ev t i) (ev t x)) dst (aN ⟨dst,.insert O m i x,ty,pos,af,gd⟩ (ev t)) ops l ws Q t h e fs:=cV (fun _ _ _ U=>by cases U) (by simp only[jq];first|rfl|(cases T O<;>rfl))
theorem J9 {O d:Nat} {x:Operand} : kH T Γ N F ⟨some d,.box O x,ty,pos,af,gd⟩ ops l ws Q t h e=sS T Γ N F (Sc (cT (EH h) (ev t x)) (EH h) O d e) (some d) ops l ws Q t h e:=cU (fun _ _ _ U=>by cases U) (by simp only[jq];first|rfl|(cases cT (EH h) (ev t x)<;>rfl))
theorem Ka {O d:Nat} {x:Operand} : kI T Γ N F ⟨some d,.box O x,ty,pos,af,gd⟩ ops l ws Q t h e fs=sT T Γ N F (Sc (cT (EH h) (ev t x)) (EH h) O d e) (some d) (aN ⟨some d,.box O x,ty,pos,af,gd⟩ (ev t)) ops l ws Q t h e fs:=cV (fun _ _ _ U=>by cases U) (by simp only[jq];first|rfl|(cases cT (EH h) (ev t x)<;>rfl))
theorem uk {a b:Nat} {x:Operand} : kH T Γ N F ⟨dst,.convert a b x,ty,pos,af,gd⟩ ops l ws Q t h e=sS T Γ N F (NS (T b) (T a) (ev t x)) dst ops l ws Q t h e:=cU (fun _ _ _ O=>by cases O) rfl
theorem ur {a b:Nat} {x:Operand} : kI T Γ N F ⟨dst,.convert a b x,ty,pos,af,gd⟩ ops l ws Q t h e fs=sT T Γ N F (NS (T b) (T a) (ev t x)) dst (aN ⟨dst,.convert a b x,ty,pos,af,gd⟩ (ev t)) ops l ws Q t h e fs:=cV (fun _ _ _ O=>by cases O) rfl
theorem um {x:Nat} {i:Nat} : kH T Γ N F ⟨dst,.extract (.tmp x) i,ty,pos,af,gd⟩ ops l ws Q t h e=sS T Γ N F (QC (t x) i) dst ops l ws Q t h e:=cU (fun _ _ _ O=>by cases O) rfl
theorem uu {x:Nat} {i:Nat} : kI T Γ N F ⟨dst,.extract (.tmp x) i,ty,pos,af,gd⟩ ops l ws Q t h e fs=sT T Γ N F (QC (t x) i) dst (aN ⟨dst,.extract (.tmp x) i,ty,pos,af,gd⟩ (ev t)) ops l ws Q t h e fs:=cV (fun _ _ _ O=>by cases O) rfl
def UJ (Γ:Env) (e:Nat) (h:Nat->Option Row) (g:Nat) (args:List D):Option (Nat×(Nat->Nat->Nat->Nat->List D->List D->Option (D×List D)))->Option aR
 | some _=>mA Γ e h g args
 | none=>none
theorem Eu {g:Nat} {args:List D} : UJ Γ e h g args none=none:=Yc
theorem Ev {g:Nat} {args:List D} {p:Nat×(Nat->Nat->Nat->Nat->List D->List D->Option (D×List D))} : UJ Γ e h g args (some p)=mA Γ e h g args:=Yc
theorem Oh {g:Nat} {args:List D} : uD Γ e h (some (.fn g,args))=UJ Γ e h g args (Γ.nx.lnd g):=by
 cases O:Γ.nx.lnd g with
 | some p=>rfl
 | none =>
  show mA Γ e h g args=none;cases U:mA Γ e h g args with
  | none=>rfl
  | some E =>
   obtain⟨_,_,_,_,_,_,_,_,_,_,_,_,_,_,_,_,h1,_⟩:=nh U;rw[O]at h1;cases h1
theorem Kc {f k:Nat} {xs args:List D} : uD Γ e h (some (.clo f k xs,args))=none:=Yc
theorem Og {d g:Nat} {args:List D} : jr Γ e h (some d) (some (.fn g,args))=xe e d h args (Γ.nx.res g):=Yc
theorem Kb {dst:Option Nat} {f k:Nat} {xs args:List D} : jr Γ e h dst (some (.clo f k xs,args))=none:=by cases dst<;>rfl
theorem ER {q:Option (D×List D)} : jr Γ e h none q=none:=Yc
theorem ES {d:Nat} {args:List D} : xe e d h args none=none:=Yc
theorem ET {d:Nat} {args:List D} {p:List D->Option (Nat×Nat×Nat×Nat×Nat×List D)} : xe e d h args (some p)=Ab p e d (aO (EH h) args):=Yc
theorem D3 {d:Nat} {VA:List D} {p:List D->Option (Nat×Nat×Nat×Nat×Nat×List D)} : Ab p e d (some (VA,[]))=CE e d (p VA):=Yc
theorem Ac {d ty O s S n:Nat} {cs:List D} (U:d<1000000):CE e d (some (ty,O,s,S,n,cs))=some ⟨.buf d e S 0 n,[(d,some ⟨e,ty,[.nr O s (4*e+2) cs],false,true,true⟩)]⟩:=if_pos (by rw[b7];exact U)
def UX (y0 x y:Option aR) (dst:Option Nat) (ops l:List Oper) (ws:List W) (Q:Kt) (t:Nat->D) (h:Nat->Option Row) (e:Nat):Prop :=
 match y0 with
 | some E=>zy T Γ N F (some E) dst ops l ws Q t h e
 | none=>yL T Γ N F x y dst ops l ws Q t h e
def SO (y0 x y:Option aR) (dst:Option Nat) (O:List Nat) (ops l:List Oper) (ws:List W) (Q:Kt) (t:Nat->D) (h:Nat->Option Row) (e:Nat) (fs:List gQ):Prop :=
 match y0 with
 | some E=>zA T Γ N F (some E) dst O ops l ws Q t h e fs
 | none=>yM T Γ N F x y dst O ops l ws Q t h e fs
theorem Hl {x y:Option aR} : UX (T:=T) (Γ:=Γ) (N:=N) (F:=F) none x y dst ops l ws Q t h e=yL T Γ N F x y dst ops l ws Q t h e:=Yc
theorem B1 {x y:Option aR} {O:List Nat} : SO (T:=T) (Γ:=Γ) (N:=N) (F:=F) none x y dst O ops l ws Q t h e fs=yM T Γ N F x y dst O ops l ws Q t h e fs:=Yc
theorem Hm {x y:Option aR} {E:aR} : UX (T:=T) (Γ:=Γ) (N:=N) (F:=F) (some E) x y dst ops l ws Q t h e=zy T Γ N F (some E) dst ops l ws Q t h e:=Yc
theorem B2 {x y:Option aR} {O:List Nat} {E:aR} : SO (T:=T) (Γ:=Γ) (N:=N) (F:=F) (some E) x y dst O ops l ws Q t h e fs=zA T Γ N F (some E) dst O ops l ws Q t h e fs:=Yc
theorem Ez {x:Operand} {VA:List Operand} {O:Array Nat} : kH T Γ N F ⟨dst,.call ⟨.value x,VA.toArray,O⟩,ty,pos,af,gd⟩ ops l ws Q t h e=UX (T:=T) (Γ:=Γ) (N:=N) (F:=F) (jr Γ e h dst (some (ev t x,VA.map (ev t)))) (eV Γ (EH h) e dst (ev t x) (VA.map (ev t))) (uD Γ e h (some (ev t x,VA.map (ev t)))) dst ops l ws Q t h e:=by
 have U:eQ (ev t) (.call ⟨.value x,VA.toArray,O⟩)=some (ev t x,VA.map (ev t)):=rfl;cases X:jr Γ e h dst (some (ev t x,VA.map (ev t))) with
 | none=>exact sb (fun _ _ _ Y=>by cases Y) rfl (by rw[U];exact X) rfl rfl
 | some E=>unfold kH HQ kn;simp only[er,U,X];rfl
theorem EF {x:Operand} {VA:List Operand} {O:Array Nat} : kI T Γ N F ⟨dst,.call ⟨.value x,VA.toArray,O⟩,ty,pos,af,gd⟩ ops l ws Q t h e fs=SO (T:=T) (Γ:=Γ) (N:=N) (F:=F) (jr Γ e h dst (some (ev t x,VA.map (ev t)))) (eV Γ (EH h) e dst (ev t x) (VA.map (ev t))) (uD Γ e h (some (ev t x,VA.map (ev t)))) dst (aN ⟨dst,.call ⟨.value x,VA.toArray,O⟩,ty,pos,af,gd⟩ (ev t)) ops l ws Q t h e fs:=by
 have U:eQ (ev t) (.call ⟨.value x,VA.toArray,O⟩)=some (ev t x,VA.map (ev t)):=rfl;cases X:jr Γ e h dst (some (ev t x,VA.map (ev t))) with
 | none=>exact se (fun _ _ _ Y=>by cases Y) rfl (by rw[U];exact X) rfl rfl
 | some E=>unfold kI HQ kn;simp only[er,U,X];rfl
theorem uj {x:Builtin} {VA:List Operand} {O:List Nat} : kH T Γ N F ⟨dst,.call ⟨.builtin x,VA.toArray,O.toArray⟩,ty,pos,af,gd⟩ ops l ws Q t h e=sS T Γ N F (bu T (EH h) e dst x O (VA.map (ev t))) dst ops l ws Q t h e:=cU (fun _ _ _ U=>by cases U) rfl
theorem uq {x:Builtin} {VA:List Operand} {O:List Nat} : kI T Γ N F ⟨dst,.call ⟨.builtin x,VA.toArray,O.toArray⟩,ty,pos,af,gd⟩ ops l ws Q t h e fs=sT T Γ N F (bu T (EH h) e dst x O (VA.map (ev t))) dst (aN ⟨dst,.call ⟨.builtin x,VA.toArray,O.toArray⟩,ty,pos,af,gd⟩ (ev t)) ops l ws Q t h e fs:=cV (fun _ _ _ U=>by cases U) rfl
theorem cW {o:Array Oper} {A:Prop} (h1:w9 o fs=true) (h2:A):w9 o fs=true∧A:=⟨h1,h2⟩
theorem ak {b:Bool} {g:Nat} {x y:Code} (h1:b=true->bX T Γ N F (.code x::ws) Q .normal (bj t g (.bool true)) h e) (h2:b=false->bX T Γ N F (.code y::ws) Q .normal (bj t g (.bool false)) h e):DA T Γ N F (.bool b) g x y ws Q t h e:=by rw[MN];exact⟨h1,h2⟩
theorem bF {b:Bool} {g:Nat} {o:Oper} (h1:b=true->kH T Γ N F o ops l ws Q (bj t g (.bool true)) h e) (h2:b=false->iE T Γ N F ops l ws Q (cP (bj t g (.bool false)) o.dst .skp) h e):qz T Γ N F (.bool b) g true o ops l ws Q t h e:=by rw[MO];exact⟨h1,h2⟩
theorem bn {b:Bool} {g:Nat} {o:Oper} (h1:b=true->iE T Γ N F ops l ws Q (cP (bj t g (.bool true)) o.dst .skp) h e) (h2:b=false->kH T Γ N F o ops l ws Q (bj t g (.bool false)) h e):qz T Γ N F (.bool b) g false o ops l ws Q t h e:=by rw[Je];exact⟨h1,h2⟩
theorem vS {b:Bool} {g:Nat} {o:Oper} (h1:b=true->kI T Γ N F o ops l ws Q (bj t g (.bool true)) h e fs) (h2:b=false->iF T Γ N F ops l ws Q (cP (bj t g (.bool false)) o.dst .skp) h e (fs++[⟨[],true⟩])):qA T Γ N F (.bool b) g true o ops l ws Q t h e fs:=by rw[MP];exact⟨h1,h2⟩
theorem HJ {b:Bool} {g:Nat} {o:Oper} (h1:b=true->iF T Γ N F ops l ws Q (cP (bj t g (.bool true)) o.dst .skp) h e (fs++[⟨[],true⟩])) (h2:b=false->kI T Γ N F o ops l ws Q (bj t g (.bool false)) h e fs):qA T Γ N F (.bool b) g false o ops l ws Q t h e fs:=by rw[Jf];exact⟨h1,h2⟩
def QA (mode:Mode) (T:Nat->Option Ty) (lent:Option (D×Row)) (rs:List ResultVar) (r:RK×Option Row):Kt:=fun x t h e=>Sk mode T lent rs x t h e r
theorem uG {mode:Mode} {lent:Option (D×Row)} {rs:List ResultVar} {r:RK×Option Row} : QA mode T lent rs r .normal t h e=(fp mode T lent rs ⟨t,EH h,e⟩=some r):=Yc
theorem dA {mode:Mode} {lent:Option (D×Row)} {rs:List ResultVar} {r:RK×Option Row} : QA mode T lent rs r .ret t h e=(fp mode T lent rs ⟨t,EH h,e⟩=some r):=Yc
def Ro (T:Nat->Option Ty) (ty O s:Nat) (rs:List ResultVar) (r:D×List D):Kt:=fun x t h e =>
 match x with
 | .exit _=>False
 | _=>L7 T ty O s rs ⟨t,h,e⟩=some r
theorem ss {ty O s:Nat} {rs:List ResultVar} {r:D×List D} : Ro T ty O s rs r .normal t h e=(L7 T ty O s rs ⟨t,h,e⟩=some r):=Yc
theorem cJ {ty O s:Nat} {rs:List ResultVar} {r:D×List D} : Ro T ty O s rs r .ret t h e=(L7 T ty O s rs ⟨t,h,e⟩=some r):=Yc
def Rn (rs:List ResultVar) (r:Nat×Nat×Nat×Nat×Nat×List D):Kt:=fun x t h e =>
 match x with
 | .exit _=>False
 | _=>L6 rs ⟨t,h,e⟩=some r
theorem sr {rs:List ResultVar} {r:Nat×Nat×Nat×Nat×Nat×List D} : Rn rs r .normal t h e=(L6 rs ⟨t,h,e⟩=some r):=Yc
theorem cI {rs:List ResultVar} {r:Nat×Nat×Nat×Nat×Nat×List D} : Rn rs r .ret t h e=(L6 rs ⟨t,h,e⟩=some r):=Yc
theorem Kk {ty O s:Nat} {rs:List ResultVar} : L7 T ty O s rs ⟨t,h,e⟩=E3 ty O s (nM T ⟨t,EH h,e⟩ rs) (h 0):=Yc
theorem E4 {ty O s nv:Nat} {lst:Bool} {ds cs:List D} : E3 ty O s (some (ds,[])) (some ⟨0,ty,[.nr O s nv cs],false,lst,true⟩)=some (iD ds,cs):=by
 simp[E3,Om]
theorem Ki {i:Nat} : L6 [.tmp i] ⟨t,h,e⟩=Kh h (t i):=Yc
theorem AP {x v S n:Nat} : Kh h (.buf x v S 0 n)=E1 x v S n (h x):=Yc
theorem E2 {x v S n ty O s nv:Nat} {lst:Bool} {cs:List D} (U:x<1000000):E1 x v S n (some ⟨v,ty,[.nr O s nv cs],false,lst,true⟩)=some (ty,O,s,S,n,cs):=by
 have:x<PK:=by rw[b7];exact U
 simp[E1,Ol,this]
theorem aw {mode:Mode} {fn:Func} {c:Code} {n:Nat} {rs:List ResultVar} {args:List D} {r:RK×Option Row} (X:fn.body=some c) (U:fn.ntmps=n) (Y:fn.results=rs.toArray) (hw:bX T Γ n F [.code c] (QA mode T none rs r) .normal (H6 args) RJ 0) (O:n<=1000000:=by exact Xp rfl):iQ mode T Γ F fn none args=some r:=by
 refine P9 ?_ (by rw[U];exact O);unfold U4;rw[X,U,Y];exact hw
theorem G7 (r:Row) (i:Nat):j3 r i=if i=0 then some r else none:=Yc
theorem yY {mode:Mode} {fn:Func} {c:Code} {n:Nat} {rs:List ResultVar} {d0:D} {ty:Nat} {cells:List D} {fz lst:Bool} {args:List D} {r:RK×Option Row} (X:fn.body=some c) (U:fn.ntmps=n) (Y:fn.results=rs.toArray)
  (hw:bX T Γ n F [.code c] (QA mode T (some (d0,⟨0,ty,cells,fz,lst,false⟩)) rs r) .normal (H6 (d0::args)) (j3 ⟨0,ty,cells,fz,lst,false⟩) 1) (O:n<=1000000:=by exact Xp rfl):iQ mode T Γ F fn (some (d0,⟨0,ty,cells,fz,lst,false⟩)) args=some r:=by
 refine P9 ?_ (by rw[U];exact O);unfold U4;rw[X,U,Y];exact hw
end
section
variable {h:Nat->Option Row} {k x o v ty fz' nv s n e:Nat} {cs xs:List D} {fz lst:Bool}
theorem MY (hk:k<2000000):EH h k=(h k).map (vG k):=mz (by rw[b7];exact hk)
theorem Q6 (O:x<1000000):EH h (NK x o)=(h x).bind fun r=>lY r o:=nV (by rw[b7];exact O)
theorem BX:vG k ⟨v,ty,cs,fz,lst,false⟩=⟨v,ty,cs,fz,lst,false⟩:=Yc
theorem Lb {ks:List bC} : vG k ⟨v,ty,[.mpc ks xs],fz,lst,true⟩=⟨v,ty,[.mpc ks xs],fz,lst,true⟩:=Yc
theorem Pq {y:Nat} : vG k ⟨v,ty,[.ph y s n],fz,lst,true⟩=⟨v,ty,[.ph y s n],fz,lst,true⟩:=Yc
theorem Pp {t:Nat} : vG k ⟨v,ty,[.nr t s nv cs],fz,lst,true⟩=⟨v,ty,cs.mapIdx (lM k s),fz,lst,true⟩:=Yc
theorem Gw {t:Nat} : lY ⟨v,ty,[.nr t s nv cs],fz,lst,true⟩ o=xZ t nv fz (cs.drop o).head?:=Yc
theorem Gv:xZ ty nv fz (some (.nx n xs))=some ⟨nv,ty,xs,fz,true,false⟩:=Yc
theorem RR (O:x<1000000):rt (NK x o)=x:=oc (by rw[b7];exact O)
theorem A4:gO h []=[]:=Yc
theorem A3 {r:Option Row} {l:List (Nat×Option Row)} (hk:k<2000000):gO h ((k,r)::l)=(k,x3 r)::gO (bj h k (x3 r)) l:=by
 have h1:rt k=k:=fj (by rw[b7];exact hk);have h2:sM h k r=x3 r:=if_pos (by rw[b7];exact hk);simp only[gO,h1,h2]
theorem Fe {r:Option Row} {l:List (Nat×Option Row)} (U:x<1000000):gO h ((NK x o,r)::l)=(x,(h x).map (yt o r))::gO (bj h x ((h x).map (yt o r))) l:=by
 have O:x<PK:=by rw[b7];exact U
 have h1:rt (NK x o)=x:=oc O;have h2:sM h (NK x o) r=(h x).map (yt o r):=by
  unfold sM;rw[if_neg (by have:=dO x o;omega),mW o O,vU o O]
 simp only[gO,h1,h2]
theorem By:x3 none=none:=Yc
theorem yb:x3 (some ⟨v,ty,cs,fz,lst,false⟩)=some ⟨v,ty,cs,fz,lst,false⟩:=Yc
theorem Gy {ks:List bC} : x3 (some ⟨v,ty,[.mpc ks xs],fz,lst,true⟩)=some ⟨v,ty,[.mpc ks xs],fz,lst,true⟩:=Yc
theorem KU {y:Nat} : x3 (some ⟨v,ty,[.ph y s n],fz,lst,true⟩)=some ⟨v,ty,[.ph y s n],fz,lst,true⟩:=Yc
theorem K3 {t:Nat} {r:Option Row} : yt o r ⟨v,ty,[.nr t s nv cs],fz,lst,true⟩=⟨v,ty,zt t s nv fz cs o r (cs.drop o).head?,fz,lst,true⟩:=Yc
theorem K8 {t U:Nat} {O:List D} : zt t s nv fz cs o (some ⟨U,t,O,fz,true,false⟩) (some (.nx n xs))=if U=nv then [.nr t s nv (putCells cs o [.nx n O])] else [.nr t s nv (putCells cs o [.und])]:=by
 by_cases X:U=nv<;>simp[zt,GZ,X]
def Uu (x v:Nat):Option Row->Option (Row×Nat×Nat×Nat×List D)
 | some r=>if r.v=v∧r.fz=false∧r.mp=true∧x<1000000 then Ux r r.cells else none
 | none=>none
theorem F5:dG h x v=Uu x v (h x):=by
 unfold dG Uu;rw[b7];cases h x<;>rfl
theorem OP {t:Nat} (O:x<1000000):Uu x v (some ⟨v,ty,[.nr t s nv cs],false,lst,true⟩)=some (⟨v,ty,[.nr t s nv cs],false,lst,true⟩,t,s,nv,cs):=by
 simp only[Uu,true_and,O,and_self,if_true,Ux]
def Sw (τ:Ty) (x o:Nat):Option (Row×Nat×Nat×Nat×List D)->Option aR
 | some (r,ty,s,nv,cs)=>xN τ x s nv o cs (cs.drop o).head?
 | none=>none
theorem KG {τ:Ty} : kX τ h (.ptr x v o)=Sw τ x o (dG h x v):=by
 simp only[kX,Sw]<;>cases dG h x v<;>rfl
theorem Be {τ:Ty} {r:Row} {t:Nat} : Sw τ x o (some (r,t,s,nv,cs))=xN τ x s nv o cs (cs.drop o).head?:=Yc
theorem KE {ds:Ds} {b:Nat} {z:List Value} {q:Bool} : xN ⟨ds,1,b,z,q⟩ x s nv o cs (some (.nx n xs))=if ds.ko=false then some ⟨.buf (NK x o) nv s 0 n,[]⟩ else none:=by
 simp only[xN,true_and]
def QF (τ:Ty) (o:Nat) (cs:List D):Option aR :=
 if o+τ.size<=cs.length∧((cs.drop o).take τ.size).all dZ=true then RL (gP τ ((cs.drop o).take τ.size)) else none
theorem FX {τ:Ty} {O:IntKind} {i:Int} : xN τ x s nv o cs (some (.int O i))=QF τ o cs:=Yc
theorem Bf {τ:Ty} {b:Bool} : xN τ x s nv o cs (some (.bool b))=QF τ o cs:=Yc
theorem FY {τ:Ty} {b:ByteArray} : xN τ x s nv o cs (some (.str b))=QF τ o cs:=Yc
theorem KF {τ:Ty} {a b:Bool} : xN τ x s nv o cs (some (.sl a b n xs))=QF τ o cs:=Yc
def QX (τ:Ty) (e:Nat) (h:Nat->Option Row) (x o:Nat) (d:D):Option (Row×Nat×Nat×Nat×List D)->Option aR
 | some (r,ty,s,nv,cs)=>if o+τ.size<=cs.length∧0<τ.size then qy τ e h x r ty s nv cs o d else none
 | none=>none
theorem Li {τ:Ty} {d:D} : jA τ e h (.ptr x v o) d=QX τ e h x o d (dG h x v):=by
 simp only[jA,QX]<;>cases dG h x v<;>rfl
theorem B9 {ds:Ds} {m b:Nat} {z:List Value} {q:Bool} {d:D} {r:Row} {t:Nat} (hm:0<m) (O:o+m<=cs.length):QX ⟨ds,m,b,z,q⟩ e h x o d (some (r,t,s,nv,cs))=qy ⟨ds,m,b,z,q⟩ e h x r t s nv cs o d:=by
 simp only[QX,hm,O,and_self,if_true]
theorem Ca {ds:Ds} {b:Nat} {z:List Value} {q:Bool} {r:Row} {t:Nat} : qy ⟨ds,1,b,z,q⟩ e h x r t s nv cs o (.buf (NK x o) nv s 0 n)=tS x r t s nv cs o n (cs.drop o).head?:=by
 simp only[qy,and_self,if_true]
theorem B0 {ds:Ds} {r:Row} {t O:Nat} : tS x r t s nv cs o n (some (.nx O xs))=if n*s<=xs.length then some ⟨.und,[(x,some ⟨r.v,r.ty,[.nr t s nv (putCells cs o [.nx n (xs.take (n*s))])],false,r.lst,true⟩)]⟩ else none:=Yc
def SP (x:Nat) (r:Row) (ty s:Nat) (cs:List D) (o y n:Nat) (b:Option Nat):Option Row->Option aR
 | some q=>if q.fz=false∧q.lst=true∧q.ty=ty∧q.cells.length=n*s then tT x r ty s cs o y n q b else none
 | none=>none
theorem Cc {ds:Ds} {b y O:Nat} {z:List Value} {q:Bool} {r:Row} {t:Nat} (U:y<1000000):qy ⟨ds,1,b,z,q⟩ e h x r t s nv cs o (.buf y O s 0 n)=SP x r t s cs o y n (bump nv e) (live h y O):=by
 have h1:¬y=NK x o:=by have:=dO x o;rw[b7]at this;omega
 have h2:y<PK:=by rw[b7];exact U
 simp only[qy,and_self,if_true,h1,if_false,h2]<;>cases live h y O<;>rfl
theorem B8 {r q:Row} {t O y:Nat} (U:q.fz=false∧q.lst=true∧q.ty=t∧q.cells.length=n*s):SP x r t s cs o y n (some O) (some q)=some ⟨.und,[(y,none),(x,some ⟨r.v,r.ty,[.nr t s O (putCells cs o [.nx n q.cells])],false,r.lst,true⟩)]⟩:=by
 simp only[SP,U,and_self,if_true,tT]
theorem Ht {τ:Ty} {r:Row} {t:Nat} {O:IntKind} {i:Int} : qy τ e h x r t s nv cs o (.int O i)=tU τ x r t s nv cs o (some [.int O i]):=Yc
theorem Cb {τ:Ty} {r:Row} {t:Nat} {b:Bool} : qy τ e h x r t s nv cs o (.bool b)=tU τ x r t s nv cs o (some [.bool b]):=Yc
theorem Hu {τ:Ty} {r:Row} {t:Nat} {b:ByteArray} : qy τ e h x r t s nv cs o (.str b)=tU τ x r t s nv cs o (some [.str b]):=Yc
theorem Lh {τ:Ty} {r:Row} {t:Nat} {a b:Bool} : qy τ e h x r t s nv cs o (.sl a b n xs)=tU τ x r t s nv cs o (some [.sl a b n xs]):=Yc
theorem Hs {τ:Ty} {r:Row} {t:Nat} : qy τ e h x r t s nv cs o (.agg xs)=tU τ x r t s nv cs o (some xs):=Yc
theorem Cg {τ:Ty} {r:Row} {t:Nat} {O:List D} : tU τ x r t s nv cs o (some O)=if O.length=τ.size∧O.all dZ=true then some ⟨.und,[(x,some ⟨r.v,r.ty,[.nr t s nv (putCells cs o (O.map canon))],false,r.lst,true⟩)]⟩ else none:=Yc
theorem JQ (O:nv<=4*e):bump nv e=some (4*e+1):=if_pos O
theorem GX {E:aR} {y:Option aR} : Qc (some E) y=some E:=Yc
theorem GW {y:Option aR} : Qc none y=y:=Yc
def Ml (τ:Ty) (x o:Nat):Option (Row×Nat×Nat×Nat×List D)->Option aR
 | some (r,ty,s,nv,cs)=>if r.lst=false∧o=0∧cs.length=τ.size∧1<τ.size∧cs.all (vv s)=true then IH x r ty s nv (j8 τ.size 0 cs) (gP τ (cs.map MR)) else none
 | none=>none
theorem KD {τ:Ty} : oM τ h (.ptr x v o)=Qc (Ml τ x o (dG h x v)) (kX τ h (.ptr x v o)):=by
 simp only[oM,kW]<;>cases dG h x v<;>rfl
theorem Bc {τ:Ty} : Ml τ x o none=none:=Yc
theorem OJ {τ:Ty} {O ty:Nat} {cells:List D} {fz mp:Bool} {t:Nat} : Ml τ x o (some (⟨O,ty,cells,fz,true,mp⟩,t,s,nv,cs))=none:=by simp[Ml]
theorem OK {τ:Ty} {O ty:Nat} {cells:List D} {fz mp:Bool} {t:Nat} : Ml τ x o (some (⟨O,ty,cells,fz,false,mp⟩,t,s,nv,cs))=if o=0∧cs.length=τ.size∧1<τ.size∧cs.all (vv s)=true then IH x ⟨O,ty,cells,fz,false,mp⟩ t s nv (j8 τ.size 0 cs) (gP τ (cs.map MR)) else none:=by
 simp only[Ml,true_and]
theorem Bd {r:Row} {t:Nat} {d:D} : IH x r t s nv cs (some d)=some ⟨d,[(x,some ⟨r.v,r.ty,[.nr t s nv cs],false,r.lst,true⟩)]⟩:=Yc
def MI (τ:Ty) (e x o:Nat) (d:D):Option (Row×Nat×Nat×Nat×List D)->Option aR
 | some (r,ty,s,nv,cs)=>if r.lst=false∧o=0∧cs.length=τ.size then I7 τ.size e x r ty s nv cs d else none
 | none=>none
theorem Ld {τ:Ty} {d:D} : oO τ e h (.ptr x v o) d=Qc (MI τ e x o d (dG h x v)) (jA τ e h (.ptr x v o) d):=by
 simp only[oO,lj]<;>cases dG h x v<;>rfl
theorem Ci {τ:Ty} {d:D} : MI τ e x o d none=none:=Yc
theorem Px {τ:Ty} {d:D} {O ty:Nat} {cells:List D} {fz mp:Bool} {t:Nat} : MI τ e x o d (some (⟨O,ty,cells,fz,true,mp⟩,t,s,nv,cs))=none:=by simp[MI]
theorem Py {τ:Ty} {d:D} {O ty:Nat} {cells:List D} {fz mp:Bool} {t:Nat} : MI τ e x o d (some (⟨O,ty,cells,fz,false,mp⟩,t,s,nv,cs))=if o=0∧cs.length=τ.size then I7 τ.size e x ⟨O,ty,cells,fz,false,mp⟩ t s nv cs d else none:=by
 simp only[MI,true_and]
theorem HA {O t:Nat} {r:Row} : I7 O e x r t s nv cs (.agg xs)=if xs.length=O then SQ x r t s (bump nv e) (mP cs xs) else none:=Yc
theorem Hz {r:Row} {t O:Nat} {cs':List D} : SQ x r t s (some O) (some cs')=some ⟨.und,[(x,some ⟨r.v,r.ty,[.nr t s O cs'],false,r.lst,true⟩)]⟩:=Yc
def Q5:Option D->Option (List D)->Option (List D)
 | some y,some O=>some (y::O)
 | _,_=>none
theorem Cs {y:D} {O:List D} : Q5 (some y) (some O)=some (y::O):=Yc
theorem Ct:mP [] []=some []:=Yc
theorem y5 {c x:D} {cs xs:List D} : mP (c::cs) (x::xs)=Q5 (zE c x) (mP cs xs):=by
 simp only[mP];cases zE c x<;>cases mP cs xs<;>rfl
theorem LI:zE (.nx n xs) (.sl true true 0 [])=some (.nx 0 []):=Yc
theorem LG {k k':IntKind} {i j:Int} : zE (.int k i) (.int k' j)=some (.int k' j):=Yc
theorem HP {a b:D} : j8 2 0 [a,b]=[MR a,MR b]:=Yc
theorem Ly {k:IntKind} {i:Int} : MR (.int k i)=.int k i:=Yc
theorem PX:MR (.nx n xs)=.sl false false n xs:=Yc
theorem KX {k:IntKind} {i:Int} : vv s (.int k i)=true:=Yc
theorem O1:vv s (.nx n xs)=(xs.length==n*s):=Yc
theorem O2 {a b:Bool} : vv s (.sl a b n xs)=true:=Yc
theorem PY {a b:Bool} : MR (.sl a b n xs)=.sl a b n xs:=Yc
theorem LH {m:Nat} {O:List D} : zE (.nx n xs) (.sl false false m O)=none:=Yc
theorem LJ {a b c d:Bool} {m:Nat} {O:List D} : zE (.sl a b n xs) (.sl c d m O)=some (.sl false false m O):=Yc
theorem Cr {O:Option (List D)} : Q5 none O=none:=Yc
theorem HS {y:Option D} : Q5 y none=none:=by cases y<;>rfl
theorem Hy {r:Row} {t:Nat} {b:Option Nat} : SQ x r t s b none=none:=by cases b<;>rfl
end
section
variable {Γ:Env} {g d:Nat} {p:Nat×Nat×Nat}
theorem Kp {f:Nat} {l:Bool} {G:Option (D×Row)->List D->Option (RK×Option Row)} : (Am.ext Γ f l G).nst g=Γ.nst g:=Yc
theorem FQ:(Am.keep d Γ).nst g=Γ.nst g:=Yc
theorem FC {y:Nat} : (Am.qJ d y Γ).nst g=Γ.nst g:=Yc
theorem FK {f:Nat} : (Am.xJ f p Γ).nst g=Γ.nst g:=Yc
theorem Fv {f:Nat} {q:Grow} : (Am.xD f q Γ).nst g=Γ.nst g:=Yc
theorem Bv:bk.nst g=none:=Yc
theorem GJ:(Am.zm d p Γ).nst g=if g=d then some p else Γ.nst g:=Yc
theorem ye:(Am.zm d p Γ).lends g=Γ.lends g:=Yc
theorem GL {l:Option (D×Row)} {VA:List D} : (Am.zm d p Γ).sem g l VA=Γ.sem g l VA:=Yc
theorem GK:(Am.zm d p Γ).own g=Γ.own g:=Yc
theorem BC:(Am.zm d p Γ).hint g=Γ.hint g:=Yc
theorem GI:(Am.zm d p Γ).ins g=Γ.ins g:=Yc
theorem GH:(Am.zm d p Γ).grw g=Γ.grw g:=Yc
theorem Oq {f:Nat} {l:Bool} {G:Option (D×Row)->List D->Option (RK×Option Row)} : (Am.ext Γ f l G).nx=Γ.nx:=Yc
theorem KB:(Am.keep d Γ).nx=Γ.nx:=Yc
theorem Ky {y:Nat} : (Am.qJ d y Γ).nx=Γ.nx:=Yc
theorem Kz {f:Nat} : (Am.xJ f p Γ).nx=Γ.nx:=Yc
theorem Kw {f:Nat} {q:Grow} : (Am.xD f q Γ).nx=Γ.nx:=Yc
theorem KV:(Am.zm d p Γ).nx=Γ.nx:=Yc
theorem Bu:bk.nx.lnd g=none:=Yc
theorem Bx:bk.nx.res g=none:=Yc
end
section
variable {Γ:Env} {g d f:Nat} {p:Nat×(Nat->Nat->Nat->Nat->List D->List D->Option (D×List D))}
theorem Ga:(Am.vt f p Γ).nx.lnd g=if g=f then some p else Γ.nx.lnd g:=Yc
theorem Gd:(Am.vt f p Γ).nx.res g=Γ.nx.res g:=Yc
theorem xS:(Am.vt f p Γ).lends g=Γ.lends g:=Yc
theorem Ge {l:Option (D×Row)} {VA:List D} : (Am.vt f p Γ).sem g l VA=Γ.sem g l VA:=Yc
theorem Gc:(Am.vt f p Γ).own g=Γ.own g:=Yc
theorem Bl:(Am.vt f p Γ).hint g=Γ.hint g:=Yc
theorem F9:(Am.vt f p Γ).ins g=Γ.ins g:=Yc
theorem F8:(Am.vt f p Γ).grw g=Γ.grw g:=Yc
theorem Gb:(Am.vt f p Γ).nst g=Γ.nst g:=Yc
end
section
variable {Γ:Env} {g d f:Nat} {p:List D->Option (Nat×Nat×Nat×Nat×Nat×List D)}
theorem GF:(Am.vu f p Γ).nx.res g=if g=f then some p else Γ.nx.res g:=Yc
theorem GB:(Am.vu f p Γ).nx.lnd g=Γ.nx.lnd g:=Yc
theorem yd:(Am.vu f p Γ).lends g=Γ.lends g:=Yc
theorem GG {l:Option (D×Row)} {VA:List D} : (Am.vu f p Γ).sem g l VA=Γ.sem g l VA:=Yc
theorem GD:(Am.vu f p Γ).own g=Γ.own g:=Yc
theorem BB:(Am.vu f p Γ).hint g=Γ.hint g:=Yc
theorem GA:(Am.vu f p Γ).ins g=Γ.ins g:=Yc
theorem Gz:(Am.vu f p Γ).grw g=Γ.grw g:=Yc
theorem GC:(Am.vu f p Γ).nst g=Γ.nst g:=Yc
end
section
variable {Γ:Env} {h:Nat->Option Row} {e x v o g:Nat} {rest:List D}
def H9 (Γ:Env) (e:Nat) (h:Nat->Option Row) (g x o:Nat) (rest:List D):Option (Row×Nat×Nat×Nat×List D)->Option aR
 | some (r,ty,s,nv,cs)=>wG e x r ty s nv cs o (Γ.nx.lnd g) (aO (EH h) rest)
 | none=>none
theorem Ad:mA Γ e h g (.ptr x v o::rest)=H9 Γ e h g x o rest (dG h x v):=by
 simp only[mA,H9]<;>cases dG h x v<;>rfl
theorem uf {r:Row} {ty s nv:Nat} {cs:List D} : H9 Γ e h g x o rest (some (r,ty,s,nv,cs))=wG e x r ty s nv cs o (Γ.nx.lnd g) (aO (EH h) rest):=Yc
theorem ud {r:Row} {ty s nv:Nat} {cs VA:List D} {p:Nat×(Nat->Nat->Nat->Nat->List D->List D->Option (D×List D))} : wG e x r ty s nv cs o (some p) (some (VA,[]))=CF x r ty s o p.1 (bump nv e) (p.2 r.ty ty s o cs VA):=Yc
theorem ue {r:Row} {ty s O k:Nat} {d:D} {cs':List D} : CF x r ty s o k (some O) (some (d,cs'))=if ((cs'.drop o).take k).all (vv s)=true then some ⟨d,[(x,some ⟨r.v,r.ty,[.nr ty s O (j8 k o cs')],false,r.lst,true⟩)]⟩ else none:=Yc
end
end Go.Proofs.Ytgnoaanebhmegaa.Am
namespace Go.Proofs.Ytgnoaanebhmegaa.P
open Go.RowKit
def FU:Nat:=1000000000000000000000000
def kg {σ ρ:Type} (body:σ->Option (σ⊕ρ)):Nat->σ->Option ρ
 | 0,_=>none
 | n+1,s =>
  match body s with
  | some (.inl O)=>kg body n O
  | some (.inr r)=>some r
  | none=>none
def aQ {σ ρ:Type} (body:σ->Option (σ⊕ρ)) (s:σ):Option ρ:=kg body FU s
theorem OF {σ ρ:Type} {body:σ->Option (σ⊕ρ)} (I:σ->Prop) (μ:σ->Nat) (Q:ρ->Prop)
  (O:∀s,I s->(∃U,body s=some (.inl U)∧I U∧μ U<μ s)∨(∃r,body s=some (.inr r)∧Q r)):∀(n:Nat) (s:σ),I s->μ s<n->∃r,kg body n s=some r∧Q r:=by
 intro n
 induction n with
 | zero=>intro s _ h;omega
 | succ n X =>
  intro s Y Z;rcases O s Y with⟨U,h1,h2,h3⟩|⟨r,h1,h2⟩
  ·obtain⟨r,h4,h5⟩:=X U h2 (by omega);exact⟨r,by simp only[kg,h1];exact h4,h5⟩
  ·exact⟨r,by simp only[kg,h1],h2⟩
theorem pc {σ ρ:Type} {body:σ->Option (σ⊕ρ)} (I:σ->Prop) (μ:σ->Nat) (Q:ρ->Prop) {s:σ} (X:I s) (Y:μ s<FU)
  (O:∀s,I s->(∃U,body s=some (.inl U)∧I U∧μ U<μ s)∨(∃r,body s=some (.inr r)∧Q r)):∃r,aQ body s=some r∧Q r:=OF I μ Q O FU s X Y
def idx {α:Type} (l:List α) (i:Int):Option α:=if 0<=i∧i<l.length then l[i.toNat]? else none
def QV (s:ByteArray) (i:Int):Option Int:=if 0<=i then (s[i.toNat]?).map fun b=>(b.toNat:Int) else none
def zw {α:Type} (l:List α) (a b:Int):Option (List α):=if 0<=a∧a<=b∧b<=l.length then some ((l.drop a.toNat).take (b.toNat-a.toNat)) else none
def Qa {α:Type} (bytes:Nat) (n c:Int) (z:α):Option (List α):=if 0<=n∧n<=c∧c<=maxLen∧c.toNat*bytes<=140737488355328 then some (List.replicate n.toNat z) else none
def iX {α:Type} (bytes:Nat) (l m:List α):Option (List α):=if l.length+m.length<=maxLen∧(l.length+m.length)*bytes<=140737488355328 then some (l++m) else none
def vf (k:IntKind) (x y:Int):Option Int:=if y=0 then none else some (k.wrap (x.tdiv y))
def zl (_:IntKind) (x y:Int):Option Int:=if y=0 then none else some (x.tmod y)
def mN (k:IntKind) (x y:Int):Option Int:=if y<0 then none else some (k.wrap (x*2 ^ (min y.toNat k.bits)))
def tR (k:IntKind) (x y:Int):Option Int:=if y<0 then none else some (x.fdiv (2 ^ (min y.toNat k.bits)))
def gR (op:BinOp) (k:IntKind) (x y:Int):Int :=
 let a:=BitVec.ofInt k.bits x
 let b:=BitVec.ofInt k.bits y
 match op with
 | .and=>k.wrap (a &&& b).toNat
 | .or=>k.wrap (a ||| b).toNat
 | .xor=>k.wrap (a ^^^ b).toNat
 | _=>k.wrap (a &&& ~~~b).toNat
def OB {κ α:Type} [DecidableEq κ]:List (κ×α)->κ->Bool
 | [],_=>false
 | (k,_)::m,n=>k==n||OB m n
theorem ab {α β:Type} {o:Option α} {f:α->Option β} {r:β} (h:o.bind f=some r):∃a,o=some a∧f a=some r:=by
 cases o with
 | none=>cases h
 | some a=>exact⟨a,rfl,h⟩
theorem Th {α:Type} {b:Bool} {x y r:α} (O:b=true) (h:(if b=true then x else y)=r):x=r:=by rw[if_pos O]at h;exact h
theorem Tg {α:Type} {b:Bool} {x y r:α} (O:b=false) (h:(if b=true then x else y)=r):y=r:=by rw[O]at h;simpa using h
theorem ai {a b:Prop} (x:a) (y:b):a∧b:=⟨x,y⟩
theorem sp {α:Type} {b:Bool} {P1 P2 Q:Prop} {x y r:α} (k:(b=true->P1)->(b=false->P2)->Q) (h:(if b=true then x else y)=r) (h1:b=true->x=r->P1) (h2:b=false->y=r->P2):Q:=k (fun O=>h1 O (Th O h)) fun O=>h2 O (Tg O h)
end Go.Proofs.Ytgnoaanebhmegaa.P
