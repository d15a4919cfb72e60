import Derived.Test.YtoioidmblipblaaGreatIb
set_option linter.unusedSimpArgs false
set_option linter.unusedVariables false
noncomputable section
open Go.Proofs.Tryz
namespace Go.Proofs.YtoioidmblipblaaGreat.Am
open Go.RowKit
section
variable {P:Program} {T:Nat->Option Ty} {N:Nat} {M:Nat->Prop} {L:iN} {w0:World} {blk:Nat->Option (Nat×Nat)} {V:Nat->Nat->Prop} {t:Nat->D} {h:Nat->Option Row} {a:Act} {w:World} {e:Nat} {o:Oper} {Γ:Env}
theorem Inv.abU (hI:Inv N M L w0 blk V t (EH h) a w) {x:Nat} {r:Row} {ty s nv n j:Nat} {cs xs:List D} (hx:h x=some r) (hm:r.mp=true) (hc:r.cells=[.nr ty s nv cs]) (hz:r.fz=false) (Z:x<PK) (hj:cs[j]? = some (.nx n xs)) (hn:xs.length=n*s) :
  Inv N M L w0 blk V t (EH (bI h x (some ⟨r.v,r.ty,[.nr ty s nv (cs.set j (.sl false false n xs))],false,r.lst,true⟩))) a w∧∀b,Own M (EH (bI h x (some ⟨r.v,r.ty,[.nr ty s nv (cs.set j (.sl false false n xs))],false,r.lst,true⟩))) blk b->Own M (EH h) blk b:=by
 have ak:j<cs.length:=(af6.1 hj).1;obtain⟨g,hg⟩:∃g,blk x=some g:=by
  cases hg:blk x with
  | some g=>exact⟨g,rfl⟩
  | none =>
   have:=(hI.rows x _ (fB hx hm hc Z)).2;rw[hg]at this;have h1:cs.mapIdx (pb x s)=[]:=this;have h2:cs.length=0:=by
    have:=congrArg List.length h1;simpa using this
   omega
 have hK:EH h (NK x j)=some ⟨nv,ty,xs,false,true,false⟩:=by rw[ez hx hm hc Z,hj,hz];rfl
 obtain⟨u,al,aw⟩:=hI.DA hx hm hc Z hg hj;obtain⟨arr,ao,ax,ay⟩:=hI.Aa hx hm hc Z hg;have az:=hI.freeze [NK x j];have aA:RP w (Own M (aK (EH h) (ik (EH h) [NK x j])) blk) (.sl false false n xs) u:=by
  have hW:=hI.weaken (V':=fun y v=>V y v∨(y=NK x j∧v=nv)) (fun _ _ h =>.inl h);have aB:RT w (Own M (EH h) blk) (EH h) blk (fun y v=>V y v∨(y=NK x j∧v=nv)) (.buf (NK x j) nv s 0 n) u:=by
   refine⟨.inr ⟨rfl,rfl⟩,fun r' aD aE =>?_⟩;rcases aw with⟨g1,c,N',ty',k1,k2,k3,k4,k5,k6⟩|⟨k1,k2,k3⟩
   ·exact .inl ⟨g1,g1.2,c,N',ty',k1,k2,fun _=>⟨by omega,k3⟩,k4,k5,k6⟩
   ·exact .inr ⟨k1,k2,k3⟩
  have hl:live (EH h) (NK x j) nv=some ⟨nv,ty,xs,false,true,false⟩:=by
   unfold live;rw[hK];simp
  have aC:Am.bL (EH h) (.buf (NK x j) nv s 0 n)=some (.sl false false n xs,[NK x j]):=by
   simp only[Am.bL,Am.aT,Am.dA,hl,agt,ag7];rw[if_pos (by rw[hn];exact afD _),<- hn,ahJ];rfl
  exact hW.bL aC (hW.fp [NK x j]) aB
 generalize X:bI (EH h) (NK x j) none=h1;have aa:bI (aK (EH h) (ik (EH h) [NK x j])) (NK x j) none=h1:=by
  rw[<- X];funext k
  by_cases hk:k=NK x j
  ·rw[hk,an,an]
  ·rw[aq _ _ hk,aq _ _ hk,yi];rw[if_neg (by simpa using hk)]
 have ai:=az.drop (NK x j);rw[aa]at ai;have aj:∀b,Own M h1 blk b->Own M (aK (EH h) (ik (EH h) [NK x j])) blk b:=by
  rintro b (hb|⟨k,r',g',hk,ab,O,he⟩)
  ·exact .inl hb
  ·refine .inr ⟨k,r',g',?_,ab,O,he⟩;rw[<- aa]at hk
   by_cases U:k=NK x j
   ·rw[U,an]at hk;cases hk
   ·rwa [aq _ _ U]at hk
 have ar:h1 x=some ⟨r.v,r.ty,cs.mapIdx (pb x s),r.fz,r.lst,true⟩:=by
  rw[<- X,aq _ _ (by have:=eL x j;have:=cm;omega)];exact fB hx hm hc Z
 have au:∀(i:Nat) d,(cs.set j (.sl false false n xs))[i]? = some d->(i=j∧d=.sl false false n xs)∨(i≠j∧cs[i]? = some d):=by
  intro i d Y
  by_cases hji:i=j
  ·subst hji;rw[aie ak]at Y;exact .inl ⟨rfl,by simpa using Y.symm⟩
  ·rw[aif (fun e=>hji e.symm)]at Y;exact .inr ⟨hji,Y⟩
 have hB:=ai.jj (x:=x) (r:=⟨r.v,r.ty,cs.mapIdx (pb x s),r.fz,r.lst,true⟩) (r0:=⟨r.v,r.ty,(cs.set j (.sl false false n xs)).mapIdx (pb x s),false,r.lst,true⟩) (w':=w) ar hz rfl rfl rfl rfl (afD _) (fun _ _ _=>rfl) (by
   rw[hg];refine⟨rfl,.inr ⟨fun d hd =>?_,arr,ao,by simp only[aic,ahI];exact ax,fun i d Y =>?_⟩⟩
   ·obtain⟨i,Y⟩:=afZ hd;simp only[aid,afB]at Y;obtain⟨d0,ae,rfl⟩:=Y;exact km _ _ _ _
   ·simp only[aid,afB]at Y;obtain⟨d0,ae,rfl⟩:=Y;rcases au i d0 ae with⟨rfl,rfl⟩|⟨hij,ad⟩
    ·have e1:arr.getD (g.2+i) undef=u:=by
      have:=aP ao (show g.2+i<arr.size by omega);rw[this]at al;simpa using al
     rw[e1];exact aA.less aj
    ·by_cases ag:eX d0=true
     ·rw[jl ag];refine (eY ag).2.2.2 ((ay i d0 ad ag).less fun b hb =>?_);rcases hb with hb|⟨k,r',g',hk,ab,O,he⟩
      ·exact .inl hb
      ·refine .inr ⟨k,r',g',?_,ab,O,he⟩;rw[<- X]at hk
       by_cases U:k=NK x j
       ·rw[U,an]at hk;cases hk
       ·rwa [aq _ _ U]at hk
     ·cases d0<;>first|trivial|exact absurd rfl ag) (fun h=>by cases h) (fun _ g' O i x' s' n' Y=>by
   rw[hg]at O;cases O;simp only[aid,afB]at Y;obtain⟨d0,ae,he⟩:=Y;obtain⟨aF,rfl,rfl,rfl⟩:=oW he;rcases au i _ ae with⟨rfl,ad⟩|⟨hij,ad⟩
   ·cases ad
   ·exact ai.pha x _ g ar rfl hg i (NK x i) s' n' (by simp only[aid,ad,Option.map_some,pb]))
 have ah:bI h1 x (some (⟨r.v,r.ty,(cs.set j (.sl false false n xs)).mapIdx (pb x s),false,r.lst,true⟩:Row))=EH (bI h x (some ⟨r.v,r.ty,[.nr ty s nv (cs.set j (.sl false false n xs))],false,r.lst,true⟩)):=by
  have av:bI h x (some (⟨r.v,r.ty,[.nr ty s nv (cs.set j (.sl false false n xs))],false,r.lst,true⟩:Row)) x=some ⟨r.v,r.ty,[.nr ty s nv (cs.set j (.sl false false n xs))],false,r.lst,true⟩:=an _ _ _;funext k
  by_cases hkx:rt k=x
  rotate_left
  ·rw[aq _ _ (fun e=>hkx (by rw[e,gH (by have:=cm;omega)])),<- X,aq _ _ (fun e=>hkx (by rw[e,rZ Z]))];exact dS (by rw[aq _ _ hkx])
  rcases nh hkx with rfl|⟨i,rfl⟩
  ·rw[an,fB av rfl rfl Z]
  ·rw[aq _ _ (by have:=eL x i;have:=cm;omega),ez av rfl rfl Z,<- X]
   by_cases hij:i=j
   ·rw[hij,an,aie ak];rfl
   ·rw[aq _ _ (fun e=>hij (qO Z Z e).2),ez hx hm hc Z,aif (fun e=>hij e.symm),hz]
 rw[ah]at hB;refine⟨hB,?_⟩;rintro b (hb|⟨k,r',g',hk,ab,O,he⟩)
 ·exact .inl hb
 ·rw[<- ah]at hk
  by_cases hkx:k=x
  ·subst hkx;exact .inr ⟨k,_,g',fB hx hm hc Z,hz,O,he⟩
  ·rw[aq _ _ hkx,<- X]at hk
   by_cases U:k=NK x j
   ·rw[U,an]at hk;cases hk
   ·rw[aq _ _ U]at hk;exact .inr ⟨k,r',g',hk,ab,O,he⟩
end
def AS (s:Nat):D->Bool
 | .nx n xs=>xs.length==n*s
 | d=>eX d
def mq (k o:Nat) (cs:List D):List D:=cs.mapIdx fun i d=>if o<=i∧i<o+k then Vl d else d
section
variable {P:Program} {T:Nat->Option Ty} {N:Nat} {M:Nat->Prop} {L:iN} {w0:World} {blk:Nat->Option (Nat×Nat)} {V:Nat->Nat->Prop} {t:Nat->D} {h:Nat->Option Row} {a:Act} {w:World} {e:Nat} {o:Oper} {Γ:Env}
theorem IC (o:Nat) (cs:List D):mq 0 o cs=cs:=by
 unfold mq;apply ahM;intro i;rw[aid];cases cs[i]? with
 | none=>rfl
 | some d=>simp only[Option.map_some];rw[if_neg (by omega)]
theorem uK (k o:Nat) (cs:List D) (i:Nat):(mq k o cs)[i]? = (cs[i]?).map fun d=>if o<=i∧i<o+k then Vl d else d:=by
 unfold mq;rw[aid]
theorem Inv.abW (hI:Inv N M L w0 blk V t (EH h) a w) {x:Nat} {r:Row} {ty s nv o:Nat} {cs:List D} (hx:h x=some r) (hm:r.mp=true) (hc:r.cells=[.nr ty s nv cs]) (hz:r.fz=false) (hp:x<PK):∀k:Nat,((cs.drop o).take k).all (AS s)=true ->
  Inv N M L w0 blk V t (EH (bI h x (some ⟨r.v,r.ty,[.nr ty s nv (mq k o cs)],false,r.lst,true⟩))) a w∧∀b,Own M (EH (bI h x (some ⟨r.v,r.ty,[.nr ty s nv (mq k o cs)],false,r.lst,true⟩))) blk b->Own M (EH h) blk b
 | 0,_=>by
  have:bI h x (some (⟨r.v,r.ty,[.nr ty s nv (mq 0 o cs)],false,r.lst,true⟩:Row))=h:=by
   funext k
   by_cases hk:k=x
   ·rw[hk,an,IC,hx];cases r;simp only at hm hc hz;rw[hm,hc,hz]
   ·rw[aq _ _ hk]
  rw[this];exact⟨hI,fun _ h=>h⟩
 | k+1,O=>by
  have Y:((cs.drop o).take k).all (AS s)=true:=by
   rw[afO]at O ⊢;intro d hd;obtain⟨i,X⟩:=afZ hd;refine O d (af5 (i:=i) ?_);rw[afT]at X ⊢;split at X
   ·rw[if_pos (by omega)];exact X
   ·cases X
  obtain⟨h1,h2⟩:=hI.abW hx hm hc hz hp k Y;have Z:(∀n xs,cs[o+k]?≠some (.nx n xs))->mq (k+1) o cs=mq k o cs:=by
   intro hn;apply ahM;intro i;rw[uK,uK];cases aa:cs[i]? with
   | none=>rfl
   | some d =>
    simp only[Option.map_some,afM]
    by_cases hik:i=o+k
    ·subst hik;rw[if_pos (by omega),if_neg (by omega)];cases d<;>first|rfl|exact absurd aa (hn _ _)
    ·by_cases U:o<=i∧i<o+k
     ·rw[if_pos U,if_pos (by omega)]
     ·rw[if_neg U,if_neg (by omega)]
  by_cases hnx:∃n xs,cs[o+k]? = some (.nx n xs)
  rotate_left
  ·rw[Z fun n xs h=>hnx ⟨n,xs,h⟩];exact⟨h1,h2⟩
  obtain⟨n,xs,hnx⟩:=hnx;have hlen:xs.length=n*s:=by
   have:=afO.1 O (.nx n xs) (af5 (i:=k) (by rw[afT,if_pos (by omega),afU];exact hnx));simpa [AS] using this
  have ab:mq (k+1) o cs=(mq k o cs).set (o+k) (.sl false false n xs):=by
   have ae:=(af6.1 hnx).1;apply ahM;intro i;rw[uK]
   by_cases hik:i=o+k
   ·subst hik;rw[aie (by simpa [mq] using ae),hnx];simp only[Option.map_some];rw[if_pos (by omega)];rfl
   ·rw[aif (fun e=>hik e.symm),uK];cases aa:cs[i]? with
    | none=>rfl
    | some d =>
     simp only[Option.map_some,afM]
     by_cases U:o<=i∧i<o+k
     ·rw[if_pos U,if_pos (by omega)]
     ·rw[if_neg U,if_neg (by omega)]
  have hj:(mq k o cs)[o+k]? = some (.nx n xs):=by
   rw[uK,hnx];simp only[Option.map_some];rw[if_neg (by omega)]
  obtain⟨h3,h4⟩:=h1.abU (x:=x) (an _ _ _) rfl rfl rfl hp hj hlen;have ad:∀(r1 r2:Option Row),bI (bI h x r1) x r2=bI h x r2:=by
   intro r1 r2;funext i
   by_cases X:i=x
   ·rw[X,an,an]
   ·rw[aq _ _ X,aq _ _ X,aq _ _ X]
  rw[ad,<- ab]at h3 h4;exact⟨h3,fun b hb=>h2 b (h4 b hb)⟩
def IW (x:Nat) (r:Row) (ty s o k:Nat):Option Nat->Option (D×List D)->Option bB
 | some O,some (d,cs')=>if ((cs'.drop o).take k).all (AS s)=true then some ⟨d,[(x,some ⟨r.v,r.ty,[.nr ty s O (mq k o cs')],false,r.lst,true⟩)]⟩ else none
 | _,_=>none
def BV (e x:Nat) (r:Row) (ty s nv:Nat) (cs:List D) (o:Nat):Option (Nat×(Nat->Nat->Nat->Nat->List D->List D->Option (D×List D)))->Option (List D×List Nat)->Option bB
 | some p,some (afy,[])=>IW x r ty s o p.1 (bump nv e) (p.2 r.ty ty s o cs afy)
 | _,_=>none
def p8 (Γ:Env) (e:Nat) (h:Nat->Option Row) (g:Nat):List D->Option bB
 | .ptr x v o::rest =>
  match fC h x v with
  | some (r,ty,s,nv,cs)=>BV e x r ty s nv cs o (Γ.nx.lnd g) (bq (EH h) rest)
  | none=>none
 | _=>none
theorem q9 {g:Nat} {args:List D} {E:bB} (O:p8 Γ e h g args=some E):∃x v o rest r ty s nv cs p afy U d cs',args=.ptr x v o::rest∧fC h x v=some (r,ty,s,nv,cs)∧Γ.nx.lnd g=some p∧bq (EH h) rest=some (afy,[])∧bump nv e=some U∧p.2 r.ty ty s o cs afy=some (d,cs') ∧
  ((cs'.drop o).take p.1).all (AS s)=true∧E=⟨d,[(x,some ⟨r.v,r.ty,[.nr ty s U (mq p.1 o cs')],false,r.lst,true⟩)]⟩:=by
 unfold p8 at O;split at O<;>try (cases O;done)
 rename_i x v o rest;split at O<;>try (cases O;done)
 rename_i r ty s nv cs Z;unfold BV at O;split at O<;>try (cases O;done)
 rename_i p afy hp Y;unfold IW at O;split at O<;>try (cases O;done)
 rename_i U d cs' hb hs;split at O<;>try (cases O;done)
 rename_i X;exact⟨x,v,o,rest,r,ty,s,nv,cs,p,afy,U,d,cs',rfl,Z,hp,Y,hb,hs,X,by simpa using O.symm⟩
theorem Wr (hΓ:bF P Γ) (hI:Inv N M L w0 blk V t (EH h) a w) (aj:ZA V h e) {g:Nat} {dst:Option Nat} {args:List D} {vs:Array Value} {E:bB} (hE:p8 Γ e h g args=some E) (aa:vs.size=args.length)
  (hr:∀(j:Nat) d,args[j]? = some d->RT w (Own M (EH h) blk) (EH h) blk V d (vs.getD j undef)):dQ P g∧Calls P g vs w fun e' w'=>∃v,e'=.returned v∧iL N M L w0 V t h a e dst E v w':=by
 obtain⟨x,v,o,rest,r,ty,s,nv,cs,p,afy,ak,d,cs',rfl,hl,hp,al,hb,hs,ab,rfl⟩:=q9 hE;obtain⟨hx,hv,hz,hm,O,hc⟩:=gQ hl;obtain⟨ao,X⟩:=hΓ.lnd g p hp;refine⟨ao,?_⟩;have h0:=hr 0 _ rfl;have ar:=fB hx hm hc O;obtain⟨g0,ad,au⟩:=h0.2 _ ar hv;have av:vs = #[.pointer (some ⟨g0.1,g0.2+o,none⟩)]++vs.extract 1 vs.size:=by
  have h1:0<vs.size:=by rw[aa];simp
  rw[<- au];apply Array.ext
  ·simp;omega
  ·intro i h1 h2;cases i with
   | zero=>simp[agQ h1]
   | succ i=>simp[agU];congr 1;omega
 have ae:(vs.extract 1 vs.size).size=rest.length:=by simp at aa ⊢;omega
 have aw:∀(j:Nat) d,rest[j]? = some d->RT w (Own M (EH h) blk) (EH h) blk V d ((vs.extract 1 vs.size).getD j undef):=by
  intro j d hj;have:=hr (j+1) d (by simpa using hj);have e1:(vs.extract 1 vs.size).getD j undef=vs.getD (j+1) undef:=by
   simp only[afI];congr 1;rw[agW];split
   ·congr 1;omega
   ·rename_i hh;rw[agX (by omega)]
  rw[e1];exact this
 obtain⟨M',Y⟩:∃M':Nat->Prop,∀b,M' b↔Own M (EH h) blk b∧¬InX blk h x b:=⟨_,fun _=>Iff.rfl⟩;have hInX:∀b,InX blk h x b->Own M (EH h) blk b:=by
  rintro b ⟨k,r',g',q0,q1,q2,q3⟩;refine .inr ⟨k,r',g',q1,?_,q2,q3⟩;rcases ej hx hm hc O q0 q1 with⟨_,rfl⟩|⟨_,_,_,_,_,rfl⟩<;>exact hz
 have Z:=II (blk:=blk) hx hm hc O;have hQ:∀b,(M' b∨tU (o0 blk x) (EH (mn (iD r.ty ty s 0 cs))) b)->Own M (EH h) blk b:=fun b hb=>hb.elim (fun hb=>((Y b).1 hb).1) (fun hb=>hInX b ((Z b).1 hb));have U:=hI.BE al ⟨fun b h=>h,fun x hx=>by cases hx⟩ ae aw;have hA:wB w (fun b=>M' b∨tU (o0 blk x) (EH (mn (iD r.ty ty s 0 cs))) b) afy (vs.extract 1 vs.size):=⟨U.1,fun j d hj=>(U.2 j d hj).less hQ,fun b hb=>(U.tab b hb).less hQ⟩;rw[av];refine (X _ _ _ _ _ _ _ _ hs w M' (o0 blk x) _ _ g0 _ rfl rfl (fun b hb=>hI.wc ((Y b).1 hb).1) (fun b hb ax=>((Y b).1 ax).2 ((Z b).1 hb)) (by rw[o0,pX];exact ad) (hI.abZ hx hm hc hz O hQ) hA).mono fun e' w' hg =>?_;obtain⟨u,ag,he,hbey,q0,ay,ah,qR,az⟩:=hg;refine⟨u,he,nd blk ag x,?_⟩;obtain⟨k1,k2⟩:=hI.back hx hm hc hz O (aj x r ty s nv cs ak hx hm hc O hb) ad rfl Y ⟨hbey.os,hbey.tape,hbey.output,hbey.size,fun k hk hn=>hbey.block k hk fun hh=>hn ((Z k).1 hh)⟩ q0 ay (fun b hb=>(ah b hb).imp id fun hh=>(Z b).1 hh) qR;obtain⟨k3,k4⟩:=k1.abW (x:=x) (o:=o) (an _ _ _) rfl rfl rfl O p.1 ab;have ai:∀(r1 r2:Option Row),bI (bI h x r1) x r2=bI h x r2:=by
  intro r1 r2;funext i
  by_cases hi:i=x
  ·rw[hi,an,an]
  ·rw[aq _ _ hi,aq _ _ hi,aq _ _ hi]
 rw[ai]at k3 k4;exact⟨k3.weaken fun _ _ h =>.inl h,bs (az.less fun b hb=>k2 b (k4 b hb))⟩
end
def Fy:D->D->Option D
 | .nx _ _,.sl true true 0 []=>some (.nx 0 [])
 | .nx _ _,_=>none
 | _,d=>if eX d=true then some (canon d) else none
def qB:List D->List D->Option (List D)
 | [],[]=>some []
 | c::cs,x::xs =>
  match Fy c x,qB cs xs with
  | some y,some O=>some (y::O)
  | _,_=>none
 | _,_=>none
def stZ (x:Nat) (r:Row) (ty s:Nat):Option Nat->Option (List D)->Option bB
 | some O,some cs'=>some ⟨.und,[(x,some ⟨r.v,r.ty,[.nr ty s O cs'],false,r.lst,true⟩)]⟩
 | _,_=>none
def QM (n e x:Nat) (r:Row) (ty s nv:Nat) (cs:List D):D->Option bB
 | .agg xs=>if xs.length=n then stZ x r ty s (bump nv e) (qB cs xs) else none
 | _=>none
def oG (τ:Ty) (e:Nat) (h:Nat->Option Row) (p d:D):Option bB :=
 match p with
 | .ptr x v o =>
  match fC h x v with
  | some (r,ty,s,nv,cs)=>if r.lst=false∧o=0∧cs.length=τ.size then QM τ.size e x r ty s nv cs d else none
  | none=>none
 | _=>none
def Qg (x:Nat) (r:Row) (ty s nv:Nat) (cs:List D):Option D->Option bB
 | some d=>some ⟨d,[(x,some ⟨r.v,r.ty,[.nr ty s nv cs],false,r.lst,true⟩)]⟩
 | none=>none
def oB (τ:Ty) (h:Nat->Option Row):D->Option bB
 | .ptr x v o =>
  match fC h x v with
  | some (r,ty,s,nv,cs)=>if r.lst=false∧o=0∧cs.length=τ.size∧1<τ.size∧cs.all (AS s)=true then Qg x r ty s nv (mq τ.size 0 cs) (jb τ (cs.map Vl)) else none
  | none=>none
 | _=>none
def Zx:Option bB->Option bB->Option bB
 | some E,_=>some E
 | none,y=>y
def sS (τ:Ty) (h:Nat->Option Row) (p:D):Option bB:=Zx (oB τ h p) (oC τ h p)
def sU (τ:Ty) (e:Nat) (h:Nat->Option Row) (p d:D):Option bB:=Zx (oG τ e h p d) (l7 τ e h p d)
theorem O8:∀ {cs xs ys:List D},qB cs xs=some ys->ys.length=cs.length∧xs.length=cs.length∧∀(j:Nat) c x,cs[j]? = some c->xs[j]? = some x->∃y,ys[j]? = some y∧Fy c x=some y
 | [],[],ys,h=>by simp only[qB,afM]at h;subst h;exact⟨rfl,rfl,fun j c x O=>by simp at O⟩
 | c::cs,x::xs,ys,h=>by
  simp only[qB]at h;split at h
  ·rename_i y X h1 h2;simp only[afM]at h;subst h;obtain⟨Y,Z,k3⟩:=O8 h2;refine⟨by simp[Y],by simp[Z],fun j c' x' O U =>?_⟩;cases j with
   | zero =>
    simp only[List.getElem?_cons_zero,afM]at O U ⊢;subst O U;exact⟨y,rfl,h1⟩
   | succ j=>exact k3 j c' x' (by simpa using O) (by simpa using U)
  ·cases h
 | [],x::xs,ys,h=>by simp[qB]at h
 | c::cs,[],ys,h=>by simp[qB]at h
theorem ER {c x y:D} (h:Fy c x=some y):(x=.sl true true 0 []∧y=.nx 0 [])∨(eX x=true∧y=canon x):=by
 unfold Fy at h;split at h
 ·simp only[afM]at h;exact .inl ⟨rfl,h.symm⟩
 ·cases h
 ·split at h
  ·rename_i O;simp only[afM]at h;exact .inr ⟨O,h.symm⟩
  ·cases h
section
variable {P:Program} {T:Nat->Option Ty} {N:Nat} {M:Nat->Prop} {L:iN} {w0:World} {blk:Nat->Option (Nat×Nat)} {V:Nat->Nat->Prop} {t:Nat->D} {h:Nat->Option Row} {a:Act} {w:World} {e:Nat} {o:Oper} {Γ:Env}
theorem WX (x:Nat):A5 (EH h) (fun k=>if rt k=x∧k≠x then none else EH h k):=by
 intro k r' hk;simp only at hk;split at hk
 ·cases hk
 ·exact⟨r',hk,.refl _⟩
open Classical in
theorem WV (hT:gW P T) (hI:Inv N M L w0 blk V t (EH h) a w) (aK:ZA V h e) {ty:Nat} {p x:Operand} {τ:Ty} {E:bB} (ho:o.op=.store ty p x) (hτ:T ty=some τ) (X:oG τ e h (ev t p) (ev t x)=some E):dR P o a w (iL N M L w0 V t h a e o.dst E):=by
 have hp:=hI.ev p;have hq:=hI.ev x;have aX:=hI.big;have aY:=cm;generalize ev t p=pd at *;generalize ev t x=d at *;unfold oG at X;split at X<;>try (cases X;done)
 rename_i y v c0;split at X<;>try (cases X;done)
 rename_i r ty' s nv cs hl;obtain⟨hx,hv,hz,hm,U,hc⟩:=gQ hl;have ao:=fB hx hm hc U;obtain⟨g,hg,az⟩:=hp.2 _ ao hv;split at X<;>try (cases X;done)
 rename_i ar;obtain⟨_,rfl,aZ⟩:=ar;unfold QM at X;split at X<;>try (cases X;done)
 rename_i xs;split at X<;>try (cases X;done)
 rename_i aL;unfold stZ at X;split at X<;>try (cases X;done)
 rename_i ab cs' hb aM;simp only[afM]at X;subst X;obtain⟨z1,z2,z3⟩:=O8 aM;have aA:RP w (Own M (EH h) blk) (.agg xs) (a.eval x):=hq;obtain⟨us,aN,aO,aB⟩:∃us:List Value,a.eval x=.agg us.toArray∧us.length=xs.length∧∀j x,xs[j]? = some x->RP w (Own M (EH h) blk) x (us.getD j undef):=by
  generalize a.eval x=u at aA;cases aA with
  | agg xs us h1 h2 h3=>exact⟨us,rfl,h1,h2⟩
 have aQ:∀(j:Nat) x,xs[j]? = some x->eX x=true:=by
  intro j x O;have aj:=(af6.1 O).1;obtain⟨y',_,k2⟩:=z3 j _ x (afQ (by omega)) O;rcases ER k2 with⟨rfl,_⟩|⟨k3,_⟩
  ·rfl
  ·exact k3
 have aC:∀u∈us,u.oneCell'=true:=by
  intro u hu;obtain⟨j,O⟩:=afZ hu;have aj:=(af6.1 O).1;have ad:=afQ (l:=xs) (i:=j) (by omega);have:=aB j _ ad;have e1:us.getD j undef=u:=by simp[List.getD,O]
  rw[e1]at this;exact this.pC (eY (aQ j _ ad)).1
 obtain⟨arr,k1,k2,k3⟩:=hI.Aa hx hm hc U hg;have ae:=run_storeCells_at P g.1 (g.2+0) r.ty us 0 arr w k1 (by omega) aC;rw[agc]at ae;have aD:(arr.toList.take g.2++us++arr.toList.drop (g.2+us.length)).toArray.size=arr.size:=by simp;omega
 have ag:∀j,j<cs.length->(arr.toList.take g.2++us++arr.toList.drop (g.2+us.length)).toArray.getD (g.2+j) undef=us.getD j undef:=by
  intro j O;have:=pJ arr us g.2 (g.2+j) (by omega);rw[this,if_neg (by omega),if_pos (by omega)];congr 1;omega
 generalize a1:(arr.toList.take g.2++us++arr.toList.drop (g.2+us.length)).toArray=arr' at ae aD ag;obtain⟨Z,aE,hheap⟩:=xI (g:=g) (arr':=arr') k1;have aF:Own M (EH h) blk g.1 := .inr ⟨y,_,g,ao,hz,hg,rfl⟩;have hK:∀o,NK y o≠y∧2*PK<=NK y o:=fun o=>by have:=eL y o;omega
 have hle:=WX (h:=h) y;have hA:=hI.le hle;generalize au:(fun k=>if rt k=y∧k≠y then none else EH h k)=h1 at hA hle;have aR:h1 y=some ⟨r.v,r.ty,cs.mapIdx (pb y s),r.fz,r.lst,true⟩:=by
  rw[<- au];simp only[ne_eq,not_true_eq_false,and_false,if_false];exact ao
 have av:∀o,h1 (NK y o)=none:=fun o=>by
  rw[<- au];simp only;rw[if_pos ⟨rZ U,(hK o).1⟩]
 have aG:∀k,rt k≠y->h1 k=EH h k:=fun k hk=>by
  rw[<- au];simp only;rw[if_neg (fun hh=>hk hh.1)]
 have al:∀(j:Nat) d,cs'[j]? = some d->(d=.nx 0 []∧us.getD j undef=.slice none 0 0)∨(eX d=true∧RP w (Own M (EH h) blk) d (us.getD j undef)):=by
  intro j d O;have aj:=(af6.1 O).1;have ad:=afQ (l:=xs) (i:=j) (by omega);obtain⟨y',q1,q2⟩:=z3 j _ _ (afQ (by omega)) ad;rw[O]at q1;cases q1;have hr:=aB j _ ad;rcases ER q2 with⟨e1,rfl⟩|⟨e1,rfl⟩
  ·refine .inl ⟨rfl,?_⟩;rw[e1]at hr;generalize us.getD j undef=u at hr;cases hr with
   | sl A c _ _ _ _ a6 g1 g2 g3 g4 g5 g6 g7 g8 =>
    obtain⟨rfl,rfl⟩:=(g3 rfl).1 rfl;rfl
  ·refine .inr ⟨?_,hr.canon⟩;generalize xs[j]=q at e1;cases q<;>first|rfl|cases e1
 have aw:∀ {d:D} {u:Value},RP w (Own M (EH h) blk) d u->RP (w.setRow g.1 arr') (Own M h1 blk) d u:=fun hr=>hr.keep fun b q1 q2=>⟨by rw[aE];exact q1,yU hle q2,hheap b (fun e=>q2 (e ▸ aF))⟩;have hB:=hA.jj (x:=y) (r0:=⟨r.v,r.ty,cs'.mapIdx (pb y s),false,r.lst,true⟩) (w':=w.setRow g.1 arr') aR hz rfl rfl rfl rfl (by rw[aE];exact afD _) (fun b _ hb=>hheap b (hb g hg)) (by
  rw[hg];refine⟨by simp[World.shape?,Z,k1,aD],.inr ⟨fun d hd =>?_,arr',Z,by simp only[aic];omega,fun j d O =>?_⟩⟩
  ·obtain⟨j,O⟩:=afZ hd;simp only[aid,afB]at O;obtain⟨d0,_,rfl⟩:=O;exact km _ _ _ _
  ·simp only[aid,afB]at O;obtain⟨d0,Y,rfl⟩:=O;have aj:=(af6.1 Y).1;rw[ag j (by omega)];rcases al j d0 Y with⟨rfl,_⟩|⟨q1,q2⟩
   ·trivial
   ·rw[jl q1];exact (eY q1).2.2.2 (aw q2)) (fun hh=>by cases hh) (fun _ g' aH j x' s' n' O=>by
  rw[hg]at aH;cases aH;simp only[aid,afB]at O;obtain⟨d0,Y,he⟩:=O;obtain⟨a7,rfl,rfl,rfl⟩:=oW he;have aj:=(af6.1 Y).1;exact⟨⟨U,.inr rfl⟩,_,aP Z (by omega),fun r1 aI=>by rw[av]at aI;cases aI⟩)
 obtain⟨S,hS⟩:∃S:Nat->Prop,∀k,S k↔∃o xs,k=NK y o∧cs'[o]? = some (.nx 0 xs):=⟨_,fun _=>Iff.rfl⟩;have ah:∀(j n':Nat) (xs:List D),cs'[j]? = some (.nx n' xs)->n'=0∧xs=[]∧us.getD j undef=.slice none 0 0:=by
  intro j n' xs O;rcases al j _ O with⟨e1,e2⟩|⟨e1,_⟩
  ·cases e1;exact⟨rfl,rfl,e2⟩
  ·cases e1
 have ax:bI h y (some (⟨r.v,r.ty,[.nr ty' s ab cs'],false,r.lst,true⟩:Row)) y=some ⟨r.v,r.ty,[.nr ty' s ab cs'],false,r.lst,true⟩:=an _ _ _;have hC:=hB.addEmpty S ty' ab (h':=EH (bI h y (some ⟨r.v,r.ty,[.nr ty' s ab cs'],false,r.lst,true⟩))) (blk':=fun k=>if S k then none else blk k) (fun k hk=>by
   obtain⟨o',xs,rfl,ak⟩:=(hS k).1 hk;have:=hK o';exact⟨by omega,by omega,aK y r ty' s nv cs ab hx hm hc U hb o',by rw[aq _ _ (hK o').1,av]⟩) (fun k hk=>by
   refine⟨?_,by rw[if_pos hk]⟩;obtain⟨o',xs,rfl,ak⟩:=(hS k).1 hk;rw[ez ax rfl rfl U,ak];obtain⟨_,rfl,_⟩:=ah o' 0 xs ak;rfl) (fun k hk=>by
   refine⟨?_,by rw[if_neg hk]⟩
   by_cases hkd:rt k=y
   ·rcases nh hkd with rfl|⟨o',rfl⟩
    ·rw[an,fB ax rfl rfl U]
    ·rw[aq _ _ (hK o').1,av,ez ax rfl rfl U];cases aJ:cs'[o']? with
     | none=>rfl
     | some d0 =>
      cases d0 with
      | nx n' xs =>
       obtain⟨rfl,_,_⟩:=ah o' n' xs aJ;exact absurd ((hS _).2 ⟨o',xs,rfl,aJ⟩) hk
      | _=>rfl
   ·rw[aq _ _ (fun e=>hkd (by rw[e,gH (by omega)])),aG k hkd];exact dS (by rw[aq _ _ hkd])) (fun y1 r1 g1 hy aS ay j x' s' n' O hs=>by
   obtain⟨o',xs,rfl,ak⟩:=(hS _).1 hs;obtain⟨⟨p1,p2⟩,u,p3,_⟩:=hB.pha y1 r1 g1 hy aS ay j _ s' n' O;rcases p2 with p2|p2
   ·have:=eL y o';omega
   obtain⟨rfl,rfl⟩:=qO U p1 p2;rw[an]at hy;rw[hg]at ay;cases hy;cases ay;simp only[aid,afB]at O;obtain⟨d0,Y,he⟩:=O;obtain⟨aT,rfl,_,rfl⟩:=oW he;obtain⟨aU,_,aV⟩:=ah o' n' aT Y;have a8:=(af6.1 Y).1;refine⟨_,aP Z (by omega),aU,none,?_⟩;rw[ag o' (by omega)];exact aV)
 refine .inr (.inl ⟨w.setRow g.1 arr',?_,fun k=>if S k then none else blk k,?_,trivial⟩)
 ·have aa:(a.eval x).cells.toList=us:=by rw[aN];rfl
  have aW:(a.eval x).cells.size=τ.size:=by rw[<- aL,<- aO,<- aa];simp
  have ai:(storeCells ⟨g.1,g.2+0,none⟩ (a.eval x).cells.toList 0).run P w=.ok () (w.setRow g.1 arr'):=by rw[aa];exact ae
  rw[agc]at ai az;simp[execOp,ho,Instr.storeAt,Instr.sureAddr,az,storeVar,run_sizeOf (hT ty τ hτ),aW,ai]
 ·exact hC.weaken fun _ _ h =>.inl h
open Classical in
theorem WR (hT:gW P T) (hI:Inv N M L w0 blk V t (EH h) a w) {ty d ty' s f:Nat} {τ:Ty} {E:bB} (ho:o.op=.alloc ty) (hd:o.dst=some d) (hV:iA N V d e) (av:∀o,¬V (NK d o) (4*e+2)) (hτ:T ty=some τ)
  (hE:Z2 τ ty e d ty' s f=some E):dR P o a w (iL N M L w0 V t h a e o.dst E):=by
 have aC:=hI.big;have aD:=cm;unfold Z2 at hE;split at hE<;>try (cases hE;done)
 rename_i aj;obtain⟨c4,c5,c6,U,c8⟩:=aj;simp only[afM]at hE;subst hE;obtain⟨z,aw,ax⟩:=iI (hT ty τ hτ) w;have aE:(τ.zero.map lB).length=τ.size:=by rw[af7,c6]
 have hf:f<τ.size:=by
  rw[aib]at c8;rcases agp f τ.size with ak|aF
  ·exact ak
  ·rw[ahi (by omega)]at c8;cases c8
 have ar:(τ.zero.map lB)[f]? = some (.sl true true 0 []):=by
  rw[aib]at c8;unfold XP at c8;split at c8
  ·assumption
  ·cases c8
 have ay:(lA τ f).length=τ.size:=by
  unfold lA;rw[je (by simp;omega)];simp[c6]
 have Z:∀(m:Nat) (x:D),(lA τ f)[m]? = some x->(m=f∧x=.nx 0 [])∨(m≠f∧∃y,(τ.zero.map lB)[m]? = some y∧x=canon y):=by
  intro m x hm;unfold lA at hm
  by_cases al:m=f
  ·subst al;rw[fv (by simp;omega)]at hm;exact .inl ⟨rfl,by simpa using hm.symm⟩
  ·rw[gz (by simp;omega) al,afA,afB]at hm;obtain⟨y,h1,h2⟩:=hm;exact .inr ⟨al,y,h1,h2.symm⟩
 obtain⟨vs,ad⟩:∃vs:Array Value,vs=τ.zero.toArray:=⟨_,rfl⟩;have aH:vs.size=τ.size:=by rw[ad];simpa using c6
 have ai:∀(M':Nat->Prop) (w':World) (j:Nat) (x:D),(lA τ f)[j]? = some x->eX x=true->RP w' M' x (vs.getD j undef):=by
  intro M' w' j x O az;rw[ad];rcases Z _ x O with⟨_,rfl⟩|⟨_,y,h1,rfl⟩
  ·cases az
  ·exact (oZ (w:=w') (M:=M') τ.zero (afO.2 fun y hy=>(eY (afO.1 c5 y hy)).1) _ y h1).2.canon
 have Y:∀(j:Nat) (n':Nat) (xs:List D),(lA τ f)[j]? = some (.nx n' xs)->n'=0∧xs=[]∧vs.getD j undef=.slice none 0 0:=by
  intro j n' xs O;rcases Z _ _ O with⟨hm,he⟩|⟨_,y,h1,he⟩
  ·simp only[D.nx.injEq]at he;refine⟨he.1,he.2,?_⟩;rw[ad,hm];rw[afA,afB]at ar;obtain⟨v,v1,v2⟩:=ar;simp only[afI,List.getElem?_toArray,v1,Option.getD_some];exact Ta v2
  ·have:=afO.1 c5 y (af5 h1);cases y<;>first|(cases he;done)|(cases this;done)
 generalize lA τ f=cs at ay Z ai Y;have hA:=hI.le (wW (h:=h) d U);have hold:∀b,b<w.heap.size->(w.alloc (.cells vs ty)).heap[b]? = w.heap[b]?:=fun b hb=>Below.heap_alloc w _ b hb;have ae:=(Below.refl w.heap.size w).alloc (afD _) (.cells vs ty);have aa:=heap_alloc_new w (.cells vs ty);have ao:∀o,EH (bI h d none) (NK d o)=none:=fun o=>by rw[p5 U,an];rfl
 have ab:∀o,NK d o≠d:=fun o=>by have:=eL d o;omega
 have hB:=hA.BC (w':=w.alloc (.cells vs ty)) (h1:=EH (bI h d none)) (old:=none) (d:=d) (e:=e) (r0:=⟨e,ty,cs.mapIdx (pb d s),false,false,true⟩) (go:=some (w.heap.size,0)) ae.os ae.tape ae.output ae.size (fun k hk _=>hold k hk) (fun y hy=>by cases hy) rfl hV
  ⟨.inl (afD _),.inr ⟨fun x hx=>by
   obtain⟨j,O⟩:=afZ hx;simp only[aid,afB]at O;obtain⟨d0,X,rfl⟩:=O;exact km _ _ _ _,vs,aa,by simp only[aic];omega,fun j x O=>by
   simp only[aid,afB]at O;obtain⟨d0,X,rfl⟩:=O;rw[agt]
   by_cases ag:eX d0=true
   ·rw[jl ag];exact (eY ag).2.2.2 (ai _ _ j d0 X ag)
   ·cases d0<;>first|trivial|exact absurd rfl ag⟩⟩ rfl rfl (fun _ g hg j x s' n' O=>by
   cases hg;simp only[aid,afB]at O;obtain⟨d0,X,he⟩:=O;obtain⟨xs,rfl,rfl,rfl⟩:=oW he;have ak:=(af6.1 X).1;refine⟨⟨U,.inr rfl⟩,_,aP aa (by omega),fun r hr =>?_⟩;rw[aq _ _ (ab j),ao]at hr;cases hr)
 obtain⟨S,hS⟩:∃S:Nat->Prop,∀k,S k↔∃o xs,k=NK d o∧cs[o]? = some (.nx 0 xs):=⟨_,fun _=>Iff.rfl⟩;have hC:=hB.addEmpty S ty' (4*e+2) (h':=EH (bI h d (some ⟨e,ty,[.nr ty' s (4*e+2) cs],false,false,true⟩))) (blk':=fun k=>if S k then none else bI blk d (some (w.heap.size,0)) k) (fun k hk=>by
   obtain⟨o',xs,rfl,ah⟩:=(hS k).1 hk;have:=eL d o';refine⟨by omega,by omega,?_,by rw[aq _ _ (ab o'),ao]⟩;rintro (hv|⟨he,_⟩)
   ·exact av o' hv
   ·exact ab o' he) (fun k hk=>by
   refine⟨?_,by rw[if_pos hk]⟩;obtain⟨o',xs,rfl,ah⟩:=(hS k).1 hk;rw[ez (an _ _ _) rfl rfl U,ah];obtain⟨_,rfl,_⟩:=Y o' 0 xs ah;rfl) (fun k hk=>by
   refine⟨?_,by rw[if_neg hk]⟩
   by_cases hkd:rt k=d
   ·rcases nh hkd with rfl|⟨o',rfl⟩
    ·rw[an,fB (an _ _ _) rfl rfl U]
    ·rw[aq _ _ (ab o'),ao,ez (an _ _ _) rfl rfl U];cases au:cs[o']? with
     | none=>rfl
     | some d0 =>
      cases d0 with
      | nx n' xs =>
       obtain⟨rfl,_,_⟩:=Y o' n' xs au;exact absurd ((hS _).2 ⟨o',xs,rfl,au⟩) hk
      | _=>rfl
   ·rw[aq _ _ (fun e=>hkd (by rw[e,gH (by omega)]))];exact dS (by rw[aq _ _ hkd,aq _ _ hkd])) (fun y r g hy hm hg j x s' n' O hs=>by
   obtain⟨o',xs,rfl,ah⟩:=(hS _).1 hs;obtain⟨⟨p1,p2⟩,u,p3,_⟩:=hB.pha y r g hy hm hg j _ s' n' O;rcases p2 with p2|p2
   ·have:=eL d o';omega
   obtain⟨rfl,rfl⟩:=qO U p1 p2;rw[an]at hy hg;cases hy;cases hg;simp only[aid,afB]at O;obtain⟨d0,X,he⟩:=O;obtain⟨aA,rfl,_,rfl⟩:=oW he;obtain⟨k1,_,k3⟩:=Y o' n' aA X;have ak:=(af6.1 X).1;refine⟨_,aP aa (by omega),k1,none,?_⟩;rw[agt];exact k3)
 have aB:¬S d:=fun hs=>by
  obtain⟨o',_,he,_⟩:=(hS d).1 hs;exact ab o' he.symm
 refine aG (v := .pointer (some ⟨w.heap.size,0,none⟩)) (w':=w.alloc (.cells vs ty)) ?_ ⟨fun k=>if S k then none else bI blk d (some (w.heap.size,0)) k,?_,?_⟩
 ·rw[ad];simp[execOp,ho,Instr.alloc,aw,newVar,newRow,ax]
 ·refine hC.weaken fun x v hx =>?_;rcases hx with hx|⟨rfl,rfl⟩
  ·exact .inl hx
  ·exact .inr ⟨hd,rfl⟩
 ·exact⟨.inr ⟨hd,rfl⟩,fun r hr hv=>⟨(w.heap.size,0),by simp only;rw[if_neg aB,an],rfl⟩⟩
theorem WM (hT:gW P T) (hI:Inv N M L w0 blk V t (EH h) a w) {ty:Nat} {p:Operand} {τ:Ty} {E:bB} (ho:o.op=.load ty p) (hτ:T ty=some τ) (O:oB τ h (ev t p)=some E):dR P o a w (iL N M L w0 V t h a e o.dst E):=by
 have hp:=hI.ev p;generalize ai:ev t p=q at *;unfold oB at O;split at O<;>try (cases O;done)
 rename_i x v c;split at O<;>try (cases O;done)
 rename_i r ty' s nv cs hl;obtain⟨hx,hv,hz,hm,U,hc⟩:=gQ hl;have ab:=fB hx hm hc U;obtain⟨g,hg,ad⟩:=hp.2 _ ab hv;split at O<;>try (cases O;done)
 rename_i X;obtain⟨_,rfl,c1,_,c2⟩:=X;unfold Qg at O;split at O<;>try (cases O;done)
 rename_i d hd;simp only[afM]at O;subst O;obtain⟨hF,_⟩:=hI.abW (o:=0) hx hm hc hz U τ.size (by rw[ag7,ag6 (by omega)];exact c2);have ae:bI h x (some (⟨r.v,r.ty,[.nr ty' s nv (mq τ.size 0 cs)],false,r.lst,true⟩:Row)) x=some ⟨r.v,r.ty,[.nr ty' s nv (mq τ.size 0 cs)],false,r.lst,true⟩:=an _ _ _;have aj:(mq τ.size 0 cs).length=cs.length:=by simp[mq]
 have ag:At w (Own M (EH (bI h x (some ⟨r.v,r.ty,[.nr ty' s nv (mq τ.size 0 cs)],false,r.lst,true⟩))) blk) g.1 (g.2+0) (cs.map Vl):=by
  intro j d1 hj;rw[afA,afB]at hj;obtain⟨d0,Y,rfl⟩:=hj;have ah:=afO.1 c2 d0 (af5 Y);have ak:=(af6.1 Y).1;have Z:eX (Vl d0)=true:=by
   cases d0<;>first|rfl|exact ah
  have aa:(mq τ.size 0 cs)[0+j]? = some (Vl d0):=by
   rw[agt,uK,Y];simp only[Option.map_some];rw[if_pos (by omega)]
  obtain⟨arr,k1,k2,k3⟩:=hF.Aa ae rfl rfl U hg;have al:=(af6.1 aa).1;refine⟨(eY Z).1,_,?_,k3 _ _ aa Z⟩;rw[afY];exact aP k1 (by omega)
 have:=pq (e:=e) (o:=o) hT hF ho hτ ad ag (by rw[af7];exact c1) hd;exact this
end
def IV (e d:Nat):Option (Nat×Nat×Nat×Nat×Nat×List D)->Option bB
 | some (ty,t,s,S,n,cs)=>if d<PK then some ⟨.buf d e S 0 n,[(d,some ⟨e,ty,[.nr t s (4*e+2) cs],false,true,true⟩)]⟩ else none
 | none=>none
def FZ (p:List D->Option (Nat×Nat×Nat×Nat×Nat×List D)) (e d:Nat):Option (List D×List Nat)->Option bB
 | some (afy,[])=>IV e d (p afy)
 | _=>none
theorem vt {p:List D->Option (Nat×Nat×Nat×Nat×Nat×List D)} {e d:Nat} {c:Option (List D×List Nat)} {E:bB} (O:FZ p e d c=some E):∃afy ty t s S n cs,c=some (afy,[])∧p afy=some (ty,t,s,S,n,cs)∧d<PK∧E=⟨.buf d e S 0 n,[(d,some ⟨e,ty,[.nr t s (4*e+2) cs],false,true,true⟩)]⟩:=by
 unfold FZ at O;split at O<;>try (cases O;done)
 rename_i afy;unfold IV at O;split at O<;>try (cases O;done)
 rename_i ty t s S n cs U;split at O<;>try (cases O;done)
 rename_i X;exact⟨afy,ty,t,s,S,n,cs,rfl,U,X,by simpa using O.symm⟩
section
variable {P:Program} {T:Nat->Option Ty} {N:Nat} {M:Nat->Prop} {L:iN} {w0:World} {blk:Nat->Option (Nat×Nat)} {V:Nat->Nat->Prop} {t:Nat->D} {h:Nat->Option Row} {a:Act} {w:World} {e:Nat} {o:Oper} {Γ:Env}
theorem Wp (hΓ:bF P Γ) (hI:Inv N M L w0 blk V t (EH h) a w) {g d:Nat} {dst:Option Nat} {p:List D->Option (Nat×Nat×Nat×Nat×Nat×List D)} {args:List D} {vs:Array Value} {E:bB} (hd:dst=some d) (hV:iA N V d e) (aC:∀o',¬V (NK d o') (4*e+2)) (hp:Γ.nx.res g=some p)
  (hE:FZ p e d (bq (EH h) args)=some E) (aD:vs.size=args.length) (hr:∀(j:Nat) d,args[j]? = some d->RT w (Own M (EH h) blk) (EH h) blk V d (vs.getD j undef)):dQ P g∧Calls P g vs w fun e' w'=>∃v,e'=.returned v∧iL N M L w0 V t h a e dst E v w':=by
 obtain⟨afy,ty,ti,s,S,n,cs,aE,hs,U,rfl⟩:=vt hE;obtain⟨aF,ag⟩:=hΓ.res g p hp;refine⟨aF,?_⟩;have ao:=hI.BE aE ⟨fun b h=>h,fun x hx=>by cases hx⟩ aD hr;refine (ag _ _ _ _ _ _ _ hs w (Own M (EH h) blk) _ vs rfl (fun b hb=>hI.wc hb) ao).mono fun e' w' Y =>?_;obtain⟨u,O,he,hbel,az,hR,hu⟩:=Y;refine⟨u,he,nd blk O d,?_⟩;have hA:=hI.le (wW (h:=h) d U);generalize ar:bI h d (some (⟨e,ty,[.nr ti s (4*e+2) cs],false,true,true⟩:Row))=h2;have aG:aK h [(d,some (⟨e,ty,[.nr ti s (4*e+2) cs],false,true,true⟩:Row))]=h2:=by rw[<- ar];rfl
 rw[aG];have Z:h2 d=some ⟨e,ty,[.nr ti s (4*e+2) cs],false,true,true⟩:=by rw[<- ar,an]
 have aH:∀k,rt k=d->EH (bI h d none) k=none:=fun k hk=>Rp (by rw[hk,an]);have aj:∀k,rt k≠d->EH h2 k=EH (bI h d none) k:=fun k hk=>dS (by rw[<- ar,aq _ _ hk,aq _ _ hk]);have ak:∀k,rt k≠d->nd blk O d k=blk k:=fun k hk=>if_neg hk;have ah:nd blk O d d=O 0:=by unfold nd;rw[if_pos (xF U),su]
 have au:∀o,nd blk O d (NK d o)=O (NK 0 o):=fun o=>by unfold nd;rw[if_pos (rZ U),kf U]
 have aa:∀k r',rt k=d->EH h2 k=some r'->∃r1,EH (mn (iD ty ti s 0 cs)) (EZ d k)=some r1∧nd blk O d k=O (EZ d k):=by
  intro k r' hk he;have hq:nd blk O d k=O (EZ d k):=if_pos hk;rcases ej Z rfl rfl U hk he with⟨rfl,_⟩|⟨o,n,xs,rfl,ho,_⟩
  ·rw[su]at hq ⊢;exact⟨_,tA,hq⟩
  ·rw[kf U]at hq ⊢;exact⟨_,rK ho,hq⟩
 have al:∀b,Own M (EH h2) (nd blk O d) b->Own M (EH h) blk b∨tU O (EH (mn (iD ty ti s 0 cs))) b:=by
  intro b av;rcases av with av|⟨k,r',g,hk,aI,Y,he⟩
  ·exact .inl (.inl av)
  ·by_cases ai:rt k=d
   ·obtain⟨r1,q1,q2⟩:=aa k r' ai hk;exact .inr ⟨_,r1,g,q1,by rw[<- q2];exact Y,he⟩
   ·rw[aj k ai]at hk;rw[ak k ai]at Y;refine .inl (.inr ⟨k,r',g,?_,aI,Y,he⟩);rw[<- hk];exact dS (by rw[aq _ _ ai])
 have aA:∀ {g:Nat×Nat} {r1:Row},r1.mp=false->dN w' (fun b=>Own M (EH h) blk b∨tU O (EH (mn (iD ty ti s 0 cs))) b) g r1->dN w' (Own M (EH h2) (nd blk O d)) g r1:=by
  intro g r1 aJ hr;unfold dN at hr ⊢;rw[aJ]at hr ⊢;obtain⟨arr,k1,k2,k3⟩:=hr;exact⟨arr,k1,k2,fun j d hj=>⟨(k3 j d hj).1,(k3 j d hj).2.less al⟩⟩
 have ab:∀k r',rt k=d->EH h2 k=some r'->∀g,nd blk O d k=some g->w.heap.size<=g.1:=by
  intro k r' hk he g Y;obtain⟨r1,q1,q2⟩:=aa k r' hk he;exact az g.1 ⟨_,r1,g,q1,by rw[<- q2];exact Y,rfl⟩
 have aB:Inv N M L w0 (nd blk O d) (fun y v=>V y v∨(y=d∧v=e)) t (EH h2) a w':=by
  refine hA.abt (fun k=>rt k=d) (fun _ _ h =>.inl h) hbel.os hbel.tape hbel.output hbel.size (fun k hk _=>hbel.block k hk) (fun k r' hk he=>by rw[aH k hk]at he;cases he) (fun k hk=>⟨aj k hk,ak k hk⟩) ?_ ?_ ?_ ?_ ?_
  ·intro k r' hk he;rcases ej Z rfl rfl U hk he with⟨rfl,rfl⟩|⟨o,n,xs,rfl,ho,rfl⟩
   ·refine⟨rfl,fun hn =>.inr ⟨rfl,rfl⟩,?_⟩;rw[ah];have X:=hR.rows 0 _ tA;cases Y:O 0 with
    | none =>
     rw[Y]at X;have h1:cs.mapIdx (pb 0 s)=[]:=X;have h2:cs.length=0:=by
      have:=congrArg List.length h1;simpa using this
     show cs.mapIdx (pb k s)=[];rw[agY h2];rfl
    | some g0 =>
     rw[Y]at X;have X:dN w' (fun b=>Own M (EH h) blk b∨tU O (EH (mn (iD ty ti s 0 cs))) b) g0 ⟨0,ty,cs.mapIdx (pb 0 s),false,true,true⟩:=X;refine⟨.inl (ab k _ hk he g0 (ah.trans Y)),?_⟩;unfold dN at X ⊢;simp only at X ⊢;rcases X with⟨ks,vs,k1,_⟩|⟨_,arr,k2,k3,k4⟩
     ·exfalso;simp only at k1;have hl:cs.length=1:=by
       have:=congrArg List.length k1;simpa using this
      match cs,hl with
      | [d],_ =>
       simp only[List.mapIdx_cons,List.mapIdx_nil,af1,and_true]at k1;have:=km 0 s 0 d;rw[k1]at this;cases this
     ·refine .inr ⟨fun d hd =>?_,arr,k2,by simpa using k3,fun j d hj =>?_⟩
      ·obtain⟨j,hj⟩:=afZ hd;simp only[aid,afB]at hj;obtain⟨d0,ad,rfl⟩:=hj;exact km _ _ _ _
      ·simp only[aid,afB]at hj;obtain⟨d0,ad,rfl⟩:=hj
       by_cases ae:eX d0=true
       ·rw[jl ae];have aL:(cs.mapIdx (pb 0 s))[j]? = some d0:=by rw[aid,ad];exact congrArg some (jl ae)
        exact (eY ae).2.2.2 (((eY ae).2.2.1 (k4 j _ aL)).less al)
       ·cases d0<;>first|trivial|exact absurd rfl ae
   ·refine⟨rfl,fun hn=>by have:=eL d o;have:=hI.big;have:=cm;omega,?_⟩;have X:=hR.rows _ _ (rK ho);rw[au];cases Y:O (NK 0 o) with
    | none=>rw[Y]at X;exact X
    | some g =>
     rw[Y]at X;refine⟨.inl (ab _ _ hk he g ((au o).trans Y)),aA rfl ?_⟩;obtain⟨arr,k1,k2,k3⟩:=X;exact⟨arr,k1,k2,k3⟩
  ·intro k l r1 r2 g g' hk hl he aw Y aM aN;obtain⟨q1,p1,p2⟩:=aa k r1 hk he;obtain⟨q2,p3,p4⟩:=aa l r2 hl aw;have e1:=hR.inj _ _ _ _ g g' p1 p3 (by rw[<- p2];exact Y) (by rw[<- p4];exact aM) aN;rcases ej Z rfl rfl U hk he with⟨rfl,_⟩|⟨o,n,xs,rfl,ho,_⟩
   ·rcases ej Z rfl rfl U hl aw with⟨rfl,_⟩|⟨o',n',aO,rfl,aP,_⟩
    ·rfl
    ·rw[su,kf U]at e1;have:=eL 0 o';have:=cm;omega
   ·rcases ej Z rfl rfl U hl aw with⟨rfl,_⟩|⟨o',n',aO,rfl,aP,_⟩
    ·rw[su,kf U]at e1;have:=eL 0 o;have:=cm;omega
    ·rw[kf U,kf U]at e1;rw[(qO lV lV e1).2]
  ·intro k r' hk hv he;rcases ej Z rfl rfl U hk he with⟨rfl,rfl⟩|⟨o,n,xs,rfl,ho,rfl⟩
   ·exact absurd hv hV.no
   ·exact absurd hv (aC o)
  ·intro k r' g hk he ax Y j x' s' n hj;rcases ej Z rfl rfl U hk he with⟨rfl,rfl⟩|⟨o,n',xs,rfl,ho,rfl⟩;rotate_left
   ·cases ax
   simp only[aid,afB]at hj;obtain⟨d0,ad,aQ⟩:=hj;obtain⟨aR,rfl,rfl,rfl⟩:=oW aQ;rw[ah]at Y;obtain⟨_,u,k1,k2⟩:=hR.pha 0 _ g tA rfl Y j (NK 0 j) s' n (by simp only[aid,ad,Option.map_some,pb]);refine⟨⟨U,.inr rfl⟩,u,k1,fun _ _ =>?_⟩;have:=k2 _ (rK ad);rw[au];exact this
  ·intro y r' j x' s' n hy he ax hj ay;have hrow:=(hA.rows y r' he).2;cases Y:blk y with
   | none =>
    rw[Y]at hrow;have hrow:r'.cells=[]:=hrow;rw[hrow]at hj;cases hj
   | some g =>
    obtain⟨q1,q2⟩:=(hA.pha y r' g he ax Y j x' s' n hj).1;rcases q2 with rfl|rfl
    ·have:rt (PK+y)=PK+y:=gH (by omega);rw[this]at ay;omega
    ·rw[rZ q1]at ay;rw[xF q1]at hy;exact hy ay
 refine⟨aB.weaken fun x v hx =>?_,.inr ⟨hd,rfl⟩,fun r' _ _ =>?_⟩
 ·rcases hx with hx|⟨rfl,rfl⟩
  ·exact .inl hx
  ·exact .inr ⟨hd,rfl⟩
 ·rw[ah];exact hu.2 ⟨0,0,[],false,false,false⟩ rfl rfl
theorem Cg (hI:Inv N M L w0 blk V t h a w) {c:Call} {f:Operand} {g:Nat} (ho:o.op=.call c) (hc:c.callee=.value f) (hf:ev t f=.fn g) {Φ:Value->World->Prop}
  (hk:∀vs:Array Value,vs.size=(c.args.toList.map (ev t)).length->(∀(j:Nat) d,(c.args.toList.map (ev t))[j]? = some d->RT w (Own M h blk) h blk V d (vs.getD j undef))->dQ P g∧Calls P g vs w fun e' w'=>∃v,e'=.returned v∧Φ v w'):dR P o a w Φ:=by
 have Y:=hI.ev f;have U:∀(j:Nat) d,(c.args.toList.map (ev t))[j]? = some d->RT w (Own M h blk) h blk V d ((c.args.map a.eval).getD j undef):=by
  intro j d hj;rw[afA]at hj;cases hx:c.args.toList[j]? with
  | none=>simp[hx]at hj
  | some x =>
   simp only[hx,Option.map_some,afM]at hj;subst hj;have:(c.args.map a.eval).getD j undef=a.eval x:=by
    have aa:c.args[j]? = some x:=by simpa using hx
    simp[aa]
   rw[this];exact hI.ev x
 have ab:(c.args.map a.eval).size=(c.args.toList.map (ev t)).length:=by simp
 rw[hf]at Y;have Z:a.eval f=.func (.func g) #[] #[]:=by
  have ad:RP w (Own M h blk) (.fn g) (a.eval f):=Y;generalize a.eval f=u at *;cases ad;rfl
 obtain⟨⟨fn,ae,X,O⟩,h2⟩:=hk _ ab U;have hn:¬fn.name = "runtime.NumGoroutine":=by simpa using X
 have hb:¬fn.body=none:=by
  intro h0;rw[h0]at O;cases O
 exact .inr (.inr ⟨g,#[]++c.args.map a.eval++#[],by simp[execOp,ho,resolve,hc,Z,Deferred.ofValue,invoke,callFunc,program,Sem.run,ae,hn,hb],by simpa using h2⟩)
end
def gO (vs:Operand->D):Op->Option (D×List D)
 | .call c=>match c.callee with | .value f=>some (vs f,c.args.toList.map vs)|_=>none
 | _=>none
theorem mI {vs:Operand->D} {op:Op} {q:D} {args:List D} (O:gO vs op=some (q,args)):∃c f,op=.call c∧c.callee=.value f∧q=vs f∧args=c.args.toList.map vs:=by
 unfold gO at O;split at O<;>try (cases O;done)
 rename_i c;split at O<;>try (cases O;done)
 rename_i f U;simp only[afM,Prod.mk.injEq]at O;exact⟨c,f,rfl,U,O.1.symm,O.2.symm⟩
def zP (Γ:Env) (e:Nat) (h:Nat->Option Row):Option (D×List D)->Option bB
 | some (.fn g,args)=>p8 Γ e h g args
 | _=>none
def Cw (e d:Nat) (h:Nat->Option Row) (args:List D):Option (List D->Option (Nat×Nat×Nat×Nat×Nat×List D))->Option bB
 | some p=>FZ p e d (bq (EH h) args)
 | none=>none
def lH (Γ:Env) (e:Nat) (h:Nat->Option Row):Option Nat->Option (D×List D)->Option bB
 | some d,some (.fn g,args)=>Cw e d h args (Γ.nx.res g)
 | _,_=>none
def sT (T:Nat->Option Ty) (Γ:Env) (e:Nat) (o:Oper) (vs:Operand->D) (h:Nat->Option Row):Option bB :=
 match o.op with
 | .load ty p=>match T ty with|some τ=>sS τ h (vs p)|none=>none
 | .store ty p x=>match T ty with|some τ=>sU τ e h (vs p) (vs x)|none=>none
 | .call c=>zP Γ e h (gO vs (.call c))
 | _=>none
def Zw (h:Nat->Option Row):Option bB->Option bB->Option bB
 | some ⟨v,hw⟩,_=>some ⟨v,jN h hw⟩
 | none,y=>y
def nK (T:Nat->Option Ty) (Γ:Env) (e:Nat) (o:Oper) (vs:Operand->D) (h:Nat->Option Row):Option bB :=
 match gq T Γ e o vs with
 | some E=>some E
 | none =>
  match lH Γ e h o.dst (gO vs o.op) with
  | some E=>some E
  | none=>Zw h (lG T Γ e o vs (EH h)) (sT T Γ e o vs h)
def bm (o:Oper) (vs:Operand->D):List Nat:=(gj o vs).map rt
def VE (N e:Nat) (done:List Nat) (h:Nat->Option Row) (x v:Nat):Prop:=(x<N∧(v<e∨(v=e∧x∈done))) ∨
 (2*PK<=x∧v<=4*e+3∧(x % PK∉done->v<=4*e+1)∧∀r ty s nv cs,h (x % PK)=some r->r.mp=true->r.cells=[.nr ty s nv cs]->v<=nv)
def EW (e:Nat) (done:List Nat) (h:Nat->Option Row):Prop:=∀x r ty s nv cs,h x=some r->r.mp=true->r.cells=[.nr ty s nv cs]->x<PK->nv<=4*e+3∧(x∉done->nv<=4*e+1)
def gA (e:Nat) (h h':Nat->Option Row):Prop:=∀x r' ty' U O cs',h' x=some r'->r'.mp=true->r'.cells=[.nr ty' U O cs']->x<PK->∃r ty s nv cs,h x=some r∧r.mp=true∧r.cells=[.nr ty s nv cs]∧(O=nv∨bump nv e=some O)
theorem gA.refl (e:Nat) (h:Nat->Option Row):gA e h h:=fun x r ty s nv cs O hm U _=>⟨r,ty,s,nv,cs,O,hm,U,.inl rfl⟩
theorem IU {nv e O:Nat} (h:bump nv e=some O):nv<O∧(O=4*e+1∨(nv=4*e+2∧O=4*e+3)):=by
 unfold bump at h;split at h
 ·cases h;omega
 ·split at h
  ·cases h;omega
  ·cases h
theorem EW.step {e:Nat} {done O:List Nat} {h h':Nat->Option Row} (hN:EW e done h) (hr:gA e h h') (Z:∀x,x∈done->x∈O):EW e O h':=by
 intro x r' ty' s' U cs' hx hm hc hp;obtain⟨r,ty,s,nv,cs,k1,k2,k3,X⟩:=hr x r' ty' s' U cs' hx hm hc hp;obtain⟨q1,q2⟩:=hN x r ty s nv cs k1 k2 k3 hp;rcases X with rfl|X
 ·exact⟨q1,fun hn=>q2 fun h=>hn (Z x h)⟩
 ·obtain⟨b1,Y⟩:=IU X;refine⟨by omega,fun hn =>?_⟩;rcases Y with Y|⟨Y,b3⟩
  ·omega
  ·have:=q2 fun h=>hn (Z x h);omega
theorem VE.step {N e:Nat} {done O:List Nat} {h h':Nat->Option Row} (hr:gA e h h') (hd:∀x,x∈done->x∈O) {x v:Nat} (hv:VE N e done h x v):VE N e O h' x v:=by
 rcases hv with⟨h1,h2⟩|⟨h1,h2,h3,h4⟩
 ·exact .inl ⟨h1,h2.imp id fun⟨U,X⟩=>⟨U,hd x X⟩⟩
 ·refine .inr ⟨h1,h2,fun hn=>h3 fun h=>hn (hd _ h),fun r' ty' s' Y cs' k1 k2 k3 =>?_⟩;obtain⟨r,ty,s,nv,cs,U,X,q3,Z⟩:=hr _ r' ty' s' Y cs' k1 k2 k3 (Ho _);have:=h4 r ty s nv cs U X q3;rcases Z with rfl|Z
  ·exact this
  ·have:=(IU Z).1;omega
theorem EW.ac0 {N e:Nat} {done:List Nat} {h:Nat->Option Row} (hN:EW e done h):VNr (VE N e done h) h:=by
 intro x r ty s nv cs U hm X O o;obtain⟨q1,q2⟩:=hN x r ty s nv cs U hm X O;refine .inr ⟨eL x o,q1,by rw[qP o O];exact q2,fun r' ty' s' aa cs' Y k2 Z =>?_⟩;rw[qP o O,U]at Y;cases Y;rw[X]at Z;cases Z;exact afD _
theorem EW.new {N e:Nat} {done:List Nat} {h:Nat->Option Row} (hN:EW e done h) (hb:N<=PK):ZA (VE N e done h) h e:=by
 intro x r ty s nv cs U X hm Y Z O o hv;have aa:=eL x o;have:=cm;rcases hv with⟨h1,_⟩|⟨_,_,_,h4⟩
 ·omega
 ·have h5:=h4 r ty s nv cs (by rw[qP o Z];exact X) hm Y;have h6:=(IU O).1;omega
theorem LW (e:Nat):∀(l:List (Nat×Option Row)) (h:Nat->Option Row),gA e h (aK h (jN h l))
 | [],h =>.refl e h
 | (k,r)::l,h=>by
  intro x r' ty' s' ad cs' hx hm hc hp;obtain⟨r1,Y,s1,Z,aa,O,k2,X,k4⟩:=LW e l (bI h (rt k) (xv h k r)) x r' ty' s' ad cs' hx hm hc hp
  by_cases U:x=rt k
  rotate_left
  ·rw[aq _ _ U]at O;exact⟨r1,Y,s1,Z,aa,O,k2,X,k4⟩
  ·rw[U,an]at O;unfold xv at O;split at O
   ·exfalso;obtain⟨_,h2,_⟩:=yP (o:=0) O;unfold Dw at O;split at O
    ·split at O
     ·split at O
      ·cases O
      ·rename_i ae;simp only[afM]at O;subst O;exact ae _ _ _ _ X
     ·rename_i ag;simp only[afM]at O;subst O;exact ag k2
    ·cases O
   ·rename_i ah;have ab:rt k=k % PK:=by unfold rt;rw[if_neg ah]
    rw[afB]at O;obtain⟨q,q1,q2⟩:=O;unfold D6 at q2;split at q2
    ·rename_i ai;split at q2
     ·rename_i ty s nv cs aj;subst q2;simp only at X;refine⟨q,ty,s,nv,cs,by rw[U,ab];exact q1,ai,aj,?_⟩;unfold y6 at X;split at X<;>(simp only[af1,D.nr.injEq,and_true]at X;obtain⟨rfl,rfl,rfl,_⟩:=X;exact k4)
     ·subst q2;exact⟨q,Y,s1,Z,aa,by rw[U,ab];exact q1,k2,X,k4⟩
    ·subst q2;exact⟨q,Y,s1,Z,aa,by rw[U,ab];exact q1,k2,X,k4⟩
section
variable {P:Program} {T:Nat->Option Ty} {N:Nat} {M:Nat->Prop} {L:iN} {w0:World} {blk:Nat->Option (Nat×Nat)} {t:Nat->D} {h h':Nat->Option Row} {a:Act} {w:World} {e:Nat} {o:Oper} {Γ:Env} {done:List Nat}
theorem gA.set {x:Nat} {r r':Row} {ty s nv O ty' s':Nat} {cs cs':List D} (hx:h x=some r) (hm:r.mp=true) (hc:r.cells=[.nr ty s nv cs]) (Z:r'.cells=[.nr ty' s' O cs']) (hn:O=nv∨bump nv e=some O):gA e h (bI h x (some r')):=by
 intro y r1 aa s1 ab ad Y ae U hp
 by_cases X:y=x
 ·subst X;rw[an]at Y;cases Y;rw[Z]at U;cases U;exact⟨r,ty,s,nv,cs,hx,hm,hc,hn⟩
 ·rw[aq _ _ X]at Y;exact⟨r1,aa,s1,ab,ad,Y,ae,U,.inl rfl⟩
theorem gA.drop {y:Nat} (Y:gA e (bI h y none) h'):gA e h h':=by
 intro x r' ty' Z X cs' hx hm hc hp;obtain⟨r,ty,s,nv,cs,U,k⟩:=Y x r' ty' Z X cs' hx hm hc hp
 by_cases O:x=y
 ·subst O;rw[an]at U;cases U
 ·rw[aq _ _ O]at U;exact⟨r,ty,s,nv,cs,U,k⟩
theorem GA {τ:Ty} {d:D} {E:bB} (O:oC τ h d=some E):E.hw=[]:=by
 unfold oC at O;split at O<;>try (cases O;done)
 split at O<;>try (cases O;done)
 unfold Dc at O;split at O
 ·split at O<;>try (cases O;done)
  cases O;rfl
 ·split at O<;>try (cases O;done)
  split at O<;>try (cases O;done)
  cases O;rfl
 ·cases O
theorem PG {τ:Ty} {d:D} {E:bB} (O:oB τ h d=some E):gA e h (aK h E.hw):=by
 unfold oB at O;split at O<;>try (cases O;done)
 split at O<;>try (cases O;done)
 rename_i r ty s nv cs U;obtain⟨X,hv,hz,hm,Y,Z⟩:=gQ U;split at O<;>try (cases O;done)
 unfold Qg at O;split at O<;>try (cases O;done)
 cases O;exact gA.set X hm Z rfl (.inl rfl)
theorem PJ {τ:Ty} {p d:D} {E:bB} (O:oG τ e h p d=some E):gA e h (aK h E.hw):=by
 unfold oG at O;split at O<;>try (cases O;done)
 split at O<;>try (cases O;done)
 rename_i r ty s nv cs U;obtain⟨X,hv,hz,hm,Y,Z⟩:=gQ U;split at O<;>try (cases O;done)
 unfold QM at O;split at O<;>try (cases O;done)
 split at O<;>try (cases O;done)
 unfold stZ at O;split at O<;>try (cases O;done)
 rename_i aa cs' hb _;cases O;exact gA.set X hm Z rfl (.inr hb)
theorem PI {τ:Ty} {p d:D} {E:bB} (O:l7 τ e h p d=some E):gA e h (aK h E.hw):=by
 unfold l7 at O;split at O<;>try (cases O;done)
 rename_i y0 v0 c0;split at O<;>try (cases O;done)
 rename_i r ty s nv cs hl;obtain⟨Y,hv,hz,hm,aa,Z⟩:=gQ hl;split at O<;>try (cases O;done)
 have plain:∀ {c':Option (List D)},za τ y0 r ty s nv cs c0 c'=some E->gA e h (aK h E.hw):=by
  intro c' O;unfold za at O;split at O<;>try (cases O;done)
  split at O<;>try (cases O;done)
  cases O;exact gA.set Y hm Z rfl (.inl rfl)
 unfold uU at O;split at O
 ·rename_i yq vq sq oq nq;split at O<;>try (cases O;done)
  split at O
  ·split at O<;>try (cases O;done)
   unfold y8 at O;split at O<;>try (cases O;done)
   split at O<;>try (cases O;done)
   cases O;exact gA.set Y hm Z rfl (.inl rfl)
  ·split at O<;>try (cases O;done)
   split at O<;>try (cases O;done)
   rename_i q U;split at O<;>try (cases O;done)
   unfold y9 at O;split at O<;>try (cases O;done)
   rename_i ab hb;cases O;obtain⟨X,ad⟩:=cg U;refine gA.drop (y:=yq) ?_;exact gA.set (by
    rw[aq]
    ·exact Y
    ·rintro rfl;rw[Y]at X;cases X;have:=gE U;rw[hm]at this;cases this) hm Z rfl (.inr hb)
 ·exact plain O
structure qM (N:Nat) (M:Nat->Prop) (L:iN) (w0:World) (blk:Nat->Option (Nat×Nat)) (e:Nat) (done:List Nat) (t:Nat->D) (h:Nat->Option Row) (a:Act) (w:World):Prop where
 inv:Inv N M L w0 blk (VE N e done h) t (EH h) a w
 nv:EW e done h
def Bp (N:Nat) (M:Nat->Prop) (L:iN) (w0:World) (t:Nat->D) (h:Nat->Option Row) (a:Act) (e:Nat) (done:List Nat) (E:bB) (v:Value) (w':World):Prop :=
 ∃blk',qM N M L w0 blk' e done t (aK h E.hw) a w'∧RT w' (Own M (EH (aK h E.hw)) blk') (EH (aK h E.hw)) blk' (VE N e done (aK h E.hw)) E.val v
theorem PF (hT:gW P T) (hΓ:bF P Γ) (hI:qM N M L w0 blk e done t h a w) (hd:∀d:Nat,o.dst=some d->d∉done∧d<N) {E:bB} (X:nK T Γ e o (ev t) h=some E):dR P o a w (Bp N M L w0 t h a e (o.dst.toList++done) E):=by
 have aa:=hI.inv.big;have aF:=cm;have hV:∀d:Nat,o.dst=some d->iA N (VE N e done h) d e:=by
  intro d aD;obtain⟨q1,q2⟩:=hd d aD;replace q2:(d:Nat)<N:=q2;refine⟨fun hv =>?_,q2⟩;rcases hv with⟨_,hv|⟨_,hv⟩⟩|⟨hv,_⟩
  ·omega
  ·exact q1 hv
  ·omega
 have hP:∀x v,VE N e done h x v->x<N∨2*PK<=x:=fun x v hv=>hv.imp (fun h=>h.1) (fun h=>h.1);have ab:∀x,x∈done->x∈o.dst.toList++done:=fun x hx=>afS _ hx;have fin:gA e h (aK h E.hw)->∀ {v:Value} {w':World},iL N M L w0 (VE N e done h) t h a e o.dst E v w'->Bp N M L w0 t h a e (o.dst.toList++done) E v w':=by
  intro ar v w' Y;obtain⟨blk',h1,h2⟩:=Y;have ai:∀x n,VE N e done h x n∨(o.dst=some x∧n=e)->VE N e (o.dst.toList++done) (aK h E.hw) x n:=by
   rintro x n (hv|⟨hx,rfl⟩)
   ·exact hv.step ar ab
   ·exact .inl ⟨(hd x hx).2,.inr ⟨rfl,afR _ (by rw[hx];simp)⟩⟩
  refine⟨blk',⟨h1.weaken ai,hI.nv.step ar ab⟩,h2.mono ⟨fun _ h1 h2=>⟨h1,h2,rfl⟩,ai,fun _ _ _ r' h1 h2=>⟨⟨r',h1,h2⟩,rfl,fun _ _=>rfl⟩⟩⟩
 have fin2:∀ {E0:bB} {d:Nat} {r0:Row} {ty' s:Nat} {al:List D},o.dst=some d->E0.hw=[(d,some r0)]->r0.mp=true->r0.cells=[.nr ty' s (4*e+2) al]->∀ {v:Value} {w':World},iL N M L w0 (VE N e done h) t h a e o.dst E0 v w'->Bp N M L w0 t h a e (o.dst.toList++done) E0 v w':=by
  intro E0 d r0 ty' s al O aj ao Z v w' Y;obtain⟨blk',h1,h2⟩:=Y;obtain⟨ag,ak⟩:=hd d O;have aB:aK h E0.hw=bI h d (some r0):=by rw[aj];rfl
  have ai:∀x n,VE N e done h x n∨(o.dst=some x∧n=e)->VE N e (o.dst.toList++done) (aK h E0.hw) x n:=by
   rintro x n (hv|⟨hx,rfl⟩)
   ·rcases hv with⟨q1,q2⟩|⟨q1,q2,q3,q4⟩
    ·exact .inl ⟨q1,q2.imp id fun⟨p1,p2⟩=>⟨p1,ab _ p2⟩⟩
    ·refine .inr ⟨q1,q2,fun hn=>q3 fun h=>hn (ab _ h),fun r' au s1 av aw k1 k2 k3 =>?_⟩;rw[aB]at k1
     by_cases ah:x % PK=d
     ·rw[ah,an]at k1;cases k1;rw[Z]at k3;cases k3;have:=q3 (by rw[ah];exact ag);omega
     ·rw[aq _ _ ah]at k1;exact q4 r' au s1 av aw k1 k2 k3
   ·exact .inl ⟨(hd x hx).2,.inr ⟨rfl,afR _ (by rw[hx];simp)⟩⟩
  refine⟨blk',⟨h1.weaken ai,?_⟩,h2.mono ⟨fun _ h1 h2=>⟨h1,h2,rfl⟩,ai,fun _ _ _ r' h1 h2=>⟨⟨r',h1,h2⟩,rfl,fun _ _=>rfl⟩⟩⟩;intro x r' au s1 av aw k1 k2 k3 hp;rw[aB]at k1
  by_cases ah:x=d
  ·subst ah;rw[an]at k1;cases k1;rw[Z]at k3;cases k3;exact⟨by omega,fun hn=>absurd (afR _ (by rw[O];simp)) hn⟩
  ·rw[aq _ _ ah]at k1;obtain⟨p1,p2⟩:=hI.nv x r' au s1 av aw k1 k2 k3 hp;exact⟨p1,fun hn=>p2 fun h=>hn (ab _ h)⟩
 have aC:∀d:Nat,o.dst=some d->∀o',¬VE N e done h (NK d o') (4*e+2):=by
  intro d O o' hv;obtain⟨ag,ak⟩:=hd d O;have ax:(d:Nat)<PK:=afG ak aa;rcases hv with⟨hv,_⟩|⟨_,_,hv,_⟩
  ·have:=eL d o';omega
  ·have:=hv (by rw[qP o' ax];exact ag);omega
 unfold nK at X;split at X
 ·rename_i E0 U;simp only[afM]at X;subst X;unfold gq at U;split at U<;>try (cases U;done)
  rotate_left
  ·rename_i ty ho;split at U<;>try (cases U;done)
   rename_i d O;split at U<;>try (cases U;done)
   rename_i ty' s f hn;split at U<;>try (cases U;done)
   rename_i τ hτ;obtain⟨ag,ak⟩:=hd d O;have Y:=WR hT hI.inv ho O (hV d O) (aC d O) hτ U;obtain⟨r0,aj,ao,Z⟩:∃r0:Row,E0.hw=[(d,some r0)]∧r0.mp=true∧∃cs,r0.cells=[.nr ty' s (4*e+2) cs]:=by
    unfold Z2 at U;split at U<;>try (cases U;done)
    cases U;exact⟨_,rfl,rfl,_,rfl⟩
   obtain⟨al,Z⟩:=Z;exact Y.mono fun v w' Y=>fin2 O aj ao Z Y
  rename_i ty l c ho;split at U<;>try (cases U;done)
  rename_i d O;split at U<;>try (cases U;done)
  rename_i ty' s f hn;split at U<;>try (cases U;done)
  rename_i τ hτ;obtain⟨ag,ak⟩:=hd d O;have Y:=WS hT hI.inv ho O (hV d O) (fun o' hv=>by
   have ax:(d:Nat)<PK:=afG ak aa;rcases hv with⟨hv,_⟩|⟨_,_,hv,_⟩
   ·have:=eL d o';omega
   ·have:=hv (by rw[qP o' ax];exact ag);omega) hτ U
  obtain⟨r0,aj,ao,Z⟩:∃r0:Row,E0.hw=[(d,some r0)]∧r0.mp=true∧∃cs,r0.cells=[.nr ty' s (4*e+2) cs]:=by
   unfold si at U;split at U<;>try (cases U;done)
   split at U<;>try (cases U;done)
   split at U<;>try (cases U;done)
   cases U;exact⟨_,rfl,rfl,_,rfl⟩
  obtain⟨al,Z⟩:=Z;exact Y.mono fun v w' Y=>fin2 O aj ao Z Y
 split at X
 ·rename_i E0 ad;simp only[afM]at X;subst X;unfold lH at ad;split at ad<;>try (cases ad;done)
  rename_i d g args O ay;obtain⟨c,f,az,aA,hq,ae⟩:=mI ay;unfold Cw at ad;split at ad<;>try (cases ad;done)
  rename_i p hp;obtain⟨_,ty',ti,s',S',n',cs',_,_,_,aE⟩:=vt ad;subst ae;have Y:=Cg hI.inv az aA hq.symm (fun vs q1 q2=>Wp hΓ hI.inv O (hV d O) (aC d O) hp ad q1 q2);refine Y.mono fun v w' Y =>?_;exact fin2 (r0:=⟨e,ty',[.nr ti s' (4*e+2) cs'],false,true,true⟩) O (by rw[aE]) rfl rfl Y
 ·unfold Zw at X;split at X
  ·rename_i v0 hw he;simp only[afM]at X;subst X;have Y:=Ur hT hΓ hI.inv hV hP he;exact Y.mono fun v w' Y=>fin (LW e hw h) (Y.le (LU hw h))
  ·unfold sT at X;split at X
   ·rename_i ty p ho;split at X<;>try (cases X;done)
    rename_i τ hτ;unfold sS Zx at X;split at X
    ·rename_i E0 hF;simp only[afM]at X;subst X;exact (WM hT hI.inv ho hτ hF).mono fun v w' Y=>fin (PG hF) Y
    ·exact (WN hT hI.inv hI.nv.ac0 ho hτ X).mono fun v w' Y=>fin (by rw[GA X];exact .refl e h) Y
   ·rename_i ty p x ho;split at X<;>try (cases X;done)
    rename_i τ hτ;unfold sU Zx at X;split at X
    ·rename_i E0 hF;simp only[afM]at X;subst X;exact (WV hT hI.inv (hI.nv.new aa) ho hτ hF).mono fun v w' Y=>fin (PJ hF) Y
    ·exact (WU hT hI.inv (hI.nv.new aa) ho hτ X).mono fun v w' Y=>fin (PI X) Y
   ·rename_i c ho;unfold zP at X;split at X<;>try (cases X;done)
    rename_i g args ay;obtain⟨c',f,az,aA,hq,ae⟩:=mI ay;cases az;subst ae;refine (Cg hI.inv ho aA hq.symm (fun vs q1 q2=>Wr hΓ hI.inv (hI.nv.new aa) (dst:=o.dst) X q1 q2)).mono fun v w' Y=>fin ?_ Y;obtain⟨x,v,o',rest,r,ty,s,nv,cs,p,afy,aG,d,cs',_,hl,_,_,hb,_,_,rfl⟩:=q9 X;obtain⟨hx,_,_,hm,_,hc⟩:=gQ hl;exact gA.set hx hm hc rfl (.inr hb)
   ·cases X
end
section
variable {T:Nat->Option Ty} {h h':Nat->Option Row} {e:Nat} {o:Oper} {Γ:Env}
theorem mQ {x v:Nat} (O:h x=h' x):fC h x v=fC h' x v:=by simp[fC,O]
theorem lh {x v:Nat} {q:Row×Nat×Nat×Nat×List D} (O:fC h x v=some q):x<PK:=by
 obtain⟨r,ty,s,nv,cs⟩:=q;exact (gQ O).2.2.2.2.1
theorem zV:∀(l:List (Nat×Option Row)) {h h':Nat->Option Row},(∀p∈l,h (rt p.1)=h' (rt p.1))->jN h l=jN h' l
 | [],_,_,_=>rfl
 | (k,r)::l,h,h',X=>by
  have hk:h (rt k)=h' (rt k):=X (k,r) (by simp);have Y:xv h k r=xv h' k r:=by
   unfold xv;split
   ·rfl
   ·rename_i O;have:rt k=k % PK:=by unfold rt;rw[if_neg O]
    rw[<- this,hk]
  unfold jN;rw[Y];congr 1;refine zV l fun p U =>?_
  by_cases he:rt p.1=rt k
  ·rw[he,an,an]
  ·rw[aq _ _ he,aq _ _ he];exact X p (ahe _ U)
theorem zW:∀(l:List (Nat×Option Row)) {h:Nat->Option Row},∀p∈jN h l,∃q∈l,p.1=rt q.1
 | [],_,p,O=>by simp[jN]at O
 | (k,r)::l,h,p,O=>by
  unfold jN at O;rcases afK.1 O with rfl|O
  ·exact⟨(k,r),by simp,rfl⟩
  ·obtain⟨q,h1,h2⟩:=zW l p O;exact⟨q,ahe _ h1,h2⟩
theorem Vb {τ:Ty} {p d:D} {E:bB} (O:l7 τ e h p d=some E):∀q∈E.hw,q.1<PK∧(q.1∈nm p∨q.1∈nm d):=by
 unfold l7 at O;split at O<;>try (cases O;done)
 rename_i y0 v0 X;split at O<;>try (cases O;done)
 rename_i r ty s nv cs hl;have Y:=lh hl;split at O<;>try (cases O;done)
 have one:∀ {r':Option Row} (q:Nat×Option Row),q∈[(y0,r')]->q.1<PK∧(q.1∈nm (.ptr y0 v0 X)∨q.1∈nm d):=by
  intro r' q U;simp only[af0]at U;subst U;exact⟨Y,.inl (by simp[nm,gx])⟩
 have plain:∀ {Z:Option (List D)},za τ y0 r ty s nv cs X Z=some E->∀q∈E.hw,q.1<PK∧(q.1∈nm (.ptr y0 v0 X)∨q.1∈nm d):=by
  intro Z O;unfold za at O;split at O<;>try (cases O;done)
  split at O<;>try (cases O;done)
  cases O;exact one
 unfold uU at O;split at O
 ·rename_i yq vq sq oq nq;split at O<;>try (cases O;done)
  split at O
  ·split at O<;>try (cases O;done)
   unfold y8 at O;split at O<;>try (cases O;done)
   split at O<;>try (cases O;done)
   cases O;exact one
  ·split at O<;>try (cases O;done)
   rename_i hyp;split at O<;>try (cases O;done)
   split at O<;>try (cases O;done)
   unfold y9 at O;split at O<;>try (cases O;done)
   cases O;intro q U;rcases afK.1 U with rfl|U
   ·exact⟨hyp,.inr (by simp[nm,gx])⟩
   ·exact one q U
 ·exact plain O
theorem UJ {τ:Ty} {p:D} {E:bB} (O:oB τ h p=some E):∀q∈E.hw,q.1<PK∧q.1∈nm p:=by
 unfold oB at O;split at O<;>try (cases O;done)
 rename_i y0 v0 Z;split at O<;>try (cases O;done)
 rename_i r ty s nv cs Y;have U:=lh Y;split at O<;>try (cases O;done)
 unfold Qg at O;split at O<;>try (cases O;done)
 cases O;intro q X;simp only[af0]at X;subst X;exact⟨U,by simp[nm,gx]⟩
theorem Ve {τ:Ty} {p d:D} {E:bB} (O:oG τ e h p d=some E):∀q∈E.hw,q.1<PK∧(q.1∈nm p∨q.1∈nm d):=by
 unfold oG at O;split at O<;>try (cases O;done)
 rename_i y0 v0 Z;split at O<;>try (cases O;done)
 rename_i r ty s nv cs Y;have U:=lh Y;split at O<;>try (cases O;done)
 unfold QM at O;split at O<;>try (cases O;done)
 split at O<;>try (cases O;done)
 unfold stZ at O;split at O<;>try (cases O;done)
 cases O;intro q X;simp only[af0]at X;subst X;exact⟨U,.inl (by simp[nm,gx])⟩
theorem UI {τ:Ty} {d:D} (U:∀x∈nm d,x<2*PK->h x=h' x):oB τ h d=oB τ h' d:=by
 unfold oB;split
 ·rename_i x v o
  by_cases X:x<2*PK
  ·rw[mQ (U x (by simp[nm,gx]) X)]
  ·have O:∀h:Nat->Option Row,fC h x v=none:=by
    intro h;cases Y:fC h x v with
    | none=>rfl
    | some q=>have:=lh Y;omega
   rw[O,O]
 ·rfl
theorem Vd {τ:Ty} {p d:D} (X:∀x∈nm p,x<2*PK->h x=h' x):oG τ e h p d=oG τ e h' p d:=by
 unfold oG;split
 ·rename_i x v o
  by_cases O:x<2*PK
  ·rw[mQ (X x (by simp[nm,gx]) O)]
  ·have U:∀h:Nat->Option Row,fC h x v=none:=by
    intro h;cases Y:fC h x v with
    | none=>rfl
    | some q=>have:=lh Y;omega
   rw[U,U]
 ·rfl
theorem UL {τ:Ty} {d:D} (U:∀x∈nm d,x<2*PK->h x=h' x):oC τ h d=oC τ h' d:=by
 unfold oC;split
 ·rename_i x v o
  by_cases X:x<2*PK
  ·rw[mQ (U x (by simp[nm,gx]) X)]
  ·have O:∀h:Nat->Option Row,fC h x v=none:=by
    intro h;cases Y:fC h x v with
    | none=>rfl
    | some q=>have:=lh Y;omega
   rw[O,O]
 ·rfl
theorem Va {τ:Ty} {p d:D} (X:∀x∈nm p,x<2*PK->h x=h' x) (Y:∀x∈nm d,x<2*PK->h x=h' x):l7 τ e h p d=l7 τ e h' p d:=by
 unfold l7;split
 ·rename_i x v o
  by_cases O:x<2*PK
  rotate_left
  ·have U:∀h:Nat->Option Row,fC h x v=none:=by
    intro h;cases Z:fC h x v with
    | none=>rfl
    | some q=>have:=lh Z;omega
   rw[U,U]
  rw[mQ (X x (by simp[nm,gx]) O)];split
  ·split
   ·unfold uU;split
    ·rename_i y vy s' oy n
     by_cases hyp:y<2*PK
     ·rw[cH (Y y (by simp[nm,gx]) hyp)]
     ·split
      ·split
       ·rfl
       ·rw[if_neg (by have:=cm;omega),if_neg (by have:=cm;omega)]
      ·rfl
    ·rfl
   ·rfl
  ·rfl
 ·rfl
theorem fb {vs:Operand->D} {x:Nat} (O:x∈gj o vs):rt x∈bm o vs:=afC.2 ⟨x,O,rfl⟩
theorem mX {vs:Operand->D} {y:Operand} (U:y∈o.op.operands.toList) (h1:∀a b c,o.op ≠ .pick a b c) (h2:∀a,o.op ≠ .move a) (h3:∀a b c,o.op ≠ .makeFunc a b c) {x:Nat} (X:x∈nm (vs y)):x∈gj o vs:=by
 unfold gj;split
 ·rename_i O;exact absurd O (h2 _)
 ·rename_i O;exact absurd O (h1 _ _ _)
 ·rename_i O;exact absurd O (h3 _ _ _)
 ·exact afR _ (ahb.2 ⟨y,U,X⟩)
theorem F2 {vs:Operand->D} {q:D} {args:List D} (Z:gO vs o.op=some (q,args)) (hx:∀x∈bm o vs,h x=h' x):∀d∈args,∀x∈nm d,h (rt x)=h' (rt x):=by
 obtain⟨c,f,U,X,_,O⟩:=mI Z;subst O;intro d hd x Y;obtain⟨y,hy,rfl⟩:=afC.1 hd;exact hx _ (fb (mX (y:=y) (by simp[U,Op.operands,Call.operands,X];exact .inr (by simpa using hy)) (by simp[U]) (by simp[U]) (by simp[U]) Y))
theorem KI {g:Nat} {args:List D} (X:∀d∈args,∀x∈nm d,h (rt x)=h' (rt x)):p8 Γ e h g args=p8 Γ e h' g args:=by
 unfold p8;split
 ·rename_i x v c rest;have O:bq (EH h) rest=bq (EH h') rest:=iB fun d Z x U=>dS (X d (ahe _ Z) x U)
  by_cases hp:x<2*PK
  ·have:=X _ ahd x (by simp[nm,gx]);rw[gH hp]at this;rw[mQ this,O]
  ·have Y:∀h:Nat->Option Row,fC h x v=none:=by
    intro h;cases hl:fC h x v with
    | none=>rfl
    | some q=>have:=lh hl;omega
   rw[Y,Y]
 ·rfl
theorem Ly {vs:Operand->D} (X:∀x∈bm o vs,h x=h' x):lH Γ e h o.dst (gO vs o.op)=lH Γ e h' o.dst (gO vs o.op):=by
 unfold lH;split
 ·rename_i d g args U Y;unfold Cw;split
  ·rw[iB fun d U x O=>dS (F2 Y X d U x O)]
  ·rfl
 ·rfl
theorem PH {vs:Operand->D} (Z:∀x∈bm o vs,h x=h' x):sT T Γ e o vs h=sT T Γ e o vs h':=by
 unfold sT;split
 ·rename_i ty p O;split
  ·have X:∀x∈nm (vs p),x<2*PK->h x=h' x:=fun x U Y=>by
    have:=Z _ (fb (mX (y:=p) (by simp[O,Op.operands]) (by simp[O]) (by simp[O]) (by simp[O]) U))
    rwa [gH Y]at this
   unfold sS;rw[UL X,UI X]
  ·rfl
 ·rename_i ty p x O;split
  ·have X:∀x∈nm (vs p),x<2*PK->h x=h' x:=fun y U Y=>by
    have:=Z _ (fb (mX (y:=p) (by simp[O,Op.operands]) (by simp[O]) (by simp[O]) (by simp[O]) U))
    rwa [gH Y]at this
   unfold sU;rw[Va X (fun y U Y=>by
    have:=Z _ (fb (mX (y:=x) (by simp[O,Op.operands]) (by simp[O]) (by simp[O]) (by simp[O]) U))
    rwa [gH Y]at this),Vd X]
  ·rfl
 ·rename_i c O;unfold zP;split
  ·rename_i g args hc;exact KI (F2 (by rw[O];exact hc) Z)
  ·rfl
 ·rfl
theorem PD {vs:Operand->D} (hx:∀x∈bm o vs,h x=h' x):nK T Γ e o vs h=nK T Γ e o vs h':=by
 have h1:lG T Γ e o vs (EH h)=lG T Γ e o vs (EH h'):=Uq fun x O=>dS (hx _ (fb O));unfold nK;rw[h1,PH hx,Ly hx];split
 ·rfl
 split
 ·rfl
 ·cases U:lG T Γ e o vs (EH h') with
  | none=>rfl
  | some E =>
   simp only[Zw];rw[zV E.hw fun p X=>hx _ (fb (GB U p X))]
theorem PE {vs:Operand->D} {E:bB} (U:nK T Γ e o vs h=some E):∀p∈E.hw,p.1∈bm o vs:=by
 unfold nK at U;split at U
 ·rename_i E0 O;simp only[afM]at U;subst U;unfold gq at O;split at O<;>try (cases O;done)
  rotate_left
  ·rename_i ty X;split at O<;>try (cases O;done)
   rename_i d Y;split at O<;>try (cases O;done)
   split at O<;>try (cases O;done)
   unfold Z2 at O;split at O<;>try (cases O;done)
   rename_i Z;cases O;intro p hp;simp only[af0]at hp;subst hp;have hd:d∈gj o vs:=by
    unfold gj;rw[X];exact afS _ (by rw[Y];simp)
   have:=fb hd
   rwa [gH (by have:=Z.2.2.2.1;omega)]at this
  rename_i ty l c X;split at O<;>try (cases O;done)
  rename_i d Y;split at O<;>try (cases O;done)
  split at O<;>try (cases O;done)
  unfold si at O;split at O<;>try (cases O;done)
  split at O<;>try (cases O;done)
  split at O<;>try (cases O;done)
  rename_i Z;cases O;intro p hp;simp only[af0]at hp;subst hp;have hd:d∈gj o vs:=by
   unfold gj;rw[X];exact afS _ (by rw[Y];simp)
  have:=fb hd
  rwa [gH (by have:=Z.2.2.2.2.2.2.1;omega)]at this
 split at U
 ·rename_i E0 aa;simp only[afM]at U;subst U;unfold lH at aa;split at aa<;>try (cases aa;done)
  rename_i d g args Y ad;obtain⟨c,f,ae,ag,hq,ab⟩:=mI ad;unfold Cw at aa;split at aa<;>try (cases aa;done)
  obtain⟨_,_,_,_,_,_,_,_,_,ak,rfl⟩:=vt aa;intro p hp;simp only[af0]at hp;subst hp;have hd:d∈gj o vs:=by
   unfold gj;rw[ae];exact afS _ (by rw[Y];simp)
  have:=fb hd
  rwa [gH (by omega)]at this
 ·unfold Zw at U;split at U
  ·rename_i v0 hw he;simp only[afM]at U;subst U;intro p hp;obtain⟨q,h1,h2⟩:=zW hw p hp;rw[h2];exact fb (GB he q h1)
  ·unfold sT at U;split at U
   ·rename_i ty p X;split at U<;>try (cases U;done)
    unfold sS Zx at U;split at U
    ·rename_i E0 hF;simp only[afM]at U;subst U;intro q hq;obtain⟨q1,q2⟩:=UJ hF q hq;have:q.1∈gj o vs:=mX (y:=p) (by simp[X,Op.operands]) (by simp[X]) (by simp[X]) (by simp[X]) q2;have:=fb this
     rwa [gH (by omega)]at this
    rw[GA U];intro p hp;simp at hp
   ·rename_i ty p x X;split at U<;>try (cases U;done)
    intro q hq;have ah:q.1<PK∧(q.1∈nm (vs p)∨q.1∈nm (vs x)):=by
     unfold sU Zx at U;split at U
     ·rename_i E0 hF;simp only[afM]at U;subst U;exact Ve hF q hq
     ·exact Vb U q hq
    obtain⟨q1,q2⟩:=ah;have:q.1∈gj o vs:=by
     rcases q2 with q2|q2
     ·exact mX (y:=p) (by simp[X,Op.operands]) (by simp[X]) (by simp[X]) (by simp[X]) q2
     ·exact mX (y:=x) (by simp[X,Op.operands]) (by simp[X]) (by simp[X]) (by simp[X]) q2
    have:=fb this
    rwa [gH (by omega)]at this
   ·rename_i c X;unfold zP at U;split at U<;>try (cases U;done)
    rename_i g args ad;obtain⟨c',f,ae,ag,hq,ab⟩:=mI ad;cases ae;obtain⟨x,v,o',rest,r,ty,s,nv,cs,p,afy,al,d,cs',ai,hl,_,_,_,_,_,rfl⟩:=q9 U;have an:=lh hl;intro q hq;simp only[af0]at hq;subst hq;obtain⟨y,hy,aj⟩:∃y∈c.args.toList,vs y=.ptr x v o':=by
     have:(.ptr x v o':D)∈c.args.toList.map vs:=by rw[<- ab,ai];exact ahd
     obtain⟨y,h1,h2⟩:=afC.1 this;exact⟨y,h1,h2⟩
    have:x∈gj o vs:=mX (y:=y) (by simp[X,Op.operands,Call.operands,ag];exact .inr (by simpa using hy)) (by simp[X]) (by simp[X]) (by simp[X]) (by rw[aj];simp[nm,gx]);have:=fb this
    rwa [gH (by omega)]at this
   ·cases U
theorem ZR {vs O:Operand->D} (hx:∀y∈o.op.operands.toList,vs y=O y):nK T Γ e o vs h=nK T Γ e o O h∧bm o vs=bm o O:=by
 obtain⟨h1,h2⟩:=abM (T:=T) (Γ:=Γ) (e:=e) (h:=EH h) hx;have h3:gq T Γ e o vs=gq T Γ e o O:=by
  unfold gq;split
  ·rename_i ty l c U;rw[hx l (by simp[U,Op.operands]),hx c (by simp[U,Op.operands])]
  ·rfl
  ·rfl
 have X:∀c,o.op=.call c->gO vs (.call c)=gO O (.call c):=by
  intro c U;unfold gO;simp only;split
  ·rename_i f Z;rw[hx f (by simp[U,Op.operands,Call.operands,Z]),ahc fun y hy=>hx y (by simp[U,Op.operands,Call.operands,Z];exact .inr (by simpa using hy))]
  ·rfl
 have h4:sT T Γ e o vs h=sT T Γ e o O h:=by
  unfold sT;split
  ·rename_i ty p U;rw[hx p (by simp[U,Op.operands])]
  ·rename_i ty p x U;rw[hx p (by simp[U,Op.operands]),hx x (by simp[U,Op.operands])]
  ·rename_i c U;rw[X c U]
  ·rfl
 have h5:gO vs o.op=gO O o.op:=by
  by_cases Y:∃c,o.op=.call c
  ·obtain⟨c,Y⟩:=Y;rw[Y];exact X c Y
  ·unfold gO;split
   ·rename_i c U;exact absurd ⟨c,U⟩ Y
   ·rfl
 unfold nK bm;rw[h1,h2,h3,h4,h5];exact⟨rfl,rfl⟩
end
structure jP where
 tc:List Nat
 q:Bool
def th (ops:Array Oper) (t:Nat->D) (o:Oper):Option Bool :=
 match o.guard with
 | none=>some true
 | some (j,want) =>
  match (ops[j]?).bind (·.dst) with
  | some g=>match t g with | .bool b=>some (b==want) | .skp=>some false|_=>none
  | none=>none
def eF (t:Nat->D) (dst:Option Nat) (d:D):Nat->D :=
 match dst with
 | none=>t
 | some i=>bI t i d
def fits (N:Nat) (dst:Option Nat):Bool :=
 match dst with
 | none=>true
 | some i=>decide (i<N)
def step1 (T:Nat->Option Ty) (Γ:Env) (N e:Nat) (ops:Array Oper) (o:Oper) (t:Nat->D) (h:Nat->Option Row):Option ((Nat->D)×(Nat->Option Row)×jP) :=
 if fits N o.dst then
  match th ops t o with
  | some true =>
   match nK T Γ e o (ev t) h with
   | some E=>some (eF t o.dst E.val,aK h E.hw,⟨bm o (ev t),E.hw.isEmpty⟩)
   | none=>none
  | some false=>some (eF t o.dst .skp,h,⟨[],true⟩)
  | none=>none
 else none
section
variable {P:Program} {T:Nat->Option Ty} {N:Nat} {M:Nat->Prop} {L:iN} {w0:World} {blk:Nat->Option (Nat×Nat)} {t:Nat->D} {h:Nat->Option Row} {a:Act} {w:World} {e:Nat} {o:Oper} {Γ:Env} {ops:Array Oper}
theorem xg {V:Nat->Nat->Prop} (hI:Inv N M L w0 blk V t h a w) {b:Bool} (O:th ops t o=some b):Region.wanted o (yielded ops a.tmps)=b:=by
 unfold th at O;split at O
 ·rename_i ho;simp only[afM]at O;subst O;simp[Region.wanted,ho]
 ·rename_i j want ho;split at O
  ·rename_i g Y;split at O
   ·rename_i b' hb;simp only[afM]at O;subst O;have hs:=hI.slots g;rw[hb]at hs;have U:=tV hs;have Z:a.tmps[g]? = some (.bool b'):=by
     simp only[afI]at U;cases X:a.tmps[g]? with
     | none=>rw[X]at U;cases U
     | some v=>rw[X]at U;simp only[Option.getD_some]at U;rw[U]
    have hy:yielded ops a.tmps j=some b':=by
     unfold yielded;rw[Y];simp[Z]
    simp only[Region.wanted,ho,hy];cases b'<;>cases want<;>rfl
   ·rename_i hb;simp only[afM]at O;subst O;have hs:=hI.slots g;rw[hb]at hs;have U:a.tmps.getD g undef=undef:=hs;have hy:yielded ops a.tmps j=none:=by
     unfold yielded;rw[Y];simp only[afI]at U;cases X:a.tmps[g]? with
     | none=>simp only[Option.bind_some,X]
     | some v=>rw[X]at U;simp only[Option.getD_some]at U;subst U;simp only[Option.bind_some,X];rfl
    simp only[Region.wanted,ho,hy];cases want<;>rfl
   ·cases O
  ·cases O
theorem Inv.acd {V:Nat->Nat->Prop} (O:Inv N M L w0 blk V t h a w) (U:fits N o.dst=true) {d:D} {v:Value} (X:RT w (Own M h blk) h blk V d v):Inv N M L w0 blk V (eF t o.dst d) h (a.put o.dst v) w:=by
 cases Y:o.dst with
 | none=>simpa [eF,Act.put] using O
 | some i =>
  rw[Y]at U;exact O.put (by simpa [fits] using U) X
theorem JS (hT:gW P T) (hΓ:bF P Γ) {done:List Nat} {t':Nat->D} {h':Nat->Option Row} {f:jP} {K:Act->World->Prop} {Q:Exit->Act->World->Prop} (U:qM N M L w0 blk e done t h a w)
  (hs:step1 T Γ N e ops o t h=some (t',h',f)) (hd:∀d,o.dst=some d->d∉done) (hK:∀a' w' blk',qM N M L w0 blk' e (o.dst.toList++done) t' h' a' w'->K a' w') :
  if Region.wanted o (yielded ops a.tmps) then o.wp P a w K Q∨(o.asks P a w∧LetsOut Q) else K (a.put o.dst undef) w:=by
 unfold step1 at hs;split at hs
 ·rename_i Z;split at hs
  ·rename_i hg;rw[xg U.inv hg];simp only[if_true];split at hs
   ·rename_i E hE;simp only[afM,Prod.mk.injEq]at hs;obtain⟨rfl,rfl,_⟩:=hs;have:=PF hT hΓ U (fun d X=>⟨hd d X,by rw[X]at Z;simpa [fits] using Z⟩) hE;refine .inl (this.wp fun v w' hA =>?_);obtain⟨blk',Y,hR⟩:=hA;exact hK _ _ blk' ⟨Y.inv.acd Z hR,Y.nv⟩
   ·cases hs
  ·rename_i hg;rw[xg U.inv hg];simp only[agd,if_false];simp only[afM,Prod.mk.injEq]at hs;obtain⟨rfl,rfl,_⟩:=hs;have O:∀x,x∈done->x∈o.dst.toList++done:=fun x hx=>afS _ hx;exact hK _ _ blk ⟨(U.inv.acd Z (d := .skp) (v:=undef) rfl).weaken fun x n hx=>hx.step (.refl e h) O,U.nv.step (.refl e h) O⟩
  ·cases hs
 ·cases hs
theorem fj {x:Nat} : ∀ {l:List (Nat×Option Row)} {h:Nat->Option Row},(∀p∈l,p.1≠x)->aK h l x=h x
 | [],_,_=>rfl
 | (y,r)::l,h,hn=>by
  simp only[aK];rw[fj (fun p O=>hn p (by simp[O]))];exact aq _ _ (fun e=>hn (y,r) (by simp) e.symm)
theorem x4 {x:Nat} : ∀ {l:List (Nat×Option Row)} {h h':Nat->Option Row},(∃p∈l,p.1=x)->aK h l x=aK h' l x
 | [],_,_,he=>by obtain⟨p,U,_⟩:=he;simp at U
 | (y,r)::l,h,h',he=>by
  simp only[aK]
  by_cases hl:∃p∈l,p.1=x
  ·exact x4 hl
  ·have X:∀p∈l,p.1≠x:=fun p U O=>hl ⟨p,U,O⟩;rw[fj X,fj X];obtain⟨p,U,O⟩:=he;rcases afK.1 U with rfl|U
   ·simp only at O;subst O;rw[an,an]
   ·exact absurd O (X p U)
theorem Kp {l l':List (Nat×Option Row)} {h:Nat->Option Row} (hd:∀p∈l,∀q∈l',p.1≠q.1):aK (aK h l) l'=aK (aK h l') l:=by
 funext x
 by_cases h1:∃p∈l,p.1=x
 ·obtain⟨p,U,rfl⟩:=h1;rw[fj (fun q Z e=>hd p U q Z e.symm)];exact x4 ⟨p,U,rfl⟩
 ·have Y:∀p∈l,p.1≠x:=fun p U O=>h1 ⟨p,U,O⟩;rw[fj Y]
  by_cases h2:∃p∈l',p.1=x
  ·exact x4 h2
  ·have X:∀p∈l',p.1≠x:=fun p U O=>h2 ⟨p,U,O⟩;rw[fj X,fj X,fj Y]
theorem UZ {t:Nat->D} {x y:Option Nat} {v u:D} (hne:∀d,x=some d->y≠some d):eF (eF t x v) y u=eF (eF t y u) x v:=by
 cases x with
 | none=>rfl
 | some i =>
  cases y with
  | none=>rfl
  | some j=>exact Y9 t v u (fun e=>hne i rfl (by rw[e]))
theorem Tj {t:Nat->D} {x:Option Nat} {v:D} {s:Nat} (hne:x≠some s):eF t x v s=t s:=by
 cases x with
 | none=>rfl
 | some i=>exact aq _ _ (fun e=>hne (by rw[e]))
theorem OM {t t1:Nat->D} {h h1:Nat->Option Row} {f:jP} (hs:step1 T Γ N e ops o t h=some (t1,h1,f)) :
  ∃v hw,t1=eF t o.dst v∧h1=aK h hw∧(∀p∈hw,p.1∈f.tc)∧(f.q=true->hw=[]) ∧
   ∀O h',(∀s∈o.looksAt ops,t s=O s)->(∀x∈f.tc,h x=h' x)->step1 T Γ N e ops o O h'=some (eF O o.dst v,aK h' hw,f):=by
 have X:∀O:Nat->D,(∀s∈o.looksAt ops,t s=O s)->th ops t o=th ops O o:=by
  intro O U;unfold th;split
  ·rfl
  ·rename_i j want ho;split
   ·rename_i g Y;rw[U g (by simp[Oper.looksAt,ho,Y])]
   ·rfl
 have Z:∀O:Nat->D,(∀s∈o.looksAt ops,t s=O s)->∀y∈o.op.operands.toList,ev t y=ev O y:=by
  intro O U y hy;cases y with
  | tmp i=>exact U i (by unfold Oper.looksAt;exact afR _ (List.mem_filterMap.2 ⟨_,hy,rfl⟩))
  | const v=>rfl
  | global g=>rfl
  | func f=>rfl
 unfold step1 at hs;split at hs
 ·rename_i hf;split at hs
  ·rename_i Y;split at hs
   ·rename_i E hE;simp only[afM,Prod.mk.injEq]at hs;obtain⟨rfl,rfl,rfl⟩:=hs;refine⟨E.val,E.hw,rfl,rfl,PE hE,fun hq=>by simpa using hq,fun O h' U hh =>?_⟩;obtain⟨e1,e2⟩:=ZR (T:=T) (Γ:=Γ) (e:=e) (h:=h) (Z O U);have e3:nK T Γ e o (ev O) h'=some E:=by
     rw[<- hE,e1];exact (PD (fun x hx=>hh x (by rw[e2];exact hx))).symm
    unfold step1;rw[if_pos hf,<- X O U,Y];simp only[e3,e2]
   ·cases hs
  ·rename_i Y;simp only[afM,Prod.mk.injEq]at hs;obtain⟨rfl,rfl,rfl⟩:=hs;refine⟨.skp,[],rfl,rfl,fun p hp=>by simp at hp,fun _=>rfl,fun O h' U hh =>?_⟩;unfold step1;rw[if_pos hf,<- X O U,Y];rfl
  ·cases hs
 ·cases hs
def Pk (T:Nat->Option Ty) (Γ:Env) (N e:Nat) (ops:Array Oper) (F:Nat->jP):List Nat->(Nat->D)->(Nat->Option Row)->(Nat->D)->(Nat->Option Row)->Prop
 | [],t,h,O,h'=>t=O∧h=h'
 | i::L,t,h,O,h'=>∃o t1 h1,ops[i]? = some o∧step1 T Γ N e ops o t h=some (t1,h1,F i)∧Pk T Γ N e ops F L t1 h1 O h'
def ZN (l l':List Nat):Bool:=l.all fun x => !l'.contains x
structure Rr (ops:Array Oper) (F:Nat->jP) (j i:Nat):Prop where
 apart:∀oj oi,ops[j]? = some oj->ops[i]? = some oi->oj.apart ops oi=true
 foot:((F j).q&&(F i).q||ZN (F j).tc (F i).tc)=true
theorem swap {F:Nat->jP} {i j:Nat} {L:List Nat} {t t':Nat->D} {h h':Nat->Option Row} (hr:Pk T Γ N e ops F (j::i::L) t h t' h') (hi:Rr ops F j i):Pk T Γ N e ops F (i::j::L) t h t' h':=by
 obtain⟨oj,t1,h1,Z,ah,oi,t2,h2,aa,ai,X⟩:=hr;obtain⟨a1,a2,a3⟩:=Oper.apart_spec (hi.apart oj oi Z aa);obtain⟨vj,wj,rfl,rfl,nj,qj,ab⟩:=OM ah;obtain⟨vi,wi,rfl,rfl,ni,qi,ad⟩:=OM ai;have O:=hi.foot;simp only[ahh,age]at O;have d1:∀x∈(F i).tc,∀p∈wj,p.1≠x:=by
  intro x Y p U he;rcases O with⟨h1,_⟩|h1
  ·rw[qj h1]at U;simp at U
  ·simp only[ZN,afO]at h1;have:=h1 p.1 (nj p U);rw[he]at this;simp[Y]at this
 have d2:∀x∈(F j).tc,∀p∈wi,p.1≠x:=by
  intro x Y p U he;rcases O with⟨_,h1⟩|h1
  ·rw[qi h1]at U;simp at U
  ·simp only[ZN,afO]at h1;have:=h1 x Y;have hm:=ni p U;rw[he]at hm;simp[hm]at this
 have ae:=ad t h (fun s hs=>Tj (fun hd=>a1 s hd hs)) (fun x Y=>fj (d1 x Y));have ag:=ab (eF t oi.dst vi) (aK h wi) (fun s hs=>(Tj (fun hd=>a3 s hd hs)).symm) (fun x Y=>(fj (d2 x Y)).symm);refine⟨oi,_,_,aa,ae,oj,_,_,Z,ag,?_⟩;rw[UZ (x:=oi.dst) (y:=oj.dst) (fun d hd aj=>a2 d aj hd),Kp (l:=wi) (l':=wj) (fun p U q hq he=>d1 p.1 (ni p U) q hq he.symm)];exact X
theorem front {F:Nat->jP} {i:Nat} {post:List Nat} : ∀ {pre:List Nat} {t U:Nat->D} {h h':Nat->Option Row},Pk T Γ N e ops F (pre++i::post) t h U h'->(∀j∈pre,Rr ops F j i)->Pk T Γ N e ops F (i::(pre++post)) t h U h'
 | [],_,_,_,_,hr,_=>hr
 | j::pre,t,U,h,h',hr,hi=>by
  obtain⟨oj,t1,h1,X,Y,O⟩:=hr;have Z:=front (pre:=pre) O (fun k hk=>hi k (by simp[hk]));exact swap ⟨oj,t1,h1,X,Y,Z⟩ (hi j (by simp))
def direct (o:Oper):List Nat:=(o.after.toList.filter (Region.binds .any)).map (·.on)
def uc:List Oper->List (List Nat)->List (List Nat)
 | [],acc=>acc
 | o::l,acc=>uc l (acc++[direct o++(direct o).flatMap fun k=>acc.getD k []])
def abK (ops:Array Oper):List (List Nat):=uc ops.toList []
theorem B3 (S:Nat->Prop):∀(l:List Oper) (acc:List (List Nat)) (k:Nat),k=acc.length->(∀i j,j∈acc.getD i []->i<k->(∀m o,ops[m]? = some o->S m->∀d∈direct o,S d)->(∀o,ops[i]? = some o->∀d∈direct o,S d)->S j) ->
  (∀j,l[j]? = ops[k+j]?)->∀i j,j∈(uc l acc).getD i []->(∀m o,ops[m]? = some o->S m->∀d∈direct o,S d)->(∀o,ops[i]? = some o->∀d∈direct o,S d)->S j
 | [],acc,k,hk,O,hl,i,j,Y,hS,hi=>by
  simp only[uc]at Y
  by_cases ab:i<k
  ·exact O i j Y ab hS hi
  ·have:acc.getD i []=[]:=by simp[List.getD,ahi (show acc.length<=i by omega)]
   rw[this]at Y;simp at Y
 | o::l,acc,k,hk,O,hl,i,j,Y,hS,hi=>by
  simp only[uc]at Y;refine B3 S l _ (k+1) (by simp[hk]) ?_ (fun j=>by have:=hl (j+1);simpa [afY,Nat.add_comm 1 j] using this) i j Y hS hi;intro U j' X aj hS' Z
  by_cases ad:U<k
  ·have:(acc++[direct o++(direct o).flatMap fun k=>acc.getD k []]).getD U []=acc.getD U []:=by
    simp[List.getD,agi (show U<acc.length by omega)]
   rw[this]at X;exact O U j' X ad hS' Z
  ·obtain rfl:U=k:=by omega
   have:(acc++[direct o++(direct o).flatMap fun k=>acc.getD k []]).getD U []=direct o++(direct o).flatMap fun k=>acc.getD k []:=by
    simp[List.getD,agj (show acc.length<=U by omega),hk]
   rw[this]at X;have ho:ops[U]? = some o:=by have:=hl 0;simpa using this.symm
   rcases agV.1 X with hd|hd
   ·exact Z o ho j' hd
   ·obtain⟨m,hm,aa⟩:=ahb.1 hd;have ae:=Z o ho m hm
    by_cases ag:m<U
    ·exact O m j' aa ag hS' (fun o' ah d ai=>hS' m o' ah ae d ai)
    ·have:acc.getD m []=[]:=by simp[List.getD,ahi (show acc.length<=m by omega)]
     rw[this]at aa;simp at aa
theorem ZL {S:Nat->Prop} {i j:Nat} (O:j∈(abK ops).getD i []) (U:∀m o,ops[m]? = some o->S m->∀d∈direct o,S d) (X:∀o,ops[i]? = some o->∀d∈direct o,S d):S j :=
 B3 S ops.toList [] 0 rfl (fun i j O _ _ _=>by simp at O) (fun j=>by simp) i j O U X
def WH (acc:List Nat):List Nat->Nat
 | []=>0
 | k::l=>(2 ^ k ||| acc.getD k 0) ||| WH acc l
def B4:List Oper->List Nat->List Nat
 | [],acc=>acc
 | o::l,acc=>B4 l (acc++[WH acc (direct o)])
def Sg (ops:Array Oper):List Nat:=B4 ops.toList []
theorem Si {acc:List Nat} {j:Nat} : ∀ {l:List Nat},(WH acc l).testBit j=true->j∈l∨∃k∈l,(acc.getD k 0).testBit j=true
 | [],h=>by simp[WH]at h
 | k::l,h=>by
  simp only[WH,Nat.testBit_or,ahh,Nat.testBit_two_pow,decide_eq_true_eq]at h;rcases h with (rfl|h)|h
  ·exact .inl (ahd ..)
  ·exact .inr ⟨k,ahd ..,h⟩
  ·rcases Si h with h|⟨k',h1,h2⟩
   ·exact .inl (ahe _ h)
   ·exact .inr ⟨k',ahe _ h1,h2⟩
theorem zt:∀(l:List Oper) (U:List Nat) (acc:List (List Nat)),U.length=acc.length->(∀i j,(U.getD i 0).testBit j=true->j∈acc.getD i [])->∀i j,((B4 l U).getD i 0).testBit j=true->j∈(uc l acc).getD i []
 | [],_,_,_,h,i,j,X=>h i j X
 | o::l,U,acc,Z,h,i,j,X=>by
  refine zt l _ _ (by simp[Z]) (fun Y j' O =>?_) i j X
  by_cases h1:Y<U.length
  ·rw[agh,agi h1,<- agh]at O;rw[agh,agi (by omega),<- agh];exact h Y j' O
  ·by_cases h2:Y=U.length
   ·subst h2;rw[agh,agj (afD _),agR]at O;simp only[List.getElem?_cons_zero,Option.getD_some]at O;rw[Z,agh,agj (afD _),agR];simp only[List.getElem?_cons_zero,Option.getD_some,agV,ahb];rcases Si O with O|⟨k,hk,O⟩
    ·exact .inl O
    ·exact .inr ⟨k,hk,h k j' O⟩
   ·rw[agh,ahi (by simp;omega)]at O;simp at O
theorem Wy {i j:Nat} (h:((Sg ops).getD i 0).testBit j=true):j∈(abK ops).getD i [] :=
 zt ops.toList [] [] rfl (fun i j h=>by simp at h) i j h
def Ry (ops:Array Oper) (F:Nat->jP):Prop:=∀j i,j<i->i<ops.size->j∈(abK ops).getD i []∨Rr ops F j i
theorem Vs (hT:gW P T) (hΓ:bF P Γ) {F:Nat->jP} {Q:Exit->Act->World->Prop} {t':Nat->D} {h':Nat->Option Row} (hp:Ry ops F) (aj:∀i o,ops[i]? = some o->∀d∈direct o,d<i)
  (av:∀(i j:Nat) (oi oj:Oper) (d:Nat),ops[i]? = some oi->ops[j]? = some oj->oi.dst=some d->oj.dst=some d->i=j) (hQ:∀a' w' blk' done,qM N M L w0 blk' e done t' h' a' w'->Q .normal a' w') :
  ∀(n:Nat) (LL:List Nat) (listed:Array Bool) (t:Nat->D) (h:Nat->Option Row) (a:Act) (w:World) (blk:Nat->Option (Nat×Nat)) (done:List Nat),LL.length=n->(∀i,i∈LL↔listed.getD i true=false)->LL.Pairwise (· < ·)->(∀i∈LL,i<ops.size)->listed.size=ops.size ->
   (∀i o,ops[i]? = some o->listed.getD i false=true->∀d∈direct o,listed.getD d false=true)->(∀d∈done,∃i o,ops[i]? = some o∧o.dst=some d∧listed.getD i false=true) ->
   Pk T Γ N e ops F LL t h t' h'->qM N M L w0 blk e done t h a w->wpAny P .any ops Q n listed a w:=by
 intro n
 induction n with
 | zero =>
  intro LL listed t h a w blk done hn hL hs hlt ag hdown Y hr hI;have:LL=[]:=agY hn;subst this;obtain⟨rfl,rfl⟩:=hr;refine⟨?_,hQ a w blk done hI⟩;refine List.eq_nil_iff_forall_not_mem.2 fun i hi =>?_;have:=(mem_ready.1 hi).1;exact absurd ((hL i).2 this) (by simp)
 | succ n ih =>
  intro LL listed t h a w blk done hn hL hs hlt ag hdown Y hr hI;refine⟨fun ah =>?_,fun i hi =>?_⟩
  ·cases LL with
   | nil=>simp at hn
   | cons i LL =>
    obtain⟨o,t1,h1,ho,_⟩:=hr;have aa:i∈Region.ready .any ops listed:=by
     refine mem_ready.2 ⟨(hL i).1 (by simp),o,ho,fun ed ak hb =>?_⟩;have U:ed.on∈direct o:=afC.2 ⟨ed,ahj.2 ⟨by simpa using ak,hb⟩,rfl⟩;have aG:=aj i o ho _ U
     by_cases hm:ed.on∈i::LL
     ·rcases afK.1 hm with hm|hm
      ·omega
      ·have:=(ahk.1 hs).1 _ hm;omega
     ·have h1:¬listed.getD ed.on true=false:=fun hf=>hm ((hL _).2 hf);have h2:ed.on<listed.size:=by rw[ag];have:=hlt i (by simp);omega
      have:listed.getD ed.on true=listed.getD ed.on false:=by simp[Array.getD,h2]
      rw[<- this];simpa using h1
    rw[ah]at aa;simp at aa
  ·obtain⟨al,o,ho,ai⟩:=mem_ready.1 hi;have an:i∈LL:=(hL i).2 al;obtain⟨pre,post,rfl⟩:=List.append_of_mem an;have ad:i<listed.size:=by rw[ag];exact hlt i an
   have X:∀d∈direct o,listed.getD d false=true:=by
    intro d U;obtain⟨ed,ak,rfl⟩:=afC.1 U;obtain⟨h1,h2⟩:=ahj.1 ak;exact ai ed (by simpa using h1) h2
   have aw:∀j∈pre,Rr ops F j i:=by
    intro j hj;have ay:j<i:=by
     have:=List.pairwise_append.1 hs;exact this.2.2 j hj i (by simp)
    rcases hp j i ay (hlt i an) with hc|hc
    ·have az:listed.getD j false=true:=ZL (S:=fun m=>listed.getD m false=true) hc (fun m om hm aA d U=>hdown m om hm aA d U) (fun o' ae d U=>by
      rw[ho]at ae;cases ae;exact X d U)
     have ax:=(hL j).1 (by simp[hj]);have aB:j<listed.size:=by omega
     have:listed.getD j true=listed.getD j false:=by simp[Array.getD,aB]
     rw[this,az]at ax;cases ax
    ·exact hc
   obtain⟨o',t1,h1,ae,ao,aq⟩:=front hr aw;rw[ho]at ae;cases ae;unfold wpOp;simp only[ho];refine JS hT hΓ hI ao (fun d U aC =>?_) (fun a' w' blk' aD =>?_)
   ·obtain⟨k,ok,hk,ar,O⟩:=Y d aC;have:=av i k o ok d ho hk U ar;subst this;have:listed.getD i true=listed.getD i false:=by simp[Array.getD,ad]
    rw[this,O]at al;cases al
   ·have ab:∀k,(listed.setIfInBounds i true).getD k false=true↔k=i∨listed.getD k false=true:=by
     intro k
     by_cases Z:k=i
     ·subst Z;simp[ad]
     ·rw[getD_set_ne false (Ne.symm Z)];simp[Z]
    have au:∀k,(listed.setIfInBounds i true).getD k true=false↔k≠i∧listed.getD k true=false:=by
     intro k
     by_cases Z:k=i
     ·subst Z;simp[ad]
     ·rw[getD_set_ne true (Ne.symm Z)];simp[Z]
    have aE:(pre++i::post).Nodup:=hs.imp (fun h=>Nat.ne_of_lt h);refine ih (pre++post) (listed.setIfInBounds i true) t1 h1 a' w' blk' _ (by simp at hn ⊢;omega) (fun k =>?_) ?_ (fun k hk=>hlt k (by simp at hk ⊢;rcases hk with hk|hk<;>simp[hk])) (by simpa using ag) (fun k ok hk O d U =>?_) (fun d U =>?_) aq aD
    ·rw[au];constructor
     ·intro hk;have aF:k∈pre++i::post:=by simp at hk ⊢;rcases hk with hk|hk<;>simp[hk]
      refine⟨fun e =>?_,(hL k).1 aF⟩;subst e;have:=List.nodup_append.1 aE;simp only[ahl]at this;rcases agV.1 hk with hk|hk
      ·exact this.2.2 k hk k (by simp) rfl
      ·exact this.2.1.1 hk
     ·rintro⟨hk,O⟩;have:=(hL k).2 O;simp only[agV,afK]at this ⊢;rcases this with h|h|h
      ·exact .inl h
      ·exact absurd h hk
      ·exact .inr h
    ·refine List.Pairwise.sublist ?_ hs;exact List.Sublist.append_left (List.sublist_cons_self _ _) _
    ·rw[ab];rcases (ab k).1 O with rfl|O
     ·rw[ho]at hk;cases hk;exact .inr (X d U)
     ·exact .inr (hdown k ok hk O d U)
    ·rcases agV.1 U with U|U
     ·exact⟨i,o,ho,by simpa using U,(ab i).2 (.inl rfl)⟩
     ·obtain⟨k,ok,hk,ar,O⟩:=Y d U;exact⟨k,ok,hk,ar,(ab k).2 (.inr O)⟩
end
def y4 (T:Nat->Option Ty) (Γ:Env) (N e:Nat) (ops:Array Oper):List Oper->(Nat->D)->(Nat->Option Row)->Option ((Nat->D)×(Nat->Option Row)×List jP)
 | [],t,h=>some (t,h,[])
 | o::l,t,h =>
  match step1 T Γ N e ops o t h with
  | some (t1,h1,f) =>
   match y4 T Γ N e ops l t1 h1 with
   | some (t2,h2,fs)=>some (t2,h2,f::fs)
   | none=>none
  | none=>none
def Ju:List Nat->Bool
 | []=>true
 | x::l => !l.contains x&&Ju l
def WY (ops:Array Oper):Bool:=Ju (ops.toList.filterMap (·.dst))
def RM (ops:Array Oper) (j i:Nat):Bool :=
 match ops[j]?,ops[i]? with
 | some oj,some oi=>oj.apart ops oi
 | _,_=>true
def PC (ops:Array Oper):Bool :=
 (ops.toList.zipIdx.all fun p=>(direct p.1).all fun d=>decide (d<p.2)) &&
 ((List.range ops.size).all fun i=>(List.range i).all fun j=>((Sg ops).getD i 0).testBit j||RM ops j i)
def HH (ops:Array Oper):List (Nat×Nat):=(List.range ops.size).flatMap fun i=>((List.range i).filter fun j => !((Sg ops).getD i 0).testBit j).map fun j=>(j,i)
def X2 (fs:List jP) (p:Nat×Nat):Bool :=
 match fs[p.1]?,fs[p.2]? with
 | some f,some g=>f.q&&g.q||ZN f.tc g.tc
 | _,_=>false
def Co (ops:Array Oper) (fs:List jP):Bool:=(HH ops).all (X2 fs)
inductive Ex where
 | normal
 | exit (n:Nat)
 | ret
structure St where
 t:Nat->D
 h:Nat->Option Row
 e:Nat
def iter (f:St->Option (Ex×St)):Nat->St->Option (Ex×St)
 | 0,_=>none
 | n+1,s =>
  match f s with
  | some (.normal,s1)=>iter f n s1
  | r=>r
def uJ (T:Nat->Option Ty) (Γ:Env) (N:Nat) (ops:Array Oper) (draw:Bool) (s:St):Option (Ex×St) :=
 match y4 T Γ N s.e ops ops.toList s.t s.h with
 | some (t,h,fs)=>if !draw||Co ops fs then some (.normal,⟨t,h,s.e+1⟩) else none
 | none=>none
def O0 (d:D) (x y:Option (Ex×St)):Option (Ex×St) :=
 match d with
 | .bool b=>if b then x else y
 | _=>none
def acx (r:Option (Ex×St)) (k:St->Option (Ex×St)):Option (Ex×St) :=
 match r with
 | some (.normal,s)=>k s
 | r=>r
def Rh (id:Nat) (r:Option (Ex×St)):Option (Ex×St) :=
 match r with
 | some (.exit n,s)=>if n=id then some (.normal,s) else some (.exit n,s)
 | r=>r
def fK (T:Nat->Option Ty) (Γ:Env) (N F:Nat):Code->St->Option (Ex×St)
 | .skip,s=>some (.normal,s)
 | .region _ ops draw,s=>uJ T Γ N ops draw s
 | .seq a b,s=>acx (fK T Γ N F a s) (fK T Γ N F b)
 | .cond c x y,s=>O0 (ev s.t c) (fK T Γ N F x s) (fK T Γ N F y s)
 | .block id b,s=>Rh id (fK T Γ N F b s)
 | .loop b,s=>iter (fK T Γ N F b) F s
 | .exit id,s=>some (.exit id,s)
 | .ret,s=>some (.ret,s)
 | _,_=>none
def codeOk:Code->Bool
 | .region _ ops draw=>WY ops&&(!draw||PC ops)
 | .seq a b=>codeOk a&&codeOk b
 | .cond _ x y=>codeOk x&&codeOk y
 | .block _ b=>codeOk b
 | .loop b=>codeOk b
 | _=>true
section
variable {P:Program} {T:Nat->Option Ty} {N:Nat} {M:Nat->Prop} {L:iN} {w0:World} {blk:Nat->Option (Nat×Nat)} {t:Nat->D} {h:Nat->Option Row} {a:Act} {w:World} {e:Nat} {o:Oper} {Γ:Env} {ops:Array Oper}
theorem Hz:∀ {l:List Nat},Ju l=true->l.Nodup
 | [],_=>List.nodup_nil
 | x::l,h=>by
  simp only[Ju,age,agf,List.contains_eq_mem,decide_eq_false_iff_not]at h;exact ahl.2 ⟨h.1,Hz h.2⟩
theorem E3:∀ {l:List Oper} {done:List Nat},(l.filterMap (·.dst)).Nodup->(∀o∈l,∀d,o.dst=some d->d∉done)->∀o l',l=o::l'->(l'.filterMap (·.dst)).Nodup∧∀o'∈l',∀d,o'.dst=some d->d∉o.dst.toList++done:=by
 intro l done X Y o l' he;subst he;cases Z:o.dst with
 | none =>
  rw[List.filterMap_cons_none Z]at X;exact⟨X,fun o' O d U=>by simpa using Y o' (by simp[O]) d U⟩
 | some x =>
  rw[List.filterMap_cons_some Z]at X;obtain⟨h1,h2⟩:=ahl.1 X;refine⟨h2,fun o' O d U hm =>?_⟩;simp only[Option.toList_some,List.singleton_append,afK]at hm;rcases hm with rfl|hm
  ·exact h1 (List.mem_filterMap.2 ⟨o',O,U⟩)
  ·exact Y o' (by simp[O]) d U hm
theorem wv (hT:gW P T) (hΓ:bF P Γ) {Q:Exit->Act->World->Prop} : ∀ {l:List Oper} {t U:Nat->D} {h h':Nat->Option Row} {fs:List jP} {a:Act} {w:World} {blk:Nat->Option (Nat×Nat)} {done:List Nat},
  y4 T Γ N e ops l t h=some (U,h',fs)->(l.filterMap (·.dst)).Nodup->(∀o∈l,∀d,o.dst=some d->d∉done)->qM N M L w0 blk e done t h a w ->
  (∀X w' blk' done,qM N M L w0 blk' e done U h' X w'->Q .normal X w')->wpList P ops Q l a w
 | [],t,U,h,h',fs,a,w,blk,done,O,_,_,Y,Z=>by
  simp only[y4,afM,Prod.mk.injEq]at O;obtain⟨rfl,rfl,_⟩:=O;exact Z a w blk done Y
 | o::l,t,U,h,h',fs,a,w,blk,done,O,hn,hd,Y,Z=>by
  simp only[y4]at O;split at O
  ·rename_i t1 h1 f hs;split at O
   ·rename_i t2 h2 ag aa;simp only[afM,Prod.mk.injEq]at O;obtain⟨rfl,rfl,_⟩:=O;obtain⟨ab,ad⟩:=E3 hn hd o l rfl;have:=JS (K:=wpList P ops Q l) (Q:=Q) hT hΓ Y hs (hd o (by simp)) (fun X w' blk' ae=>wv hT hΓ aa ab ad ae Z);unfold wpList;exact this
   ·cases O
  ·cases O
theorem xG {F:Nat->jP} : ∀ {l:List Oper} {k:Nat} {t U:Nat->D} {h h':Nat->Option Row} {fs:List jP},y4 T Γ N e ops l t h=some (U,h',fs)->(∀j,l[j]? = ops[k+j]?)->(∀j f,fs[j]? = some f->F (k+j)=f) ->
  fs.length=l.length∧Pk T Γ N e ops F (List.range' k l.length) t h U h'
 | [],k,t,U,h,h',fs,O,_,_=>by
  simp only[y4,afM,Prod.mk.injEq]at O;obtain⟨rfl,rfl,rfl⟩:=O;exact⟨rfl,rfl,rfl⟩
 | o::l,k,t,U,h,h',fs,O,Y,Z=>by
  simp only[y4]at O;split at O
  ·rename_i t1 h1 f hs;split at O
   ·rename_i t2 h2 aa X;simp only[afM,Prod.mk.injEq]at O;obtain⟨rfl,rfl,rfl⟩:=O;obtain⟨i1,i2⟩:=xG (k:=k+1) X (fun j=>by have:=Y (j+1);simpa [afY,Nat.add_comm 1 j] using this) (fun j f' hj=>by have:=Z (j+1) f' (by simpa using hj);rwa [show k+(j+1)=k+1+j by omega]at this);refine⟨by simp[i1],o,t1,h1,by have:=Y 0;simpa using this.symm,?_,i2⟩;have:=Z 0 f rfl;rw[agc]at this;rw[this];exact hs
   ·cases O
  ·cases O
def Holds (N:Nat) (M:Nat->Prop) (L:iN) (w0:World) (s:St) (a:Act) (w:World):Prop:=∃blk,qM N M L w0 blk s.e [] s.t s.h a w
theorem Fv (hT:gW P T) (hΓ:bF P Γ) (hm:P.follows .mixedOrders=true) {id:Nat} {draw:Bool} {s:St} {x:Ex} {s':St} {Q:Exit->Act->World->Prop} (hr:uJ T Γ N ops draw s=some (x,s')) (Z:(WY ops&&(!draw||PC ops))=true)
  (hH:Holds N M L w0 s a w) (hQ:∀a' w',Holds N M L w0 s' a' w'->Q .normal a' w'):x=.normal∧(Code.region id ops draw).wp P Q a w:=by
 unfold uJ at hr;split at hr
 ·rename_i t h fs ab;split at hr
  ·rename_i U;simp only[afM,Prod.mk.injEq]at hr;obtain⟨rfl,rfl⟩:=hr;refine⟨rfl,?_⟩;simp only[age]at Z;have an:(ops.toList.filterMap (·.dst)).Nodup:=Hz Z.1;obtain⟨blk,hI⟩:=hH;have ad:∀a' w' blk' done,qM N M L w0 blk' s.e done t h a' w'->Q .normal a' w':=by
    intro a' w' blk' done ao;refine hQ a' w' ⟨blk',ao.inv.weaken fun x v hx =>?_,fun x r ty s nv cs k1 k2 k3 k4 =>?_⟩
    ·rcases hx with⟨X,hx|⟨hx,_⟩⟩|⟨X,h2,h3,h4⟩
     ·exact .inl ⟨X,.inl (by simp only;omega)⟩
     ·exact .inl ⟨X,.inl (by simp only;omega)⟩
     ·exact .inr ⟨X,by simp only;omega,fun _=>by simp only;omega,h4⟩
    ·have:=ao.nv x r ty s nv cs k1 k2 k3 k4;exact⟨by simp only;omega,fun _=>by simp only;omega⟩
   cases draw with
   | false =>
    apply wp_region_list;exact wv hT hΓ ab an (done:=[]) (fun o _ d _=>by simp) hI ad
   | true =>
    simp only[ag8,agI]at U Z;apply wp_region_any hm;have ah:=Z.2;simp only[PC,age]at ah
    let F:Nat->jP:=fun i=>fs.getD i ⟨[],true⟩
    obtain⟨hlen,ae⟩:=xG (F:=F) (k:=0) ab (fun j=>by simp) (fun j f hj=>by simp[F,List.getD,hj]);have ai:∀i o,ops[i]? = some o->∀d∈direct o,d<i:=by
     intro i o ho d hd;have h1:=ah.1;rw[afO]at h1;have Y:(o,i)∈ops.toList.zipIdx:=by
      rw[List.mem_zipIdx_iff_getElem?];simpa using ho
     have:=h1 _ Y;rw[afO]at this;simpa using this d hd
    have aq:∀(i j:Nat) (oi oj:Oper) (d:Nat),ops[i]? = some oi->ops[j]? = some oj->oi.dst=some d->oj.dst=some d->i=j:=by
     have key:∀(l:List Oper),(l.filterMap (·.dst)).Nodup->∀(i j:Nat) (oi oj:Oper) (d:Nat),l[i]? = some oi->l[j]? = some oj->oi.dst=some d->oj.dst=some d->i=j:=by
      intro l
      induction l with
      | nil=>intro _ i j oi oj d O;simp at O
      | cons o l ih =>
       intro X i j oi oj d O hj aj ak;have ax:(l.filterMap (·.dst)).Nodup:=by
        cases ho:o.dst with
        | none=>rw[List.filterMap_cons_none ho]at X;exact X
        | some x=>rw[List.filterMap_cons_some ho]at X;exact (ahl.1 X).2
       have ag:∀(k:Nat) (ok:Oper),l[k]? = some ok->o.dst=some d->ok.dst=some d->False:=by
        intro k ok hk ho ay;rw[List.filterMap_cons_some ho]at X;exact (ahl.1 X).1 (List.mem_filterMap.2 ⟨ok,af5 hk,ay⟩)
       cases i with
       | zero =>
        simp only[List.getElem?_cons_zero,afM]at O;subst O;cases j with
        | zero=>rfl
        | succ j=>exact (ag j oj (by simpa using hj) aj ak).elim
       | succ i =>
        cases j with
        | zero =>
         simp only[List.getElem?_cons_zero,afM]at hj;subst hj;exact (ag i oi (by simpa using O) ak aj).elim
        | succ j=>rw[ih ax i j oi oj d (by simpa using O) (by simpa using hj) aj ak]
     intro i j oi oj d O hj;exact key ops.toList an i j oi oj d (by simpa using O) (by simpa using hj)
    have aa:Ry ops F:=by
     intro j i ar O
     by_cases hc:((Sg ops).getD i 0).testBit j=true
     ·exact .inl (Wy hc)
     ·refine .inr ⟨fun oj oi az aA =>?_,?_⟩
      ·have h2:=ah.2;rw[afO]at h2;have:=h2 i (ahm.2 O);rw[afO]at this;have:=this j (ahm.2 ar);simp only[ahh]at this;rcases this with h'|h'
       ·exact absurd h' hc
       ·simpa [RM,az,aA] using h'
      ·rw[Co,afO]at U;have Y:(j,i)∈HH ops:=by
        refine ahb.2 ⟨i,ahm.2 O,afC.2 ⟨j,ahj.2 ⟨ahm.2 ar,?_⟩,rfl⟩⟩;simpa using hc
       have:=U _ Y;have au:i<fs.length:=by rw[hlen];simpa using O
       have av:j<fs.length:=by omega
       simp only[X2,afQ av,afQ au]at this;simp only[F,agh,afQ av,afQ au,Option.getD_some];exact this
    rw[agk,<- List.range_eq_range']at ae;have aw:∀i,(Array.replicate ops.size false).getD i false=false:=by
     intro i
     by_cases O:i<ops.size
     ·simp[Array.getD,O]
     ·simp[Array.getD,O]
    have al:∀i,(Array.replicate ops.size false).getD i true=false↔i<ops.size:=by
     intro i
     by_cases O:i<ops.size
     ·simp[Array.getD,O]
     ·simp[Array.getD,O]
    exact Vs hT hΓ aa ai aq ad ops.size (List.range ops.size) (Array.replicate ops.size false) s.t s.h a _ blk [] (by simp) (fun i=>by rw[al];exact ahm) ahn (fun i O=>ahm.1 O) (by simp)
     (fun i o _ hl=>by rw[aw]at hl;cases hl) (fun d hd=>by simp at hd) ae ⟨hI.inv.drew,hI.nv⟩
  ·cases hr
 ·cases hr
def CI:Ex->Exit
 | .normal =>.normal
 | .exit n =>.exit n
 | .ret =>.ret
theorem il (hT:gW P T) (hΓ:bF P Γ) (hm:P.follows .mixedOrders=true) {F:Nat} : ∀(c:Code) (s:St) (x:Ex) (Z:St) (Q:Exit->Act->World->Prop) (a:Act) (w:World),fK T Γ N F c s=some (x,Z)->codeOk c=true->Holds N M L w0 s a w ->
  (∀a' w',Holds N M L w0 Z a' w'->Q (CI x) a' w')->c.wp P Q a w:=by
 intro c
 induction c with
 | skip =>
  intro s x Z Q a w O _ hH Y;simp only[fK,afM,Prod.mk.injEq]at O;obtain⟨rfl,rfl⟩:=O;exact wp_skip (Y a w hH)
 | region id ops draw =>
  intro s x Z Q a w O U hH Y;simp only[fK]at O;have hx:x=.normal:=by
   unfold uJ at O;split at O
   ·split at O
    ·simp only[afM,Prod.mk.injEq]at O;exact O.1.symm
    ·cases O
   ·cases O
  subst hx;exact (Fv hT hΓ hm O U hH Y).2
 | seq b c aa ihc =>
  intro s x Z Q a w O U hH Y;simp only[codeOk,age]at U;simp only[fK,acx]at O;apply wp_seq;split at O
  ·rename_i s1 h1;exact aa s .normal s1 _ a w h1 U.1 hH (fun a' w' X=>ihc s1 x Z Q a' w' O U.2 X Y)
  ·rename_i r hne;refine aa s x Z _ a w O U.1 hH (fun a' w' X =>?_);cases x with
   | normal=>exact absurd O (fun h=>hne Z h)
   | exit n=>exact Y a' w' X
   | ret=>exact Y a' w' X
 | cond c b d aa ad =>
  intro s x Z Q a w O U hH Y;simp only[codeOk,age]at U;simp only[fK]at O;unfold O0 at O;split at O
  ·rename_i bb hb;obtain⟨blk,hI⟩:=hH;have hv:=hI.inv.ev c;rw[hb]at hv;refine wp_cond (t:=bb) (tV hv) ?_;cases bb with
   | true=>exact aa s x Z Q a w O U.1 ⟨blk,hI⟩ Y
   | false=>exact ad s x Z Q a w O U.2 ⟨blk,hI⟩ Y
  ·cases O
 | block id b ih =>
  intro s x Z Q a w O U hH Y;simp only[fK]at O;apply wp_block;unfold Rh at O;split at O
  ·rename_i n s1 h1;refine ih s (.exit n) s1 _ a w h1 U hH (fun a' w' X =>?_);split at O
   ·rename_i hn;simp only[afM,Prod.mk.injEq]at O;obtain⟨rfl,rfl⟩:=O;simp only[CI,Exit.inBlock,hn,if_true];exact Y a' w' X
   ·rename_i hn;simp only[afM,Prod.mk.injEq]at O;obtain⟨rfl,rfl⟩:=O;simp only[CI,Exit.inBlock,hn,if_false];exact Y a' w' X
  ·rename_i r hne;refine ih s x Z _ a w O U hH (fun a' w' X =>?_);cases x with
   | normal=>exact Y a' w' X
   | exit n=>exact absurd O (fun h=>hne n Z h)
   | ret=>exact Y a' w' X
 | loop b ih =>
  intro s x Z Q a w O U hH Y;simp only[fK]at O;refine wp_loop_ghost (fun n a w=>∃s,Holds N M L w0 s a w∧iter (fK T Γ N F b) n s=some (x,Z)) F ⟨s,hH,O⟩ ?_;intro n a w ⟨s1,ab,h1⟩;cases n with
  | zero=>simp[iter]at h1
  | succ n =>
   simp only[iter]at h1;split at h1
   ·rename_i s2 h2;exact ih s1 .normal s2 _ a w h2 U ab (fun a' w' X=>⟨n,by omega,s2,X,h1⟩)
   ·rename_i r hne;refine ih s1 x Z _ a w h1 U ab (fun a' w' X =>?_);cases x with
    | normal=>exact absurd h1 (fun h=>hne Z h)
    | exit n=>exact Y a' w' X
    | ret=>exact Y a' w' X
 | exit id =>
  intro s x Z Q a w O _ hH Y;simp only[fK,afM,Prod.mk.injEq]at O;obtain⟨rfl,rfl⟩:=O;exact wp_exit (Y a w hH)
 | ret =>
  intro s x Z Q a w O _ hH Y;simp only[fK,afM,Prod.mk.injEq]at O;obtain⟨rfl,rfl⟩:=O;exact wp_ret (Y a w hH)
 | _=>intro s x Z Q a w O;simp[fK]at O
end
def N9 (T:Nat->Option Ty) (s:St):ResultVar->Option (D×List Nat)
 | .tmp i=>bL s.h (s.t i)
 | .cell i ty =>
  match T ty,s.t i with
  | some τ,.ptr x v o=>match dI τ s.h (.ptr x v o) with|some E=>some (fF E.val,[])|none=>none
  | _,_=>none
def rJ (T:Nat->Option Ty) (s:St):List ResultVar->Option (List D×List Nat)
 | []=>some ([],[])
 | r::rs =>
  match N9 T s r with
  | some (d,fr)=>match rJ T s rs with
   | some (ds,O)=>some (d::ds,fr++O)
   | none=>none
  | none=>none
def kB:List D->D
 | [d]=>d
 | ds =>.tup ds
inductive Mode where
 | clean|same|tight
 | fresh (ty s:Nat)
def bW:Option (D×Row)->List D->St
 | none,args=>⟨fun i=>args.getD i .und,fun _=>none,0⟩
 | some (d0,r),args=>⟨fun i=>(d0::args).getD i .und,fun x=>if x=0 then some { r with v:=0 } else none,1⟩
def js:Option (D×Row)->St->Option (Option Row)
 | none,_=>some none
 | some (_,r),s =>
  match s.h 0 with
  | some O=>if O.v=0∧O.fz=false∧O.ty=r.ty∧(O.mp=r.mp∧qp O=true) then some (some O) else none
  | none=>none
def XS:Option (D×Row)->List Nat->Bool
 | none,_=>true
 | some _,fr => !fr.contains 0
def oH (T:Nat->Option Ty) (lent:Option (D×Row)) (rs:List ResultVar) (s:St):Option (RK×Option Row) :=
 match rJ T s rs,js lent s with
 | some (ds,fr),some o=>if XS lent fr then some (.clean (kB ds),o) else none
 | _,_=>none
def Ba (lent:Option (D×Row)) (rs:List ResultVar) (s:St):Option (RK×Option Row) :=
 match rs with
 | [.tmp i] =>
  match s.t i,js lent s with
  | .buf 0 0 sz o n,some (some r)=>some (.same sz o n,some r)
  | _,_=>none
 | _=>none
def ui:D->Option (RK×Option Row)
 | .sl nl O n xs=>some (.clean (.sl nl O n xs),none)
 | _=>none
def CG (lent:Option (D×Row)) (rs:List ResultVar) (s:St):Option (RK×Option Row) :=
 match lent,rs with
 | none,[.tmp i]=>ui (s.t i)
 | _,_=>none
def uh (ty s o n:Nat):Option Row->Option (RK×Option Row)
 | some r=>if r.fz=false∧r.ty=ty∧o+n*s<=r.cells.length then some (.fresh ty s n ((r.cells.drop o).take (n*s)),none) else none
 | none=>none
def l8 (ty s:Nat) (h:Nat->Option Row):D->Option (RK×Option Row)
 | .buf x v sz o n=>if sz=s then uh ty s o n (live h x v) else none
 | .sl _ O 0 _=>if O=true then some (.fresh ty s 0 [],none) else none
 | _=>none
def qh (ty s:Nat) (rs:List ResultVar) (st:St):Option (RK×Option Row) :=
 match rs with
 | [.tmp i]=>l8 ty s st.h (st.t i)
 | _=>none
def fH (mode:Mode) (T:Nat->Option Ty) (lent:Option (D×Row)) (rs:List ResultVar) (s:St):Option (RK×Option Row) :=
 match mode with
 | .clean=>oH T lent rs s
 | .same=>Ba lent rs s
 | .tight=>CG lent rs s
 | .fresh ty sz=>qh ty sz rs s
def jO (mode:Mode) (T:Nat->Option Ty) (Γ:Env) (F:Nat) (fn:Func) (lent:Option (D×Row)) (args:List D):Option (RK×Option Row) :=
 match fn.body with
 | some c =>
  if fn.ntmps<=PK then
   match fK T Γ fn.ntmps F c (bW lent args) with
   | some (.exit _,_)=>none
   | some (_,s)=>fH mode T lent fn.results.toList ⟨s.t,EH s.h,s.e⟩
   | none=>none
  else none
 | none=>none
def DG:Option (D×Row)->Bool
 | none=>true
 | some (.buf 0 0 _ _ _,_)=>true
 | some (.ptr 0 0 _,_)=>true
 | some (.mp 0 0,_)=>true
 | _=>false
def Du:Option (D×Row)->List D->Nat
 | none,afy=>afy.length
 | some _,afy=>afy.length+1
section
variable {P:Program} {T:Nat->Option Ty} {N:Nat} {M:Nat->Prop} {L:iN} {w0:World} {blk:Nat->Option (Nat×Nat)} {a:Act} {w:World} {Γ:Env}
theorem Inv.abd {V:Nat->Nat->Prop} {t:Nat->D} {h:Nat->Option Row} (U:Inv N M L w0 blk V t h a w) (fr:List Nat):nC M h blk fr M where
 le b O := .inl O
 no x Z r g X Y O:=U.notM X Y O
def y3 (O:Array Value):ResultVar->Sem Value
 | .tmp t=>pure (O.getD t undef)
 | .cell b t=>do loadVar t (<- asAddr (O.getD b undef))
theorem Eg (fn:Func) (O:Array Value):results fn O=(do
  let vs <- fn.results.mapM (y3 O)
  pure (if h:vs.size=1 then vs[0] else .tuple vs)):=by
 unfold results;congr 1
theorem U2 (hT:gW P T) {M':Nat->Prop} {ty:Nat} {τ:Ty} {g c:Nat} {xs:List D} {d:D} (hτ:T ty=some τ) (Y:At w M' g c xs) (hl:xs.length=τ.size) (U:jb τ xs=some d) :
  ∃u,(loadVar ty ⟨g,c,none⟩).run P w=.ok u w∧RP w M' d u:=by
 obtain⟨us,h1,h2,h3,h4⟩:=Y.aeg;have O:τ.ds.nM=false->xs.length=1∧xs=[d]:=by
  intro Z;simp only[jb,Z,agd,if_false]at U;split at U
  ·simp only[afM]at U;subst U;exact⟨rfl,rfl⟩
  ·cases U
 have X:=jH (hT ty τ hτ) w g c us (by rw[h1,hl]) h2 (fun Z=>by rw[h1];exact (O Z).1);refine⟨_,X,?_⟩;cases ha:τ.ds.nM with
 | true =>
  simp only[jb,ha,if_true,afM]at U;subst U;exact .agg xs us h1 h3 h4
 | false =>
  obtain⟨_,rfl⟩:=O ha;exact h3 0 d rfl
theorem Yc (hT:gW P T) {M':Nat->Prop} {V:Nat->Nat->Prop} {s:St} (Y:Inv N M L w0 blk V s.t s.h a w) {r:ResultVar} {d:D} {fr:List Nat} (h1:N9 T s r=some (d,fr)) (hl:nC M s.h blk fr M'):∃u,(y3 a.tmps r).run P w=.ok u w∧RP w M' d u:=by
 cases r with
 | tmp i =>
  simp only[N9]at h1;exact⟨a.tmps.getD i undef,rfl,Y.bL h1 hl (Y.slots i)⟩
 | cell i ty =>
  simp only[N9]at h1;split at h1
  ·rename_i τ x v o hτ hp;split at h1
   ·rename_i E O;simp only[afM,Prod.mk.injEq]at h1;obtain⟨rfl,_⟩:=h1;have U:=Y.slots i;rw[hp]at U;simp only[dI]at O;split at O
    ·rename_i rr X;obtain⟨hx,hv⟩:=cg X;split at O
     ·rename_i hle;split at O
      ·rename_i d' Z;simp only[afM]at O;subst O;obtain⟨g,hg,aa⟩:=U.2 rr hx hv;have ab:=((Y.rowAt hx hg (gE X)).drop o).take τ.size;obtain⟨u,ad,ae⟩:=U2 hT hτ ab (by simp;omega) Z;refine⟨u,?_,(ae.less fun b hb=>hl.le b hb).fF⟩;simp only[y3,aa,asAddr,aga,Sem.run_pure,Result.andThen_ok,ad]
      ·cases O
     ·cases O
    ·cases O
   ·cases h1
  ·cases h1
theorem On (hT:gW P T) {M':Nat->Prop} {V:Nat->Nat->Prop} {s:St} (hI:Inv N M L w0 blk V s.t s.h a w):∀(rs:List ResultVar) (ds:List D) (fr:List Nat),rJ T s rs=some (ds,fr)->nC M s.h blk fr M' ->
  ∃us:List Value,(rs.mapM (y3 a.tmps)).run P w=.ok us w∧us.length=ds.length∧∀j d,ds[j]? = some d->RP w M' d (us.getD j undef)
 | [],ds,fr,h,_=>by
  simp only[rJ,afM,Prod.mk.injEq]at h;obtain⟨rfl,_⟩:=h;exact⟨[],by simp,rfl,fun j d O=>by simp at O⟩
 | r::rs,ds,fr,h,hl=>by
  simp only[rJ]at h;split at h
  ·rename_i d aa h1;split at h
   ·rename_i U X h2;simp only[afM,Prod.mk.injEq]at h;obtain⟨rfl,rfl⟩:=h;obtain⟨us,i1,i2,i3⟩:=On hT hI rs U X h2 hl.right;obtain⟨u,Y,Z⟩:=Yc (P:=P) hT hI h1 hl.left;refine⟨u::us,?_,by simp[i2],fun j d O =>?_⟩
    ·simp only[List.mapM_cons,aga,Y,Result.andThen_ok,i1,Sem.run_pure]
    ·cases j with
     | zero=>simp only[List.getElem?_cons_zero,afM]at O;subst O;simpa using Z
     | succ j=>simpa using i3 j d (by simpa using O)
   ·cases h
  ·cases h
theorem pI (O:gW P T) {M':Nat->Prop} {V:Nat->Nat->Prop} {s:St} (U:Inv N M L w0 blk V s.t s.h a w) {fn:Func} {ds:List D} {fr:List Nat} (h:rJ T s fn.results.toList=some (ds,fr)) (X:nC M s.h blk fr M') :
  ∃v,(results fn a.tmps).run P w=.ok v w∧RP w M' (kB ds) v:=by
 obtain⟨us,i1,i2,i3⟩:=On (P:=P) O U _ ds fr h X;have hm:(fn.results.mapM (y3 a.tmps)).run P w=.ok us.toArray w:=by
  rw[agy,Sem.run_map,i1];rfl
 rw[Eg];simp only[aga,hm,Result.andThen_ok,Sem.run_pure];refine⟨_,rfl,?_⟩
 match us,ds,i2,i3 with
 | [u],[d],_,i3=>simpa [kB] using i3 0 d rfl
 | [],[],_,_=>exact .tup [] [] rfl (fun j x Y=>by simp at Y)
 | Z::u2::us,d1::d2::ds,i2,i3 =>
  have:¬(Z::u2::us).toArray.size=1:=by simp
  rw[dif_neg this];exact .tup _ _ (by simpa using i2) i3
theorem mV {fn:Func} {O:Array Value} {i:Nat} (h:fn.results.toList=[.tmp i]):(results fn O).run P w=.ok (O.getD i undef) w:=by
 have he:fn.results = #[.tmp i]:=by rw[<- h]
 rw[Eg,he];simp[y3]
theorem Inv.qh {V:Nat->Nat->Prop} {s:St} {aa s0:Nat} (hI:Inv N M L w0 blk V s.t s.h a w) {fn:Func} {rk:RK} {out:Option Row} (he:Am.qh aa s0 fn.results.toList s=some (rk,out)) :
  out=none∧∃v ty sz n cells,rk=.fresh ty sz n cells∧(results fn a.tmps).run P w=.ok v w∧so w0 w M (LB L) v rk:=by
 unfold Am.qh at he;split at he
 ·rename_i i X;have O:=hI.slots i;unfold l8 at he;split at he
  ·rename_i x v sz o n ht;rw[ht]at O;split at he
   ·rename_i ab;subst ab;unfold uh at he;split at he
    ·rename_i r Y;split at he
     ·rename_i U;obtain⟨hz,ad,hle⟩:=U;simp only[afM,Prod.mk.injEq]at he;obtain⟨rfl,rfl⟩:=he;refine⟨rfl,a.tmps.getD i undef,_,_,_,_,rfl,mV X,?_⟩;obtain⟨hx,hv⟩:=cg Y;have ae:((r.cells.drop o).take (n*sz)).length=n*sz:=by simp;omega
      rcases hI.wG Y O with⟨g,o',c,cs,g0,g1,g2,g3,g4,g5,g7,g8⟩|⟨g0,rfl,g2,A,g3⟩
      ·by_cases hc:0<c∨o=0
       ·obtain⟨k1,k2⟩:=g5 hc;subst k1;refine .inl ⟨(g.1,g.2+o),c,cs,g1,(show w0.heap.size<=g.1∨LB L g.1 from hI.base hx g0),by rw[<- ad];exact g4,g2,g3,k2,by rw[ae];simp only;omega,fun j d Z =>?_⟩;rw[cu]at Z;split at Z
        ·rw[afY];refine⟨(g8 _ _ Z).1,(g8 _ _ Z).2.less fun b hb =>?_⟩;rcases hb with hb|rfl
         ·exact .inl hb
         ·exact .inr ⟨x,r,g,hx,hz,g0,rfl⟩
        ·cases Z
       ·have hn:n=0:=by omega
        have ag:c=0:=by omega
        subst hn ag;exact .inr ⟨rfl,by simp,_,g1⟩
      ·exact .inr ⟨rfl,by simp,A,g3⟩
     ·cases he
    ·cases he
   ·cases he
  ·rename_i nl tg xs ht;rw[ht]at O;split at he
   ·rename_i ah;simp only[afM,Prod.mk.injEq]at he;obtain⟨rfl,rfl⟩:=he;refine⟨rfl,a.tmps.getD i undef,_,_,_,_,rfl,mV X,.inr ⟨rfl,rfl,?_⟩⟩;have hr:RP w (Own M s.h blk) (.sl nl tg 0 xs) (a.tmps.getD i undef):=O;generalize a.tmps.getD i undef=u at *;cases hr with
    | sl A c nl tight n xs us h1 h2 h3 h4 h5 h6 h7 h8 =>
     have hc:c=0:=by
      exact h5 ah
     subst hc;exact⟨A,rfl⟩
   ·cases he
  ·cases he
 ·cases he
theorem tC {args:List D} {vs:Array Value} {n i:Nat} (hs:vs.size=args.length):(vs++Array.replicate (n-vs.size) undef).getD i undef=vs.getD i undef∨args.getD i .und=.und:=by
 by_cases O:i<args.length
 ·left;have:i<vs.size:=by omega
  simp[afI,Array.getElem?_append_left this]
 ·right;simp[List.getD,ahi (aho O)]
theorem T7 {h:Nat->Option Row} (X:∀k r,h k=some r->k<2*PK∧qp r=true):EH h=h:=by
 funext k
 by_cases hk:k<2*PK
 ·rw[p6 hk];cases O:h k with
  | none=>rfl
  | some r =>
   simp only[Option.map_some,A3];split
   ·rename_i hm;obtain⟨ks,vs,U⟩:=xm (X k r O).2 hm;cases r;simp only at U;subst U;rfl
   ·rfl
 ·have h1:h k=none:=by
   cases O:h k with
   | none=>rfl
   | some r=>exact absurd (X k r O).1 hk
  rw[h1];unfold EH;rw[if_neg hk];cases O:h (k % PK) with
  | none=>rfl
  | some r =>
   simp only[Option.bind_some,pA];split
   ·rename_i hm;obtain⟨ks,vs,U⟩:=xm (X _ r O).2 hm;rw[U];rfl
   ·rfl
theorem Bq {h:Nat->Option Row} (U:∀k r,h k=some r->k<2*PK∧r.mp=false):EH h=h:=by
 funext k
 by_cases hk:k<2*PK
 ·rw[p6 hk];cases O:h k with
  | none=>rfl
  | some r =>
   simp only[Option.map_some,A3,(U k r O).2];rfl
 ·have h1:h k=none:=by
   cases O:h k with
   | none=>rfl
   | some r=>exact absurd (U k r O).1 hk
  rw[h1];unfold EH;rw[if_neg hk];cases O:h (k % PK) with
  | none=>rfl
  | some r =>
   simp only[Option.bind_some,pA,(U _ r O).2];rfl
theorem jm (hT:gW P T) (hΓ:bF P Γ) (hm:P.follows .mixedOrders=true) {mode:Mode} {f:FuncId} {fn:Func} {F:Nat} {lent:Option (D×Row)} {args:List D} {rk:RK} {out:Option Row} (hf:P.funcs[f]? = some fn)
  (ao:(match fn.body with|some c=>codeOk c|none=>true)=true) (hn:Du lent args<=fn.ntmps) (ae:DG lent=true)
  (O:jO mode T Γ F fn lent args=some (rk,out)):pL P f lent args rk out:=by
 unfold jO at O;split at O<;>try (cases O;done)
 rename_i c hc;rw[hc]at ao;simp only at ao;split at O<;>try (cases O;done)
 rename_i au;split at O<;>try (cases O;done)
 rename_i x s aB hv;cases lent with
 | none =>
  intro w M vs hM X;have hI:Inv fn.ntmps M none w (fun _=>none) (fun x v=>x<fn.ntmps∧v<0) (bW none args).t (bW none args).h { tmps:=vs++Array.replicate (fn.ntmps-vs.size) undef,defers:=[] } w:={
   tab:=fun b U=>(X.tab b U).less fun b U=>by
    rcases U with U|⟨x,r,g,Y,_⟩
    ·exact U
    ·cases Y
   below:=ef.refl _ _
   mlt:=hM
   lent:=fun b U=>absurd U pj
   pin:=fun go hg=>by cases hg
   defers:=rfl
   tsz:=by have:=X.1;simp only[Du]at hn;simp;omega
   slots:=fun i=>by
    simp only[bW];rcases tC (n:=fn.ntmps) (i:=i) X.1 with he|he
    ·rw[he]
     by_cases hi:i<args.length
     ·have h1:=X.2 i _ (afQ hi);have e1:args.getD i .und=args[i]:=by simp[List.getD,hi]
      rw[e1];exact bs (h1.less fun b U=>by
       rcases U with U|⟨x,r,g,Y,_⟩
       ·exact U
       ·cases Y)
     ·have e1:args.getD i .und=.und:=by simp[List.getD,ahi (aho hi)]
      rw[e1];trivial
    ·rw[he];trivial
   rows:=fun x r Y=>by cases Y
   inj:=fun x y r s g g' Y=>by cases Y
   big:=au
   pha:=fun y r g hy=>by cases hy
   ali:=fun y r g hy=>by cases hy }
  apply calls_of_wp hf hc;refine il hT hΓ hm c (bW none args) x s _ _ _ hv ao ⟨_,⟨(by rw[Bq (fun k r hk=>by cases hk)];exact hI.weaken fun x v Y=>absurd Y.2 (Nat.not_lt_zero _)),fun x r ty s nv cs Y=>by cases Y⟩⟩ (fun a' w' hH =>?_);obtain⟨blk',av⟩:=hH;obtain⟨sE,aj⟩:∃sE:St,sE=⟨s.t,EH s.h,s.e⟩:=⟨_,rfl⟩;have hI':Inv fn.ntmps M none w blk' (VE fn.ntmps s.e [] s.h) sE.t sE.h a' w':=by rw[aj];exact av.inv
  rw[<- aj]at O;have aa:Below w.heap.size w w':=hI'.below.below (fun b U=>absurd U pj);have ab:a'.defers=[]∧∃v,(results fn a'.tmps).run P w'=.ok v w'∧(∃v',Ending.returned v=.returned v'∧Below w.heap.size w w'∧so w w' M (fun _=>False) v' rk):=by
   refine⟨hI'.defers,?_⟩;cases mode with
   | clean =>
    simp only[fH,oH,js]at O;split at O<;>try (cases O;done)
    rename_i ds fr o ak ho;split at O<;>try (cases O;done)
    simp only[afM,Prod.mk.injEq]at O;obtain⟨rfl,_⟩:=O;obtain⟨v,ag,ad⟩:=pI (P:=P) hT hI' ak (hI'.abd fr);exact⟨v,ag,v,rfl,aa,ad⟩
   | same =>
    simp only[fH,Ba,js]at O;split at O<;>try (cases O;done)
    split at O
    ·rename_i hq;cases hq
    ·cases O
   | tight =>
    simp only[fH,CG]at O;split at O<;>try (cases O;done)
    rename_i i _ aw;have aq:=hI'.slots i;generalize sE.t i=dd at *;unfold ui at O;split at O<;>try (cases O;done)
    rename_i nl tg n xs;simp only[afM,Prod.mk.injEq]at O;obtain⟨rfl,_⟩:=O;have aC:RP w' (Own M sE.h blk') (.sl nl tg n xs) (a'.tmps.getD i undef):=aq;exact⟨a'.tmps.getD i undef,mV aw,_,rfl,aa,aC.less fun b U =>.inl U⟩
   | fresh aH s0 =>
    obtain⟨rfl,v,ty,sz,n,cells,rfl,ag,ad⟩:=hI'.qh (P:=P) O;refine⟨v,ag,v,rfl,aa,?_⟩;rcases ad with⟨g,k1,cs,k2,k3,k4⟩|ad
    ·exact .inl ⟨g,k1,cs,k2,k3.imp id (fun U=>absurd U pj),k4⟩
    ·exact .inr ad
  cases x with
  | normal=>exact ab
  | ret=>exact ab
  | exit n=>exact (aB n rfl).elim
 | some p =>
  obtain⟨d0,r⟩:=p;intro w M go u0 vs hM hgoM hz ax hrow ay X;have al:∀b,Own M (bW (some (d0,r)) args).h (fun x=>if x=0 then go else none) b↔(M b∨sh go b):=by
   intro b;constructor
   ·rintro (U|⟨x,r',g,Y,_,hg,he⟩)
    ·exact .inl U
    ·simp only[bW]at Y;split at Y
     ·rename_i h0;subst h0;simp only[if_true]at hg;exact .inr ⟨g,hg,he.symm⟩
     ·cases Y
   ·rintro (U|⟨g,hg,he⟩)
    ·exact .inl U
    ·exact .inr ⟨0,{ r with v:=0 },g,rfl,hz,by simpa using hg,he.symm⟩
  have hI:Inv fn.ntmps M (Jr go) w (fun x=>if x=0 then go else none) (fun x v=>x<fn.ntmps∧v<1) (bW (some (d0,r)) args).t (bW (some (d0,r)) args).h { tmps:=(#[u0]++vs)++Array.replicate (fn.ntmps-(#[u0]++vs).size) undef,defers:=[] } w:={
   tab:=fun b U=>(X.tab b U).less fun b U=>(al b).1 U
   below:=ef.refl _ _
   mlt:=hM
   lent:=fun b U=>hgoM b (IJ.1 U)
   pin:=fun go' hg=>by
    cases hg;exact⟨⟨by simp only[Du]at hn;omega,ahp⟩,fun r' _ _=>⟨rfl,fun g _=>rfl⟩⟩
   defers:=rfl
   tsz:=by have:=X.1;simp only[Du]at hn;simp;omega
   slots:=fun i=>by
    simp only[bW];rcases tC (args:=d0::args) (vs:=#[u0]++vs) (n:=fn.ntmps) (i:=i) (by simp[X.1];omega) with he|he
    ·rw[he];cases i with
     | zero =>
      have e1:(#[u0]++vs).getD 0 undef=u0:=by simp[Array.getElem?_append]
      rw[e1];simp only[agK];cases d0 with
      | buf x v sz o n =>
       have an:x=0∧v=0:=by
        simp only[DG]at ae;split at ae<;>simp_all
       obtain⟨rfl,rfl⟩:=an;exact⟨⟨by simp only[Du]at hn;omega,ahp⟩,fun r' h1 h2=>by simpa using ay.2 ⟨0,0,[],false,false,false⟩ rfl rfl⟩
      | ptr x v o =>
       have an:x=0∧v=0:=by
        simp only[DG]at ae;split at ae<;>simp_all
       obtain⟨rfl,rfl⟩:=an;exact⟨⟨by simp only[Du]at hn;omega,ahp⟩,fun r' h1 h2=>by simpa using ay.2 ⟨0,0,[],false,false,false⟩ rfl rfl⟩
      | mp x v =>
       have an:x=0∧v=0:=by
        simp only[DG]at ae;split at ae<;>simp_all
       obtain⟨rfl,rfl⟩:=an;exact⟨⟨by simp only[Du]at hn;omega,ahp⟩,fun r' h1 h2=>by simpa using ay.2 ⟨0,0,[],false,false,false⟩ rfl rfl⟩
      | _=>simp[DG]at ae
     | succ i =>
      have e1:(#[u0]++vs).getD (i+1) undef=vs.getD i undef:=by
       simp only[afI];rw[Array.getElem?_append_right (by simp)];simp
      rw[e1];simp only[agL]
      by_cases hi:i<args.length
      ·have h1:=X.2 i _ (afQ hi);have e1:args.getD i .und=args[i]:=by simp[List.getD,hi]
       rw[e1];exact bs (h1.less fun b U=>(al b).1 U)
      ·have e1:args.getD i .und=.und:=by simp[List.getD,ahi (aho hi)]
       rw[e1];trivial
    ·rw[he];trivial
   rows:=fun x r' Y=>by
    simp only[bW]at Y;split at Y
    ·rename_i h0;subst h0;simp only[afM]at Y;subst Y;refine⟨fun hn=>⟨hn,ahp⟩,?_⟩;simp only[if_true];cases go with
     | none=>exact hrow
     | some g =>
      exact⟨.inr (IJ.2 ⟨g,rfl,rfl⟩),dN.keep (r':={ r with v:=0 }) hrow rfl rfl rfl rfl (fun b h1 h2=>⟨h1,fun U=>h2 ((al b).1 U),rfl⟩)⟩
    ·cases Y
   inj:=fun x y Z r2 g g' Y hy _ _ _=>by
    simp only[bW]at Y hy;split at Y
    ·split at hy
     ·omega
     ·cases hy
    ·cases Y
   big:=au
   pha:=fun y Z g hy hm _ j x s n hj=>by
    simp only[bW]at hy;split at hy
    ·simp only[afM]at hy;subst hy;obtain⟨ks,aI,hc⟩:=xm ax hm;rw[show ({ r with v:=0 } : Row).cells=r.cells from rfl,hc]at hj;cases j<;>simp at hj
    ·cases hy
   ali:=fun y Z g hy aL=>by
    simp only[bW]at hy;split at hy
    ·simp only[afM]at hy;subst hy;simp_all
    ·cases hy }
  have ar:EH (bW (some (d0,r)) args).h=(bW (some (d0,r)) args).h:=by
   refine T7 fun k r' hk =>?_;simp only[bW]at hk;split at hk
   ·rename_i h0;subst h0;simp only[afM]at hk;subst hk;exact⟨(by have:=cm;omega),by simpa [qp] using ax⟩
   ·cases hk
  have aD:EW (bW (some (d0,r)) args).e [] (bW (some (d0,r)) args).h:=by
   intro x r' ty s nv cs Y aJ;simp only[bW]at Y;split at Y
   ·simp only[afM]at Y;subst Y;intro aE;obtain⟨ks,aI,hc⟩:=xm ax aJ;rw[show ({ r with v:=0 } : Row).cells=r.cells from rfl,hc]at aE;cases aE
   ·cases Y
  apply calls_of_wp hf hc;refine il hT hΓ hm c (bW (some (d0,r)) args) x s _ _ _ hv ao ⟨_,⟨(by rw[ar];exact hI.weaken fun x v Y =>.inl ⟨Y.1,.inl Y.2⟩),aD⟩⟩ (fun a' w' hH =>?_);obtain⟨blk',av⟩:=hH;obtain⟨sE,aj⟩:∃sE:St,sE=⟨s.t,EH s.h,s.e⟩:=⟨_,rfl⟩;have hI':Inv fn.ntmps M (Jr go) w blk' (VE fn.ntmps s.e [] s.h) sE.t sE.h a' w':=by rw[aj];exact av.inv
  rw[<- aj]at O;have aa:ef (sh go) w w':=⟨hI'.below.os,hI'.below.tape,hI'.below.output,hI'.below.size,fun k hk hn=>hI'.below.block k hk (fun U=>hn (IJ.1 U))⟩;have ah:∀Z,js (some (d0,r)) sE=some (some Z)->sE.h 0=some Z∧Z.v=0∧Z.fz=false∧(Z.ty=r.ty∧(Z.mp=r.mp∧qp Z=true))∧blk' 0=go∧(∀g,go=some g->w'.shape? g.1=w.shape? g.1)∧(∀b,(M b∨sh go b)->Own M sE.h blk' b):=by
   intro Z hl;simp only[js]at hl;split at hl<;>try (cases hl;done)
   rename_i r2 h2;split at hl<;>try (cases hl;done)
   rename_i az;simp only[afM]at hl;subst hl;obtain⟨c1,c2,c3⟩:=az;obtain⟨_,k2⟩:=hI'.pin _ rfl;obtain⟨k3,k4⟩:=k2 r2 h2 c1;refine⟨h2,c1,c2,c3,k3,k4,?_⟩;rintro b (U|⟨g,hg,he⟩)
   ·exact .inl U
   ·exact .inr ⟨0,r2,g,h2,c2,k3.trans hg,he.symm⟩
  have ai:∀Z,js (some (d0,r)) sE=some (some Z)->RA w' (fun b=>M b∨sh go b) go Z:=by
   intro Z hl;obtain⟨h1,_,_,h4,h5,_,h7⟩:=ah Z hl;have:=(hI'.rows 0 Z h1).2;rw[h5]at this;cases go with
   | none=>exact this
   | some g =>
    exact dN.keep this.2 rfl rfl rfl rfl (fun b h1 h2=>⟨h1,fun U=>h2 (h7 b U),rfl⟩)
  have ab:a'.defers=[]∧∃v,(results fn a'.tmps).run P w'=.ok v w'∧(∃v',Ending.returned v=.returned v'∧ef (sh go) w w'∧aaF w w' M go r out∧aaH w w' M go v' rk):=by
   refine⟨hI'.defers,?_⟩;cases mode with
   | clean =>
    simp only[fH,oH]at O;split at O<;>try (cases O;done)
    rename_i ds fr o ak ho;split at O<;>try (cases O;done)
    rename_i aF;simp only[XS,agf,List.contains_eq_mem,decide_eq_false_iff_not]at aF;simp only[afM,Prod.mk.injEq]at O;obtain⟨rfl,rfl⟩:=O;cases o with
    | none =>
     simp only[js]at ho;split at ho<;>try (cases ho;done)
     split at ho<;>cases ho
    | some Z =>
     obtain⟨h1,h2,h3,h4,h5,h6,h7⟩:=ah Z ho;have aA:nC M sE.h blk' fr (fun b=>M b∨sh go b):=by
      refine⟨h7,fun x Y r' g aG hg U =>?_⟩;rcases U with U|⟨g',aK,he⟩
      ·exact hI'.notM aG hg U
      ·have:x=0:=hI'.inj x 0 r' Z g g' aG h1 hg (h5.trans aK) he;subst this;exact aF Y
     obtain⟨v,ag,ad⟩:=pI (P:=P) hT hI' ak aA;exact⟨v,ag,v,rfl,aa,⟨h4.1,h3,h4.2,h6,ai Z ho⟩,ad⟩
   | same =>
    simp only[fH,Ba]at O;split at O<;>try (cases O;done)
    rename_i i aw;split at O<;>try (cases O;done)
    rename_i sz o n Z ht ho;simp only[afM,Prod.mk.injEq]at O;obtain⟨rfl,rfl⟩:=O;obtain⟨h1,h2,h3,h4,h5,h6,h7⟩:=ah Z ho;refine⟨a'.tmps.getD i undef,mV aw,_,rfl,aa,⟨h4.1,h3,h4.2,h6,ai Z ho⟩,?_⟩;have aq:=hI'.slots i;rw[ht]at aq;refine⟨trivial,fun r' _ _ =>?_⟩;have:=aq.2 Z h1 h2;rw[h5]at this;exact this
   | tight =>
    simp only[fH,CG]at O;cases O
   | fresh aH s0 =>
    obtain⟨rfl,v,ty,sz,n,cells,rfl,ag,ad⟩:=hI'.qh (P:=P) O;refine⟨v,ag,v,rfl,aa,trivial,?_⟩;rcases ad with⟨g,k1,cs,k2,k3,k4⟩|ad
    ·exact .inl ⟨g,k1,cs,k2,k3.imp id (fun U=>IJ.1 U),k4⟩
    ·exact .inr ad
  cases x with
  | normal=>exact ab
  | ret=>exact ab
  | exit n=>exact (aB n rfl).elim
def ext (Γ:Env) (f:Nat) (l:Bool) (G:Option (D×Row)->List D->Option (RK×Option Row)):Env:=⟨fun g=>if g=f then l else Γ.lends g,fun g lent afy=>if g=f then G lent afy else Γ.sem g lent afy,Γ.own,Γ.hint,Γ.ins,Γ.grw,Γ.nst,Γ.nx⟩
theorem bF.ext (O:bF P Γ) {f:Nat} {l:Bool} {G:Option (D×Row)->List D->Option (RK×Option Row)} (U:∀lent afy rk out,G lent afy=some (rk,out)->pL P f lent afy rk out) (X:dQ P f):bF P (Am.ext Γ f l G):=by
 refine⟨fun g lent afy rk out h =>?_,O.ins,O.grw,O.lnd,O.res⟩;simp only[Am.ext]at h;split at h
 ·rename_i he;subst he;exact⟨U lent afy rk out h,X⟩
 ·exact O.calls g lent afy rk out h
def bk:Env:=⟨fun _=>false,fun _ _ _=>none,fun _=>true,fun _=>none,fun _=>none,fun _=>none,fun _=>none,{}⟩
theorem bF.none:bF P bk:=⟨fun f lent args rk out h=>(by cases h),fun f p h=>(by cases h),fun f p h=>(by cases h),fun f p h=>(by cases h),fun f p h=>(by cases h)⟩
def keep (d:Nat) (Γ:Env):Env:=⟨Γ.lends,Γ.sem,fun i=>i != d&&Γ.own i,Γ.hint,Γ.ins,Γ.grw,Γ.nst,Γ.nx⟩
theorem bF.keep (O:bF P Γ) (d:Nat):bF P (Am.keep d Γ):=⟨O.calls,O.ins,O.grw,O.lnd,O.res⟩
def vc (d y:Nat) (Γ:Env):Env:=⟨Γ.lends,Γ.sem,Γ.own,fun i=>if i=d then some y else Γ.hint i,Γ.ins,Γ.grw,Γ.nst,Γ.nx⟩
theorem bF.vc (O:bF P Γ) (d y:Nat):bF P (Am.vc d y Γ):=⟨O.calls,O.ins,O.grw,O.lnd,O.res⟩
def C8 (f:Nat) (p:Nat×Nat×Nat) (Γ:Env):Env:=⟨Γ.lends,Γ.sem,Γ.own,Γ.hint,fun g=>if g=f then some p else Γ.ins g,Γ.grw,Γ.nst,Γ.nx⟩
theorem bF.C8 (O:bF P Γ) {f:Nat} {p:Nat×Nat×Nat} (U:abA P f p):bF P (Am.C8 f p Γ):=⟨O.calls,fun g q h=>by
 simp only[Am.C8]at h;split at h
 ·rename_i he;subst he;cases h;exact U
 ·exact O.ins g q h,O.grw,O.lnd,O.res⟩
def uS (d:Nat) (p:Nat×Nat×Nat) (Γ:Env):Env:=⟨Γ.lends,Γ.sem,Γ.own,Γ.hint,Γ.ins,Γ.grw,fun i=>if i=d then some p else Γ.nst i,Γ.nx⟩
theorem bF.uS (O:bF P Γ) (d:Nat) (p:Nat×Nat×Nat):bF P (Am.uS d p Γ):=⟨O.calls,O.ins,O.grw,O.lnd,O.res⟩
def AO (f:Nat) (p:Nat×(Nat->Nat->Nat->Nat->List D->List D->Option (D×List D))) (Γ:Env):Env:=⟨Γ.lends,Γ.sem,Γ.own,Γ.hint,Γ.ins,Γ.grw,Γ.nst,⟨fun g=>if g=f then some p else Γ.nx.lnd g,Γ.nx.res⟩⟩
theorem bF.AO (O:bF P Γ) {f:Nat} {p:Nat×(Nat->Nat->Nat->Nat->List D->List D->Option (D×List D))} (U:dQ P f) (X:∀ty t s o cs args d cs',p.2 ty t s o cs args=some (d,cs')->IH P f ty t s o cs args d cs'):bF P (Am.AO f p Γ):=⟨O.calls,O.ins,O.grw,fun g q h=>by
 simp only[Am.AO]at h;split at h
 ·rename_i he;subst he;cases h;exact⟨U,X⟩
 ·exact O.lnd g q h,O.res⟩
def AR (f:Nat) (p:List D->Option (Nat×Nat×Nat×Nat×Nat×List D)) (Γ:Env):Env:=⟨Γ.lends,Γ.sem,Γ.own,Γ.hint,Γ.ins,Γ.grw,Γ.nst,⟨Γ.nx.lnd,fun g=>if g=f then some p else Γ.nx.res g⟩⟩
theorem bF.AR (O:bF P Γ) {f:Nat} {p:List D->Option (Nat×Nat×Nat×Nat×Nat×List D)} (U:dQ P f) (X:∀args ty t s S n cs,p args=some (ty,t,s,S,n,cs)->IG P f args ty t s S n cs):bF P (Am.AR f p Γ):=⟨O.calls,O.ins,O.grw,O.lnd,fun g q h=>by
 simp only[Am.AR]at h;split at h
 ·rename_i he;subst he;cases h;exact⟨U,X⟩
 ·exact O.res g q h⟩
def C2 (f:Nat) (p:Grow) (Γ:Env):Env:=⟨Γ.lends,Γ.sem,Γ.own,Γ.hint,Γ.ins,fun g=>if g=f then some p else Γ.grw g,Γ.nst,Γ.nx⟩
theorem bF.C2 (O:bF P Γ) {f:Nat} {p:Grow} (U:VG P f p):bF P (Am.C2 f p Γ):=⟨O.calls,O.ins,fun g q h=>by
 simp only[Am.C2]at h;split at h
 ·rename_i he;subst he;cases h;exact U
 ·exact O.grw g q h,O.lnd,O.res⟩
end
def pZ (ty t s o:Nat) (cs args:List D):St:=⟨fun i=>(.ptr 0 0 o::args).getD i .und,mn (iD ty t s 0 cs),1⟩
def W8 (t s:Nat) (ds:List D):List D->Option (D×List D)
 | [.nr O U _ cs']=>if O=t∧U=s then some (kB ds,cs') else none
 | _=>none
def LH (ty t s:Nat):Option (List D×List Nat)->Option Row->Option (D×List D)
 | some (ds,fr),some r=>if r.v=0∧r.fz=false∧r.ty=ty∧r.mp=true∧fr.all (fun k=>rt k != 0)=true then W8 t s ds r.cells else none
 | _,_=>none
def Ut (T:Nat->Option Ty) (ty t s:Nat) (rs:List ResultVar) (st:St):Option (D×List D):=LH ty t s (rJ T ⟨st.t,EH st.h,st.e⟩ rs) (st.h 0)
def Rj (T:Nat->Option Ty) (Γ:Env) (F:Nat) (fn:Func) (ty t s o:Nat) (cs args:List D):Option (D×List D) :=
 match fn.body with
 | some c =>
  if fn.ntmps<=PK then
   match fK T Γ fn.ntmps F c (pZ ty t s o cs args) with
   | some (.exit _,_)=>none
   | some (_,st)=>Ut T ty t s fn.results.toList st
   | none=>none
  else none
 | none=>none
def W7 (x S n:Nat) (ty:Nat):List D->Option (Nat×Nat×Nat×Nat×Nat×List D)
 | [.nr t s _ cs]=>if x<PK then some (ty,t,s,S,n,cs) else none
 | _=>none
def LD (x v S n:Nat):Option Row->Option (Nat×Nat×Nat×Nat×Nat×List D)
 | some r=>if r.v=v∧r.fz=false∧r.mp=true then W7 x S n r.ty r.cells else none
 | none=>none
def Sr (h:Nat->Option Row):D->Option (Nat×Nat×Nat×Nat×Nat×List D)
 | .buf x v S 0 n=>LD x v S n (h x)
 | _=>none
def Us (rs:List ResultVar) (st:St):Option (Nat×Nat×Nat×Nat×Nat×List D) :=
 match rs with
 | [.tmp i]=>Sr st.h (st.t i)
 | _=>none
def J6 (T:Nat->Option Ty) (Γ:Env) (F:Nat) (fn:Func) (args:List D):Option (Nat×Nat×Nat×Nat×Nat×List D) :=
 match fn.body with
 | some c =>
  if fn.ntmps<=PK then
   match fK T Γ fn.ntmps F c (bW none args) with
   | some (.exit _,_)=>none
   | some (_,st)=>Us fn.results.toList st
   | none=>none
  else none
 | none=>none
section
variable {P:Program} {T:Nat->Option Ty} {N:Nat} {M:Nat->Prop} {L:iN} {w0:World} {blk:Nat->Option (Nat×Nat)} {a:Act} {w:World} {Γ:Env}
theorem J8 (hT:gW P T) (hΓ:bF P Γ) (hm:P.follows .mixedOrders=true) {f:FuncId} {fn:Func} {F:Nat} {ty t s o:Nat} {cs args cs':List D} {d:D} (hf:P.funcs[f]? = some fn)
  (ak:(match fn.body with|some c=>codeOk c|none=>true)=true) (hn:args.length+1<=fn.ntmps)
  (X:Rj T Γ F fn ty t s o cs args=some (d,cs')):IH P f ty t s o cs args d cs':=by
 unfold Rj at X;split at X<;>try (cases X;done)
 rename_i c hc;rw[hc]at ak;simp only at ak;split at X<;>try (cases X;done)
 rename_i au;split at X<;>try (cases X;done)
 rename_i x st az hv;intro w M blk h0 h1 g0 vs ae ag hM hdis al hR Y;have aI:=cm;have hfz:∀k r,h0 k=some r->r.fz=false:=by
  intro k r hk;rw[ae]at hk;rcases iz hk with⟨_,rfl⟩|⟨_,_,_,_,_,rfl⟩<;>rfl
 have aa:∀b,Own M h0 blk b↔(M b∨tU blk h0 b):=by
  intro b;constructor
  ·rintro (O|⟨k,r,g,h1,_,h2,h3⟩)
   ·exact .inl O
   ·exact .inr ⟨k,r,g,h1,h2,h3⟩
  ·rintro (O|⟨k,r,g,h1,h2,h3⟩)
   ·exact .inl O
   ·exact .inr ⟨k,r,g,h1,hfz k r h1,h2,h3⟩
 have an:h0 0=some ⟨0,ty,cs.mapIdx (pb 0 s),false,true,true⟩:=by rw[ae];exact tA
 obtain⟨LL,ao⟩:∃LL:iN,LL=some (some g0,tU blk h0):=⟨_,rfl⟩;have ah:∀b,LB LL b↔tU blk h0 b:=by
  intro b;subst ao;constructor
  ·rintro⟨p,hp,h⟩;cases hp;rcases h with⟨g,hg,rfl⟩|h
   ·cases hg;exact⟨0,_,g0,an,al,rfl⟩
   ·exact h
  ·exact fun h=>⟨_,rfl,.inr h⟩
 have hI:Inv fn.ntmps M LL w blk (fun x v=>x<fn.ntmps∧v<1) (pZ ty t s o cs args).t h0 { tmps:=(#[Value.pointer (some ⟨g0.1,g0.2+o,none⟩)]++vs)++Array.replicate (fn.ntmps-(#[Value.pointer (some ⟨g0.1,g0.2+o,none⟩)]++vs).size) undef,defers:=[] } w:={
  tab:=fun b O=>(Y.tab b O).less fun b O=>(aa b).1 O
  below:=ef.refl _ _
  mlt:=hM
  lent:=fun b O=>hdis b ((ah b).1 O)
  pin:=fun p hp=>by
   subst ao;cases hp;exact⟨⟨by omega,ahp⟩,fun r' _ _=>⟨al,fun g _=>rfl⟩⟩
  defers:=rfl
  tsz:=by have:=Y.1;simp;omega
  slots:=fun i=>by
   simp only[pZ];rcases tC (args := .ptr 0 0 o::args) (vs:=#[.pointer (some ⟨g0.1,g0.2+o,none⟩)]++vs) (n:=fn.ntmps) (i:=i) (by simp[Y.1];omega) with he|he
   ·rw[he];cases i with
    | zero =>
     have e1:(#[Value.pointer (some ⟨g0.1,g0.2+o,none⟩)]++vs).getD 0 undef=.pointer (some ⟨g0.1,g0.2+o,none⟩):=by simp[Array.getElem?_append]
     rw[e1];simp only[agK];exact⟨⟨by omega,ahp⟩,fun r' _ _=>⟨g0,al,rfl⟩⟩
    | succ i =>
     have e1:(#[Value.pointer (some ⟨g0.1,g0.2+o,none⟩)]++vs).getD (i+1) undef=vs.getD i undef:=by
      simp only[afI];rw[Array.getElem?_append_right (by simp)];simp
     rw[e1];simp only[agL]
     by_cases hi:i<args.length
     ·have h1:=Y.2 i _ (afQ hi);have e1:args.getD i .und=args[i]:=by simp[List.getD,hi]
      rw[e1];exact bs (h1.less fun b O=>(aa b).1 O)
     ·have e1:args.getD i .und=.und:=by simp[List.getD,ahi (aho hi)]
      rw[e1];trivial
   ·rw[he];trivial
  rows:=fun k r hk=>by
   refine⟨fun hn =>?_,?_⟩
   ·rw[ae]at hk;rcases iz hk with⟨rfl,rfl⟩|⟨o',_,_,rfl,_,rfl⟩
    ·exact⟨hn,ahp⟩
    ·have:=eL 0 o';omega
   ·have:=hR.rows k r hk;cases hg:blk k with
    | none=>rw[hg]at this;exact this
    | some g =>
     rw[hg]at this;exact⟨.inr ((ah g.1).2 ⟨k,r,g,hk,hg,rfl⟩),this.keep rfl rfl rfl rfl fun b q1 q2=>⟨q1,fun O=>q2 ((aa b).1 O),rfl⟩⟩
  inj:=hR.inj
  big:=au
  pha:=hR.pha
  ali:=fun y r g hy hz=>by rw[hfz y r hy]at hz;cases hz }
 have av:EW (pZ ty t s o cs args).e [] (pZ ty t s o cs args).h:=by
  intro k r' ty' s' aA aB hx aJ aw;simp only[pZ,mn]at hx;split at hx
  ·simp only[afM]at hx;subst hx;simp only[iD,af1,D.nr.injEq,and_true]at aw;obtain⟨_,_,rfl,_⟩:=aw;exact fun _=>⟨by simp[pZ],fun _=>by simp[pZ]⟩
  ·cases hx
 have aC:EH (pZ ty t s o cs args).h=h0:=ae.symm;apply calls_of_wp hf hc;refine il hT hΓ hm c (pZ ty t s o cs args) x st _ _ _ hv ak ⟨_,⟨(by rw[aC];exact hI.weaken fun x v hx=>Or.inl ⟨hx.1,Or.inl hx.2⟩),av⟩⟩ (fun a' w' hH =>?_);obtain⟨blk',aD⟩:=hH;have hI':=aD.inv;unfold Ut LH at X;split at X<;>try (cases X;done)
 rename_i ds fr r1 ax ai;split at X<;>try (cases X;done)
 rename_i aq;obtain⟨c1,c2,c3,c4,c5⟩:=aq;unfold W8 at X;split at X<;>try (cases X;done)
 rename_i t' s' aA aB U;split at X<;>try (cases X;done)
 rename_i aE;obtain⟨rfl,rfl⟩:=aE;simp only[afM,Prod.mk.injEq]at X;obtain⟨rfl,rfl⟩:=X;have aF:=fB ai c4 U lV;obtain⟨p1,p2⟩:=(hI'.pin (some g0,tU blk h0) ao).2 _ aF c1;have aj:=II (blk:=blk') ai c4 U lV;rw[c3]at aj;have hQ:∀b,(M b∨tU (o0 blk' 0) h1 b)->Own M (EH st.h) blk' b:=by
  rintro b (O|O)
  ·exact .inl O
  ·rw[ag]at O;obtain⟨k,r',g',q0,q1,q2,q3⟩:=(aj b).1 O;refine .inr ⟨k,r',g',q1,?_,q2,q3⟩;rcases ej ai c4 U lV q0 q1 with⟨_,rfl⟩|⟨_,_,_,_,_,rfl⟩<;>exact c2
 have ar:nC M (EH st.h) blk' fr (fun b=>M b∨tU (o0 blk' 0) h1 b):=by
  refine⟨hQ,fun k hk r' g ay hg O =>?_⟩;rcases O with O|O
  ·exact hI'.notM ay hg O
  ·rw[ag]at O;obtain⟨l,r2,g',q0,q1,q2,q3⟩:=(aj _).1 O;have:=hI'.inj k l r' r2 g g' ay q1 hg q2 q3.symm;subst this;have:=afO.1 c5 _ hk;simp[q0]at this
 obtain⟨v,aG,aH⟩:=pI (P:=P) (s:=⟨st.t,EH st.h,st.e⟩) hT hI' ax ar;have ab:=hI'.abZ ai c4 U c2 lV hQ;rw[c3,<- ag]at ab;have ad:a'.defers=[]∧∃v,(results fn a'.tmps).run P w'=.ok v w'∧(∃v' Z,Ending.returned v=.returned v'∧ef (tU blk h0) w w'∧Z 0=some g0∧w'.shape? g0.1=w.shape? g0.1∧(∀b,tU Z h1 b->w.heap.size<=b∨tU blk h0 b)∧FB w' (fun b=>M b∨tU Z h1 b) Z h1∧RP w' (fun b=>M b∨tU Z h1 b) (kB ds) v'):=by
  refine⟨hI'.defers,v,aG,v,o0 blk' 0,rfl,⟨hI'.below.os,hI'.below.tape,hI'.below.output,hI'.below.size,fun k hk hn=>hI'.below.block k hk fun O=>hn ((ah k).1 O)⟩,by rw[o0,pX];exact p1,p2 g0 rfl,fun b O =>?_,ab,aH⟩;rw[ag]at O;obtain⟨k,r',g',q0,q1,q2,q3⟩:=(aj b).1 O;rcases hI'.base q1 q2 with q|q
  ·exact .inl (by omega)
  ·exact .inr (by rw[<- q3];exact (ah _).1 q)
 cases x with
 | normal=>exact ad
 | ret=>exact ad
 | exit n=>exact (az n rfl).elim
theorem aeY (hT:gW P T) (hΓ:bF P Γ) (hm:P.follows .mixedOrders=true) {f:FuncId} {fn:Func} {F:Nat} {args:List D} {c:Code} {x:Ex} {st:St} (hf:P.funcs[f]? = some fn) (hc:fn.body=some c) (ad:codeOk c=true) (hn:args.length<=fn.ntmps) (aa:fn.ntmps<=PK)
  (hv:fK T Γ fn.ntmps F c (bW none args)=some (x,st)) (ae:∀n,x ≠ .exit n) {w:World} {M:Nat->Prop} {vs:Array Value} (hM:∀b,M b->b<w.heap.size) (O:wB w M args vs) {Φ:Ending->World->Prop}
  (hk:∀Z w' blk',Inv fn.ntmps M none w blk' (VE fn.ntmps st.e [] st.h) st.t (EH st.h) Z w'->∃v,(results fn Z.tmps).run P w'=.ok v w'∧Φ (.returned v) w'):Calls P f vs w Φ:=by
 have hI:Inv fn.ntmps M none w (fun _=>none) (fun x v=>x<fn.ntmps∧v<0) (bW none args).t (bW none args).h { tmps:=vs++Array.replicate (fn.ntmps-vs.size) undef,defers:=[] } w:={
  tab:=fun b U=>(O.tab b U).less fun b U=>by
   rcases U with U|⟨x,r,g,X,_⟩
   ·exact U
   ·cases X
  below:=ef.refl _ _
  mlt:=hM
  lent:=fun b U=>absurd U pj
  pin:=fun go hg=>by cases hg
  defers:=rfl
  tsz:=by have:=O.1;simp;omega
  slots:=fun i=>by
   simp only[bW];rcases tC (n:=fn.ntmps) (i:=i) O.1 with he|he
   ·rw[he]
    by_cases hi:i<args.length
    ·have h1:=O.2 i _ (afQ hi);have e1:args.getD i .und=args[i]:=by simp[List.getD,hi]
     rw[e1];exact bs (h1.less fun b U=>by
      rcases U with U|⟨x,r,g,X,_⟩
      ·exact U
      ·cases X)
    ·have e1:args.getD i .und=.und:=by simp[List.getD,ahi (aho hi)]
     rw[e1];trivial
   ·rw[he];trivial
  rows:=fun x r X=>by cases X
  inj:=fun x y r s g g' X=>by cases X
  big:=aa
  pha:=fun y r g hy=>by cases hy
  ali:=fun y r g hy=>by cases hy }
 apply calls_of_wp hf hc;refine il hT hΓ hm c (bW none args) x st _ _ _ hv ad ⟨_,⟨(by rw[Bq (fun k r hk=>by cases hk)];exact hI.weaken fun x v X=>absurd X.2 (Nat.not_lt_zero _)),fun x r ty s nv cs X=>by cases X⟩⟩ (fun Z w' hH =>?_);obtain⟨blk',ab⟩:=hH;obtain⟨v,h1,h2⟩:=hk Z w' blk' ab.inv;have Y:Z.defers=[]∧∃v,(results fn Z.tmps).run P w'=.ok v w'∧Φ (.returned v) w':=⟨ab.inv.defers,v,h1,h2⟩;cases x with
 | normal=>exact Y
 | ret=>exact Y
 | exit n=>exact (ae n rfl).elim
theorem O1 {F:Nat} {fn:Func} {args:List D} {ty t s S n:Nat} {cs:List D} (O:J6 T Γ F fn args=some (ty,t,s,S,n,cs)) :
  ∃c x st i k v r nv,fn.body=some c∧fn.ntmps<=PK∧fK T Γ fn.ntmps F c (bW none args)=some (x,st)∧(∀m,x ≠ .exit m)∧fn.results.toList=[.tmp i]∧st.t i=.buf k v S 0 n∧st.h k=some r∧r.v=v∧r.fz=false∧r.mp=true∧k<PK∧r.ty=ty∧r.cells=[.nr t s nv cs]:=by
 unfold J6 at O;split at O<;>try (cases O;done)
 rename_i c hc;split at O<;>try (cases O;done)
 rename_i Y;split at O<;>try (cases O;done)
 rename_i x st hne hv;unfold Us at O;split at O<;>try (cases O;done)
 rename_i i Z;unfold Sr at O;split at O<;>try (cases O;done)
 rename_i k v S' n' ht;unfold LD at O;split at O<;>try (cases O;done)
 rename_i r hh;split at O<;>try (cases O;done)
 rename_i U;unfold W7 at O;split at O<;>try (cases O;done)
 rename_i t' s' nv cs' X;split at O<;>try (cases O;done)
 rename_i hk;simp only[afM,Prod.mk.injEq]at O;obtain⟨h1,h2,h3,h4,h5,h6⟩:=O;subst h2 h3 h4 h5 h6;exact⟨c,x,st,i,k,v,r,nv,hc,Y,hv,fun m hm=>hne m hm,Z,ht,hh,U.1,U.2.1,U.2.2,hk,h1,X⟩
theorem J7 (hT:gW P T) (hΓ:bF P Γ) (hm:P.follows .mixedOrders=true) {f:FuncId} {fn:Func} {F:Nat} {args:List D} {ty t s S n:Nat} {cs:List D} (hf:P.funcs[f]? = some fn)
  (Y:(match fn.body with|some c=>codeOk c|none=>true)=true) (hn:args.length<=fn.ntmps)
  (hr:J6 T Γ F fn args=some (ty,t,s,S,n,cs)):IG P f args ty t s S n cs:=by
 obtain⟨c,x,st,i,k,v,r,nv,hc,ab,hv,ai,aj,ht,hh,c1,c2,c3,hk,ad,O⟩:=O1 hr;rw[hc]at Y;simp only at Y;intro w M h vs ae hM Z;refine aeY hT hΓ hm hf hc Y hn ab hv ai hM Z fun a' w' blk' X =>?_;have aa:=II (blk:=blk') hh c3 O hk;rw[ad,<- ae]at aa;have ag:Below w.heap.size w w':=X.below.below (fun b hb=>absurd hb pj);have hQ:∀b,(M b∨tU (o0 blk' k) h b)->Own M (EH st.h) blk' b:=by
  rintro b (hb|hb)
  ·exact .inl hb
  ·obtain⟨l,r',g',q0,q1,q2,q3⟩:=(aa b).1 hb;refine .inr ⟨l,r',g',q1,?_,q2,q3⟩;rcases ej hh c3 O hk q0 q1 with⟨_,rfl⟩|⟨_,_,_,_,_,rfl⟩<;>exact c2
 have U:=X.abZ hh c3 O c2 hk hQ;rw[ad,<- ae]at U;have ah:=X.slots i;rw[ht]at ah;refine⟨_,mV aj,_,o0 blk' k,rfl,ag,fun b hb =>?_,U,trivial,fun r' _ _ =>?_⟩
 ·obtain⟨l,r',g',q0,q1,q2,q3⟩:=(aa b).1 hb;rcases X.base q1 q2 with q|q
  ·omega
  ·exact absurd q pj
 ·rw[o0,pX];exact ah.2 _ (fB hh c3 O hk) c1
end
def Xw:ch->D
 | (n,none) =>.int .i64 n
 | (a,some b) =>.agg [.int .i64 a,.int .i64 b]
theorem MH {w:World} {M:Nat->Prop} (k:ch):RP w M (Xw k) (jZ k):=by
 obtain⟨a,x⟩:=k;cases x with
 | none=>exact .int _ _
 | some b =>
  refine .agg [.int .i64 a,.int .i64 b] [.int .i64 a,.int .i64 b] rfl (fun j x O =>?_) (fun x U =>?_)
  ·match j,O with
   | 0,O=>simp only[List.getElem?_cons_zero,afM]at O;subst O;exact .int _ _
   | 1,O=>simp only[List.getElem?_cons_succ,List.getElem?_cons_zero,afM]at O;subst O;exact .int _ _
   | j+2,O=>simp at O
  ·simp only[afK,agM,or_false]at U;rcases U with rfl|rfl<;>rfl
section
variable {P:Program} {T:Nat->Option Ty} {N:Nat} {M:Nat->Prop} {L:iN} {w0:World} {blk:Nat->Option (Nat×Nat)} {V:Nat->Nat->Prop} {t:Nat->D} {h:Nat->Option Row} {a:Act} {w:World} {e:Nat} {o:Oper} {Γ:Env} {done:List Nat}
theorem sn {x v ty:Nat} {ks:List ch} {vs:List D} {fz lst:Bool} (O:h x=some ⟨v,ty,[.mpc ks vs],fz,lst,true⟩) (U:x<PK):EH h x=some ⟨v,ty,[.mpc ks vs],fz,lst,true⟩∧∀o,EH h (NK x o)=none:=by
 constructor
 ·rw[p6 (by have:=cm;omega),O];rfl
 ·intro o;rw[p5 U,O];rfl
theorem tW (Z:qM N M L w0 blk e done t h a w) (hd:∀d:Nat,o.dst=some d->d∉done∧d<N) {E:bB} {v:Value} {w':World} (O:gA e h (aK h E.hw)) (hA:iL N M L w0 (VE N e done h) t h a e o.dst E v w'):Bp N M L w0 t h a e (o.dst.toList++done) E v w':=by
 have U:∀x,x∈done->x∈o.dst.toList++done:=fun x Y=>afS _ Y;obtain⟨blk',h1,h2⟩:=hA;have X:∀x n,VE N e done h x n∨(o.dst=some x∧n=e)->VE N e (o.dst.toList++done) (aK h E.hw) x n:=by
  rintro x n (hv|⟨Y,rfl⟩)
  ·exact hv.step O U
  ·exact .inl ⟨(hd x Y).2,.inr ⟨rfl,afR _ (by rw[Y];simp)⟩⟩
 exact⟨blk',⟨h1.weaken X,Z.nv.step O U⟩,h2.mono ⟨fun _ h1 h2=>⟨h1,h2,rfl⟩,X,fun _ _ _ r' h1 h2=>⟨⟨r',h1,h2⟩,rfl,fun _ _=>rfl⟩⟩⟩
theorem yc {ops:Array Oper} {l:List Oper} {Q:Exit->Act->World->Prop} (Y:o.guard=none) {K:(Nat->D)->(Nat->Option Row)->Prop} (hI:qM N M L w0 blk e done t h a w) (Z:fits N o.dst=true)
  (hD:dR P o a w fun v w'=>∃E:bB,K (eF t o.dst E.val) (aK h E.hw)∧Bp N M L w0 t h a e (o.dst.toList++done) E v w')
  (hK:∀U h' X w' blk',K U h'->qM N M L w0 blk' e (o.dst.toList++done) U h' X w'->wpList P ops Q l X w'):wpList P ops Q (o::l) a w:=by
 unfold wpList;have:Region.wanted o (yielded ops a.tmps)=true:=by simp[Region.wanted,Y]
 rw[this];simp only[if_true];refine .inl (hD.wp fun v w' hA =>?_);obtain⟨E,hk,blk',O,hR⟩:=hA;exact hK _ _ _ _ blk' hk ⟨O.inv.acd Z hR,O.nv⟩
theorem Pz (hT:gW P T) (hI:Inv N M L w0 blk V t (EH h) a w) {ty d x v v' O k el:Nat} {m:Operand} {ks:List ch} {vs:List D} {lst:Bool} (ho:o.op=.range ty m) (hd:o.dst=some d) (hV:iA N V d e) (hu:P.underlying ty=some (.map k el)) (hm:ev t m=.mp x v)
  (hx:h x=some ⟨v,O,[.mpc ks vs],false,lst,true⟩) (ax:O<900000) (ah:x<PK) (ai:d≠x) :
  dR P o a w (iL N M L w0 V t h a e o.dst ⟨.ptr d e 0,[(x,some ⟨v,O,[.mpc ks vs],true,true,true⟩),(d,some ⟨e,900000,[.mpc ks vs],false,true,true⟩)]⟩):=by
 have aL:=cm;have aJ:=hI.big;have aM:d<N:=hV.lt;have ab:d<PK:=by omega
 obtain⟨ay,aN⟩:=sn hx ah;have aj:=hI.ev m;rw[hm]at aj;have az:gD (EH h) x v=some (ks,vs):=by unfold gD;rw[ay];simp[ax]
 obtain⟨g,r,h1,h2,h3,h4,h5,aA,hlen,ents,clock,U,aO,aB,us,hk,hv⟩:=hI.Nd az aj;have ak:=run_range_map (P:=P) w ty k el g.1 ents clock hu U;have aC:=hI.le (wW (h:=h) d ab);have aD:bI h d none x=some ⟨v,O,[.mpc ks vs],false,lst,true⟩:=by rw[aq _ _ (Ne.symm ai)];exact hx
 obtain⟨al,ao⟩:=sn aD ah;have hA:=aC.freeze [x];have aa:∀z,aK (EH (bI h d none)) (ik (EH (bI h d none)) [x]) z=if z=x then some ⟨v,O,[.mpc ks vs],true,true,true⟩ else EH (bI h d none) z:=by
  intro z;rw[yi]
  by_cases hz:z=x
  ·subst hz;rw[if_pos (by simp),if_pos rfl,al];rfl
  ·rw[if_neg (by simpa using hz),if_neg hz]
 generalize aP:aK (EH (bI h d none)) (ik (EH (bI h d none)) [x])=ad at hA aa;have ar:=heap_alloc_new w (.mapIter (some g.1) clock #[] clock);have hold:∀b,b<w.heap.size->(w.alloc (.mapIter (some g.1) clock #[] clock)).heap[b]? = w.heap[b]?:=fun b X=>Below.heap_alloc w _ b X;have Y:=(Below.refl w.heap.size w).alloc (afD _) (.mapIter (some g.1) clock #[] clock);have au:g.1<w.heap.size:=(afH.1 U).1;have ae:ad x=some ⟨v,O,[.mpc ks vs],true,true,true⟩:=by rw[aa,if_pos rfl]
 have aE:¬Own M ad blk g.1:=by
  rintro (X|⟨y,r',g',hy,Z,ag,he⟩)
  ·exact hA.notM ae h5 X
  ·have:y=x:=hA.inj y x r' _ g' g hy ae ag h5 he;subst this;rw[ae]at hy;cases hy;cases Z
 have hB:=hA.BC (w':=w.alloc (.mapIter (some g.1) clock #[] clock)) (h1:=ad) (old:=none) (d:=d) (e:=e) (r0:=⟨e,900000,[.mpc ks vs],false,true,true⟩) (go:=some (w.heap.size,0)) Y.os Y.tape Y.output Y.size (fun k hk _=>hold k hk) (fun y hy=>by cases hy) rfl hV
  ⟨.inl (afD _),.inl ⟨ks,vs,rfl,hlen,fun q=>absurd q (Nat.lt_irrefl _),fun _=>⟨rfl,g.1,ents,clock,#[],[],List.range ks.length,us,ar,by have:=Y.size;omega,by
   rintro (X|X)
   ·exact aE X
   ·have:g.1=w.heap.size:=X;omega,(hold _ au).trans U,aB,(agR 900000).symm,afE _,by simp,List.nodup_range,fun i=>by
   rw[ahm];constructor
   ·intro hi;exact⟨ents[i]'(by omega),agQ (by omega),by simp⟩
   ·rintro⟨e1,aF,_⟩;have:=(afH.1 aF).1;omega,fun i hi=>by simp at hi,fun j k' hj=>by
   obtain⟨e1,p1,p2,p3⟩:=hk j k' hj;have aH:=(af6.1 hj).1;exact⟨j,e1,by simp[aH],p1,p2,p3⟩,fun j y hj=>(hv j y hj).keep fun b q1 q2=>⟨by have:=Y.size;omega,by
    rintro (X|X)
    ·apply q2;rcases X with X|⟨y,r',g',hy,Z,ag,he⟩
     ·exact .inl X
     ·by_cases av:y=x
      ·subst av;rw[ae]at hy;cases hy;cases Z
      ·rw[aa,if_neg av]at hy;obtain⟨r2,q3,q4⟩:=wW (h:=h) d ab y r' hy;refine .inr ⟨y,r2,g',q3,?_,ag,he⟩;rcases q4 with rfl|⟨_,cs,rfl,_⟩|⟨_,kk,rfl⟩
       ·exact Z
       ·exact Z
       ·exact Z
    ·have:b=w.heap.size:=X;omega,hold b q1⟩⟩⟩⟩ rfl rfl (fun _ g' ag j x' s' n' hj=>by cases j<;>simp at hj)
 have aw:bI ad d (some (⟨e,900000,[.mpc ks vs],false,true,true⟩:Row))=EH (aK h [(x,some ⟨v,O,[.mpc ks vs],true,true,true⟩),(d,some ⟨e,900000,[.mpc ks vs],false,true,true⟩)]):=by
  have aI:aK h [(x,some ⟨v,O,[.mpc ks vs],true,true,true⟩),(d,some ⟨e,900000,[.mpc ks vs],false,true,true⟩)]=bI (bI h x (some ⟨v,O,[.mpc ks vs],true,true,true⟩)) d (some ⟨e,900000,[.mpc ks vs],false,true,true⟩):=rfl;rw[aI];have k1:bI (bI h x (some (⟨v,O,[.mpc ks vs],true,true,true⟩:Row))) d (some ⟨e,900000,[.mpc ks vs],false,true,true⟩) d=some ⟨e,900000,[.mpc ks vs],false,true,true⟩:=an _ _ _;have k2:bI (bI h x (some (⟨v,O,[.mpc ks vs],true,true,true⟩:Row))) d (some ⟨e,900000,[.mpc ks vs],false,true,true⟩) x=some ⟨v,O,[.mpc ks vs],true,true,true⟩:=by rw[aq _ _ (Ne.symm ai),an]
  obtain⟨m1,m2⟩:=sn k1 ab;obtain⟨m3,m4⟩:=sn k2 ah;have k3:bI h d none d=none:=an _ _ _;funext z
  by_cases hzd:rt z=d
  ·rcases nh hzd with rfl|⟨o',rfl⟩
   ·rw[an,m1]
   ·rw[aq _ _ (by have:=eL d o';omega),m2,aa,if_neg (by have:=eL d o';omega),p5 ab,k3];rfl
  ·rw[aq _ _ (fun e=>hzd (by rw[e,gH (by omega)])),aa]
   by_cases hzx:rt z=x
   ·rcases nh hzx with rfl|⟨o',rfl⟩
    ·rw[if_pos rfl,m3]
    ·rw[if_neg (by have:=eL x o';omega),m4,ao]
   ·rw[if_neg (fun e=>hzx (by rw[e,gH (by omega)]))];exact dS (by rw[aq _ _ hzd,aq _ _ hzd,aq _ _ hzx])
 rw[aw]at hB;refine aG (v := .pointer (some ⟨w.heap.size,0,none⟩)) (w':=w.alloc (.mapIter (some g.1) clock #[] clock)) ?_ ⟨bI blk d (some (w.heap.size,0)),hB.weaken fun x n hx =>?_,?_⟩
 ·simp[execOp,ho,aA,ak]
 ·rcases hx with hx|⟨rfl,rfl⟩
  ·exact .inl hx
  ·exact .inr ⟨hd,rfl⟩
 ·exact⟨.inr ⟨hd,rfl⟩,fun r hr hv=>⟨(w.heap.size,0),an _ _ _,rfl⟩⟩
theorem Inv.iter (hI:Inv N M L w0 blk V t (EH h) a w) {y v ty:Nat} {p:Operand} {ks:List ch} {vs:List D} {lst:Bool} (hp:Am.ev t p=.ptr y v 0) (hy:h y=some ⟨v,ty,[.mpc ks vs],false,lst,true⟩) (Z:900000<=ty) (hyp:y<PK) :
  ∃(g:Nat×Nat),blk y=some g∧a.eval p=.pointer (some ⟨g.1,g.2+0,none⟩)∧vs.length=ks.length∧Ke w (Own M (EH h) blk) g ty ks vs:=by
 obtain⟨U,_⟩:=sn hy hyp;have X:=hI.ev p;rw[hp]at X;obtain⟨g,hg,hu⟩:=X.2 _ U rfl;have O:=hI.rowIs U hg;unfold dN at O;simp only at O;rcases O with⟨aa,ab,Y,k2,_,k4⟩|⟨Y,_⟩
 ·simp only[af1,D.mpc.injEq,and_true]at Y;obtain⟨rfl,rfl⟩:=Y;exact⟨g,hg,hu,k2,k4 Z⟩
 ·have:=Y _ (af0.2 rfl);cases this
theorem Rq {y v ty ty':Nat} {ks U:List ch} {vs X:List D} {fz lst fz' O:Bool} (Z:h y=some ⟨v,ty,[.mpc ks vs],fz,lst,true⟩) (hyp:y<PK):EH (bI h y (some ⟨v,ty',[.mpc U X],fz',O,true⟩))=bI (EH h) y (some ⟨v,ty',[.mpc U X],fz',O,true⟩):=by
 obtain⟨_,m2⟩:=sn Z hyp;have Y:bI h y (some (⟨v,ty',[.mpc U X],fz',O,true⟩:Row)) y=some ⟨v,ty',[.mpc U X],fz',O,true⟩:=an _ _ _;obtain⟨m3,m4⟩:=sn Y hyp;funext z
 by_cases hz:rt z=y
 ·rcases nh hz with rfl|⟨o',rfl⟩
  ·rw[an,m3]
  ·rw[aq _ _ (by have:=eL y o';have:=cm;omega),m4,m2]
 ·rw[aq _ _ (fun e=>hz (by rw[e,gH (by have:=cm;omega)]))];exact dS (by rw[aq _ _ hz])
theorem Un (hI:Inv N M L w0 blk V t (EH h) a w) {y v ty:Nat} {p:Operand} {ks:List ch} {vs:List D} {lst:Bool} (ho:o.op=.next p false) (hp:ev t p=.ptr y v 0) (hy:h y=some ⟨v,ty,[.mpc ks vs],false,lst,true⟩) (aF:900000<=ty) (hyp:y<PK) :
  dR P o a w fun v' w'=>(ks.drop (ty-900000)=[]∧iL N M L w0 V t h a e o.dst ⟨.tup [.bool false],[]⟩ v' w') ∨
   ∃(j:Nat) (k:ch) (x:D),(ks.drop (ty-900000))[j]? = some k∧(vs.drop (ty-900000))[j]? = some x∧iL N M L w0 V t h a e o.dst ⟨.tup [.bool true,Xw k,x],[(y,some ⟨v,900001,[.mpc (k::(ks.drop (ty-900000)).eraseIdx j) (x::(vs.drop (ty-900000)).eraseIdx j)],false,lst,true⟩)]⟩ v' w':=by
 obtain⟨g,hg,an,hlen,az,b,ents,clock,seen,c,l,us,h1,h2,h3,h4,ao,k1,k2,k3,k4,k5,k6,k7,k8⟩:=hI.iter hp hy aF hyp;rw[az,agc]at an;obtain⟨ar,_⟩:=sn hy hyp;rw[<- k1];have ad:(ks.drop c.length).length=l.length:=by rw[afX,<- k3,agP];omega
 have aH:(vs.drop c.length).length=l.length:=by rw[afX,hlen,<- k3,agP];omega
 rcases run_next_at (P:=P) w o.type g.1 b clock clock seen ents clock h1 h4 ao.1 (afD _) with⟨aI,Y⟩|⟨U,aJ,w1,aK,Y⟩
 ·refine aG (v := .tuple #[.bool false]) (w':=w) (by simp[execOp,ho,an,Y]) (.inl ⟨?_,?_⟩)
  ·have aL:l=[]:=by
    refine List.eq_nil_iff_forall_not_mem.2 fun i hi =>?_;obtain⟨e1,Z,q2⟩:=(k5 i).1 hi;have:e1∈(leftOf ents seen).toList:=by
     unfold leftOf;simp only[Array.toList_filter,ahj];exact⟨by simpa using agx Z,by rw[q2];rfl⟩
    have h0:(leftOf ents seen).toList.length=0:=by simpa using aI
    rw[agY h0]at this;cases this
   rw[aL]at ad;exact agY ad
  ·refine a8.dG (h:=EH h) hI (bs (.tup _ [_] rfl fun j x hj =>?_))
   match j,hj with
   | 0,hj=>simp only[List.getElem?_cons_zero,afM]at hj;subst hj;exact .bool _
   | j+1,hj=>simp at hj
 ·obtain⟨m1,m2⟩:=mem_left aJ;obtain⟨i,hi⟩:=afZ m1;rw[agw]at hi;have aM:i∈l:=(k5 i).2 ⟨U,hi,m2⟩;obtain⟨j,hj⟩:∃j,j=l.idxOf i:=⟨_,rfl⟩;have aN:j<l.length:=by rw[hj];exact agO aM
  have aO:l[j]? = some i:=by rw[afQ aN];simp[hj]
  have aA:l.erase i=l.eraseIdx j:=List.erase_eq_eraseIdx_of_idxOf hj.symm;have ae:(ks.drop c.length)[j]? = some ((ks.drop c.length)[j]'(by omega)):=afQ _;have ag:(vs.drop c.length)[j]? = some ((vs.drop c.length)[j]'(by omega)):=afQ _;generalize (ks.drop c.length)[j]'(by omega)=k at ae;generalize (vs.drop c.length)[j]'(by omega)=x at ag;have aB:∀n:Nat,(c++l)[c.length+n]? = l[n]?:=fun n=>by rw[agj (by omega)];congr 1;omega
  have aa:U.key=jZ k∧U.val=us (c.length+j):=by
   rw[afU]at ae;obtain⟨i',e',Z,q2,q3,q4⟩:=k7 _ _ ae;rw[aB,aO]at Z;cases Z;rw[hi]at q2;cases q2;exact⟨q3,q4⟩
  have ai:RP w (Own M (EH h) blk) x (us (c.length+j)):=by
   rw[afU]at ag;exact k8 _ _ ag
  have aC:w1.heap=w.heap∧w1.os=w.os∧w1.tape=w.tape∧w1.output=w.output:=by rcases aK with rfl|rfl<;>exact⟨rfl,rfl,rfl,rfl⟩
  obtain⟨p1,p2,p3,p4⟩:=aC;generalize ah:ChangeMaps.setBlock w1 g.1 (.mapIter (some b) clock (seen.push U.born) clock)=w' at Y;have aD:g.1<w.heap.size:=(afH.1 h1).1;have au:w'.heap=w.heap.setIfInBounds g.1 (.mapIter (some b) clock (seen.push U.born) clock):=by rw[<- ah,<- p1];rfl
  have av:w'.heap.size=w.heap.size:=by rw[au];simp
  have aj:w'.heap[g.1]? = some (.mapIter (some b) clock (seen.push U.born) clock):=by rw[au,Array.getElem?_setIfInBounds,if_pos rfl,if_pos aD]
  have hheap:∀b',b'≠g.1->w'.heap[b']? = w.heap[b']?:=fun b' hb=>by rw[au,Array.getElem?_setIfInBounds,if_neg (Ne.symm hb)]
  have ak:Own M (EH h) blk g.1 := .inr ⟨y,_,g,ar,rfl,hg,rfl⟩;have aP:b≠g.1:=fun e=>h3 (e ▸ ak);have aw:∀ {d:D} {u:Value},RP w (Own M (EH h) blk) d u->RP w' (Own M (EH h) blk) d u:=fun hr=>hr.keep fun b Z q2=>⟨by rw[av];exact Z,q2,hheap b (fun e=>q2 (e ▸ ak))⟩;have al:∀ {n:Nat} {e':MapEntry},ents[n]? = some e'->(e'.born==U.born)=decide (n=i):=by
   intro n e' O
   by_cases ax:n=i
   ·subst ax;rw[hi]at O;cases O;simp
   ·have:e'.born≠U.born:=by
     intro he;have aQ:=ao.2.1;have a1:(ents.toList.map (·.born))[n]? = some e'.born:=by simp[O]
     have a2:(ents.toList.map (·.born))[i]? = some U.born:=by simp[hi]
     have aR:=(af6.1 a1).1;have aS:=(af6.1 a2).1;exact ax ((List.getElem_inj (h₀:=aR) (h₁:=aS) aQ).1 (by
      have b1:=(af6.1 a1).2;have b2:=(af6.1 a2).2;rw[b1,b2,he]))
    simp[ax,this]
  have hB:=hI.jj (x:=y) (r:=⟨v,ty,[.mpc ks vs],false,lst,true⟩) (r0:=⟨v,900001,[.mpc (k::(ks.drop c.length).eraseIdx j) (x::(vs.drop c.length).eraseIdx j)],false,lst,true⟩) (w':=w') ar rfl rfl
   (by rw[<- ah];exact p2) (by rw[<- ah];exact p3) (by rw[<- ah];exact p4) (by rw[av];exact afD _) (fun b' _ hb=>hheap b' (hb g hg)) (by
   rw[hg];refine⟨by simp[World.shape?,aj,h1],.inl ⟨_,_,rfl,?_,fun q=>absurd q (by show ¬(900001<900000);omega),fun _=>⟨az,b,ents,clock,seen.push U.born,[i],l.eraseIdx j,fun m=>if m=0 then U.val else us (c.length+(if m-1<j then m-1 else m)),aj,by rw[av];exact h2,h3,(hheap b aP).trans h4,ao,(ag3 (n:=900000) (m:=1)).symm,afD _,?_,?_,fun n =>?_,fun n O =>?_,fun m k' hm =>?_,fun m x' hm =>?_⟩⟩⟩
   ·simp only[List.length_cons,List.length_eraseIdx];rw[ad,aH]
   ·simp only[agP,List.length_cons,List.length_nil,List.length_eraseIdx];rw[ad];split<;>omega
   ·rw[<- aA];exact k4.erase _
   ·rw[<- aA,k4.mem_erase_iff,k5];constructor
    ·rintro⟨Z,e',q2,q3⟩;exact⟨e',q2,by rw[contains_push,q3,al q2];simpa using Z⟩
    ·rintro⟨e',q2,q3⟩;rw[contains_push,al q2,Bool.or_eq_false_iff,decide_eq_false_iff_not]at q3;exact⟨q3.2,e',q2,q3.1⟩
   ·simp only[af0]at O;subst O;exact⟨U,hi,by simp⟩
   ·cases m with
    | zero =>
     simp only[List.getElem?_cons_zero,afM]at hm;subst hm;exact⟨i,U,rfl,hi,aa.1,by simp⟩
    | succ m =>
     rw[agN,List.getElem?_eraseIdx]at hm;have ab:(ks.drop c.length)[if m<j then m else m+1]? = some k':=by
      by_cases X:m<j
      ·rw[if_pos X]at hm ⊢;exact hm
      ·rw[if_neg X]at hm ⊢;exact hm
     rw[afU]at ab;obtain⟨i',e',Z,q2,q3,q4⟩:=k7 _ _ ab;rw[aB]at Z;refine⟨i',e',?_,q2,q3,?_⟩
     ·rw[List.singleton_append,agN,List.getElem?_eraseIdx]
      by_cases X:m<j
      ·rw[if_pos X]at Z ⊢;exact Z
      ·rw[if_neg X]at Z ⊢;exact Z
     ·simp only[Nat.add_eq_zero_iff,ahH,and_false,if_false,ahu];exact q4
   ·cases m with
    | zero =>
     simp only[List.getElem?_cons_zero,afM]at hm;subst hm;simp only[if_true];rw[aa.2];exact aw ai
    | succ m =>
     rw[agN,List.getElem?_eraseIdx]at hm;have ab:(vs.drop c.length)[if m<j then m else m+1]? = some x':=by
      by_cases X:m<j
      ·rw[if_pos X]at hm ⊢;exact hm
      ·rw[if_neg X]at hm ⊢;exact hm
     rw[afU]at ab;simp only[Nat.add_eq_zero_iff,ahH,and_false,if_false,ahu];exact aw (k8 _ _ ab)) (fun hh=>by cases hh) (fun _ g' ay j' x' s' n' aT=>by cases j'<;>simp at aT)
  refine aG (v := .tuple #[.bool true,U.key,U.val]) (w':=w') (by simp[execOp,ho,an,Y]) (.inr ⟨j,k,x,ae,ag,blk,?_,?_⟩)
  ·show Inv _ _ _ _ _ _ _ (EH (bI h y (some _))) _ _;rw[Rq hy hyp];exact hB.weaken fun _ _ h =>.inl h
  ·have hle:∀b',Own M (EH (bI h y (some ⟨v,900001,[.mpc (k::(ks.drop c.length).eraseIdx j) (x::(vs.drop c.length).eraseIdx j)],false,lst,true⟩))) blk b'->Own M (EH h) blk b':=by
    rw[Rq hy hyp];rintro b' (hb|⟨z,r',g',hz,aU,ay,he⟩)
    ·exact .inl hb
    ·by_cases aE:z=y
     ·subst aE;exact .inr ⟨z,_,g',ar,rfl,ay,he⟩
     ·rw[aq _ _ aE]at hz;exact .inr ⟨z,r',g',hz,aU,ay,he⟩
   refine bs (.tup _ [.bool true,U.key,U.val] rfl fun n d O =>?_)
   match n,O with
   | 0,O=>simp only[List.getElem?_cons_zero,afM]at O;subst O;exact .bool _
   | 1,O =>
    simp only[List.getElem?_cons_succ,List.getElem?_cons_zero,afM]at O;subst O;simp only[agL,agK];rw[aa.1];exact MH k
   | 2,O =>
    simp only[List.getElem?_cons_succ,List.getElem?_cons_zero,afM]at O;subst O;simp only[agL,agK];rw[aa.2];exact (aw ai).less hle
   | n+3,O=>simp at O
theorem Pw (hI:Inv N M L w0 blk V t (EH h) a w) {y v:Nat} {p:Operand} {k:ch} {x:D} {ks:List ch} {vs:List D} {lst:Bool} (ho:o.op=.entry p) (hp:ev t p=.ptr y v 0) (hy:h y=some ⟨v,900001,[.mpc (k::ks) (x::vs)],false,lst,true⟩) (hyp:y<PK) :
  dR P o a w (iL N M L w0 V t h a e o.dst ⟨.tup [Xw k,x],[]⟩):=by
 obtain⟨g,hg,U,hlen,Z,b,ents,clock,seen,c,l,us,h1,h2,h3,h4,aa,k1,k2,k3,k4,k5,k6,k7,k8⟩:=hI.iter hp hy (by omega) hyp;rw[Z,agc]at U;have ab:c.length=1:=by rw[k1]
 match c,ab with
 | [i],_ =>
  obtain⟨X,q1,q2⟩:=k6 i (by simp);obtain⟨i',e',r1,r2,r3,r4⟩:=k7 0 k rfl;simp only[List.singleton_append,List.getElem?_cons_zero,afM]at r1;subst r1;rw[q1]at r2;cases r2;obtain⟨s0,ad⟩:=Array.back?_eq_some_iff.1 q2;rw[ad]at h1;have Y:=run_entry_at (P:=P) w g.1 b clock s0 ents clock X h1 h4 (by simpa using agx q1) aa.2.1;refine aG (v := .tuple #[X.key,X.val]) (w':=w) (by simp[execOp,ho,U,Y]) (a8.dG (h:=EH h) hI (bs (.tup _ [X.key,X.val] rfl fun n d O =>?_)))
  match n,O with
  | 0,O =>
   simp only[List.getElem?_cons_zero,afM]at O;subst O;simp only[agK];rw[r3];exact MH k
  | 1,O =>
   simp only[List.getElem?_cons_succ,List.getElem?_cons_zero,afM]at O;subst O;simp only[agL,agK];rw[r4];exact k8 0 x rfl
  | n+2,O=>simp at O
end
def tab (t:Nat):Option Ty :=
 match t with
 | 2=>some ⟨.int .i64,1,8,[.int .i64 0],false⟩
 | 3=>some ⟨.int .i64,1,8,[.int .i64 0],false⟩
 | 4=>some ⟨.bool,1,1,[.bool false],false⟩
 | 5=>some ⟨.int .u8,1,1,[.int .u8 0],false⟩
 | 9=>some ⟨.str,1,16,[.string ⟨#[]⟩],false⟩
 | 12=>some ⟨.int .u64,1,8,[.int .u64 0],false⟩
 | 21=>some ⟨.int .i32,1,4,[.int .i32 0],false⟩
 | 22=>some ⟨.slice 3,1,24,[.slice none 0 0],false⟩
 | 23=>some ⟨.slice 55,1,24,[.slice none 0 0],false⟩
 | 24=>some ⟨.struct [(22,0),(23,1)],2,48,[.slice none 0 0,.slice none 0 0],false⟩
 | 25=>some ⟨.struct [(22,0),(23,1)],2,48,[.slice none 0 0,.slice none 0 0],false⟩
 | 26=>some ⟨.slice 65,1,24,[.slice none 0 0],false⟩
 | 27=>some ⟨.struct [(3,0),(26,1)],2,32,[.int .i64 0,.slice none 0 0],false⟩
 | 28=>some ⟨.struct [(3,0),(26,1)],2,32,[.int .i64 0,.slice none 0 0],false⟩
 | 32=>some ⟨.int .i64,1,8,[.int .i64 0],false⟩
 | 39=>some ⟨.struct [(3,0),(22,1)],2,32,[.int .i64 0,.slice none 0 0],false⟩
 | 40=>some ⟨.struct [(3,0),(22,1)],2,32,[.int .i64 0,.slice none 0 0],false⟩
 | 41=>some ⟨.struct [(40,0),(40,2)],4,64,[.int .i64 0,.slice none 0 0,.int .i64 0,.slice none 0 0],false⟩
 | 42=>some ⟨.struct [(40,0),(40,2)],4,64,[.int .i64 0,.slice none 0 0,.int .i64 0,.slice none 0 0],false⟩
 | 48=>some ⟨.slice 95,1,24,[.slice none 0 0],false⟩
 | 49=>some ⟨.slice 97,1,24,[.slice none 0 0],false⟩
 | 50=>some ⟨.slice 85,1,24,[.slice none 0 0],false⟩
 | 51=>some ⟨.struct [(48,0),(49,1),(50,2)],3,72,[.slice none 0 0,.slice none 0 0,.slice none 0 0],false⟩
 | 52=>some ⟨.struct [(48,0),(49,1),(50,2)],3,72,[.slice none 0 0,.slice none 0 0,.slice none 0 0],false⟩
 | 53=>some ⟨.slice 57,1,24,[.slice none 0 0],false⟩
 | 54=>some ⟨.struct [(52,0),(53,3),(22,4)],5,120,[.slice none 0 0,.slice none 0 0,.slice none 0 0,.slice none 0 0,.slice none 0 0],false⟩
 | 55=>some ⟨.struct [(52,0),(53,3),(22,4)],5,120,[.slice none 0 0,.slice none 0 0,.slice none 0 0,.slice none 0 0,.slice none 0 0],false⟩
 | 56=>some ⟨.struct [(3,0),(3,1)],2,16,[.int .i64 0,.int .i64 0],true⟩
 | 57=>some ⟨.struct [(3,0),(3,1)],2,16,[.int .i64 0,.int .i64 0],true⟩
 | 62=>some ⟨.int .u16,1,2,[.int .u16 0],false⟩
 | 64=>some ⟨.struct [(3,0),(3,1),(42,2)],6,80,[.int .i64 0,.int .i64 0,.int .i64 0,.slice none 0 0,.int .i64 0,.slice none 0 0],false⟩
 | 65=>some ⟨.struct [(3,0),(3,1),(42,2)],6,80,[.int .i64 0,.int .i64 0,.int .i64 0,.slice none 0 0,.int .i64 0,.slice none 0 0],false⟩
 | 74=>some ⟨.map 77 42,1,8,[.map none],false⟩
 | 76=>some ⟨.struct [(3,0),(3,1)],2,16,[.int .i64 0,.int .i64 0],true⟩
 | 77=>some ⟨.struct [(3,0),(3,1)],2,16,[.int .i64 0,.int .i64 0],true⟩
 | 85=>some ⟨.slice 42,1,24,[.slice none 0 0],false⟩
 | 88=>some ⟨.slice 22,1,24,[.slice none 0 0],false⟩
 | 94=>some ⟨.struct [(3,0),(3,1),(3,2)],3,24,[.int .i64 0,.int .i64 0,.int .i64 0],true⟩
 | 95=>some ⟨.struct [(3,0),(3,1),(3,2)],3,24,[.int .i64 0,.int .i64 0,.int .i64 0],true⟩
 | 96=>some ⟨.struct [(3,0),(3,1),(3,2),(9,3)],4,40,[.int .i64 0,.int .i64 0,.int .i64 0,.string ⟨#[]⟩],true⟩
 | 97=>some ⟨.struct [(3,0),(3,1),(3,2),(9,3)],4,40,[.int .i64 0,.int .i64 0,.int .i64 0,.string ⟨#[]⟩],true⟩
 | 109=>some ⟨.int .u64,1,8,[.int .u64 0],false⟩
 | 130=>some ⟨.int .i64,1,8,[.int .i64 0],false⟩
 | 138=>some ⟨.int .u32,1,4,[.int .u32 0],false⟩
 | 140=>some ⟨.int .u64,1,8,[.int .u64 0],false⟩
 | 146=>some ⟨.int .u64,1,8,[.int .u64 0],false⟩
 | _=>none
theorem abu:tab 2=some ⟨.int .i64,1,8,[.int .i64 0],false⟩:=rfl
theorem TR:tab 3=some ⟨.int .i64,1,8,[.int .i64 0],false⟩:=rfl
theorem abv:tab 4=some ⟨.bool,1,1,[.bool false],false⟩:=rfl
theorem YG:tab 5=some ⟨.int .u8,1,1,[.int .u8 0],false⟩:=rfl
theorem YR:tab 9=some ⟨.str,1,16,[.string ⟨#[]⟩],false⟩:=rfl
theorem Yx:tab 12=some ⟨.int .u64,1,8,[.int .u64 0],false⟩:=rfl
theorem Yy:tab 21=some ⟨.int .i32,1,4,[.int .i32 0],false⟩:=rfl
theorem JT:tab 22=some ⟨.slice 3,1,24,[.slice none 0 0],false⟩:=rfl
theorem QN:tab 23=some ⟨.slice 55,1,24,[.slice none 0 0],false⟩:=rfl
theorem Yz:tab 24=some ⟨.struct [(22,0),(23,1)],2,48,[.slice none 0 0,.slice none 0 0],false⟩:=rfl
theorem JU:tab 25=some ⟨.struct [(22,0),(23,1)],2,48,[.slice none 0 0,.slice none 0 0],false⟩:=rfl
theorem YA:tab 26=some ⟨.slice 65,1,24,[.slice none 0 0],false⟩:=rfl
theorem YB:tab 27=some ⟨.struct [(3,0),(26,1)],2,32,[.int .i64 0,.slice none 0 0],false⟩:=rfl
theorem YC:tab 28=some ⟨.struct [(3,0),(26,1)],2,32,[.int .i64 0,.slice none 0 0],false⟩:=rfl
theorem YD:tab 32=some ⟨.int .i64,1,8,[.int .i64 0],false⟩:=rfl
theorem YE:tab 39=some ⟨.struct [(3,0),(22,1)],2,32,[.int .i64 0,.slice none 0 0],false⟩:=rfl
theorem QO:tab 40=some ⟨.struct [(3,0),(22,1)],2,32,[.int .i64 0,.slice none 0 0],false⟩:=rfl
theorem YF:tab 41=some ⟨.struct [(40,0),(40,2)],4,64,[.int .i64 0,.slice none 0 0,.int .i64 0,.slice none 0 0],false⟩:=rfl
theorem JV:tab 42=some ⟨.struct [(40,0),(40,2)],4,64,[.int .i64 0,.slice none 0 0,.int .i64 0,.slice none 0 0],false⟩:=rfl
theorem QP:tab 48=some ⟨.slice 95,1,24,[.slice none 0 0],false⟩:=rfl
theorem QQ:tab 49=some ⟨.slice 97,1,24,[.slice none 0 0],false⟩:=rfl
theorem QR:tab 50=some ⟨.slice 85,1,24,[.slice none 0 0],false⟩:=rfl
theorem YH:tab 51=some ⟨.struct [(48,0),(49,1),(50,2)],3,72,[.slice none 0 0,.slice none 0 0,.slice none 0 0],false⟩:=rfl
theorem QS:tab 52=some ⟨.struct [(48,0),(49,1),(50,2)],3,72,[.slice none 0 0,.slice none 0 0,.slice none 0 0],false⟩:=rfl
theorem QT:tab 53=some ⟨.slice 57,1,24,[.slice none 0 0],false⟩:=rfl
theorem YI:tab 54=some ⟨.struct [(52,0),(53,3),(22,4)],5,120,[.slice none 0 0,.slice none 0 0,.slice none 0 0,.slice none 0 0,.slice none 0 0],false⟩:=rfl
theorem JW:tab 55=some ⟨.struct [(52,0),(53,3),(22,4)],5,120,[.slice none 0 0,.slice none 0 0,.slice none 0 0,.slice none 0 0,.slice none 0 0],false⟩:=rfl
theorem YJ:tab 56=some ⟨.struct [(3,0),(3,1)],2,16,[.int .i64 0,.int .i64 0],true⟩:=rfl
theorem JX:tab 57=some ⟨.struct [(3,0),(3,1)],2,16,[.int .i64 0,.int .i64 0],true⟩:=rfl
theorem YK:tab 62=some ⟨.int .u16,1,2,[.int .u16 0],false⟩:=rfl
theorem YL:tab 64=some ⟨.struct [(3,0),(3,1),(42,2)],6,80,[.int .i64 0,.int .i64 0,.int .i64 0,.slice none 0 0,.int .i64 0,.slice none 0 0],false⟩:=rfl
theorem YM:tab 65=some ⟨.struct [(3,0),(3,1),(42,2)],6,80,[.int .i64 0,.int .i64 0,.int .i64 0,.slice none 0 0,.int .i64 0,.slice none 0 0],false⟩:=rfl
theorem YN:tab 74=some ⟨.map 77 42,1,8,[.map none],false⟩:=rfl
theorem YO:tab 76=some ⟨.struct [(3,0),(3,1)],2,16,[.int .i64 0,.int .i64 0],true⟩:=rfl
theorem YP:tab 77=some ⟨.struct [(3,0),(3,1)],2,16,[.int .i64 0,.int .i64 0],true⟩:=rfl
theorem JY:tab 85=some ⟨.slice 42,1,24,[.slice none 0 0],false⟩:=rfl
theorem YQ:tab 88=some ⟨.slice 22,1,24,[.slice none 0 0],false⟩:=rfl
theorem YS:tab 94=some ⟨.struct [(3,0),(3,1),(3,2)],3,24,[.int .i64 0,.int .i64 0,.int .i64 0],true⟩:=rfl
theorem JZ:tab 95=some ⟨.struct [(3,0),(3,1),(3,2)],3,24,[.int .i64 0,.int .i64 0,.int .i64 0],true⟩:=rfl
theorem YT:tab 96=some ⟨.struct [(3,0),(3,1),(3,2),(9,3)],4,40,[.int .i64 0,.int .i64 0,.int .i64 0,.string ⟨#[]⟩],true⟩:=rfl
theorem J0:tab 97=some ⟨.struct [(3,0),(3,1),(3,2),(9,3)],4,40,[.int .i64 0,.int .i64 0,.int .i64 0,.string ⟨#[]⟩],true⟩:=rfl
theorem TM:tab 109=some ⟨.int .u64,1,8,[.int .u64 0],false⟩:=rfl
theorem TN:tab 130=some ⟨.int .i64,1,8,[.int .i64 0],false⟩:=rfl
theorem TO:tab 138=some ⟨.int .u32,1,4,[.int .u32 0],false⟩:=rfl
theorem TP:tab 140=some ⟨.int .u64,1,8,[.int .u64 0],false⟩:=rfl
theorem TQ:tab 146=some ⟨.int .u64,1,8,[.int .u64 0],false⟩:=rfl
theorem ae1:eH prog 2 ⟨.int .i64,1,8,[.int .i64 0],false⟩:=⟨by kernel_rfl,by kernel_rfl,by kernel_rfl,fun h=>by cases h⟩
theorem ae2:eH prog 3 ⟨.int .i64,1,8,[.int .i64 0],false⟩:=⟨by kernel_rfl,by kernel_rfl,by kernel_rfl,fun h=>by cases h⟩
theorem ae3:eH prog 4 ⟨.bool,1,1,[.bool false],false⟩:=⟨by kernel_rfl,by kernel_rfl,by kernel_rfl,fun h=>by cases h⟩
theorem ae4:eH prog 5 ⟨.int .u8,1,1,[.int .u8 0],false⟩:=⟨by kernel_rfl,by kernel_rfl,by kernel_rfl,fun h=>by cases h⟩
theorem ae5:eH prog 9 ⟨.str,1,16,[.string ⟨#[]⟩],false⟩:=⟨by kernel_rfl,by kernel_rfl,by kernel_rfl,fun h=>by cases h⟩
theorem adG:eH prog 12 ⟨.int .u64,1,8,[.int .u64 0],false⟩:=⟨by kernel_rfl,by kernel_rfl,by kernel_rfl,fun h=>by cases h⟩
theorem adH:eH prog 21 ⟨.int .i32,1,4,[.int .i32 0],false⟩:=⟨by kernel_rfl,by kernel_rfl,by kernel_rfl,fun h=>by cases h⟩
theorem adI:eH prog 22 ⟨.slice 3,1,24,[.slice none 0 0],false⟩:=⟨by kernel_rfl,by kernel_rfl,by kernel_rfl,fun h=>by cases h⟩
theorem adJ:eH prog 23 ⟨.slice 55,1,24,[.slice none 0 0],false⟩:=⟨by kernel_rfl,by kernel_rfl,by kernel_rfl,fun h=>by cases h⟩
theorem adK:eH prog 24 ⟨.struct [(22,0),(23,1)],2,48,[.slice none 0 0,.slice none 0 0],false⟩:=⟨by kernel_rfl,by kernel_rfl,by kernel_rfl,fun h=>by cases h⟩
theorem adL:eH prog 25 ⟨.struct [(22,0),(23,1)],2,48,[.slice none 0 0,.slice none 0 0],false⟩:=⟨by kernel_rfl,by kernel_rfl,by kernel_rfl,fun h=>by cases h⟩
theorem adM:eH prog 26 ⟨.slice 65,1,24,[.slice none 0 0],false⟩:=⟨by kernel_rfl,by kernel_rfl,by kernel_rfl,fun h=>by cases h⟩
theorem adN:eH prog 27 ⟨.struct [(3,0),(26,1)],2,32,[.int .i64 0,.slice none 0 0],false⟩:=⟨by kernel_rfl,by kernel_rfl,by kernel_rfl,fun h=>by cases h⟩
theorem adO:eH prog 28 ⟨.struct [(3,0),(26,1)],2,32,[.int .i64 0,.slice none 0 0],false⟩:=⟨by kernel_rfl,by kernel_rfl,by kernel_rfl,fun h=>by cases h⟩
theorem adP:eH prog 32 ⟨.int .i64,1,8,[.int .i64 0],false⟩:=⟨by kernel_rfl,by kernel_rfl,by kernel_rfl,fun h=>by cases h⟩
theorem adQ:eH prog 39 ⟨.struct [(3,0),(22,1)],2,32,[.int .i64 0,.slice none 0 0],false⟩:=⟨by kernel_rfl,by kernel_rfl,by kernel_rfl,fun h=>by cases h⟩
theorem adR:eH prog 40 ⟨.struct [(3,0),(22,1)],2,32,[.int .i64 0,.slice none 0 0],false⟩:=⟨by kernel_rfl,by kernel_rfl,by kernel_rfl,fun h=>by cases h⟩
theorem adS:eH prog 41 ⟨.struct [(40,0),(40,2)],4,64,[.int .i64 0,.slice none 0 0,.int .i64 0,.slice none 0 0],false⟩:=⟨by kernel_rfl,by kernel_rfl,by kernel_rfl,fun h=>by cases h⟩
theorem adT:eH prog 42 ⟨.struct [(40,0),(40,2)],4,64,[.int .i64 0,.slice none 0 0,.int .i64 0,.slice none 0 0],false⟩:=⟨by kernel_rfl,by kernel_rfl,by kernel_rfl,fun h=>by cases h⟩
theorem adU:eH prog 48 ⟨.slice 95,1,24,[.slice none 0 0],false⟩:=⟨by kernel_rfl,by kernel_rfl,by kernel_rfl,fun h=>by cases h⟩
theorem adV:eH prog 49 ⟨.slice 97,1,24,[.slice none 0 0],false⟩:=⟨by kernel_rfl,by kernel_rfl,by kernel_rfl,fun h=>by cases h⟩
theorem adW:eH prog 50 ⟨.slice 85,1,24,[.slice none 0 0],false⟩:=⟨by kernel_rfl,by kernel_rfl,by kernel_rfl,fun h=>by cases h⟩
theorem adX:eH prog 51 ⟨.struct [(48,0),(49,1),(50,2)],3,72,[.slice none 0 0,.slice none 0 0,.slice none 0 0],false⟩:=⟨by kernel_rfl,by kernel_rfl,by kernel_rfl,fun h=>by cases h⟩
theorem adY:eH prog 52 ⟨.struct [(48,0),(49,1),(50,2)],3,72,[.slice none 0 0,.slice none 0 0,.slice none 0 0],false⟩:=⟨by kernel_rfl,by kernel_rfl,by kernel_rfl,fun h=>by cases h⟩
theorem adZ:eH prog 53 ⟨.slice 57,1,24,[.slice none 0 0],false⟩:=⟨by kernel_rfl,by kernel_rfl,by kernel_rfl,fun h=>by cases h⟩
theorem ad0:eH prog 54 ⟨.struct [(52,0),(53,3),(22,4)],5,120,[.slice none 0 0,.slice none 0 0,.slice none 0 0,.slice none 0 0,.slice none 0 0],false⟩:=⟨by kernel_rfl,by kernel_rfl,by kernel_rfl,fun h=>by cases h⟩
theorem ad1:eH prog 55 ⟨.struct [(52,0),(53,3),(22,4)],5,120,[.slice none 0 0,.slice none 0 0,.slice none 0 0,.slice none 0 0,.slice none 0 0],false⟩:=⟨by kernel_rfl,by kernel_rfl,by kernel_rfl,fun h=>by cases h⟩
theorem ad2:eH prog 56 ⟨.struct [(3,0),(3,1)],2,16,[.int .i64 0,.int .i64 0],true⟩:=⟨by kernel_rfl,by kernel_rfl,by kernel_rfl,fun _=>⟨by kernel_rfl,by kernel_rfl,by kernel_rfl⟩⟩
theorem ad3:eH prog 57 ⟨.struct [(3,0),(3,1)],2,16,[.int .i64 0,.int .i64 0],true⟩:=⟨by kernel_rfl,by kernel_rfl,by kernel_rfl,fun _=>⟨by kernel_rfl,by kernel_rfl,by kernel_rfl⟩⟩
theorem ad4:eH prog 62 ⟨.int .u16,1,2,[.int .u16 0],false⟩:=⟨by kernel_rfl,by kernel_rfl,by kernel_rfl,fun h=>by cases h⟩
theorem ad5:eH prog 64 ⟨.struct [(3,0),(3,1),(42,2)],6,80,[.int .i64 0,.int .i64 0,.int .i64 0,.slice none 0 0,.int .i64 0,.slice none 0 0],false⟩:=⟨by kernel_rfl,by kernel_rfl,by kernel_rfl,fun h=>by cases h⟩
theorem ad6:eH prog 65 ⟨.struct [(3,0),(3,1),(42,2)],6,80,[.int .i64 0,.int .i64 0,.int .i64 0,.slice none 0 0,.int .i64 0,.slice none 0 0],false⟩:=⟨by kernel_rfl,by kernel_rfl,by kernel_rfl,fun h=>by cases h⟩
theorem ad7:eH prog 74 ⟨.map 77 42,1,8,[.map none],false⟩:=⟨by kernel_rfl,by kernel_rfl,by kernel_rfl,fun h=>by cases h⟩
theorem ad8:eH prog 76 ⟨.struct [(3,0),(3,1)],2,16,[.int .i64 0,.int .i64 0],true⟩:=⟨by kernel_rfl,by kernel_rfl,by kernel_rfl,fun _=>⟨by kernel_rfl,by kernel_rfl,by kernel_rfl⟩⟩
theorem ad9:eH prog 77 ⟨.struct [(3,0),(3,1)],2,16,[.int .i64 0,.int .i64 0],true⟩:=⟨by kernel_rfl,by kernel_rfl,by kernel_rfl,fun _=>⟨by kernel_rfl,by kernel_rfl,by kernel_rfl⟩⟩
theorem aea:eH prog 85 ⟨.slice 42,1,24,[.slice none 0 0],false⟩:=⟨by kernel_rfl,by kernel_rfl,by kernel_rfl,fun h=>by cases h⟩
theorem aeb:eH prog 88 ⟨.slice 22,1,24,[.slice none 0 0],false⟩:=⟨by kernel_rfl,by kernel_rfl,by kernel_rfl,fun h=>by cases h⟩
theorem aec:eH prog 94 ⟨.struct [(3,0),(3,1),(3,2)],3,24,[.int .i64 0,.int .i64 0,.int .i64 0],true⟩:=⟨by kernel_rfl,by kernel_rfl,by kernel_rfl,fun _=>⟨by kernel_rfl,by kernel_rfl,by kernel_rfl⟩⟩
theorem aed:eH prog 95 ⟨.struct [(3,0),(3,1),(3,2)],3,24,[.int .i64 0,.int .i64 0,.int .i64 0],true⟩:=⟨by kernel_rfl,by kernel_rfl,by kernel_rfl,fun _=>⟨by kernel_rfl,by kernel_rfl,by kernel_rfl⟩⟩
theorem aee:eH prog 96 ⟨.struct [(3,0),(3,1),(3,2),(9,3)],4,40,[.int .i64 0,.int .i64 0,.int .i64 0,.string ⟨#[]⟩],true⟩:=⟨by kernel_rfl,by kernel_rfl,by kernel_rfl,fun _=>⟨by kernel_rfl,by kernel_rfl,by kernel_rfl⟩⟩
theorem aef:eH prog 97 ⟨.struct [(3,0),(3,1),(3,2),(9,3)],4,40,[.int .i64 0,.int .i64 0,.int .i64 0,.string ⟨#[]⟩],true⟩:=⟨by kernel_rfl,by kernel_rfl,by kernel_rfl,fun _=>⟨by kernel_rfl,by kernel_rfl,by kernel_rfl⟩⟩
theorem acr:eH prog 109 ⟨.int .u64,1,8,[.int .u64 0],false⟩:=⟨by kernel_rfl,by kernel_rfl,by kernel_rfl,fun h=>by cases h⟩
theorem acs:eH prog 130 ⟨.int .i64,1,8,[.int .i64 0],false⟩:=⟨by kernel_rfl,by kernel_rfl,by kernel_rfl,fun h=>by cases h⟩
theorem acu:eH prog 138 ⟨.int .u32,1,4,[.int .u32 0],false⟩:=⟨by kernel_rfl,by kernel_rfl,by kernel_rfl,fun h=>by cases h⟩
theorem acv:eH prog 140 ⟨.int .u64,1,8,[.int .u64 0],false⟩:=⟨by kernel_rfl,by kernel_rfl,by kernel_rfl,fun h=>by cases h⟩
theorem acw:eH prog 146 ⟨.int .u64,1,8,[.int .u64 0],false⟩:=⟨by kernel_rfl,by kernel_rfl,by kernel_rfl,fun h=>by cases h⟩
theorem tok:gW prog tab:=by
 intro t τ h;unfold tab at h;split at h
 ·cases h;exact ae1
 ·cases h;exact ae2
 ·cases h;exact ae3
 ·cases h;exact ae4
 ·cases h;exact ae5
 ·cases h;exact adG
 ·cases h;exact adH
 ·cases h;exact adI
 ·cases h;exact adJ
 ·cases h;exact adK
 ·cases h;exact adL
 ·cases h;exact adM
 ·cases h;exact adN
 ·cases h;exact adO
 ·cases h;exact adP
 ·cases h;exact adQ
 ·cases h;exact adR
 ·cases h;exact adS
 ·cases h;exact adT
 ·cases h;exact adU
 ·cases h;exact adV
 ·cases h;exact adW
 ·cases h;exact adX
 ·cases h;exact adY
 ·cases h;exact adZ
 ·cases h;exact ad0
 ·cases h;exact ad1
 ·cases h;exact ad2
 ·cases h;exact ad3
 ·cases h;exact ad4
 ·cases h;exact ad5
 ·cases h;exact ad6
 ·cases h;exact ad7
 ·cases h;exact ad8
 ·cases h;exact ad9
 ·cases h;exact aea
 ·cases h;exact aeb
 ·cases h;exact aec
 ·cases h;exact aed
 ·cases h;exact aee
 ·cases h;exact aef
 ·cases h;exact acr
 ·cases h;exact acs
 ·cases h;exact acu
 ·cases h;exact acv
 ·cases h;exact acw
 ·cases h
theorem mixed:Tryz.prog.follows .mixedOrders=true:=by kernel_rfl
def oP {α:Type} (x:Option α) (K:α->Prop):Prop :=
 match x with
 | some a=>K a
 | none=>False
def br (b:Bool) (A B:Prop):Prop:=(b=true->A)∧(b=false->B)
def Rk (d:D) (t:Nat->D) (g:Nat) (A B:(Nat->D)->Prop):Prop :=
 match d with
 | .bool b=>br b (A (bI t g (.bool b))) (B (bI t g (.bool b)))
 | _=>False
def wpS (d:D) (t:Nat->D) (g:Nat) (A B S:(Nat->D)->Prop):Prop :=
 match d with
 | .skp=>S t
 | d=>Rk d t g A B
theorem xU {t:Nat->D} {g:Nat} {b:Bool} {A B S:(Nat->D)->Prop} : wpS (.bool b) t g A B S=br b (A (bI t g (.bool b))) (B (bI t g (.bool b))):=rfl
def Zr (ops:List Oper) (t:Nat->D) (gd:Option (Nat×Bool)) (A B:(Nat->D)->Prop):Prop :=
 match gd with
 | none=>A t
 | some (j,want)=>oP ((ops[j]?).bind (·.dst)) fun g=>wpS (t g) t g (if want then A else B) (if want then B else A) B
def O4 (T:Nat->Option Ty) (Γ:Env) (e:Nat) (o:Oper) (t:Nat->D) (h:Nat->Option Row) (K:(Nat->D)->bB->Prop):Prop :=
 match o.op with
 | .pick (.tmp c) a b=>Rk (t c) t c (fun t=>K t ⟨ev t a,[]⟩) (fun t=>K t ⟨ev t b,[]⟩)
 | _=>oP (nK T Γ e o (ev t) h) (K t)
def Ek (T:Nat->Option Ty) (Γ:Env) (N e:Nat) (ops:List Oper):List Oper->(Nat->D)->(Nat->Option Row)->((Nat->D)->(Nat->Option Row)->Prop)->Prop
 | [],t,h,K=>K t h
 | o::l,t,h,K=>fits N o.dst=true∧Zr ops t o.guard (fun t=>O4 T Γ e o t h fun t E=>Ek T Γ N e ops l (eF t o.dst E.val) (aK h E.hw) K) (fun t=>Ek T Γ N e ops l (eF t o.dst .skp) h K)
def runK (T:Nat->Option Ty) (Γ:Env) (N e:Nat) (ops:List Oper):List Oper->(Nat->D)->(Nat->Option Row)->List jP->((Nat->D)->(Nat->Option Row)->List jP->Prop)->Prop
 | [],t,h,fs,K=>K t h fs
 | o::l,t,h,fs,K=>fits N o.dst=true∧Zr ops t o.guard (fun t=>O4 T Γ e o t h fun t E=>runK T Γ N e ops l (eF t o.dst E.val) (aK h E.hw) (fs++[⟨bm o (ev t),E.hw.isEmpty⟩]) K) (fun t=>runK T Γ N e ops l (eF t o.dst .skp) h (fs++[⟨[],true⟩]) K)
abbrev Kt:=Ex->(Nat->D)->(Nat->Option Row)->Nat->Prop
def adt (x:Ex) (A:Prop) (B:Prop):Prop :=
 match x with
 | .normal=>A
 | _=>B
def Wg (id:Nat) (x:Ex) (t:Nat->D) (h:Nat->Option Row) (e:Nat) (K:Kt):Prop :=
 match x with
 | .exit n=>if n=id then K .normal t h e else K (.exit n) t h e
 | x=>K x t h e
def wpR (T:Nat->Option Ty) (Γ:Env) (N:Nat) (ops:Array Oper) (draw:Bool) (t:Nat->D) (h:Nat->Option Row) (e:Nat) (K:(Nat->D)->(Nat->Option Row)->Prop):Prop :=
 match draw with
 | true=>runK T Γ N e ops.toList ops.toList t h [] fun t h fs=>Co ops fs=true∧K t h
 | false=>Ek T Γ N e ops.toList ops.toList t h K
def O6 (T:Nat->Option Ty) (Γ:Env) (N F:Nat):Code->(Nat->D)->(Nat->Option Row)->Nat->Kt->Prop
 | .skip,t,h,e,K=>K .normal t h e
 | .region _ ops draw,t,h,e,K=>wpR T Γ N ops draw t h e fun t h=>K .normal t h (e+1)
 | .seq a b,t,h,e,K=>O6 T Γ N F a t h e fun x t h e=>adt x (O6 T Γ N F b t h e K) (K x t h e)
 | .cond c x y,t,h,e,K =>
  match c with
  | .tmp g=>Rk (t g) t g (fun t=>O6 T Γ N F x t h e K) (fun t=>O6 T Γ N F y t h e K)
  | .const (.bool true)=>O6 T Γ N F x t h e K
  | .const (.bool false)=>O6 T Γ N F y t h e K
  | _=>False
 | .block id b,t,h,e,K=>O6 T Γ N F b t h e fun x t h e=>Wg id x t h e K
 | .loop b,t,h,e,K=>∃x s,iter (fK T Γ N F b) F ⟨t,h,e⟩=some (x,s)∧K x s.t s.h s.e
 | .exit id,t,h,e,K=>K (.exit id) t h e
 | .ret,t,h,e,K=>K .ret t h e
 | _,_,_,_,_=>False
def abO (mode:Mode) (T:Nat->Option Ty) (lent:Option (D×Row)) (rs:List ResultVar) (x:Ex) (t:Nat->D) (h:Nat->Option Row) (e:Nat) (r:RK×Option Row):Prop :=
 match x with
 | .exit _=>False
 | _=>fH mode T lent rs ⟨t,EH h,e⟩=some r
def wpf (mode:Mode) (T:Nat->Option Ty) (Γ:Env) (F:Nat) (fn:Func) (lent:Option (D×Row)) (args:List D) (r:RK×Option Row):Prop :=
 oP fn.body fun c=>O6 T Γ fn.ntmps F c (bW lent args).t (bW lent args).h (bW lent args).e fun x t h e=>abO mode T lent fn.results.toList x t h e r
theorem rB {α:Type} (a:α) (K:α->Prop):oP (some a) K=K a:=rfl
theorem DE {α:Type} {x:Option α} {K:α->Prop} (h:oP x K):∃a,x=some a∧K a:=by
 cases x with
 | none=>exact h.elim
 | some a=>exact⟨a,rfl,h⟩
theorem Rc {t:Nat->D} {g:Nat} {d:D} (h:t g=d):bI t g d=t:=by
 funext j;unfold bI;split
 ·rename_i e;subst e;exact h.symm
 ·rfl
theorem IT (A B:Prop):br true A B=A:=by simp[br]
theorem BK (A B:Prop):br false A B=B:=by simp[br]
theorem ZF {b:Bool} {A B:Prop} (h:br b A B):if b then A else B:=by
 cases b with
 | true=>exact h.1 rfl
 | false=>exact h.2 rfl
theorem Zp {t:Nat->D} {g:Nat} {b:Bool} {A B:(Nat->D)->Prop} : Rk (.bool b) t g A B=br b (A (bI t g (.bool b))) (B (bI t g (.bool b))):=rfl
theorem xS {t:Nat->D} {g:Nat} {A B:(Nat->D)->Prop} (h:t g=.bool true):Rk (.bool true) t g A B=A t:=by simp[Rk,Rc h,IT]
theorem uL {t:Nat->D} {g:Nat} {A B:(Nat->D)->Prop} (h:t g=.bool false):Rk (.bool false) t g A B=B t:=by simp[Rk,Rc h,BK]
theorem xV {t:Nat->D} {g:Nat} {A B S:(Nat->D)->Prop} (h:t g=.bool true):wpS (.bool true) t g A B S=A t:=xS h
theorem uM {t:Nat->D} {g:Nat} {A B S:(Nat->D)->Prop} (h:t g=.bool false):wpS (.bool false) t g A B S=B t:=uL h
theorem Rl {t:Nat->D} {g:Nat} {A B:(Nat->D)->Prop} (h:Rk (t g) t g A B):∃b,t g=.bool b∧(if b then A t else B t):=by
 unfold Rk at h;split at h
 ·rename_i b O;rw[Rc O]at h;exact⟨b,O,ZF h⟩
 ·exact h.elim
section
variable {T:Nat->Option Ty} {Γ:Env} {N F e:Nat}
theorem Zs {ops:Array Oper} {t:Nat->D} {o:Oper} {A B:(Nat->D)->Prop} (h:Zr ops.toList t o.guard A B):∃b,th ops t o=some b∧(if b then A t else B t):=by
 unfold Zr at h;unfold th;split at h
 ·rename_i O;try rw[O]
  exact⟨true,rfl,by simpa using h⟩
 ·rename_i j want O;try rw[O]
  obtain⟨g,h1,h2⟩:=DE h;rw[agw]at h1;unfold wpS at h2;split at h2
  ·rename_i hs;simp only[h1,hs];exact⟨false,rfl,h2⟩
  ·obtain⟨b,h3,h4⟩:=Rl h2;simp only[h1,h3];refine⟨_,rfl,?_⟩;cases b<;>cases want<;>simpa using h4
theorem Zq {o:Oper} {t:Nat->D} {h:Nat->Option Row} {K:(Nat->D)->bB->Prop} (hw:O4 T Γ e o t h K):∃E,nK T Γ e o (ev t) h=some E∧K t E:=by
 unfold O4 at hw;split at hw
 ·rename_i c a b O;obtain⟨v,h1,h2⟩:=Rl hw;have U:lH Γ e h o.dst none=none:=by cases o.dst<;>rfl
  cases v with
  | true=>exact⟨⟨ev t a,[]⟩,by unfold nK gq lG;rw[O];simp only[ev,h1,Zw,jN,gO,U],by simpa only[if_true] using h2⟩
  | false=>exact⟨⟨ev t b,[]⟩,by unfold nK gq lG;rw[O];simp only[ev,h1,Zw,jN,gO,U],by simpa only[agd,if_false] using h2⟩
 ·obtain⟨E,h1,h2⟩:=DE hw;exact⟨E,h1,h2⟩
theorem xH {ops:Array Oper} {K:(Nat->D)->(Nat->Option Row)->Prop} : ∀(l:List Oper) (t:Nat->D) (h:Nat->Option Row),Ek T Γ N e ops.toList l t h K->∃O h' fs,y4 T Γ N e ops l t h=some (O,h',fs)∧K O h'
 | [],t,h,hk=>⟨t,h,[],rfl,hk⟩
 | o::l,t,h,hk=>by
  unfold Ek at hk;obtain⟨U,X⟩:=hk;obtain⟨b,h1,h2⟩:=Zs X;unfold y4 step1;rw[if_pos U,h1];cases b with
  | true =>
   obtain⟨E,h3,h4⟩:=Zq (by simpa using h2);obtain⟨O,h',fs,h5,h6⟩:=xH l _ _ h4;simp only[h3,h5];exact⟨_,_,_,rfl,h6⟩
  | false =>
   obtain⟨O,h',fs,h5,h6⟩:=xH l _ _ (by simpa using h2);simp only[h5];exact⟨_,_,_,rfl,h6⟩
theorem JN {ops:Array Oper} {K:(Nat->D)->(Nat->Option Row)->List jP->Prop} : ∀(l:List Oper) (t:Nat->D) (h:Nat->Option Row) (f0:List jP),runK T Γ N e ops.toList l t h f0 K->∃O h' fs,y4 T Γ N e ops l t h=some (O,h',fs)∧K O h' (f0++fs)
 | [],t,h,f0,hk=>⟨t,h,[],rfl,by unfold runK at hk;simpa using hk⟩
 | o::l,t,h,f0,hk=>by
  unfold runK at hk;obtain⟨U,X⟩:=hk;obtain⟨b,h1,h2⟩:=Zs X;unfold y4 step1;rw[if_pos U,h1];cases b with
  | true =>
   obtain⟨E,h3,h4⟩:=Zq (by simpa using h2);obtain⟨O,h',fs,h5,h6⟩:=JN l _ _ _ h4;simp only[h3,h5];exact⟨_,_,_,rfl,by simpa using h6⟩
  | false =>
   obtain⟨O,h',fs,h5,h6⟩:=JN l _ _ _ (by simpa using h2);simp only[h5];exact⟨_,_,_,rfl,by simpa using h6⟩
theorem acy {ops:Array Oper} {draw:Bool} {t:Nat->D} {h:Nat->Option Row} {K:(Nat->D)->(Nat->Option Row)->Prop} (hk:wpR T Γ N ops draw t h e K):∃O h',uJ T Γ N ops draw ⟨t,h,e⟩=some (.normal,⟨O,h',e+1⟩)∧K O h':=by
 unfold uJ;cases draw with
 | false =>
  obtain⟨O,h',fs,h1,h2⟩:=xH _ _ _ hk;simp only[h1];exact⟨O,h',by simp,h2⟩
 | true =>
  obtain⟨O,h',fs,h1,h2,h3⟩:=JN _ _ _ _ hk;simp only[h1];exact⟨O,h',by rw[ahq]at h2;simp[h2],h3⟩
theorem J9:∀(c:Code) (t:Nat->D) (h:Nat->Option Row) (e:Nat) (K:Kt),O6 T Γ N F c t h e K->∃x s,fK T Γ N F c ⟨t,h,e⟩=some (x,s)∧K x s.t s.h s.e:=by
 intro c
 induction c with
 | skip=>intro t h e K hk;exact⟨_,_,rfl,hk⟩
 | region i ops draw =>
  intro t h e K hk;obtain⟨t',h',h1,h2⟩:=acy hk;exact⟨_,_,h1,h2⟩
 | seq a b X Y =>
  intro t h e K hk;obtain⟨x,s,h1,h2⟩:=X _ _ _ _ hk;simp only[fK,h1];cases x with
  | normal =>
   obtain⟨x2,s2,h3,h4⟩:=Y _ _ _ _ h2;exact⟨x2,s2,h3,h4⟩
  | exit n=>exact⟨_,_,rfl,h2⟩
  | ret=>exact⟨_,_,rfl,h2⟩
 | cond c x y O U =>
  intro t h e K hk;unfold O6 at hk;split at hk
  ·rename_i g;obtain⟨b,h1,h2⟩:=Rl hk;simp only[fK,ev,h1,O0];cases b with
   | true=>exact O _ _ _ _ (by simpa using h2)
   | false=>exact U _ _ _ _ (by simpa using h2)
  ·simpa only[fK,ev,lB,O0,if_true] using O _ _ _ _ hk
  ·simpa only[fK,ev,lB,O0,agd,if_false] using U _ _ _ _ hk
  ·exact hk.elim
 | block id b ih =>
  intro t h e K hk;obtain⟨x,s,h1,h2⟩:=ih _ _ _ _ hk;simp only[fK,h1];cases x with
  | normal=>exact⟨_,_,rfl,h2⟩
  | ret=>exact⟨_,_,rfl,h2⟩
  | exit n =>
   simp only[Rh];unfold Wg at h2;simp only at h2;split at h2
   ·rename_i Z;rw[if_pos Z];exact⟨_,_,rfl,h2⟩
   ·rename_i Z;rw[if_neg Z];exact⟨_,_,rfl,h2⟩
 | loop b ih=>intro t h e K hk;exact hk
 | exit id=>intro t h e K hk;exact⟨_,_,rfl,hk⟩
 | ret=>intro t h e K hk;exact⟨_,_,rfl,hk⟩
 | _=>intro t h e K hk;exact hk.elim
theorem Rm {mode:Mode} {fn:Func} {lent:Option (D×Row)} {args:List D} {r:RK×Option Row} (h:wpf mode T Γ F fn lent args r) (O:fn.ntmps<=PK):jO mode T Γ F fn lent args=some r:=by
 obtain⟨c,h1,h2⟩:=DE h;obtain⟨x,s,h3,h4⟩:=J9 _ _ _ _ _ h2;unfold jO;simp only[h1];rw[if_pos O];have U:bW lent args=⟨(bW lent args).t,(bW lent args).h,(bW lent args).e⟩:=rfl;rw[U,h3];unfold abO at h4;split at h4
 ·exact h4.elim
 ·rename_i X;split
  ·rename_i n _ he;cases he;exact (X n rfl).elim
  ·rename_i _ x' Y _ he;cases he;exact h4
  ·rename_i he;cases he
theorem TW {α:Type} (f:Nat->α) (i:Nat) (v:α) (j:Nat):bI f i v j=if j=i then v else f j:=aiw
def EY (args:List D) (i:Nat):D:=args.getD i .und
theorem Kq (i:Nat):EY [] i=.und:=by simp[EY]
theorem FE (d:D) (l:List D):EY (d::l) 0=d:=aiw
theorem FD (d:D) (l:List D) (i:Nat):EY (d::l) (i+1)=EY l i:=aiw
def S8 (_:Nat):Option Row:=none
theorem Hy (i:Nat):S8 i=none:=aiw
end
end Go.Proofs.YtoioidmblipblaaGreat.Am
