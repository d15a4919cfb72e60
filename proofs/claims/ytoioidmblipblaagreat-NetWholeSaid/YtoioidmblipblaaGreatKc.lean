import Derived.Test.YtoioidmblipblaaGreatKb
set_option linter.unusedSimpArgs false
set_option linter.unusedVariables false
noncomputable section
open Go.Proofs.Tryz
namespace Go.Proofs.YtoioidmblipblaaGreat.Am
open Go.RowKit
section
variable {P:Program} {T:Nat->Option Ty} {N:Nat} {M:Nat->Prop} {L:jg} {w0:World} {blk:Nat->Option (Nat×Nat)} {V:Nat->Nat->Prop} {t:Nat->D} {h:Nat->Option Row} {a:Act} {w:World} {e:Nat} {o:Oper} {Γ:Env}
theorem Inv.acY (hI:Inv N M L w0 blk V t (EH h) a w) {x:Nat} {r:Row} {ty s nv n j:Nat} {cs xs:List D} (hx:h x=some r) (hm:r.mp=true) (hc:r.cells=[.nr ty s nv cs]) (hz:r.fz=false) (Z:x<PK) (hj:cs[j]? = some (.nx n xs)) (hn:xs.length=n*s) :
  Inv N M L w0 blk V t (EH (bI h x (some ⟨r.v,r.ty,[.nr ty s nv (cs.set j (.sl false false n xs))],false,r.lst,true⟩))) a w∧∀b,Own M (EH (bI h x (some ⟨r.v,r.ty,[.nr ty s nv (cs.set j (.sl false false n xs))],false,r.lst,true⟩))) blk b->Own M (EH h) blk b:=by
 have ak:j<cs.length:=(ag5.1 hj).1;obtain⟨g,hg⟩:∃g,blk x=some g:=by
  cases hg:blk x with
  | some g=>exact⟨g,rfl⟩
  | none =>
   have:=(hI.rows x _ (fG hx hm hc Z)).2;rw[hg]at this;have h1:cs.mapIdx (pO x s)=[]:=this;have h2:cs.length=0:=by
    have:=congrArg List.length h1;simpa using this
   omega
 have hK:EH h (NK x j)=some ⟨nv,ty,xs,false,true,false⟩:=by rw[eH hx hm hc Z,hj,hz];rfl
 obtain⟨u,al,aw⟩:=hI.Ei hx hm hc Z hg hj;obtain⟨arr,an,ax,ay⟩:=hI.AU hx hm hc Z hg;have az:=hI.freeze [NK x j];have aA:RP w (Own M (aO (EH h) (iF (EH h) [NK x j])) blk) (.sl false false n xs) u:=by
  have hW:=hI.weaken (V':=fun y v=>V y v∨(y=NK x j∧v=nv)) (fun _ _ h =>.inl h);have aB:RT w (Own M (EH h) blk) (EH h) blk (fun y v=>V y v∨(y=NK x j∧v=nv)) (.buf (NK x j) nv s 0 n) u:=by
   refine⟨.inr ⟨rfl,rfl⟩,fun r' aD aE =>?_⟩;rcases aw with⟨g1,c,N',ty',k1,k2,k3,k4,k5,k6⟩|⟨k1,k2,k3⟩
   ·exact .inl ⟨g1,g1.2,c,N',ty',k1,k2,fun _=>⟨by omega,k3⟩,k4,k5,k6⟩
   ·exact .inr ⟨k1,k2,k3⟩
  have hl:live (EH h) (NK x j) nv=some ⟨nv,ty,xs,false,true,false⟩:=by
   unfold live;rw[hK];simp
  have aC:Am.bQ (EH h) (.buf (NK x j) nv s 0 n)=some (.sl false false n xs,[NK x j]):=by
   simp only[Am.bQ,Am.aX,Am.dH,hl,ahr,ah6];rw[if_pos (by rw[hn];exact agC _),<- hn,aiL];rfl
  exact hW.bQ aC (hW.fB [NK x j]) aB
 generalize X:bI (EH h) (NK x j) none=h1;have aa:bI (aO (EH h) (iF (EH h) [NK x j])) (NK x j) none=h1:=by
  rw[<- X];funext k
  by_cases hk:k=NK x j
  ·rw[hk,aq,aq]
  ·rw[av _ _ hk,av _ _ hk,yZ];rw[if_neg (by simpa using hk)]
 have ai:=az.drop (NK x j);rw[aa]at ai;have aj:∀b,Own M h1 blk b->Own M (aO (EH h) (iF (EH h) [NK x j])) blk b:=by
  rintro b (hb|⟨k,r',g',hk,ab,O,he⟩)
  ·exact .inl hb
  ·refine .inr ⟨k,r',g',?_,ab,O,he⟩;rw[<- aa]at hk
   by_cases U:k=NK x j
   ·rw[U,aq]at hk;cases hk
   ·rwa [av _ _ U]at hk
 have ao:h1 x=some ⟨r.v,r.ty,cs.mapIdx (pO x s),r.fz,r.lst,true⟩:=by
  rw[<- X,av _ _ (by have:=eS x j;have:=cv;omega)];exact fG hx hm hc Z
 have ar:∀(i:Nat) d,(cs.set j (.sl false false n xs))[i]? = some d->(i=j∧d=.sl false false n xs)∨(i≠j∧cs[i]? = some d):=by
  intro i d Y
  by_cases hji:i=j
  ·subst hji;rw[ajo ak]at Y;exact .inl ⟨rfl,by simpa using Y.symm⟩
  ·rw[ajp (fun e=>hji e.symm)]at Y;exact .inr ⟨hji,Y⟩
 have hB:=ai.jC (x:=x) (r:=⟨r.v,r.ty,cs.mapIdx (pO x s),r.fz,r.lst,true⟩) (r0:=⟨r.v,r.ty,(cs.set j (.sl false false n xs)).mapIdx (pO x s),false,r.lst,true⟩) (w':=w) ao hz rfl rfl rfl rfl (agC _) (fun _ _ _=>rfl) (by
   rw[hg];refine⟨rfl,.inr ⟨fun d hd =>?_,arr,an,by simp only[ajm,aiK];exact ax,fun i d Y =>?_⟩⟩
   ·obtain⟨i,Y⟩:=agY hd;simp only[ajn,agA]at Y;obtain⟨d0,ae,rfl⟩:=Y;exact ky _ _ _ _
   ·simp only[ajn,agA]at Y;obtain⟨d0,ae,rfl⟩:=Y;rcases ar i d0 ae with⟨rfl,rfl⟩|⟨hij,ad⟩
    ·have e1:arr.getD (g.2+i) undef=u:=by
      have:=aT an (show g.2+i<arr.size by omega);rw[this]at al;simpa using al
     rw[e1];exact aA.less aj
    ·by_cases ag:fa d0=true
     ·rw[jD ag];refine (fb ag).2.2.2 ((ay i d0 ad ag).less fun b hb =>?_);rcases hb with hb|⟨k,r',g',hk,ab,O,he⟩
      ·exact .inl hb
      ·refine .inr ⟨k,r',g',?_,ab,O,he⟩;rw[<- X]at hk
       by_cases U:k=NK x j
       ·rw[U,aq]at hk;cases hk
       ·rwa [av _ _ U]at hk
     ·cases d0<;>first|trivial|exact absurd rfl ag) (fun h=>by cases h) (fun _ g' O i x' s' n' Y=>by
   rw[hg]at O;cases O;simp only[ajn,agA]at Y;obtain⟨d0,ae,he⟩:=Y;obtain⟨aF,rfl,rfl,rfl⟩:=pH he;rcases ar i _ ae with⟨rfl,ad⟩|⟨hij,ad⟩
   ·cases ad
   ·exact ai.pha x _ g ao rfl hg i (NK x i) s' n' (by simp only[ajn,ad,Option.map_some,pO]))
 have ah:bI h1 x (some (⟨r.v,r.ty,(cs.set j (.sl false false n xs)).mapIdx (pO x s),false,r.lst,true⟩:Row))=EH (bI h x (some ⟨r.v,r.ty,[.nr ty s nv (cs.set j (.sl false false n xs))],false,r.lst,true⟩)):=by
  have au:bI h x (some (⟨r.v,r.ty,[.nr ty s nv (cs.set j (.sl false false n xs))],false,r.lst,true⟩:Row)) x=some ⟨r.v,r.ty,[.nr ty s nv (cs.set j (.sl false false n xs))],false,r.lst,true⟩:=aq _ _ _;funext k
  by_cases hkx:rt k=x
  rotate_left
  ·rw[av _ _ (fun e=>hkx (by rw[e,gQ (by have:=cv;omega)])),<- X,av _ _ (fun e=>hkx (by rw[e,sO Z]))];exact dZ (by rw[av _ _ hkx])
  rcases nF hkx with rfl|⟨i,rfl⟩
  ·rw[aq,fG au rfl rfl Z]
  ·rw[av _ _ (by have:=eS x i;have:=cv;omega),eH au rfl rfl Z,<- X]
   by_cases hij:i=j
   ·rw[hij,aq,ajo ak];rfl
   ·rw[av _ _ (fun e=>hij (rG Z Z e).2),eH hx hm hc Z,ajp (fun e=>hij e.symm),hz]
 rw[ah]at hB;refine⟨hB,?_⟩;rintro b (hb|⟨k,r',g',hk,ab,O,he⟩)
 ·exact .inl hb
 ·rw[<- ah]at hk
  by_cases hkx:k=x
  ·subst hkx;exact .inr ⟨k,_,g',fG hx hm hc Z,hz,O,he⟩
  ·rw[av _ _ hkx,<- X]at hk
   by_cases U:k=NK x j
   ·rw[U,aq]at hk;cases hk
   ·rw[av _ _ U]at hk;exact .inr ⟨k,r',g',hk,ab,O,he⟩
end
def Bz (s:Nat):D->Bool
 | .nx n xs=>xs.length==n*s
 | d=>fa d
def mD (k o:Nat) (cs:List D):List D:=cs.mapIdx fun i d=>if o<=i∧i<o+k then We d else d
section
variable {P:Program} {T:Nat->Option Ty} {N:Nat} {M:Nat->Prop} {L:jg} {w0:World} {blk:Nat->Option (Nat×Nat)} {V:Nat->Nat->Prop} {t:Nat->D} {h:Nat->Option Row} {a:Act} {w:World} {e:Nat} {o:Oper} {Γ:Env}
theorem Jj (o:Nat) (cs:List D):mD 0 o cs=cs:=by
 unfold mD;apply aiO;intro i;rw[ajn];cases cs[i]? with
 | none=>rfl
 | some d=>simp only[Option.map_some];rw[if_neg (by omega)]
theorem vv (k o:Nat) (cs:List D) (i:Nat):(mD k o cs)[i]? = (cs[i]?).map fun d=>if o<=i∧i<o+k then We d else d:=by
 unfold mD;rw[ajn]
theorem Inv.ac0 (hI:Inv N M L w0 blk V t (EH h) a w) {x:Nat} {r:Row} {ty s nv o:Nat} {cs:List D} (hx:h x=some r) (hm:r.mp=true) (hc:r.cells=[.nr ty s nv cs]) (hz:r.fz=false) (hp:x<PK):∀k:Nat,((cs.drop o).take k).all (Bz s)=true ->
  Inv N M L w0 blk V t (EH (bI h x (some ⟨r.v,r.ty,[.nr ty s nv (mD k o cs)],false,r.lst,true⟩))) a w∧∀b,Own M (EH (bI h x (some ⟨r.v,r.ty,[.nr ty s nv (mD k o cs)],false,r.lst,true⟩))) blk b->Own M (EH h) blk b
 | 0,_=>by
  have:bI h x (some (⟨r.v,r.ty,[.nr ty s nv (mD 0 o cs)],false,r.lst,true⟩:Row))=h:=by
   funext k
   by_cases hk:k=x
   ·rw[hk,aq,Jj,hx];cases r;simp only at hm hc hz;rw[hm,hc,hz]
   ·rw[av _ _ hk]
  rw[this];exact⟨hI,fun _ h=>h⟩
 | k+1,O=>by
  have Y:((cs.drop o).take k).all (Bz s)=true:=by
   rw[agN]at O ⊢;intro d hd;obtain⟨i,X⟩:=agY hd;refine O d (ag4 (i:=i) ?_);rw[agS]at X ⊢;split at X
   ·rw[if_pos (by omega)];exact X
   ·cases X
  obtain⟨h1,h2⟩:=hI.ac0 hx hm hc hz hp k Y;have Z:(∀n xs,cs[o+k]?≠some (.nx n xs))->mD (k+1) o cs=mD k o cs:=by
   intro hn;apply aiO;intro i;rw[vv,vv];cases aa:cs[i]? with
   | none=>rfl
   | some d =>
    simp only[Option.map_some,agL]
    by_cases hik:i=o+k
    ·subst hik;rw[if_pos (by omega),if_neg (by omega)];cases d<;>first|rfl|exact absurd aa (hn _ _)
    ·by_cases U:o<=i∧i<o+k
     ·rw[if_pos U,if_pos (by omega)]
     ·rw[if_neg U,if_neg (by omega)]
  by_cases hnx:∃n xs,cs[o+k]? = some (.nx n xs)
  rotate_left
  ·rw[Z fun n xs h=>hnx ⟨n,xs,h⟩];exact⟨h1,h2⟩
  obtain⟨n,xs,hnx⟩:=hnx;have hlen:xs.length=n*s:=by
   have:=agN.1 O (.nx n xs) (ag4 (i:=k) (by rw[agS,if_pos (by omega),agT];exact hnx));simpa [Bz] using this
  have ab:mD (k+1) o cs=(mD k o cs).set (o+k) (.sl false false n xs):=by
   have ae:=(ag5.1 hnx).1;apply aiO;intro i;rw[vv]
   by_cases hik:i=o+k
   ·subst hik;rw[ajo (by simpa [mD] using ae),hnx];simp only[Option.map_some];rw[if_pos (by omega)];rfl
   ·rw[ajp (fun e=>hik e.symm),vv];cases aa:cs[i]? with
    | none=>rfl
    | some d =>
     simp only[Option.map_some,agL]
     by_cases U:o<=i∧i<o+k
     ·rw[if_pos U,if_pos (by omega)]
     ·rw[if_neg U,if_neg (by omega)]
  have hj:(mD k o cs)[o+k]? = some (.nx n xs):=by
   rw[vv,hnx];simp only[Option.map_some];rw[if_neg (by omega)]
  obtain⟨h3,h4⟩:=h1.acY (x:=x) (aq _ _ _) rfl rfl rfl hp hj hlen;have ad:∀(r1 r2:Option Row),bI (bI h x r1) x r2=bI h x r2:=by
   intro r1 r2;funext i
   by_cases X:i=x
   ·rw[X,aq,aq]
   ·rw[av _ _ X,av _ _ X,av _ _ X]
  rw[ad,<- ab]at h3 h4;exact⟨h3,fun b hb=>h2 b (h4 b hb)⟩
def JC (x:Nat) (r:Row) (ty s o k:Nat):Option Nat->Option (D×List D)->Option bF
 | some O,some (d,cs')=>if ((cs'.drop o).take k).all (Bz s)=true then some ⟨d,[(x,some ⟨r.v,r.ty,[.nr ty s O (mD k o cs')],false,r.lst,true⟩)]⟩ else none
 | _,_=>none
def CG (e x:Nat) (r:Row) (ty s nv:Nat) (cs:List D) (o:Nat):Option (Nat×(Nat->Nat->Nat->Nat->List D->List D->Option (D×List D)))->Option (List D×List Nat)->Option bF
 | some p,some (agx,[])=>JC x r ty s o p.1 (bump nv e) (p.2 r.ty ty s o cs agx)
 | _,_=>none
def qM (Γ:Env) (e:Nat) (h:Nat->Option Row) (g:Nat):List D->Option bF
 | .ptr x v o::rest =>
  match fJ h x v with
  | some (r,ty,s,nv,cs)=>CG e x r ty s nv cs o (Γ.nx.lnd g) (bx (EH h) rest)
  | none=>none
 | _=>none
theorem rT {g:Nat} {args:List D} {E:bF} (O:qM Γ e h g args=some E):∃x v o rest r ty s nv cs p agx U d cs',args=.ptr x v o::rest∧fJ h x v=some (r,ty,s,nv,cs)∧Γ.nx.lnd g=some p∧bx (EH h) rest=some (agx,[])∧bump nv e=some U∧p.2 r.ty ty s o cs agx=some (d,cs') ∧
  ((cs'.drop o).take p.1).all (Bz s)=true∧E=⟨d,[(x,some ⟨r.v,r.ty,[.nr ty s U (mD p.1 o cs')],false,r.lst,true⟩)]⟩:=by
 unfold qM at O;split at O<;>try (cases O;done)
 rename_i x v o rest;split at O<;>try (cases O;done)
 rename_i r ty s nv cs Z;unfold CG at O;split at O<;>try (cases O;done)
 rename_i p agx hp Y;unfold JC at O;split at O<;>try (cases O;done)
 rename_i U d cs' hb hs;split at O<;>try (cases O;done)
 rename_i X;exact⟨x,v,o,rest,r,ty,s,nv,cs,p,agx,U,d,cs',rfl,Z,hp,Y,hb,hs,X,by simpa using O.symm⟩
theorem Xj (hΓ:bH P Γ) (hI:Inv N M L w0 blk V t (EH h) a w) (aj:aat V h e) {g:Nat} {dst:Option Nat} {args:List D} {vs:Array Value} {E:bF} (hE:qM Γ e h g args=some E) (aa:vs.size=args.length)
  (hr:∀(j:Nat) d,args[j]? = some d->RT w (Own M (EH h) blk) (EH h) blk V d (vs.getD j undef)):dX P g∧Calls P g vs w fun e' w'=>∃v,e'=.returned v∧je N M L w0 V t h a e dst E v w':=by
 obtain⟨x,v,o,rest,r,ty,s,nv,cs,p,agx,ak,d,cs',rfl,hl,hp,al,hb,hs,ab,rfl⟩:=rT hE;obtain⟨hx,hv,hz,hm,O,hc⟩:=gZ hl;obtain⟨an,X⟩:=hΓ.lnd g p hp;refine⟨an,?_⟩;have h0:=hr 0 _ rfl;have ao:=fG hx hm hc O;obtain⟨g0,ad,ar⟩:=h0.2 _ ao hv;have au:vs = #[.pointer (some ⟨g0.1,g0.2+o,none⟩)]++vs.extract 1 vs.size:=by
  have h1:0<vs.size:=by rw[aa];simp
  rw[<- ar];apply Array.ext
  ·simp;omega
  ·intro i h1 h2;cases i with
   | zero=>simp[ahP h1]
   | succ i=>simp[ahT];congr 1;omega
 have ae:(vs.extract 1 vs.size).size=rest.length:=by simp at aa ⊢;omega
 have aw:∀(j:Nat) d,rest[j]? = some d->RT w (Own M (EH h) blk) (EH h) blk V d ((vs.extract 1 vs.size).getD j undef):=by
  intro j d hj;have:=hr (j+1) d (by simpa using hj);have e1:(vs.extract 1 vs.size).getD j undef=vs.getD (j+1) undef:=by
   simp only[agH];congr 1;rw[ahV];split
   ·congr 1;omega
   ·rename_i hh;rw[ahW (by omega)]
  rw[e1];exact this
 obtain⟨M',Y⟩:∃M':Nat->Prop,∀b,M' b↔Own M (EH h) blk b∧¬InX blk h x b:=⟨_,fun _=>Iff.rfl⟩;have hInX:∀b,InX blk h x b->Own M (EH h) blk b:=by
  rintro b ⟨k,r',g',q0,q1,q2,q3⟩;refine .inr ⟨k,r',g',q1,?_,q2,q3⟩;rcases eA hx hm hc O q0 q1 with⟨_,rfl⟩|⟨_,_,_,_,_,rfl⟩<;>exact hz
 have Z:=Jp (blk:=blk) hx hm hc O;have hQ:∀b,(M' b∨uN (pN blk x) (EH (mC (iV r.ty ty s 0 cs))) b)->Own M (EH h) blk b:=fun b hb=>hb.elim (fun hb=>((Y b).1 hb).1) (fun hb=>hInX b ((Z b).1 hb));have U:=hI.Cr al ⟨fun b h=>h,fun x hx=>by cases hx⟩ ae aw;have hA:xo w (fun b=>M' b∨uN (pN blk x) (EH (mC (iV r.ty ty s 0 cs))) b) agx (vs.extract 1 vs.size):=⟨U.1,fun j d hj=>(U.2 j d hj).less hQ,fun b hb=>(U.tab b hb).less hQ⟩;rw[au];refine (X _ _ _ _ _ _ _ _ hs w M' (pN blk x) _ _ g0 _ rfl rfl (fun b hb=>hI.xa ((Y b).1 hb).1) (fun b hb ax=>((Y b).1 ax).2 ((Z b).1 hb)) (by rw[pN,qG];exact ad) (hI.ac4 hx hm hc hz O hQ) hA).mono fun e' w' hg =>?_;obtain⟨u,ag,he,hbey,q0,ay,ah,qR,az⟩:=hg;refine⟨u,he,nC blk ag x,?_⟩;obtain⟨k1,k2⟩:=hI.back hx hm hc hz O (aj x r ty s nv cs ak hx hm hc O hb) ad rfl Y ⟨hbey.os,hbey.tape,hbey.output,hbey.size,fun k hk hn=>hbey.block k hk fun hh=>hn ((Z k).1 hh)⟩ q0 ay (fun b hb=>(ah b hb).imp id fun hh=>(Z b).1 hh) qR;obtain⟨k3,k4⟩:=k1.ac0 (x:=x) (o:=o) (aq _ _ _) rfl rfl rfl O p.1 ab;have ai:∀(r1 r2:Option Row),bI (bI h x r1) x r2=bI h x r2:=by
  intro r1 r2;funext i
  by_cases hi:i=x
  ·rw[hi,aq,aq]
  ·rw[av _ _ hi,av _ _ hi,av _ _ hi]
 rw[ai]at k3 k4;exact⟨k3.weaken fun _ _ h =>.inl h,bz (az.less fun b hb=>k2 b (k4 b hb))⟩
end
def Gg:D->D->Option D
 | .nx _ _,.sl true true 0 []=>some (.nx 0 [])
 | .nx _ _,_=>none
 | _,d=>if fa d=true then some (canon d) else none
def rp:List D->List D->Option (List D)
 | [],[]=>some []
 | c::cs,x::xs =>
  match Gg c x,rp cs xs with
  | some y,some O=>some (y::O)
  | _,_=>none
 | _,_=>none
def stZ (x:Nat) (r:Row) (ty s:Nat):Option Nat->Option (List D)->Option bF
 | some O,some cs'=>some ⟨.und,[(x,some ⟨r.v,r.ty,[.nr ty s O cs'],false,r.lst,true⟩)]⟩
 | _,_=>none
def Rv (n e x:Nat) (r:Row) (ty s nv:Nat) (cs:List D):D->Option bF
 | .agg xs=>if xs.length=n then stZ x r ty s (bump nv e) (rp cs xs) else none
 | _=>none
def pe (τ:Ty) (e:Nat) (h:Nat->Option Row) (p d:D):Option bF :=
 match p with
 | .ptr x v o =>
  match fJ h x v with
  | some (r,ty,s,nv,cs)=>if r.lst=false∧o=0∧cs.length=τ.size then Rv τ.size e x r ty s nv cs d else none
  | none=>none
 | _=>none
def Q1 (x:Nat) (r:Row) (ty s nv:Nat) (cs:List D):Option D->Option bF
 | some d=>some ⟨d,[(x,some ⟨r.v,r.ty,[.nr ty s nv cs],false,r.lst,true⟩)]⟩
 | none=>none
def oY (τ:Ty) (h:Nat->Option Row):D->Option bF
 | .ptr x v o =>
  match fJ h x v with
  | some (r,ty,s,nv,cs)=>if r.lst=false∧o=0∧cs.length=τ.size∧1<τ.size∧cs.all (Bz s)=true then Q1 x r ty s nv (mD τ.size 0 cs) (jw τ (cs.map We)) else none
  | none=>none
 | _=>none
def orE:Option bF->Option bF->Option bF
 | some E,_=>some E
 | none,y=>y
def tA (τ:Ty) (h:Nat->Option Row) (p:D):Option bF:=orE (oY τ h p) (oZ τ h p)
def tC (τ:Ty) (e:Nat) (h:Nat->Option Row) (p d:D):Option bF:=orE (pe τ e h p d) (mm τ e h p d)
theorem PY:∀ {cs xs ys:List D},rp cs xs=some ys->ys.length=cs.length∧xs.length=cs.length∧∀(j:Nat) c x,cs[j]? = some c->xs[j]? = some x->∃y,ys[j]? = some y∧Gg c x=some y
 | [],[],ys,h=>by simp only[rp,agL]at h;subst h;exact⟨rfl,rfl,fun j c x O=>by simp at O⟩
 | c::cs,x::xs,ys,h=>by
  simp only[rp]at h;split at h
  ·rename_i y X h1 h2;simp only[agL]at h;subst h;obtain⟨Y,Z,k3⟩:=PY h2;refine⟨by simp[Y],by simp[Z],fun j c' x' O U =>?_⟩;cases j with
   | zero =>
    simp only[List.getElem?_cons_zero,agL]at O U ⊢;subst O U;exact⟨y,rfl,h1⟩
   | succ j=>exact k3 j c' x' (by simpa using O) (by simpa using U)
  ·cases h
 | [],x::xs,ys,h=>by simp[rp]at h
 | c::cs,[],ys,h=>by simp[rp]at h
theorem FB {c x y:D} (h:Gg c x=some y):(x=.sl true true 0 []∧y=.nx 0 [])∨(fa x=true∧y=canon x):=by
 unfold Gg at h;split at h
 ·simp only[agL]at h;exact .inl ⟨rfl,h.symm⟩
 ·cases h
 ·split at h
  ·rename_i O;simp only[agL]at h;exact .inr ⟨O,h.symm⟩
  ·cases h
section
variable {P:Program} {T:Nat->Option Ty} {N:Nat} {M:Nat->Prop} {L:jg} {w0:World} {blk:Nat->Option (Nat×Nat)} {V:Nat->Nat->Prop} {t:Nat->D} {h:Nat->Option Row} {a:Act} {w:World} {e:Nat} {o:Oper} {Γ:Env}
theorem XM (x:Nat):BO (EH h) (fun k=>if rt k=x∧k≠x then none else EH h k):=by
 intro k r' hk;simp only at hk;split at hk
 ·cases hk
 ·exact⟨r',hk,.refl _⟩
open Classical in
theorem XK (hT:ig P T) (hI:Inv N M L w0 blk V t (EH h) a w) (aK:aat V h e) {ty:Nat} {p x:Operand} {τ:Ty} {E:bF} (ho:o.op=.store ty p x) (hτ:T ty=some τ) (X:pe τ e h (ev t p) (ev t x)=some E):dY P o a w (je N M L w0 V t h a e o.dst E):=by
 have hp:=hI.ev p;have hq:=hI.ev x;have aX:=hI.big;have aY:=cv;generalize ev t p=pd at *;generalize ev t x=d at *;unfold pe at X;split at X<;>try (cases X;done)
 rename_i y v c0;split at X<;>try (cases X;done)
 rename_i r ty' s nv cs hl;obtain⟨hx,hv,hz,hm,U,hc⟩:=gZ hl;have an:=fG hx hm hc U;obtain⟨g,hg,az⟩:=hp.2 _ an hv;split at X<;>try (cases X;done)
 rename_i ao;obtain⟨_,rfl,aZ⟩:=ao;unfold Rv at X;split at X<;>try (cases X;done)
 rename_i xs;split at X<;>try (cases X;done)
 rename_i aL;unfold stZ at X;split at X<;>try (cases X;done)
 rename_i ab cs' hb aM;simp only[agL]at X;subst X;obtain⟨z1,z2,z3⟩:=PY aM;have aA:RP w (Own M (EH h) blk) (.agg xs) (a.eval x):=hq;obtain⟨us,aN,aO,aB⟩:∃us:List Value,a.eval x=.agg us.toArray∧us.length=xs.length∧∀j x,xs[j]? = some x->RP w (Own M (EH h) blk) x (us.getD j undef):=by
  generalize a.eval x=u at aA;cases aA with
  | agg xs us h1 h2 h3=>exact⟨us,rfl,h1,h2⟩
 have aP:∀(j:Nat) x,xs[j]? = some x->fa x=true:=by
  intro j x O;have aj:=(ag5.1 O).1;obtain⟨y',_,k2⟩:=z3 j _ x (agP (by omega)) O;rcases FB k2 with⟨rfl,_⟩|⟨k3,_⟩
  ·rfl
  ·exact k3
 have aC:∀u∈us,u.oneCell'=true:=by
  intro u hu;obtain⟨j,O⟩:=agY hu;have aj:=(ag5.1 O).1;have ad:=agP (l:=xs) (i:=j) (by omega);have:=aB j _ ad;have e1:us.getD j undef=u:=by simp[List.getD,O]
  rw[e1]at this;exact this.qe (fb (aP j _ ad)).1
 obtain⟨arr,k1,k2,k3⟩:=hI.AU hx hm hc U hg;have ae:=run_storeCells_at P g.1 (g.2+0) r.ty us 0 arr w k1 (by omega) aC;rw[ahb]at ae;have aD:(arr.toList.take g.2++us++arr.toList.drop (g.2+us.length)).toArray.size=arr.size:=by simp;omega
 have ag:∀j,j<cs.length->(arr.toList.take g.2++us++arr.toList.drop (g.2+us.length)).toArray.getD (g.2+j) undef=us.getD j undef:=by
  intro j O;have:=qp arr us g.2 (g.2+j) (by omega);rw[this,if_neg (by omega),if_pos (by omega)];congr 1;omega
 generalize a1:(arr.toList.take g.2++us++arr.toList.drop (g.2+us.length)).toArray=arr' at ae aD ag;obtain⟨Z,aE,hheap⟩:=yw (g:=g) (arr':=arr') k1;have aF:Own M (EH h) blk g.1 := .inr ⟨y,_,g,an,hz,hg,rfl⟩;have hK:∀o,NK y o≠y∧2*PK<=NK y o:=fun o=>by have:=eS y o;omega
 have hle:=XM (h:=h) y;have hA:=hI.le hle;generalize ar:(fun k=>if rt k=y∧k≠y then none else EH h k)=h1 at hA hle;have aQ:h1 y=some ⟨r.v,r.ty,cs.mapIdx (pO y s),r.fz,r.lst,true⟩:=by
  rw[<- ar];simp only[ne_eq,not_true_eq_false,and_false,if_false];exact an
 have au:∀o,h1 (NK y o)=none:=fun o=>by
  rw[<- ar];simp only;rw[if_pos ⟨sO U,(hK o).1⟩]
 have aG:∀k,rt k≠y->h1 k=EH h k:=fun k hk=>by
  rw[<- ar];simp only;rw[if_neg (fun hh=>hk hh.1)]
 have al:∀(j:Nat) d,cs'[j]? = some d->(d=.nx 0 []∧us.getD j undef=.slice none 0 0)∨(fa d=true∧RP w (Own M (EH h) blk) d (us.getD j undef)):=by
  intro j d O;have aj:=(ag5.1 O).1;have ad:=agP (l:=xs) (i:=j) (by omega);obtain⟨y',q1,q2⟩:=z3 j _ _ (agP (by omega)) ad;rw[O]at q1;cases q1;have hr:=aB j _ ad;rcases FB q2 with⟨e1,rfl⟩|⟨e1,rfl⟩
  ·refine .inl ⟨rfl,?_⟩;rw[e1]at hr;generalize us.getD j undef=u at hr;cases hr with
   | sl A c _ _ _ _ a6 g1 g2 g3 g4 g5 g6 g7 g8 =>
    obtain⟨rfl,rfl⟩:=(g3 rfl).1 rfl;rfl
  ·refine .inr ⟨?_,hr.canon⟩;generalize xs[j]=q at e1;cases q<;>first|rfl|cases e1
 have aw:∀ {d:D} {u:Value},RP w (Own M (EH h) blk) d u->RP (w.setRow g.1 arr') (Own M h1 blk) d u:=fun hr=>hr.keep fun b q1 q2=>⟨by rw[aE];exact q1,zG hle q2,hheap b (fun e=>q2 (e ▸ aF))⟩;have hB:=hA.jC (x:=y) (r0:=⟨r.v,r.ty,cs'.mapIdx (pO y s),false,r.lst,true⟩) (w':=w.setRow g.1 arr') aQ hz rfl rfl rfl rfl (by rw[aE];exact agC _) (fun b _ hb=>hheap b (hb g hg)) (by
  rw[hg];refine⟨by simp[World.shape?,Z,k1,aD],.inr ⟨fun d hd =>?_,arr',Z,by simp only[ajm];omega,fun j d O =>?_⟩⟩
  ·obtain⟨j,O⟩:=agY hd;simp only[ajn,agA]at O;obtain⟨d0,_,rfl⟩:=O;exact ky _ _ _ _
  ·simp only[ajn,agA]at O;obtain⟨d0,Y,rfl⟩:=O;have aj:=(ag5.1 Y).1;rw[ag j (by omega)];rcases al j d0 Y with⟨rfl,_⟩|⟨q1,q2⟩
   ·trivial
   ·rw[jD q1];exact (fb q1).2.2.2 (aw q2)) (fun hh=>by cases hh) (fun _ g' aH j x' s' n' O=>by
  rw[hg]at aH;cases aH;simp only[ajn,agA]at O;obtain⟨d0,Y,he⟩:=O;obtain⟨a7,rfl,rfl,rfl⟩:=pH he;have aj:=(ag5.1 Y).1;exact⟨⟨U,.inr rfl⟩,_,aT Z (by omega),fun r1 aI=>by rw[au]at aI;cases aI⟩)
 obtain⟨S,hS⟩:∃S:Nat->Prop,∀k,S k↔∃o xs,k=NK y o∧cs'[o]? = some (.nx 0 xs):=⟨_,fun _=>Iff.rfl⟩;have ah:∀(j n':Nat) (xs:List D),cs'[j]? = some (.nx n' xs)->n'=0∧xs=[]∧us.getD j undef=.slice none 0 0:=by
  intro j n' xs O;rcases al j _ O with⟨e1,e2⟩|⟨e1,_⟩
  ·cases e1;exact⟨rfl,rfl,e2⟩
  ·cases e1
 have ax:bI h y (some (⟨r.v,r.ty,[.nr ty' s ab cs'],false,r.lst,true⟩:Row)) y=some ⟨r.v,r.ty,[.nr ty' s ab cs'],false,r.lst,true⟩:=aq _ _ _;have hC:=hB.addEmpty S ty' ab (h':=EH (bI h y (some ⟨r.v,r.ty,[.nr ty' s ab cs'],false,r.lst,true⟩))) (blk':=fun k=>if S k then none else blk k) (fun k hk=>by
   obtain⟨o',xs,rfl,ak⟩:=(hS k).1 hk;have:=hK o';exact⟨by omega,by omega,aK y r ty' s nv cs ab hx hm hc U hb o',by rw[av _ _ (hK o').1,au]⟩) (fun k hk=>by
   refine⟨?_,by rw[if_pos hk]⟩;obtain⟨o',xs,rfl,ak⟩:=(hS k).1 hk;rw[eH ax rfl rfl U,ak];obtain⟨_,rfl,_⟩:=ah o' 0 xs ak;rfl) (fun k hk=>by
   refine⟨?_,by rw[if_neg hk]⟩
   by_cases hkd:rt k=y
   ·rcases nF hkd with rfl|⟨o',rfl⟩
    ·rw[aq,fG ax rfl rfl U]
    ·rw[av _ _ (hK o').1,au,eH ax rfl rfl U];cases aJ:cs'[o']? with
     | none=>rfl
     | some d0 =>
      cases d0 with
      | nx n' xs =>
       obtain⟨rfl,_,_⟩:=ah o' n' xs aJ;exact absurd ((hS _).2 ⟨o',xs,rfl,aJ⟩) hk
      | _=>rfl
   ·rw[av _ _ (fun e=>hkd (by rw[e,gQ (by omega)])),aG k hkd];exact dZ (by rw[av _ _ hkd])) (fun y1 r1 g1 hy aR ay j x' s' n' O hs=>by
   obtain⟨o',xs,rfl,ak⟩:=(hS _).1 hs;obtain⟨⟨p1,p2⟩,u,p3,_⟩:=hB.pha y1 r1 g1 hy aR ay j _ s' n' O;rcases p2 with p2|p2
   ·have:=eS y o';omega
   obtain⟨rfl,rfl⟩:=rG U p1 p2;rw[aq]at hy;rw[hg]at ay;cases hy;cases ay;simp only[ajn,agA]at O;obtain⟨d0,Y,he⟩:=O;obtain⟨aS,rfl,_,rfl⟩:=pH he;obtain⟨aU,_,aV⟩:=ah o' n' aS Y;have a8:=(ag5.1 Y).1;refine⟨_,aT Z (by omega),aU,none,?_⟩;rw[ag o' (by omega)];exact aV)
 refine .inr (.inl ⟨w.setRow g.1 arr',?_,fun k=>if S k then none else blk k,?_,trivial⟩)
 ·have aa:(a.eval x).cells.toList=us:=by rw[aN];rfl
  have aW:(a.eval x).cells.size=τ.size:=by rw[<- aL,<- aO,<- aa];simp
  have ai:(storeCells ⟨g.1,g.2+0,none⟩ (a.eval x).cells.toList 0).run P w=.ok () (w.setRow g.1 arr'):=by rw[aa];exact ae
  rw[ahb]at ai az;simp[execOp,ho,Instr.storeAt,Instr.sureAddr,az,storeVar,run_sizeOf (hT ty τ hτ),aW,ai]
 ·exact hC.weaken fun _ _ h =>.inl h
open Classical in
theorem XG (hT:ig P T) (hI:Inv N M L w0 blk V t (EH h) a w) {ty d ty' s f:Nat} {τ:Ty} {E:bF} (ho:o.op=.alloc ty) (hd:o.dst=some d) (hV:iR N V d e) (au:∀o,¬V (NK d o) (4*e+2)) (hτ:T ty=some τ)
  (hE:mkA τ ty e d ty' s f=some E):dY P o a w (je N M L w0 V t h a e o.dst E):=by
 have aC:=hI.big;have aD:=cv;unfold mkA at hE;split at hE<;>try (cases hE;done)
 rename_i aj;obtain⟨c4,c5,c6,U,c8⟩:=aj;simp only[agL]at hE;subst hE;obtain⟨z,aw,ax⟩:=ja (hT ty τ hτ) w;have aE:(τ.zero.map lN).length=τ.size:=by rw[ag6,c6]
 have hf:f<τ.size:=by
  rw[ajl]at c8;rcases ahn f τ.size with ak|aF
  ·exact ak
  ·rw[aij (by omega)]at c8;cases c8
 have ao:(τ.zero.map lN)[f]? = some (.sl true true 0 []):=by
  rw[ajl]at c8;unfold YE at c8;split at c8
  ·assumption
  ·cases c8
 have ay:(lM τ f).length=τ.size:=by
  unfold lM;rw[jy (by simp;omega)];simp[c6]
 have Z:∀(m:Nat) (x:D),(lM τ f)[m]? = some x->(m=f∧x=.nx 0 [])∨(m≠f∧∃y,(τ.zero.map lN)[m]? = some y∧x=canon y):=by
  intro m x hm;unfold lM at hm
  by_cases al:m=f
  ·subst al;rw[fD (by simp;omega)]at hm;exact .inl ⟨rfl,by simpa using hm.symm⟩
  ·rw[gG (by simp;omega) al,agz,agA]at hm;obtain⟨y,h1,h2⟩:=hm;exact .inr ⟨al,y,h1,h2.symm⟩
 obtain⟨vs,ad⟩:∃vs:Array Value,vs=τ.zero.toArray:=⟨_,rfl⟩;have aG:vs.size=τ.size:=by rw[ad];simpa using c6
 have ai:∀(M':Nat->Prop) (w':World) (j:Nat) (x:D),(lM τ f)[j]? = some x->fa x=true->RP w' M' x (vs.getD j undef):=by
  intro M' w' j x O az;rw[ad];rcases Z _ x O with⟨_,rfl⟩|⟨_,y,h1,rfl⟩
  ·cases az
  ·exact (pL (w:=w') (M:=M') τ.zero (agN.2 fun y hy=>(fb (agN.1 c5 y hy)).1) _ y h1).2.canon
 have Y:∀(j:Nat) (n':Nat) (xs:List D),(lM τ f)[j]? = some (.nx n' xs)->n'=0∧xs=[]∧vs.getD j undef=.slice none 0 0:=by
  intro j n' xs O;rcases Z _ _ O with⟨hm,he⟩|⟨_,y,h1,he⟩
  ·simp only[D.nx.injEq]at he;refine⟨he.1,he.2,?_⟩;rw[ad,hm];rw[agz,agA]at ao;obtain⟨v,v1,v2⟩:=ao;simp only[agH,List.getElem?_toArray,v1,Option.getD_some];exact TU v2
  ·have:=agN.1 c5 y (ag4 h1);cases y<;>first|(cases he;done)|(cases this;done)
 generalize lM τ f=cs at ay Z ai Y;have hA:=hI.le (xI (h:=h) d U);have hold:∀b,b<w.heap.size->(w.alloc (.cells vs ty)).heap[b]? = w.heap[b]?:=fun b hb=>Below.heap_alloc w _ b hb;have ae:=(Below.refl w.heap.size w).alloc (agC _) (.cells vs ty);have aa:=heap_alloc_new w (.cells vs ty);have an:∀o,EH (bI h d none) (NK d o)=none:=fun o=>by rw[qJ U,aq];rfl
 have ab:∀o,NK d o≠d:=fun o=>by have:=eS d o;omega
 have hB:=hA.Cp (w':=w.alloc (.cells vs ty)) (h1:=EH (bI h d none)) (old:=none) (d:=d) (e:=e) (r0:=⟨e,ty,cs.mapIdx (pO d s),false,false,true⟩) (go:=some (w.heap.size,0)) ae.os ae.tape ae.output ae.size (fun k hk _=>hold k hk) (fun y hy=>by cases hy) rfl hV
  ⟨.inl (agC _),.inr ⟨fun x hx=>by
   obtain⟨j,O⟩:=agY hx;simp only[ajn,agA]at O;obtain⟨d0,X,rfl⟩:=O;exact ky _ _ _ _,vs,aa,by simp only[ajm];omega,fun j x O=>by
   simp only[ajn,agA]at O;obtain⟨d0,X,rfl⟩:=O;rw[ahr]
   by_cases ag:fa d0=true
   ·rw[jD ag];exact (fb ag).2.2.2 (ai _ _ j d0 X ag)
   ·cases d0<;>first|trivial|exact absurd rfl ag⟩⟩ rfl rfl (fun _ g hg j x s' n' O=>by
   cases hg;simp only[ajn,agA]at O;obtain⟨d0,X,he⟩:=O;obtain⟨xs,rfl,rfl,rfl⟩:=pH he;have ak:=(ag5.1 X).1;refine⟨⟨U,.inr rfl⟩,_,aT aa (by omega),fun r hr =>?_⟩;rw[av _ _ (ab j),an]at hr;cases hr)
 obtain⟨S,hS⟩:∃S:Nat->Prop,∀k,S k↔∃o xs,k=NK d o∧cs[o]? = some (.nx 0 xs):=⟨_,fun _=>Iff.rfl⟩;have hC:=hB.addEmpty S ty' (4*e+2) (h':=EH (bI h d (some ⟨e,ty,[.nr ty' s (4*e+2) cs],false,false,true⟩))) (blk':=fun k=>if S k then none else bI blk d (some (w.heap.size,0)) k) (fun k hk=>by
   obtain⟨o',xs,rfl,ah⟩:=(hS k).1 hk;have:=eS d o';refine⟨by omega,by omega,?_,by rw[av _ _ (ab o'),an]⟩;rintro (hv|⟨he,_⟩)
   ·exact au o' hv
   ·exact ab o' he) (fun k hk=>by
   refine⟨?_,by rw[if_pos hk]⟩;obtain⟨o',xs,rfl,ah⟩:=(hS k).1 hk;rw[eH (aq _ _ _) rfl rfl U,ah];obtain⟨_,rfl,_⟩:=Y o' 0 xs ah;rfl) (fun k hk=>by
   refine⟨?_,by rw[if_neg hk]⟩
   by_cases hkd:rt k=d
   ·rcases nF hkd with rfl|⟨o',rfl⟩
    ·rw[aq,fG (aq _ _ _) rfl rfl U]
    ·rw[av _ _ (ab o'),an,eH (aq _ _ _) rfl rfl U];cases ar:cs[o']? with
     | none=>rfl
     | some d0 =>
      cases d0 with
      | nx n' xs =>
       obtain⟨rfl,_,_⟩:=Y o' n' xs ar;exact absurd ((hS _).2 ⟨o',xs,rfl,ar⟩) hk
      | _=>rfl
   ·rw[av _ _ (fun e=>hkd (by rw[e,gQ (by omega)]))];exact dZ (by rw[av _ _ hkd,av _ _ hkd])) (fun y r g hy hm hg j x s' n' O hs=>by
   obtain⟨o',xs,rfl,ah⟩:=(hS _).1 hs;obtain⟨⟨p1,p2⟩,u,p3,_⟩:=hB.pha y r g hy hm hg j _ s' n' O;rcases p2 with p2|p2
   ·have:=eS d o';omega
   obtain⟨rfl,rfl⟩:=rG U p1 p2;rw[aq]at hy hg;cases hy;cases hg;simp only[ajn,agA]at O;obtain⟨d0,X,he⟩:=O;obtain⟨aA,rfl,_,rfl⟩:=pH he;obtain⟨k1,_,k3⟩:=Y o' n' aA X;have ak:=(ag5.1 X).1;refine⟨_,aT aa (by omega),k1,none,?_⟩;rw[ahr];exact k3)
 have aB:¬S d:=fun hs=>by
  obtain⟨o',_,he,_⟩:=(hS d).1 hs;exact ab o' he.symm
 refine aL (v := .pointer (some ⟨w.heap.size,0,none⟩)) (w':=w.alloc (.cells vs ty)) ?_ ⟨fun k=>if S k then none else bI blk d (some (w.heap.size,0)) k,?_,?_⟩
 ·rw[ad];simp[execOp,ho,Instr.alloc,aw,newVar,newRow,ax]
 ·refine hC.weaken fun x v hx =>?_;rcases hx with hx|⟨rfl,rfl⟩
  ·exact .inl hx
  ·exact .inr ⟨hd,rfl⟩
 ·exact⟨.inr ⟨hd,rfl⟩,fun r hr hv=>⟨(w.heap.size,0),by simp only;rw[if_neg aB,aq],rfl⟩⟩
theorem XD (hT:ig P T) (hI:Inv N M L w0 blk V t (EH h) a w) {ty:Nat} {p:Operand} {τ:Ty} {E:bF} (ho:o.op=.load ty p) (hτ:T ty=some τ) (O:oY τ h (ev t p)=some E):dY P o a w (je N M L w0 V t h a e o.dst E):=by
 have hp:=hI.ev p;generalize ai:ev t p=q at *;unfold oY at O;split at O<;>try (cases O;done)
 rename_i x v c;split at O<;>try (cases O;done)
 rename_i r ty' s nv cs hl;obtain⟨hx,hv,hz,hm,U,hc⟩:=gZ hl;have ab:=fG hx hm hc U;obtain⟨g,hg,ad⟩:=hp.2 _ ab hv;split at O<;>try (cases O;done)
 rename_i X;obtain⟨_,rfl,c1,_,c2⟩:=X;unfold Q1 at O;split at O<;>try (cases O;done)
 rename_i d hd;simp only[agL]at O;subst O;obtain⟨hF,_⟩:=hI.ac0 (o:=0) hx hm hc hz U τ.size (by rw[ah6,ah5 (by omega)];exact c2);have ae:bI h x (some (⟨r.v,r.ty,[.nr ty' s nv (mD τ.size 0 cs)],false,r.lst,true⟩:Row)) x=some ⟨r.v,r.ty,[.nr ty' s nv (mD τ.size 0 cs)],false,r.lst,true⟩:=aq _ _ _;have aj:(mD τ.size 0 cs).length=cs.length:=by simp[mD]
 have ag:At w (Own M (EH (bI h x (some ⟨r.v,r.ty,[.nr ty' s nv (mD τ.size 0 cs)],false,r.lst,true⟩))) blk) g.1 (g.2+0) (cs.map We):=by
  intro j d1 hj;rw[agz,agA]at hj;obtain⟨d0,Y,rfl⟩:=hj;have ah:=agN.1 c2 d0 (ag4 Y);have ak:=(ag5.1 Y).1;have Z:fa (We d0)=true:=by
   cases d0<;>first|rfl|exact ah
  have aa:(mD τ.size 0 cs)[0+j]? = some (We d0):=by
   rw[ahr,vv,Y];simp only[Option.map_some];rw[if_pos (by omega)]
  obtain⟨arr,k1,k2,k3⟩:=hF.AU ae rfl rfl U hg;have al:=(ag5.1 aa).1;refine⟨(fb Z).1,_,?_,k3 _ _ aa Z⟩;rw[agX];exact aT k1 (by omega)
 have:=pX (e:=e) (o:=o) hT hF ho hτ ad ag (by rw[ag6];exact c1) hd;exact this
end
def JB (e d:Nat):Option (Nat×Nat×Nat×Nat×Nat×List D)->Option bF
 | some (ty,t,s,S,n,cs)=>if d<PK then some ⟨.buf d e S 0 n,[(d,some ⟨e,ty,[.nr t s (4*e+2) cs],false,true,true⟩)]⟩ else none
 | none=>none
def GG (p:List D->Option (Nat×Nat×Nat×Nat×Nat×List D)) (e d:Nat):Option (List D×List Nat)->Option bF
 | some (agx,[])=>JB e d (p agx)
 | _=>none
theorem wo {p:List D->Option (Nat×Nat×Nat×Nat×Nat×List D)} {e d:Nat} {c:Option (List D×List Nat)} {E:bF} (O:GG p e d c=some E):∃agx ty t s S n cs,c=some (agx,[])∧p agx=some (ty,t,s,S,n,cs)∧d<PK∧E=⟨.buf d e S 0 n,[(d,some ⟨e,ty,[.nr t s (4*e+2) cs],false,true,true⟩)]⟩:=by
 unfold GG at O;split at O<;>try (cases O;done)
 rename_i agx;unfold JB at O;split at O<;>try (cases O;done)
 rename_i ty t s S n cs U;split at O<;>try (cases O;done)
 rename_i X;exact⟨agx,ty,t,s,S,n,cs,rfl,U,X,by simpa using O.symm⟩
section
variable {P:Program} {T:Nat->Option Ty} {N:Nat} {M:Nat->Prop} {L:jg} {w0:World} {blk:Nat->Option (Nat×Nat)} {V:Nat->Nat->Prop} {t:Nat->D} {h:Nat->Option Row} {a:Act} {w:World} {e:Nat} {o:Oper} {Γ:Env}
theorem Xh (hΓ:bH P Γ) (hI:Inv N M L w0 blk V t (EH h) a w) {g d:Nat} {dst:Option Nat} {p:List D->Option (Nat×Nat×Nat×Nat×Nat×List D)} {args:List D} {vs:Array Value} {E:bF} (hd:dst=some d) (hV:iR N V d e) (aC:∀o',¬V (NK d o') (4*e+2)) (hp:Γ.nx.res g=some p)
  (hE:GG p e d (bx (EH h) args)=some E) (aD:vs.size=args.length) (hr:∀(j:Nat) d,args[j]? = some d->RT w (Own M (EH h) blk) (EH h) blk V d (vs.getD j undef)):dX P g∧Calls P g vs w fun e' w'=>∃v,e'=.returned v∧je N M L w0 V t h a e dst E v w':=by
 obtain⟨agx,ty,ti,s,S,n,cs,aE,hs,U,rfl⟩:=wo hE;obtain⟨aF,ag⟩:=hΓ.res g p hp;refine⟨aF,?_⟩;have an:=hI.Cr aE ⟨fun b h=>h,fun x hx=>by cases hx⟩ aD hr;refine (ag _ _ _ _ _ _ _ hs w (Own M (EH h) blk) _ vs rfl (fun b hb=>hI.xa hb) an).mono fun e' w' Y =>?_;obtain⟨u,O,he,hbel,az,hR,hu⟩:=Y;refine⟨u,he,nC blk O d,?_⟩;have hA:=hI.le (xI (h:=h) d U);generalize ao:bI h d (some (⟨e,ty,[.nr ti s (4*e+2) cs],false,true,true⟩:Row))=h2;have aG:aO h [(d,some (⟨e,ty,[.nr ti s (4*e+2) cs],false,true,true⟩:Row))]=h2:=by rw[<- ao];rfl
 rw[aG];have Z:h2 d=some ⟨e,ty,[.nr ti s (4*e+2) cs],false,true,true⟩:=by rw[<- ao,aq]
 have aH:∀k,rt k=d->EH (bI h d none) k=none:=fun k hk=>Sc (by rw[hk,aq]);have aj:∀k,rt k≠d->EH h2 k=EH (bI h d none) k:=fun k hk=>dZ (by rw[<- ao,av _ _ hk,av _ _ hk]);have ak:∀k,rt k≠d->nC blk O d k=blk k:=fun k hk=>if_neg hk;have ah:nC blk O d d=O 0:=by unfold nC;rw[if_pos (yt U),s8]
 have ar:∀o,nC blk O d (NK d o)=O (NK 0 o):=fun o=>by unfold nC;rw[if_pos (sO U),kp U]
 have aa:∀k r',rt k=d->EH h2 k=some r'->∃r1,EH (mC (iV ty ti s 0 cs)) (FJ d k)=some r1∧nC blk O d k=O (FJ d k):=by
  intro k r' hk he;have hq:nC blk O d k=O (FJ d k):=if_pos hk;rcases eA Z rfl rfl U hk he with⟨rfl,_⟩|⟨o,n,xs,rfl,ho,_⟩
  ·rw[s8]at hq ⊢;exact⟨_,uh,hq⟩
  ·rw[kp U]at hq ⊢;exact⟨_,ss ho,hq⟩
 have al:∀b,Own M (EH h2) (nC blk O d) b->Own M (EH h) blk b∨uN O (EH (mC (iV ty ti s 0 cs))) b:=by
  intro b au;rcases au with au|⟨k,r',g,hk,aI,Y,he⟩
  ·exact .inl (.inl au)
  ·by_cases ai:rt k=d
   ·obtain⟨r1,q1,q2⟩:=aa k r' ai hk;exact .inr ⟨_,r1,g,q1,by rw[<- q2];exact Y,he⟩
   ·rw[aj k ai]at hk;rw[ak k ai]at Y;refine .inl (.inr ⟨k,r',g,?_,aI,Y,he⟩);rw[<- hk];exact dZ (by rw[av _ _ ai])
 have aA:∀ {g:Nat×Nat} {r1:Row},r1.mp=false->dU w' (fun b=>Own M (EH h) blk b∨uN O (EH (mC (iV ty ti s 0 cs))) b) g r1->dU w' (Own M (EH h2) (nC blk O d)) g r1:=by
  intro g r1 aJ hr;unfold dU at hr ⊢;rw[aJ]at hr ⊢;obtain⟨arr,k1,k2,k3⟩:=hr;exact⟨arr,k1,k2,fun j d hj=>⟨(k3 j d hj).1,(k3 j d hj).2.less al⟩⟩
 have ab:∀k r',rt k=d->EH h2 k=some r'->∀g,nC blk O d k=some g->w.heap.size<=g.1:=by
  intro k r' hk he g Y;obtain⟨r1,q1,q2⟩:=aa k r' hk he;exact az g.1 ⟨_,r1,g,q1,by rw[<- q2];exact Y,rfl⟩
 have aB:Inv N M L w0 (nC blk O d) (fun y v=>V y v∨(y=d∧v=e)) t (EH h2) a w':=by
  refine hA.acv (fun k=>rt k=d) (fun _ _ h =>.inl h) hbel.os hbel.tape hbel.output hbel.size (fun k hk _=>hbel.block k hk) (fun k r' hk he=>by rw[aH k hk]at he;cases he) (fun k hk=>⟨aj k hk,ak k hk⟩) ?_ ?_ ?_ ?_ ?_
  ·intro k r' hk he;rcases eA Z rfl rfl U hk he with⟨rfl,rfl⟩|⟨o,n,xs,rfl,ho,rfl⟩
   ·refine⟨rfl,fun hn =>.inr ⟨rfl,rfl⟩,?_⟩;rw[ah];have X:=hR.rows 0 _ uh;cases Y:O 0 with
    | none =>
     rw[Y]at X;have h1:cs.mapIdx (pO 0 s)=[]:=X;have h2:cs.length=0:=by
      have:=congrArg List.length h1;simpa using this
     show cs.mapIdx (pO k s)=[];rw[ahX h2];rfl
    | some g0 =>
     rw[Y]at X;have X:dU w' (fun b=>Own M (EH h) blk b∨uN O (EH (mC (iV ty ti s 0 cs))) b) g0 ⟨0,ty,cs.mapIdx (pO 0 s),false,true,true⟩:=X;refine⟨.inl (ab k _ hk he g0 (ah.trans Y)),?_⟩;unfold dU at X ⊢;simp only at X ⊢;rcases X with⟨ks,vs,k1,_⟩|⟨_,arr,k2,k3,k4⟩
     ·exfalso;simp only at k1;have hl:cs.length=1:=by
       have:=congrArg List.length k1;simpa using this
      match cs,hl with
      | [d],_ =>
       simp only[List.mapIdx_cons,List.mapIdx_nil,ag0,and_true]at k1;have:=ky 0 s 0 d;rw[k1]at this;cases this
     ·refine .inr ⟨fun d hd =>?_,arr,k2,by simpa using k3,fun j d hj =>?_⟩
      ·obtain⟨j,hj⟩:=agY hd;simp only[ajn,agA]at hj;obtain⟨d0,ad,rfl⟩:=hj;exact ky _ _ _ _
      ·simp only[ajn,agA]at hj;obtain⟨d0,ad,rfl⟩:=hj
       by_cases ae:fa d0=true
       ·rw[jD ae];have aK:(cs.mapIdx (pO 0 s))[j]? = some d0:=by rw[ajn,ad];exact congrArg some (jD ae)
        exact (fb ae).2.2.2 (((fb ae).2.2.1 (k4 j _ aK)).less al)
       ·cases d0<;>first|trivial|exact absurd rfl ae
   ·refine⟨rfl,fun hn=>by have:=eS d o;have:=hI.big;have:=cv;omega,?_⟩;have X:=hR.rows _ _ (ss ho);rw[ar];cases Y:O (NK 0 o) with
    | none=>rw[Y]at X;exact X
    | some g =>
     rw[Y]at X;refine⟨.inl (ab _ _ hk he g ((ar o).trans Y)),aA rfl ?_⟩;obtain⟨arr,k1,k2,k3⟩:=X;exact⟨arr,k1,k2,k3⟩
  ·intro k l r1 r2 g g' hk hl he aw Y aL aM;obtain⟨q1,p1,p2⟩:=aa k r1 hk he;obtain⟨q2,p3,p4⟩:=aa l r2 hl aw;have e1:=hR.inj _ _ _ _ g g' p1 p3 (by rw[<- p2];exact Y) (by rw[<- p4];exact aL) aM;rcases eA Z rfl rfl U hk he with⟨rfl,_⟩|⟨o,n,xs,rfl,ho,_⟩
   ·rcases eA Z rfl rfl U hl aw with⟨rfl,_⟩|⟨o',n',aN,rfl,aP,_⟩
    ·rfl
    ·rw[s8,kp U]at e1;have:=eS 0 o';have:=cv;omega
   ·rcases eA Z rfl rfl U hl aw with⟨rfl,_⟩|⟨o',n',aN,rfl,aP,_⟩
    ·rw[s8,kp U]at e1;have:=eS 0 o;have:=cv;omega
    ·rw[kp U,kp U]at e1;rw[(rG mf mf e1).2]
  ·intro k r' hk hv he;rcases eA Z rfl rfl U hk he with⟨rfl,rfl⟩|⟨o,n,xs,rfl,ho,rfl⟩
   ·exact absurd hv hV.no
   ·exact absurd hv (aC o)
  ·intro k r' g hk he ax Y j x' s' n hj;rcases eA Z rfl rfl U hk he with⟨rfl,rfl⟩|⟨o,n',xs,rfl,ho,rfl⟩;rotate_left
   ·cases ax
   simp only[ajn,agA]at hj;obtain⟨d0,ad,aQ⟩:=hj;obtain⟨aR,rfl,rfl,rfl⟩:=pH aQ;rw[ah]at Y;obtain⟨_,u,k1,k2⟩:=hR.pha 0 _ g uh rfl Y j (NK 0 j) s' n (by simp only[ajn,ad,Option.map_some,pO]);refine⟨⟨U,.inr rfl⟩,u,k1,fun _ _ =>?_⟩;have:=k2 _ (ss ad);rw[ar];exact this
  ·intro y r' j x' s' n hy he ax hj ay;have hrow:=(hA.rows y r' he).2;cases Y:blk y with
   | none =>
    rw[Y]at hrow;have hrow:r'.cells=[]:=hrow;rw[hrow]at hj;cases hj
   | some g =>
    obtain⟨q1,q2⟩:=(hA.pha y r' g he ax Y j x' s' n hj).1;rcases q2 with rfl|rfl
    ·have:rt (PK+y)=PK+y:=gQ (by omega);rw[this]at ay;omega
    ·rw[sO q1]at ay;rw[yt q1]at hy;exact hy ay
 refine⟨aB.weaken fun x v hx =>?_,.inr ⟨hd,rfl⟩,fun r' _ _ =>?_⟩
 ·rcases hx with hx|⟨rfl,rfl⟩
  ·exact .inl hx
  ·exact .inr ⟨hd,rfl⟩
 ·rw[ah];exact hu.2 ⟨0,0,[],false,false,false⟩ rfl rfl
theorem C0 (hI:Inv N M L w0 blk V t h a w) {c:Call} {f:Operand} {g:Nat} (ho:o.op=.call c) (hc:c.callee=.value f) (hf:ev t f=.fn g) {Φ:Value->World->Prop}
  (hk:∀vs:Array Value,vs.size=(c.args.toList.map (ev t)).length->(∀(j:Nat) d,(c.args.toList.map (ev t))[j]? = some d->RT w (Own M h blk) h blk V d (vs.getD j undef))->dX P g∧Calls P g vs w fun e' w'=>∃v,e'=.returned v∧Φ v w'):dY P o a w Φ:=by
 have Y:=hI.ev f;have U:∀(j:Nat) d,(c.args.toList.map (ev t))[j]? = some d->RT w (Own M h blk) h blk V d ((c.args.map a.eval).getD j undef):=by
  intro j d hj;rw[agz]at hj;cases hx:c.args.toList[j]? with
  | none=>simp[hx]at hj
  | some x =>
   simp only[hx,Option.map_some,agL]at hj;subst hj;have:(c.args.map a.eval).getD j undef=a.eval x:=by
    have aa:c.args[j]? = some x:=by simpa using hx
    simp[aa]
   rw[this];exact hI.ev x
 have ab:(c.args.map a.eval).size=(c.args.toList.map (ev t)).length:=by simp
 rw[hf]at Y;have Z:a.eval f=.func (.func g) #[] #[]:=by
  have ad:RP w (Own M h blk) (.fn g) (a.eval f):=Y;generalize a.eval f=u at *;cases ad;rfl
 obtain⟨⟨fn,ae,X,O⟩,h2⟩:=hk _ ab U;have hn:¬fn.name = "runtime.NumGoroutine":=by simpa using X
 have hb:¬fn.body=none:=by
  intro h0;rw[h0]at O;cases O
 exact .inr (.inr ⟨g,#[]++c.args.map a.eval++#[],by simp[execOp,ho,resolve,hc,Z,Deferred.ofValue,invoke,callFunc,program,Sem.run,ae,hn,hb],by simpa using h2⟩)
end
def gX (vs:Operand->D):Op->Option (D×List D)
 | .call c=>match c.callee with | .value f=>some (vs f,c.args.toList.map vs)|_=>none
 | _=>none
theorem mQ {vs:Operand->D} {op:Op} {q:D} {args:List D} (O:gX vs op=some (q,args)):∃c f,op=.call c∧c.callee=.value f∧q=vs f∧args=c.args.toList.map vs:=by
 unfold gX at O;split at O<;>try (cases O;done)
 rename_i c;split at O<;>try (cases O;done)
 rename_i f U;simp only[agL,Prod.mk.injEq]at O;exact⟨c,f,rfl,U,O.1.symm,O.2.symm⟩
def AG (Γ:Env) (e:Nat) (h:Nat->Option Row):Option (D×List D)->Option bF
 | some (.fn g,args)=>qM Γ e h g args
 | _=>none
def Dh (e d:Nat) (h:Nat->Option Row) (args:List D):Option (List D->Option (Nat×Nat×Nat×Nat×Nat×List D))->Option bF
 | some p=>GG p e d (bx (EH h) args)
 | none=>none
def lT (Γ:Env) (e:Nat) (h:Nat->Option Row):Option Nat->Option (D×List D)->Option bF
 | some d,some (.fn g,args)=>Dh e d h args (Γ.nx.res g)
 | _,_=>none
def tB (T:Nat->Option Ty) (Γ:Env) (e:Nat) (o:Oper) (vs:Operand->D) (h:Nat->Option Row):Option bF :=
 match o.op with
 | .load ty p=>match T ty with|some τ=>tA τ h (vs p)|none=>none
 | .store ty p x=>match T ty with|some τ=>tC τ e h (vs p) (vs x)|none=>none
 | .call c=>AG Γ e h (gX vs (.call c))
 | _=>none
def or2 (h:Nat->Option Row):Option bF->Option bF->Option bF
 | some ⟨v,hw⟩,_=>some ⟨v,jW h hw⟩
 | none,y=>y
def nX (T:Nat->Option Ty) (Γ:Env) (e:Nat) (o:Oper) (vs:Operand->D) (h:Nat->Option Row):Option bF :=
 match gA T Γ e o vs with
 | some E=>some E
 | none =>
  match lT Γ e h o.dst (gX vs o.op) with
  | some E=>some E
  | none=>or2 h (lS T Γ e o vs (EH h)) (tB T Γ e o vs h)
def bq (o:Oper) (vs:Operand->D):List Nat:=(gu o vs).map rt
def VE (N e:Nat) (done:List Nat) (h:Nat->Option Row) (x v:Nat):Prop:=(x<N∧(v<e∨(v=e∧x∈done))) ∨
 (2*PK<=x∧v<=4*e+3∧(x % PK∉done->v<=4*e+1)∧∀r ty s nv cs,h (x % PK)=some r->r.mp=true->r.cells=[.nr ty s nv cs]->v<=nv)
def FG (e:Nat) (done:List Nat) (h:Nat->Option Row):Prop:=∀x r ty s nv cs,h x=some r->r.mp=true->r.cells=[.nr ty s nv cs]->x<PK->nv<=4*e+3∧(x∉done->nv<=4*e+1)
def gH (e:Nat) (h h':Nat->Option Row):Prop:=∀x r' ty' U O cs',h' x=some r'->r'.mp=true->r'.cells=[.nr ty' U O cs']->x<PK->∃r ty s nv cs,h x=some r∧r.mp=true∧r.cells=[.nr ty s nv cs]∧(O=nv∨bump nv e=some O)
theorem gH.refl (e:Nat) (h:Nat->Option Row):gH e h h:=fun x r ty s nv cs O hm U _=>⟨r,ty,s,nv,cs,O,hm,U,.inl rfl⟩
theorem JA {nv e O:Nat} (h:bump nv e=some O):nv<O∧(O=4*e+1∨(nv=4*e+2∧O=4*e+3)):=by
 unfold bump at h;split at h
 ·cases h;omega
 ·split at h
  ·cases h;omega
  ·cases h
theorem FG.step {e:Nat} {done O:List Nat} {h h':Nat->Option Row} (hN:FG e done h) (hr:gH e h h') (Z:∀x,x∈done->x∈O):FG e O h':=by
 intro x r' ty' s' U cs' hx hm hc hp;obtain⟨r,ty,s,nv,cs,k1,k2,k3,X⟩:=hr x r' ty' s' U cs' hx hm hc hp;obtain⟨q1,q2⟩:=hN x r ty s nv cs k1 k2 k3 hp;rcases X with rfl|X
 ·exact⟨q1,fun hn=>q2 fun h=>hn (Z x h)⟩
 ·obtain⟨b1,Y⟩:=JA X;refine⟨by omega,fun hn =>?_⟩;rcases Y with Y|⟨Y,b3⟩
  ·omega
  ·have:=q2 fun h=>hn (Z x h);omega
theorem VE.step {N e:Nat} {done O:List Nat} {h h':Nat->Option Row} (hr:gH e h h') (hd:∀x,x∈done->x∈O) {x v:Nat} (hv:VE N e done h x v):VE N e O h' x v:=by
 rcases hv with⟨h1,h2⟩|⟨h1,h2,h3,h4⟩
 ·exact .inl ⟨h1,h2.imp id fun⟨U,X⟩=>⟨U,hd x X⟩⟩
 ·refine .inr ⟨h1,h2,fun hn=>h3 fun h=>hn (hd _ h),fun r' ty' s' Y cs' k1 k2 k3 =>?_⟩;obtain⟨r,ty,s,nv,cs,U,X,q3,Z⟩:=hr _ r' ty' s' Y cs' k1 k2 k3 (H8 _);have:=h4 r ty s nv cs U X q3;rcases Z with rfl|Z
  ·exact this
  ·have:=(JA Z).1;omega
theorem FG.ad5 {N e:Nat} {done:List Nat} {h:Nat->Option Row} (hN:FG e done h):VNr (VE N e done h) h:=by
 intro x r ty s nv cs U hm X O o;obtain⟨q1,q2⟩:=hN x r ty s nv cs U hm X O;refine .inr ⟨eS x o,q1,by rw[rH o O];exact q2,fun r' ty' s' aa cs' Y k2 Z =>?_⟩;rw[rH o O,U]at Y;cases Y;rw[X]at Z;cases Z;exact agC _
theorem FG.new {N e:Nat} {done:List Nat} {h:Nat->Option Row} (hN:FG e done h) (hb:N<=PK):aat (VE N e done h) h e:=by
 intro x r ty s nv cs U X hm Y Z O o hv;have aa:=eS x o;have:=cv;rcases hv with⟨h1,_⟩|⟨_,_,_,h4⟩
 ·omega
 ·have h5:=h4 r ty s nv cs (by rw[rH o Z];exact X) hm Y;have h6:=(JA O).1;omega
theorem MF (e:Nat):∀(l:List (Nat×Option Row)) (h:Nat->Option Row),gH e h (aO h (jW h l))
 | [],h =>.refl e h
 | (k,r)::l,h=>by
  intro x r' ty' s' ad cs' hx hm hc hp;obtain⟨r1,Y,s1,Z,aa,O,k2,X,k4⟩:=MF e l (bI h (rt k) (yp h k r)) x r' ty' s' ad cs' hx hm hc hp
  by_cases U:x=rt k
  rotate_left
  ·rw[av _ _ U]at O;exact⟨r1,Y,s1,Z,aa,O,k2,X,k4⟩
  ·rw[U,aq]at O;unfold yp at O;split at O
   ·exfalso;obtain⟨_,h2,_⟩:=zA (o:=0) O;unfold Eg at O;split at O
    ·split at O
     ·split at O
      ·cases O
      ·rename_i ae;simp only[agL]at O;subst O;exact ae _ _ _ _ X
     ·rename_i ag;simp only[agL]at O;subst O;exact ag k2
    ·cases O
   ·rename_i ah;have ab:rt k=k % PK:=by unfold rt;rw[if_neg ah]
    rw[agA]at O;obtain⟨q,q1,q2⟩:=O;unfold ET at q2;split at q2
    ·rename_i ai;split at q2
     ·rename_i ty s nv cs aj;subst q2;simp only at X;refine⟨q,ty,s,nv,cs,by rw[U,ab];exact q1,ai,aj,?_⟩;unfold zN at X;split at X<;>(simp only[ag0,D.nr.injEq,and_true]at X;obtain⟨rfl,rfl,rfl,_⟩:=X;exact k4)
     ·subst q2;exact⟨q,Y,s1,Z,aa,by rw[U,ab];exact q1,k2,X,k4⟩
    ·subst q2;exact⟨q,Y,s1,Z,aa,by rw[U,ab];exact q1,k2,X,k4⟩
section
variable {P:Program} {T:Nat->Option Ty} {N:Nat} {M:Nat->Prop} {L:jg} {w0:World} {blk:Nat->Option (Nat×Nat)} {t:Nat->D} {h h':Nat->Option Row} {a:Act} {w:World} {e:Nat} {o:Oper} {Γ:Env} {done:List Nat}
theorem gH.set {x:Nat} {r r':Row} {ty s nv O ty' s':Nat} {cs cs':List D} (hx:h x=some r) (hm:r.mp=true) (hc:r.cells=[.nr ty s nv cs]) (Z:r'.cells=[.nr ty' s' O cs']) (hn:O=nv∨bump nv e=some O):gH e h (bI h x (some r')):=by
 intro y r1 aa s1 ab ad Y ae U hp
 by_cases X:y=x
 ·subst X;rw[aq]at Y;cases Y;rw[Z]at U;cases U;exact⟨r,ty,s,nv,cs,hx,hm,hc,hn⟩
 ·rw[av _ _ X]at Y;exact⟨r1,aa,s1,ab,ad,Y,ae,U,.inl rfl⟩
theorem gH.drop {y:Nat} (Y:gH e (bI h y none) h'):gH e h h':=by
 intro x r' ty' Z X cs' hx hm hc hp;obtain⟨r,ty,s,nv,cs,U,k⟩:=Y x r' ty' Z X cs' hx hm hc hp
 by_cases O:x=y
 ·subst O;rw[aq]at U;cases U
 ·rw[av _ _ O]at U;exact⟨r,ty,s,nv,cs,U,k⟩
theorem Hi {τ:Ty} {d:D} {E:bF} (O:oZ τ h d=some E):E.hw=[]:=by
 unfold oZ at O;split at O<;>try (cases O;done)
 split at O<;>try (cases O;done)
 unfold DY at O;split at O
 ·split at O<;>try (cases O;done)
  cases O;rfl
 ·split at O<;>try (cases O;done)
  split at O<;>try (cases O;done)
  cases O;rfl
 ·cases O
theorem Qv {τ:Ty} {d:D} {E:bF} (O:oY τ h d=some E):gH e h (aO h E.hw):=by
 unfold oY at O;split at O<;>try (cases O;done)
 split at O<;>try (cases O;done)
 rename_i r ty s nv cs U;obtain⟨X,hv,hz,hm,Y,Z⟩:=gZ U;split at O<;>try (cases O;done)
 unfold Q1 at O;split at O<;>try (cases O;done)
 cases O;exact gH.set X hm Z rfl (.inl rfl)
theorem Qy {τ:Ty} {p d:D} {E:bF} (O:pe τ e h p d=some E):gH e h (aO h E.hw):=by
 unfold pe at O;split at O<;>try (cases O;done)
 split at O<;>try (cases O;done)
 rename_i r ty s nv cs U;obtain⟨X,hv,hz,hm,Y,Z⟩:=gZ U;split at O<;>try (cases O;done)
 unfold Rv at O;split at O<;>try (cases O;done)
 split at O<;>try (cases O;done)
 unfold stZ at O;split at O<;>try (cases O;done)
 rename_i aa cs' hb _;cases O;exact gH.set X hm Z rfl (.inr hb)
theorem Qx {τ:Ty} {p d:D} {E:bF} (O:mm τ e h p d=some E):gH e h (aO h E.hw):=by
 unfold mm at O;split at O<;>try (cases O;done)
 rename_i y0 v0 c0;split at O<;>try (cases O;done)
 rename_i r ty s nv cs hl;obtain⟨Y,hv,hz,hm,aa,Z⟩:=gZ hl;split at O<;>try (cases O;done)
 have plain:∀ {c':Option (List D)},zS τ y0 r ty s nv cs c0 c'=some E->gH e h (aO h E.hw):=by
  intro c' O;unfold zS at O;split at O<;>try (cases O;done)
  split at O<;>try (cases O;done)
  cases O;exact gH.set Y hm Z rfl (.inl rfl)
 unfold vG at O;split at O
 ·rename_i yq vq sq oq nq;split at O<;>try (cases O;done)
  split at O
  ·split at O<;>try (cases O;done)
   unfold zQ at O;split at O<;>try (cases O;done)
   split at O<;>try (cases O;done)
   cases O;exact gH.set Y hm Z rfl (.inl rfl)
  ·split at O<;>try (cases O;done)
   split at O<;>try (cases O;done)
   rename_i q U;split at O<;>try (cases O;done)
   unfold zR at O;split at O<;>try (cases O;done)
   rename_i ab hb;cases O;obtain⟨X,ad⟩:=cq U;refine gH.drop (y:=yq) ?_;exact gH.set (by
    rw[av]
    ·exact Y
    ·rintro rfl;rw[Y]at X;cases X;have:=gM U;rw[hm]at this;cases this) hm Z rfl (.inr hb)
 ·exact plain O
structure rF (N:Nat) (M:Nat->Prop) (L:jg) (w0:World) (blk:Nat->Option (Nat×Nat)) (e:Nat) (done:List Nat) (t:Nat->D) (h:Nat->Option Row) (a:Act) (w:World):Prop where
 inv:Inv N M L w0 blk (VE N e done h) t (EH h) a w
 nv:FG e done h
def Ca (N:Nat) (M:Nat->Prop) (L:jg) (w0:World) (t:Nat->D) (h:Nat->Option Row) (a:Act) (e:Nat) (done:List Nat) (E:bF) (v:Value) (w':World):Prop :=
 ∃blk',rF N M L w0 blk' e done t (aO h E.hw) a w'∧RT w' (Own M (EH (aO h E.hw)) blk') (EH (aO h E.hw)) blk' (VE N e done (aO h E.hw)) E.val v
theorem Qu (hT:ig P T) (hΓ:bH P Γ) (hI:rF N M L w0 blk e done t h a w) (hd:∀d:Nat,o.dst=some d->d∉done∧d<N) {E:bF} (X:nX T Γ e o (ev t) h=some E):dY P o a w (Ca N M L w0 t h a e (o.dst.toList++done) E):=by
 have aa:=hI.inv.big;have aF:=cv;have hV:∀d:Nat,o.dst=some d->iR N (VE N e done h) d e:=by
  intro d aD;obtain⟨q1,q2⟩:=hd d aD;replace q2:(d:Nat)<N:=q2;refine⟨fun hv =>?_,q2⟩;rcases hv with⟨_,hv|⟨_,hv⟩⟩|⟨hv,_⟩
  ·omega
  ·exact q1 hv
  ·omega
 have hP:∀x v,VE N e done h x v->x<N∨2*PK<=x:=fun x v hv=>hv.imp (fun h=>h.1) (fun h=>h.1);have ab:∀x,x∈done->x∈o.dst.toList++done:=fun x hx=>agR _ hx;have fin:gH e h (aO h E.hw)->∀ {v:Value} {w':World},je N M L w0 (VE N e done h) t h a e o.dst E v w'->Ca N M L w0 t h a e (o.dst.toList++done) E v w':=by
  intro ao v w' Y;obtain⟨blk',h1,h2⟩:=Y;have ai:∀x n,VE N e done h x n∨(o.dst=some x∧n=e)->VE N e (o.dst.toList++done) (aO h E.hw) x n:=by
   rintro x n (hv|⟨hx,rfl⟩)
   ·exact hv.step ao ab
   ·exact .inl ⟨(hd x hx).2,.inr ⟨rfl,agQ _ (by rw[hx];simp)⟩⟩
  refine⟨blk',⟨h1.weaken ai,hI.nv.step ao ab⟩,h2.mono ⟨fun _ h1 h2=>⟨h1,h2,rfl⟩,ai,fun _ _ _ r' h1 h2=>⟨⟨r',h1,h2⟩,rfl,fun _ _=>rfl⟩⟩⟩
 have fin2:∀ {E0:bF} {d:Nat} {r0:Row} {ty' s:Nat} {al:List D},o.dst=some d->E0.hw=[(d,some r0)]->r0.mp=true->r0.cells=[.nr ty' s (4*e+2) al]->∀ {v:Value} {w':World},je N M L w0 (VE N e done h) t h a e o.dst E0 v w'->Ca N M L w0 t h a e (o.dst.toList++done) E0 v w':=by
  intro E0 d r0 ty' s al O aj an Z v w' Y;obtain⟨blk',h1,h2⟩:=Y;obtain⟨ag,ak⟩:=hd d O;have aB:aO h E0.hw=bI h d (some r0):=by rw[aj];rfl
  have ai:∀x n,VE N e done h x n∨(o.dst=some x∧n=e)->VE N e (o.dst.toList++done) (aO h E0.hw) x n:=by
   rintro x n (hv|⟨hx,rfl⟩)
   ·rcases hv with⟨q1,q2⟩|⟨q1,q2,q3,q4⟩
    ·exact .inl ⟨q1,q2.imp id fun⟨p1,p2⟩=>⟨p1,ab _ p2⟩⟩
    ·refine .inr ⟨q1,q2,fun hn=>q3 fun h=>hn (ab _ h),fun r' ar s1 au aw k1 k2 k3 =>?_⟩;rw[aB]at k1
     by_cases ah:x % PK=d
     ·rw[ah,aq]at k1;cases k1;rw[Z]at k3;cases k3;have:=q3 (by rw[ah];exact ag);omega
     ·rw[av _ _ ah]at k1;exact q4 r' ar s1 au aw k1 k2 k3
   ·exact .inl ⟨(hd x hx).2,.inr ⟨rfl,agQ _ (by rw[hx];simp)⟩⟩
  refine⟨blk',⟨h1.weaken ai,?_⟩,h2.mono ⟨fun _ h1 h2=>⟨h1,h2,rfl⟩,ai,fun _ _ _ r' h1 h2=>⟨⟨r',h1,h2⟩,rfl,fun _ _=>rfl⟩⟩⟩;intro x r' ar s1 au aw k1 k2 k3 hp;rw[aB]at k1
  by_cases ah:x=d
  ·subst ah;rw[aq]at k1;cases k1;rw[Z]at k3;cases k3;exact⟨by omega,fun hn=>absurd (agQ _ (by rw[O];simp)) hn⟩
  ·rw[av _ _ ah]at k1;obtain⟨p1,p2⟩:=hI.nv x r' ar s1 au aw k1 k2 k3 hp;exact⟨p1,fun hn=>p2 fun h=>hn (ab _ h)⟩
 have aC:∀d:Nat,o.dst=some d->∀o',¬VE N e done h (NK d o') (4*e+2):=by
  intro d O o' hv;obtain⟨ag,ak⟩:=hd d O;have ax:(d:Nat)<PK:=agF ak aa;rcases hv with⟨hv,_⟩|⟨_,_,hv,_⟩
  ·have:=eS d o';omega
  ·have:=hv (by rw[rH o' ax];exact ag);omega
 unfold nX at X;split at X
 ·rename_i E0 U;simp only[agL]at X;subst X;unfold gA at U;split at U<;>try (cases U;done)
  rotate_left
  ·rename_i ty ho;split at U<;>try (cases U;done)
   rename_i d O;split at U<;>try (cases U;done)
   rename_i ty' s f hn;split at U<;>try (cases U;done)
   rename_i τ hτ;obtain⟨ag,ak⟩:=hd d O;have Y:=XG hT hI.inv ho O (hV d O) (aC d O) hτ U;obtain⟨r0,aj,an,Z⟩:∃r0:Row,E0.hw=[(d,some r0)]∧r0.mp=true∧∃cs,r0.cells=[.nr ty' s (4*e+2) cs]:=by
    unfold mkA at U;split at U<;>try (cases U;done)
    cases U;exact⟨_,rfl,rfl,_,rfl⟩
   obtain⟨al,Z⟩:=Z;exact Y.mono fun v w' Y=>fin2 O aj an Z Y
  rename_i ty l c ho;split at U<;>try (cases U;done)
  rename_i d O;split at U<;>try (cases U;done)
  rename_i ty' s f hn;split at U<;>try (cases U;done)
  rename_i τ hτ;obtain⟨ag,ak⟩:=hd d O;have Y:=XH hT hI.inv ho O (hV d O) (fun o' hv=>by
   have ax:(d:Nat)<PK:=agF ak aa;rcases hv with⟨hv,_⟩|⟨_,_,hv,_⟩
   ·have:=eS d o';omega
   ·have:=hv (by rw[rH o' ax];exact ag);omega) hτ U
  obtain⟨r0,aj,an,Z⟩:∃r0:Row,E0.hw=[(d,some r0)]∧r0.mp=true∧∃cs,r0.cells=[.nr ty' s (4*e+2) cs]:=by
   unfold yM at U;split at U<;>try (cases U;done)
   split at U<;>try (cases U;done)
   split at U<;>try (cases U;done)
   cases U;exact⟨_,rfl,rfl,_,rfl⟩
  obtain⟨al,Z⟩:=Z;exact Y.mono fun v w' Y=>fin2 O aj an Z Y
 split at X
 ·rename_i E0 ad;simp only[agL]at X;subst X;unfold lT at ad;split at ad<;>try (cases ad;done)
  rename_i d g args O ay;obtain⟨c,f,az,aA,hq,ae⟩:=mQ ay;unfold Dh at ad;split at ad<;>try (cases ad;done)
  rename_i p hp;obtain⟨_,ty',ti,s',S',n',cs',_,_,_,aE⟩:=wo ad;subst ae;have Y:=C0 hI.inv az aA hq.symm (fun vs q1 q2=>Xh hΓ hI.inv O (hV d O) (aC d O) hp ad q1 q2);refine Y.mono fun v w' Y =>?_;exact fin2 (r0:=⟨e,ty',[.nr ti s' (4*e+2) cs'],false,true,true⟩) O (by rw[aE]) rfl rfl Y
 ·unfold or2 at X;split at X
  ·rename_i v0 hw he;simp only[agL]at X;subst X;have Y:=Vh hT hΓ hI.inv hV hP he;exact Y.mono fun v w' Y=>fin (MF e hw h) (Y.le (MD hw h))
  ·unfold tB at X;split at X
   ·rename_i ty p ho;split at X<;>try (cases X;done)
    rename_i τ hτ;unfold tA orE at X;split at X
    ·rename_i E0 hF;simp only[agL]at X;subst X;exact (XD hT hI.inv ho hτ hF).mono fun v w' Y=>fin (Qv hF) Y
    ·exact (XE hT hI.inv hI.nv.ad5 ho hτ X).mono fun v w' Y=>fin (by rw[Hi X];exact .refl e h) Y
   ·rename_i ty p x ho;split at X<;>try (cases X;done)
    rename_i τ hτ;unfold tC orE at X;split at X
    ·rename_i E0 hF;simp only[agL]at X;subst X;exact (XK hT hI.inv (hI.nv.new aa) ho hτ hF).mono fun v w' Y=>fin (Qy hF) Y
    ·exact (XJ hT hI.inv (hI.nv.new aa) ho hτ X).mono fun v w' Y=>fin (Qx X) Y
   ·rename_i c ho;unfold AG at X;split at X<;>try (cases X;done)
    rename_i g args ay;obtain⟨c',f,az,aA,hq,ae⟩:=mQ ay;cases az;subst ae;refine (C0 hI.inv ho aA hq.symm (fun vs q1 q2=>Xj hΓ hI.inv (hI.nv.new aa) (dst:=o.dst) X q1 q2)).mono fun v w' Y=>fin ?_ Y;obtain⟨x,v,o',rest,r,ty,s,nv,cs,p,agx,aG,d,cs',_,hl,_,_,hb,_,_,rfl⟩:=rT X;obtain⟨hx,_,_,hm,_,hc⟩:=gZ hl;exact gH.set hx hm hc rfl (.inr hb)
   ·cases X
end
section
variable {T:Nat->Option Ty} {h h':Nat->Option Row} {e:Nat} {o:Oper} {Γ:Env}
theorem mZ {x v:Nat} (O:h x=h' x):fJ h x v=fJ h' x v:=by simp[fJ,O]
theorem lA {x v:Nat} {q:Row×Nat×Nat×Nat×List D} (O:fJ h x v=some q):x<PK:=by
 obtain⟨r,ty,s,nv,cs⟩:=q;exact (gZ O).2.2.2.2.1
theorem AM:∀(l:List (Nat×Option Row)) {h h':Nat->Option Row},(∀p∈l,h (rt p.1)=h' (rt p.1))->jW h l=jW h' l
 | [],_,_,_=>rfl
 | (k,r)::l,h,h',X=>by
  have hk:h (rt k)=h' (rt k):=X (k,r) (by simp);have Y:yp h k r=yp h' k r:=by
   unfold yp;split
   ·rfl
   ·rename_i O;have:rt k=k % PK:=by unfold rt;rw[if_neg O]
    rw[<- this,hk]
  unfold jW;rw[Y];congr 1;refine AM l fun p U =>?_
  by_cases he:rt p.1=rt k
  ·rw[he,aq,aq]
  ·rw[av _ _ he,av _ _ he];exact X p (aie _ U)
theorem AN:∀(l:List (Nat×Option Row)) {h:Nat->Option Row},∀p∈jW h l,∃q∈l,p.1=rt q.1
 | [],_,p,O=>by simp[jW]at O
 | (k,r)::l,h,p,O=>by
  unfold jW at O;rcases agJ.1 O with rfl|O
  ·exact⟨(k,r),by simp,rfl⟩
  ·obtain⟨q,h1,h2⟩:=AN l p O;exact⟨q,aie _ h1,h2⟩
theorem V5 {τ:Ty} {p d:D} {E:bF} (O:mm τ e h p d=some E):∀q∈E.hw,q.1<PK∧(q.1∈nm p∨q.1∈nm d):=by
 unfold mm at O;split at O<;>try (cases O;done)
 rename_i y0 v0 X;split at O<;>try (cases O;done)
 rename_i r ty s nv cs hl;have Y:=lA hl;split at O<;>try (cases O;done)
 have one:∀ {r':Option Row} (q:Nat×Option Row),q∈[(y0,r')]->q.1<PK∧(q.1∈nm (.ptr y0 v0 X)∨q.1∈nm d):=by
  intro r' q U;simp only[agZ]at U;subst U;exact⟨Y,.inl (by simp[nm,gF])⟩
 have plain:∀ {Z:Option (List D)},zS τ y0 r ty s nv cs X Z=some E->∀q∈E.hw,q.1<PK∧(q.1∈nm (.ptr y0 v0 X)∨q.1∈nm d):=by
  intro Z O;unfold zS at O;split at O<;>try (cases O;done)
  split at O<;>try (cases O;done)
  cases O;exact one
 unfold vG at O;split at O
 ·rename_i yq vq sq oq nq;split at O<;>try (cases O;done)
  split at O
  ·split at O<;>try (cases O;done)
   unfold zQ at O;split at O<;>try (cases O;done)
   split at O<;>try (cases O;done)
   cases O;exact one
  ·split at O<;>try (cases O;done)
   rename_i hyp;split at O<;>try (cases O;done)
   split at O<;>try (cases O;done)
   unfold zR at O;split at O<;>try (cases O;done)
   cases O;intro q U;rcases agJ.1 U with rfl|U
   ·exact⟨hyp,.inr (by simp[nm,gF])⟩
   ·exact one q U
 ·exact plain O
theorem VA {τ:Ty} {p:D} {E:bF} (O:oY τ h p=some E):∀q∈E.hw,q.1<PK∧q.1∈nm p:=by
 unfold oY at O;split at O<;>try (cases O;done)
 rename_i y0 v0 Z;split at O<;>try (cases O;done)
 rename_i r ty s nv cs Y;have U:=lA Y;split at O<;>try (cases O;done)
 unfold Q1 at O;split at O<;>try (cases O;done)
 cases O;intro q X;simp only[agZ]at X;subst X;exact⟨U,by simp[nm,gF]⟩
theorem V8 {τ:Ty} {p d:D} {E:bF} (O:pe τ e h p d=some E):∀q∈E.hw,q.1<PK∧(q.1∈nm p∨q.1∈nm d):=by
 unfold pe at O;split at O<;>try (cases O;done)
 rename_i y0 v0 Z;split at O<;>try (cases O;done)
 rename_i r ty s nv cs Y;have U:=lA Y;split at O<;>try (cases O;done)
 unfold Rv at O;split at O<;>try (cases O;done)
 split at O<;>try (cases O;done)
 unfold stZ at O;split at O<;>try (cases O;done)
 cases O;intro q X;simp only[agZ]at X;subst X;exact⟨U,.inl (by simp[nm,gF])⟩
theorem Vz {τ:Ty} {d:D} (U:∀x∈nm d,x<2*PK->h x=h' x):oY τ h d=oY τ h' d:=by
 unfold oY;split
 ·rename_i x v o
  by_cases X:x<2*PK
  ·rw[mZ (U x (by simp[nm,gF]) X)]
  ·have O:∀h:Nat->Option Row,fJ h x v=none:=by
    intro h;cases Y:fJ h x v with
    | none=>rfl
    | some q=>have:=lA Y;omega
   rw[O,O]
 ·rfl
theorem V7 {τ:Ty} {p d:D} (X:∀x∈nm p,x<2*PK->h x=h' x):pe τ e h p d=pe τ e h' p d:=by
 unfold pe;split
 ·rename_i x v o
  by_cases O:x<2*PK
  ·rw[mZ (X x (by simp[nm,gF]) O)]
  ·have U:∀h:Nat->Option Row,fJ h x v=none:=by
    intro h;cases Y:fJ h x v with
    | none=>rfl
    | some q=>have:=lA Y;omega
   rw[U,U]
 ·rfl
theorem VC {τ:Ty} {d:D} (U:∀x∈nm d,x<2*PK->h x=h' x):oZ τ h d=oZ τ h' d:=by
 unfold oZ;split
 ·rename_i x v o
  by_cases X:x<2*PK
  ·rw[mZ (U x (by simp[nm,gF]) X)]
  ·have O:∀h:Nat->Option Row,fJ h x v=none:=by
    intro h;cases Y:fJ h x v with
    | none=>rfl
    | some q=>have:=lA Y;omega
   rw[O,O]
 ·rfl
theorem V4 {τ:Ty} {p d:D} (X:∀x∈nm p,x<2*PK->h x=h' x) (Y:∀x∈nm d,x<2*PK->h x=h' x):mm τ e h p d=mm τ e h' p d:=by
 unfold mm;split
 ·rename_i x v o
  by_cases O:x<2*PK
  rotate_left
  ·have U:∀h:Nat->Option Row,fJ h x v=none:=by
    intro h;cases Z:fJ h x v with
    | none=>rfl
    | some q=>have:=lA Z;omega
   rw[U,U]
  rw[mZ (X x (by simp[nm,gF]) O)];split
  ·split
   ·unfold vG;split
    ·rename_i y vy s' oy n
     by_cases hyp:y<2*PK
     ·rw[cP (Y y (by simp[nm,gF]) hyp)]
     ·split
      ·split
       ·rfl
       ·rw[if_neg (by have:=cv;omega),if_neg (by have:=cv;omega)]
      ·rfl
    ·rfl
   ·rfl
  ·rfl
 ·rfl
theorem fk {vs:Operand->D} {x:Nat} (O:x∈gu o vs):rt x∈bq o vs:=agB.2 ⟨x,O,rfl⟩
theorem ny {vs:Operand->D} {y:Operand} (U:y∈o.op.operands.toList) (h1:∀a b c,o.op ≠ .pick a b c) (h2:∀a,o.op ≠ .move a) (h3:∀a b c,o.op ≠ .makeFunc a b c) {x:Nat} (X:x∈nm (vs y)):x∈gu o vs:=by
 unfold gu;split
 ·rename_i O;exact absurd O (h2 _)
 ·rename_i O;exact absurd O (h1 _ _ _)
 ·rename_i O;exact absurd O (h3 _ _ _)
 ·exact agQ _ (aia.2 ⟨y,U,X⟩)
theorem GJ {vs:Operand->D} {q:D} {args:List D} (Z:gX vs o.op=some (q,args)) (hx:∀x∈bq o vs,h x=h' x):∀d∈args,∀x∈nm d,h (rt x)=h' (rt x):=by
 obtain⟨c,f,U,X,_,O⟩:=mQ Z;subst O;intro d hd x Y;obtain⟨y,hy,rfl⟩:=agB.1 hd;exact hx _ (fk (ny (y:=y) (by simp[U,Op.operands,Call.operands,X];exact .inr (by simpa using hy)) (by simp[U]) (by simp[U]) (by simp[U]) Y))
theorem Lr {g:Nat} {args:List D} (X:∀d∈args,∀x∈nm d,h (rt x)=h' (rt x)):qM Γ e h g args=qM Γ e h' g args:=by
 unfold qM;split
 ·rename_i x v c rest;have O:bx (EH h) rest=bx (EH h') rest:=iS fun d Z x U=>dZ (X d (aie _ Z) x U)
  by_cases hp:x<2*PK
  ·have:=X _ aid x (by simp[nm,gF]);rw[gQ hp]at this;rw[mZ this,O]
  ·have Y:∀h:Nat->Option Row,fJ h x v=none:=by
    intro h;cases hl:fJ h x v with
    | none=>rfl
    | some q=>have:=lA hl;omega
   rw[Y,Y]
 ·rfl
theorem Mo {vs:Operand->D} (X:∀x∈bq o vs,h x=h' x):lT Γ e h o.dst (gX vs o.op)=lT Γ e h' o.dst (gX vs o.op):=by
 unfold lT;split
 ·rename_i d g args U Y;unfold Dh;split
  ·rw[iS fun d U x O=>dZ (GJ Y X d U x O)]
  ·rfl
 ·rfl
theorem Qw {vs:Operand->D} (Z:∀x∈bq o vs,h x=h' x):tB T Γ e o vs h=tB T Γ e o vs h':=by
 unfold tB;split
 ·rename_i ty p O;split
  ·have X:∀x∈nm (vs p),x<2*PK->h x=h' x:=fun x U Y=>by
    have:=Z _ (fk (ny (y:=p) (by simp[O,Op.operands]) (by simp[O]) (by simp[O]) (by simp[O]) U))
    rwa [gQ Y]at this
   unfold tA;rw[VC X,Vz X]
  ·rfl
 ·rename_i ty p x O;split
  ·have X:∀x∈nm (vs p),x<2*PK->h x=h' x:=fun y U Y=>by
    have:=Z _ (fk (ny (y:=p) (by simp[O,Op.operands]) (by simp[O]) (by simp[O]) (by simp[O]) U))
    rwa [gQ Y]at this
   unfold tC;rw[V4 X (fun y U Y=>by
    have:=Z _ (fk (ny (y:=x) (by simp[O,Op.operands]) (by simp[O]) (by simp[O]) (by simp[O]) U))
    rwa [gQ Y]at this),V7 X]
  ·rfl
 ·rename_i c O;unfold AG;split
  ·rename_i g args hc;exact Lr (GJ (by rw[O];exact hc) Z)
  ·rfl
 ·rfl
theorem Qs {vs:Operand->D} (hx:∀x∈bq o vs,h x=h' x):nX T Γ e o vs h=nX T Γ e o vs h':=by
 have h1:lS T Γ e o vs (EH h)=lS T Γ e o vs (EH h'):=Vg fun x O=>dZ (hx _ (fk O));unfold nX;rw[h1,Qw hx,Mo hx];split
 ·rfl
 split
 ·rfl
 ·cases U:lS T Γ e o vs (EH h') with
  | none=>rfl
  | some E =>
   simp only[or2];rw[AM E.hw fun p X=>hx _ (fk (Hj U p X))]
theorem Qt {vs:Operand->D} {E:bF} (U:nX T Γ e o vs h=some E):∀p∈E.hw,p.1∈bq o vs:=by
 unfold nX at U;split at U
 ·rename_i E0 O;simp only[agL]at U;subst U;unfold gA at O;split at O<;>try (cases O;done)
  rotate_left
  ·rename_i ty X;split at O<;>try (cases O;done)
   rename_i d Y;split at O<;>try (cases O;done)
   split at O<;>try (cases O;done)
   unfold mkA at O;split at O<;>try (cases O;done)
   rename_i Z;cases O;intro p hp;simp only[agZ]at hp;subst hp;have hd:d∈gu o vs:=by
    unfold gu;rw[X];exact agR _ (by rw[Y];simp)
   have:=fk hd
   rwa [gQ (by have:=Z.2.2.2.1;omega)]at this
  rename_i ty l c X;split at O<;>try (cases O;done)
  rename_i d Y;split at O<;>try (cases O;done)
  split at O<;>try (cases O;done)
  unfold yM at O;split at O<;>try (cases O;done)
  split at O<;>try (cases O;done)
  split at O<;>try (cases O;done)
  rename_i Z;cases O;intro p hp;simp only[agZ]at hp;subst hp;have hd:d∈gu o vs:=by
   unfold gu;rw[X];exact agR _ (by rw[Y];simp)
  have:=fk hd
  rwa [gQ (by have:=Z.2.2.2.2.2.2.1;omega)]at this
 split at U
 ·rename_i E0 aa;simp only[agL]at U;subst U;unfold lT at aa;split at aa<;>try (cases aa;done)
  rename_i d g args Y ad;obtain⟨c,f,ae,ag,hq,ab⟩:=mQ ad;unfold Dh at aa;split at aa<;>try (cases aa;done)
  obtain⟨_,_,_,_,_,_,_,_,_,ak,rfl⟩:=wo aa;intro p hp;simp only[agZ]at hp;subst hp;have hd:d∈gu o vs:=by
   unfold gu;rw[ae];exact agR _ (by rw[Y];simp)
  have:=fk hd
  rwa [gQ (by omega)]at this
 ·unfold or2 at U;split at U
  ·rename_i v0 hw he;simp only[agL]at U;subst U;intro p hp;obtain⟨q,h1,h2⟩:=AN hw p hp;rw[h2];exact fk (Hj he q h1)
  ·unfold tB at U;split at U
   ·rename_i ty p X;split at U<;>try (cases U;done)
    unfold tA orE at U;split at U
    ·rename_i E0 hF;simp only[agL]at U;subst U;intro q hq;obtain⟨q1,q2⟩:=VA hF q hq;have:q.1∈gu o vs:=ny (y:=p) (by simp[X,Op.operands]) (by simp[X]) (by simp[X]) (by simp[X]) q2;have:=fk this
     rwa [gQ (by omega)]at this
    rw[Hi U];intro p hp;simp at hp
   ·rename_i ty p x X;split at U<;>try (cases U;done)
    intro q hq;have ah:q.1<PK∧(q.1∈nm (vs p)∨q.1∈nm (vs x)):=by
     unfold tC orE at U;split at U
     ·rename_i E0 hF;simp only[agL]at U;subst U;exact V8 hF q hq
     ·exact V5 U q hq
    obtain⟨q1,q2⟩:=ah;have:q.1∈gu o vs:=by
     rcases q2 with q2|q2
     ·exact ny (y:=p) (by simp[X,Op.operands]) (by simp[X]) (by simp[X]) (by simp[X]) q2
     ·exact ny (y:=x) (by simp[X,Op.operands]) (by simp[X]) (by simp[X]) (by simp[X]) q2
    have:=fk this
    rwa [gQ (by omega)]at this
   ·rename_i c X;unfold AG at U;split at U<;>try (cases U;done)
    rename_i g args ad;obtain⟨c',f,ae,ag,hq,ab⟩:=mQ ad;cases ae;obtain⟨x,v,o',rest,r,ty,s,nv,cs,p,agx,al,d,cs',ai,hl,_,_,_,_,_,rfl⟩:=rT U;have an:=lA hl;intro q hq;simp only[agZ]at hq;subst hq;obtain⟨y,hy,aj⟩:∃y∈c.args.toList,vs y=.ptr x v o':=by
     have:(.ptr x v o':D)∈c.args.toList.map vs:=by rw[<- ab,ai];exact aid
     obtain⟨y,h1,h2⟩:=agB.1 this;exact⟨y,h1,h2⟩
    have:x∈gu o vs:=ny (y:=y) (by simp[X,Op.operands,Call.operands,ag];exact .inr (by simpa using hy)) (by simp[X]) (by simp[X]) (by simp[X]) (by rw[aj];simp[nm,gF]);have:=fk this
    rwa [gQ (by omega)]at this
   ·cases U
theorem aaL {vs O:Operand->D} (hx:∀y∈o.op.operands.toList,vs y=O y):nX T Γ e o vs h=nX T Γ e o O h∧bq o vs=bq o O:=by
 obtain⟨h1,h2⟩:=acQ (T:=T) (Γ:=Γ) (e:=e) (h:=EH h) hx;have h3:gA T Γ e o vs=gA T Γ e o O:=by
  unfold gA;split
  ·rename_i ty l c U;rw[hx l (by simp[U,Op.operands]),hx c (by simp[U,Op.operands])]
  ·rfl
  ·rfl
 have X:∀c,o.op=.call c->gX vs (.call c)=gX O (.call c):=by
  intro c U;unfold gX;simp only;split
  ·rename_i f Z;rw[hx f (by simp[U,Op.operands,Call.operands,Z]),aib fun y hy=>hx y (by simp[U,Op.operands,Call.operands,Z];exact .inr (by simpa using hy))]
  ·rfl
 have h4:tB T Γ e o vs h=tB T Γ e o O h:=by
  unfold tB;split
  ·rename_i ty p U;rw[hx p (by simp[U,Op.operands])]
  ·rename_i ty p x U;rw[hx p (by simp[U,Op.operands]),hx x (by simp[U,Op.operands])]
  ·rename_i c U;rw[X c U]
  ·rfl
 have h5:gX vs o.op=gX O o.op:=by
  by_cases Y:∃c,o.op=.call c
  ·obtain⟨c,Y⟩:=Y;rw[Y];exact X c Y
  ·unfold gX;split
   ·rename_i c U;exact absurd ⟨c,U⟩ Y
   ·rfl
 unfold nX bq;rw[h1,h2,h3,h4,h5];exact⟨rfl,rfl⟩
end
structure jZ where
 tc:List Nat
 q:Bool
def tR (ops:Array Oper) (t:Nat->D) (o:Oper):Option Bool :=
 match o.guard with
 | none=>some true
 | some (j,want) =>
  match (ops[j]?).bind (·.dst) with
  | some g=>match t g with | .bool b=>some (b==want) | .skp=>some false|_=>none
  | none=>none
def eN (t:Nat->D) (dst:Option Nat) (d:D):Nat->D :=
 match dst with
 | none=>t
 | some i=>bI t i d
def fits (N:Nat) (dst:Option Nat):Bool :=
 match dst with
 | none=>true
 | some i=>decide (i<N)
def step1 (T:Nat->Option Ty) (Γ:Env) (N e:Nat) (ops:Array Oper) (o:Oper) (t:Nat->D) (h:Nat->Option Row):Option ((Nat->D)×(Nat->Option Row)×jZ) :=
 if fits N o.dst then
  match tR ops t o with
  | some true =>
   match nX T Γ e o (ev t) h with
   | some E=>some (eN t o.dst E.val,aO h E.hw,⟨bq o (ev t),E.hw.isEmpty⟩)
   | none=>none
  | some false=>some (eN t o.dst .skp,h,⟨[],true⟩)
  | none=>none
 else none
section
variable {P:Program} {T:Nat->Option Ty} {N:Nat} {M:Nat->Prop} {L:jg} {w0:World} {blk:Nat->Option (Nat×Nat)} {t:Nat->D} {h:Nat->Option Row} {a:Act} {w:World} {e:Nat} {o:Oper} {Γ:Env} {ops:Array Oper}
theorem xV {V:Nat->Nat->Prop} (hI:Inv N M L w0 blk V t h a w) {b:Bool} (O:tR ops t o=some b):Region.wanted o (yielded ops a.tmps)=b:=by
 unfold tR at O;split at O
 ·rename_i ho;simp only[agL]at O;subst O;simp[Region.wanted,ho]
 ·rename_i j want ho;split at O
  ·rename_i g Y;split at O
   ·rename_i b' hb;simp only[agL]at O;subst O;have hs:=hI.slots g;rw[hb]at hs;have U:=uP hs;have Z:a.tmps[g]? = some (.bool b'):=by
     simp only[agH]at U;cases X:a.tmps[g]? with
     | none=>rw[X]at U;cases U
     | some v=>rw[X]at U;simp only[Option.getD_some]at U;rw[U]
    have hy:yielded ops a.tmps j=some b':=by
     unfold yielded;rw[Y];simp[Z]
    simp only[Region.wanted,ho,hy];cases b'<;>cases want<;>rfl
   ·rename_i hb;simp only[agL]at O;subst O;have hs:=hI.slots g;rw[hb]at hs;have U:a.tmps.getD g undef=undef:=hs;have hy:yielded ops a.tmps j=none:=by
     unfold yielded;rw[Y];simp only[agH]at U;cases X:a.tmps[g]? with
     | none=>simp only[Option.bind_some,X]
     | some v=>rw[X]at U;simp only[Option.getD_some]at U;subst U;simp only[Option.bind_some,X];rfl
    simp only[Region.wanted,ho,hy];cases want<;>rfl
   ·cases O
  ·cases O
theorem Inv.adk {V:Nat->Nat->Prop} (O:Inv N M L w0 blk V t h a w) (U:fits N o.dst=true) {d:D} {v:Value} (X:RT w (Own M h blk) h blk V d v):Inv N M L w0 blk V (eN t o.dst d) h (a.put o.dst v) w:=by
 cases Y:o.dst with
 | none=>simpa [eN,Act.put] using O
 | some i =>
  rw[Y]at U;exact O.put (by simpa [fits] using U) X
theorem KC (hT:ig P T) (hΓ:bH P Γ) {done:List Nat} {t':Nat->D} {h':Nat->Option Row} {f:jZ} {K:Act->World->Prop} {Q:Exit->Act->World->Prop} (U:rF N M L w0 blk e done t h a w)
  (hs:step1 T Γ N e ops o t h=some (t',h',f)) (hd:∀d,o.dst=some d->d∉done) (hK:∀a' w' blk',rF N M L w0 blk' e (o.dst.toList++done) t' h' a' w'->K a' w') :
  if Region.wanted o (yielded ops a.tmps) then o.wp P a w K Q∨(o.asks P a w∧LetsOut Q) else K (a.put o.dst undef) w:=by
 unfold step1 at hs;split at hs
 ·rename_i Z;split at hs
  ·rename_i hg;rw[xV U.inv hg];simp only[if_true];split at hs
   ·rename_i E hE;simp only[agL,Prod.mk.injEq]at hs;obtain⟨rfl,rfl,_⟩:=hs;have:=Qu hT hΓ U (fun d X=>⟨hd d X,by rw[X]at Z;simpa [fits] using Z⟩) hE;refine .inl (this.wp fun v w' hA =>?_);obtain⟨blk',Y,hR⟩:=hA;exact hK _ _ blk' ⟨Y.inv.adk Z hR,Y.nv⟩
   ·cases hs
  ·rename_i hg;rw[xV U.inv hg];simp only[ahc,if_false];simp only[agL,Prod.mk.injEq]at hs;obtain⟨rfl,rfl,_⟩:=hs;have O:∀x,x∈done->x∈o.dst.toList++done:=fun x hx=>agR _ hx;exact hK _ _ blk ⟨(U.inv.adk Z (d := .skp) (v:=undef) rfl).weaken fun x n hx=>hx.step (.refl e h) O,U.nv.step (.refl e h) O⟩
  ·cases hs
 ·cases hs
theorem fv {x:Nat} : ∀ {l:List (Nat×Option Row)} {h:Nat->Option Row},(∀p∈l,p.1≠x)->aO h l x=h x
 | [],_,_=>rfl
 | (y,r)::l,h,hn=>by
  simp only[aO];rw[fv (fun p O=>hn p (by simp[O]))];exact av _ _ (fun e=>hn (y,r) (by simp) e.symm)
theorem yQ {x:Nat} : ∀ {l:List (Nat×Option Row)} {h h':Nat->Option Row},(∃p∈l,p.1=x)->aO h l x=aO h' l x
 | [],_,_,he=>by obtain⟨p,U,_⟩:=he;simp at U
 | (y,r)::l,h,h',he=>by
  simp only[aO]
  by_cases hl:∃p∈l,p.1=x
  ·exact yQ hl
  ·have X:∀p∈l,p.1≠x:=fun p U O=>hl ⟨p,U,O⟩;rw[fv X,fv X];obtain⟨p,U,O⟩:=he;rcases agJ.1 U with rfl|U
   ·simp only at O;subst O;rw[aq,aq]
   ·exact absurd O (X p U)
theorem K8 {l l':List (Nat×Option Row)} {h:Nat->Option Row} (hd:∀p∈l,∀q∈l',p.1≠q.1):aO (aO h l) l'=aO (aO h l') l:=by
 funext x
 by_cases h1:∃p∈l,p.1=x
 ·obtain⟨p,U,rfl⟩:=h1;rw[fv (fun q Z e=>hd p U q Z e.symm)];exact yQ ⟨p,U,rfl⟩
 ·have Y:∀p∈l,p.1≠x:=fun p U O=>h1 ⟨p,U,O⟩;rw[fv Y]
  by_cases h2:∃p∈l',p.1=x
  ·exact yQ h2
  ·have X:∀p∈l',p.1≠x:=fun p U O=>h2 ⟨p,U,O⟩;rw[fv X,fv X,fv Y]
theorem VS {t:Nat->D} {x y:Option Nat} {v u:D} (hne:∀d,x=some d->y≠some d):eN (eN t x v) y u=eN (eN t y u) x v:=by
 cases x with
 | none=>rfl
 | some i =>
  cases y with
  | none=>rfl
  | some j=>exact Z8 t v u (fun e=>hne i rfl (by rw[e]))
theorem T4 {t:Nat->D} {x:Option Nat} {v:D} {s:Nat} (hne:x≠some s):eN t x v s=t s:=by
 cases x with
 | none=>rfl
 | some i=>exact av _ _ (fun e=>hne (by rw[e]))
theorem Py {t t1:Nat->D} {h h1:Nat->Option Row} {f:jZ} (hs:step1 T Γ N e ops o t h=some (t1,h1,f)) :
  ∃v hw,t1=eN t o.dst v∧h1=aO h hw∧(∀p∈hw,p.1∈f.tc)∧(f.q=true->hw=[]) ∧
   ∀O h',(∀s∈o.looksAt ops,t s=O s)->(∀x∈f.tc,h x=h' x)->step1 T Γ N e ops o O h'=some (eN O o.dst v,aO h' hw,f):=by
 have X:∀O:Nat->D,(∀s∈o.looksAt ops,t s=O s)->tR ops t o=tR ops O o:=by
  intro O U;unfold tR;split
  ·rfl
  ·rename_i j want ho;split
   ·rename_i g Y;rw[U g (by simp[Oper.looksAt,ho,Y])]
   ·rfl
 have Z:∀O:Nat->D,(∀s∈o.looksAt ops,t s=O s)->∀y∈o.op.operands.toList,ev t y=ev O y:=by
  intro O U y hy;cases y with
  | tmp i=>exact U i (by unfold Oper.looksAt;exact agQ _ (List.mem_filterMap.2 ⟨_,hy,rfl⟩))
  | const v=>rfl
  | global g=>rfl
  | func f=>rfl
 unfold step1 at hs;split at hs
 ·rename_i hf;split at hs
  ·rename_i Y;split at hs
   ·rename_i E hE;simp only[agL,Prod.mk.injEq]at hs;obtain⟨rfl,rfl,rfl⟩:=hs;refine⟨E.val,E.hw,rfl,rfl,Qt hE,fun hq=>by simpa using hq,fun O h' U hh =>?_⟩;obtain⟨e1,e2⟩:=aaL (T:=T) (Γ:=Γ) (e:=e) (h:=h) (Z O U);have e3:nX T Γ e o (ev O) h'=some E:=by
     rw[<- hE,e1];exact (Qs (fun x hx=>hh x (by rw[e2];exact hx))).symm
    unfold step1;rw[if_pos hf,<- X O U,Y];simp only[e3,e2]
   ·cases hs
  ·rename_i Y;simp only[agL,Prod.mk.injEq]at hs;obtain⟨rfl,rfl,rfl⟩:=hs;refine⟨.skp,[],rfl,rfl,fun p hp=>by simp at hp,fun _=>rfl,fun O h' U hh =>?_⟩;unfold step1;rw[if_pos hf,<- X O U,Y];rfl
  ·cases hs
 ·cases hs
def Qb (T:Nat->Option Ty) (Γ:Env) (N e:Nat) (ops:Array Oper) (F:Nat->jZ):List Nat->(Nat->D)->(Nat->Option Row)->(Nat->D)->(Nat->Option Row)->Prop
 | [],t,h,O,h'=>t=O∧h=h'
 | i::L,t,h,O,h'=>∃o t1 h1,ops[i]? = some o∧step1 T Γ N e ops o t h=some (t1,h1,F i)∧Qb T Γ N e ops F L t1 h1 O h'
def aaG (l l':List Nat):Bool:=l.all fun x => !l'.contains x
structure Se (ops:Array Oper) (F:Nat->jZ) (j i:Nat):Prop where
 apart:∀oj oi,ops[j]? = some oj->ops[i]? = some oi->oj.apart ops oi=true
 foot:((F j).q&&(F i).q||aaG (F j).tc (F i).tc)=true
theorem swap {F:Nat->jZ} {i j:Nat} {L:List Nat} {t t':Nat->D} {h h':Nat->Option Row} (hr:Qb T Γ N e ops F (j::i::L) t h t' h') (hi:Se ops F j i):Qb T Γ N e ops F (i::j::L) t h t' h':=by
 obtain⟨oj,t1,h1,Z,ah,oi,t2,h2,aa,ai,X⟩:=hr;obtain⟨a1,a2,a3⟩:=Oper.apart_spec (hi.apart oj oi Z aa);obtain⟨vj,wj,rfl,rfl,nj,qj,ab⟩:=Py ah;obtain⟨vi,wi,rfl,rfl,ni,qi,ad⟩:=Py ai;have O:=hi.foot;simp only[aii,ahd]at O;have d1:∀x∈(F i).tc,∀p∈wj,p.1≠x:=by
  intro x Y p U he;rcases O with⟨h1,_⟩|h1
  ·rw[qj h1]at U;simp at U
  ·simp only[aaG,agN]at h1;have:=h1 p.1 (nj p U);rw[he]at this;simp[Y]at this
 have d2:∀x∈(F j).tc,∀p∈wi,p.1≠x:=by
  intro x Y p U he;rcases O with⟨_,h1⟩|h1
  ·rw[qi h1]at U;simp at U
  ·simp only[aaG,agN]at h1;have:=h1 x Y;have hm:=ni p U;rw[he]at hm;simp[hm]at this
 have ae:=ad t h (fun s hs=>T4 (fun hd=>a1 s hd hs)) (fun x Y=>fv (d1 x Y));have ag:=ab (eN t oi.dst vi) (aO h wi) (fun s hs=>(T4 (fun hd=>a3 s hd hs)).symm) (fun x Y=>(fv (d2 x Y)).symm);refine⟨oi,_,_,aa,ae,oj,_,_,Z,ag,?_⟩;rw[VS (x:=oi.dst) (y:=oj.dst) (fun d hd aj=>a2 d aj hd),K8 (l:=wi) (l':=wj) (fun p U q hq he=>d1 p.1 (ni p U) q hq he.symm)];exact X
theorem front {F:Nat->jZ} {i:Nat} {post:List Nat} : ∀ {pre:List Nat} {t U:Nat->D} {h h':Nat->Option Row},Qb T Γ N e ops F (pre++i::post) t h U h'->(∀j∈pre,Se ops F j i)->Qb T Γ N e ops F (i::(pre++post)) t h U h'
 | [],_,_,_,_,hr,_=>hr
 | j::pre,t,U,h,h',hr,hi=>by
  obtain⟨oj,t1,h1,X,Y,O⟩:=hr;have Z:=front (pre:=pre) O (fun k hk=>hi k (by simp[hk]));exact swap ⟨oj,t1,h1,X,Y,Z⟩ (hi j (by simp))
def direct (o:Oper):List Nat:=(o.after.toList.filter (Region.binds .any)).map (·.on)
def uW:List Oper->List (List Nat)->List (List Nat)
 | [],acc=>acc
 | o::l,acc=>uW l (acc++[direct o++(direct o).flatMap fun k=>acc.getD k []])
def acN (ops:Array Oper):List (List Nat):=uW ops.toList []
theorem CP (S:Nat->Prop):∀(l:List Oper) (acc:List (List Nat)) (k:Nat),k=acc.length->(∀i j,j∈acc.getD i []->i<k->(∀m o,ops[m]? = some o->S m->∀d∈direct o,S d)->(∀o,ops[i]? = some o->∀d∈direct o,S d)->S j) ->
  (∀j,l[j]? = ops[k+j]?)->∀i j,j∈(uW l acc).getD i []->(∀m o,ops[m]? = some o->S m->∀d∈direct o,S d)->(∀o,ops[i]? = some o->∀d∈direct o,S d)->S j
 | [],acc,k,hk,O,hl,i,j,Y,hS,hi=>by
  simp only[uW]at Y
  by_cases ab:i<k
  ·exact O i j Y ab hS hi
  ·have:acc.getD i []=[]:=by simp[List.getD,aij (show acc.length<=i by omega)]
   rw[this]at Y;simp at Y
 | o::l,acc,k,hk,O,hl,i,j,Y,hS,hi=>by
  simp only[uW]at Y;refine CP S l _ (k+1) (by simp[hk]) ?_ (fun j=>by have:=hl (j+1);simpa [agX,Nat.add_comm 1 j] using this) i j Y hS hi;intro U j' X aj hS' Z
  by_cases ad:U<k
  ·have:(acc++[direct o++(direct o).flatMap fun k=>acc.getD k []]).getD U []=acc.getD U []:=by
    simp[List.getD,ahg (show U<acc.length by omega)]
   rw[this]at X;exact O U j' X ad hS' Z
  ·obtain rfl:U=k:=by omega
   have:(acc++[direct o++(direct o).flatMap fun k=>acc.getD k []]).getD U []=direct o++(direct o).flatMap fun k=>acc.getD k []:=by
    simp[List.getD,ahh (show acc.length<=U by omega),hk]
   rw[this]at X;have ho:ops[U]? = some o:=by have:=hl 0;simpa using this.symm
   rcases ahU.1 X with hd|hd
   ·exact Z o ho j' hd
   ·obtain⟨m,hm,aa⟩:=aia.1 hd;have ae:=Z o ho m hm
    by_cases ag:m<U
    ·exact O m j' aa ag hS' (fun o' ah d ai=>hS' m o' ah ae d ai)
    ·have:acc.getD m []=[]:=by simp[List.getD,aij (show acc.length<=m by omega)]
     rw[this]at aa;simp at aa
theorem aaE {S:Nat->Prop} {i j:Nat} (O:j∈(acN ops).getD i []) (U:∀m o,ops[m]? = some o->S m->∀d∈direct o,S d) (X:∀o,ops[i]? = some o->∀d∈direct o,S d):S j :=
 CP S ops.toList [] 0 rfl (fun i j O _ _ _=>by simp at O) (fun j=>by simp) i j O U X
def Xy (acc:List Nat):List Nat->Nat
 | []=>0
 | k::l=>(2 ^ k ||| acc.getD k 0) ||| Xy acc l
def CQ:List Oper->List Nat->List Nat
 | [],acc=>acc
 | o::l,acc=>CQ l (acc++[Xy acc (direct o)])
def S1 (ops:Array Oper):List Nat:=CQ ops.toList []
theorem S3 {acc:List Nat} {j:Nat} : ∀ {l:List Nat},(Xy acc l).testBit j=true->j∈l∨∃k∈l,(acc.getD k 0).testBit j=true
 | [],h=>by simp[Xy]at h
 | k::l,h=>by
  simp only[Xy,Nat.testBit_or,aii,Nat.testBit_two_pow,decide_eq_true_eq]at h;rcases h with (rfl|h)|h
  ·exact .inl (aid ..)
  ·exact .inr ⟨k,aid ..,h⟩
  ·rcases S3 h with h|⟨k',h1,h2⟩
   ·exact .inl (aie _ h)
   ·exact .inr ⟨k',aie _ h1,h2⟩
theorem Ak:∀(l:List Oper) (U:List Nat) (acc:List (List Nat)),U.length=acc.length->(∀i j,(U.getD i 0).testBit j=true->j∈acc.getD i [])->∀i j,((CQ l U).getD i 0).testBit j=true->j∈(uW l acc).getD i []
 | [],_,_,_,h,i,j,X=>h i j X
 | o::l,U,acc,Z,h,i,j,X=>by
  refine Ak l _ _ (by simp[Z]) (fun Y j' O =>?_) i j X
  by_cases h1:Y<U.length
  ·rw[ahf,ahg h1,<- ahf]at O;rw[ahf,ahg (by omega),<- ahf];exact h Y j' O
  ·by_cases h2:Y=U.length
   ·subst h2;rw[ahf,ahh (agC _),ahQ]at O;simp only[List.getElem?_cons_zero,Option.getD_some]at O;rw[Z,ahf,ahh (agC _),ahQ];simp only[List.getElem?_cons_zero,Option.getD_some,ahU,aia];rcases S3 O with O|⟨k,hk,O⟩
    ·exact .inl O
    ·exact .inr ⟨k,hk,h k j' O⟩
   ·rw[ahf,aij (by simp;omega)]at O;simp at O
theorem Xq {i j:Nat} (h:((S1 ops).getD i 0).testBit j=true):j∈(acN ops).getD i [] :=
 Ak ops.toList [] [] rfl (fun i j h=>by simp at h) i j h
def Sk (ops:Array Oper) (F:Nat->jZ):Prop:=∀j i,j<i->i<ops.size->j∈(acN ops).getD i []∨Se ops F j i
theorem Wl (hT:ig P T) (hΓ:bH P Γ) {F:Nat->jZ} {Q:Exit->Act->World->Prop} {t':Nat->D} {h':Nat->Option Row} (hp:Sk ops F) (aj:∀i o,ops[i]? = some o->∀d∈direct o,d<i)
  (av:∀(i j:Nat) (oi oj:Oper) (d:Nat),ops[i]? = some oi->ops[j]? = some oj->oi.dst=some d->oj.dst=some d->i=j) (hQ:∀a' w' blk' done,rF N M L w0 blk' e done t' h' a' w'->Q .normal a' w') :
  ∀(n:Nat) (LL:List Nat) (listed:Array Bool) (t:Nat->D) (h:Nat->Option Row) (a:Act) (w:World) (blk:Nat->Option (Nat×Nat)) (done:List Nat),LL.length=n->(∀i,i∈LL↔listed.getD i true=false)->LL.Pairwise (· < ·)->(∀i∈LL,i<ops.size)->listed.size=ops.size ->
   (∀i o,ops[i]? = some o->listed.getD i false=true->∀d∈direct o,listed.getD d false=true)->(∀d∈done,∃i o,ops[i]? = some o∧o.dst=some d∧listed.getD i false=true) ->
   Qb T Γ N e ops F LL t h t' h'->rF N M L w0 blk e done t h a w->wpAny P .any ops Q n listed a w:=by
 intro n
 induction n with
 | zero =>
  intro LL listed t h a w blk done hn hL hs hlt ag hdown Y hr hI;have:LL=[]:=ahX hn;subst this;obtain⟨rfl,rfl⟩:=hr;refine⟨?_,hQ a w blk done hI⟩;refine List.eq_nil_iff_forall_not_mem.2 fun i hi =>?_;have:=(mem_ready.1 hi).1;exact absurd ((hL i).2 this) (by simp)
 | succ n ih =>
  intro LL listed t h a w blk done hn hL hs hlt ag hdown Y hr hI;refine⟨fun ah =>?_,fun i hi =>?_⟩
  ·cases LL with
   | nil=>simp at hn
   | cons i LL =>
    obtain⟨o,t1,h1,ho,_⟩:=hr;have aa:i∈Region.ready .any ops listed:=by
     refine mem_ready.2 ⟨(hL i).1 (by simp),o,ho,fun ed ak hb =>?_⟩;have U:ed.on∈direct o:=agB.2 ⟨ed,aik.2 ⟨by simpa using ak,hb⟩,rfl⟩;have aG:=aj i o ho _ U
     by_cases hm:ed.on∈i::LL
     ·rcases agJ.1 hm with hm|hm
      ·omega
      ·have:=(ail.1 hs).1 _ hm;omega
     ·have h1:¬listed.getD ed.on true=false:=fun hf=>hm ((hL _).2 hf);have h2:ed.on<listed.size:=by rw[ag];have:=hlt i (by simp);omega
      have:listed.getD ed.on true=listed.getD ed.on false:=by simp[Array.getD,h2]
      rw[<- this];simpa using h1
    rw[ah]at aa;simp at aa
  ·obtain⟨al,o,ho,ai⟩:=mem_ready.1 hi;have an:i∈LL:=(hL i).2 al;obtain⟨pre,post,rfl⟩:=List.append_of_mem an;have ad:i<listed.size:=by rw[ag];exact hlt i an
   have X:∀d∈direct o,listed.getD d false=true:=by
    intro d U;obtain⟨ed,ak,rfl⟩:=agB.1 U;obtain⟨h1,h2⟩:=aik.1 ak;exact ai ed (by simpa using h1) h2
   have aw:∀j∈pre,Se ops F j i:=by
    intro j hj;have ay:j<i:=by
     have:=List.pairwise_append.1 hs;exact this.2.2 j hj i (by simp)
    rcases hp j i ay (hlt i an) with hc|hc
    ·have az:listed.getD j false=true:=aaE (S:=fun m=>listed.getD m false=true) hc (fun m om hm aA d U=>hdown m om hm aA d U) (fun o' ae d U=>by
      rw[ho]at ae;cases ae;exact X d U)
     have ax:=(hL j).1 (by simp[hj]);have aB:j<listed.size:=by omega
     have:listed.getD j true=listed.getD j false:=by simp[Array.getD,aB]
     rw[this,az]at ax;cases ax
    ·exact hc
   obtain⟨o',t1,h1,ae,ao,aq⟩:=front hr aw;rw[ho]at ae;cases ae;unfold wpOp;simp only[ho];refine KC hT hΓ hI ao (fun d U aC =>?_) (fun a' w' blk' aD =>?_)
   ·obtain⟨k,ok,hk,ar,O⟩:=Y d aC;have:=av i k o ok d ho hk U ar;subst this;have:listed.getD i true=listed.getD i false:=by simp[Array.getD,ad]
    rw[this,O]at al;cases al
   ·have ab:∀k,(listed.setIfInBounds i true).getD k false=true↔k=i∨listed.getD k false=true:=by
     intro k
     by_cases Z:k=i
     ·subst Z;simp[ad]
     ·rw[getD_set_ne false (Ne.symm Z)];simp[Z]
    have au:∀k,(listed.setIfInBounds i true).getD k true=false↔k≠i∧listed.getD k true=false:=by
     intro k
     by_cases Z:k=i
     ·subst Z;simp[ad]
     ·rw[getD_set_ne true (Ne.symm Z)];simp[Z]
    have aE:(pre++i::post).Nodup:=hs.imp (fun h=>Nat.ne_of_lt h);refine ih (pre++post) (listed.setIfInBounds i true) t1 h1 a' w' blk' _ (by simp at hn ⊢;omega) (fun k =>?_) ?_ (fun k hk=>hlt k (by simp at hk ⊢;rcases hk with hk|hk<;>simp[hk])) (by simpa using ag) (fun k ok hk O d U =>?_) (fun d U =>?_) aq aD
    ·rw[au];constructor
     ·intro hk;have aF:k∈pre++i::post:=by simp at hk ⊢;rcases hk with hk|hk<;>simp[hk]
      refine⟨fun e =>?_,(hL k).1 aF⟩;subst e;have:=List.nodup_append.1 aE;simp only[aim]at this;rcases ahU.1 hk with hk|hk
      ·exact this.2.2 k hk k (by simp) rfl
      ·exact this.2.1.1 hk
     ·rintro⟨hk,O⟩;have:=(hL k).2 O;simp only[ahU,agJ]at this ⊢;rcases this with h|h|h
      ·exact .inl h
      ·exact absurd h hk
      ·exact .inr h
    ·refine List.Pairwise.sublist ?_ hs;exact List.Sublist.append_left (List.sublist_cons_self _ _) _
    ·rw[ab];rcases (ab k).1 O with rfl|O
     ·rw[ho]at hk;cases hk;exact .inr (X d U)
     ·exact .inr (hdown k ok hk O d U)
    ·rcases ahU.1 U with U|U
     ·exact⟨i,o,ho,by simpa using U,(ab i).2 (.inl rfl)⟩
     ·obtain⟨k,ok,hk,ar,O⟩:=Y d U;exact⟨k,ok,hk,ar,(ab k).2 (.inr O)⟩
end
def zM (T:Nat->Option Ty) (Γ:Env) (N e:Nat) (ops:Array Oper):List Oper->(Nat->D)->(Nat->Option Row)->Option ((Nat->D)×(Nat->Option Row)×List jZ)
 | [],t,h=>some (t,h,[])
 | o::l,t,h =>
  match step1 T Γ N e ops o t h with
  | some (t1,h1,f) =>
   match zM T Γ N e ops l t1 h1 with
   | some (t2,h2,fs)=>some (t2,h2,f::fs)
   | none=>none
  | none=>none
def Kb:List Nat->Bool
 | []=>true
 | x::l => !l.contains x&&Kb l
def XN (ops:Array Oper):Bool:=Kb (ops.toList.filterMap (·.dst))
def Sy (ops:Array Oper) (j i:Nat):Bool :=
 match ops[j]?,ops[i]? with
 | some oj,some oi=>oj.apart ops oi
 | _,_=>true
def Qr (ops:Array Oper):Bool :=
 (ops.toList.zipIdx.all fun p=>(direct p.1).all fun d=>decide (d<p.2)) &&
 ((List.range ops.size).all fun i=>(List.range i).all fun j=>((S1 ops).getD i 0).testBit j||Sy ops j i)
def It (ops:Array Oper):List (Nat×Nat):=(List.range ops.size).flatMap fun i=>((List.range i).filter fun j => !((S1 ops).getD i 0).testBit j).map fun j=>(j,i)
def YS (fs:List jZ) (p:Nat×Nat):Bool :=
 match fs[p.1]?,fs[p.2]? with
 | some f,some g=>f.q&&g.q||aaG f.tc g.tc
 | _,_=>false
def C8 (ops:Array Oper) (fs:List jZ):Bool:=(It ops).all (YS fs)
inductive Ex where
 | normal
 | exit (n:Nat)
 | ret
structure St where
 t:Nat->D
 h:Nat->Option Row
 e:Nat
def iter (f:St->Option (Ex×St)):Nat->St->Option (Ex×St)
 | 0,_=>none
 | n+1,s =>
  match f s with
  | some (.normal,s1)=>iter f n s1
  | r=>r
def vu (T:Nat->Option Ty) (Γ:Env) (N:Nat) (ops:Array Oper) (draw:Bool) (s:St):Option (Ex×St) :=
 match zM T Γ N s.e ops ops.toList s.t s.h with
 | some (t,h,fs)=>if !draw||C8 ops fs then some (.normal,⟨t,h,s.e+1⟩) else none
 | none=>none
def PO (d:D) (x y:Option (Ex×St)):Option (Ex×St) :=
 match d with
 | .bool b=>if b then x else y
 | _=>none
def adD (r:Option (Ex×St)) (k:St->Option (Ex×St)):Option (Ex×St) :=
 match r with
 | some (.normal,s)=>k s
 | r=>r
def R2 (id:Nat) (r:Option (Ex×St)):Option (Ex×St) :=
 match r with
 | some (.exit n,s)=>if n=id then some (.normal,s) else some (.exit n,s)
 | r=>r
def fQ (T:Nat->Option Ty) (Γ:Env) (N F:Nat):Code->St->Option (Ex×St)
 | .skip,s=>some (.normal,s)
 | .region _ ops draw,s=>vu T Γ N ops draw s
 | .seq a b,s=>adD (fQ T Γ N F a s) (fQ T Γ N F b)
 | .cond c x y,s=>PO (ev s.t c) (fQ T Γ N F x s) (fQ T Γ N F y s)
 | .block id b,s=>R2 id (fQ T Γ N F b s)
 | .loop b,s=>iter (fQ T Γ N F b) F s
 | .exit id,s=>some (.exit id,s)
 | .ret,s=>some (.ret,s)
 | _,_=>none
def codeOk:Code->Bool
 | .region _ ops draw=>XN ops&&(!draw||Qr ops)
 | .seq a b=>codeOk a&&codeOk b
 | .cond _ x y=>codeOk x&&codeOk y
 | .block _ b=>codeOk b
 | .loop b=>codeOk b
 | _=>true
section
variable {P:Program} {T:Nat->Option Ty} {N:Nat} {M:Nat->Prop} {L:jg} {w0:World} {blk:Nat->Option (Nat×Nat)} {t:Nat->D} {h:Nat->Option Row} {a:Act} {w:World} {e:Nat} {o:Oper} {Γ:Env} {ops:Array Oper}
theorem Ik:∀ {l:List Nat},Kb l=true->l.Nodup
 | [],_=>List.nodup_nil
 | x::l,h=>by
  simp only[Kb,ahd,ahe,List.contains_eq_mem,decide_eq_false_iff_not]at h;exact aim.2 ⟨h.1,Ik h.2⟩
theorem FM:∀ {l:List Oper} {done:List Nat},(l.filterMap (·.dst)).Nodup->(∀o∈l,∀d,o.dst=some d->d∉done)->∀o l',l=o::l'->(l'.filterMap (·.dst)).Nodup∧∀o'∈l',∀d,o'.dst=some d->d∉o.dst.toList++done:=by
 intro l done X Y o l' he;subst he;cases Z:o.dst with
 | none =>
  rw[List.filterMap_cons_none Z]at X;exact⟨X,fun o' O d U=>by simpa using Y o' (by simp[O]) d U⟩
 | some x =>
  rw[List.filterMap_cons_some Z]at X;obtain⟨h1,h2⟩:=aim.1 X;refine⟨h2,fun o' O d U hm =>?_⟩;simp only[Option.toList_some,List.singleton_append,agJ]at hm;rcases hm with rfl|hm
  ·exact h1 (List.mem_filterMap.2 ⟨o',O,U⟩)
  ·exact Y o' (by simp[O]) d U hm
theorem xk (hT:ig P T) (hΓ:bH P Γ) {Q:Exit->Act->World->Prop} : ∀ {l:List Oper} {t U:Nat->D} {h h':Nat->Option Row} {fs:List jZ} {a:Act} {w:World} {blk:Nat->Option (Nat×Nat)} {done:List Nat},
  zM T Γ N e ops l t h=some (U,h',fs)->(l.filterMap (·.dst)).Nodup->(∀o∈l,∀d,o.dst=some d->d∉done)->rF N M L w0 blk e done t h a w ->
  (∀X w' blk' done,rF N M L w0 blk' e done U h' X w'->Q .normal X w')->wpList P ops Q l a w
 | [],t,U,h,h',fs,a,w,blk,done,O,_,_,Y,Z=>by
  simp only[zM,agL,Prod.mk.injEq]at O;obtain⟨rfl,rfl,_⟩:=O;exact Z a w blk done Y
 | o::l,t,U,h,h',fs,a,w,blk,done,O,hn,hd,Y,Z=>by
  simp only[zM]at O;split at O
  ·rename_i t1 h1 f hs;split at O
   ·rename_i t2 h2 ag aa;simp only[agL,Prod.mk.injEq]at O;obtain⟨rfl,rfl,_⟩:=O;obtain⟨ab,ad⟩:=FM hn hd o l rfl;have:=KC (K:=wpList P ops Q l) (Q:=Q) hT hΓ Y hs (hd o (by simp)) (fun X w' blk' ae=>xk hT hΓ aa ab ad ae Z);unfold wpList;exact this
   ·cases O
  ·cases O
theorem yu {F:Nat->jZ} : ∀ {l:List Oper} {k:Nat} {t U:Nat->D} {h h':Nat->Option Row} {fs:List jZ},zM T Γ N e ops l t h=some (U,h',fs)->(∀j,l[j]? = ops[k+j]?)->(∀j f,fs[j]? = some f->F (k+j)=f) ->
  fs.length=l.length∧Qb T Γ N e ops F (List.range' k l.length) t h U h'
 | [],k,t,U,h,h',fs,O,_,_=>by
  simp only[zM,agL,Prod.mk.injEq]at O;obtain⟨rfl,rfl,rfl⟩:=O;exact⟨rfl,rfl,rfl⟩
 | o::l,k,t,U,h,h',fs,O,Y,Z=>by
  simp only[zM]at O;split at O
  ·rename_i t1 h1 f hs;split at O
   ·rename_i t2 h2 aa X;simp only[agL,Prod.mk.injEq]at O;obtain⟨rfl,rfl,rfl⟩:=O;obtain⟨i1,i2⟩:=yu (k:=k+1) X (fun j=>by have:=Y (j+1);simpa [agX,Nat.add_comm 1 j] using this) (fun j f' hj=>by have:=Z (j+1) f' (by simpa using hj);rwa [show k+(j+1)=k+1+j by omega]at this);refine⟨by simp[i1],o,t1,h1,by have:=Y 0;simpa using this.symm,?_,i2⟩;have:=Z 0 f rfl;rw[ahb]at this;rw[this];exact hs
   ·cases O
  ·cases O
def Holds (N:Nat) (M:Nat->Prop) (L:jg) (w0:World) (s:St) (a:Act) (w:World):Prop:=∃blk,rF N M L w0 blk s.e [] s.t s.h a w
theorem Gd (hT:ig P T) (hΓ:bH P Γ) (hm:P.follows .mixedOrders=true) {id:Nat} {draw:Bool} {s:St} {x:Ex} {s':St} {Q:Exit->Act->World->Prop} (hr:vu T Γ N ops draw s=some (x,s')) (Z:(XN ops&&(!draw||Qr ops))=true)
  (hH:Holds N M L w0 s a w) (hQ:∀a' w',Holds N M L w0 s' a' w'->Q .normal a' w'):x=.normal∧(Code.region id ops draw).wp P Q a w:=by
 unfold vu at hr;split at hr
 ·rename_i t h fs ab;split at hr
  ·rename_i U;simp only[agL,Prod.mk.injEq]at hr;obtain⟨rfl,rfl⟩:=hr;refine⟨rfl,?_⟩;simp only[ahd]at Z;have an:(ops.toList.filterMap (·.dst)).Nodup:=Ik Z.1;obtain⟨blk,hI⟩:=hH;have ad:∀a' w' blk' done,rF N M L w0 blk' s.e done t h a' w'->Q .normal a' w':=by
    intro a' w' blk' done ao;refine hQ a' w' ⟨blk',ao.inv.weaken fun x v hx =>?_,fun x r ty s nv cs k1 k2 k3 k4 =>?_⟩
    ·rcases hx with⟨X,hx|⟨hx,_⟩⟩|⟨X,h2,h3,h4⟩
     ·exact .inl ⟨X,.inl (by simp only;omega)⟩
     ·exact .inl ⟨X,.inl (by simp only;omega)⟩
     ·exact .inr ⟨X,by simp only;omega,fun _=>by simp only;omega,h4⟩
    ·have:=ao.nv x r ty s nv cs k1 k2 k3 k4;exact⟨by simp only;omega,fun _=>by simp only;omega⟩
   cases draw with
   | false =>
    apply wp_region_list;exact xk hT hΓ ab an (done:=[]) (fun o _ d _=>by simp) hI ad
   | true =>
    simp only[ah7,ahH]at U Z;apply wp_region_any hm;have ah:=Z.2;simp only[Qr,ahd]at ah
    let F:Nat->jZ:=fun i=>fs.getD i ⟨[],true⟩
    obtain⟨hlen,ae⟩:=yu (F:=F) (k:=0) ab (fun j=>by simp) (fun j f hj=>by simp[F,List.getD,hj]);have ai:∀i o,ops[i]? = some o->∀d∈direct o,d<i:=by
     intro i o ho d hd;have h1:=ah.1;rw[agN]at h1;have Y:(o,i)∈ops.toList.zipIdx:=by
      rw[List.mem_zipIdx_iff_getElem?];simpa using ho
     have:=h1 _ Y;rw[agN]at this;simpa using this d hd
    have aq:∀(i j:Nat) (oi oj:Oper) (d:Nat),ops[i]? = some oi->ops[j]? = some oj->oi.dst=some d->oj.dst=some d->i=j:=by
     have key:∀(l:List Oper),(l.filterMap (·.dst)).Nodup->∀(i j:Nat) (oi oj:Oper) (d:Nat),l[i]? = some oi->l[j]? = some oj->oi.dst=some d->oj.dst=some d->i=j:=by
      intro l
      induction l with
      | nil=>intro _ i j oi oj d O;simp at O
      | cons o l ih =>
       intro X i j oi oj d O hj aj ak;have ax:(l.filterMap (·.dst)).Nodup:=by
        cases ho:o.dst with
        | none=>rw[List.filterMap_cons_none ho]at X;exact X
        | some x=>rw[List.filterMap_cons_some ho]at X;exact (aim.1 X).2
       have ag:∀(k:Nat) (ok:Oper),l[k]? = some ok->o.dst=some d->ok.dst=some d->False:=by
        intro k ok hk ho ay;rw[List.filterMap_cons_some ho]at X;exact (aim.1 X).1 (List.mem_filterMap.2 ⟨ok,ag4 hk,ay⟩)
       cases i with
       | zero =>
        simp only[List.getElem?_cons_zero,agL]at O;subst O;cases j with
        | zero=>rfl
        | succ j=>exact (ag j oj (by simpa using hj) aj ak).elim
       | succ i =>
        cases j with
        | zero =>
         simp only[List.getElem?_cons_zero,agL]at hj;subst hj;exact (ag i oi (by simpa using O) ak aj).elim
        | succ j=>rw[ih ax i j oi oj d (by simpa using O) (by simpa using hj) aj ak]
     intro i j oi oj d O hj;exact key ops.toList an i j oi oj d (by simpa using O) (by simpa using hj)
    have aa:Sk ops F:=by
     intro j i ar O
     by_cases hc:((S1 ops).getD i 0).testBit j=true
     ·exact .inl (Xq hc)
     ·refine .inr ⟨fun oj oi az aA =>?_,?_⟩
      ·have h2:=ah.2;rw[agN]at h2;have:=h2 i (ain.2 O);rw[agN]at this;have:=this j (ain.2 ar);simp only[aii]at this;rcases this with h'|h'
       ·exact absurd h' hc
       ·simpa [Sy,az,aA] using h'
      ·rw[C8,agN]at U;have Y:(j,i)∈It ops:=by
        refine aia.2 ⟨i,ain.2 O,agB.2 ⟨j,aik.2 ⟨ain.2 ar,?_⟩,rfl⟩⟩;simpa using hc
       have:=U _ Y;have au:i<fs.length:=by rw[hlen];simpa using O
       have av:j<fs.length:=by omega
       simp only[YS,agP av,agP au]at this;simp only[F,ahf,agP av,agP au,Option.getD_some];exact this
    rw[ahi,<- List.range_eq_range']at ae;have aw:∀i,(Array.replicate ops.size false).getD i false=false:=by
     intro i
     by_cases O:i<ops.size
     ·simp[Array.getD,O]
     ·simp[Array.getD,O]
    have al:∀i,(Array.replicate ops.size false).getD i true=false↔i<ops.size:=by
     intro i
     by_cases O:i<ops.size
     ·simp[Array.getD,O]
     ·simp[Array.getD,O]
    exact Wl hT hΓ aa ai aq ad ops.size (List.range ops.size) (Array.replicate ops.size false) s.t s.h a _ blk [] (by simp) (fun i=>by rw[al];exact ain) aio (fun i O=>ain.1 O) (by simp)
     (fun i o _ hl=>by rw[aw]at hl;cases hl) (fun d hd=>by simp at hd) ae ⟨hI.inv.drew,hI.nv⟩
  ·cases hr
 ·cases hr
def Dv:Ex->Exit
 | .normal =>.normal
 | .exit n =>.exit n
 | .ret =>.ret
theorem iH (hT:ig P T) (hΓ:bH P Γ) (hm:P.follows .mixedOrders=true) {F:Nat} : ∀(c:Code) (s:St) (x:Ex) (Z:St) (Q:Exit->Act->World->Prop) (a:Act) (w:World),fQ T Γ N F c s=some (x,Z)->codeOk c=true->Holds N M L w0 s a w ->
  (∀a' w',Holds N M L w0 Z a' w'->Q (Dv x) a' w')->c.wp P Q a w:=by
 intro c
 induction c with
 | skip =>
  intro s x Z Q a w O _ hH Y;simp only[fQ,agL,Prod.mk.injEq]at O;obtain⟨rfl,rfl⟩:=O;exact wp_skip (Y a w hH)
 | region id ops draw =>
  intro s x Z Q a w O U hH Y;simp only[fQ]at O;have hx:x=.normal:=by
   unfold vu at O;split at O
   ·split at O
    ·simp only[agL,Prod.mk.injEq]at O;exact O.1.symm
    ·cases O
   ·cases O
  subst hx;exact (Gd hT hΓ hm O U hH Y).2
 | seq b c aa ihc =>
  intro s x Z Q a w O U hH Y;simp only[codeOk,ahd]at U;simp only[fQ,adD]at O;apply wp_seq;split at O
  ·rename_i s1 h1;exact aa s .normal s1 _ a w h1 U.1 hH (fun a' w' X=>ihc s1 x Z Q a' w' O U.2 X Y)
  ·rename_i r hne;refine aa s x Z _ a w O U.1 hH (fun a' w' X =>?_);cases x with
   | normal=>exact absurd O (fun h=>hne Z h)
   | exit n=>exact Y a' w' X
   | ret=>exact Y a' w' X
 | cond c b d aa ad =>
  intro s x Z Q a w O U hH Y;simp only[codeOk,ahd]at U;simp only[fQ]at O;unfold PO at O;split at O
  ·rename_i bb hb;obtain⟨blk,hI⟩:=hH;have hv:=hI.inv.ev c;rw[hb]at hv;refine wp_cond (t:=bb) (uP hv) ?_;cases bb with
   | true=>exact aa s x Z Q a w O U.1 ⟨blk,hI⟩ Y
   | false=>exact ad s x Z Q a w O U.2 ⟨blk,hI⟩ Y
  ·cases O
 | block id b ih =>
  intro s x Z Q a w O U hH Y;simp only[fQ]at O;apply wp_block;unfold R2 at O;split at O
  ·rename_i n s1 h1;refine ih s (.exit n) s1 _ a w h1 U hH (fun a' w' X =>?_);split at O
   ·rename_i hn;simp only[agL,Prod.mk.injEq]at O;obtain⟨rfl,rfl⟩:=O;simp only[Dv,Exit.inBlock,hn,if_true];exact Y a' w' X
   ·rename_i hn;simp only[agL,Prod.mk.injEq]at O;obtain⟨rfl,rfl⟩:=O;simp only[Dv,Exit.inBlock,hn,if_false];exact Y a' w' X
  ·rename_i r hne;refine ih s x Z _ a w O U hH (fun a' w' X =>?_);cases x with
   | normal=>exact Y a' w' X
   | exit n=>exact absurd O (fun h=>hne n Z h)
   | ret=>exact Y a' w' X
 | loop b ih =>
  intro s x Z Q a w O U hH Y;simp only[fQ]at O;refine wp_loop_ghost (fun n a w=>∃s,Holds N M L w0 s a w∧iter (fQ T Γ N F b) n s=some (x,Z)) F ⟨s,hH,O⟩ ?_;intro n a w ⟨s1,ab,h1⟩;cases n with
  | zero=>simp[iter]at h1
  | succ n =>
   simp only[iter]at h1;split at h1
   ·rename_i s2 h2;exact ih s1 .normal s2 _ a w h2 U ab (fun a' w' X=>⟨n,by omega,s2,X,h1⟩)
   ·rename_i r hne;refine ih s1 x Z _ a w h1 U ab (fun a' w' X =>?_);cases x with
    | normal=>exact absurd h1 (fun h=>hne Z h)
    | exit n=>exact Y a' w' X
    | ret=>exact Y a' w' X
 | exit id =>
  intro s x Z Q a w O _ hH Y;simp only[fQ,agL,Prod.mk.injEq]at O;obtain⟨rfl,rfl⟩:=O;exact wp_exit (Y a w hH)
 | ret =>
  intro s x Z Q a w O _ hH Y;simp only[fQ,agL,Prod.mk.injEq]at O;obtain⟨rfl,rfl⟩:=O;exact wp_ret (Y a w hH)
 | _=>intro s x Z Q a w O;simp[fQ]at O
end
def OW (T:Nat->Option Ty) (s:St):ResultVar->Option (D×List Nat)
 | .tmp i=>bQ s.h (s.t i)
 | .cell i ty =>
  match T ty,s.t i with
  | some τ,.ptr x v o=>match dQ τ s.h (.ptr x v o) with|some E=>some (fL E.val,[])|none=>none
  | _,_=>none
def sr (T:Nat->Option Ty) (s:St):List ResultVar->Option (List D×List Nat)
 | []=>some ([],[])
 | r::rs =>
  match OW T s r with
  | some (d,fr)=>match sr T s rs with
   | some (ds,O)=>some (d::ds,fr++O)
   | none=>none
  | none=>none
def kJ:List D->D
 | [d]=>d
 | ds =>.tup ds
inductive Mode where
 | clean|same|tight
 | fresh (ty s:Nat)
def b7:Option (D×Row)->List D->St
 | none,args=>⟨fun i=>args.getD i .und,fun _=>none,0⟩
 | some (d0,r),args=>⟨fun i=>(d0::args).getD i .und,fun x=>if x=0 then some { r with v:=0 } else none,1⟩
def jI:Option (D×Row)->St->Option (Option Row)
 | none,_=>some none
 | some (_,r),s =>
  match s.h 0 with
  | some O=>if O.v=0∧O.fz=false∧O.ty=r.ty∧(O.mp=r.mp∧qX O=true) then some (some O) else none
  | none=>none
def YI:Option (D×Row)->List Nat->Bool
 | none,_=>true
 | some _,fr => !fr.contains 0
def pf (T:Nat->Option Ty) (lent:Option (D×Row)) (rs:List ResultVar) (s:St):Option (RK×Option Row) :=
 match sr T s rs,jI lent s with
 | some (ds,fr),some o=>if YI lent fr then some (.clean (kJ ds),o) else none
 | _,_=>none
def BT (lent:Option (D×Row)) (rs:List ResultVar) (s:St):Option (RK×Option Row) :=
 match rs with
 | [.tmp i] =>
  match s.t i,jI lent s with
  | .buf 0 0 sz o n,some (some r)=>some (.same sz o n,some r)
  | _,_=>none
 | _=>none
def u5:D->Option (RK×Option Row)
 | .sl nl O n xs=>some (.clean (.sl nl O n xs),none)
 | _=>none
def Dt (lent:Option (D×Row)) (rs:List ResultVar) (s:St):Option (RK×Option Row) :=
 match lent,rs with
 | none,[.tmp i]=>u5 (s.t i)
 | _,_=>none
def u4 (ty s o n:Nat):Option Row->Option (RK×Option Row)
 | some r=>if r.fz=false∧r.ty=ty∧o+n*s<=r.cells.length then some (.fresh ty s n ((r.cells.drop o).take (n*s)),none) else none
 | none=>none
def mn (ty s:Nat) (h:Nat->Option Row):D->Option (RK×Option Row)
 | .buf x v sz o n=>if sz=s then u4 ty s o n (live h x v) else none
 | .sl _ O 0 _=>if O=true then some (.fresh ty s 0 [],none) else none
 | _=>none
def qS (ty s:Nat) (rs:List ResultVar) (st:St):Option (RK×Option Row) :=
 match rs with
 | [.tmp i]=>mn ty s st.h (st.t i)
 | _=>none
def fF (mode:Mode) (T:Nat->Option Ty) (lent:Option (D×Row)) (rs:List ResultVar) (s:St):Option (RK×Option Row) :=
 match mode with
 | .clean=>pf T lent rs s
 | .same=>BT lent rs s
 | .tight=>Dt lent rs s
 | .fresh ty sz=>qS ty sz rs s
def jY (mode:Mode) (T:Nat->Option Ty) (Γ:Env) (F:Nat) (fn:Func) (lent:Option (D×Row)) (args:List D):Option (RK×Option Row) :=
 match fn.body with
 | some c =>
  if fn.ntmps<=PK then
   match fQ T Γ fn.ntmps F c (b7 lent args) with
   | some (.exit _,_)=>none
   | some (_,s)=>fF mode T lent fn.results.toList ⟨s.t,EH s.h,s.e⟩
   | none=>none
  else none
 | none=>none
def Ep:Option (D×Row)->Bool
 | none=>true
 | some (.buf 0 0 _ _ _,_)=>true
 | some (.ptr 0 0 _,_)=>true
 | some (.mp 0 0,_)=>true
 | _=>false
def Ee:Option (D×Row)->List D->Nat
 | none,agx=>agx.length
 | some _,agx=>agx.length+1
section
variable {P:Program} {T:Nat->Option Ty} {N:Nat} {M:Nat->Prop} {L:jg} {w0:World} {blk:Nat->Option (Nat×Nat)} {a:Act} {w:World} {Γ:Env}
theorem Inv.acd {V:Nat->Nat->Prop} {t:Nat->D} {h:Nat->Option Row} (U:Inv N M L w0 blk V t h a w) (fr:List Nat):nP M h blk fr M where
 le b O := .inl O
 no x Z r g X Y O:=U.notM X Y O
def zL (O:Array Value):ResultVar->Sem Value
 | .tmp t=>pure (O.getD t undef)
 | .cell b t=>do loadVar t (<- asAddr (O.getD b undef))
theorem E2 (fn:Func) (O:Array Value):results fn O=(do
  let vs <- fn.results.mapM (zL O)
  pure (if h:vs.size=1 then vs[0] else .tuple vs)):=by
 unfold results;congr 1
theorem VV (hT:ig P T) {M':Nat->Prop} {ty:Nat} {τ:Ty} {g c:Nat} {xs:List D} {d:D} (hτ:T ty=some τ) (Y:At w M' g c xs) (hl:xs.length=τ.size) (U:jw τ xs=some d) :
  ∃u,(loadVar ty ⟨g,c,none⟩).run P w=.ok u w∧RP w M' d u:=by
 obtain⟨us,h1,h2,h3,h4⟩:=Y.afe;have O:τ.ds.oD=false->xs.length=1∧xs=[d]:=by
  intro Z;simp only[jw,Z,ahc,if_false]at U;split at U
  ·simp only[agL]at U;subst U;exact⟨rfl,rfl⟩
  ·cases U
 have X:=jU (hT ty τ hτ) w g c us (by rw[h1,hl]) h2 (fun Z=>by rw[h1];exact (O Z).1);refine⟨_,X,?_⟩;cases ha:τ.ds.oD with
 | true =>
  simp only[jw,ha,if_true,agL]at U;subst U;exact .agg xs us h1 h3 h4
 | false =>
  obtain⟨_,rfl⟩:=O ha;exact h3 0 d rfl
theorem Y1 (hT:ig P T) {M':Nat->Prop} {V:Nat->Nat->Prop} {s:St} (Y:Inv N M L w0 blk V s.t s.h a w) {r:ResultVar} {d:D} {fr:List Nat} (h1:OW T s r=some (d,fr)) (hl:nP M s.h blk fr M'):∃u,(zL a.tmps r).run P w=.ok u w∧RP w M' d u:=by
 cases r with
 | tmp i =>
  simp only[OW]at h1;exact⟨a.tmps.getD i undef,rfl,Y.bQ h1 hl (Y.slots i)⟩
 | cell i ty =>
  simp only[OW]at h1;split at h1
  ·rename_i τ x v o hτ hp;split at h1
   ·rename_i E O;simp only[agL,Prod.mk.injEq]at h1;obtain⟨rfl,_⟩:=h1;have U:=Y.slots i;rw[hp]at U;simp only[dQ]at O;split at O
    ·rename_i rr X;obtain⟨hx,hv⟩:=cq X;split at O
     ·rename_i hle;split at O
      ·rename_i d' Z;simp only[agL]at O;subst O;obtain⟨g,hg,aa⟩:=U.2 rr hx hv;have ab:=((Y.rowAt hx hg (gM X)).drop o).take τ.size;obtain⟨u,ad,ae⟩:=VV hT hτ ab (by simp;omega) Z;refine⟨u,?_,(ae.less fun b hb=>hl.le b hb).fL⟩;simp only[zL,aa,asAddr,ag9,Sem.run_pure,Result.andThen_ok,ad]
      ·cases O
     ·cases O
    ·cases O
   ·cases h1
  ·cases h1
theorem Pb (hT:ig P T) {M':Nat->Prop} {V:Nat->Nat->Prop} {s:St} (hI:Inv N M L w0 blk V s.t s.h a w):∀(rs:List ResultVar) (ds:List D) (fr:List Nat),sr T s rs=some (ds,fr)->nP M s.h blk fr M' ->
  ∃us:List Value,(rs.mapM (zL a.tmps)).run P w=.ok us w∧us.length=ds.length∧∀j d,ds[j]? = some d->RP w M' d (us.getD j undef)
 | [],ds,fr,h,_=>by
  simp only[sr,agL,Prod.mk.injEq]at h;obtain⟨rfl,_⟩:=h;exact⟨[],by simp,rfl,fun j d O=>by simp at O⟩
 | r::rs,ds,fr,h,hl=>by
  simp only[sr]at h;split at h
  ·rename_i d aa h1;split at h
   ·rename_i U X h2;simp only[agL,Prod.mk.injEq]at h;obtain⟨rfl,rfl⟩:=h;obtain⟨us,i1,i2,i3⟩:=Pb hT hI rs U X h2 hl.right;obtain⟨u,Y,Z⟩:=Y1 (P:=P) hT hI h1 hl.left;refine⟨u::us,?_,by simp[i2],fun j d O =>?_⟩
    ·simp only[List.mapM_cons,ag9,Y,Result.andThen_ok,i1,Sem.run_pure]
    ·cases j with
     | zero=>simp only[List.getElem?_cons_zero,agL]at O;subst O;simpa using Z
     | succ j=>simpa using i3 j d (by simpa using O)
   ·cases h
  ·cases h
theorem qo (O:ig P T) {M':Nat->Prop} {V:Nat->Nat->Prop} {s:St} (U:Inv N M L w0 blk V s.t s.h a w) {fn:Func} {ds:List D} {fr:List Nat} (h:sr T s fn.results.toList=some (ds,fr)) (X:nP M s.h blk fr M') :
  ∃v,(results fn a.tmps).run P w=.ok v w∧RP w M' (kJ ds) v:=by
 obtain⟨us,i1,i2,i3⟩:=Pb (P:=P) O U _ ds fr h X;have hm:(fn.results.mapM (zL a.tmps)).run P w=.ok us.toArray w:=by
  rw[ahw,Sem.run_map,i1];rfl
 rw[E2];simp only[ag9,hm,Result.andThen_ok,Sem.run_pure];refine⟨_,rfl,?_⟩
 match us,ds,i2,i3 with
 | [u],[d],_,i3=>simpa [kJ] using i3 0 d rfl
 | [],[],_,_=>exact .tup [] [] rfl (fun j x Y=>by simp at Y)
 | Z::u2::us,d1::d2::ds,i2,i3 =>
  have:¬(Z::u2::us).toArray.size=1:=by simp
  rw[dif_neg this];exact .tup _ _ (by simpa using i2) i3
theorem ns {fn:Func} {O:Array Value} {i:Nat} (h:fn.results.toList=[.tmp i]):(results fn O).run P w=.ok (O.getD i undef) w:=by
 have he:fn.results = #[.tmp i]:=by rw[<- h]
 rw[E2,he];simp[zL]
theorem Inv.qS {V:Nat->Nat->Prop} {s:St} {aa s0:Nat} (hI:Inv N M L w0 blk V s.t s.h a w) {fn:Func} {rk:RK} {out:Option Row} (he:Am.qS aa s0 fn.results.toList s=some (rk,out)) :
  out=none∧∃v ty sz n cells,rk=.fresh ty sz n cells∧(results fn a.tmps).run P w=.ok v w∧s3 w0 w M (LB L) v rk:=by
 unfold Am.qS at he;split at he
 ·rename_i i X;have O:=hI.slots i;unfold mn at he;split at he
  ·rename_i x v sz o n ht;rw[ht]at O;split at he
   ·rename_i ab;subst ab;unfold u4 at he;split at he
    ·rename_i r Y;split at he
     ·rename_i U;obtain⟨hz,ad,hle⟩:=U;simp only[agL,Prod.mk.injEq]at he;obtain⟨rfl,rfl⟩:=he;refine⟨rfl,a.tmps.getD i undef,_,_,_,_,rfl,ns X,?_⟩;obtain⟨hx,hv⟩:=cq Y;have ae:((r.cells.drop o).take (n*sz)).length=n*sz:=by simp;omega
      rcases hI.xr Y O with⟨g,o',c,cs,g0,g1,g2,g3,g4,g5,g7,g8⟩|⟨g0,rfl,g2,A,g3⟩
      ·by_cases hc:0<c∨o=0
       ·obtain⟨k1,k2⟩:=g5 hc;subst k1;refine .inl ⟨(g.1,g.2+o),c,cs,g1,(show w0.heap.size<=g.1∨LB L g.1 from hI.base hx g0),by rw[<- ad];exact g4,g2,g3,k2,by rw[ae];simp only;omega,fun j d Z =>?_⟩;rw[cF]at Z;split at Z
        ·rw[agX];refine⟨(g8 _ _ Z).1,(g8 _ _ Z).2.less fun b hb =>?_⟩;rcases hb with hb|rfl
         ·exact .inl hb
         ·exact .inr ⟨x,r,g,hx,hz,g0,rfl⟩
        ·cases Z
       ·have hn:n=0:=by omega
        have ag:c=0:=by omega
        subst hn ag;exact .inr ⟨rfl,by simp,_,g1⟩
      ·exact .inr ⟨rfl,by simp,A,g3⟩
     ·cases he
    ·cases he
   ·cases he
  ·rename_i nl tg xs ht;rw[ht]at O;split at he
   ·rename_i ah;simp only[agL,Prod.mk.injEq]at he;obtain⟨rfl,rfl⟩:=he;refine⟨rfl,a.tmps.getD i undef,_,_,_,_,rfl,ns X,.inr ⟨rfl,rfl,?_⟩⟩;have hr:RP w (Own M s.h blk) (.sl nl tg 0 xs) (a.tmps.getD i undef):=O;generalize a.tmps.getD i undef=u at *;cases hr with
    | sl A c nl tight n xs us h1 h2 h3 h4 h5 h6 h7 h8 =>
     have hc:c=0:=by
      exact h5 ah
     subst hc;exact⟨A,rfl⟩
   ·cases he
  ·cases he
 ·cases he
theorem uj {args:List D} {vs:Array Value} {n i:Nat} (hs:vs.size=args.length):(vs++Array.replicate (n-vs.size) undef).getD i undef=vs.getD i undef∨args.getD i .und=.und:=by
 by_cases O:i<args.length
 ·left;have:i<vs.size:=by omega
  simp[agH,Array.getElem?_append_left this]
 ·right;simp[List.getD,aij (aip O)]
theorem UX {h:Nat->Option Row} (X:∀k r,h k=some r->k<2*PK∧qX r=true):EH h=h:=by
 funext k
 by_cases hk:k<2*PK
 ·rw[qK hk];cases O:h k with
  | none=>rfl
  | some r =>
   simp only[Option.map_some,BM];split
   ·rename_i hm;obtain⟨ks,vs,U⟩:=yb (X k r O).2 hm;cases r;simp only at U;subst U;rfl
   ·rfl
 ·have h1:h k=none:=by
   cases O:h k with
   | none=>rfl
   | some r=>exact absurd (X k r O).1 hk
  rw[h1];unfold EH;rw[if_neg hk];cases O:h (k % PK) with
  | none=>rfl
  | some r =>
   simp only[Option.bind_some,p7];split
   ·rename_i hm;obtain⟨ks,vs,U⟩:=yb (X _ r O).2 hm;rw[U];rfl
   ·rfl
theorem Cb {h:Nat->Option Row} (U:∀k r,h k=some r->k<2*PK∧r.mp=false):EH h=h:=by
 funext k
 by_cases hk:k<2*PK
 ·rw[qK hk];cases O:h k with
  | none=>rfl
  | some r =>
   simp only[Option.map_some,BM,(U k r O).2];rfl
 ·have h1:h k=none:=by
   cases O:h k with
   | none=>rfl
   | some r=>exact absurd (U k r O).1 hk
  rw[h1];unfold EH;rw[if_neg hk];cases O:h (k % PK) with
  | none=>rfl
  | some r =>
   simp only[Option.bind_some,p7,(U _ r O).2];rfl
theorem jF (hT:ig P T) (hΓ:bH P Γ) (hm:P.follows .mixedOrders=true) {mode:Mode} {f:FuncId} {fn:Func} {F:Nat} {lent:Option (D×Row)} {args:List D} {rk:RK} {out:Option Row} (hf:P.funcs[f]? = some fn)
  (ao:(match fn.body with|some c=>codeOk c|none=>true)=true) (hn:Ee lent args<=fn.ntmps) (ae:Ep lent=true)
  (O:jY mode T Γ F fn lent args=some (rk,out)):qt P f lent args rk out:=by
 unfold jY at O;split at O<;>try (cases O;done)
 rename_i c hc;rw[hc]at ao;simp only at ao;split at O<;>try (cases O;done)
 rename_i au;split at O<;>try (cases O;done)
 rename_i x s aB hv;cases lent with
 | none =>
  intro w M vs hM X;have hI:Inv fn.ntmps M none w (fun _=>none) (fun x v=>x<fn.ntmps∧v<0) (b7 none args).t (b7 none args).h { tmps:=vs++Array.replicate (fn.ntmps-vs.size) undef,defers:=[] } w:={
   tab:=fun b U=>(X.tab b U).less fun b U=>by
    rcases U with U|⟨x,r,g,Y,_⟩
    ·exact U
    ·cases Y
   below:=ey.refl _ _
   mlt:=hM
   lent:=fun b U=>absurd U pT
   pin:=fun go hg=>by cases hg
   defers:=rfl
   tsz:=by have:=X.1;simp only[Ee]at hn;simp;omega
   slots:=fun i=>by
    simp only[b7];rcases uj (n:=fn.ntmps) (i:=i) X.1 with he|he
    ·rw[he]
     by_cases hi:i<args.length
     ·have h1:=X.2 i _ (agP hi);have e1:args.getD i .und=args[i]:=by simp[List.getD,hi]
      rw[e1];exact bz (h1.less fun b U=>by
       rcases U with U|⟨x,r,g,Y,_⟩
       ·exact U
       ·cases Y)
     ·have e1:args.getD i .und=.und:=by simp[List.getD,aij (aip hi)]
      rw[e1];trivial
    ·rw[he];trivial
   rows:=fun x r Y=>by cases Y
   inj:=fun x y r s g g' Y=>by cases Y
   big:=au
   pha:=fun y r g hy=>by cases hy
   ali:=fun y r g hy=>by cases hy }
  apply calls_of_wp hf hc;refine iH hT hΓ hm c (b7 none args) x s _ _ _ hv ao ⟨_,⟨(by rw[Cb (fun k r hk=>by cases hk)];exact hI.weaken fun x v Y=>absurd Y.2 (Nat.not_lt_zero _)),fun x r ty s nv cs Y=>by cases Y⟩⟩ (fun a' w' hH =>?_);obtain⟨blk',av⟩:=hH;obtain⟨sE,aj⟩:∃sE:St,sE=⟨s.t,EH s.h,s.e⟩:=⟨_,rfl⟩;have hI':Inv fn.ntmps M none w blk' (VE fn.ntmps s.e [] s.h) sE.t sE.h a' w':=by rw[aj];exact av.inv
  rw[<- aj]at O;have aa:Below w.heap.size w w':=hI'.below.below (fun b U=>absurd U pT);have ab:a'.defers=[]∧∃v,(results fn a'.tmps).run P w'=.ok v w'∧(∃v',Ending.returned v=.returned v'∧Below w.heap.size w w'∧s3 w w' M (fun _=>False) v' rk):=by
   refine⟨hI'.defers,?_⟩;cases mode with
   | clean =>
    simp only[fF,pf,jI]at O;split at O<;>try (cases O;done)
    rename_i ds fr o ak ho;split at O<;>try (cases O;done)
    simp only[agL,Prod.mk.injEq]at O;obtain⟨rfl,_⟩:=O;obtain⟨v,ag,ad⟩:=qo (P:=P) hT hI' ak (hI'.acd fr);exact⟨v,ag,v,rfl,aa,ad⟩
   | same =>
    simp only[fF,BT,jI]at O;split at O<;>try (cases O;done)
    split at O
    ·rename_i hq;cases hq
    ·cases O
   | tight =>
    simp only[fF,Dt]at O;split at O<;>try (cases O;done)
    rename_i i _ aw;have aq:=hI'.slots i;generalize sE.t i=dd at *;unfold u5 at O;split at O<;>try (cases O;done)
    rename_i nl tg n xs;simp only[agL,Prod.mk.injEq]at O;obtain⟨rfl,_⟩:=O;have aC:RP w' (Own M sE.h blk') (.sl nl tg n xs) (a'.tmps.getD i undef):=aq;exact⟨a'.tmps.getD i undef,ns aw,_,rfl,aa,aC.less fun b U =>.inl U⟩
   | fresh aH s0 =>
    obtain⟨rfl,v,ty,sz,n,cells,rfl,ag,ad⟩:=hI'.qS (P:=P) O;refine⟨v,ag,v,rfl,aa,?_⟩;rcases ad with⟨g,k1,cs,k2,k3,k4⟩|ad
    ·exact .inl ⟨g,k1,cs,k2,k3.imp id (fun U=>absurd U pT),k4⟩
    ·exact .inr ad
  cases x with
  | normal=>exact ab
  | ret=>exact ab
  | exit n=>exact (aB n rfl).elim
 | some p =>
  obtain⟨d0,r⟩:=p;intro w M go u0 vs hM hgoM hz ax hrow ay X;have al:∀b,Own M (b7 (some (d0,r)) args).h (fun x=>if x=0 then go else none) b↔(M b∨sW go b):=by
   intro b;constructor
   ·rintro (U|⟨x,r',g,Y,_,hg,he⟩)
    ·exact .inl U
    ·simp only[b7]at Y;split at Y
     ·rename_i h0;subst h0;simp only[if_true]at hg;exact .inr ⟨g,hg,he.symm⟩
     ·cases Y
   ·rintro (U|⟨g,hg,he⟩)
    ·exact .inl U
    ·exact .inr ⟨0,{ r with v:=0 },g,rfl,hz,by simpa using hg,he.symm⟩
  have hI:Inv fn.ntmps M (J8 go) w (fun x=>if x=0 then go else none) (fun x v=>x<fn.ntmps∧v<1) (b7 (some (d0,r)) args).t (b7 (some (d0,r)) args).h { tmps:=(#[u0]++vs)++Array.replicate (fn.ntmps-(#[u0]++vs).size) undef,defers:=[] } w:={
   tab:=fun b U=>(X.tab b U).less fun b U=>(al b).1 U
   below:=ey.refl _ _
   mlt:=hM
   lent:=fun b U=>hgoM b (Jq.1 U)
   pin:=fun go' hg=>by
    cases hg;exact⟨⟨by simp only[Ee]at hn;omega,aiq⟩,fun r' _ _=>⟨rfl,fun g _=>rfl⟩⟩
   defers:=rfl
   tsz:=by have:=X.1;simp only[Ee]at hn;simp;omega
   slots:=fun i=>by
    simp only[b7];rcases uj (args:=d0::args) (vs:=#[u0]++vs) (n:=fn.ntmps) (i:=i) (by simp[X.1];omega) with he|he
    ·rw[he];cases i with
     | zero =>
      have e1:(#[u0]++vs).getD 0 undef=u0:=by simp[Array.getElem?_append]
      rw[e1];simp only[ahJ];cases d0 with
      | buf x v sz o n =>
       have an:x=0∧v=0:=by
        simp only[Ep]at ae;split at ae<;>simp_all
       obtain⟨rfl,rfl⟩:=an;exact⟨⟨by simp only[Ee]at hn;omega,aiq⟩,fun r' h1 h2=>by simpa using ay.2 ⟨0,0,[],false,false,false⟩ rfl rfl⟩
      | ptr x v o =>
       have an:x=0∧v=0:=by
        simp only[Ep]at ae;split at ae<;>simp_all
       obtain⟨rfl,rfl⟩:=an;exact⟨⟨by simp only[Ee]at hn;omega,aiq⟩,fun r' h1 h2=>by simpa using ay.2 ⟨0,0,[],false,false,false⟩ rfl rfl⟩
      | mp x v =>
       have an:x=0∧v=0:=by
        simp only[Ep]at ae;split at ae<;>simp_all
       obtain⟨rfl,rfl⟩:=an;exact⟨⟨by simp only[Ee]at hn;omega,aiq⟩,fun r' h1 h2=>by simpa using ay.2 ⟨0,0,[],false,false,false⟩ rfl rfl⟩
      | _=>simp[Ep]at ae
     | succ i =>
      have e1:(#[u0]++vs).getD (i+1) undef=vs.getD i undef:=by
       simp only[agH];rw[Array.getElem?_append_right (by simp)];simp
      rw[e1];simp only[ahK]
      by_cases hi:i<args.length
      ·have h1:=X.2 i _ (agP hi);have e1:args.getD i .und=args[i]:=by simp[List.getD,hi]
       rw[e1];exact bz (h1.less fun b U=>(al b).1 U)
      ·have e1:args.getD i .und=.und:=by simp[List.getD,aij (aip hi)]
       rw[e1];trivial
    ·rw[he];trivial
   rows:=fun x r' Y=>by
    simp only[b7]at Y;split at Y
    ·rename_i h0;subst h0;simp only[agL]at Y;subst Y;refine⟨fun hn=>⟨hn,aiq⟩,?_⟩;simp only[if_true];cases go with
     | none=>exact hrow
     | some g =>
      exact⟨.inr (Jq.2 ⟨g,rfl,rfl⟩),dU.keep (r':={ r with v:=0 }) hrow rfl rfl rfl rfl (fun b h1 h2=>⟨h1,fun U=>h2 ((al b).1 U),rfl⟩)⟩
    ·cases Y
   inj:=fun x y Z r2 g g' Y hy _ _ _=>by
    simp only[b7]at Y hy;split at Y
    ·split at hy
     ·omega
     ·cases hy
    ·cases Y
   big:=au
   pha:=fun y Z g hy hm _ j x s n hj=>by
    simp only[b7]at hy;split at hy
    ·simp only[agL]at hy;subst hy;obtain⟨ks,aI,hc⟩:=yb ax hm;rw[show ({ r with v:=0 } : Row).cells=r.cells from rfl,hc]at hj;cases j<;>simp at hj
    ·cases hy
   ali:=fun y Z g hy aL=>by
    simp only[b7]at hy;split at hy
    ·simp only[agL]at hy;subst hy;simp_all
    ·cases hy }
  have ar:EH (b7 (some (d0,r)) args).h=(b7 (some (d0,r)) args).h:=by
   refine UX fun k r' hk =>?_;simp only[b7]at hk;split at hk
   ·rename_i h0;subst h0;simp only[agL]at hk;subst hk;exact⟨(by have:=cv;omega),by simpa [qX] using ax⟩
   ·cases hk
  have aD:FG (b7 (some (d0,r)) args).e [] (b7 (some (d0,r)) args).h:=by
   intro x r' ty s nv cs Y aJ;simp only[b7]at Y;split at Y
   ·simp only[agL]at Y;subst Y;intro aE;obtain⟨ks,aI,hc⟩:=yb ax aJ;rw[show ({ r with v:=0 } : Row).cells=r.cells from rfl,hc]at aE;cases aE
   ·cases Y
  apply calls_of_wp hf hc;refine iH hT hΓ hm c (b7 (some (d0,r)) args) x s _ _ _ hv ao ⟨_,⟨(by rw[ar];exact hI.weaken fun x v Y =>.inl ⟨Y.1,.inl Y.2⟩),aD⟩⟩ (fun a' w' hH =>?_);obtain⟨blk',av⟩:=hH;obtain⟨sE,aj⟩:∃sE:St,sE=⟨s.t,EH s.h,s.e⟩:=⟨_,rfl⟩;have hI':Inv fn.ntmps M (J8 go) w blk' (VE fn.ntmps s.e [] s.h) sE.t sE.h a' w':=by rw[aj];exact av.inv
  rw[<- aj]at O;have aa:ey (sW go) w w':=⟨hI'.below.os,hI'.below.tape,hI'.below.output,hI'.below.size,fun k hk hn=>hI'.below.block k hk (fun U=>hn (Jq.1 U))⟩;have ah:∀Z,jI (some (d0,r)) sE=some (some Z)->sE.h 0=some Z∧Z.v=0∧Z.fz=false∧(Z.ty=r.ty∧(Z.mp=r.mp∧qX Z=true))∧blk' 0=go∧(∀g,go=some g->w'.shape? g.1=w.shape? g.1)∧(∀b,(M b∨sW go b)->Own M sE.h blk' b):=by
   intro Z hl;simp only[jI]at hl;split at hl<;>try (cases hl;done)
   rename_i r2 h2;split at hl<;>try (cases hl;done)
   rename_i az;simp only[agL]at hl;subst hl;obtain⟨c1,c2,c3⟩:=az;obtain⟨_,k2⟩:=hI'.pin _ rfl;obtain⟨k3,k4⟩:=k2 r2 h2 c1;refine⟨h2,c1,c2,c3,k3,k4,?_⟩;rintro b (U|⟨g,hg,he⟩)
   ·exact .inl U
   ·exact .inr ⟨0,r2,g,h2,c2,k3.trans hg,he.symm⟩
  have ai:∀Z,jI (some (d0,r)) sE=some (some Z)->Sm w' (fun b=>M b∨sW go b) go Z:=by
   intro Z hl;obtain⟨h1,_,_,h4,h5,_,h7⟩:=ah Z hl;have:=(hI'.rows 0 Z h1).2;rw[h5]at this;cases go with
   | none=>exact this
   | some g =>
    exact dU.keep this.2 rfl rfl rfl rfl (fun b h1 h2=>⟨h1,fun U=>h2 (h7 b U),rfl⟩)
  have ab:a'.defers=[]∧∃v,(results fn a'.tmps).run P w'=.ok v w'∧(∃v',Ending.returned v=.returned v'∧ey (sW go) w w'∧abD w w' M go r out∧abF w w' M go v' rk):=by
   refine⟨hI'.defers,?_⟩;cases mode with
   | clean =>
    simp only[fF,pf]at O;split at O<;>try (cases O;done)
    rename_i ds fr o ak ho;split at O<;>try (cases O;done)
    rename_i aF;simp only[YI,ahe,List.contains_eq_mem,decide_eq_false_iff_not]at aF;simp only[agL,Prod.mk.injEq]at O;obtain⟨rfl,rfl⟩:=O;cases o with
    | none =>
     simp only[jI]at ho;split at ho<;>try (cases ho;done)
     split at ho<;>cases ho
    | some Z =>
     obtain⟨h1,h2,h3,h4,h5,h6,h7⟩:=ah Z ho;have aA:nP M sE.h blk' fr (fun b=>M b∨sW go b):=by
      refine⟨h7,fun x Y r' g aG hg U =>?_⟩;rcases U with U|⟨g',aK,he⟩
      ·exact hI'.notM aG hg U
      ·have:x=0:=hI'.inj x 0 r' Z g g' aG h1 hg (h5.trans aK) he;subst this;exact aF Y
     obtain⟨v,ag,ad⟩:=qo (P:=P) hT hI' ak aA;exact⟨v,ag,v,rfl,aa,⟨h4.1,h3,h4.2,h6,ai Z ho⟩,ad⟩
   | same =>
    simp only[fF,BT]at O;split at O<;>try (cases O;done)
    rename_i i aw;split at O<;>try (cases O;done)
    rename_i sz o n Z ht ho;simp only[agL,Prod.mk.injEq]at O;obtain⟨rfl,rfl⟩:=O;obtain⟨h1,h2,h3,h4,h5,h6,h7⟩:=ah Z ho;refine⟨a'.tmps.getD i undef,ns aw,_,rfl,aa,⟨h4.1,h3,h4.2,h6,ai Z ho⟩,?_⟩;have aq:=hI'.slots i;rw[ht]at aq;refine⟨trivial,fun r' _ _ =>?_⟩;have:=aq.2 Z h1 h2;rw[h5]at this;exact this
   | tight =>
    simp only[fF,Dt]at O;cases O
   | fresh aH s0 =>
    obtain⟨rfl,v,ty,sz,n,cells,rfl,ag,ad⟩:=hI'.qS (P:=P) O;refine⟨v,ag,v,rfl,aa,trivial,?_⟩;rcases ad with⟨g,k1,cs,k2,k3,k4⟩|ad
    ·exact .inl ⟨g,k1,cs,k2,k3.imp id (fun U=>Jq.1 U),k4⟩
    ·exact .inr ad
  cases x with
  | normal=>exact ab
  | ret=>exact ab
  | exit n=>exact (aB n rfl).elim
def ext (Γ:Env) (f:Nat) (l:Bool) (G:Option (D×Row)->List D->Option (RK×Option Row)):Env:=⟨fun g=>if g=f then l else Γ.lends g,fun g lent agx=>if g=f then G lent agx else Γ.sem g lent agx,Γ.own,Γ.hint,Γ.ins,Γ.grw,Γ.nst,Γ.nx⟩
theorem bH.ext (O:bH P Γ) {f:Nat} {l:Bool} {G:Option (D×Row)->List D->Option (RK×Option Row)} (U:∀lent agx rk out,G lent agx=some (rk,out)->qt P f lent agx rk out) (X:dX P f):bH P (Am.ext Γ f l G):=by
 refine⟨fun g lent agx rk out h =>?_,O.ins,O.grw,O.lnd,O.res⟩;simp only[Am.ext]at h;split at h
 ·rename_i he;subst he;exact⟨U lent agx rk out h,X⟩
 ·exact O.calls g lent agx rk out h
def bm:Env:=⟨fun _=>false,fun _ _ _=>none,fun _=>true,fun _=>none,fun _=>none,fun _=>none,fun _=>none,{}⟩
theorem bH.none:bH P bm:=⟨fun f lent args rk out h=>(by cases h),fun f p h=>(by cases h),fun f p h=>(by cases h),fun f p h=>(by cases h),fun f p h=>(by cases h)⟩
def keep (d:Nat) (Γ:Env):Env:=⟨Γ.lends,Γ.sem,fun i=>i != d&&Γ.own i,Γ.hint,Γ.ins,Γ.grw,Γ.nst,Γ.nx⟩
theorem bH.keep (O:bH P Γ) (d:Nat):bH P (Am.keep d Γ):=⟨O.calls,O.ins,O.grw,O.lnd,O.res⟩
def vY (d y:Nat) (Γ:Env):Env:=⟨Γ.lends,Γ.sem,Γ.own,fun i=>if i=d then some y else Γ.hint i,Γ.ins,Γ.grw,Γ.nst,Γ.nx⟩
theorem bH.vY (O:bH P Γ) (d y:Nat):bH P (Am.vY d y Γ):=⟨O.calls,O.ins,O.grw,O.lnd,O.res⟩
def DU (f:Nat) (p:Nat×Nat×Nat) (Γ:Env):Env:=⟨Γ.lends,Γ.sem,Γ.own,Γ.hint,fun g=>if g=f then some p else Γ.ins g,Γ.grw,Γ.nst,Γ.nx⟩
theorem bH.DU (O:bH P Γ) {f:Nat} {p:Nat×Nat×Nat} (U:acC P f p):bH P (Am.DU f p Γ):=⟨O.calls,fun g q h=>by
 simp only[Am.DU]at h;split at h
 ·rename_i he;subst he;cases h;exact U
 ·exact O.ins g q h,O.grw,O.lnd,O.res⟩
def vF (d:Nat) (p:Nat×Nat×Nat) (Γ:Env):Env:=⟨Γ.lends,Γ.sem,Γ.own,Γ.hint,Γ.ins,Γ.grw,fun i=>if i=d then some p else Γ.nst i,Γ.nx⟩
theorem bH.vF (O:bH P Γ) (d:Nat) (p:Nat×Nat×Nat):bH P (Am.vF d p Γ):=⟨O.calls,O.ins,O.grw,O.lnd,O.res⟩
def Bw (f:Nat) (p:Nat×(Nat->Nat->Nat->Nat->List D->List D->Option (D×List D))) (Γ:Env):Env:=⟨Γ.lends,Γ.sem,Γ.own,Γ.hint,Γ.ins,Γ.grw,Γ.nst,⟨fun g=>if g=f then some p else Γ.nx.lnd g,Γ.nx.res⟩⟩
theorem bH.Bw (O:bH P Γ) {f:Nat} {p:Nat×(Nat->Nat->Nat->Nat->List D->List D->Option (D×List D))} (U:dX P f) (X:∀ty t s o cs args d cs',p.2 ty t s o cs args=some (d,cs')->Jo P f ty t s o cs args d cs'):bH P (Am.Bw f p Γ):=⟨O.calls,O.ins,O.grw,fun g q h=>by
 simp only[Am.Bw]at h;split at h
 ·rename_i he;subst he;cases h;exact⟨U,X⟩
 ·exact O.lnd g q h,O.res⟩
def By (f:Nat) (p:List D->Option (Nat×Nat×Nat×Nat×Nat×List D)) (Γ:Env):Env:=⟨Γ.lends,Γ.sem,Γ.own,Γ.hint,Γ.ins,Γ.grw,Γ.nst,⟨Γ.nx.lnd,fun g=>if g=f then some p else Γ.nx.res g⟩⟩
theorem bH.By (O:bH P Γ) {f:Nat} {p:List D->Option (Nat×Nat×Nat×Nat×Nat×List D)} (U:dX P f) (X:∀args ty t s S n cs,p args=some (ty,t,s,S,n,cs)->Jn P f args ty t s S n cs):bH P (Am.By f p Γ):=⟨O.calls,O.ins,O.grw,O.lnd,fun g q h=>by
 simp only[Am.By]at h;split at h
 ·rename_i he;subst he;cases h;exact⟨U,X⟩
 ·exact O.res g q h⟩
def DO (f:Nat) (p:Grow) (Γ:Env):Env:=⟨Γ.lends,Γ.sem,Γ.own,Γ.hint,Γ.ins,fun g=>if g=f then some p else Γ.grw g,Γ.nst,Γ.nx⟩
theorem bH.DO (O:bH P Γ) {f:Nat} {p:Grow} (U:Wx P f p):bH P (Am.DO f p Γ):=⟨O.calls,O.ins,fun g q h=>by
 simp only[Am.DO]at h;split at h
 ·rename_i he;subst he;cases h;exact U
 ·exact O.grw g q h,O.lnd,O.res⟩
end
def qI (ty t s o:Nat) (cs args:List D):St:=⟨fun i=>(.ptr 0 0 o::args).getD i .und,mC (iV ty t s 0 cs),1⟩
def XX (t s:Nat) (ds:List D):List D->Option (D×List D)
 | [.nr O U _ cs']=>if O=t∧U=s then some (kJ ds,cs') else none
 | _=>none
def Mt (ty t s:Nat):Option (List D×List Nat)->Option Row->Option (D×List D)
 | some (ds,fr),some r=>if r.v=0∧r.fz=false∧r.ty=ty∧r.mp=true∧fr.all (fun k=>rt k != 0)=true then XX t s ds r.cells else none
 | _,_=>none
def Vj (T:Nat->Option Ty) (ty t s:Nat) (rs:List ResultVar) (st:St):Option (D×List D):=Mt ty t s (sr T ⟨st.t,EH st.h,st.e⟩ rs) (st.h 0)
def R4 (T:Nat->Option Ty) (Γ:Env) (F:Nat) (fn:Func) (ty t s o:Nat) (cs args:List D):Option (D×List D) :=
 match fn.body with
 | some c =>
  if fn.ntmps<=PK then
   match fQ T Γ fn.ntmps F c (qI ty t s o cs args) with
   | some (.exit _,_)=>none
   | some (_,st)=>Vj T ty t s fn.results.toList st
   | none=>none
  else none
 | none=>none
def XW (x S n:Nat) (ty:Nat):List D->Option (Nat×Nat×Nat×Nat×Nat×List D)
 | [.nr t s _ cs]=>if x<PK then some (ty,t,s,S,n,cs) else none
 | _=>none
def Mr (x v S n:Nat):Option Row->Option (Nat×Nat×Nat×Nat×Nat×List D)
 | some r=>if r.v=v∧r.fz=false∧r.mp=true then XW x S n r.ty r.cells else none
 | none=>none
def Tb (h:Nat->Option Row):D->Option (Nat×Nat×Nat×Nat×Nat×List D)
 | .buf x v S 0 n=>Mr x v S n (h x)
 | _=>none
def Vi (rs:List ResultVar) (st:St):Option (Nat×Nat×Nat×Nat×Nat×List D) :=
 match rs with
 | [.tmp i]=>Tb st.h (st.t i)
 | _=>none
def KR (T:Nat->Option Ty) (Γ:Env) (F:Nat) (fn:Func) (args:List D):Option (Nat×Nat×Nat×Nat×Nat×List D) :=
 match fn.body with
 | some c =>
  if fn.ntmps<=PK then
   match fQ T Γ fn.ntmps F c (b7 none args) with
   | some (.exit _,_)=>none
   | some (_,st)=>Vi fn.results.toList st
   | none=>none
  else none
 | none=>none
section
variable {P:Program} {T:Nat->Option Ty} {N:Nat} {M:Nat->Prop} {L:jg} {w0:World} {blk:Nat->Option (Nat×Nat)} {a:Act} {w:World} {Γ:Env}
theorem KT (hT:ig P T) (hΓ:bH P Γ) (hm:P.follows .mixedOrders=true) {f:FuncId} {fn:Func} {F:Nat} {ty t s o:Nat} {cs args cs':List D} {d:D} (hf:P.funcs[f]? = some fn)
  (ak:(match fn.body with|some c=>codeOk c|none=>true)=true) (hn:args.length+1<=fn.ntmps)
  (X:R4 T Γ F fn ty t s o cs args=some (d,cs')):Jo P f ty t s o cs args d cs':=by
 unfold R4 at X;split at X<;>try (cases X;done)
 rename_i c hc;rw[hc]at ak;simp only at ak;split at X<;>try (cases X;done)
 rename_i au;split at X<;>try (cases X;done)
 rename_i x st az hv;intro w M blk h0 h1 g0 vs ae ag hM hdis al hR Y;have aI:=cv;have hfz:∀k r,h0 k=some r->r.fz=false:=by
  intro k r hk;rw[ae]at hk;rcases iO hk with⟨_,rfl⟩|⟨_,_,_,_,_,rfl⟩<;>rfl
 have aa:∀b,Own M h0 blk b↔(M b∨uN blk h0 b):=by
  intro b;constructor
  ·rintro (O|⟨k,r,g,h1,_,h2,h3⟩)
   ·exact .inl O
   ·exact .inr ⟨k,r,g,h1,h2,h3⟩
  ·rintro (O|⟨k,r,g,h1,h2,h3⟩)
   ·exact .inl O
   ·exact .inr ⟨k,r,g,h1,hfz k r h1,h2,h3⟩
 have an:h0 0=some ⟨0,ty,cs.mapIdx (pO 0 s),false,true,true⟩:=by rw[ae];exact uh
 obtain⟨LL,ao⟩:∃LL:jg,LL=some (some g0,uN blk h0):=⟨_,rfl⟩;have ah:∀b,LB LL b↔uN blk h0 b:=by
  intro b;subst ao;constructor
  ·rintro⟨p,hp,h⟩;cases hp;rcases h with⟨g,hg,rfl⟩|h
   ·cases hg;exact⟨0,_,g0,an,al,rfl⟩
   ·exact h
  ·exact fun h=>⟨_,rfl,.inr h⟩
 have hI:Inv fn.ntmps M LL w blk (fun x v=>x<fn.ntmps∧v<1) (qI ty t s o cs args).t h0 { tmps:=(#[Value.pointer (some ⟨g0.1,g0.2+o,none⟩)]++vs)++Array.replicate (fn.ntmps-(#[Value.pointer (some ⟨g0.1,g0.2+o,none⟩)]++vs).size) undef,defers:=[] } w:={
  tab:=fun b O=>(Y.tab b O).less fun b O=>(aa b).1 O
  below:=ey.refl _ _
  mlt:=hM
  lent:=fun b O=>hdis b ((ah b).1 O)
  pin:=fun p hp=>by
   subst ao;cases hp;exact⟨⟨by omega,aiq⟩,fun r' _ _=>⟨al,fun g _=>rfl⟩⟩
  defers:=rfl
  tsz:=by have:=Y.1;simp;omega
  slots:=fun i=>by
   simp only[qI];rcases uj (args := .ptr 0 0 o::args) (vs:=#[.pointer (some ⟨g0.1,g0.2+o,none⟩)]++vs) (n:=fn.ntmps) (i:=i) (by simp[Y.1];omega) with he|he
   ·rw[he];cases i with
    | zero =>
     have e1:(#[Value.pointer (some ⟨g0.1,g0.2+o,none⟩)]++vs).getD 0 undef=.pointer (some ⟨g0.1,g0.2+o,none⟩):=by simp[Array.getElem?_append]
     rw[e1];simp only[ahJ];exact⟨⟨by omega,aiq⟩,fun r' _ _=>⟨g0,al,rfl⟩⟩
    | succ i =>
     have e1:(#[Value.pointer (some ⟨g0.1,g0.2+o,none⟩)]++vs).getD (i+1) undef=vs.getD i undef:=by
      simp only[agH];rw[Array.getElem?_append_right (by simp)];simp
     rw[e1];simp only[ahK]
     by_cases hi:i<args.length
     ·have h1:=Y.2 i _ (agP hi);have e1:args.getD i .und=args[i]:=by simp[List.getD,hi]
      rw[e1];exact bz (h1.less fun b O=>(aa b).1 O)
     ·have e1:args.getD i .und=.und:=by simp[List.getD,aij (aip hi)]
      rw[e1];trivial
   ·rw[he];trivial
  rows:=fun k r hk=>by
   refine⟨fun hn =>?_,?_⟩
   ·rw[ae]at hk;rcases iO hk with⟨rfl,rfl⟩|⟨o',_,_,rfl,_,rfl⟩
    ·exact⟨hn,aiq⟩
    ·have:=eS 0 o';omega
   ·have:=hR.rows k r hk;cases hg:blk k with
    | none=>rw[hg]at this;exact this
    | some g =>
     rw[hg]at this;exact⟨.inr ((ah g.1).2 ⟨k,r,g,hk,hg,rfl⟩),this.keep rfl rfl rfl rfl fun b q1 q2=>⟨q1,fun O=>q2 ((aa b).1 O),rfl⟩⟩
  inj:=hR.inj
  big:=au
  pha:=hR.pha
  ali:=fun y r g hy hz=>by rw[hfz y r hy]at hz;cases hz }
 have av:FG (qI ty t s o cs args).e [] (qI ty t s o cs args).h:=by
  intro k r' ty' s' aA aB hx aJ aw;simp only[qI,mC]at hx;split at hx
  ·simp only[agL]at hx;subst hx;simp only[iV,ag0,D.nr.injEq,and_true]at aw;obtain⟨_,_,rfl,_⟩:=aw;exact fun _=>⟨by simp[qI],fun _=>by simp[qI]⟩
  ·cases hx
 have aC:EH (qI ty t s o cs args).h=h0:=ae.symm;apply calls_of_wp hf hc;refine iH hT hΓ hm c (qI ty t s o cs args) x st _ _ _ hv ak ⟨_,⟨(by rw[aC];exact hI.weaken fun x v hx=>Or.inl ⟨hx.1,Or.inl hx.2⟩),av⟩⟩ (fun a' w' hH =>?_);obtain⟨blk',aD⟩:=hH;have hI':=aD.inv;unfold Vj Mt at X;split at X<;>try (cases X;done)
 rename_i ds fr r1 ax ai;split at X<;>try (cases X;done)
 rename_i aq;obtain⟨c1,c2,c3,c4,c5⟩:=aq;unfold XX at X;split at X<;>try (cases X;done)
 rename_i t' s' aA aB U;split at X<;>try (cases X;done)
 rename_i aE;obtain⟨rfl,rfl⟩:=aE;simp only[agL,Prod.mk.injEq]at X;obtain⟨rfl,rfl⟩:=X;have aF:=fG ai c4 U mf;obtain⟨p1,p2⟩:=(hI'.pin (some g0,uN blk h0) ao).2 _ aF c1;have aj:=Jp (blk:=blk') ai c4 U mf;rw[c3]at aj;have hQ:∀b,(M b∨uN (pN blk' 0) h1 b)->Own M (EH st.h) blk' b:=by
  rintro b (O|O)
  ·exact .inl O
  ·rw[ag]at O;obtain⟨k,r',g',q0,q1,q2,q3⟩:=(aj b).1 O;refine .inr ⟨k,r',g',q1,?_,q2,q3⟩;rcases eA ai c4 U mf q0 q1 with⟨_,rfl⟩|⟨_,_,_,_,_,rfl⟩<;>exact c2
 have ar:nP M (EH st.h) blk' fr (fun b=>M b∨uN (pN blk' 0) h1 b):=by
  refine⟨hQ,fun k hk r' g ay hg O =>?_⟩;rcases O with O|O
  ·exact hI'.notM ay hg O
  ·rw[ag]at O;obtain⟨l,r2,g',q0,q1,q2,q3⟩:=(aj _).1 O;have:=hI'.inj k l r' r2 g g' ay q1 hg q2 q3.symm;subst this;have:=agN.1 c5 _ hk;simp[q0]at this
 obtain⟨v,aG,aH⟩:=qo (P:=P) (s:=⟨st.t,EH st.h,st.e⟩) hT hI' ax ar;have ab:=hI'.ac4 ai c4 U c2 mf hQ;rw[c3,<- ag]at ab;have ad:a'.defers=[]∧∃v,(results fn a'.tmps).run P w'=.ok v w'∧(∃v' Z,Ending.returned v=.returned v'∧ey (uN blk h0) w w'∧Z 0=some g0∧w'.shape? g0.1=w.shape? g0.1∧(∀b,uN Z h1 b->w.heap.size<=b∨uN blk h0 b)∧Gj w' (fun b=>M b∨uN Z h1 b) Z h1∧RP w' (fun b=>M b∨uN Z h1 b) (kJ ds) v'):=by
  refine⟨hI'.defers,v,aG,v,pN blk' 0,rfl,⟨hI'.below.os,hI'.below.tape,hI'.below.output,hI'.below.size,fun k hk hn=>hI'.below.block k hk fun O=>hn ((ah k).1 O)⟩,by rw[pN,qG];exact p1,p2 g0 rfl,fun b O =>?_,ab,aH⟩;rw[ag]at O;obtain⟨k,r',g',q0,q1,q2,q3⟩:=(aj b).1 O;rcases hI'.base q1 q2 with q|q
  ·exact .inl (by omega)
  ·exact .inr (by rw[<- q3];exact (ah _).1 q)
 cases x with
 | normal=>exact ad
 | ret=>exact ad
 | exit n=>exact (az n rfl).elim
theorem afV (hT:ig P T) (hΓ:bH P Γ) (hm:P.follows .mixedOrders=true) {f:FuncId} {fn:Func} {F:Nat} {args:List D} {c:Code} {x:Ex} {st:St} (hf:P.funcs[f]? = some fn) (hc:fn.body=some c) (ad:codeOk c=true) (hn:args.length<=fn.ntmps) (aa:fn.ntmps<=PK)
  (hv:fQ T Γ fn.ntmps F c (b7 none args)=some (x,st)) (ae:∀n,x ≠ .exit n) {w:World} {M:Nat->Prop} {vs:Array Value} (hM:∀b,M b->b<w.heap.size) (O:xo w M args vs) {Φ:Ending->World->Prop}
  (hk:∀Z w' blk',Inv fn.ntmps M none w blk' (VE fn.ntmps st.e [] st.h) st.t (EH st.h) Z w'->∃v,(results fn Z.tmps).run P w'=.ok v w'∧Φ (.returned v) w'):Calls P f vs w Φ:=by
 have hI:Inv fn.ntmps M none w (fun _=>none) (fun x v=>x<fn.ntmps∧v<0) (b7 none args).t (b7 none args).h { tmps:=vs++Array.replicate (fn.ntmps-vs.size) undef,defers:=[] } w:={
  tab:=fun b U=>(O.tab b U).less fun b U=>by
   rcases U with U|⟨x,r,g,X,_⟩
   ·exact U
   ·cases X
  below:=ey.refl _ _
  mlt:=hM
  lent:=fun b U=>absurd U pT
  pin:=fun go hg=>by cases hg
  defers:=rfl
  tsz:=by have:=O.1;simp;omega
  slots:=fun i=>by
   simp only[b7];rcases uj (n:=fn.ntmps) (i:=i) O.1 with he|he
   ·rw[he]
    by_cases hi:i<args.length
    ·have h1:=O.2 i _ (agP hi);have e1:args.getD i .und=args[i]:=by simp[List.getD,hi]
     rw[e1];exact bz (h1.less fun b U=>by
      rcases U with U|⟨x,r,g,X,_⟩
      ·exact U
      ·cases X)
    ·have e1:args.getD i .und=.und:=by simp[List.getD,aij (aip hi)]
     rw[e1];trivial
   ·rw[he];trivial
  rows:=fun x r X=>by cases X
  inj:=fun x y r s g g' X=>by cases X
  big:=aa
  pha:=fun y r g hy=>by cases hy
  ali:=fun y r g hy=>by cases hy }
 apply calls_of_wp hf hc;refine iH hT hΓ hm c (b7 none args) x st _ _ _ hv ad ⟨_,⟨(by rw[Cb (fun k r hk=>by cases hk)];exact hI.weaken fun x v X=>absurd X.2 (Nat.not_lt_zero _)),fun x r ty s nv cs X=>by cases X⟩⟩ (fun Z w' hH =>?_);obtain⟨blk',ab⟩:=hH;obtain⟨v,h1,h2⟩:=hk Z w' blk' ab.inv;have Y:Z.defers=[]∧∃v,(results fn Z.tmps).run P w'=.ok v w'∧Φ (.returned v) w':=⟨ab.inv.defers,v,h1,h2⟩;cases x with
 | normal=>exact Y
 | ret=>exact Y
 | exit n=>exact (ae n rfl).elim
theorem PQ {F:Nat} {fn:Func} {args:List D} {ty t s S n:Nat} {cs:List D} (O:KR T Γ F fn args=some (ty,t,s,S,n,cs)) :
  ∃c x st i k v r nv,fn.body=some c∧fn.ntmps<=PK∧fQ T Γ fn.ntmps F c (b7 none args)=some (x,st)∧(∀m,x ≠ .exit m)∧fn.results.toList=[.tmp i]∧st.t i=.buf k v S 0 n∧st.h k=some r∧r.v=v∧r.fz=false∧r.mp=true∧k<PK∧r.ty=ty∧r.cells=[.nr t s nv cs]:=by
 unfold KR at O;split at O<;>try (cases O;done)
 rename_i c hc;split at O<;>try (cases O;done)
 rename_i Y;split at O<;>try (cases O;done)
 rename_i x st hne hv;unfold Vi at O;split at O<;>try (cases O;done)
 rename_i i Z;unfold Tb at O;split at O<;>try (cases O;done)
 rename_i k v S' n' ht;unfold Mr at O;split at O<;>try (cases O;done)
 rename_i r hh;split at O<;>try (cases O;done)
 rename_i U;unfold XW at O;split at O<;>try (cases O;done)
 rename_i t' s' nv cs' X;split at O<;>try (cases O;done)
 rename_i hk;simp only[agL,Prod.mk.injEq]at O;obtain⟨h1,h2,h3,h4,h5,h6⟩:=O;subst h2 h3 h4 h5 h6;exact⟨c,x,st,i,k,v,r,nv,hc,Y,hv,fun m hm=>hne m hm,Z,ht,hh,U.1,U.2.1,U.2.2,hk,h1,X⟩
theorem KS (hT:ig P T) (hΓ:bH P Γ) (hm:P.follows .mixedOrders=true) {f:FuncId} {fn:Func} {F:Nat} {args:List D} {ty t s S n:Nat} {cs:List D} (hf:P.funcs[f]? = some fn)
  (Y:(match fn.body with|some c=>codeOk c|none=>true)=true) (hn:args.length<=fn.ntmps)
  (hr:KR T Γ F fn args=some (ty,t,s,S,n,cs)):Jn P f args ty t s S n cs:=by
 obtain⟨c,x,st,i,k,v,r,nv,hc,ab,hv,ai,aj,ht,hh,c1,c2,c3,hk,ad,O⟩:=PQ hr;rw[hc]at Y;simp only at Y;intro w M h vs ae hM Z;refine afV hT hΓ hm hf hc Y hn ab hv ai hM Z fun a' w' blk' X =>?_;have aa:=Jp (blk:=blk') hh c3 O hk;rw[ad,<- ae]at aa;have ag:Below w.heap.size w w':=X.below.below (fun b hb=>absurd hb pT);have hQ:∀b,(M b∨uN (pN blk' k) h b)->Own M (EH st.h) blk' b:=by
  rintro b (hb|hb)
  ·exact .inl hb
  ·obtain⟨l,r',g',q0,q1,q2,q3⟩:=(aa b).1 hb;refine .inr ⟨l,r',g',q1,?_,q2,q3⟩;rcases eA hh c3 O hk q0 q1 with⟨_,rfl⟩|⟨_,_,_,_,_,rfl⟩<;>exact c2
 have U:=X.ac4 hh c3 O c2 hk hQ;rw[ad,<- ae]at U;have ah:=X.slots i;rw[ht]at ah;refine⟨_,ns aj,_,pN blk' k,rfl,ag,fun b hb =>?_,U,trivial,fun r' _ _ =>?_⟩
 ·obtain⟨l,r',g',q0,q1,q2,q3⟩:=(aa b).1 hb;rcases X.base q1 q2 with q|q
  ·omega
  ·exact absurd q pT
 ·rw[pN,qG];exact ah.2 _ (fG hh c3 O hk) c1
end
def Yj:cr->D
 | (n,none) =>.int .i64 n
 | (a,some b) =>.agg [.int .i64 a,.int .i64 b]
theorem Nx {w:World} {M:Nat->Prop} (k:cr):RP w M (Yj k) (kf k):=by
 obtain⟨a,x⟩:=k;cases x with
 | none=>exact .int _ _
 | some b =>
  refine .agg [.int .i64 a,.int .i64 b] [.int .i64 a,.int .i64 b] rfl (fun j x O =>?_) (fun x U =>?_)
  ·match j,O with
   | 0,O=>simp only[List.getElem?_cons_zero,agL]at O;subst O;exact .int _ _
   | 1,O=>simp only[List.getElem?_cons_succ,List.getElem?_cons_zero,agL]at O;subst O;exact .int _ _
   | j+2,O=>simp at O
  ·simp only[agJ,ahL,or_false]at U;rcases U with rfl|rfl<;>rfl
section
variable {P:Program} {T:Nat->Option Ty} {N:Nat} {M:Nat->Prop} {L:jg} {w0:World} {blk:Nat->Option (Nat×Nat)} {V:Nat->Nat->Prop} {t:Nat->D} {h:Nat->Option Row} {a:Act} {w:World} {e:Nat} {o:Oper} {Γ:Env} {done:List Nat}
theorem sZ {x v ty:Nat} {ks:List cr} {vs:List D} {fz lst:Bool} (O:h x=some ⟨v,ty,[.mpc ks vs],fz,lst,true⟩) (U:x<PK):EH h x=some ⟨v,ty,[.mpc ks vs],fz,lst,true⟩∧∀o,EH h (NK x o)=none:=by
 constructor
 ·rw[qK (by have:=cv;omega),O];rfl
 ·intro o;rw[qJ U,O];rfl
theorem uQ (Z:rF N M L w0 blk e done t h a w) (hd:∀d:Nat,o.dst=some d->d∉done∧d<N) {E:bF} {v:Value} {w':World} (O:gH e h (aO h E.hw)) (hA:je N M L w0 (VE N e done h) t h a e o.dst E v w'):Ca N M L w0 t h a e (o.dst.toList++done) E v w':=by
 have U:∀x,x∈done->x∈o.dst.toList++done:=fun x Y=>agR _ Y;obtain⟨blk',h1,h2⟩:=hA;have X:∀x n,VE N e done h x n∨(o.dst=some x∧n=e)->VE N e (o.dst.toList++done) (aO h E.hw) x n:=by
  rintro x n (hv|⟨Y,rfl⟩)
  ·exact hv.step O U
  ·exact .inl ⟨(hd x Y).2,.inr ⟨rfl,agQ _ (by rw[Y];simp)⟩⟩
 exact⟨blk',⟨h1.weaken X,Z.nv.step O U⟩,h2.mono ⟨fun _ h1 h2=>⟨h1,h2,rfl⟩,X,fun _ _ _ r' h1 h2=>⟨⟨r',h1,h2⟩,rfl,fun _ _=>rfl⟩⟩⟩
theorem yT {ops:Array Oper} {l:List Oper} {Q:Exit->Act->World->Prop} (Y:o.guard=none) {K:(Nat->D)->(Nat->Option Row)->Prop} (hI:rF N M L w0 blk e done t h a w) (Z:fits N o.dst=true)
  (hD:dY P o a w fun v w'=>∃E:bF,K (eN t o.dst E.val) (aO h E.hw)∧Ca N M L w0 t h a e (o.dst.toList++done) E v w')
  (hK:∀U h' X w' blk',K U h'->rF N M L w0 blk' e (o.dst.toList++done) U h' X w'->wpList P ops Q l X w'):wpList P ops Q (o::l) a w:=by
 unfold wpList;have:Region.wanted o (yielded ops a.tmps)=true:=by simp[Region.wanted,Y]
 rw[this];simp only[if_true];refine .inl (hD.wp fun v w' hA =>?_);obtain⟨E,hk,blk',O,hR⟩:=hA;exact hK _ _ _ _ blk' hk ⟨O.inv.adk Z hR,O.nv⟩
theorem Qo (hT:ig P T) (hI:Inv N M L w0 blk V t (EH h) a w) {ty d x v v' O k el:Nat} {m:Operand} {ks:List cr} {vs:List D} {lst:Bool} (ho:o.op=.range ty m) (hd:o.dst=some d) (hV:iR N V d e) (hu:P.underlying ty=some (.map k el)) (hm:ev t m=.mp x v)
  (hx:h x=some ⟨v,O,[.mpc ks vs],false,lst,true⟩) (ax:O<900000) (ah:x<PK) (ai:d≠x) :
  dY P o a w (je N M L w0 V t h a e o.dst ⟨.ptr d e 0,[(x,some ⟨v,O,[.mpc ks vs],true,true,true⟩),(d,some ⟨e,900000,[.mpc ks vs],false,true,true⟩)]⟩):=by
 have aJ:=cv;have aI:=hI.big;have aK:d<N:=hV.lt;have ab:d<PK:=by omega
 obtain⟨ay,aM⟩:=sZ hx ah;have aj:=hI.ev m;rw[hm]at aj;have az:gL (EH h) x v=some (ks,vs):=by unfold gL;rw[ay];simp[ax]
 obtain⟨g,r,h1,h2,h3,h4,h5,aA,hlen,ents,clock,U,aN,aB,us,hk,hv⟩:=hI.N2 az aj;have ak:=run_range_map (P:=P) w ty k el g.1 ents clock hu U;have aC:=hI.le (xI (h:=h) d ab);have aD:bI h d none x=some ⟨v,O,[.mpc ks vs],false,lst,true⟩:=by rw[av _ _ (Ne.symm ai)];exact hx
 obtain⟨al,an⟩:=sZ aD ah;have hA:=aC.freeze [x];have aa:∀z,aO (EH (bI h d none)) (iF (EH (bI h d none)) [x]) z=if z=x then some ⟨v,O,[.mpc ks vs],true,true,true⟩ else EH (bI h d none) z:=by
  intro z;rw[yZ]
  by_cases hz:z=x
  ·subst hz;rw[if_pos (by simp),if_pos rfl,al];rfl
  ·rw[if_neg (by simpa using hz),if_neg hz]
 generalize aP:aO (EH (bI h d none)) (iF (EH (bI h d none)) [x])=ad at hA aa;have ao:=heap_alloc_new w (.mapIter (some g.1) clock #[] clock);have hold:∀b,b<w.heap.size->(w.alloc (.mapIter (some g.1) clock #[] clock)).heap[b]? = w.heap[b]?:=fun b X=>Below.heap_alloc w _ b X;have Y:=(Below.refl w.heap.size w).alloc (agC _) (.mapIter (some g.1) clock #[] clock);have ar:g.1<w.heap.size:=(agG.1 U).1;have ae:ad x=some ⟨v,O,[.mpc ks vs],true,true,true⟩:=by rw[aa,if_pos rfl]
 have aE:¬Own M ad blk g.1:=by
  rintro (X|⟨y,r',g',hy,Z,ag,he⟩)
  ·exact hA.notM ae h5 X
  ·have:y=x:=hA.inj y x r' _ g' g hy ae ag h5 he;subst this;rw[ae]at hy;cases hy;cases Z
 have hB:=hA.Cp (w':=w.alloc (.mapIter (some g.1) clock #[] clock)) (h1:=ad) (old:=none) (d:=d) (e:=e) (r0:=⟨e,900000,[.mpc ks vs],false,true,true⟩) (go:=some (w.heap.size,0)) Y.os Y.tape Y.output Y.size (fun k hk _=>hold k hk) (fun y hy=>by cases hy) rfl hV
  ⟨.inl (agC _),.inl ⟨ks,vs,rfl,hlen,fun q=>absurd q (Nat.lt_irrefl _),fun _=>⟨rfl,g.1,ents,clock,#[],[],List.range ks.length,us,ao,by have:=Y.size;omega,by
   rintro (X|X)
   ·exact aE X
   ·have:g.1=w.heap.size:=X;omega,(hold _ ar).trans U,aB,(ahQ 900000).symm,agD _,by simp,List.nodup_range,fun i=>by
   rw[ain];constructor
   ·intro hi;exact⟨ents[i]'(by omega),ahP (by omega),by simp⟩
   ·rintro⟨e1,aF,_⟩;have:=(agG.1 aF).1;omega,fun i hi=>by simp at hi,fun j k' hj=>by
   obtain⟨e1,p1,p2,p3⟩:=hk j k' hj;have aG:=(ag5.1 hj).1;exact⟨j,e1,by simp[aG],p1,p2,p3⟩,fun j y hj=>(hv j y hj).keep fun b q1 q2=>⟨by have:=Y.size;omega,by
    rintro (X|X)
    ·apply q2;rcases X with X|⟨y,r',g',hy,Z,ag,he⟩
     ·exact .inl X
     ·by_cases au:y=x
      ·subst au;rw[ae]at hy;cases hy;cases Z
      ·rw[aa,if_neg au]at hy;obtain⟨r2,q3,q4⟩:=xI (h:=h) d ab y r' hy;refine .inr ⟨y,r2,g',q3,?_,ag,he⟩;rcases q4 with rfl|⟨_,cs,rfl,_⟩|⟨_,kk,rfl⟩
       ·exact Z
       ·exact Z
       ·exact Z
    ·have:b=w.heap.size:=X;omega,hold b q1⟩⟩⟩⟩ rfl rfl (fun _ g' ag j x' s' n' hj=>by cases j<;>simp at hj)
 have aw:bI ad d (some (⟨e,900000,[.mpc ks vs],false,true,true⟩:Row))=EH (aO h [(x,some ⟨v,O,[.mpc ks vs],true,true,true⟩),(d,some ⟨e,900000,[.mpc ks vs],false,true,true⟩)]):=by
  have aH:aO h [(x,some ⟨v,O,[.mpc ks vs],true,true,true⟩),(d,some ⟨e,900000,[.mpc ks vs],false,true,true⟩)]=bI (bI h x (some ⟨v,O,[.mpc ks vs],true,true,true⟩)) d (some ⟨e,900000,[.mpc ks vs],false,true,true⟩):=rfl;rw[aH];have k1:bI (bI h x (some (⟨v,O,[.mpc ks vs],true,true,true⟩:Row))) d (some ⟨e,900000,[.mpc ks vs],false,true,true⟩) d=some ⟨e,900000,[.mpc ks vs],false,true,true⟩:=aq _ _ _;have k2:bI (bI h x (some (⟨v,O,[.mpc ks vs],true,true,true⟩:Row))) d (some ⟨e,900000,[.mpc ks vs],false,true,true⟩) x=some ⟨v,O,[.mpc ks vs],true,true,true⟩:=by rw[av _ _ (Ne.symm ai),aq]
  obtain⟨m1,m2⟩:=sZ k1 ab;obtain⟨m3,m4⟩:=sZ k2 ah;have k3:bI h d none d=none:=aq _ _ _;funext z
  by_cases hzd:rt z=d
  ·rcases nF hzd with rfl|⟨o',rfl⟩
   ·rw[aq,m1]
   ·rw[av _ _ (by have:=eS d o';omega),m2,aa,if_neg (by have:=eS d o';omega),qJ ab,k3];rfl
  ·rw[av _ _ (fun e=>hzd (by rw[e,gQ (by omega)])),aa]
   by_cases hzx:rt z=x
   ·rcases nF hzx with rfl|⟨o',rfl⟩
    ·rw[if_pos rfl,m3]
    ·rw[if_neg (by have:=eS x o';omega),m4,an]
   ·rw[if_neg (fun e=>hzx (by rw[e,gQ (by omega)]))];exact dZ (by rw[av _ _ hzd,av _ _ hzd,av _ _ hzx])
 rw[aw]at hB;refine aL (v := .pointer (some ⟨w.heap.size,0,none⟩)) (w':=w.alloc (.mapIter (some g.1) clock #[] clock)) ?_ ⟨bI blk d (some (w.heap.size,0)),hB.weaken fun x n hx =>?_,?_⟩
 ·simp[execOp,ho,aA,ak]
 ·rcases hx with hx|⟨rfl,rfl⟩
  ·exact .inl hx
  ·exact .inr ⟨hd,rfl⟩
 ·exact⟨.inr ⟨hd,rfl⟩,fun r hr hv=>⟨(w.heap.size,0),aq _ _ _,rfl⟩⟩
theorem Inv.iter (hI:Inv N M L w0 blk V t (EH h) a w) {y v ty:Nat} {p:Operand} {ks:List cr} {vs:List D} {lst:Bool} (hp:Am.ev t p=.ptr y v 0) (hy:h y=some ⟨v,ty,[.mpc ks vs],false,lst,true⟩) (Z:900000<=ty) (hyp:y<PK) :
  ∃(g:Nat×Nat),blk y=some g∧a.eval p=.pointer (some ⟨g.1,g.2+0,none⟩)∧vs.length=ks.length∧KX w (Own M (EH h) blk) g ty ks vs:=by
 obtain⟨U,_⟩:=sZ hy hyp;have X:=hI.ev p;rw[hp]at X;obtain⟨g,hg,hu⟩:=X.2 _ U rfl;have O:=hI.rowIs U hg;unfold dU at O;simp only at O;rcases O with⟨aa,ab,Y,k2,_,k4⟩|⟨Y,_⟩
 ·simp only[ag0,D.mpc.injEq,and_true]at Y;obtain⟨rfl,rfl⟩:=Y;exact⟨g,hg,hu,k2,k4 Z⟩
 ·have:=Y _ (agZ.2 rfl);cases this
theorem Sd {y v ty ty':Nat} {ks U:List cr} {vs X:List D} {fz lst fz' O:Bool} (Z:h y=some ⟨v,ty,[.mpc ks vs],fz,lst,true⟩) (hyp:y<PK):EH (bI h y (some ⟨v,ty',[.mpc U X],fz',O,true⟩))=bI (EH h) y (some ⟨v,ty',[.mpc U X],fz',O,true⟩):=by
 obtain⟨_,m2⟩:=sZ Z hyp;have Y:bI h y (some (⟨v,ty',[.mpc U X],fz',O,true⟩:Row)) y=some ⟨v,ty',[.mpc U X],fz',O,true⟩:=aq _ _ _;obtain⟨m3,m4⟩:=sZ Y hyp;funext z
 by_cases hz:rt z=y
 ·rcases nF hz with rfl|⟨o',rfl⟩
  ·rw[aq,m3]
  ·rw[av _ _ (by have:=eS y o';have:=cv;omega),m4,m2]
 ·rw[av _ _ (fun e=>hz (by rw[e,gQ (by have:=cv;omega)]))];exact dZ (by rw[av _ _ hz])
theorem Vd (hI:Inv N M L w0 blk V t (EH h) a w) {y v ty:Nat} {p:Operand} {ks:List cr} {vs:List D} {lst:Bool} (ho:o.op=.next p false) (hp:ev t p=.ptr y v 0) (hy:h y=some ⟨v,ty,[.mpc ks vs],false,lst,true⟩) (aF:900000<=ty) (hyp:y<PK) :
  dY P o a w fun v' w'=>(ks.drop (ty-900000)=[]∧je N M L w0 V t h a e o.dst ⟨.tup [.bool false],[]⟩ v' w') ∨
   ∃(j:Nat) (k:cr) (x:D),(ks.drop (ty-900000))[j]? = some k∧(vs.drop (ty-900000))[j]? = some x∧je N M L w0 V t h a e o.dst ⟨.tup [.bool true,Yj k,x],[(y,some ⟨v,900001,[.mpc (k::(ks.drop (ty-900000)).eraseIdx j) (x::(vs.drop (ty-900000)).eraseIdx j)],false,lst,true⟩)]⟩ v' w':=by
 obtain⟨g,hg,an,hlen,az,b,ents,clock,seen,c,l,us,h1,h2,h3,h4,ao,k1,k2,k3,k4,k5,k6,k7,k8⟩:=hI.iter hp hy aF hyp;rw[az,ahb]at an;obtain⟨aq,_⟩:=sZ hy hyp;rw[<- k1];have ad:(ks.drop c.length).length=l.length:=by rw[agW,<- k3,ahO];omega
 have aG:(vs.drop c.length).length=l.length:=by rw[agW,hlen,<- k3,ahO];omega
 rcases run_next_at (P:=P) w o.type g.1 b clock clock seen ents clock h1 h4 ao.1 (agC _) with⟨aH,Y⟩|⟨U,aI,w1,aJ,Y⟩
 ·refine aL (v := .tuple #[.bool false]) (w':=w) (by simp[execOp,ho,an,Y]) (.inl ⟨?_,?_⟩)
  ·have aK:l=[]:=by
    refine List.eq_nil_iff_forall_not_mem.2 fun i hi =>?_;obtain⟨e1,Z,q2⟩:=(k5 i).1 hi;have:e1∈(leftOf ents seen).toList:=by
     unfold leftOf;simp only[Array.toList_filter,aik];exact⟨by simpa using ahv Z,by rw[q2];rfl⟩
    have h0:(leftOf ents seen).toList.length=0:=by simpa using aH
    rw[ahX h0]at this;cases this
   rw[aK]at ad;exact ahX ad
  ·refine bd.dO (h:=EH h) hI (bz (.tup _ [_] rfl fun j x hj =>?_))
   match j,hj with
   | 0,hj=>simp only[List.getElem?_cons_zero,agL]at hj;subst hj;exact .bool _
   | j+1,hj=>simp at hj
 ·obtain⟨m1,m2⟩:=mem_left aI;obtain⟨i,hi⟩:=agY m1;rw[ahu]at hi;have aM:i∈l:=(k5 i).2 ⟨U,hi,m2⟩;obtain⟨j,hj⟩:∃j,j=l.idxOf i:=⟨_,rfl⟩;have aN:j<l.length:=by rw[hj];exact ahN aM
  have aO:l[j]? = some i:=by rw[agP aN];simp[hj]
  have aA:l.erase i=l.eraseIdx j:=List.erase_eq_eraseIdx_of_idxOf hj.symm;have ae:(ks.drop c.length)[j]? = some ((ks.drop c.length)[j]'(by omega)):=agP _;have ag:(vs.drop c.length)[j]? = some ((vs.drop c.length)[j]'(by omega)):=agP _;generalize (ks.drop c.length)[j]'(by omega)=k at ae;generalize (vs.drop c.length)[j]'(by omega)=x at ag;have aB:∀n:Nat,(c++l)[c.length+n]? = l[n]?:=fun n=>by rw[ahh (by omega)];congr 1;omega
  have aa:U.key=kf k∧U.val=us (c.length+j):=by
   rw[agT]at ae;obtain⟨i',e',Z,q2,q3,q4⟩:=k7 _ _ ae;rw[aB,aO]at Z;cases Z;rw[hi]at q2;cases q2;exact⟨q3,q4⟩
  have ai:RP w (Own M (EH h) blk) x (us (c.length+j)):=by
   rw[agT]at ag;exact k8 _ _ ag
  have aC:w1.heap=w.heap∧w1.os=w.os∧w1.tape=w.tape∧w1.output=w.output:=by rcases aJ with rfl|rfl<;>exact⟨rfl,rfl,rfl,rfl⟩
  obtain⟨p1,p2,p3,p4⟩:=aC;generalize ah:ChangeMaps.setBlock w1 g.1 (.mapIter (some b) clock (seen.push U.born) clock)=w' at Y;have aD:g.1<w.heap.size:=(agG.1 h1).1;have ar:w'.heap=w.heap.setIfInBounds g.1 (.mapIter (some b) clock (seen.push U.born) clock):=by rw[<- ah,<- p1];rfl
  have au:w'.heap.size=w.heap.size:=by rw[ar];simp
  have aj:w'.heap[g.1]? = some (.mapIter (some b) clock (seen.push U.born) clock):=by rw[ar,Array.getElem?_setIfInBounds,if_pos rfl,if_pos aD]
  have hheap:∀b',b'≠g.1->w'.heap[b']? = w.heap[b']?:=fun b' hb=>by rw[ar,Array.getElem?_setIfInBounds,if_neg (Ne.symm hb)]
  have ak:Own M (EH h) blk g.1 := .inr ⟨y,_,g,aq,rfl,hg,rfl⟩;have aP:b≠g.1:=fun e=>h3 (e ▸ ak);have aw:∀ {d:D} {u:Value},RP w (Own M (EH h) blk) d u->RP w' (Own M (EH h) blk) d u:=fun hr=>hr.keep fun b Z q2=>⟨by rw[au];exact Z,q2,hheap b (fun e=>q2 (e ▸ ak))⟩;have al:∀ {n:Nat} {e':MapEntry},ents[n]? = some e'->(e'.born==U.born)=decide (n=i):=by
   intro n e' O
   by_cases ax:n=i
   ·subst ax;rw[hi]at O;cases O;simp
   ·have:e'.born≠U.born:=by
     intro he;have aQ:=ao.2.1;have a1:(ents.toList.map (·.born))[n]? = some e'.born:=by simp[O]
     have a2:(ents.toList.map (·.born))[i]? = some U.born:=by simp[hi]
     have aR:=(ag5.1 a1).1;have aS:=(ag5.1 a2).1;exact ax ((List.getElem_inj (h₀:=aR) (h₁:=aS) aQ).1 (by
      have b1:=(ag5.1 a1).2;have b2:=(ag5.1 a2).2;rw[b1,b2,he]))
    simp[ax,this]
  have hB:=hI.jC (x:=y) (r:=⟨v,ty,[.mpc ks vs],false,lst,true⟩) (r0:=⟨v,900001,[.mpc (k::(ks.drop c.length).eraseIdx j) (x::(vs.drop c.length).eraseIdx j)],false,lst,true⟩) (w':=w') aq rfl rfl
   (by rw[<- ah];exact p2) (by rw[<- ah];exact p3) (by rw[<- ah];exact p4) (by rw[au];exact agC _) (fun b' _ hb=>hheap b' (hb g hg)) (by
   rw[hg];refine⟨by simp[World.shape?,aj,h1],.inl ⟨_,_,rfl,?_,fun q=>absurd q (by show ¬(900001<900000);omega),fun _=>⟨az,b,ents,clock,seen.push U.born,[i],l.eraseIdx j,fun m=>if m=0 then U.val else us (c.length+(if m-1<j then m-1 else m)),aj,by rw[au];exact h2,h3,(hheap b aP).trans h4,ao,(ah2 (n:=900000) (m:=1)).symm,agC _,?_,?_,fun n =>?_,fun n O =>?_,fun m k' hm =>?_,fun m x' hm =>?_⟩⟩⟩
   ·simp only[List.length_cons,List.length_eraseIdx];rw[ad,aG]
   ·simp only[ahO,List.length_cons,List.length_nil,List.length_eraseIdx];rw[ad];split<;>omega
   ·rw[<- aA];exact k4.erase _
   ·rw[<- aA,k4.mem_erase_iff,k5];constructor
    ·rintro⟨Z,e',q2,q3⟩;exact⟨e',q2,by rw[contains_push,q3,al q2];simpa using Z⟩
    ·rintro⟨e',q2,q3⟩;rw[contains_push,al q2,Bool.or_eq_false_iff,decide_eq_false_iff_not]at q3;exact⟨q3.2,e',q2,q3.1⟩
   ·simp only[agZ]at O;subst O;exact⟨U,hi,by simp⟩
   ·cases m with
    | zero =>
     simp only[List.getElem?_cons_zero,agL]at hm;subst hm;exact⟨i,U,rfl,hi,aa.1,by simp⟩
    | succ m =>
     rw[ahM,List.getElem?_eraseIdx]at hm;have ab:(ks.drop c.length)[if m<j then m else m+1]? = some k':=by
      by_cases X:m<j
      ·rw[if_pos X]at hm ⊢;exact hm
      ·rw[if_neg X]at hm ⊢;exact hm
     rw[agT]at ab;obtain⟨i',e',Z,q2,q3,q4⟩:=k7 _ _ ab;rw[aB]at Z;refine⟨i',e',?_,q2,q3,?_⟩
     ·rw[List.singleton_append,ahM,List.getElem?_eraseIdx]
      by_cases X:m<j
      ·rw[if_pos X]at Z ⊢;exact Z
      ·rw[if_neg X]at Z ⊢;exact Z
     ·simp only[Nat.add_eq_zero_iff,aiJ,and_false,if_false,aiv];exact q4
   ·cases m with
    | zero =>
     simp only[List.getElem?_cons_zero,agL]at hm;subst hm;simp only[if_true];rw[aa.2];exact aw ai
    | succ m =>
     rw[ahM,List.getElem?_eraseIdx]at hm;have ab:(vs.drop c.length)[if m<j then m else m+1]? = some x':=by
      by_cases X:m<j
      ·rw[if_pos X]at hm ⊢;exact hm
      ·rw[if_neg X]at hm ⊢;exact hm
     rw[agT]at ab;simp only[Nat.add_eq_zero_iff,aiJ,and_false,if_false,aiv];exact aw (k8 _ _ ab)) (fun hh=>by cases hh) (fun _ g' ay j' x' s' n' aT=>by cases j'<;>simp at aT)
  refine aL (v := .tuple #[.bool true,U.key,U.val]) (w':=w') (by simp[execOp,ho,an,Y]) (.inr ⟨j,k,x,ae,ag,blk,?_,?_⟩)
  ·show Inv _ _ _ _ _ _ _ (EH (bI h y (some _))) _ _;rw[Sd hy hyp];exact hB.weaken fun _ _ h =>.inl h
  ·have hle:∀b',Own M (EH (bI h y (some ⟨v,900001,[.mpc (k::(ks.drop c.length).eraseIdx j) (x::(vs.drop c.length).eraseIdx j)],false,lst,true⟩))) blk b'->Own M (EH h) blk b':=by
    rw[Sd hy hyp];rintro b' (hb|⟨z,r',g',hz,aU,ay,he⟩)
    ·exact .inl hb
    ·by_cases aE:z=y
     ·subst aE;exact .inr ⟨z,_,g',aq,rfl,ay,he⟩
     ·rw[av _ _ aE]at hz;exact .inr ⟨z,r',g',hz,aU,ay,he⟩
   refine bz (.tup _ [.bool true,U.key,U.val] rfl fun n d O =>?_)
   match n,O with
   | 0,O=>simp only[List.getElem?_cons_zero,agL]at O;subst O;exact .bool _
   | 1,O =>
    simp only[List.getElem?_cons_succ,List.getElem?_cons_zero,agL]at O;subst O;simp only[ahK,ahJ];rw[aa.1];exact Nx k
   | 2,O =>
    simp only[List.getElem?_cons_succ,List.getElem?_cons_zero,agL]at O;subst O;simp only[ahK,ahJ];rw[aa.2];exact (aw ai).less hle
   | n+3,O=>simp at O
theorem Ql (hI:Inv N M L w0 blk V t (EH h) a w) {y v:Nat} {p:Operand} {k:cr} {x:D} {ks:List cr} {vs:List D} {lst:Bool} (ho:o.op=.entry p) (hp:ev t p=.ptr y v 0) (hy:h y=some ⟨v,900001,[.mpc (k::ks) (x::vs)],false,lst,true⟩) (hyp:y<PK) :
  dY P o a w (je N M L w0 V t h a e o.dst ⟨.tup [Yj k,x],[]⟩):=by
 obtain⟨g,hg,U,hlen,Z,b,ents,clock,seen,c,l,us,h1,h2,h3,h4,aa,k1,k2,k3,k4,k5,k6,k7,k8⟩:=hI.iter hp hy (by omega) hyp;rw[Z,ahb]at U;have ab:c.length=1:=by rw[k1]
 match c,ab with
 | [i],_ =>
  obtain⟨X,q1,q2⟩:=k6 i (by simp);obtain⟨i',e',r1,r2,r3,r4⟩:=k7 0 k rfl;simp only[List.singleton_append,List.getElem?_cons_zero,agL]at r1;subst r1;rw[q1]at r2;cases r2;obtain⟨s0,ad⟩:=Array.back?_eq_some_iff.1 q2;rw[ad]at h1;have Y:=run_entry_at (P:=P) w g.1 b clock s0 ents clock X h1 h4 (by simpa using ahv q1) aa.2.1;refine aL (v := .tuple #[X.key,X.val]) (w':=w) (by simp[execOp,ho,U,Y]) (bd.dO (h:=EH h) hI (bz (.tup _ [X.key,X.val] rfl fun n d O =>?_)))
  match n,O with
  | 0,O =>
   simp only[List.getElem?_cons_zero,agL]at O;subst O;simp only[ahJ];rw[r3];exact Nx k
  | 1,O =>
   simp only[List.getElem?_cons_succ,List.getElem?_cons_zero,agL]at O;subst O;simp only[ahK,ahJ];rw[r4];exact k8 0 x rfl
  | n+2,O=>simp at O
end
def tab (t:Nat):Option Ty :=
 match t with
 | 2=>some ⟨.int .i64,1,8,[.int .i64 0],false⟩
 | 3=>some ⟨.int .i64,1,8,[.int .i64 0],false⟩
 | 4=>some ⟨.bool,1,1,[.bool false],false⟩
 | 5=>some ⟨.int .u8,1,1,[.int .u8 0],false⟩
 | 9=>some ⟨.str,1,16,[.string ⟨#[]⟩],false⟩
 | 12=>some ⟨.int .u64,1,8,[.int .u64 0],false⟩
 | 21=>some ⟨.int .i32,1,4,[.int .i32 0],false⟩
 | 22=>some ⟨.slice 3,1,24,[.slice none 0 0],false⟩
 | 23=>some ⟨.slice 55,1,24,[.slice none 0 0],false⟩
 | 24=>some ⟨.struct [(22,0),(23,1)],2,48,[.slice none 0 0,.slice none 0 0],false⟩
 | 25=>some ⟨.struct [(22,0),(23,1)],2,48,[.slice none 0 0,.slice none 0 0],false⟩
 | 26=>some ⟨.slice 65,1,24,[.slice none 0 0],false⟩
 | 27=>some ⟨.struct [(3,0),(26,1)],2,32,[.int .i64 0,.slice none 0 0],false⟩
 | 28=>some ⟨.struct [(3,0),(26,1)],2,32,[.int .i64 0,.slice none 0 0],false⟩
 | 32=>some ⟨.int .i64,1,8,[.int .i64 0],false⟩
 | 39=>some ⟨.struct [(3,0),(22,1)],2,32,[.int .i64 0,.slice none 0 0],false⟩
 | 40=>some ⟨.struct [(3,0),(22,1)],2,32,[.int .i64 0,.slice none 0 0],false⟩
 | 41=>some ⟨.struct [(40,0),(40,2)],4,64,[.int .i64 0,.slice none 0 0,.int .i64 0,.slice none 0 0],false⟩
 | 42=>some ⟨.struct [(40,0),(40,2)],4,64,[.int .i64 0,.slice none 0 0,.int .i64 0,.slice none 0 0],false⟩
 | 48=>some ⟨.slice 95,1,24,[.slice none 0 0],false⟩
 | 49=>some ⟨.slice 97,1,24,[.slice none 0 0],false⟩
 | 50=>some ⟨.slice 85,1,24,[.slice none 0 0],false⟩
 | 51=>some ⟨.struct [(48,0),(49,1),(50,2)],3,72,[.slice none 0 0,.slice none 0 0,.slice none 0 0],false⟩
 | 52=>some ⟨.struct [(48,0),(49,1),(50,2)],3,72,[.slice none 0 0,.slice none 0 0,.slice none 0 0],false⟩
 | 53=>some ⟨.slice 57,1,24,[.slice none 0 0],false⟩
 | 54=>some ⟨.struct [(52,0),(53,3),(22,4)],5,120,[.slice none 0 0,.slice none 0 0,.slice none 0 0,.slice none 0 0,.slice none 0 0],false⟩
 | 55=>some ⟨.struct [(52,0),(53,3),(22,4)],5,120,[.slice none 0 0,.slice none 0 0,.slice none 0 0,.slice none 0 0,.slice none 0 0],false⟩
 | 56=>some ⟨.struct [(3,0),(3,1)],2,16,[.int .i64 0,.int .i64 0],true⟩
 | 57=>some ⟨.struct [(3,0),(3,1)],2,16,[.int .i64 0,.int .i64 0],true⟩
 | 62=>some ⟨.int .u16,1,2,[.int .u16 0],false⟩
 | 64=>some ⟨.struct [(3,0),(3,1),(42,2)],6,80,[.int .i64 0,.int .i64 0,.int .i64 0,.slice none 0 0,.int .i64 0,.slice none 0 0],false⟩
 | 65=>some ⟨.struct [(3,0),(3,1),(42,2)],6,80,[.int .i64 0,.int .i64 0,.int .i64 0,.slice none 0 0,.int .i64 0,.slice none 0 0],false⟩
 | 74=>some ⟨.map 77 42,1,8,[.map none],false⟩
 | 76=>some ⟨.struct [(3,0),(3,1)],2,16,[.int .i64 0,.int .i64 0],true⟩
 | 77=>some ⟨.struct [(3,0),(3,1)],2,16,[.int .i64 0,.int .i64 0],true⟩
 | 85=>some ⟨.slice 42,1,24,[.slice none 0 0],false⟩
 | 88=>some ⟨.slice 22,1,24,[.slice none 0 0],false⟩
 | 94=>some ⟨.struct [(3,0),(3,1),(3,2)],3,24,[.int .i64 0,.int .i64 0,.int .i64 0],true⟩
 | 95=>some ⟨.struct [(3,0),(3,1),(3,2)],3,24,[.int .i64 0,.int .i64 0,.int .i64 0],true⟩
 | 96=>some ⟨.struct [(3,0),(3,1),(3,2),(9,3)],4,40,[.int .i64 0,.int .i64 0,.int .i64 0,.string ⟨#[]⟩],true⟩
 | 97=>some ⟨.struct [(3,0),(3,1),(3,2),(9,3)],4,40,[.int .i64 0,.int .i64 0,.int .i64 0,.string ⟨#[]⟩],true⟩
 | 109=>some ⟨.int .u64,1,8,[.int .u64 0],false⟩
 | 130=>some ⟨.int .i64,1,8,[.int .i64 0],false⟩
 | 138=>some ⟨.int .u32,1,4,[.int .u32 0],false⟩
 | 140=>some ⟨.int .u64,1,8,[.int .u64 0],false⟩
 | 146=>some ⟨.int .u64,1,8,[.int .u64 0],false⟩
 | _=>none
theorem acw:tab 2=some ⟨.int .i64,1,8,[.int .i64 0],false⟩:=rfl
theorem UG:tab 3=some ⟨.int .i64,1,8,[.int .i64 0],false⟩:=rfl
theorem acx:tab 4=some ⟨.bool,1,1,[.bool false],false⟩:=rfl
theorem acy:tab 5=some ⟨.int .u8,1,1,[.int .u8 0],false⟩:=rfl
theorem ZQ:tab 9=some ⟨.str,1,16,[.string ⟨#[]⟩],false⟩:=rfl
theorem Zx:tab 12=some ⟨.int .u64,1,8,[.int .u64 0],false⟩:=rfl
theorem Zy:tab 21=some ⟨.int .i32,1,4,[.int .i32 0],false⟩:=rfl
theorem KD:tab 22=some ⟨.slice 3,1,24,[.slice none 0 0],false⟩:=rfl
theorem Rw:tab 23=some ⟨.slice 55,1,24,[.slice none 0 0],false⟩:=rfl
theorem Zz:tab 24=some ⟨.struct [(22,0),(23,1)],2,48,[.slice none 0 0,.slice none 0 0],false⟩:=rfl
theorem KE:tab 25=some ⟨.struct [(22,0),(23,1)],2,48,[.slice none 0 0,.slice none 0 0],false⟩:=rfl
theorem ZA:tab 26=some ⟨.slice 65,1,24,[.slice none 0 0],false⟩:=rfl
theorem ZB:tab 27=some ⟨.struct [(3,0),(26,1)],2,32,[.int .i64 0,.slice none 0 0],false⟩:=rfl
theorem ZC:tab 28=some ⟨.struct [(3,0),(26,1)],2,32,[.int .i64 0,.slice none 0 0],false⟩:=rfl
theorem ZD:tab 32=some ⟨.int .i64,1,8,[.int .i64 0],false⟩:=rfl
theorem ZE:tab 39=some ⟨.struct [(3,0),(22,1)],2,32,[.int .i64 0,.slice none 0 0],false⟩:=rfl
theorem Rx:tab 40=some ⟨.struct [(3,0),(22,1)],2,32,[.int .i64 0,.slice none 0 0],false⟩:=rfl
theorem ZF:tab 41=some ⟨.struct [(40,0),(40,2)],4,64,[.int .i64 0,.slice none 0 0,.int .i64 0,.slice none 0 0],false⟩:=rfl
theorem KF:tab 42=some ⟨.struct [(40,0),(40,2)],4,64,[.int .i64 0,.slice none 0 0,.int .i64 0,.slice none 0 0],false⟩:=rfl
theorem Ry:tab 48=some ⟨.slice 95,1,24,[.slice none 0 0],false⟩:=rfl
theorem Rz:tab 49=some ⟨.slice 97,1,24,[.slice none 0 0],false⟩:=rfl
theorem RA:tab 50=some ⟨.slice 85,1,24,[.slice none 0 0],false⟩:=rfl
theorem ZG:tab 51=some ⟨.struct [(48,0),(49,1),(50,2)],3,72,[.slice none 0 0,.slice none 0 0,.slice none 0 0],false⟩:=rfl
theorem RB:tab 52=some ⟨.struct [(48,0),(49,1),(50,2)],3,72,[.slice none 0 0,.slice none 0 0,.slice none 0 0],false⟩:=rfl
theorem RD:tab 53=some ⟨.slice 57,1,24,[.slice none 0 0],false⟩:=rfl
theorem ZH:tab 54=some ⟨.struct [(52,0),(53,3),(22,4)],5,120,[.slice none 0 0,.slice none 0 0,.slice none 0 0,.slice none 0 0,.slice none 0 0],false⟩:=rfl
theorem KG:tab 55=some ⟨.struct [(52,0),(53,3),(22,4)],5,120,[.slice none 0 0,.slice none 0 0,.slice none 0 0,.slice none 0 0,.slice none 0 0],false⟩:=rfl
theorem ZI:tab 56=some ⟨.struct [(3,0),(3,1)],2,16,[.int .i64 0,.int .i64 0],true⟩:=rfl
theorem KH:tab 57=some ⟨.struct [(3,0),(3,1)],2,16,[.int .i64 0,.int .i64 0],true⟩:=rfl
theorem ZJ:tab 62=some ⟨.int .u16,1,2,[.int .u16 0],false⟩:=rfl
theorem ZK:tab 64=some ⟨.struct [(3,0),(3,1),(42,2)],6,80,[.int .i64 0,.int .i64 0,.int .i64 0,.slice none 0 0,.int .i64 0,.slice none 0 0],false⟩:=rfl
theorem ZL:tab 65=some ⟨.struct [(3,0),(3,1),(42,2)],6,80,[.int .i64 0,.int .i64 0,.int .i64 0,.slice none 0 0,.int .i64 0,.slice none 0 0],false⟩:=rfl
theorem ZM:tab 74=some ⟨.map 77 42,1,8,[.map none],false⟩:=rfl
theorem ZN:tab 76=some ⟨.struct [(3,0),(3,1)],2,16,[.int .i64 0,.int .i64 0],true⟩:=rfl
theorem ZO:tab 77=some ⟨.struct [(3,0),(3,1)],2,16,[.int .i64 0,.int .i64 0],true⟩:=rfl
theorem KI:tab 85=some ⟨.slice 42,1,24,[.slice none 0 0],false⟩:=rfl
theorem ZP:tab 88=some ⟨.slice 22,1,24,[.slice none 0 0],false⟩:=rfl
theorem ZR:tab 94=some ⟨.struct [(3,0),(3,1),(3,2)],3,24,[.int .i64 0,.int .i64 0,.int .i64 0],true⟩:=rfl
theorem KJ:tab 95=some ⟨.struct [(3,0),(3,1),(3,2)],3,24,[.int .i64 0,.int .i64 0,.int .i64 0],true⟩:=rfl
theorem ZS:tab 96=some ⟨.struct [(3,0),(3,1),(3,2),(9,3)],4,40,[.int .i64 0,.int .i64 0,.int .i64 0,.string ⟨#[]⟩],true⟩:=rfl
theorem KK:tab 97=some ⟨.struct [(3,0),(3,1),(3,2),(9,3)],4,40,[.int .i64 0,.int .i64 0,.int .i64 0,.string ⟨#[]⟩],true⟩:=rfl
theorem UB:tab 109=some ⟨.int .u64,1,8,[.int .u64 0],false⟩:=rfl
theorem UC:tab 130=some ⟨.int .i64,1,8,[.int .i64 0],false⟩:=rfl
theorem UD:tab 138=some ⟨.int .u32,1,4,[.int .u32 0],false⟩:=rfl
theorem UE:tab 140=some ⟨.int .u64,1,8,[.int .u64 0],false⟩:=rfl
theorem UF:tab 146=some ⟨.int .u64,1,8,[.int .u64 0],false⟩:=rfl
theorem afY:eP prog 2 ⟨.int .i64,1,8,[.int .i64 0],false⟩:=⟨by kernel_rfl,by kernel_rfl,by kernel_rfl,fun h=>by cases h⟩
theorem afZ:eP prog 3 ⟨.int .i64,1,8,[.int .i64 0],false⟩:=⟨by kernel_rfl,by kernel_rfl,by kernel_rfl,fun h=>by cases h⟩
theorem af0:eP prog 4 ⟨.bool,1,1,[.bool false],false⟩:=⟨by kernel_rfl,by kernel_rfl,by kernel_rfl,fun h=>by cases h⟩
theorem af1:eP prog 5 ⟨.int .u8,1,1,[.int .u8 0],false⟩:=⟨by kernel_rfl,by kernel_rfl,by kernel_rfl,fun h=>by cases h⟩
theorem af2:eP prog 9 ⟨.str,1,16,[.string ⟨#[]⟩],false⟩:=⟨by kernel_rfl,by kernel_rfl,by kernel_rfl,fun h=>by cases h⟩
theorem aeE:eP prog 12 ⟨.int .u64,1,8,[.int .u64 0],false⟩:=⟨by kernel_rfl,by kernel_rfl,by kernel_rfl,fun h=>by cases h⟩
theorem aeF:eP prog 21 ⟨.int .i32,1,4,[.int .i32 0],false⟩:=⟨by kernel_rfl,by kernel_rfl,by kernel_rfl,fun h=>by cases h⟩
theorem aeG:eP prog 22 ⟨.slice 3,1,24,[.slice none 0 0],false⟩:=⟨by kernel_rfl,by kernel_rfl,by kernel_rfl,fun h=>by cases h⟩
theorem aeH:eP prog 23 ⟨.slice 55,1,24,[.slice none 0 0],false⟩:=⟨by kernel_rfl,by kernel_rfl,by kernel_rfl,fun h=>by cases h⟩
theorem aeI:eP prog 24 ⟨.struct [(22,0),(23,1)],2,48,[.slice none 0 0,.slice none 0 0],false⟩:=⟨by kernel_rfl,by kernel_rfl,by kernel_rfl,fun h=>by cases h⟩
theorem aeJ:eP prog 25 ⟨.struct [(22,0),(23,1)],2,48,[.slice none 0 0,.slice none 0 0],false⟩:=⟨by kernel_rfl,by kernel_rfl,by kernel_rfl,fun h=>by cases h⟩
theorem aeK:eP prog 26 ⟨.slice 65,1,24,[.slice none 0 0],false⟩:=⟨by kernel_rfl,by kernel_rfl,by kernel_rfl,fun h=>by cases h⟩
theorem aeL:eP prog 27 ⟨.struct [(3,0),(26,1)],2,32,[.int .i64 0,.slice none 0 0],false⟩:=⟨by kernel_rfl,by kernel_rfl,by kernel_rfl,fun h=>by cases h⟩
theorem aeM:eP prog 28 ⟨.struct [(3,0),(26,1)],2,32,[.int .i64 0,.slice none 0 0],false⟩:=⟨by kernel_rfl,by kernel_rfl,by kernel_rfl,fun h=>by cases h⟩
theorem aeN:eP prog 32 ⟨.int .i64,1,8,[.int .i64 0],false⟩:=⟨by kernel_rfl,by kernel_rfl,by kernel_rfl,fun h=>by cases h⟩
theorem aeO:eP prog 39 ⟨.struct [(3,0),(22,1)],2,32,[.int .i64 0,.slice none 0 0],false⟩:=⟨by kernel_rfl,by kernel_rfl,by kernel_rfl,fun h=>by cases h⟩
theorem aeP:eP prog 40 ⟨.struct [(3,0),(22,1)],2,32,[.int .i64 0,.slice none 0 0],false⟩:=⟨by kernel_rfl,by kernel_rfl,by kernel_rfl,fun h=>by cases h⟩
theorem aeQ:eP prog 41 ⟨.struct [(40,0),(40,2)],4,64,[.int .i64 0,.slice none 0 0,.int .i64 0,.slice none 0 0],false⟩:=⟨by kernel_rfl,by kernel_rfl,by kernel_rfl,fun h=>by cases h⟩
theorem aeR:eP prog 42 ⟨.struct [(40,0),(40,2)],4,64,[.int .i64 0,.slice none 0 0,.int .i64 0,.slice none 0 0],false⟩:=⟨by kernel_rfl,by kernel_rfl,by kernel_rfl,fun h=>by cases h⟩
theorem aeS:eP prog 48 ⟨.slice 95,1,24,[.slice none 0 0],false⟩:=⟨by kernel_rfl,by kernel_rfl,by kernel_rfl,fun h=>by cases h⟩
theorem aeT:eP prog 49 ⟨.slice 97,1,24,[.slice none 0 0],false⟩:=⟨by kernel_rfl,by kernel_rfl,by kernel_rfl,fun h=>by cases h⟩
theorem aeU:eP prog 50 ⟨.slice 85,1,24,[.slice none 0 0],false⟩:=⟨by kernel_rfl,by kernel_rfl,by kernel_rfl,fun h=>by cases h⟩
theorem aeV:eP prog 51 ⟨.struct [(48,0),(49,1),(50,2)],3,72,[.slice none 0 0,.slice none 0 0,.slice none 0 0],false⟩:=⟨by kernel_rfl,by kernel_rfl,by kernel_rfl,fun h=>by cases h⟩
theorem aeW:eP prog 52 ⟨.struct [(48,0),(49,1),(50,2)],3,72,[.slice none 0 0,.slice none 0 0,.slice none 0 0],false⟩:=⟨by kernel_rfl,by kernel_rfl,by kernel_rfl,fun h=>by cases h⟩
theorem aeX:eP prog 53 ⟨.slice 57,1,24,[.slice none 0 0],false⟩:=⟨by kernel_rfl,by kernel_rfl,by kernel_rfl,fun h=>by cases h⟩
theorem aeY:eP prog 54 ⟨.struct [(52,0),(53,3),(22,4)],5,120,[.slice none 0 0,.slice none 0 0,.slice none 0 0,.slice none 0 0,.slice none 0 0],false⟩:=⟨by kernel_rfl,by kernel_rfl,by kernel_rfl,fun h=>by cases h⟩
theorem aeZ:eP prog 55 ⟨.struct [(52,0),(53,3),(22,4)],5,120,[.slice none 0 0,.slice none 0 0,.slice none 0 0,.slice none 0 0,.slice none 0 0],false⟩:=⟨by kernel_rfl,by kernel_rfl,by kernel_rfl,fun h=>by cases h⟩
theorem ae0:eP prog 56 ⟨.struct [(3,0),(3,1)],2,16,[.int .i64 0,.int .i64 0],true⟩:=⟨by kernel_rfl,by kernel_rfl,by kernel_rfl,fun _=>⟨by kernel_rfl,by kernel_rfl,by kernel_rfl⟩⟩
theorem ae1:eP prog 57 ⟨.struct [(3,0),(3,1)],2,16,[.int .i64 0,.int .i64 0],true⟩:=⟨by kernel_rfl,by kernel_rfl,by kernel_rfl,fun _=>⟨by kernel_rfl,by kernel_rfl,by kernel_rfl⟩⟩
theorem ae2:eP prog 62 ⟨.int .u16,1,2,[.int .u16 0],false⟩:=⟨by kernel_rfl,by kernel_rfl,by kernel_rfl,fun h=>by cases h⟩
theorem ae3:eP prog 64 ⟨.struct [(3,0),(3,1),(42,2)],6,80,[.int .i64 0,.int .i64 0,.int .i64 0,.slice none 0 0,.int .i64 0,.slice none 0 0],false⟩:=⟨by kernel_rfl,by kernel_rfl,by kernel_rfl,fun h=>by cases h⟩
theorem ae4:eP prog 65 ⟨.struct [(3,0),(3,1),(42,2)],6,80,[.int .i64 0,.int .i64 0,.int .i64 0,.slice none 0 0,.int .i64 0,.slice none 0 0],false⟩:=⟨by kernel_rfl,by kernel_rfl,by kernel_rfl,fun h=>by cases h⟩
theorem ae5:eP prog 74 ⟨.map 77 42,1,8,[.map none],false⟩:=⟨by kernel_rfl,by kernel_rfl,by kernel_rfl,fun h=>by cases h⟩
theorem ae6:eP prog 76 ⟨.struct [(3,0),(3,1)],2,16,[.int .i64 0,.int .i64 0],true⟩:=⟨by kernel_rfl,by kernel_rfl,by kernel_rfl,fun _=>⟨by kernel_rfl,by kernel_rfl,by kernel_rfl⟩⟩
theorem ae7:eP prog 77 ⟨.struct [(3,0),(3,1)],2,16,[.int .i64 0,.int .i64 0],true⟩:=⟨by kernel_rfl,by kernel_rfl,by kernel_rfl,fun _=>⟨by kernel_rfl,by kernel_rfl,by kernel_rfl⟩⟩
theorem ae8:eP prog 85 ⟨.slice 42,1,24,[.slice none 0 0],false⟩:=⟨by kernel_rfl,by kernel_rfl,by kernel_rfl,fun h=>by cases h⟩
theorem ae9:eP prog 88 ⟨.slice 22,1,24,[.slice none 0 0],false⟩:=⟨by kernel_rfl,by kernel_rfl,by kernel_rfl,fun h=>by cases h⟩
theorem afa:eP prog 94 ⟨.struct [(3,0),(3,1),(3,2)],3,24,[.int .i64 0,.int .i64 0,.int .i64 0],true⟩:=⟨by kernel_rfl,by kernel_rfl,by kernel_rfl,fun _=>⟨by kernel_rfl,by kernel_rfl,by kernel_rfl⟩⟩
theorem afb:eP prog 95 ⟨.struct [(3,0),(3,1),(3,2)],3,24,[.int .i64 0,.int .i64 0,.int .i64 0],true⟩:=⟨by kernel_rfl,by kernel_rfl,by kernel_rfl,fun _=>⟨by kernel_rfl,by kernel_rfl,by kernel_rfl⟩⟩
theorem afc:eP prog 96 ⟨.struct [(3,0),(3,1),(3,2),(9,3)],4,40,[.int .i64 0,.int .i64 0,.int .i64 0,.string ⟨#[]⟩],true⟩:=⟨by kernel_rfl,by kernel_rfl,by kernel_rfl,fun _=>⟨by kernel_rfl,by kernel_rfl,by kernel_rfl⟩⟩
theorem afd:eP prog 97 ⟨.struct [(3,0),(3,1),(3,2),(9,3)],4,40,[.int .i64 0,.int .i64 0,.int .i64 0,.string ⟨#[]⟩],true⟩:=⟨by kernel_rfl,by kernel_rfl,by kernel_rfl,fun _=>⟨by kernel_rfl,by kernel_rfl,by kernel_rfl⟩⟩
theorem ady:eP prog 109 ⟨.int .u64,1,8,[.int .u64 0],false⟩:=⟨by kernel_rfl,by kernel_rfl,by kernel_rfl,fun h=>by cases h⟩
theorem adz:eP prog 130 ⟨.int .i64,1,8,[.int .i64 0],false⟩:=⟨by kernel_rfl,by kernel_rfl,by kernel_rfl,fun h=>by cases h⟩
theorem adA:eP prog 138 ⟨.int .u32,1,4,[.int .u32 0],false⟩:=⟨by kernel_rfl,by kernel_rfl,by kernel_rfl,fun h=>by cases h⟩
theorem adB:eP prog 140 ⟨.int .u64,1,8,[.int .u64 0],false⟩:=⟨by kernel_rfl,by kernel_rfl,by kernel_rfl,fun h=>by cases h⟩
theorem adC:eP prog 146 ⟨.int .u64,1,8,[.int .u64 0],false⟩:=⟨by kernel_rfl,by kernel_rfl,by kernel_rfl,fun h=>by cases h⟩
theorem tok:ig prog tab:=by
 intro t τ h;unfold tab at h;split at h
 ·cases h;exact afY
 ·cases h;exact afZ
 ·cases h;exact af0
 ·cases h;exact af1
 ·cases h;exact af2
 ·cases h;exact aeE
 ·cases h;exact aeF
 ·cases h;exact aeG
 ·cases h;exact aeH
 ·cases h;exact aeI
 ·cases h;exact aeJ
 ·cases h;exact aeK
 ·cases h;exact aeL
 ·cases h;exact aeM
 ·cases h;exact aeN
 ·cases h;exact aeO
 ·cases h;exact aeP
 ·cases h;exact aeQ
 ·cases h;exact aeR
 ·cases h;exact aeS
 ·cases h;exact aeT
 ·cases h;exact aeU
 ·cases h;exact aeV
 ·cases h;exact aeW
 ·cases h;exact aeX
 ·cases h;exact aeY
 ·cases h;exact aeZ
 ·cases h;exact ae0
 ·cases h;exact ae1
 ·cases h;exact ae2
 ·cases h;exact ae3
 ·cases h;exact ae4
 ·cases h;exact ae5
 ·cases h;exact ae6
 ·cases h;exact ae7
 ·cases h;exact ae8
 ·cases h;exact ae9
 ·cases h;exact afa
 ·cases h;exact afb
 ·cases h;exact afc
 ·cases h;exact afd
 ·cases h;exact ady
 ·cases h;exact adz
 ·cases h;exact adA
 ·cases h;exact adB
 ·cases h;exact adC
 ·cases h
theorem mixed:Tryz.prog.follows .mixedOrders=true:=by kernel_rfl
def pt {α:Type} (x:Option α) (K:α->Prop):Prop :=
 match x with
 | some a=>K a
 | none=>False
def br (b:Bool) (A B:Prop):Prop:=(b=true->A)∧(b=false->B)
def R6 (d:D) (t:Nat->D) (g:Nat) (A B:(Nat->D)->Prop):Prop :=
 match d with
 | .bool b=>br b (A (bI t g (.bool b))) (B (bI t g (.bool b)))
 | _=>False
def wpS (d:D) (t:Nat->D) (g:Nat) (A B S:(Nat->D)->Prop):Prop :=
 match d with
 | .skp=>S t
 | d=>R6 d t g A B
theorem yJ {t:Nat->D} {g:Nat} {b:Bool} {A B S:(Nat->D)->Prop} : wpS (.bool b) t g A B S=br b (A (bI t g (.bool b))) (B (bI t g (.bool b))):=rfl
def wpG (ops:List Oper) (t:Nat->D) (gd:Option (Nat×Bool)) (A B:(Nat->D)->Prop):Prop :=
 match gd with
 | none=>A t
 | some (j,want)=>pt ((ops[j]?).bind (·.dst)) fun g=>wpS (t g) t g (if want then A else B) (if want then B else A) B
def PU (T:Nat->Option Ty) (Γ:Env) (e:Nat) (o:Oper) (t:Nat->D) (h:Nat->Option Row) (K:(Nat->D)->bF->Prop):Prop :=
 match o.op with
 | .pick (.tmp c) a b=>R6 (t c) t c (fun t=>K t ⟨ev t a,[]⟩) (fun t=>K t ⟨ev t b,[]⟩)
 | _=>pt (nX T Γ e o (ev t) h) (K t)
def E6 (T:Nat->Option Ty) (Γ:Env) (N e:Nat) (ops:List Oper):List Oper->(Nat->D)->(Nat->Option Row)->((Nat->D)->(Nat->Option Row)->Prop)->Prop
 | [],t,h,K=>K t h
 | o::l,t,h,K=>fits N o.dst=true∧wpG ops t o.guard (fun t=>PU T Γ e o t h fun t E=>E6 T Γ N e ops l (eN t o.dst E.val) (aO h E.hw) K) (fun t=>E6 T Γ N e ops l (eN t o.dst .skp) h K)
def runK (T:Nat->Option Ty) (Γ:Env) (N e:Nat) (ops:List Oper):List Oper->(Nat->D)->(Nat->Option Row)->List jZ->((Nat->D)->(Nat->Option Row)->List jZ->Prop)->Prop
 | [],t,h,fs,K=>K t h fs
 | o::l,t,h,fs,K=>fits N o.dst=true∧wpG ops t o.guard (fun t=>PU T Γ e o t h fun t E=>runK T Γ N e ops l (eN t o.dst E.val) (aO h E.hw) (fs++[⟨bq o (ev t),E.hw.isEmpty⟩]) K) (fun t=>runK T Γ N e ops l (eN t o.dst .skp) h (fs++[⟨[],true⟩]) K)
abbrev Kt:=Ex->(Nat->D)->(Nat->Option Row)->Nat->Prop
def aeu (x:Ex) (A:Prop) (B:Prop):Prop :=
 match x with
 | .normal=>A
 | _=>B
def W8 (id:Nat) (x:Ex) (t:Nat->D) (h:Nat->Option Row) (e:Nat) (K:Kt):Prop :=
 match x with
 | .exit n=>if n=id then K .normal t h e else K (.exit n) t h e
 | x=>K x t h e
def wpR (T:Nat->Option Ty) (Γ:Env) (N:Nat) (ops:Array Oper) (draw:Bool) (t:Nat->D) (h:Nat->Option Row) (e:Nat) (K:(Nat->D)->(Nat->Option Row)->Prop):Prop :=
 match draw with
 | true=>runK T Γ N e ops.toList ops.toList t h [] fun t h fs=>C8 ops fs=true∧K t h
 | false=>E6 T Γ N e ops.toList ops.toList t h K
def PW (T:Nat->Option Ty) (Γ:Env) (N F:Nat):Code->(Nat->D)->(Nat->Option Row)->Nat->Kt->Prop
 | .skip,t,h,e,K=>K .normal t h e
 | .region _ ops draw,t,h,e,K=>wpR T Γ N ops draw t h e fun t h=>K .normal t h (e+1)
 | .seq a b,t,h,e,K=>PW T Γ N F a t h e fun x t h e=>aeu x (PW T Γ N F b t h e K) (K x t h e)
 | .cond c x y,t,h,e,K =>
  match c with
  | .tmp g=>R6 (t g) t g (fun t=>PW T Γ N F x t h e K) (fun t=>PW T Γ N F y t h e K)
  | .const (.bool true)=>PW T Γ N F x t h e K
  | .const (.bool false)=>PW T Γ N F y t h e K
  | _=>False
 | .block id b,t,h,e,K=>PW T Γ N F b t h e fun x t h e=>W8 id x t h e K
 | .loop b,t,h,e,K=>∃x s,iter (fQ T Γ N F b) F ⟨t,h,e⟩=some (x,s)∧K x s.t s.h s.e
 | .exit id,t,h,e,K=>K (.exit id) t h e
 | .ret,t,h,e,K=>K .ret t h e
 | _,_,_,_,_=>False
def acS (mode:Mode) (T:Nat->Option Ty) (lent:Option (D×Row)) (rs:List ResultVar) (x:Ex) (t:Nat->D) (h:Nat->Option Row) (e:Nat) (r:RK×Option Row):Prop :=
 match x with
 | .exit _=>False
 | _=>fF mode T lent rs ⟨t,EH h,e⟩=some r
def wpf (mode:Mode) (T:Nat->Option Ty) (Γ:Env) (F:Nat) (fn:Func) (lent:Option (D×Row)) (args:List D) (r:RK×Option Row):Prop :=
 pt fn.body fun c=>PW T Γ fn.ntmps F c (b7 lent args).t (b7 lent args).h (b7 lent args).e fun x t h e=>acS mode T lent fn.results.toList x t h e r
theorem sg {α:Type} (a:α) (K:α->Prop):pt (some a) K=K a:=rfl
theorem Em {α:Type} {x:Option α} {K:α->Prop} (h:pt x K):∃a,x=some a∧K a:=by
 cases x with
 | none=>exact h.elim
 | some a=>exact⟨a,rfl,h⟩
theorem RY {t:Nat->D} {g:Nat} {d:D} (h:t g=d):bI t g d=t:=by
 funext j;unfold bI;split
 ·rename_i e;subst e;exact h.symm
 ·rfl
theorem Jz (A B:Prop):br true A B=A:=by simp[br]
theorem Cw (A B:Prop):br false A B=B:=by simp[br]
theorem aay {b:Bool} {A B:Prop} (h:br b A B):if b then A else B:=by
 cases b with
 | true=>exact h.1 rfl
 | false=>exact h.2 rfl
theorem aag {t:Nat->D} {g:Nat} {b:Bool} {A B:(Nat->D)->Prop} : R6 (.bool b) t g A B=br b (A (bI t g (.bool b))) (B (bI t g (.bool b))):=rfl
theorem yH {t:Nat->D} {g:Nat} {A B:(Nat->D)->Prop} (h:t g=.bool true):R6 (.bool true) t g A B=A t:=by simp[R6,RY h,Jz]
theorem vw {t:Nat->D} {g:Nat} {A B:(Nat->D)->Prop} (h:t g=.bool false):R6 (.bool false) t g A B=B t:=by simp[R6,RY h,Cw]
theorem yK {t:Nat->D} {g:Nat} {A B S:(Nat->D)->Prop} (h:t g=.bool true):wpS (.bool true) t g A B S=A t:=yH h
theorem vx {t:Nat->D} {g:Nat} {A B S:(Nat->D)->Prop} (h:t g=.bool false):wpS (.bool false) t g A B S=B t:=vw h
theorem R7 {t:Nat->D} {g:Nat} {A B:(Nat->D)->Prop} (h:R6 (t g) t g A B):∃b,t g=.bool b∧(if b then A t else B t):=by
 unfold R6 at h;split at h
 ·rename_i b O;rw[RY O]at h;exact⟨b,O,aay h⟩
 ·exact h.elim
section
variable {T:Nat->Option Ty} {Γ:Env} {N F e:Nat}
theorem aaj {ops:Array Oper} {t:Nat->D} {o:Oper} {A B:(Nat->D)->Prop} (h:wpG ops.toList t o.guard A B):∃b,tR ops t o=some b∧(if b then A t else B t):=by
 unfold wpG at h;unfold tR;split at h
 ·rename_i O;try rw[O]
  exact⟨true,rfl,by simpa using h⟩
 ·rename_i j want O;try rw[O]
  obtain⟨g,h1,h2⟩:=Em h;rw[ahu]at h1;unfold wpS at h2;split at h2
  ·rename_i hs;simp only[h1,hs];exact⟨false,rfl,h2⟩
  ·obtain⟨b,h3,h4⟩:=R7 h2;simp only[h1,h3];refine⟨_,rfl,?_⟩;cases b<;>cases want<;>simpa using h4
theorem aah {o:Oper} {t:Nat->D} {h:Nat->Option Row} {K:(Nat->D)->bF->Prop} (hw:PU T Γ e o t h K):∃E,nX T Γ e o (ev t) h=some E∧K t E:=by
 unfold PU at hw;split at hw
 ·rename_i c a b O;obtain⟨v,h1,h2⟩:=R7 hw;have U:lT Γ e h o.dst none=none:=by cases o.dst<;>rfl
  cases v with
  | true=>exact⟨⟨ev t a,[]⟩,by unfold nX gA lS;rw[O];simp only[ev,h1,or2,jW,gX,U],by simpa only[if_true] using h2⟩
  | false=>exact⟨⟨ev t b,[]⟩,by unfold nX gA lS;rw[O];simp only[ev,h1,or2,jW,gX,U],by simpa only[ahc,if_false] using h2⟩
 ·obtain⟨E,h1,h2⟩:=Em hw;exact⟨E,h1,h2⟩
theorem yv {ops:Array Oper} {K:(Nat->D)->(Nat->Option Row)->Prop} : ∀(l:List Oper) (t:Nat->D) (h:Nat->Option Row),E6 T Γ N e ops.toList l t h K->∃O h' fs,zM T Γ N e ops l t h=some (O,h',fs)∧K O h'
 | [],t,h,hk=>⟨t,h,[],rfl,hk⟩
 | o::l,t,h,hk=>by
  unfold E6 at hk;obtain⟨U,X⟩:=hk;obtain⟨b,h1,h2⟩:=aaj X;unfold zM step1;rw[if_pos U,h1];cases b with
  | true =>
   obtain⟨E,h3,h4⟩:=aah (by simpa using h2);obtain⟨O,h',fs,h5,h6⟩:=yv l _ _ h4;simp only[h3,h5];exact⟨_,_,_,rfl,h6⟩
  | false =>
   obtain⟨O,h',fs,h5,h6⟩:=yv l _ _ (by simpa using h2);simp only[h5];exact⟨_,_,_,rfl,h6⟩
theorem Kv {ops:Array Oper} {K:(Nat->D)->(Nat->Option Row)->List jZ->Prop} : ∀(l:List Oper) (t:Nat->D) (h:Nat->Option Row) (f0:List jZ),runK T Γ N e ops.toList l t h f0 K->∃O h' fs,zM T Γ N e ops l t h=some (O,h',fs)∧K O h' (f0++fs)
 | [],t,h,f0,hk=>⟨t,h,[],rfl,by unfold runK at hk;simpa using hk⟩
 | o::l,t,h,f0,hk=>by
  unfold runK at hk;obtain⟨U,X⟩:=hk;obtain⟨b,h1,h2⟩:=aaj X;unfold zM step1;rw[if_pos U,h1];cases b with
  | true =>
   obtain⟨E,h3,h4⟩:=aah (by simpa using h2);obtain⟨O,h',fs,h5,h6⟩:=Kv l _ _ _ h4;simp only[h3,h5];exact⟨_,_,_,rfl,by simpa using h6⟩
  | false =>
   obtain⟨O,h',fs,h5,h6⟩:=Kv l _ _ _ (by simpa using h2);simp only[h5];exact⟨_,_,_,rfl,by simpa using h6⟩
theorem adE {ops:Array Oper} {draw:Bool} {t:Nat->D} {h:Nat->Option Row} {K:(Nat->D)->(Nat->Option Row)->Prop} (hk:wpR T Γ N ops draw t h e K):∃O h',vu T Γ N ops draw ⟨t,h,e⟩=some (.normal,⟨O,h',e+1⟩)∧K O h':=by
 unfold vu;cases draw with
 | false =>
  obtain⟨O,h',fs,h1,h2⟩:=yv _ _ _ hk;simp only[h1];exact⟨O,h',by simp,h2⟩
 | true =>
  obtain⟨O,h',fs,h1,h2,h3⟩:=Kv _ _ _ _ hk;simp only[h1];exact⟨O,h',by rw[air]at h2;simp[h2],h3⟩
theorem KU:∀(c:Code) (t:Nat->D) (h:Nat->Option Row) (e:Nat) (K:Kt),PW T Γ N F c t h e K->∃x s,fQ T Γ N F c ⟨t,h,e⟩=some (x,s)∧K x s.t s.h s.e:=by
 intro c
 induction c with
 | skip=>intro t h e K hk;exact⟨_,_,rfl,hk⟩
 | region i ops draw =>
  intro t h e K hk;obtain⟨t',h',h1,h2⟩:=adE hk;exact⟨_,_,h1,h2⟩
 | seq a b X Y =>
  intro t h e K hk;obtain⟨x,s,h1,h2⟩:=X _ _ _ _ hk;simp only[fQ,h1];cases x with
  | normal =>
   obtain⟨x2,s2,h3,h4⟩:=Y _ _ _ _ h2;exact⟨x2,s2,h3,h4⟩
  | exit n=>exact⟨_,_,rfl,h2⟩
  | ret=>exact⟨_,_,rfl,h2⟩
 | cond c x y O U =>
  intro t h e K hk;unfold PW at hk;split at hk
  ·rename_i g;obtain⟨b,h1,h2⟩:=R7 hk;simp only[fQ,ev,h1,PO];cases b with
   | true=>exact O _ _ _ _ (by simpa using h2)
   | false=>exact U _ _ _ _ (by simpa using h2)
  ·simpa only[fQ,ev,lN,PO,if_true] using O _ _ _ _ hk
  ·simpa only[fQ,ev,lN,PO,ahc,if_false] using U _ _ _ _ hk
  ·exact hk.elim
 | block id b ih =>
  intro t h e K hk;obtain⟨x,s,h1,h2⟩:=ih _ _ _ _ hk;simp only[fQ,h1];cases x with
  | normal=>exact⟨_,_,rfl,h2⟩
  | ret=>exact⟨_,_,rfl,h2⟩
  | exit n =>
   simp only[R2];unfold W8 at h2;simp only at h2;split at h2
   ·rename_i Z;rw[if_pos Z];exact⟨_,_,rfl,h2⟩
   ·rename_i Z;rw[if_neg Z];exact⟨_,_,rfl,h2⟩
 | loop b ih=>intro t h e K hk;exact hk
 | exit id=>intro t h e K hk;exact⟨_,_,rfl,hk⟩
 | ret=>intro t h e K hk;exact⟨_,_,rfl,hk⟩
 | _=>intro t h e K hk;exact hk.elim
theorem R8 {mode:Mode} {fn:Func} {lent:Option (D×Row)} {args:List D} {r:RK×Option Row} (h:wpf mode T Γ F fn lent args r) (O:fn.ntmps<=PK):jY mode T Γ F fn lent args=some r:=by
 obtain⟨c,h1,h2⟩:=Em h;obtain⟨x,s,h3,h4⟩:=KU _ _ _ _ _ h2;unfold jY;simp only[h1];rw[if_pos O];have U:b7 lent args=⟨(b7 lent args).t,(b7 lent args).h,(b7 lent args).e⟩:=rfl;rw[U,h3];unfold acS at h4;split at h4
 ·exact h4.elim
 ·rename_i X;split
  ·rename_i n _ he;cases he;exact (X n rfl).elim
  ·rename_i _ x' Y _ he;cases he;exact h4
  ·rename_i he;cases he
theorem UL {α:Type} (f:Nat->α) (i:Nat) (v:α) (j:Nat):bI f i v j=if j=i then v else f j:=ajz
def FI (args:List D) (i:Nat):D:=args.getD i .und
theorem K9 (i:Nat):FI [] i=.und:=by simp[FI]
theorem Gm (d:D) (l:List D):FI (d::l) 0=d:=ajz
theorem Gl (d:D) (l:List D) (i:Nat):FI (d::l) (i+1)=FI l i:=ajz
def TS (_:Nat):Option Row:=none
theorem Ij (i:Nat):TS i=none:=ajz
end
end Go.Proofs.YtoioidmblipblaaGreat.Am
