/- Part of a proof. -/
import Derived.Test.YtmcncjgbkobjnaaGreatIb
set_option linter.unusedSimpArgs false
set_option linter.unusedVariables false
noncomputable section
namespace Go.Proofs.YtmcncjgbkobjnaaGreat.Am
open Go.RowKit
section
variable {P:Program} {T:Nat->Option Ty} {N:Nat} {M:Nat->Prop} {L:ik} {w0:World} {blk:Nat->Option (Nat×Nat)} {V:Nat->Nat->Prop} {t:Nat->D} {h:Nat->Option Row} {a:Act} {w:World} {e:Nat} {o:Oper} {Γ:Env}
theorem Inv.ab4 (hI:Inv N M L w0 blk V t (EH h) a w) {x:Nat} {r:Row} {ty s nv n j:Nat} {cs xs:List D} (hx:h x=some r) (hm:r.mp=true) (hc:r.cells=[.nr ty s nv cs]) (hz:r.fz=false) (hp:x<PK) (hj:cs[j]? = some (.nx n xs)) (hn:xs.length=n*s) :
  Inv N M L w0 blk V t (EH (bz h x (some ⟨r.v,r.ty,[.nr ty s nv (cs.set j (.sl false false n xs))],false,r.lst,true⟩))) a w∧∀b,Own M (EH (bz h x (some ⟨r.v,r.ty,[.nr ty s nv (cs.set j (.sl false false n xs))],false,r.lst,true⟩))) blk b->Own M (EH h) blk b:=by
 have hjl:j<cs.length:=(afY.1 hj).1
 obtain⟨g,hg⟩:∃g,blk x=some g:=by
  cases hg:blk x with
  | some g=>exact⟨g,rfl⟩
  | none =>
   have:=(hI.rows x _ (eR hx hm hc hp)).2
   rw[hg]at this
   have h1:cs.mapIdx (ow x s)=[]:=this
   have h2:cs.length=0:=by
    have:=congrArg List.length h1
    simpa using this
   omega
 have hK:EH h (NK x j)=some ⟨nv,ty,xs,false,true,false⟩:=by rw[dP hx hm hc hp,hj,hz];rfl
 obtain⟨u,hu1,hu2⟩:=hI.DL hx hm hc hp hg hj
 obtain⟨arr,ha1,ha2,ha3⟩:=hI.Aq hx hm hc hp hg
 have hIf:=hI.freeze [NK x j]
 have hrp:RP w (Own M (aH (EH h) (gG (EH h) [NK x j])) blk) (.sl false false n xs) u:=by
  have hW:=hI.weaken (V':=fun y v=>V y v∨(y=NK x j∧v=nv)) (fun _ _ h =>.inl h)
  have hRT:RT w (Own M (EH h) blk) (EH h) blk (fun y v=>V y v∨(y=NK x j∧v=nv)) (.buf (NK x j) nv s 0 n) u:=by
   refine⟨.inr ⟨rfl,rfl⟩,fun r' hr' hv' =>?_⟩
   rcases hu2 with⟨g1,c,N',ty',k1,k2,k3,k4,k5,k6⟩|⟨k1,k2,k3⟩
   ·exact .inl ⟨g1,g1.2,c,N',ty',k1,k2,fun _=>⟨by omega,k3⟩,k4,k5,k6⟩
   ·exact .inr ⟨k1,k2,k3⟩
  have hl:live (EH h) (NK x j) nv=some ⟨nv,ty,xs,false,true,false⟩:=by
   unfold live
   rw[hK]
   simp
  have hcl:Am.bE (EH h) (.buf (NK x j) nv s 0 n)=some (.sl false false n xs,[NK x j]):=by
   simp only[Am.bE,Am.aN,Am.cY,hl,agj,agX]
   rw[if_pos (by rw[hn];exact afv _),<- hn,ahw]
   rfl
  exact hW.bE hcl (hW.eO [NK x j]) hRT
 generalize hh1:bz (EH h) (NK x j) none=h1
 have hdrop:bz (aH (EH h) (gG (EH h) [NK x j])) (NK x j) none=h1:=by
  rw[<- hh1]
  funext k
  by_cases hk:k=NK x j
  ·rw[hk,aq,aq]
  ·rw[au _ _ hk,au _ _ hk,yW]
   rw[if_neg (by simpa using hk)]
 have hI2:=hIf.drop (NK x j)
 rw[hdrop]at hI2
 have hown1:∀b,Own M h1 blk b->Own M (aH (EH h) (gG (EH h) [NK x j])) blk b:=by
  rintro b (hb|⟨k,r',g',hk,hz',hg',he⟩)
  ·exact .inl hb
  ·refine .inr ⟨k,r',g',?_,hz',hg',he⟩
   rw[<- hdrop]at hk
   by_cases hkk:k=NK x j
   ·rw[hkk,aq]at hk;cases hk
   ·rwa [au _ _ hkk]at hk
 have hx1:h1 x=some ⟨r.v,r.ty,cs.mapIdx (ow x s),r.fz,r.lst,true⟩:=by
  rw[<- hh1,au _ _ (by have:=dX x j;have:=bZ;omega)]
  exact eR hx hm hc hp
 have hcs:∀(i:Nat) d,(cs.set j (.sl false false n xs))[i]? = some d->(i=j∧d=.sl false false n xs)∨(i≠j∧cs[i]? = some d):=by
  intro i d hi
  by_cases hji:i=j
  ·subst hji
   rw[List.getElem?_set_self hjl]at hi
   exact .inl ⟨rfl,by simpa using hi.symm⟩
  ·rw[List.getElem?_set_ne (fun e=>hji e.symm)]at hi
   exact .inr ⟨hji,hi⟩
 have hB:=hI2.iH (x:=x) (r:=⟨r.v,r.ty,cs.mapIdx (ow x s),r.fz,r.lst,true⟩) (r0:=⟨r.v,r.ty,(cs.set j (.sl false false n xs)).mapIdx (ow x s),false,r.lst,true⟩) (w':=w) hx1 hz rfl rfl rfl rfl (afv _) (fun _ _ _=>rfl) (by
   rw[hg]
   refine⟨rfl,.inr ⟨fun d hd =>?_,arr,ha1,by simp only[ahY,ahv];exact ha2,fun i d hi =>?_⟩⟩
   ·obtain⟨i,hi⟩:=afR hd
    simp only[ahZ,aft]at hi
    obtain⟨d0,hd0,rfl⟩:=hi
    exact jK _ _ _ _
   ·simp only[ahZ,aft]at hi
    obtain⟨d0,hd0,rfl⟩:=hi
    rcases hcs i d0 hd0 with⟨rfl,rfl⟩|⟨hij,hd1⟩
    ·have e1:arr.getD (g.2+i) undef=u:=by
      have:=aK ha1 (show g.2+i<arr.size by omega)
      rw[this]at hu1
      simpa using hu1
     rw[e1]
     exact hrp.less hown1
    ·by_cases hdd:er d0=true
     ·rw[iI hdd]
      refine (eu hdd).2.2.2 ((ha3 i d0 hd1 hdd).less fun b hb =>?_)
      rcases hb with hb|⟨k,r',g',hk,hz',hg',he⟩
      ·exact .inl hb
      ·refine .inr ⟨k,r',g',?_,hz',hg',he⟩
       rw[<- hh1]at hk
       by_cases hkk:k=NK x j
       ·rw[hkk,aq]at hk;cases hk
       ·rwa [au _ _ hkk]at hk
     ·cases d0<;>first|trivial|exact absurd rfl hdd) (fun h=>by cases h) (fun _ g' hg' i x' s' n' hi=>by
   rw[hg]at hg'
   cases hg'
   simp only[ahZ,aft]at hi
   obtain⟨d0,hd0,he⟩:=hi
   obtain⟨xs1,rfl,rfl,rfl⟩:=oh he
   rcases hcs i _ hd0 with⟨rfl,hd1⟩|⟨hij,hd1⟩
   ·cases hd1
   ·exact hI2.pha x _ g hx1 rfl hg i (NK x i) s' n' (by simp only[ahZ,hd1,Option.map_some,ow]))
 have hfin:bz h1 x (some (⟨r.v,r.ty,(cs.set j (.sl false false n xs)).mapIdx (ow x s),false,r.lst,true⟩:Row))=EH (bz h x (some ⟨r.v,r.ty,[.nr ty s nv (cs.set j (.sl false false n xs))],false,r.lst,true⟩)):=by
  have hx':bz h x (some (⟨r.v,r.ty,[.nr ty s nv (cs.set j (.sl false false n xs))],false,r.lst,true⟩:Row)) x=some ⟨r.v,r.ty,[.nr ty s nv (cs.set j (.sl false false n xs))],false,r.lst,true⟩:=aq _ _ _
  funext k
  by_cases hkx:rt k=x
  rotate_left
  ·rw[au _ _ (fun e=>hkx (by rw[e,fX (by have:=bZ;omega)])),<- hh1,au _ _ (fun e=>hkx (by rw[e,rX hp]))]
   exact dA (by rw[au _ _ hkx])
  rcases mz hkx with rfl|⟨i,rfl⟩
  ·rw[aq,eR hx' rfl rfl hp]
  ·rw[au _ _ (by have:=dX x i;have:=bZ;omega),dP hx' rfl rfl hp,<- hh1]
   by_cases hij:i=j
   ·rw[hij,aq,List.getElem?_set_self hjl];rfl
   ·rw[au _ _ (fun e=>hij (qu hp hp e).2),dP hx hm hc hp,List.getElem?_set_ne (fun e=>hij e.symm),hz]
 rw[hfin]at hB
 refine⟨hB,?_⟩
 rintro b (hb|⟨k,r',g',hk,hz',hg',he⟩)
 ·exact .inl hb
 ·rw[<- hfin]at hk
  by_cases hkx:k=x
  ·subst hkx
   exact .inr ⟨k,_,g',eR hx hm hc hp,hz,hg',he⟩
  ·rw[au _ _ hkx,<- hh1]at hk
   by_cases hkk:k=NK x j
   ·rw[hkk,aq]at hk;cases hk
   ·rw[au _ _ hkk]at hk
    exact .inr ⟨k,r',g',hk,hz',hg',he⟩
end
def Bb (s:Nat):D->Bool
 | .nx n xs=>xs.length==n*s
 | d=>er d
def lC (k o:Nat) (cs:List D):List D:=cs.mapIdx fun i d=>if o<=i∧i<o+k then VW d else d
section
variable {P:Program} {T:Nat->Option Ty} {N:Nat} {M:Nat->Prop} {L:ik} {w0:World} {blk:Nat->Option (Nat×Nat)} {V:Nat->Nat->Prop} {t:Nat->D} {h:Nat->Option Row} {a:Act} {w:World} {e:Nat} {o:Oper} {Γ:Env}
theorem IZ (o:Nat) (cs:List D):lC 0 o cs=cs:=by
 unfold lC
 apply ahz
 intro i
 rw[ahZ]
 cases cs[i]? with
 | none=>rfl
 | some d=>simp only[Option.map_some];rw[if_neg (by omega)]
theorem ve (k o:Nat) (cs:List D) (i:Nat):(lC k o cs)[i]? = (cs[i]?).map fun d=>if o<=i∧i<o+k then VW d else d:=by
 unfold lC
 rw[ahZ]
theorem Inv.ab6 (hI:Inv N M L w0 blk V t (EH h) a w) {x:Nat} {r:Row} {ty s nv o:Nat} {cs:List D} (hx:h x=some r) (hm:r.mp=true) (hc:r.cells=[.nr ty s nv cs]) (hz:r.fz=false) (hp:x<PK):∀k:Nat,((cs.drop o).take k).all (Bb s)=true ->
  Inv N M L w0 blk V t (EH (bz h x (some ⟨r.v,r.ty,[.nr ty s nv (lC k o cs)],false,r.lst,true⟩))) a w∧∀b,Own M (EH (bz h x (some ⟨r.v,r.ty,[.nr ty s nv (lC k o cs)],false,r.lst,true⟩))) blk b->Own M (EH h) blk b
 | 0,_=>by
  have:bz h x (some (⟨r.v,r.ty,[.nr ty s nv (lC 0 o cs)],false,r.lst,true⟩:Row))=h:=by
   funext k
   by_cases hk:k=x
   ·rw[hk,aq,IZ,hx]
    cases r
    simp only at hm hc hz
    rw[hm,hc,hz]
   ·rw[au _ _ hk]
  rw[this]
  exact⟨hI,fun _ h=>h⟩
 | k+1,hall=>by
  have hall':((cs.drop o).take k).all (Bb s)=true:=by
   rw[afG]at hall ⊢
   intro d hd
   obtain⟨i,hi⟩:=afR hd
   refine hall d (afX (i:=i) ?_)
   rw[afL]at hi ⊢
   split at hi
   ·rw[if_pos (by omega)];exact hi
   ·cases hi
  obtain⟨h1,h2⟩:=hI.ab6 hx hm hc hz hp k hall'
  have hsame:(∀n xs,cs[o+k]?≠some (.nx n xs))->lC (k+1) o cs=lC k o cs:=by
   intro hn
   apply ahz
   intro i
   rw[ve,ve]
   cases hci:cs[i]? with
   | none=>rfl
   | some d =>
    simp only[Option.map_some,afE]
    by_cases hik:i=o+k
    ·subst hik
     rw[if_pos (by omega),if_neg (by omega)]
     cases d<;>first|rfl|exact absurd hci (hn _ _)
    ·by_cases hin:o<=i∧i<o+k
     ·rw[if_pos hin,if_pos (by omega)]
     ·rw[if_neg hin,if_neg (by omega)]
  by_cases hnx:∃n xs,cs[o+k]? = some (.nx n xs)
  rotate_left
  ·rw[hsame fun n xs h=>hnx ⟨n,xs,h⟩]
   exact⟨h1,h2⟩
  obtain⟨n,xs,hnx⟩:=hnx
  have hlen:xs.length=n*s:=by
   have:=afG.1 hall (.nx n xs) (afX (i:=k) (by rw[afL,if_pos (by omega),afM];exact hnx))
   simpa [Bb] using this
  have hset:lC (k+1) o cs=(lC k o cs).set (o+k) (.sl false false n xs):=by
   have hlt:=(afY.1 hnx).1
   apply ahz
   intro i
   rw[ve]
   by_cases hik:i=o+k
   ·subst hik
    rw[List.getElem?_set_self (by simpa [lC] using hlt),hnx]
    simp only[Option.map_some]
    rw[if_pos (by omega)]
    rfl
   ·rw[List.getElem?_set_ne (fun e=>hik e.symm),ve]
    cases hci:cs[i]? with
    | none=>rfl
    | some d =>
     simp only[Option.map_some,afE]
     by_cases hin:o<=i∧i<o+k
     ·rw[if_pos hin,if_pos (by omega)]
     ·rw[if_neg hin,if_neg (by omega)]
  have hj:(lC k o cs)[o+k]? = some (.nx n xs):=by
   rw[ve,hnx]
   simp only[Option.map_some]
   rw[if_neg (by omega)]
  obtain⟨h3,h4⟩:=h1.ab4 (x:=x) (aq _ _ _) rfl rfl rfl hp hj hlen
  have hupd:∀(r1 r2:Option Row),bz (bz h x r1) x r2=bz h x r2:=by
   intro r1 r2
   funext i
   by_cases hi:i=x
   ·rw[hi,aq,aq]
   ·rw[au _ _ hi,au _ _ hi,au _ _ hi]
  rw[hupd,<- hset]at h3 h4
  exact⟨h3,fun b hb=>h2 b (h4 b hb)⟩
def Jf (x:Nat) (r:Row) (ty s o k:Nat):Option Nat->Option (D×List D)->Option bt
 | some nv',some (d,cs')=>if ((cs'.drop o).take k).all (Bb s)=true then some ⟨d,[(x,some ⟨r.v,r.ty,[.nr ty s nv' (lC k o cs')],false,r.lst,true⟩)]⟩ else none
 | _,_=>none
def B9 (e x:Nat) (r:Row) (ty s nv:Nat) (cs:List D) (o:Nat):Option (Nat×(Nat->Nat->Nat->Nat->List D->List D->Option (D×List D)))->Option (List D×List Nat)->Option bt
 | some p,some (afq,[])=>Jf x r ty s o p.1 (bump nv e) (p.2 r.ty ty s o cs afq)
 | _,_=>none
def pF (Γ:Env) (e:Nat) (h:Nat->Option Row) (g:Nat):List D->Option bt
 | .ptr x v o::rest =>
  match eU h x v with
  | some (r,ty,s,nv,cs)=>B9 e x r ty s nv cs o (Γ.nx.lnd g) (bm (EH h) rest)
  | none=>none
 | _=>none
theorem qI {g:Nat} {args:List D} {E:bt} (hE:pF Γ e h g args=some E):∃x v o rest r ty s nv cs p afq nv' d cs',args=.ptr x v o::rest∧eU h x v=some (r,ty,s,nv,cs)∧Γ.nx.lnd g=some p∧bm (EH h) rest=some (afq,[])∧bump nv e=some nv'∧p.2 r.ty ty s o cs afq=some (d,cs') ∧
  ((cs'.drop o).take p.1).all (Bb s)=true∧E=⟨d,[(x,some ⟨r.v,r.ty,[.nr ty s nv' (lC p.1 o cs')],false,r.lst,true⟩)]⟩:=by
 unfold pF at hE
 split at hE<;>try (cases hE;done)
 rename_i x v o rest
 split at hE<;>try (cases hE;done)
 rename_i r ty s nv cs hl
 unfold B9 at hE
 split at hE<;>try (cases hE;done)
 rename_i p afq hp hca
 unfold Jf at hE
 split at hE<;>try (cases hE;done)
 rename_i nv' d cs' hb hs
 split at hE<;>try (cases hE;done)
 rename_i hall
 exact⟨x,v,o,rest,r,ty,s,nv,cs,p,afq,nv',d,cs',rfl,hl,hp,hca,hb,hs,hall,by simpa using hE.symm⟩
theorem WL (hΓ:bA P Γ) (hI:Inv N M L w0 blk V t (EH h) a w) (hVw:Z2 V h e) {g:Nat} {dst:Option Nat} {args:List D} {vs:Array Value} {E:bt} (hE:pF Γ e h g args=some E) (hsz:vs.size=args.length)
  (hr:∀(j:Nat) d,args[j]? = some d->RT w (Own M (EH h) blk) (EH h) blk V d (vs.getD j undef)):dy P g∧Calls P g vs w fun e' w'=>∃v,e'=.returned v∧ij N M L w0 V t h a e dst E v w':=by
 obtain⟨x,v,o,rest,r,ty,s,nv,cs,p,afq,nv',d,cs',rfl,hl,hp,hca,hb,hs,hall,rfl⟩:=qI hE
 obtain⟨hx,hv,hz,hm,hp1,hc⟩:=gg hl
 obtain⟨hcl,hcalls⟩:=hΓ.lnd g p hp
 refine⟨hcl,?_⟩
 have h0:=hr 0 _ rfl
 have hEx:=eR hx hm hc hp1
 obtain⟨g0,hg0,hu0⟩:=h0.2 _ hEx hv
 have hvs:vs = #[.pointer (some ⟨g0.1,g0.2+o,none⟩)]++vs.extract 1 vs.size:=by
  have h1:0<vs.size:=by rw[hsz];simp
  rw[<- hu0]
  apply Array.ext
  ·simp;omega
  ·intro i h1 h2
   cases i with
   | zero=>simp[agG h1]
   | succ i=>simp[agK];congr 1;omega
 have hsz':(vs.extract 1 vs.size).size=rest.length:=by simp at hsz ⊢;omega
 have hr':∀(j:Nat) d,rest[j]? = some d->RT w (Own M (EH h) blk) (EH h) blk V d ((vs.extract 1 vs.size).getD j undef):=by
  intro j d hj
  have:=hr (j+1) d (by simpa using hj)
  have e1:(vs.extract 1 vs.size).getD j undef=vs.getD (j+1) undef:=by
   simp only[afA]
   congr 1
   rw[agM]
   split
   ·congr 1;omega
   ·rename_i hh;rw[agN (by omega)]
  rw[e1];exact this
 obtain⟨M',hM'⟩:∃M':Nat->Prop,∀b,M' b↔Own M (EH h) blk b∧¬InX blk h x b:=⟨_,fun _=>Iff.rfl⟩
 have hInX:∀b,InX blk h x b->Own M (EH h) blk b:=by
  rintro b ⟨k,r',g',q0,q1,q2,q3⟩
  refine .inr ⟨k,r',g',q1,?_,q2,q3⟩
  rcases dK hx hm hc hp1 q0 q1 with⟨_,rfl⟩|⟨_,_,_,_,_,rfl⟩<;>exact hz
 have hIB:=I5 (blk:=blk) hx hm hc hp1
 have hQ:∀b,(M' b∨tU (ov blk x) (EH (lB (gW r.ty ty s 0 cs))) b)->Own M (EH h) blk b:=fun b hb=>hb.elim (fun hb=>((hM' b).1 hb).1) (fun hb=>hInX b ((hIB b).1 hb))
 have hargs:=hI.BU hca ⟨fun b h=>h,fun x hx=>by cases hx⟩ hsz' hr'
 have hA:wQ w (fun b=>M' b∨tU (ov blk x) (EH (lB (gW r.ty ty s 0 cs))) b) afq (vs.extract 1 vs.size):=⟨hargs.1,fun j d hj=>(hargs.2 j d hj).less hQ,fun b hb=>(hargs.tab b hb).less hQ⟩
 rw[hvs]
 refine (hcalls _ _ _ _ _ _ _ _ hs w M' (ov blk x) _ _ g0 _ rfl rfl (fun b hb=>hI.wF ((hM' b).1 hb).1) (fun b hb hb'=>((hM' b).1 hb').2 ((hIB b).1 hb)) (by rw[ov,py];exact hg0) (hI.aca hx hm hc hz hp1 hQ) hA).mono fun e' w' hg =>?_
 obtain⟨u,blk1,he,hbey,q0,qsh,qnew,qR,qrp⟩:=hg
 refine⟨u,he,mw blk blk1 x,?_⟩
 obtain⟨k1,k2⟩:=hI.back hx hm hc hz hp1 (hVw x r ty s nv cs nv' hx hm hc hp1 hb) hg0 rfl hM' ⟨hbey.os,hbey.tape,hbey.output,hbey.size,fun k hk hn=>hbey.block k hk fun hh=>hn ((hIB k).1 hh)⟩ q0 qsh (fun b hb=>(qnew b hb).imp id fun hh=>(hIB b).1 hh) qR
 obtain⟨k3,k4⟩:=k1.ab6 (x:=x) (o:=o) (aq _ _ _) rfl rfl rfl hp1 p.1 hall
 have hupd:∀(r1 r2:Option Row),bz (bz h x r1) x r2=bz h x r2:=by
  intro r1 r2
  funext i
  by_cases hi:i=x
  ·rw[hi,aq,aq]
  ·rw[au _ _ hi,au _ _ hi,au _ _ hi]
 rw[hupd]at k3 k4
 exact⟨k3.weaken fun _ _ h =>.inl h,bo (qrp.less fun b hb=>k2 b (k4 b hb))⟩
end
def FR:D->D->Option D
 | .nx _ _,.sl true true 0 []=>some (.nx 0 [])
 | .nx _ _,_=>none
 | _,d=>if er d=true then some (canon d) else none
def p8:List D->List D->Option (List D)
 | [],[]=>some []
 | c::cs,x::xs =>
  match FR c x,p8 cs xs with
  | some y,some ys=>some (y::ys)
  | _,_=>none
 | _,_=>none
def stZ (x:Nat) (r:Row) (ty s:Nat):Option Nat->Option (List D)->Option bt
 | some nv',some cs'=>some ⟨.und,[(x,some ⟨r.v,r.ty,[.nr ty s nv' cs'],false,r.lst,true⟩)]⟩
 | _,_=>none
def Rf (n e x:Nat) (r:Row) (ty s nv:Nat) (cs:List D):D->Option bt
 | .agg xs=>if xs.length=n then stZ x r ty s (bump nv e) (p8 cs xs) else none
 | _=>none
def nO (τ:Ty) (e:Nat) (h:Nat->Option Row) (p d:D):Option bt :=
 match p with
 | .ptr x v o =>
  match eU h x v with
  | some (r,ty,s,nv,cs)=>if r.lst=false∧o=0∧cs.length=τ.size then Rf τ.size e x r ty s nv cs d else none
  | none=>none
 | _=>none
def Qv (x:Nat) (r:Row) (ty s nv:Nat) (cs:List D):Option D->Option bt
 | some d=>some ⟨d,[(x,some ⟨r.v,r.ty,[.nr ty s nv cs],false,r.lst,true⟩)]⟩
 | none=>none
def nJ (τ:Ty) (h:Nat->Option Row):D->Option bt
 | .ptr x v o =>
  match eU h x v with
  | some (r,ty,s,nv,cs)=>if r.lst=false∧o=0∧cs.length=τ.size∧1<τ.size∧cs.all (Bb s)=true then Qv x r ty s nv (lC τ.size 0 cs) (iB τ (cs.map VW)) else none
  | none=>none
 | _=>none
def ZZ:Option bt->Option bt->Option bt
 | some E,_=>some E
 | none,y=>y
def sU (τ:Ty) (h:Nat->Option Row) (p:D):Option bt:=ZZ (nJ τ h p) (nK τ h p)
def sW (τ:Ty) (e:Nat) (h:Nat->Option Row) (p d:D):Option bt:=ZZ (nO τ e h p d) (lp τ e h p d)
theorem Pw:∀ {cs xs ys:List D},p8 cs xs=some ys->ys.length=cs.length∧xs.length=cs.length∧∀(j:Nat) c x,cs[j]? = some c->xs[j]? = some x->∃y,ys[j]? = some y∧FR c x=some y
 | [],[],ys,h=>by simp only[p8,afE]at h;subst h;exact⟨rfl,rfl,fun j c x hc=>by simp at hc⟩
 | c::cs,x::xs,ys,h=>by
  simp only[p8]at h
  split at h
  ·rename_i y ys' h1 h2
   simp only[afE]at h
   subst h
   obtain⟨k1,k2,k3⟩:=Pw h2
   refine⟨by simp[k1],by simp[k2],fun j c' x' hc hx =>?_⟩
   cases j with
   | zero =>
    simp only[List.getElem?_cons_zero,afE]at hc hx ⊢
    subst hc hx
    exact⟨y,rfl,h1⟩
   | succ j=>exact k3 j c' x' (by simpa using hc) (by simpa using hx)
  ·cases h
 | [],x::xs,ys,h=>by simp[p8]at h
 | c::cs,[],ys,h=>by simp[p8]at h
theorem E1 {c x y:D} (h:FR c x=some y):(x=.sl true true 0 []∧y=.nx 0 [])∨(er x=true∧y=canon x):=by
 unfold FR at h
 split at h
 ·simp only[afE]at h;exact .inl ⟨rfl,h.symm⟩
 ·cases h
 ·split at h
  ·rename_i hd
   simp only[afE]at h;exact .inr ⟨hd,h.symm⟩
  ·cases h
section
variable {P:Program} {T:Nat->Option Ty} {N:Nat} {M:Nat->Prop} {L:ik} {w0:World} {blk:Nat->Option (Nat×Nat)} {V:Nat->Nat->Prop} {t:Nat->D} {h:Nat->Option Row} {a:Act} {w:World} {e:Nat} {o:Oper} {Γ:Env}
theorem Xg (x:Nat):Bn (EH h) (fun k=>if rt k=x∧k≠x then none else EH h k):=by
 intro k r' hk
 simp only at hk
 split at hk
 ·cases hk
 ·exact⟨r',hk,.refl _⟩
open Classical in
theorem Xe (hT:gm P T) (hI:Inv N M L w0 blk V t (EH h) a w) (hVn:Z2 V h e) {ty:Nat} {p x:Operand} {τ:Ty} {E:bt} (ho:o.op=.store ty p x) (hτ:T ty=some τ) (hE:nO τ e h (ev t p) (ev t x)=some E):dz P o a w (ij N M L w0 V t h a e o.dst E):=by
 have hp:=hI.ev p
 have hq:=hI.ev x
 have hbig:=hI.big
 have hpk:=bZ
 generalize ev t p=pd at *
 generalize ev t x=d at *
 unfold nO at hE
 split at hE<;>try (cases hE;done)
 rename_i y v c0
 split at hE<;>try (cases hE;done)
 rename_i r ty' s nv cs hl
 obtain⟨hx,hv,hz,hm,hp1,hc⟩:=gg hl
 have hEx:=eR hx hm hc hp1
 obtain⟨g,hg,hpv⟩:=hp.2 _ hEx hv
 split at hE<;>try (cases hE;done)
 rename_i hcond
 obtain⟨_,rfl,hl1⟩:=hcond
 unfold Rf at hE
 split at hE<;>try (cases hE;done)
 rename_i xs
 split at hE<;>try (cases hE;done)
 rename_i hl2
 unfold stZ at hE
 split at hE<;>try (cases hE;done)
 rename_i nv' cs' hb hzz
 simp only[afE]at hE
 subst hE
 obtain⟨z1,z2,z3⟩:=Pw hzz
 have hq':RP w (Own M (EH h) blk) (.agg xs) (a.eval x):=hq
 obtain⟨us,hus,hul,hur⟩:∃us:List Value,a.eval x=.agg us.toArray∧us.length=xs.length∧∀j x,xs[j]? = some x->RP w (Own M (EH h) blk) x (us.getD j undef):=by
  generalize a.eval x=u at hq'
  cases hq' with
  | agg xs us h1 h2 h3=>exact⟨us,rfl,h1,h2⟩
 have hpl:∀(j:Nat) x,xs[j]? = some x->er x=true:=by
  intro j x hj
  have hjl:=(afY.1 hj).1
  obtain⟨y',_,k2⟩:=z3 j _ x (afI (by omega)) hj
  rcases E1 k2 with⟨rfl,_⟩|⟨k3,_⟩
  ·rfl
  ·exact k3
 have hone:∀u∈us,u.oneCell'=true:=by
  intro u hu
  obtain⟨j,hj⟩:=afR hu
  have hjl:=(afY.1 hj).1
  have hjx:=afI (l:=xs) (i:=j) (by omega)
  have:=hur j _ hjx
  have e1:us.getD j undef=u:=by simp[List.getD,hj]
  rw[e1]at this
  exact this.oW (eu (hpl j _ hjx)).1
 obtain⟨arr,k1,k2,k3⟩:=hI.Aq hx hm hc hp1 hg
 have hrun:=run_storeCells_at P g.1 (g.2+0) r.ty us 0 arr w k1 (by omega) hone
 rw[af4]at hrun
 have hsz:(arr.toList.take g.2++us++arr.toList.drop (g.2+us.length)).toArray.size=arr.size:=by simp;omega
 have hget:∀j,j<cs.length->(arr.toList.take g.2++us++arr.toList.drop (g.2+us.length)).toArray.getD (g.2+j) undef=us.getD j undef:=by
  intro j hj
  have:=o0 arr us g.2 (g.2+j) (by omega)
  rw[this,if_neg (by omega),if_pos (by omega)]
  congr 1
  omega
 generalize hnv:(arr.toList.take g.2++us++arr.toList.drop (g.2+us.length)).toArray=arr' at hrun hsz hget
 obtain⟨hnew,hhs,hheap⟩:=yo (g:=g) (arr':=arr') k1
 have hown:Own M (EH h) blk g.1 := .inr ⟨y,_,g,hEx,hz,hg,rfl⟩
 have hK:∀o,NK y o≠y∧2*PK<=NK y o:=fun o=>by have:=dX y o;omega
 have hle:=Xg (h:=h) y
 have hA:=hI.le hle
 generalize hh1:(fun k=>if rt k=y∧k≠y then none else EH h k)=h1 at hA hle
 have h1y:h1 y=some ⟨r.v,r.ty,cs.mapIdx (ow y s),r.fz,r.lst,true⟩:=by
  rw[<- hh1]
  simp only[ne_eq,not_true_eq_false,and_false,if_false]
  exact hEx
 have h1K:∀o,h1 (NK y o)=none:=fun o=>by
  rw[<- hh1]
  simp only
  rw[if_pos ⟨rX hp1,(hK o).1⟩]
 have h1ne:∀k,rt k≠y->h1 k=EH h k:=fun k hk=>by
  rw[<- hh1]
  simp only
  rw[if_neg (fun hh=>hk hh.1)]
 have hcs':∀(j:Nat) d,cs'[j]? = some d->(d=.nx 0 []∧us.getD j undef=.slice none 0 0)∨(er d=true∧RP w (Own M (EH h) blk) d (us.getD j undef)):=by
  intro j d hj
  have hjl:=(afY.1 hj).1
  have hjx:=afI (l:=xs) (i:=j) (by omega)
  obtain⟨y',q1,q2⟩:=z3 j _ _ (afI (by omega)) hjx
  rw[hj]at q1
  cases q1
  have hr:=hur j _ hjx
  rcases E1 q2 with⟨e1,rfl⟩|⟨e1,rfl⟩
  ·refine .inl ⟨rfl,?_⟩
   rw[e1]at hr
   generalize us.getD j undef=u at hr
   cases hr with
   | sl A c _ _ _ _ us' g1 g2 g3 g4 g5 g6 g7 g8 =>
    obtain⟨rfl,rfl⟩:=(g3 rfl).1 rfl
    rfl
  ·refine .inr ⟨?_,hr.canon⟩
   generalize xs[j]=q at e1
   cases q<;>first|rfl|cases e1
 have hkeep:∀ {d:D} {u:Value},RP w (Own M (EH h) blk) d u->RP (w.setRow g.1 arr') (Own M h1 blk) d u:=fun hr=>hr.keep fun b q1 q2=>⟨by rw[hhs];exact q1,za hle q2,hheap b (fun e=>q2 (e ▸ hown))⟩
 have hB:=hA.iH (x:=y) (r0:=⟨r.v,r.ty,cs'.mapIdx (ow y s),false,r.lst,true⟩) (w':=w.setRow g.1 arr') h1y hz rfl rfl rfl rfl (by rw[hhs];exact afv _) (fun b _ hb=>hheap b (hb g hg)) (by
  rw[hg]
  refine⟨by simp[World.shape?,hnew,k1,hsz],.inr ⟨fun d hd =>?_,arr',hnew,by simp only[ahY];omega,fun j d hj =>?_⟩⟩
  ·obtain⟨j,hj⟩:=afR hd
   simp only[ahZ,aft]at hj
   obtain⟨d0,_,rfl⟩:=hj
   exact jK _ _ _ _
  ·simp only[ahZ,aft]at hj
   obtain⟨d0,hd0,rfl⟩:=hj
   have hjl:=(afY.1 hd0).1
   rw[hget j (by omega)]
   rcases hcs' j d0 hd0 with⟨rfl,_⟩|⟨q1,q2⟩
   ·trivial
   ·rw[iI q1]
    exact (eu q1).2.2.2 (hkeep q2)) (fun hh=>by cases hh) (fun _ g' hg' j x' s' n' hj=>by
  rw[hg]at hg'
  cases hg'
  simp only[ahZ,aft]at hj
  obtain⟨d0,hd0,he⟩:=hj
  obtain⟨xs1,rfl,rfl,rfl⟩:=oh he
  have hjl:=(afY.1 hd0).1
  exact⟨⟨hp1,.inr rfl⟩,_,aK hnew (by omega),fun r1 hr1=>by rw[h1K]at hr1;cases hr1⟩)
 obtain⟨S,hS⟩:∃S:Nat->Prop,∀k,S k↔∃o xs,k=NK y o∧cs'[o]? = some (.nx 0 xs):=⟨_,fun _=>Iff.rfl⟩
 have hnil:∀(j n':Nat) (xs:List D),cs'[j]? = some (.nx n' xs)->n'=0∧xs=[]∧us.getD j undef=.slice none 0 0:=by
  intro j n' xs hj
  rcases hcs' j _ hj with⟨e1,e2⟩|⟨e1,_⟩
  ·cases e1;exact⟨rfl,rfl,e2⟩
  ·cases e1
 have hx':bz h y (some (⟨r.v,r.ty,[.nr ty' s nv' cs'],false,r.lst,true⟩:Row)) y=some ⟨r.v,r.ty,[.nr ty' s nv' cs'],false,r.lst,true⟩:=aq _ _ _
 have hC:=hB.addEmpty S ty' nv' (h':=EH (bz h y (some ⟨r.v,r.ty,[.nr ty' s nv' cs'],false,r.lst,true⟩))) (blk':=fun k=>if S k then none else blk k) (fun k hk=>by
   obtain⟨o',xs,rfl,ho'⟩:=(hS k).1 hk
   have:=hK o'
   exact⟨by omega,by omega,hVn y r ty' s nv cs nv' hx hm hc hp1 hb o',by rw[au _ _ (hK o').1,h1K]⟩) (fun k hk=>by
   refine⟨?_,by rw[if_pos hk]⟩
   obtain⟨o',xs,rfl,ho'⟩:=(hS k).1 hk
   rw[dP hx' rfl rfl hp1,ho']
   obtain⟨_,rfl,_⟩:=hnil o' 0 xs ho'
   rfl) (fun k hk=>by
   refine⟨?_,by rw[if_neg hk]⟩
   by_cases hkd:rt k=y
   ·rcases mz hkd with rfl|⟨o',rfl⟩
    ·rw[aq,eR hx' rfl rfl hp1]
    ·rw[au _ _ (hK o').1,h1K,dP hx' rfl rfl hp1]
     cases hco:cs'[o']? with
     | none=>rfl
     | some d0 =>
      cases d0 with
      | nx n' xs =>
       obtain⟨rfl,_,_⟩:=hnil o' n' xs hco
       exact absurd ((hS _).2 ⟨o',xs,rfl,hco⟩) hk
      | _=>rfl
   ·rw[au _ _ (fun e=>hkd (by rw[e,fX (by omega)])),h1ne k hkd]
    exact dA (by rw[au _ _ hkd])) (fun y1 r1 g1 hy hm1 hg1 j x' s' n' hj hs=>by
   obtain⟨o',xs,rfl,ho'⟩:=(hS _).1 hs
   obtain⟨⟨p1,p2⟩,u,p3,_⟩:=hB.pha y1 r1 g1 hy hm1 hg1 j _ s' n' hj
   rcases p2 with p2|p2
   ·have:=dX y o';omega
   obtain⟨rfl,rfl⟩:=qu hp1 p1 p2
   rw[aq]at hy
   rw[hg]at hg1
   cases hy
   cases hg1
   simp only[ahZ,aft]at hj
   obtain⟨d0,hd0,he⟩:=hj
   obtain⟨xs',rfl,_,rfl⟩:=oh he
   obtain⟨k1',_,k3'⟩:=hnil o' n' xs' hd0
   have hlt:=(afY.1 hd0).1
   refine⟨_,aK hnew (by omega),k1',none,?_⟩
   rw[hget o' (by omega)]
   exact k3')
 refine .inr (.inl ⟨w.setRow g.1 arr',?_,fun k=>if S k then none else blk k,?_,trivial⟩)
 ·have hcells:(a.eval x).cells.toList=us:=by rw[hus];rfl
  have hcs:(a.eval x).cells.size=τ.size:=by rw[<- hl2,<- hul,<- hcells];simp
  have hrun':(storeCells ⟨g.1,g.2+0,none⟩ (a.eval x).cells.toList 0).run P w=.ok () (w.setRow g.1 arr'):=by rw[hcells];exact hrun
  rw[af4]at hrun' hpv
  simp[execOp,ho,Instr.storeAt,Instr.sureAddr,hpv,storeVar,run_sizeOf (hT ty τ hτ),hcs,hrun']
 ·exact hC.weaken fun _ _ h =>.inl h
open Classical in
theorem Xa (hT:gm P T) (hI:Inv N M L w0 blk V t (EH h) a w) {ty d ty' s f:Nat} {τ:Ty} {E:bt} (ho:o.op=.alloc ty) (hd:o.dst=some d) (hV:gR N V d e) (hV':∀o,¬V (NK d o) (4*e+2)) (hτ:T ty=some τ)
  (hE:mkA τ ty e d ty' s f=some E):dz P o a w (ij N M L w0 V t h a e o.dst E):=by
 have hbig:=hI.big
 have hpk:=bZ
 unfold mkA at hE
 split at hE<;>try (cases hE;done)
 rename_i hcond
 obtain⟨c4,c5,c6,hdp,c8⟩:=hcond
 simp only[afE]at hE
 subst hE
 obtain⟨z,hz1,hz2⟩:=ig (hT ty τ hτ) w
 have hzl:(τ.zero.map kW).length=τ.size:=by rw[afZ,c6]
 have hf:f<τ.size:=by
  rw[ahX]at c8
  rcases agh f τ.size with hlt|hge
  ·exact hlt
  ·rw[ag7 (by omega)]at c8;cases c8
 have hzf:(τ.zero.map kW)[f]? = some (.sl true true 0 []):=by
  rw[ahX]at c8
  unfold Yd at c8
  split at c8
  ·assumption
  ·cases c8
 have hzn:(kU τ f).length=τ.size:=by
  unfold kU
  rw[iD (by simp;omega)]
  simp[c6]
 have hzat:∀(m:Nat) (x:D),(kU τ f)[m]? = some x->(m=f∧x=.nx 0 [])∨(m≠f∧∃y,(τ.zero.map kW)[m]? = some y∧x=canon y):=by
  intro m x hm
  unfold kU at hm
  by_cases hmf:m=f
  ·subst hmf
   rw[eP (by simp;omega)]at hm
   exact .inl ⟨rfl,by simpa using hm.symm⟩
  ·rw[fP (by simp;omega) hmf,afs,aft]at hm
   obtain⟨y,h1,h2⟩:=hm
   exact .inr ⟨hmf,y,h1,h2.symm⟩
 obtain⟨vs,hvs⟩:∃vs:Array Value,vs=τ.zero.toArray:=⟨_,rfl⟩
 have hsz:vs.size=τ.size:=by rw[hvs];simpa using c6
 have hdat:∀(M':Nat->Prop) (w':World) (j:Nat) (x:D),(kU τ f)[j]? = some x->er x=true->RP w' M' x (vs.getD j undef):=by
  intro M' w' j x hj hdx
  rw[hvs]
  rcases hzat _ x hj with⟨_,rfl⟩|⟨_,y,h1,rfl⟩
  ·cases hdx
  ·exact (ou (w:=w') (M:=M') τ.zero (afG.2 fun y hy=>(eu (afG.1 c5 y hy)).1) _ y h1).2.canon
 have hnil:∀(j:Nat) (n':Nat) (xs:List D),(kU τ f)[j]? = some (.nx n' xs)->n'=0∧xs=[]∧vs.getD j undef=.slice none 0 0:=by
  intro j n' xs hj
  rcases hzat _ _ hj with⟨hm,he⟩|⟨_,y,h1,he⟩
  ·simp only[D.nx.injEq]at he
   refine⟨he.1,he.2,?_⟩
   rw[hvs,hm]
   rw[afs,aft]at hzf
   obtain⟨v,v1,v2⟩:=hzf
   simp only[afA,List.getElem?_toArray,v1,Option.getD_some]
   exact Tp v2
  ·have:=afG.1 c5 y (afX h1)
   cases y<;>first|(cases he;done)|(cases this;done)
 generalize kU τ f=cs at hzn hzat hdat hnil
 have hA:=hI.le (xi (h:=h) d hdp)
 have hold:∀b,b<w.heap.size->(w.alloc (.cells vs ty)).heap[b]? = w.heap[b]?:=fun b hb=>Below.heap_alloc w _ b hb
 have hbw:=(Below.refl w.heap.size w).alloc (afv _) (.cells vs ty)
 have hnew:=heap_alloc_new w (.cells vs ty)
 have hEn:∀o,EH (bz h d none) (NK d o)=none:=fun o=>by rw[pD hdp,aq];rfl
 have hKd:∀o,NK d o≠d:=fun o=>by have:=dX d o;omega
 have hB:=hA.BS (w':=w.alloc (.cells vs ty)) (h1:=EH (bz h d none)) (old:=none) (d:=d) (e:=e) (r0:=⟨e,ty,cs.mapIdx (ow d s),false,false,true⟩) (go:=some (w.heap.size,0)) hbw.os hbw.tape hbw.output hbw.size (fun k hk _=>hold k hk) (fun y hy=>by cases hy) rfl hV
  ⟨.inl (afv _),.inr ⟨fun x hx=>by
   obtain⟨j,hj⟩:=afR hx
   simp only[ahZ,aft]at hj
   obtain⟨d0,hd0,rfl⟩:=hj
   exact jK _ _ _ _,vs,hnew,by simp only[ahY];omega,fun j x hj=>by
   simp only[ahZ,aft]at hj
   obtain⟨d0,hd0,rfl⟩:=hj
   rw[agj]
   by_cases hdd:er d0=true
   ·rw[iI hdd]
    exact (eu hdd).2.2.2 (hdat _ _ j d0 hd0 hdd)
   ·cases d0<;>first|trivial|exact absurd rfl hdd⟩⟩ rfl rfl (fun _ g hg j x s' n' hj=>by
   cases hg
   simp only[ahZ,aft]at hj
   obtain⟨d0,hd0,he⟩:=hj
   obtain⟨xs,rfl,rfl,rfl⟩:=oh he
   have hlt:=(afY.1 hd0).1
   refine⟨⟨hdp,.inr rfl⟩,_,aK hnew (by omega),fun r hr =>?_⟩
   rw[au _ _ (hKd j),hEn]at hr
   cases hr)
 obtain⟨S,hS⟩:∃S:Nat->Prop,∀k,S k↔∃o xs,k=NK d o∧cs[o]? = some (.nx 0 xs):=⟨_,fun _=>Iff.rfl⟩
 have hC:=hB.addEmpty S ty' (4*e+2) (h':=EH (bz h d (some ⟨e,ty,[.nr ty' s (4*e+2) cs],false,false,true⟩))) (blk':=fun k=>if S k then none else bz blk d (some (w.heap.size,0)) k) (fun k hk=>by
   obtain⟨o',xs,rfl,ho'⟩:=(hS k).1 hk
   have:=dX d o'
   refine⟨by omega,by omega,?_,by rw[au _ _ (hKd o'),hEn]⟩
   rintro (hv|⟨he,_⟩)
   ·exact hV' o' hv
   ·exact hKd o' he) (fun k hk=>by
   refine⟨?_,by rw[if_pos hk]⟩
   obtain⟨o',xs,rfl,ho'⟩:=(hS k).1 hk
   rw[dP (aq _ _ _) rfl rfl hdp,ho']
   obtain⟨_,rfl,_⟩:=hnil o' 0 xs ho'
   rfl) (fun k hk=>by
   refine⟨?_,by rw[if_neg hk]⟩
   by_cases hkd:rt k=d
   ·rcases mz hkd with rfl|⟨o',rfl⟩
    ·rw[aq,eR (aq _ _ _) rfl rfl hdp]
    ·rw[au _ _ (hKd o'),hEn,dP (aq _ _ _) rfl rfl hdp]
     cases hco:cs[o']? with
     | none=>rfl
     | some d0 =>
      cases d0 with
      | nx n' xs =>
       obtain⟨rfl,_,_⟩:=hnil o' n' xs hco
       exact absurd ((hS _).2 ⟨o',xs,rfl,hco⟩) hk
      | _=>rfl
   ·rw[au _ _ (fun e=>hkd (by rw[e,fX (by omega)]))]
    exact dA (by rw[au _ _ hkd,au _ _ hkd])) (fun y r g hy hm hg j x s' n' hj hs=>by
   obtain⟨o',xs,rfl,ho'⟩:=(hS _).1 hs
   obtain⟨⟨p1,p2⟩,u,p3,_⟩:=hB.pha y r g hy hm hg j _ s' n' hj
   rcases p2 with p2|p2
   ·have:=dX d o';omega
   obtain⟨rfl,rfl⟩:=qu hdp p1 p2
   rw[aq]at hy hg
   cases hy
   cases hg
   simp only[ahZ,aft]at hj
   obtain⟨d0,hd0,he⟩:=hj
   obtain⟨xs',rfl,_,rfl⟩:=oh he
   obtain⟨k1,_,k3⟩:=hnil o' n' xs' hd0
   have hlt:=(afY.1 hd0).1
   refine⟨_,aK hnew (by omega),k1,none,?_⟩
   rw[agj]
   exact k3)
 have hSd:¬S d:=fun hs=>by
  obtain⟨o',_,he,_⟩:=(hS d).1 hs
  exact hKd o' he.symm
 refine aD (v := .pointer (some ⟨w.heap.size,0,none⟩)) (w':=w.alloc (.cells vs ty)) ?_ ⟨fun k=>if S k then none else bz blk d (some (w.heap.size,0)) k,?_,?_⟩
 ·rw[hvs]
  simp[execOp,ho,Instr.alloc,hz1,newVar,newRow,hz2]
 ·refine hC.weaken fun x v hx =>?_
  rcases hx with hx|⟨rfl,rfl⟩
  ·exact .inl hx
  ·exact .inr ⟨hd,rfl⟩
 ·exact⟨.inr ⟨hd,rfl⟩,fun r hr hv=>⟨(w.heap.size,0),by simp only;rw[if_neg hSd,aq],rfl⟩⟩
theorem W7 (hT:gm P T) (hI:Inv N M L w0 blk V t (EH h) a w) {ty:Nat} {p:Operand} {τ:Ty} {E:bt} (ho:o.op=.load ty p) (hτ:T ty=some τ) (hE:nJ τ h (ev t p)=some E):dz P o a w (ij N M L w0 V t h a e o.dst E):=by
 have hp:=hI.ev p
 generalize hev:ev t p=q at *
 unfold nJ at hE
 split at hE<;>try (cases hE;done)
 rename_i x v c
 split at hE<;>try (cases hE;done)
 rename_i r ty' s nv cs hl
 obtain⟨hx,hv,hz,hm,hp1,hc⟩:=gg hl
 have hEx:=eR hx hm hc hp1
 obtain⟨g,hg,hpv⟩:=hp.2 _ hEx hv
 split at hE<;>try (cases hE;done)
 rename_i hcond
 obtain⟨_,rfl,c1,_,c2⟩:=hcond
 unfold Qv at hE
 split at hE<;>try (cases hE;done)
 rename_i d hd
 simp only[afE]at hE
 subst hE
 obtain⟨hF,_⟩:=hI.ab6 (o:=0) hx hm hc hz hp1 τ.size (by rw[agX,agW (by omega)];exact c2)
 have hx':bz h x (some (⟨r.v,r.ty,[.nr ty' s nv (lC τ.size 0 cs)],false,r.lst,true⟩:Row)) x=some ⟨r.v,r.ty,[.nr ty' s nv (lC τ.size 0 cs)],false,r.lst,true⟩:=aq _ _ _
 have hwl:(lC τ.size 0 cs).length=cs.length:=by simp[lC]
 have hat:At w (Own M (EH (bz h x (some ⟨r.v,r.ty,[.nr ty' s nv (lC τ.size 0 cs)],false,r.lst,true⟩))) blk) g.1 (g.2+0) (cs.map VW):=by
  intro j d1 hj
  rw[afs,aft]at hj
  obtain⟨d0,hj0,rfl⟩:=hj
  have hok:=afG.1 c2 d0 (afX hj0)
  have hjs:=(afY.1 hj0).1
  have hdc:er (VW d0)=true:=by
   cases d0<;>first|rfl|exact hok
  have hj':(lC τ.size 0 cs)[0+j]? = some (VW d0):=by
   rw[agj,ve,hj0]
   simp only[Option.map_some]
   rw[if_pos (by omega)]
  obtain⟨arr,k1,k2,k3⟩:=hF.Aq hx' rfl rfl hp1 hg
  have hlt:=(afY.1 hj').1
  refine⟨(eu hdc).1,_,?_,k3 _ _ hj' hdc⟩
  rw[afQ]
  exact aK k1 (by omega)
 have:=oE (e:=e) (o:=o) hT hF ho hτ hpv hat (by rw[afZ];exact c1) hd
 exact this
end
def Je (e d:Nat):Option (Nat×Nat×Nat×Nat×Nat×List D)->Option bt
 | some (ty,t,s,S,n,cs)=>if d<PK then some ⟨.buf d e S 0 n,[(d,some ⟨e,ty,[.nr t s (4*e+2) cs],false,true,true⟩)]⟩ else none
 | none=>none
def Gi (p:List D->Option (Nat×Nat×Nat×Nat×Nat×List D)) (e d:Nat):Option (List D×List Nat)->Option bt
 | some (afq,[])=>Je e d (p afq)
 | _=>none
theorem wk {p:List D->Option (Nat×Nat×Nat×Nat×Nat×List D)} {e d:Nat} {c:Option (List D×List Nat)} {E:bt} (hE:Gi p e d c=some E):∃afq ty t s S n cs,c=some (afq,[])∧p afq=some (ty,t,s,S,n,cs)∧d<PK∧E=⟨.buf d e S 0 n,[(d,some ⟨e,ty,[.nr t s (4*e+2) cs],false,true,true⟩)]⟩:=by
 unfold Gi at hE
 split at hE<;>try (cases hE;done)
 rename_i afq
 unfold Je at hE
 split at hE<;>try (cases hE;done)
 rename_i ty t s S n cs hp
 split at hE<;>try (cases hE;done)
 rename_i hd
 exact⟨afq,ty,t,s,S,n,cs,rfl,hp,hd,by simpa using hE.symm⟩
section
variable {P:Program} {T:Nat->Option Ty} {N:Nat} {M:Nat->Prop} {L:ik} {w0:World} {blk:Nat->Option (Nat×Nat)} {V:Nat->Nat->Prop} {t:Nat->D} {h:Nat->Option Row} {a:Act} {w:World} {e:Nat} {o:Oper} {Γ:Env}
theorem WJ (hΓ:bA P Γ) (hI:Inv N M L w0 blk V t (EH h) a w) {g d:Nat} {dst:Option Nat} {p:List D->Option (Nat×Nat×Nat×Nat×Nat×List D)} {args:List D} {vs:Array Value} {E:bt} (hd:dst=some d) (hV:gR N V d e) (hV':∀o',¬V (NK d o') (4*e+2)) (hp:Γ.nx.res g=some p)
  (hE:Gi p e d (bm (EH h) args)=some E) (hsz:vs.size=args.length) (hr:∀(j:Nat) d,args[j]? = some d->RT w (Own M (EH h) blk) (EH h) blk V d (vs.getD j undef)):dy P g∧Calls P g vs w fun e' w'=>∃v,e'=.returned v∧ij N M L w0 V t h a e dst E v w':=by
 obtain⟨afq,ty,ti,s,S,n,cs,hca,hs,hdp,rfl⟩:=wk hE
 obtain⟨hcl,hcalls⟩:=hΓ.res g p hp
 refine⟨hcl,?_⟩
 have hargs:=hI.BU hca ⟨fun b h=>h,fun x hx=>by cases hx⟩ hsz hr
 refine (hcalls _ _ _ _ _ _ _ hs w (Own M (EH h) blk) _ vs rfl (fun b hb=>hI.wF hb) hargs).mono fun e' w' hg =>?_
 obtain⟨u,blk1,he,hbel,hnew,hR,hu⟩:=hg
 refine⟨u,he,mw blk blk1 d,?_⟩
 have hA:=hI.le (xi (h:=h) d hdp)
 generalize hh2:bz h d (some (⟨e,ty,[.nr ti s (4*e+2) cs],false,true,true⟩:Row))=h2
 have hap:aH h [(d,some (⟨e,ty,[.nr ti s (4*e+2) cs],false,true,true⟩:Row))]=h2:=by rw[<- hh2];rfl
 rw[hap]
 have hx2:h2 d=some ⟨e,ty,[.nr ti s (4*e+2) cs],false,true,true⟩:=by rw[<- hh2,aq]
 have hn0:∀k,rt k=d->EH (bz h d none) k=none:=fun k hk=>RL (by rw[hk,aq])
 have hne2:∀k,rt k≠d->EH h2 k=EH (bz h d none) k:=fun k hk=>dA (by rw[<- hh2,au _ _ hk,au _ _ hk])
 have hbne:∀k,rt k≠d->mw blk blk1 d k=blk k:=fun k hk=>if_neg hk
 have hbx:mw blk blk1 d d=blk1 0:=by unfold mw;rw[if_pos (yl hdp),sB]
 have hbN:∀o,mw blk blk1 d (NK d o)=blk1 (NK 0 o):=fun o=>by unfold mw;rw[if_pos (rX hdp),jE hdp]
 have hkey:∀k r',rt k=d->EH h2 k=some r'->∃r1,EH (lB (gW ty ti s 0 cs)) (E8 d k)=some r1∧mw blk blk1 d k=blk1 (E8 d k):=by
  intro k r' hk he
  have hq:mw blk blk1 d k=blk1 (E8 d k):=if_pos hk
  rcases dK hx2 rfl rfl hdp hk he with⟨rfl,_⟩|⟨o,n,xs,rfl,ho,_⟩
  ·rw[sB]at hq ⊢;exact⟨_,tB,hq⟩
  ·rw[jE hdp]at hq ⊢;exact⟨_,rG ho,hq⟩
 have hown:∀b,Own M (EH h2) (mw blk blk1 d) b->Own M (EH h) blk b∨tU blk1 (EH (lB (gW ty ti s 0 cs))) b:=by
  intro b hb'
  rcases hb' with hb'|⟨k,r',g,hk,hz',hg,he⟩
  ·exact .inl (.inl hb')
  ·by_cases hkx:rt k=d
   ·obtain⟨r1,q1,q2⟩:=hkey k r' hkx hk
    exact .inr ⟨_,r1,g,q1,by rw[<- q2];exact hg,he⟩
   ·rw[hne2 k hkx]at hk
    rw[hbne k hkx]at hg
    refine .inl (.inr ⟨k,r',g,?_,hz',hg,he⟩)
    rw[<- hk]
    exact dA (by rw[au _ _ hkx])
 have hRle:∀ {g:Nat×Nat} {r1:Row},r1.mp=false->du w' (fun b=>Own M (EH h) blk b∨tU blk1 (EH (lB (gW ty ti s 0 cs))) b) g r1->du w' (Own M (EH h2) (mw blk blk1 d)) g r1:=by
  intro g r1 hm1 hr
  unfold du at hr ⊢
  rw[hm1]at hr ⊢
  obtain⟨arr,k1,k2,k3⟩:=hr
  exact⟨arr,k1,k2,fun j d hj=>⟨(k3 j d hj).1,(k3 j d hj).2.less hown⟩⟩
 have hplace:∀k r',rt k=d->EH h2 k=some r'->∀g,mw blk blk1 d k=some g->w.heap.size<=g.1:=by
  intro k r' hk he g hg
  obtain⟨r1,q1,q2⟩:=hkey k r' hk he
  exact hnew g.1 ⟨_,r1,g,q1,by rw[<- q2];exact hg,rfl⟩
 have hInv:Inv N M L w0 (mw blk blk1 d) (fun y v=>V y v∨(y=d∧v=e)) t (EH h2) a w':=by
  refine hA.abB (fun k=>rt k=d) (fun _ _ h =>.inl h) hbel.os hbel.tape hbel.output hbel.size (fun k hk _=>hbel.block k hk) (fun k r' hk he=>by rw[hn0 k hk]at he;cases he) (fun k hk=>⟨hne2 k hk,hbne k hk⟩) ?_ ?_ ?_ ?_ ?_
  ·intro k r' hk he
   rcases dK hx2 rfl rfl hdp hk he with⟨rfl,rfl⟩|⟨o,n,xs,rfl,ho,rfl⟩
   ·refine⟨rfl,fun hn =>.inr ⟨rfl,rfl⟩,?_⟩
    rw[hbx]
    have hr0:=hR.rows 0 _ tB
    cases hg:blk1 0 with
    | none =>
     rw[hg]at hr0
     have h1:cs.mapIdx (ow 0 s)=[]:=hr0
     have h2:cs.length=0:=by
      have:=congrArg List.length h1
      simpa using this
     show cs.mapIdx (ow k s)=[]
     rw[agO h2]
     rfl
    | some g0 =>
     rw[hg]at hr0
     have hr0:du w' (fun b=>Own M (EH h) blk b∨tU blk1 (EH (lB (gW ty ti s 0 cs))) b) g0 ⟨0,ty,cs.mapIdx (ow 0 s),false,true,true⟩:=hr0
     refine⟨.inl (hplace k _ hk he g0 (hbx.trans hg)),?_⟩
     unfold du at hr0 ⊢
     simp only at hr0 ⊢
     rcases hr0 with⟨ks,vs,k1,_⟩|⟨_,arr,k2,k3,k4⟩
     ·exfalso
      simp only at k1
      have hl:cs.length=1:=by
       have:=congrArg List.length k1
       simpa using this
      match cs,hl with
      | [d],_ =>
       simp only[List.mapIdx_cons,List.mapIdx_nil,afT,and_true]at k1
       have:=jK 0 s 0 d
       rw[k1]at this
       cases this
     ·refine .inr ⟨fun d hd =>?_,arr,k2,by simpa using k3,fun j d hj =>?_⟩
      ·obtain⟨j,hj⟩:=afR hd
       simp only[ahZ,aft]at hj
       obtain⟨d0,hd0,rfl⟩:=hj
       exact jK _ _ _ _
      ·simp only[ahZ,aft]at hj
       obtain⟨d0,hd0,rfl⟩:=hj
       by_cases hdd:er d0=true
       ·rw[iI hdd]
        have hj':(cs.mapIdx (ow 0 s))[j]? = some d0:=by rw[ahZ,hd0];exact congrArg some (iI hdd)
        exact (eu hdd).2.2.2 (((eu hdd).2.2.1 (k4 j _ hj')).less hown)
       ·cases d0<;>first|trivial|exact absurd rfl hdd
   ·refine⟨rfl,fun hn=>by have:=dX d o;have:=hI.big;have:=bZ;omega,?_⟩
    have hr0:=hR.rows _ _ (rG ho)
    rw[hbN]
    cases hg:blk1 (NK 0 o) with
    | none=>rw[hg]at hr0;exact hr0
    | some g =>
     rw[hg]at hr0
     refine⟨.inl (hplace _ _ hk he g ((hbN o).trans hg)),hRle rfl ?_⟩
     obtain⟨arr,k1,k2,k3⟩:=hr0
     exact⟨arr,k1,k2,k3⟩
  ·intro k l r1 r2 g g' hk hl he he' hg hg' hgg
   obtain⟨q1,p1,p2⟩:=hkey k r1 hk he
   obtain⟨q2,p3,p4⟩:=hkey l r2 hl he'
   have e1:=hR.inj _ _ _ _ g g' p1 p3 (by rw[<- p2];exact hg) (by rw[<- p4];exact hg') hgg
   rcases dK hx2 rfl rfl hdp hk he with⟨rfl,_⟩|⟨o,n,xs,rfl,ho,_⟩
   ·rcases dK hx2 rfl rfl hdp hl he' with⟨rfl,_⟩|⟨o',n',xs',rfl,ho',_⟩
    ·rfl
    ·rw[sB,jE hdp]at e1
     have:=dX 0 o';have:=bZ;omega
   ·rcases dK hx2 rfl rfl hdp hl he' with⟨rfl,_⟩|⟨o',n',xs',rfl,ho',_⟩
    ·rw[sB,jE hdp]at e1
     have:=dX 0 o;have:=bZ;omega
    ·rw[jE hdp,jE hdp]at e1
     rw[(qu lh lh e1).2]
  ·intro k r' hk hv he
   rcases dK hx2 rfl rfl hdp hk he with⟨rfl,rfl⟩|⟨o,n,xs,rfl,ho,rfl⟩
   ·exact absurd hv hV.no
   ·exact absurd hv (hV' o)
  ·intro k r' g hk he hm' hg j x' s' n hj
   rcases dK hx2 rfl rfl hdp hk he with⟨rfl,rfl⟩|⟨o,n',xs,rfl,ho,rfl⟩
   rotate_left
   ·cases hm'
   simp only[ahZ,aft]at hj
   obtain⟨d0,hd0,he0⟩:=hj
   obtain⟨xs1,rfl,rfl,rfl⟩:=oh he0
   rw[hbx]at hg
   obtain⟨_,u,k1,k2⟩:=hR.pha 0 _ g tB rfl hg j (NK 0 j) s' n (by simp only[ahZ,hd0,Option.map_some,ow])
   refine⟨⟨hdp,.inr rfl⟩,u,k1,fun _ _ =>?_⟩
   have:=k2 _ (rG hd0)
   rw[hbN]
   exact this
  ·intro y r' j x' s' n hy he hm' hj hx'
   have hrow:=(hA.rows y r' he).2
   cases hg:blk y with
   | none =>
    rw[hg]at hrow
    have hrow:r'.cells=[]:=hrow
    rw[hrow]at hj
    cases hj
   | some g =>
    obtain⟨q1,q2⟩:=(hA.pha y r' g he hm' hg j x' s' n hj).1
    rcases q2 with rfl|rfl
    ·have:rt (PK+y)=PK+y:=fX (by omega)
     rw[this]at hx'
     omega
    ·rw[rX q1]at hx'
     rw[yl q1]at hy
     exact hy hx'
 refine⟨hInv.weaken fun x v hx =>?_,.inr ⟨hd,rfl⟩,fun r' _ _ =>?_⟩
 ·rcases hx with hx|⟨rfl,rfl⟩
  ·exact .inl hx
  ·exact .inr ⟨hd,rfl⟩
 ·rw[hbx]
  exact hu.2 ⟨0,0,[],false,false,false⟩ rfl rfl
theorem Ct (hI:Inv N M L w0 blk V t h a w) {c:Call} {f:Operand} {g:Nat} (ho:o.op=.call c) (hc:c.callee=.value f) (hf:ev t f=.fn g) {Φ:Value->World->Prop}
  (hk:∀vs:Array Value,vs.size=(c.args.toList.map (ev t)).length->(∀(j:Nat) d,(c.args.toList.map (ev t))[j]? = some d->RT w (Own M h blk) h blk V d (vs.getD j undef))->dy P g∧Calls P g vs w fun e' w'=>∃v,e'=.returned v∧Φ v w'):dz P o a w Φ:=by
 have hfv:=hI.ev f
 have hargs:∀(j:Nat) d,(c.args.toList.map (ev t))[j]? = some d->RT w (Own M h blk) h blk V d ((c.args.map a.eval).getD j undef):=by
  intro j d hj
  rw[afs]at hj
  cases hx:c.args.toList[j]? with
  | none=>simp[hx]at hj
  | some x =>
   simp only[hx,Option.map_some,afE]at hj
   subst hj
   have:(c.args.map a.eval).getD j undef=a.eval x:=by
    have hx':c.args[j]? = some x:=by simpa using hx
    simp[hx']
   rw[this]
   exact hI.ev x
 have hsz:(c.args.map a.eval).size=(c.args.toList.map (ev t)).length:=by simp
 rw[hf]at hfv
 have hfv':a.eval f=.func (.func g) #[] #[]:=by
  have hf':RP w (Own M h blk) (.fn g) (a.eval f):=hfv
  generalize a.eval f=u at *
  cases hf'
  rfl
 obtain⟨⟨fn,hfn,hname,hbody⟩,h2⟩:=hk _ hsz hargs
 have hn:¬fn.name = "runtime.NumGoroutine":=by simpa using hname
 have hb:¬fn.body=none:=by
  intro h0
  rw[h0]at hbody
  cases hbody
 exact .inr (.inr ⟨g,#[]++c.args.map a.eval++#[],by simp[execOp,ho,resolve,hc,hfv',Deferred.ofValue,invoke,callFunc,program,Sem.run,hfn,hn,hb],by simpa using h2⟩)
end
def fZ (vs:Operand->D):Op->Option (D×List D)
 | .call c=>match c.callee with | .value f=>some (vs f,c.args.toList.map vs)|_=>none
 | _=>none
theorem lV {vs:Operand->D} {op:Op} {q:D} {args:List D} (hc:fZ vs op=some (q,args)):∃c f,op=.call c∧c.callee=.value f∧q=vs f∧args=c.args.toList.map vs:=by
 unfold fZ at hc
 split at hc<;>try (cases hc;done)
 rename_i c
 split at hc<;>try (cases hc;done)
 rename_i f hf
 simp only[afE,Prod.mk.injEq]at hc
 exact⟨c,f,rfl,hf,hc.1.symm,hc.2.symm⟩
def z8 (Γ:Env) (e:Nat) (h:Nat->Option Row):Option (D×List D)->Option bt
 | some (.fn g,args)=>pF Γ e h g args
 | _=>none
def CL (e d:Nat) (h:Nat->Option Row) (args:List D):Option (List D->Option (Nat×Nat×Nat×Nat×Nat×List D))->Option bt
 | some p=>Gi p e d (bm (EH h) args)
 | none=>none
def k9 (Γ:Env) (e:Nat) (h:Nat->Option Row):Option Nat->Option (D×List D)->Option bt
 | some d,some (.fn g,args)=>CL e d h args (Γ.nx.res g)
 | _,_=>none
def sV (T:Nat->Option Ty) (Γ:Env) (e:Nat) (o:Oper) (vs:Operand->D) (h:Nat->Option Row):Option bt :=
 match o.op with
 | .load ty p=>match T ty with|some τ=>sU τ h (vs p)|none=>none
 | .store ty p x=>match T ty with|some τ=>sW τ e h (vs p) (vs x)|none=>none
 | .call c=>z8 Γ e h (fZ vs (.call c))
 | _=>none
def ZY (h:Nat->Option Row):Option bt->Option bt->Option bt
 | some ⟨v,hw⟩,_=>some ⟨v,je h hw⟩
 | none,y=>y
def mM (T:Nat->Option Ty) (Γ:Env) (e:Nat) (o:Oper) (vs:Operand->D) (h:Nat->Option Row):Option bt :=
 match fM T Γ e o vs with
 | some E=>some E
 | none =>
  match k9 Γ e h o.dst (fZ vs o.op) with
  | some E=>some E
  | none=>ZY h (kZ T Γ e o vs (EH h)) (sV T Γ e o vs h)
def bl (o:Oper) (vs:Operand->D):List Nat:=(fG o vs).map rt
def VE (N e:Nat) (done:List Nat) (h:Nat->Option Row) (x v:Nat):Prop:=(x<N∧(v<e∨(v=e∧x∈done))) ∨
 (2*PK<=x∧v<=4*e+3∧(x % PK∉done->v<=4*e+1)∧∀r ty s nv cs,h (x % PK)=some r->r.mp=true->r.cells=[.nr ty s nv cs]->v<=nv)
def E4 (e:Nat) (done:List Nat) (h:Nat->Option Row):Prop:=∀x r ty s nv cs,h x=some r->r.mp=true->r.cells=[.nr ty s nv cs]->x<PK->nv<=4*e+3∧(x∉done->nv<=4*e+1)
def fS (e:Nat) (h h':Nat->Option Row):Prop:=∀x r' ty' s' nv' cs',h' x=some r'->r'.mp=true->r'.cells=[.nr ty' s' nv' cs']->x<PK->∃r ty s nv cs,h x=some r∧r.mp=true∧r.cells=[.nr ty s nv cs]∧(nv'=nv∨bump nv e=some nv')
theorem fS.refl (e:Nat) (h:Nat->Option Row):fS e h h:=fun x r ty s nv cs hx hm hc _=>⟨r,ty,s,nv,cs,hx,hm,hc,.inl rfl⟩
theorem Jd {nv e nv':Nat} (h:bump nv e=some nv'):nv<nv'∧(nv'=4*e+1∨(nv=4*e+2∧nv'=4*e+3)):=by
 unfold bump at h
 split at h
 ·cases h;omega
 ·split at h
  ·cases h;omega
  ·cases h
theorem E4.step {e:Nat} {done done':List Nat} {h h':Nat->Option Row} (hN:E4 e done h) (hr:fS e h h') (hd:∀x,x∈done->x∈done'):E4 e done' h':=by
 intro x r' ty' s' nv' cs' hx hm hc hp
 obtain⟨r,ty,s,nv,cs,k1,k2,k3,k4⟩:=hr x r' ty' s' nv' cs' hx hm hc hp
 obtain⟨q1,q2⟩:=hN x r ty s nv cs k1 k2 k3 hp
 rcases k4 with rfl|k4
 ·exact⟨q1,fun hn=>q2 fun h=>hn (hd x h)⟩
 ·obtain⟨b1,b2⟩:=Jd k4
  refine⟨by omega,fun hn =>?_⟩
  rcases b2 with b2|⟨b2,b3⟩
  ·omega
  ·have:=q2 fun h=>hn (hd x h)
   omega
theorem VE.step {N e:Nat} {done done':List Nat} {h h':Nat->Option Row} (hr:fS e h h') (hd:∀x,x∈done->x∈done') {x v:Nat} (hv:VE N e done h x v):VE N e done' h' x v:=by
 rcases hv with⟨h1,h2⟩|⟨h1,h2,h3,h4⟩
 ·exact .inl ⟨h1,h2.imp id fun⟨q1,q2⟩=>⟨q1,hd x q2⟩⟩
 ·refine .inr ⟨h1,h2,fun hn=>h3 fun h=>hn (hd _ h),fun r' ty' s' nv' cs' k1 k2 k3 =>?_⟩
  obtain⟨r,ty,s,nv,cs,q1,q2,q3,q4⟩:=hr _ r' ty' s' nv' cs' k1 k2 k3 (HF _)
  have:=h4 r ty s nv cs q1 q2 q3
  rcases q4 with rfl|q4
  ·exact this
  ·have:=(Jd q4).1
   omega
theorem E4.adj {N e:Nat} {done:List Nat} {h:Nat->Option Row} (hN:E4 e done h):VNr (VE N e done h) h:=by
 intro x r ty s nv cs hx hm hc hp o
 obtain⟨q1,q2⟩:=hN x r ty s nv cs hx hm hc hp
 refine .inr ⟨dX x o,q1,by rw[qv o hp];exact q2,fun r' ty' s' nv' cs' k1 k2 k3 =>?_⟩
 rw[qv o hp,hx]at k1
 cases k1
 rw[hc]at k3
 cases k3
 exact afv _
theorem E4.new {N e:Nat} {done:List Nat} {h:Nat->Option Row} (hN:E4 e done h) (hb:N<=PK):Z2 (VE N e done h) h e:=by
 intro x r ty s nv cs nv' hx hm hc hp hbm o hv
 have hge:=dX x o
 have:=bZ
 rcases hv with⟨h1,_⟩|⟨_,_,_,h4⟩
 ·omega
 ·have h5:=h4 r ty s nv cs (by rw[qv o hp];exact hx) hm hc
  have h6:=(Jd hbm).1
  omega
theorem Ml (e:Nat):∀(l:List (Nat×Option Row)) (h:Nat->Option Row),fS e h (aH h (je h l))
 | [],h =>.refl e h
 | (k,r)::l,h=>by
  intro x r' ty' s' nv' cs' hx hm hc hp
  obtain⟨r1,ty1,s1,nv1,cs1,k1,k2,k3,k4⟩:=Ml e l (bz h (rt k) (xW h k r)) x r' ty' s' nv' cs' hx hm hc hp
  by_cases hxk:x=rt k
  rotate_left
  ·rw[au _ _ hxk]at k1
   exact⟨r1,ty1,s1,nv1,cs1,k1,k2,k3,k4⟩
  ·rw[hxk,aq]at k1
   unfold xW at k1
   split at k1
   ·exfalso
    obtain⟨_,h2,_⟩:=y5 (o:=0) k1
    unfold DI at k1
    split at k1
    ·split at k1
     ·split at k1
      ·cases k1
      ·rename_i hne
       simp only[afE]at k1
       subst k1
       exact hne _ _ _ _ k3
     ·rename_i hmp
      simp only[afE]at k1
      subst k1
      exact hmp k2
    ·cases k1
   ·rename_i hk2
    have hrt:rt k=k % PK:=by unfold rt;rw[if_neg hk2]
    rw[aft]at k1
    obtain⟨q,q1,q2⟩:=k1
    unfold Ef at q2
    split at q2
    ·rename_i hqm
     split at q2
     ·rename_i ty s nv cs hqc
      subst q2
      simp only at k3
      refine⟨q,ty,s,nv,cs,by rw[hxk,hrt];exact q1,hqm,hqc,?_⟩
      unfold zh at k3
      split at k3<;>(simp only[afT,D.nr.injEq,and_true]at k3;obtain⟨rfl,rfl,rfl,_⟩:=k3;exact k4)
     ·subst q2
      exact⟨q,ty1,s1,nv1,cs1,by rw[hxk,hrt];exact q1,k2,k3,k4⟩
    ·subst q2
     exact⟨q,ty1,s1,nv1,cs1,by rw[hxk,hrt];exact q1,k2,k3,k4⟩
section
variable {P:Program} {T:Nat->Option Ty} {N:Nat} {M:Nat->Prop} {L:ik} {w0:World} {blk:Nat->Option (Nat×Nat)} {t:Nat->D} {h h':Nat->Option Row} {a:Act} {w:World} {e:Nat} {o:Oper} {Γ:Env} {done:List Nat}
theorem fS.set {x:Nat} {r r':Row} {ty s nv nv' ty' s':Nat} {cs cs':List D} (hx:h x=some r) (hm:r.mp=true) (hc:r.cells=[.nr ty s nv cs]) (hc':r'.cells=[.nr ty' s' nv' cs']) (hn:nv'=nv∨bump nv e=some nv'):fS e h (bz h x (some r')):=by
 intro y r1 ty1 s1 nv1 cs1 hy hm1 hc1 hp
 by_cases hyx:y=x
 ·subst hyx
  rw[aq]at hy
  cases hy
  rw[hc']at hc1
  cases hc1
  exact⟨r,ty,s,nv,cs,hx,hm,hc,hn⟩
 ·rw[au _ _ hyx]at hy
  exact⟨r1,ty1,s1,nv1,cs1,hy,hm1,hc1,.inl rfl⟩
theorem fS.drop {y:Nat} (hr:fS e (bz h y none) h'):fS e h h':=by
 intro x r' ty' s' nv' cs' hx hm hc hp
 obtain⟨r,ty,s,nv,cs,k1,k⟩:=hr x r' ty' s' nv' cs' hx hm hc hp
 by_cases hxy:x=y
 ·subst hxy;rw[aq]at k1;cases k1
 ·rw[au _ _ hxy]at k1
  exact⟨r,ty,s,nv,cs,k1,k⟩
theorem GV {τ:Ty} {d:D} {E:bt} (hE:nK τ h d=some E):E.hw=[]:=by
 unfold nK at hE
 split at hE<;>try (cases hE;done)
 split at hE<;>try (cases hE;done)
 unfold Dn at hE
 split at hE
 ·split at hE<;>try (cases hE;done)
  cases hE;rfl
 ·split at hE<;>try (cases hE;done)
  split at hE<;>try (cases hE;done)
  cases hE;rfl
 ·cases hE
theorem PZ {τ:Ty} {d:D} {E:bt} (hE:nJ τ h d=some E):fS e h (aH h E.hw):=by
 unfold nJ at hE
 split at hE<;>try (cases hE;done)
 split at hE<;>try (cases hE;done)
 rename_i r ty s nv cs hl
 obtain⟨hx,hv,hz,hm,hp1,hc⟩:=gg hl
 split at hE<;>try (cases hE;done)
 unfold Qv at hE
 split at hE<;>try (cases hE;done)
 cases hE
 exact fS.set hx hm hc rfl (.inl rfl)
theorem P4 {τ:Ty} {p d:D} {E:bt} (hE:nO τ e h p d=some E):fS e h (aH h E.hw):=by
 unfold nO at hE
 split at hE<;>try (cases hE;done)
 split at hE<;>try (cases hE;done)
 rename_i r ty s nv cs hl
 obtain⟨hx,hv,hz,hm,hp1,hc⟩:=gg hl
 split at hE<;>try (cases hE;done)
 unfold Rf at hE
 split at hE<;>try (cases hE;done)
 split at hE<;>try (cases hE;done)
 unfold stZ at hE
 split at hE<;>try (cases hE;done)
 rename_i nv' cs' hb _
 cases hE
 exact fS.set hx hm hc rfl (.inr hb)
theorem P3 {τ:Ty} {p d:D} {E:bt} (hE:lp τ e h p d=some E):fS e h (aH h E.hw):=by
 unfold lp at hE
 split at hE<;>try (cases hE;done)
 rename_i y0 v0 c0
 split at hE<;>try (cases hE;done)
 rename_i r ty s nv cs hl
 obtain⟨hx,hv,hz,hm,hp1,hc⟩:=gg hl
 split at hE<;>try (cases hE;done)
 have plain:∀ {c':Option (List D)},zl τ y0 r ty s nv cs c0 c'=some E->fS e h (aH h E.hw):=by
  intro c' hE
  unfold zl at hE
  split at hE<;>try (cases hE;done)
  split at hE<;>try (cases hE;done)
  cases hE
  exact fS.set hx hm hc rfl (.inl rfl)
 unfold vr at hE
 split at hE
 ·rename_i yq vq sq oq nq
  split at hE<;>try (cases hE;done)
  split at hE
  ·split at hE<;>try (cases hE;done)
   unfold zj at hE
   split at hE<;>try (cases hE;done)
   split at hE<;>try (cases hE;done)
   cases hE
   exact fS.set hx hm hc rfl (.inl rfl)
  ·split at hE<;>try (cases hE;done)
   split at hE<;>try (cases hE;done)
   rename_i q hlq
   split at hE<;>try (cases hE;done)
   unfold zk at hE
   split at hE<;>try (cases hE;done)
   rename_i nv' hb
   cases hE
   obtain⟨hq1,hq2⟩:=bU hlq
   refine fS.drop (y:=yq) ?_
   exact fS.set (by
    rw[au]
    ·exact hx
    ·rintro rfl
     rw[hx]at hq1
     cases hq1
     have:=fW hlq
     rw[hm]at this
     cases this) hm hc rfl (.inr hb)
 ·exact plain hE
structure qt (N:Nat) (M:Nat->Prop) (L:ik) (w0:World) (blk:Nat->Option (Nat×Nat)) (e:Nat) (done:List Nat) (t:Nat->D) (h:Nat->Option Row) (a:Act) (w:World):Prop where
 inv:Inv N M L w0 blk (VE N e done h) t (EH h) a w
 nv:E4 e done h
def BD (N:Nat) (M:Nat->Prop) (L:ik) (w0:World) (t:Nat->D) (h:Nat->Option Row) (a:Act) (e:Nat) (done:List Nat) (E:bt) (v:Value) (w':World):Prop :=
 ∃blk',qt N M L w0 blk' e done t (aH h E.hw) a w'∧RT w' (Own M (EH (aH h E.hw)) blk') (EH (aH h E.hw)) blk' (VE N e done (aH h E.hw)) E.val v
theorem PY (hT:gm P T) (hΓ:bA P Γ) (hI:qt N M L w0 blk e done t h a w) (hd:∀d:Nat,o.dst=some d->d∉done∧d<N) {E:bt} (hE:mM T Γ e o (ev t) h=some E):dz P o a w (BD N M L w0 t h a e (o.dst.toList++done) E):=by
 have hbig:=hI.inv.big
 have hpk:=bZ
 have hV:∀d:Nat,o.dst=some d->gR N (VE N e done h) d e:=by
  intro d hd'
  obtain⟨q1,q2⟩:=hd d hd'
  replace q2:(d:Nat)<N:=q2
  refine⟨fun hv =>?_,q2⟩
  rcases hv with⟨_,hv|⟨_,hv⟩⟩|⟨hv,_⟩
  ·omega
  ·exact q1 hv
  ·omega
 have hP:∀x v,VE N e done h x v->x<N∨2*PK<=x:=fun x v hv=>hv.imp (fun h=>h.1) (fun h=>h.1)
 have hsub:∀x,x∈done->x∈o.dst.toList++done:=fun x hx=>afK _ hx
 have fin:fS e h (aH h E.hw)->∀ {v:Value} {w':World},ij N M L w0 (VE N e done h) t h a e o.dst E v w'->BD N M L w0 t h a e (o.dst.toList++done) E v w':=by
  intro hrel v w' hA
  obtain⟨blk',h1,h2⟩:=hA
  have hVV:∀x n,VE N e done h x n∨(o.dst=some x∧n=e)->VE N e (o.dst.toList++done) (aH h E.hw) x n:=by
   rintro x n (hv|⟨hx,rfl⟩)
   ·exact hv.step hrel hsub
   ·exact .inl ⟨(hd x hx).2,.inr ⟨rfl,afJ _ (by rw[hx];simp)⟩⟩
  refine⟨blk',⟨h1.weaken hVV,hI.nv.step hrel hsub⟩,h2.mono ⟨fun _ h1 h2=>⟨h1,h2,rfl⟩,hVV,fun _ _ _ r' h1 h2=>⟨⟨r',h1,h2⟩,rfl,fun _ _=>rfl⟩⟩⟩
 have fin2:∀ {E0:bt} {d:Nat} {r0:Row} {ty' s:Nat} {cs0:List D},o.dst=some d->E0.hw=[(d,some r0)]->r0.mp=true->r0.cells=[.nr ty' s (4*e+2) cs0]->∀ {v:Value} {w':World},ij N M L w0 (VE N e done h) t h a e o.dst E0 v w'->BD N M L w0 t h a e (o.dst.toList++done) E0 v w':=by
  intro E0 d r0 ty' s cs0 hdst hr0 hrm hrc v w' hA
  obtain⟨blk',h1,h2⟩:=hA
  obtain⟨hdn,hdN⟩:=hd d hdst
  have hap:aH h E0.hw=bz h d (some r0):=by rw[hr0];rfl
  have hVV:∀x n,VE N e done h x n∨(o.dst=some x∧n=e)->VE N e (o.dst.toList++done) (aH h E0.hw) x n:=by
   rintro x n (hv|⟨hx,rfl⟩)
   ·rcases hv with⟨q1,q2⟩|⟨q1,q2,q3,q4⟩
    ·exact .inl ⟨q1,q2.imp id fun⟨p1,p2⟩=>⟨p1,hsub _ p2⟩⟩
    ·refine .inr ⟨q1,q2,fun hn=>q3 fun h=>hn (hsub _ h),fun r' ty1 s1 nv1 cs1 k1 k2 k3 =>?_⟩
     rw[hap]at k1
     by_cases hxd:x % PK=d
     ·rw[hxd,aq]at k1
      cases k1
      rw[hrc]at k3
      cases k3
      have:=q3 (by rw[hxd];exact hdn)
      omega
     ·rw[au _ _ hxd]at k1
      exact q4 r' ty1 s1 nv1 cs1 k1 k2 k3
   ·exact .inl ⟨(hd x hx).2,.inr ⟨rfl,afJ _ (by rw[hx];simp)⟩⟩
  refine⟨blk',⟨h1.weaken hVV,?_⟩,h2.mono ⟨fun _ h1 h2=>⟨h1,h2,rfl⟩,hVV,fun _ _ _ r' h1 h2=>⟨⟨r',h1,h2⟩,rfl,fun _ _=>rfl⟩⟩⟩
  intro x r' ty1 s1 nv1 cs1 k1 k2 k3 hp
  rw[hap]at k1
  by_cases hxd:x=d
  ·subst hxd
   rw[aq]at k1
   cases k1
   rw[hrc]at k3
   cases k3
   exact⟨by omega,fun hn=>absurd (afJ _ (by rw[hdst];simp)) hn⟩
  ·rw[au _ _ hxd]at k1
   obtain⟨p1,p2⟩:=hI.nv x r' ty1 s1 nv1 cs1 k1 k2 k3 hp
   exact⟨p1,fun hn=>p2 fun h=>hn (hsub _ h)⟩
 have hnk:∀d:Nat,o.dst=some d->∀o',¬VE N e done h (NK d o') (4*e+2):=by
  intro d hdst o' hv
  obtain⟨hdn,hdN⟩:=hd d hdst
  have hdp:(d:Nat)<PK:=afy hdN hbig
  rcases hv with⟨hv,_⟩|⟨_,_,hv,_⟩
  ·have:=dX d o';omega
  ·have:=hv (by rw[qv o' hdp];exact hdn)
   omega
 unfold mM at hE
 split at hE
 ·rename_i E0 hmk
  simp only[afE]at hE
  subst hE
  unfold fM at hmk
  split at hmk<;>try (cases hmk;done)
  rotate_left
  ·rename_i ty ho
   split at hmk<;>try (cases hmk;done)
   rename_i d hdst
   split at hmk<;>try (cases hmk;done)
   rename_i ty' s f hn
   split at hmk<;>try (cases hmk;done)
   rename_i τ hτ
   obtain⟨hdn,hdN⟩:=hd d hdst
   have hA:=Xa hT hI.inv ho hdst (hV d hdst) (hnk d hdst) hτ hmk
   obtain⟨r0,hr0,hrm,hrc⟩:∃r0:Row,E0.hw=[(d,some r0)]∧r0.mp=true∧∃cs,r0.cells=[.nr ty' s (4*e+2) cs]:=by
    unfold mkA at hmk
    split at hmk<;>try (cases hmk;done)
    cases hmk
    exact⟨_,rfl,rfl,_,rfl⟩
   obtain⟨cs0,hrc⟩:=hrc
   exact hA.mono fun v w' hA=>fin2 hdst hr0 hrm hrc hA
  rename_i ty l c ho
  split at hmk<;>try (cases hmk;done)
  rename_i d hdst
  split at hmk<;>try (cases hmk;done)
  rename_i ty' s f hn
  split at hmk<;>try (cases hmk;done)
  rename_i τ hτ
  obtain⟨hdn,hdN⟩:=hd d hdst
  have hA:=Xb hT hI.inv ho hdst (hV d hdst) (fun o' hv=>by
   have hdp:(d:Nat)<PK:=afy hdN hbig
   rcases hv with⟨hv,_⟩|⟨_,_,hv,_⟩
   ·have:=dX d o';omega
   ·have:=hv (by rw[qv o' hdp];exact hdn)
    omega) hτ hmk
  obtain⟨r0,hr0,hrm,hrc⟩:∃r0:Row,E0.hw=[(d,some r0)]∧r0.mp=true∧∃cs,r0.cells=[.nr ty' s (4*e+2) cs]:=by
   unfold p9 at hmk
   split at hmk<;>try (cases hmk;done)
   split at hmk<;>try (cases hmk;done)
   split at hmk<;>try (cases hmk;done)
   cases hmk
   exact⟨_,rfl,rfl,_,rfl⟩
  obtain⟨cs0,hrc⟩:=hrc
  exact hA.mono fun v w' hA=>fin2 hdst hr0 hrm hrc hA
 split at hE
 ·rename_i E0 hcf
  simp only[afE]at hE
  subst hE
  unfold k9 at hcf
  split at hcf<;>try (cases hcf;done)
  rename_i d g args hdst hco
  obtain⟨c,f,hop,hcc,hq,hargs⟩:=lV hco
  unfold CL at hcf
  split at hcf<;>try (cases hcf;done)
  rename_i p hp
  obtain⟨_,ty',ti,s',S',n',cs',_,_,_,hE0⟩:=wk hcf
  subst hargs
  have hA:=Ct hI.inv hop hcc hq.symm (fun vs q1 q2=>WJ hΓ hI.inv hdst (hV d hdst) (hnk d hdst) hp hcf q1 q2)
  refine hA.mono fun v w' hA =>?_
  exact fin2 (r0:=⟨e,ty',[.nr ti s' (4*e+2) cs'],false,true,true⟩) hdst (by rw[hE0]) rfl rfl hA
 ·unfold ZY at hE
  split at hE
  ·rename_i v0 hw he
   simp only[afE]at hE
   subst hE
   have hA:=UM hT hΓ hI.inv hV hP he
   exact hA.mono fun v w' hA=>fin (Ml e hw h) (hA.le (Mj hw h))
  ·unfold sV at hE
   split at hE
   ·rename_i ty p ho
    split at hE<;>try (cases hE;done)
    rename_i τ hτ
    unfold sU ZZ at hE
    split at hE
    ·rename_i E0 hF
     simp only[afE]at hE
     subst hE
     exact (W7 hT hI.inv ho hτ hF).mono fun v w' hA=>fin (PZ hF) hA
    ·exact (W8 hT hI.inv hI.nv.adj ho hτ hE).mono fun v w' hA=>fin (by rw[GV hE];exact .refl e h) hA
   ·rename_i ty p x ho
    split at hE<;>try (cases hE;done)
    rename_i τ hτ
    unfold sW ZZ at hE
    split at hE
    ·rename_i E0 hF
     simp only[afE]at hE
     subst hE
     exact (Xe hT hI.inv (hI.nv.new hbig) ho hτ hF).mono fun v w' hA=>fin (P4 hF) hA
    ·exact (Xd hT hI.inv (hI.nv.new hbig) ho hτ hE).mono fun v w' hA=>fin (P3 hE) hA
   ·rename_i c ho
    unfold z8 at hE
    split at hE<;>try (cases hE;done)
    rename_i g args hco
    obtain⟨c',f,hop,hcc,hq,hargs⟩:=lV hco
    cases hop
    subst hargs
    refine (Ct hI.inv ho hcc hq.symm (fun vs q1 q2=>WL hΓ hI.inv (hI.nv.new hbig) (dst:=o.dst) hE q1 q2)).mono fun v w' hA=>fin ?_ hA
    obtain⟨x,v,o',rest,r,ty,s,nv,cs,p,afq,nv',d,cs',_,hl,_,_,hb,_,_,rfl⟩:=qI hE
    obtain⟨hx,_,_,hm,_,hc⟩:=gg hl
    exact fS.set hx hm hc rfl (.inr hb)
   ·cases hE
end
section
variable {T:Nat->Option Ty} {h h':Nat->Option Row} {e:Nat} {o:Oper} {Γ:Env}
theorem me {x v:Nat} (hx:h x=h' x):eU h x v=eU h' x v:=by simp[eU,hx]
theorem kK {x v:Nat} {q:Row×Nat×Nat×Nat×List D} (hl:eU h x v=some q):x<PK:=by
 obtain⟨r,ty,s,nv,cs⟩:=q
 exact (gg hl).2.2.2.2.1
theorem Af:∀(l:List (Nat×Option Row)) {h h':Nat->Option Row},(∀p∈l,h (rt p.1)=h' (rt p.1))->je h l=je h' l
 | [],_,_,_=>rfl
 | (k,r)::l,h,h',hl=>by
  have hk:h (rt k)=h' (rt k):=hl (k,r) (by simp)
  have hp:xW h k r=xW h' k r:=by
   unfold xW
   split
   ·rfl
   ·rename_i hk2
    have:rt k=k % PK:=by unfold rt;rw[if_neg hk2]
    rw[<- this,hk]
  unfold je
  rw[hp]
  congr 1
  refine Af l fun p hp' =>?_
  by_cases he:rt p.1=rt k
  ·rw[he,aq,aq]
  ·rw[au _ _ he,au _ _ he]
   exact hl p (ag3 _ hp')
theorem Ag:∀(l:List (Nat×Option Row)) {h:Nat->Option Row},∀p∈je h l,∃q∈l,p.1=rt q.1
 | [],_,p,hp=>by simp[je]at hp
 | (k,r)::l,h,p,hp=>by
  unfold je at hp
  rcases afC.1 hp with rfl|hp
  ·exact⟨(k,r),by simp,rfl⟩
  ·obtain⟨q,h1,h2⟩:=Ag l p hp
   exact⟨q,ag3 _ h1,h2⟩
theorem VN {τ:Ty} {p d:D} {E:bt} (hE:lp τ e h p d=some E):∀q∈E.hw,q.1<PK∧(q.1∈nm p∨q.1∈nm d):=by
 unfold lp at hE
 split at hE<;>try (cases hE;done)
 rename_i y0 v0 c0
 split at hE<;>try (cases hE;done)
 rename_i r ty s nv cs hl
 have hlt:=kK hl
 split at hE<;>try (cases hE;done)
 have one:∀ {r':Option Row} (q:Nat×Option Row),q∈[(y0,r')]->q.1<PK∧(q.1∈nm (.ptr y0 v0 c0)∨q.1∈nm d):=by
  intro r' q hq
  simp only[afS]at hq
  subst hq
  exact⟨hlt,.inl (by simp[nm,fO])⟩
 have plain:∀ {c':Option (List D)},zl τ y0 r ty s nv cs c0 c'=some E->∀q∈E.hw,q.1<PK∧(q.1∈nm (.ptr y0 v0 c0)∨q.1∈nm d):=by
  intro c' hE
  unfold zl at hE
  split at hE<;>try (cases hE;done)
  split at hE<;>try (cases hE;done)
  cases hE
  exact one
 unfold vr at hE
 split at hE
 ·rename_i yq vq sq oq nq
  split at hE<;>try (cases hE;done)
  split at hE
  ·split at hE<;>try (cases hE;done)
   unfold zj at hE
   split at hE<;>try (cases hE;done)
   split at hE<;>try (cases hE;done)
   cases hE
   exact one
  ·split at hE<;>try (cases hE;done)
   rename_i hyp
   split at hE<;>try (cases hE;done)
   split at hE<;>try (cases hE;done)
   unfold zk at hE
   split at hE<;>try (cases hE;done)
   cases hE
   intro q hq
   rcases afC.1 hq with rfl|hq
   ·exact⟨hyp,.inr (by simp[nm,fO])⟩
   ·exact one q hq
 ·exact plain hE
theorem U6 {τ:Ty} {p:D} {E:bt} (hE:nJ τ h p=some E):∀q∈E.hw,q.1<PK∧q.1∈nm p:=by
 unfold nJ at hE
 split at hE<;>try (cases hE;done)
 rename_i y0 v0 c0
 split at hE<;>try (cases hE;done)
 rename_i r ty s nv cs hl
 have hlt:=kK hl
 split at hE<;>try (cases hE;done)
 unfold Qv at hE
 split at hE<;>try (cases hE;done)
 cases hE
 intro q hq
 simp only[afS]at hq
 subst hq
 exact⟨hlt,by simp[nm,fO]⟩
theorem VQ {τ:Ty} {p d:D} {E:bt} (hE:nO τ e h p d=some E):∀q∈E.hw,q.1<PK∧(q.1∈nm p∨q.1∈nm d):=by
 unfold nO at hE
 split at hE<;>try (cases hE;done)
 rename_i y0 v0 c0
 split at hE<;>try (cases hE;done)
 rename_i r ty s nv cs hl
 have hlt:=kK hl
 split at hE<;>try (cases hE;done)
 unfold Rf at hE
 split at hE<;>try (cases hE;done)
 split at hE<;>try (cases hE;done)
 unfold stZ at hE
 split at hE<;>try (cases hE;done)
 cases hE
 intro q hq
 simp only[afS]at hq
 subst hq
 exact⟨hlt,.inl (by simp[nm,fO])⟩
theorem U5 {τ:Ty} {d:D} (hx:∀x∈nm d,x<2*PK->h x=h' x):nJ τ h d=nJ τ h' d:=by
 unfold nJ
 split
 ·rename_i x v o
  by_cases hp:x<2*PK
  ·rw[me (hx x (by simp[nm,fO]) hp)]
  ·have hn:∀h:Nat->Option Row,eU h x v=none:=by
    intro h
    cases hl:eU h x v with
    | none=>rfl
    | some q=>have:=kK hl;omega
   rw[hn,hn]
 ·rfl
theorem VP {τ:Ty} {p d:D} (hp:∀x∈nm p,x<2*PK->h x=h' x):nO τ e h p d=nO τ e h' p d:=by
 unfold nO
 split
 ·rename_i x v o
  by_cases hxp:x<2*PK
  ·rw[me (hp x (by simp[nm,fO]) hxp)]
  ·have hn:∀h:Nat->Option Row,eU h x v=none:=by
    intro h
    cases hl:eU h x v with
    | none=>rfl
    | some q=>have:=kK hl;omega
   rw[hn,hn]
 ·rfl
theorem U8 {τ:Ty} {d:D} (hx:∀x∈nm d,x<2*PK->h x=h' x):nK τ h d=nK τ h' d:=by
 unfold nK
 split
 ·rename_i x v o
  by_cases hp:x<2*PK
  ·rw[me (hx x (by simp[nm,fO]) hp)]
  ·have hn:∀h:Nat->Option Row,eU h x v=none:=by
    intro h
    cases hl:eU h x v with
    | none=>rfl
    | some q=>have:=kK hl;omega
   rw[hn,hn]
 ·rfl
theorem VM {τ:Ty} {p d:D} (hp:∀x∈nm p,x<2*PK->h x=h' x) (hd:∀x∈nm d,x<2*PK->h x=h' x):lp τ e h p d=lp τ e h' p d:=by
 unfold lp
 split
 ·rename_i x v o
  by_cases hxp:x<2*PK
  rotate_left
  ·have hn:∀h:Nat->Option Row,eU h x v=none:=by
    intro h
    cases hl:eU h x v with
    | none=>rfl
    | some q=>have:=kK hl;omega
   rw[hn,hn]
  rw[me (hp x (by simp[nm,fO]) hxp)]
  split
  ·split
   ·unfold vr
    split
    ·rename_i y vy s' oy n
     by_cases hyp:y<2*PK
     ·rw[cq (hd y (by simp[nm,fO]) hyp)]
     ·split
      ·split
       ·rfl
       ·rw[if_neg (by have:=bZ;omega),if_neg (by have:=bZ;omega)]
      ·rfl
    ·rfl
   ·rfl
  ·rfl
 ·rfl
theorem eC {vs:Operand->D} {x:Nat} (hx:x∈fG o vs):rt x∈bl o vs:=afu.2 ⟨x,hx,rfl⟩
theorem mo {vs:Operand->D} {y:Operand} (hy:y∈o.op.operands.toList) (h1:∀a b c,o.op ≠ .pick a b c) (h2:∀a,o.op ≠ .move a) (h3:∀a b c,o.op ≠ .makeFunc a b c) {x:Nat} (hx:x∈nm (vs y)):x∈fG o vs:=by
 unfold fG
 split
 ·rename_i ho;exact absurd ho (h2 _)
 ·rename_i ho;exact absurd ho (h1 _ _ _)
 ·rename_i ho;exact absurd ho (h3 _ _ _)
 ·exact afJ _ (ag0.2 ⟨y,hy,hx⟩)
theorem Gl {vs:Operand->D} {q:D} {args:List D} (hc:fZ vs o.op=some (q,args)) (hx:∀x∈bl o vs,h x=h' x):∀d∈args,∀x∈nm d,h (rt x)=h' (rt x):=by
 obtain⟨c,f,ho,hcc,_,hargs⟩:=lV hc
 subst hargs
 intro d hd x hxd
 obtain⟨y,hy,rfl⟩:=afu.1 hd
 exact hx _ (eC (mo (y:=y) (by simp[ho,Op.operands,Call.operands,hcc];exact .inr (by simpa using hy)) (by simp[ho]) (by simp[ho]) (by simp[ho]) hxd))
theorem K6 {g:Nat} {args:List D} (hx:∀d∈args,∀x∈nm d,h (rt x)=h' (rt x)):pF Γ e h g args=pF Γ e h' g args:=by
 unfold pF
 split
 ·rename_i x v c rest
  have hca:bm (EH h) rest=bm (EH h') rest:=gT fun d hd x hxd=>dA (hx d (ag3 _ hd) x hxd)
  by_cases hp:x<2*PK
  ·have:=hx _ ag2 x (by simp[nm,fO])
   rw[fX hp]at this
   rw[me this,hca]
  ·have hn:∀h:Nat->Option Row,eU h x v=none:=by
    intro h
    cases hl:eU h x v with
    | none=>rfl
    | some q=>have:=kK hl;omega
   rw[hn,hn]
 ·rfl
theorem L3 {vs:Operand->D} (hx:∀x∈bl o vs,h x=h' x):k9 Γ e h o.dst (fZ vs o.op)=k9 Γ e h' o.dst (fZ vs o.op):=by
 unfold k9
 split
 ·rename_i d g args hd hc
  unfold CL
  split
  ·rw[gT fun d hd x hxd=>dA (Gl hc hx d hd x hxd)]
  ·rfl
 ·rfl
theorem P0 {vs:Operand->D} (hx:∀x∈bl o vs,h x=h' x):sV T Γ e o vs h=sV T Γ e o vs h':=by
 unfold sV
 split
 ·rename_i ty p ho
  split
  ·have hn:∀x∈nm (vs p),x<2*PK->h x=h' x:=fun x hxm hl=>by
    have:=hx _ (eC (mo (y:=p) (by simp[ho,Op.operands]) (by simp[ho]) (by simp[ho]) (by simp[ho]) hxm))
    rwa [fX hl]at this
   unfold sU
   rw[U8 hn,U5 hn]
  ·rfl
 ·rename_i ty p x ho
  split
  ·have hn:∀x∈nm (vs p),x<2*PK->h x=h' x:=fun y hxm hl=>by
    have:=hx _ (eC (mo (y:=p) (by simp[ho,Op.operands]) (by simp[ho]) (by simp[ho]) (by simp[ho]) hxm))
    rwa [fX hl]at this
   unfold sW
   rw[VM hn (fun y hxm hl=>by
    have:=hx _ (eC (mo (y:=x) (by simp[ho,Op.operands]) (by simp[ho]) (by simp[ho]) (by simp[ho]) hxm))
    rwa [fX hl]at this),VP hn]
  ·rfl
 ·rename_i c ho
  unfold z8
  split
  ·rename_i g args hc
   exact K6 (Gl (by rw[ho];exact hc) hx)
  ·rfl
 ·rfl
theorem PW {vs:Operand->D} (hx:∀x∈bl o vs,h x=h' x):mM T Γ e o vs h=mM T Γ e o vs h':=by
 have h1:kZ T Γ e o vs (EH h)=kZ T Γ e o vs (EH h'):=UL fun x hxm=>dA (hx _ (eC hxm))
 unfold mM
 rw[h1,P0 hx,L3 hx]
 split
 ·rfl
 split
 ·rfl
 ·cases hE:kZ T Γ e o vs (EH h') with
  | none=>rfl
  | some E =>
   simp only[ZY]
   rw[Af E.hw fun p hp=>hx _ (eC (GW hE p hp))]
theorem PX {vs:Operand->D} {E:bt} (hE:mM T Γ e o vs h=some E):∀p∈E.hw,p.1∈bl o vs:=by
 unfold mM at hE
 split at hE
 ·rename_i E0 hmk
  simp only[afE]at hE
  subst hE
  unfold fM at hmk
  split at hmk<;>try (cases hmk;done)
  rotate_left
  ·rename_i ty ho
   split at hmk<;>try (cases hmk;done)
   rename_i d hdst
   split at hmk<;>try (cases hmk;done)
   split at hmk<;>try (cases hmk;done)
   unfold mkA at hmk
   split at hmk<;>try (cases hmk;done)
   rename_i hcond
   cases hmk
   intro p hp
   simp only[afS]at hp
   subst hp
   have hd:d∈fG o vs:=by
    unfold fG
    rw[ho]
    exact afK _ (by rw[hdst];simp)
   have:=eC hd
   rwa [fX (by have:=hcond.2.2.2.1;omega)]at this
  rename_i ty l c ho
  split at hmk<;>try (cases hmk;done)
  rename_i d hdst
  split at hmk<;>try (cases hmk;done)
  split at hmk<;>try (cases hmk;done)
  unfold p9 at hmk
  split at hmk<;>try (cases hmk;done)
  split at hmk<;>try (cases hmk;done)
  split at hmk<;>try (cases hmk;done)
  rename_i hcond
  cases hmk
  intro p hp
  simp only[afS]at hp
  subst hp
  have hd:d∈fG o vs:=by
   unfold fG
   rw[ho]
   exact afK _ (by rw[hdst];simp)
  have:=eC hd
  rwa [fX (by have:=hcond.2.2.2.2.2.2.1;omega)]at this
 split at hE
 ·rename_i E0 hcf
  simp only[afE]at hE
  subst hE
  unfold k9 at hcf
  split at hcf<;>try (cases hcf;done)
  rename_i d g args hdst hco
  obtain⟨c,f,hop,hcc,hq,hargs⟩:=lV hco
  unfold CL at hcf
  split at hcf<;>try (cases hcf;done)
  obtain⟨_,_,_,_,_,_,_,_,_,hdp,rfl⟩:=wk hcf
  intro p hp
  simp only[afS]at hp
  subst hp
  have hd:d∈fG o vs:=by
   unfold fG
   rw[hop]
   exact afK _ (by rw[hdst];simp)
  have:=eC hd
  rwa [fX (by omega)]at this
 ·unfold ZY at hE
  split at hE
  ·rename_i v0 hw he
   simp only[afE]at hE
   subst hE
   intro p hp
   obtain⟨q,h1,h2⟩:=Ag hw p hp
   rw[h2]
   exact eC (GW he q h1)
  ·unfold sV at hE
   split at hE
   ·rename_i ty p ho
    split at hE<;>try (cases hE;done)
    unfold sU ZZ at hE
    split at hE
    ·rename_i E0 hF
     simp only[afE]at hE
     subst hE
     intro q hq
     obtain⟨q1,q2⟩:=U6 hF q hq
     have:q.1∈fG o vs:=mo (y:=p) (by simp[ho,Op.operands]) (by simp[ho]) (by simp[ho]) (by simp[ho]) q2
     have:=eC this
     rwa [fX (by omega)]at this
    rw[GV hE]
    intro p hp
    simp at hp
   ·rename_i ty p x ho
    split at hE<;>try (cases hE;done)
    intro q hq
    have hnm:q.1<PK∧(q.1∈nm (vs p)∨q.1∈nm (vs x)):=by
     unfold sW ZZ at hE
     split at hE
     ·rename_i E0 hF
      simp only[afE]at hE
      subst hE
      exact VQ hF q hq
     ·exact VN hE q hq
    obtain⟨q1,q2⟩:=hnm
    have:q.1∈fG o vs:=by
     rcases q2 with q2|q2
     ·exact mo (y:=p) (by simp[ho,Op.operands]) (by simp[ho]) (by simp[ho]) (by simp[ho]) q2
     ·exact mo (y:=x) (by simp[ho,Op.operands]) (by simp[ho]) (by simp[ho]) (by simp[ho]) q2
    have:=eC this
    rwa [fX (by omega)]at this
   ·rename_i c ho
    unfold z8 at hE
    split at hE<;>try (cases hE;done)
    rename_i g args hco
    obtain⟨c',f,hop,hcc,hq,hargs⟩:=lV hco
    cases hop
    obtain⟨x,v,o',rest,r,ty,s,nv,cs,p,afq,nv',d,cs',hag,hl,_,_,_,_,_,rfl⟩:=qI hE
    have hlt:=kK hl
    intro q hq
    simp only[afS]at hq
    subst hq
    obtain⟨y,hy,hyx⟩:∃y∈c.args.toList,vs y=.ptr x v o':=by
     have:(.ptr x v o':D)∈c.args.toList.map vs:=by rw[<- hargs,hag];exact ag2
     obtain⟨y,h1,h2⟩:=afu.1 this
     exact⟨y,h1,h2⟩
    have:x∈fG o vs:=mo (y:=y) (by simp[ho,Op.operands,Call.operands,hcc];exact .inr (by simpa using hy)) (by simp[ho]) (by simp[ho]) (by simp[ho]) (by rw[hyx];simp[nm,fO])
    have:=eC this
    rwa [fX (by omega)]at this
   ·cases hE
theorem aai {vs vs':Operand->D} (hx:∀y∈o.op.operands.toList,vs y=vs' y):mM T Γ e o vs h=mM T Γ e o vs' h∧bl o vs=bl o vs':=by
 obtain⟨h1,h2⟩:=abY (T:=T) (Γ:=Γ) (e:=e) (h:=EH h) hx
 have h3:fM T Γ e o vs=fM T Γ e o vs':=by
  unfold fM
  split
  ·rename_i ty l c ho
   rw[hx l (by simp[ho,Op.operands]),hx c (by simp[ho,Op.operands])]
  ·rfl
  ·rfl
 have hco:∀c,o.op=.call c->fZ vs (.call c)=fZ vs' (.call c):=by
  intro c ho
  unfold fZ
  simp only
  split
  ·rename_i f hf
   rw[hx f (by simp[ho,Op.operands,Call.operands,hf]),ag1 fun y hy=>hx y (by simp[ho,Op.operands,Call.operands,hf];exact .inr (by simpa using hy))]
  ·rfl
 have h4:sV T Γ e o vs h=sV T Γ e o vs' h:=by
  unfold sV
  split
  ·rename_i ty p ho
   rw[hx p (by simp[ho,Op.operands])]
  ·rename_i ty p x ho
   rw[hx p (by simp[ho,Op.operands]),hx x (by simp[ho,Op.operands])]
  ·rename_i c ho
   rw[hco c ho]
  ·rfl
 have h5:fZ vs o.op=fZ vs' o.op:=by
  by_cases hc:∃c,o.op=.call c
  ·obtain⟨c,hc⟩:=hc
   rw[hc]
   exact hco c hc
  ·unfold fZ
   split
   ·rename_i c ho;exact absurd ⟨c,ho⟩ hc
   ·rfl
 unfold mM bl
 rw[h1,h2,h3,h4,h5]
 exact⟨rfl,rfl⟩
end
structure jg where
 tc:List Nat
 q:Bool
def s6 (ops:Array Oper) (t:Nat->D) (o:Oper):Option Bool :=
 match o.guard with
 | none=>some true
 | some (j,want) =>
  match (ops[j]?).bind (·.dst) with
  | some g=>match t g with | .bool b=>some (b==want) | .skp=>some false|_=>none
  | none=>none
def dU (t:Nat->D) (dst:Option Nat) (d:D):Nat->D :=
 match dst with
 | none=>t
 | some i=>bz t i d
def fits (N:Nat) (dst:Option Nat):Bool :=
 match dst with
 | none=>true
 | some i=>decide (i<N)
def step1 (T:Nat->Option Ty) (Γ:Env) (N e:Nat) (ops:Array Oper) (o:Oper) (t:Nat->D) (h:Nat->Option Row):Option ((Nat->D)×(Nat->Option Row)×jg) :=
 if fits N o.dst then
  match s6 ops t o with
  | some true =>
   match mM T Γ e o (ev t) h with
   | some E=>some (dU t o.dst E.val,aH h E.hw,⟨bl o (ev t),E.hw.isEmpty⟩)
   | none=>none
  | some false=>some (dU t o.dst .skp,h,⟨[],true⟩)
  | none=>none
 else none
section
variable {P:Program} {T:Nat->Option Ty} {N:Nat} {M:Nat->Prop} {L:ik} {w0:World} {blk:Nat->Option (Nat×Nat)} {t:Nat->D} {h:Nat->Option Row} {a:Act} {w:World} {e:Nat} {o:Oper} {Γ:Env} {ops:Array Oper}
theorem xC {V:Nat->Nat->Prop} (hI:Inv N M L w0 blk V t h a w) {b:Bool} (hg:s6 ops t o=some b):Region.wanted o (yielded ops a.tmps)=b:=by
 unfold s6 at hg
 split at hg
 ·rename_i ho
  simp only[afE]at hg
  subst hg
  simp[Region.wanted,ho]
 ·rename_i j want ho
  split at hg
  ·rename_i g hgd
   split at hg
   ·rename_i b' hb
    simp only[afE]at hg
    subst hg
    have hs:=hI.slots g
    rw[hb]at hs
    have hv:=tV hs
    have hget:a.tmps[g]? = some (.bool b'):=by
     simp only[afA]at hv
     cases hx:a.tmps[g]? with
     | none=>rw[hx]at hv;cases hv
     | some v=>rw[hx]at hv;simp only[Option.getD_some]at hv;rw[hv]
    have hy:yielded ops a.tmps j=some b':=by
     unfold yielded
     rw[hgd]
     simp[hget]
    simp only[Region.wanted,ho,hy]
    cases b'<;>cases want<;>rfl
   ·rename_i hb
    simp only[afE]at hg
    subst hg
    have hs:=hI.slots g
    rw[hb]at hs
    have hv:a.tmps.getD g undef=undef:=hs
    have hy:yielded ops a.tmps j=none:=by
     unfold yielded
     rw[hgd]
     simp only[afA]at hv
     cases hx:a.tmps[g]? with
     | none=>simp only[Option.bind_some,hx]
     | some v=>rw[hx]at hv;simp only[Option.getD_some]at hv;subst hv;simp only[Option.bind_some,hx];rfl
    simp only[Region.wanted,ho,hy]
    cases want<;>rfl
   ·cases hg
  ·cases hg
theorem Inv.acn {V:Nat->Nat->Prop} (hI:Inv N M L w0 blk V t h a w) (hf:fits N o.dst=true) {d:D} {v:Value} (hx:RT w (Own M h blk) h blk V d v):Inv N M L w0 blk V (dU t o.dst d) h (a.put o.dst v) w:=by
 cases hd:o.dst with
 | none=>simpa [dU,Act.put] using hI
 | some i =>
  rw[hd]at hf
  exact hI.put (by simpa [fits] using hf) hx
theorem Km (hT:gm P T) (hΓ:bA P Γ) {done:List Nat} {t':Nat->D} {h':Nat->Option Row} {f:jg} {K:Act->World->Prop} {Q:Exit->Act->World->Prop} (hI:qt N M L w0 blk e done t h a w)
  (hs:step1 T Γ N e ops o t h=some (t',h',f)) (hd:∀d,o.dst=some d->d∉done) (hK:∀a' w' blk',qt N M L w0 blk' e (o.dst.toList++done) t' h' a' w'->K a' w') :
  if Region.wanted o (yielded ops a.tmps) then o.wp P a w K Q∨(o.asks P a w∧LetsOut Q) else K (a.put o.dst undef) w:=by
 unfold step1 at hs
 split at hs
 ·rename_i hf
  split at hs
  ·rename_i hg
   rw[xC hI.inv hg]
   simp only[if_true]
   split at hs
   ·rename_i E hE
    simp only[afE,Prod.mk.injEq]at hs
    obtain⟨rfl,rfl,_⟩:=hs
    have:=PY hT hΓ hI (fun d hd'=>⟨hd d hd',by rw[hd']at hf;simpa [fits] using hf⟩) hE
    refine .inl (this.wp fun v w' hA =>?_)
    obtain⟨blk',hI',hR⟩:=hA
    exact hK _ _ blk' ⟨hI'.inv.acn hf hR,hI'.nv⟩
   ·cases hs
  ·rename_i hg
   rw[xC hI.inv hg]
   simp only[af5,if_false]
   simp only[afE,Prod.mk.injEq]at hs
   obtain⟨rfl,rfl,_⟩:=hs
   have hsub:∀x,x∈done->x∈o.dst.toList++done:=fun x hx=>afK _ hx
   exact hK _ _ blk ⟨(hI.inv.acn hf (d := .skp) (v:=undef) rfl).weaken fun x n hx=>hx.step (.refl e h) hsub,hI.nv.step (.refl e h) hsub⟩
  ·cases hs
 ·cases hs
theorem eG {x:Nat} : ∀ {l:List (Nat×Option Row)} {h:Nat->Option Row},(∀p∈l,p.1≠x)->aH h l x=h x
 | [],_,_=>rfl
 | (y,r)::l,h,hn=>by
  simp only[aH]
  rw[eG (fun p hp=>hn p (by simp[hp]))]
  exact au _ _ (fun e=>hn (y,r) (by simp) e.symm)
theorem yQ {x:Nat} : ∀ {l:List (Nat×Option Row)} {h h':Nat->Option Row},(∃p∈l,p.1=x)->aH h l x=aH h' l x
 | [],_,_,he=>by obtain⟨p,hp,_⟩:=he;simp at hp
 | (y,r)::l,h,h',he=>by
  simp only[aH]
  by_cases hl:∃p∈l,p.1=x
  ·exact yQ hl
  ·have hn:∀p∈l,p.1≠x:=fun p hp hpx=>hl ⟨p,hp,hpx⟩
   rw[eG hn,eG hn]
   obtain⟨p,hp,hpx⟩:=he
   rcases afC.1 hp with rfl|hp
   ·simp only at hpx;subst hpx;rw[aq,aq]
   ·exact absurd hpx (hn p hp)
theorem KP {l l':List (Nat×Option Row)} {h:Nat->Option Row} (hd:∀p∈l,∀q∈l',p.1≠q.1):aH (aH h l) l'=aH (aH h l') l:=by
 funext x
 by_cases h1:∃p∈l,p.1=x
 ·obtain⟨p,hp,rfl⟩:=h1
  rw[eG (fun q hq e=>hd p hp q hq e.symm)]
  exact yQ ⟨p,hp,rfl⟩
 ·have hn:∀p∈l,p.1≠x:=fun p hp hpx=>h1 ⟨p,hp,hpx⟩
  rw[eG hn]
  by_cases h2:∃p∈l',p.1=x
  ·exact yQ h2
  ·have hn':∀p∈l',p.1≠x:=fun p hp hpx=>h2 ⟨p,hp,hpx⟩
   rw[eG hn',eG hn',eG hn]
theorem VG {t:Nat->D} {x y:Option Nat} {v u:D} (hne:∀d,x=some d->y≠some d):dU (dU t x v) y u=dU (dU t y u) x v:=by
 cases x with
 | none=>rfl
 | some i =>
  cases y with
  | none=>rfl
  | some j=>exact ZN t v u (fun e=>hne i rfl (by rw[e]))
theorem Tx {t:Nat->D} {x:Option Nat} {v:D} {s:Nat} (hne:x≠some s):dU t x v s=t s:=by
 cases x with
 | none=>rfl
 | some i=>exact au _ _ (fun e=>hne (by rw[e]))
theorem Pf {t t1:Nat->D} {h h1:Nat->Option Row} {f:jg} (hs:step1 T Γ N e ops o t h=some (t1,h1,f)) :
  ∃v hw,t1=dU t o.dst v∧h1=aH h hw∧(∀p∈hw,p.1∈f.tc)∧(f.q=true->hw=[]) ∧
   ∀t' h',(∀s∈o.looksAt ops,t s=t' s)->(∀x∈f.tc,h x=h' x)->step1 T Γ N e ops o t' h'=some (dU t' o.dst v,aH h' hw,f):=by
 have hgd:∀t':Nat->D,(∀s∈o.looksAt ops,t s=t' s)->s6 ops t o=s6 ops t' o:=by
  intro t' ht
  unfold s6
  split
  ·rfl
  ·rename_i j want ho
   split
   ·rename_i g hg
    rw[ht g (by simp[Oper.looksAt,ho,hg])]
   ·rfl
 have hvs:∀t':Nat->D,(∀s∈o.looksAt ops,t s=t' s)->∀y∈o.op.operands.toList,ev t y=ev t' y:=by
  intro t' ht y hy
  cases y with
  | tmp i=>exact ht i (by unfold Oper.looksAt;exact afJ _ (List.mem_filterMap.2 ⟨_,hy,rfl⟩))
  | const v=>rfl
  | global g=>rfl
  | func f=>rfl
 unfold step1 at hs
 split at hs
 ·rename_i hf
  split at hs
  ·rename_i hg
   split at hs
   ·rename_i E hE
    simp only[afE,Prod.mk.injEq]at hs
    obtain⟨rfl,rfl,rfl⟩:=hs
    refine⟨E.val,E.hw,rfl,rfl,PX hE,fun hq=>by simpa using hq,fun t' h' ht hh =>?_⟩
    obtain⟨e1,e2⟩:=aai (T:=T) (Γ:=Γ) (e:=e) (h:=h) (hvs t' ht)
    have e3:mM T Γ e o (ev t') h'=some E:=by
     rw[<- hE,e1]
     exact (PW (fun x hx=>hh x (by rw[e2];exact hx))).symm
    unfold step1
    rw[if_pos hf,<- hgd t' ht,hg]
    simp only[e3,e2]
   ·cases hs
  ·rename_i hg
   simp only[afE,Prod.mk.injEq]at hs
   obtain⟨rfl,rfl,rfl⟩:=hs
   refine⟨.skp,[],rfl,rfl,fun p hp=>by simp at hp,fun _=>rfl,fun t' h' ht hh =>?_⟩
   unfold step1
   rw[if_pos hf,<- hgd t' ht,hg]
   rfl
  ·cases hs
 ·cases hs
def PD (T:Nat->Option Ty) (Γ:Env) (N e:Nat) (ops:Array Oper) (F:Nat->jg):List Nat->(Nat->D)->(Nat->Option Row)->(Nat->D)->(Nat->Option Row)->Prop
 | [],t,h,t',h'=>t=t'∧h=h'
 | i::L,t,h,t',h'=>∃o t1 h1,ops[i]? = some o∧step1 T Γ N e ops o t h=some (t1,h1,F i)∧PD T Γ N e ops F L t1 h1 t' h'
def aae (l l':List Nat):Bool:=l.all fun x => !l'.contains x
structure RN (ops:Array Oper) (F:Nat->jg) (j i:Nat):Prop where
 apart:∀oj oi,ops[j]? = some oj->ops[i]? = some oi->oj.apart ops oi=true
 foot:((F j).q&&(F i).q||aae (F j).tc (F i).tc)=true
theorem swap {F:Nat->jg} {i j:Nat} {L:List Nat} {t t':Nat->D} {h h':Nat->Option Row} (hr:PD T Γ N e ops F (j::i::L) t h t' h') (hi:RN ops F j i):PD T Γ N e ops F (i::j::L) t h t' h':=by
 obtain⟨oj,t1,h1,hoj,hsj,oi,t2,h2,hoi,hsi,hrest⟩:=hr
 obtain⟨a1,a2,a3⟩:=Oper.apart_spec (hi.apart oj oi hoj hoi)
 obtain⟨vj,wj,rfl,rfl,nj,qj,locj⟩:=Pf hsj
 obtain⟨vi,wi,rfl,rfl,ni,qi,loci⟩:=Pf hsi
 have hfoot:=hi.foot
 simp only[ag6,af6]at hfoot
 have d1:∀x∈(F i).tc,∀p∈wj,p.1≠x:=by
  intro x hx p hp he
  rcases hfoot with⟨h1,_⟩|h1
  ·rw[qj h1]at hp;simp at hp
  ·simp only[aae,afG]at h1
   have:=h1 p.1 (nj p hp)
   rw[he]at this
   simp[hx]at this
 have d2:∀x∈(F j).tc,∀p∈wi,p.1≠x:=by
  intro x hx p hp he
  rcases hfoot with⟨_,h1⟩|h1
  ·rw[qi h1]at hp;simp at hp
  ·simp only[aae,afG]at h1
   have:=h1 x hx
   have hm:=ni p hp
   rw[he]at hm
   simp[hm]at this
 have hsi':=loci t h (fun s hs=>Tx (fun hd=>a1 s hd hs)) (fun x hx=>eG (d1 x hx))
 have hsj':=locj (dU t oi.dst vi) (aH h wi) (fun s hs=>(Tx (fun hd=>a3 s hd hs)).symm) (fun x hx=>(eG (d2 x hx)).symm)
 refine⟨oi,_,_,hoi,hsi',oj,_,_,hoj,hsj',?_⟩
 rw[VG (x:=oi.dst) (y:=oj.dst) (fun d hd hd'=>a2 d hd' hd),KP (l:=wi) (l':=wj) (fun p hp q hq he=>d1 p.1 (ni p hp) q hq he.symm)]
 exact hrest
theorem front {F:Nat->jg} {i:Nat} {post:List Nat} : ∀ {pre:List Nat} {t t':Nat->D} {h h':Nat->Option Row},PD T Γ N e ops F (pre++i::post) t h t' h'->(∀j∈pre,RN ops F j i)->PD T Γ N e ops F (i::(pre++post)) t h t' h'
 | [],_,_,_,_,hr,_=>hr
 | j::pre,t,t',h,h',hr,hi=>by
  obtain⟨oj,t1,h1,hoj,hsj,hrest⟩:=hr
  have ih:=front (pre:=pre) hrest (fun k hk=>hi k (by simp[hk]))
  exact swap ⟨oj,t1,h1,hoj,hsj,ih⟩ (hi j (by simp))
def direct (o:Oper):List Nat:=(o.after.toList.filter (Region.binds .any)).map (·.on)
def ua:List Oper->List (List Nat)->List (List Nat)
 | [],acc=>acc
 | o::l,acc=>ua l (acc++[direct o++(direct o).flatMap fun k=>acc.getD k []])
def abW (ops:Array Oper):List (List Nat):=ua ops.toList []
theorem Ch (S:Nat->Prop):∀(l:List Oper) (acc:List (List Nat)) (k:Nat),k=acc.length->(∀i j,j∈acc.getD i []->i<k->(∀m o,ops[m]? = some o->S m->∀d∈direct o,S d)->(∀o,ops[i]? = some o->∀d∈direct o,S d)->S j) ->
  (∀j,l[j]? = ops[k+j]?)->∀i j,j∈(ua l acc).getD i []->(∀m o,ops[m]? = some o->S m->∀d∈direct o,S d)->(∀o,ops[i]? = some o->∀d∈direct o,S d)->S j
 | [],acc,k,hk,hacc,hl,i,j,hj,hS,hi=>by
  simp only[ua]at hj
  by_cases hik:i<k
  ·exact hacc i j hj hik hS hi
  ·have:acc.getD i []=[]:=by simp[List.getD,ag7 (show acc.length<=i by omega)]
   rw[this]at hj
   simp at hj
 | o::l,acc,k,hk,hacc,hl,i,j,hj,hS,hi=>by
  simp only[ua]at hj
  refine Ch S l _ (k+1) (by simp[hk]) ?_ (fun j=>by have:=hl (j+1);simpa [afQ,Nat.add_comm 1 j] using this) i j hj hS hi
  intro i' j' hj' hik' hS' hi'
  by_cases hlt:i'<k
  ·have:(acc++[direct o++(direct o).flatMap fun k=>acc.getD k []]).getD i' []=acc.getD i' []:=by
    simp[List.getD,af9 (show i'<acc.length by omega)]
   rw[this]at hj'
   exact hacc i' j' hj' hlt hS' hi'
  ·obtain rfl:i'=k:=by omega
   have:(acc++[direct o++(direct o).flatMap fun k=>acc.getD k []]).getD i' []=direct o++(direct o).flatMap fun k=>acc.getD k []:=by
    simp[List.getD,aga (show acc.length<=i' by omega),hk]
   rw[this]at hj'
   have ho:ops[i']? = some o:=by have:=hl 0;simpa using this.symm
   rcases agL.1 hj' with hd|hd
   ·exact hi' o ho j' hd
   ·obtain⟨m,hm,hmj⟩:=ag0.1 hd
    have hSm:=hi' o ho m hm
    by_cases hmk:m<i'
    ·exact hacc m j' hmj hmk hS' (fun o' ho' d hd'=>hS' m o' ho' hSm d hd')
    ·have:acc.getD m []=[]:=by simp[List.getD,ag7 (show acc.length<=m by omega)]
     rw[this]at hmj
     simp at hmj
theorem aad {S:Nat->Prop} {i j:Nat} (hj:j∈(abW ops).getD i []) (hS:∀m o,ops[m]? = some o->S m->∀d∈direct o,S d) (hi:∀o,ops[i]? = some o->∀d∈direct o,S d):S j :=
 Ch S ops.toList [] 0 rfl (fun i j hj _ _ _=>by simp at hj) (fun j=>by simp) i j hj hS hi
def W1 (acc:List Nat):List Nat->Nat
 | []=>0
 | k::l=>(2 ^ k ||| acc.getD k 0) ||| W1 acc l
def Ci:List Oper->List Nat->List Nat
 | [],acc=>acc
 | o::l,acc=>Ci l (acc++[W1 acc (direct o)])
def Sw (ops:Array Oper):List Nat:=Ci ops.toList []
theorem Sz {acc:List Nat} {j:Nat} : ∀ {l:List Nat},(W1 acc l).testBit j=true->j∈l∨∃k∈l,(acc.getD k 0).testBit j=true
 | [],h=>by simp[W1]at h
 | k::l,h=>by
  simp only[W1,Nat.testBit_or,ag6,Nat.testBit_two_pow,decide_eq_true_eq]at h
  rcases h with (rfl|h)|h
  ·exact .inl (ag2 ..)
  ·exact .inr ⟨k,ag2 ..,h⟩
  ·rcases Sz h with h|⟨k',h1,h2⟩
   ·exact .inl (ag3 _ h)
   ·exact .inr ⟨k',ag3 _ h1,h2⟩
theorem zI:∀(l:List Oper) (accM:List Nat) (acc:List (List Nat)),accM.length=acc.length->(∀i j,(accM.getD i 0).testBit j=true->j∈acc.getD i [])->∀i j,((Ci l accM).getD i 0).testBit j=true->j∈(ua l acc).getD i []
 | [],_,_,_,h,i,j,hj=>h i j hj
 | o::l,accM,acc,hl,h,i,j,hj=>by
  refine zI l _ _ (by simp[hl]) (fun i' j' hj' =>?_) i j hj
  by_cases h1:i'<accM.length
  ·rw[af8,af9 h1,<- af8]at hj'
   rw[af8,af9 (by omega),<- af8]
   exact h i' j' hj'
  ·by_cases h2:i'=accM.length
   ·subst h2
    rw[af8,aga (afv _),agH]at hj'
    simp only[List.getElem?_cons_zero,Option.getD_some]at hj'
    rw[hl,af8,aga (afv _),agH]
    simp only[List.getElem?_cons_zero,Option.getD_some,agL,ag0]
    rcases Sz hj' with hj'|⟨k,hk,hj'⟩
    ·exact .inl hj'
    ·exact .inr ⟨k,hk,h k j' hj'⟩
   ·rw[af8,ag7 (by simp;omega)]at hj'
    simp at hj'
theorem WU {i j:Nat} (h:((Sw ops).getD i 0).testBit j=true):j∈(abW ops).getD i [] :=
 zI ops.toList [] [] rfl (fun i j h=>by simp at h) i j h
def RU (ops:Array Oper) (F:Nat->jg):Prop:=∀j i,j<i->i<ops.size->j∈(abW ops).getD i []∨RN ops F j i
theorem V1 (hT:gm P T) (hΓ:bA P Γ) {F:Nat->jg} {Q:Exit->Act->World->Prop} {t':Nat->D} {h':Nat->Option Row} (hp:RU ops F) (hedge:∀i o,ops[i]? = some o->∀d∈direct o,d<i)
  (hdst:∀(i j:Nat) (oi oj:Oper) (d:Nat),ops[i]? = some oi->ops[j]? = some oj->oi.dst=some d->oj.dst=some d->i=j) (hQ:∀a' w' blk' done,qt N M L w0 blk' e done t' h' a' w'->Q .normal a' w') :
  ∀(n:Nat) (LL:List Nat) (listed:Array Bool) (t:Nat->D) (h:Nat->Option Row) (a:Act) (w:World) (blk:Nat->Option (Nat×Nat)) (done:List Nat),LL.length=n->(∀i,i∈LL↔listed.getD i true=false)->LL.Pairwise (· < ·)->(∀i∈LL,i<ops.size)->listed.size=ops.size ->
   (∀i o,ops[i]? = some o->listed.getD i false=true->∀d∈direct o,listed.getD d false=true)->(∀d∈done,∃i o,ops[i]? = some o∧o.dst=some d∧listed.getD i false=true) ->
   PD T Γ N e ops F LL t h t' h'->qt N M L w0 blk e done t h a w->wpAny P .any ops Q n listed a w:=by
 intro n
 induction n with
 | zero =>
  intro LL listed t h a w blk done hn hL hs hlt hsz hdown hdone hr hI
  have:LL=[]:=agO hn
  subst this
  obtain⟨rfl,rfl⟩:=hr
  refine⟨?_,hQ a w blk done hI⟩
  refine List.eq_nil_iff_forall_not_mem.2 fun i hi =>?_
  have:=(mem_ready.1 hi).1
  exact absurd ((hL i).2 this) (by simp)
 | succ n ih =>
  intro LL listed t h a w blk done hn hL hs hlt hsz hdown hdone hr hI
  refine⟨fun hempty =>?_,fun i hi =>?_⟩
  ·cases LL with
   | nil=>simp at hn
   | cons i LL =>
    obtain⟨o,t1,h1,ho,_⟩:=hr
    have hready:i∈Region.ready .any ops listed:=by
     refine mem_ready.2 ⟨(hL i).1 (by simp),o,ho,fun ed hed hb =>?_⟩
     have hd:ed.on∈direct o:=afu.2 ⟨ed,ag8.2 ⟨by simpa using hed,hb⟩,rfl⟩
     have hlt':=hedge i o ho _ hd
     by_cases hm:ed.on∈i::LL
     ·rcases afC.1 hm with hm|hm
      ·omega
      ·have:=(ag9.1 hs).1 _ hm
       omega
     ·have h1:¬listed.getD ed.on true=false:=fun hf=>hm ((hL _).2 hf)
      have h2:ed.on<listed.size:=by rw[hsz];have:=hlt i (by simp);omega
      have:listed.getD ed.on true=listed.getD ed.on false:=by simp[Array.getD,h2]
      rw[<- this]
      simpa using h1
    rw[hempty]at hready
    simp at hready
  ·obtain⟨hi0,o,ho,hneeds⟩:=mem_ready.1 hi
   have hiL:i∈LL:=(hL i).2 hi0
   obtain⟨pre,post,rfl⟩:=List.append_of_mem hiL
   have hisz:i<listed.size:=by rw[hsz];exact hlt i hiL
   have hdirect:∀d∈direct o,listed.getD d false=true:=by
    intro d hd
    obtain⟨ed,hed,rfl⟩:=afu.1 hd
    obtain⟨h1,h2⟩:=ag8.1 hed
    exact hneeds ed (by simpa using h1) h2
   have hind:∀j∈pre,RN ops F j i:=by
    intro j hj
    have hji:j<i:=by
     have:=List.pairwise_append.1 hs
     exact this.2.2 j hj i (by simp)
    rcases hp j i hji (hlt i hiL) with hc|hc
    ·have hjl:listed.getD j false=true:=aad (S:=fun m=>listed.getD m false=true) hc (fun m om hm hSm d hd=>hdown m om hm hSm d hd) (fun o' ho' d hd=>by
      rw[ho]at ho'
      cases ho'
      exact hdirect d hd)
     have hjt:=(hL j).1 (by simp[hj])
     have hjs:j<listed.size:=by omega
     have:listed.getD j true=listed.getD j false:=by simp[Array.getD,hjs]
     rw[this,hjl]at hjt
     cases hjt
    ·exact hc
   obtain⟨o',t1,h1,ho',hstep,hrest⟩:=front hr hind
   rw[ho]at ho'
   cases ho'
   unfold wpOp
   simp only[ho]
   refine Km hT hΓ hI hstep (fun d hd hdd =>?_) (fun a' w' blk' hI' =>?_)
   ·obtain⟨k,ok,hk,hkd,hkl⟩:=hdone d hdd
    have:=hdst i k o ok d ho hk hd hkd
    subst this
    have:listed.getD i true=listed.getD i false:=by simp[Array.getD,hisz]
    rw[this,hkl]at hi0
    cases hi0
   ·have hset:∀k,(listed.setIfInBounds i true).getD k false=true↔k=i∨listed.getD k false=true:=by
     intro k
     by_cases hki:k=i
     ·subst hki;simp[hisz]
     ·rw[getD_set_ne false (Ne.symm hki)];simp[hki]
    have hset2:∀k,(listed.setIfInBounds i true).getD k true=false↔k≠i∧listed.getD k true=false:=by
     intro k
     by_cases hki:k=i
     ·subst hki;simp[hisz]
     ·rw[getD_set_ne true (Ne.symm hki)];simp[hki]
    have hnd:(pre++i::post).Nodup:=hs.imp (fun h=>Nat.ne_of_lt h)
    refine ih (pre++post) (listed.setIfInBounds i true) t1 h1 a' w' blk' _ (by simp at hn ⊢;omega) (fun k =>?_) ?_ (fun k hk=>hlt k (by simp at hk ⊢;rcases hk with hk|hk<;>simp[hk])) (by simpa using hsz) (fun k ok hk hkl d hd =>?_) (fun d hd =>?_) hrest hI'
    ·rw[hset2]
     constructor
     ·intro hk
      have hkL:k∈pre++i::post:=by simp at hk ⊢;rcases hk with hk|hk<;>simp[hk]
      refine⟨fun e =>?_,(hL k).1 hkL⟩
      subst e
      have:=List.nodup_append.1 hnd
      simp only[aha]at this
      rcases agL.1 hk with hk|hk
      ·exact this.2.2 k hk k (by simp) rfl
      ·exact this.2.1.1 hk
     ·rintro⟨hk,hkl⟩
      have:=(hL k).2 hkl
      simp only[agL,afC]at this ⊢
      rcases this with h|h|h
      ·exact .inl h
      ·exact absurd h hk
      ·exact .inr h
    ·refine List.Pairwise.sublist ?_ hs
     exact List.Sublist.append_left (List.sublist_cons_self _ _) _
    ·rw[hset]
     rcases (hset k).1 hkl with rfl|hkl
     ·rw[ho]at hk;cases hk;exact .inr (hdirect d hd)
     ·exact .inr (hdown k ok hk hkl d hd)
    ·rcases agL.1 hd with hd|hd
     ·exact⟨i,o,ho,by simpa using hd,(hset i).2 (.inl rfl)⟩
     ·obtain⟨k,ok,hk,hkd,hkl⟩:=hdone d hd
      exact⟨k,ok,hk,hkd,(hset k).2 (.inr hkl)⟩
end
def zg (T:Nat->Option Ty) (Γ:Env) (N e:Nat) (ops:Array Oper):List Oper->(Nat->D)->(Nat->Option Row)->Option ((Nat->D)×(Nat->Option Row)×List jg)
 | [],t,h=>some (t,h,[])
 | o::l,t,h =>
  match step1 T Γ N e ops o t h with
  | some (t1,h1,f) =>
   match zg T Γ N e ops l t1 h1 with
   | some (t2,h2,fs)=>some (t2,h2,f::fs)
   | none=>none
  | none=>none
def J0:List Nat->Bool
 | []=>true
 | x::l => !l.contains x&&J0 l
def Xh (ops:Array Oper):Bool:=J0 (ops.toList.filterMap (·.dst))
def R4 (ops:Array Oper) (j i:Nat):Bool :=
 match ops[j]?,ops[i]? with
 | some oj,some oi=>oj.apart ops oi
 | _,_=>true
def PV (ops:Array Oper):Bool :=
 (ops.toList.zipIdx.all fun p=>(direct p.1).all fun d=>decide (d<p.2)) &&
 ((List.range ops.size).all fun i=>(List.range i).all fun j=>((Sw ops).getD i 0).testBit j||R4 ops j i)
def HX (ops:Array Oper):List (Nat×Nat):=(List.range ops.size).flatMap fun i=>((List.range i).filter fun j => !((Sw ops).getD i 0).testBit j).map fun j=>(j,i)
def Ys (fs:List jg) (p:Nat×Nat):Bool :=
 match fs[p.1]?,fs[p.2]? with
 | some f,some g=>f.q&&g.q||aae f.tc g.tc
 | _,_=>false
def CB (ops:Array Oper) (fs:List jg):Bool:=(HX ops).all (Ys fs)
inductive Ex where
 | normal
 | exit (n:Nat)
 | ret
structure St where
 t:Nat->D
 h:Nat->Option Row
 e:Nat
def iter (f:St->Option (Ex×St)):Nat->St->Option (Ex×St)
 | 0,_=>none
 | n+1,s =>
  match f s with
  | some (.normal,s1)=>iter f n s1
  | r=>r
def vd (T:Nat->Option Ty) (Γ:Env) (N:Nat) (ops:Array Oper) (draw:Bool) (s:St):Option (Ex×St) :=
 match zg T Γ N s.e ops ops.toList s.t s.h with
 | some (t,h,fs)=>if !draw||CB ops fs then some (.normal,⟨t,h,s.e+1⟩) else none
 | none=>none
def Po (d:D) (x y:Option (Ex×St)):Option (Ex×St) :=
 match d with
 | .bool b=>if b then x else y
 | _=>none
def acR (r:Option (Ex×St)) (k:St->Option (Ex×St)):Option (Ex×St) :=
 match r with
 | some (.normal,s)=>k s
 | r=>r
def RA (id:Nat) (r:Option (Ex×St)):Option (Ex×St) :=
 match r with
 | some (.exit n,s)=>if n=id then some (.normal,s) else some (.exit n,s)
 | r=>r
def fi (T:Nat->Option Ty) (Γ:Env) (N F:Nat):Code->St->Option (Ex×St)
 | .skip,s=>some (.normal,s)
 | .region _ ops draw,s=>vd T Γ N ops draw s
 | .seq a b,s=>acR (fi T Γ N F a s) (fi T Γ N F b)
 | .cond c x y,s=>Po (ev s.t c) (fi T Γ N F x s) (fi T Γ N F y s)
 | .block id b,s=>RA id (fi T Γ N F b s)
 | .loop b,s=>iter (fi T Γ N F b) F s
 | .exit id,s=>some (.exit id,s)
 | .ret,s=>some (.ret,s)
 | _,_=>none
def codeOk:Code->Bool
 | .region _ ops draw=>Xh ops&&(!draw||PV ops)
 | .seq a b=>codeOk a&&codeOk b
 | .cond _ x y=>codeOk x&&codeOk y
 | .block _ b=>codeOk b
 | .loop b=>codeOk b
 | _=>true
section
variable {P:Program} {T:Nat->Option Ty} {N:Nat} {M:Nat->Prop} {L:ik} {w0:World} {blk:Nat->Option (Nat×Nat)} {t:Nat->D} {h:Nat->Option Row} {a:Act} {w:World} {e:Nat} {o:Oper} {Γ:Env} {ops:Array Oper}
theorem HQ:∀ {l:List Nat},J0 l=true->l.Nodup
 | [],_=>List.nodup_nil
 | x::l,h=>by
  simp only[J0,af6,af7,List.contains_eq_mem,decide_eq_false_iff_not]at h
  exact aha.2 ⟨h.1,HQ h.2⟩
theorem Fb:∀ {l:List Oper} {done:List Nat},(l.filterMap (·.dst)).Nodup->(∀o∈l,∀d,o.dst=some d->d∉done)->∀o l',l=o::l'->(l'.filterMap (·.dst)).Nodup∧∀o'∈l',∀d,o'.dst=some d->d∉o.dst.toList++done:=by
 intro l done hn hd o l' he
 subst he
 cases ho:o.dst with
 | none =>
  rw[List.filterMap_cons_none ho]at hn
  exact⟨hn,fun o' ho' d hd'=>by simpa using hd o' (by simp[ho']) d hd'⟩
 | some x =>
  rw[List.filterMap_cons_some ho]at hn
  obtain⟨h1,h2⟩:=aha.1 hn
  refine⟨h2,fun o' ho' d hd' hm =>?_⟩
  simp only[Option.toList_some,List.singleton_append,afC]at hm
  rcases hm with rfl|hm
  ·exact h1 (List.mem_filterMap.2 ⟨o',ho',hd'⟩)
  ·exact hd o' (by simp[ho']) d hd' hm
theorem wL (hT:gm P T) (hΓ:bA P Γ) {Q:Exit->Act->World->Prop} : ∀ {l:List Oper} {t t':Nat->D} {h h':Nat->Option Row} {fs:List jg} {a:Act} {w:World} {blk:Nat->Option (Nat×Nat)} {done:List Nat},
  zg T Γ N e ops l t h=some (t',h',fs)->(l.filterMap (·.dst)).Nodup->(∀o∈l,∀d,o.dst=some d->d∉done)->qt N M L w0 blk e done t h a w ->
  (∀a' w' blk' done,qt N M L w0 blk' e done t' h' a' w'->Q .normal a' w')->wpList P ops Q l a w
 | [],t,t',h,h',fs,a,w,blk,done,hr,_,_,hI,hQ=>by
  simp only[zg,afE,Prod.mk.injEq]at hr
  obtain⟨rfl,rfl,_⟩:=hr
  exact hQ a w blk done hI
 | o::l,t,t',h,h',fs,a,w,blk,done,hr,hn,hd,hI,hQ=>by
  simp only[zg]at hr
  split at hr
  ·rename_i t1 h1 f hs
   split at hr
   ·rename_i t2 h2 fs2 hr2
    simp only[afE,Prod.mk.injEq]at hr
    obtain⟨rfl,rfl,_⟩:=hr
    obtain⟨hn',hd'⟩:=Fb hn hd o l rfl
    have:=Km (K:=wpList P ops Q l) (Q:=Q) hT hΓ hI hs (hd o (by simp)) (fun a' w' blk' hI'=>wL hT hΓ hr2 hn' hd' hI' hQ)
    unfold wpList
    exact this
   ·cases hr
  ·cases hr
theorem ym {F:Nat->jg} : ∀ {l:List Oper} {k:Nat} {t t':Nat->D} {h h':Nat->Option Row} {fs:List jg},zg T Γ N e ops l t h=some (t',h',fs)->(∀j,l[j]? = ops[k+j]?)->(∀j f,fs[j]? = some f->F (k+j)=f) ->
  fs.length=l.length∧PD T Γ N e ops F (List.range' k l.length) t h t' h'
 | [],k,t,t',h,h',fs,hr,_,_=>by
  simp only[zg,afE,Prod.mk.injEq]at hr
  obtain⟨rfl,rfl,rfl⟩:=hr
  exact⟨rfl,rfl,rfl⟩
 | o::l,k,t,t',h,h',fs,hr,hl,hF=>by
  simp only[zg]at hr
  split at hr
  ·rename_i t1 h1 f hs
   split at hr
   ·rename_i t2 h2 fs2 hr2
    simp only[afE,Prod.mk.injEq]at hr
    obtain⟨rfl,rfl,rfl⟩:=hr
    obtain⟨i1,i2⟩:=ym (k:=k+1) hr2 (fun j=>by have:=hl (j+1);simpa [afQ,Nat.add_comm 1 j] using this) (fun j f' hj=>by have:=hF (j+1) f' (by simpa using hj);rwa [show k+(j+1)=k+1+j by omega]at this)
    refine⟨by simp[i1],o,t1,h1,by have:=hl 0;simpa using this.symm,?_,i2⟩
    have:=hF 0 f rfl
    rw[af4]at this
    rw[this]
    exact hs
   ·cases hr
  ·cases hr
def Holds (N:Nat) (M:Nat->Prop) (L:ik) (w0:World) (s:St) (a:Act) (w:World):Prop:=∃blk,qt N M L w0 blk s.e [] s.t s.h a w
theorem FO (hT:gm P T) (hΓ:bA P Γ) (hm:P.follows .mixedOrders=true) {id:Nat} {draw:Bool} {s:St} {x:Ex} {s':St} {Q:Exit->Act->World->Prop} (hr:vd T Γ N ops draw s=some (x,s')) (hok:(Xh ops&&(!draw||PV ops))=true)
  (hH:Holds N M L w0 s a w) (hQ:∀a' w',Holds N M L w0 s' a' w'->Q .normal a' w'):x=.normal∧(Code.region id ops draw).wp P Q a w:=by
 unfold vd at hr
 split at hr
 ·rename_i t h fs hrun
  split at hr
  ·rename_i hdyn
   simp only[afE,Prod.mk.injEq]at hr
   obtain⟨rfl,rfl⟩:=hr
   refine⟨rfl,?_⟩
   simp only[af6]at hok
   have hnd:(ops.toList.filterMap (·.dst)).Nodup:=HQ hok.1
   obtain⟨blk,hI⟩:=hH
   have hfin:∀a' w' blk' done,qt N M L w0 blk' s.e done t h a' w'->Q .normal a' w':=by
    intro a' w' blk' done hI'
    refine hQ a' w' ⟨blk',hI'.inv.weaken fun x v hx =>?_,fun x r ty s nv cs k1 k2 k3 k4 =>?_⟩
    ·rcases hx with⟨hn,hx|⟨hx,_⟩⟩|⟨hn,h2,h3,h4⟩
     ·exact .inl ⟨hn,.inl (by simp only;omega)⟩
     ·exact .inl ⟨hn,.inl (by simp only;omega)⟩
     ·exact .inr ⟨hn,by simp only;omega,fun _=>by simp only;omega,h4⟩
    ·have:=hI'.nv x r ty s nv cs k1 k2 k3 k4
     exact⟨by simp only;omega,fun _=>by simp only;omega⟩
   cases draw with
   | false =>
    apply wp_region_list
    exact wL hT hΓ hrun hnd (done:=[]) (fun o _ d _=>by simp) hI hfin
   | true =>
    simp only[agY,agy]at hdyn hok
    apply wp_region_any hm
    have hdr:=hok.2
    simp only[PV,af6]at hdr
    let F:Nat->jg:=fun i=>fs.getD i ⟨[],true⟩
    obtain⟨hlen,hRun⟩:=ym (F:=F) (k:=0) hrun (fun j=>by simp) (fun j f hj=>by simp[F,List.getD,hj])
    have hedge:∀i o,ops[i]? = some o->∀d∈direct o,d<i:=by
     intro i o ho d hd
     have h1:=hdr.1
     rw[afG]at h1
     have hmem:(o,i)∈ops.toList.zipIdx:=by
      rw[List.mem_zipIdx_iff_getElem?]
      simpa using ho
     have:=h1 _ hmem
     rw[afG]at this
     simpa using this d hd
    have hdst:∀(i j:Nat) (oi oj:Oper) (d:Nat),ops[i]? = some oi->ops[j]? = some oj->oi.dst=some d->oj.dst=some d->i=j:=by
     have key:∀(l:List Oper),(l.filterMap (·.dst)).Nodup->∀(i j:Nat) (oi oj:Oper) (d:Nat),l[i]? = some oi->l[j]? = some oj->oi.dst=some d->oj.dst=some d->i=j:=by
      intro l
      induction l with
      | nil=>intro _ i j oi oj d hi;simp at hi
      | cons o l ih =>
       intro hn i j oi oj d hi hj hdi hdj
       have hn':(l.filterMap (·.dst)).Nodup:=by
        cases ho:o.dst with
        | none=>rw[List.filterMap_cons_none ho]at hn;exact hn
        | some x=>rw[List.filterMap_cons_some ho]at hn;exact (aha.1 hn).2
       have hnot:∀(k:Nat) (ok:Oper),l[k]? = some ok->o.dst=some d->ok.dst=some d->False:=by
        intro k ok hk ho hkd
        rw[List.filterMap_cons_some ho]at hn
        exact (aha.1 hn).1 (List.mem_filterMap.2 ⟨ok,afX hk,hkd⟩)
       cases i with
       | zero =>
        simp only[List.getElem?_cons_zero,afE]at hi
        subst hi
        cases j with
        | zero=>rfl
        | succ j=>exact (hnot j oj (by simpa using hj) hdi hdj).elim
       | succ i =>
        cases j with
        | zero =>
         simp only[List.getElem?_cons_zero,afE]at hj
         subst hj
         exact (hnot i oi (by simpa using hi) hdj hdi).elim
        | succ j=>rw[ih hn' i j oi oj d (by simpa using hi) (by simpa using hj) hdi hdj]
     intro i j oi oj d hi hj
     exact key ops.toList hnd i j oi oj d (by simpa using hi) (by simpa using hj)
    have hpairs:RU ops F:=by
     intro j i hji hi
     by_cases hc:((Sw ops).getD i 0).testBit j=true
     ·exact .inl (WU hc)
     ·refine .inr ⟨fun oj oi hoj hoi =>?_,?_⟩
      ·have h2:=hdr.2
       rw[afG]at h2
       have:=h2 i (ahb.2 hi)
       rw[afG]at this
       have:=this j (ahb.2 hji)
       simp only[ag6]at this
       rcases this with h'|h'
       ·exact absurd h' hc
       ·simpa [R4,hoj,hoi] using h'
      ·rw[CB,afG]at hdyn
       have hmem:(j,i)∈HX ops:=by
        refine ag0.2 ⟨i,ahb.2 hi,afu.2 ⟨j,ag8.2 ⟨ahb.2 hji,?_⟩,rfl⟩⟩
        simpa using hc
       have:=hdyn _ hmem
       have hi':i<fs.length:=by rw[hlen];simpa using hi
       have hj':j<fs.length:=by omega
       simp only[Ys,afI hj',afI hi']at this
       simp only[F,af8,afI hj',afI hi',Option.getD_some]
       exact this
    rw[agb,<- List.range_eq_range']at hRun
    have hrep:∀i,(Array.replicate ops.size false).getD i false=false:=by
     intro i
     by_cases hi:i<ops.size
     ·simp[Array.getD,hi]
     ·simp[Array.getD,hi]
    have hrept:∀i,(Array.replicate ops.size false).getD i true=false↔i<ops.size:=by
     intro i
     by_cases hi:i<ops.size
     ·simp[Array.getD,hi]
     ·simp[Array.getD,hi]
    exact V1 hT hΓ hpairs hedge hdst hfin ops.size (List.range ops.size) (Array.replicate ops.size false) s.t s.h a _ blk [] (by simp) (fun i=>by rw[hrept];exact ahb) List.pairwise_lt_range (fun i hi=>ahb.1 hi) (by simp)
     (fun i o _ hl=>by rw[hrep]at hl;cases hl) (fun d hd=>by simp at hd) hRun ⟨hI.inv.drew,hI.nv⟩
  ·cases hr
 ·cases hr
def CY:Ex->Exit
 | .normal =>.normal
 | .exit n =>.exit n
 | .ret =>.ret
theorem gJ (hT:gm P T) (hΓ:bA P Γ) (hm:P.follows .mixedOrders=true) {F:Nat} : ∀(c:Code) (s:St) (x:Ex) (s':St) (Q:Exit->Act->World->Prop) (a:Act) (w:World),fi T Γ N F c s=some (x,s')->codeOk c=true->Holds N M L w0 s a w ->
  (∀a' w',Holds N M L w0 s' a' w'->Q (CY x) a' w')->c.wp P Q a w:=by
 intro c
 induction c with
 | skip =>
  intro s x s' Q a w hr _ hH hQ
  simp only[fi,afE,Prod.mk.injEq]at hr
  obtain⟨rfl,rfl⟩:=hr
  exact wp_skip (hQ a w hH)
 | region id ops draw =>
  intro s x s' Q a w hr hok hH hQ
  simp only[fi]at hr
  have hx:x=.normal:=by
   unfold vd at hr
   split at hr
   ·split at hr
    ·simp only[afE,Prod.mk.injEq]at hr;exact hr.1.symm
    ·cases hr
   ·cases hr
  subst hx
  exact (FO hT hΓ hm hr hok hH hQ).2
 | seq b c ihb ihc =>
  intro s x s' Q a w hr hok hH hQ
  simp only[codeOk,af6]at hok
  simp only[fi,acR]at hr
  apply wp_seq
  split at hr
  ·rename_i s1 h1
   exact ihb s .normal s1 _ a w h1 hok.1 hH (fun a' w' hH'=>ihc s1 x s' Q a' w' hr hok.2 hH' hQ)
  ·rename_i r hne
   refine ihb s x s' _ a w hr hok.1 hH (fun a' w' hH' =>?_)
   cases x with
   | normal=>exact absurd hr (fun h=>hne s' h)
   | exit n=>exact hQ a' w' hH'
   | ret=>exact hQ a' w' hH'
 | cond c b d ihb ihd =>
  intro s x s' Q a w hr hok hH hQ
  simp only[codeOk,af6]at hok
  simp only[fi]at hr
  unfold Po at hr
  split at hr
  ·rename_i bb hb
   obtain⟨blk,hI⟩:=hH
   have hv:=hI.inv.ev c
   rw[hb]at hv
   refine wp_cond (t:=bb) (tV hv) ?_
   cases bb with
   | true=>exact ihb s x s' Q a w hr hok.1 ⟨blk,hI⟩ hQ
   | false=>exact ihd s x s' Q a w hr hok.2 ⟨blk,hI⟩ hQ
  ·cases hr
 | block id b ih =>
  intro s x s' Q a w hr hok hH hQ
  simp only[fi]at hr
  apply wp_block
  unfold RA at hr
  split at hr
  ·rename_i n s1 h1
   refine ih s (.exit n) s1 _ a w h1 hok hH (fun a' w' hH' =>?_)
   split at hr
   ·rename_i hn
    simp only[afE,Prod.mk.injEq]at hr
    obtain⟨rfl,rfl⟩:=hr
    simp only[CY,Exit.inBlock,hn,if_true]
    exact hQ a' w' hH'
   ·rename_i hn
    simp only[afE,Prod.mk.injEq]at hr
    obtain⟨rfl,rfl⟩:=hr
    simp only[CY,Exit.inBlock,hn,if_false]
    exact hQ a' w' hH'
  ·rename_i r hne
   refine ih s x s' _ a w hr hok hH (fun a' w' hH' =>?_)
   cases x with
   | normal=>exact hQ a' w' hH'
   | exit n=>exact absurd hr (fun h=>hne n s' h)
   | ret=>exact hQ a' w' hH'
 | loop b ih =>
  intro s x s' Q a w hr hok hH hQ
  simp only[fi]at hr
  refine wp_loop_ghost (fun n a w=>∃s,Holds N M L w0 s a w∧iter (fi T Γ N F b) n s=some (x,s')) F ⟨s,hH,hr⟩ ?_
  intro n a w ⟨s1,hH1,h1⟩
  cases n with
  | zero=>simp[iter]at h1
  | succ n =>
   simp only[iter]at h1
   split at h1
   ·rename_i s2 h2
    exact ih s1 .normal s2 _ a w h2 hok hH1 (fun a' w' hH'=>⟨n,by omega,s2,hH',h1⟩)
   ·rename_i r hne
    refine ih s1 x s' _ a w h1 hok hH1 (fun a' w' hH' =>?_)
    cases x with
    | normal=>exact absurd h1 (fun h=>hne s' h)
    | exit n=>exact hQ a' w' hH'
    | ret=>exact hQ a' w' hH'
 | exit id =>
  intro s x s' Q a w hr _ hH hQ
  simp only[fi,afE,Prod.mk.injEq]at hr
  obtain⟨rfl,rfl⟩:=hr
  exact wp_exit (hQ a w hH)
 | ret =>
  intro s x s' Q a w hr _ hH hQ
  simp only[fi,afE,Prod.mk.injEq]at hr
  obtain⟨rfl,rfl⟩:=hr
  exact wp_ret (hQ a w hH)
 | _=>intro s x s' Q a w hr;simp[fi]at hr
end
def OF (T:Nat->Option Ty) (s:St):ResultVar->Option (D×List Nat)
 | .tmp i=>bE s.h (s.t i)
 | .cell i ty =>
  match T ty,s.t i with
  | some τ,.ptr x v o=>match df τ s.h (.ptr x v o) with|some E=>some (eX E.val,[])|none=>none
  | _,_=>none
def rF (T:Nat->Option Ty) (s:St):List ResultVar->Option (List D×List Nat)
 | []=>some ([],[])
 | r::rs =>
  match OF T s r with
  | some (d,fr)=>match rF T s rs with
   | some (ds,fr')=>some (d::ds,fr++fr')
   | none=>none
  | none=>none
def jZ:List D->D
 | [d]=>d
 | ds =>.tup ds
inductive Mode where
 | clean|same|tight
 | fresh (ty s:Nat)
def bM:Option (D×Row)->List D->St
 | none,args=>⟨fun i=>args.getD i .und,fun _=>none,0⟩
 | some (d0,r),args=>⟨fun i=>(d0::args).getD i .und,fun x=>if x=0 then some { r with v:=0 } else none,1⟩
def iP:Option (D×Row)->St->Option (Option Row)
 | none,_=>some none
 | some (_,r),s =>
  match s.h 0 with
  | some r1=>if r1.v=0∧r1.fz=false∧r1.ty=r.ty∧(r1.mp=r.mp∧pO r1=true) then some (some r1) else none
  | none=>none
def Yh:Option (D×Row)->List Nat->Bool
 | none,_=>true
 | some _,fr => !fr.contains 0
def nP (T:Nat->Option Ty) (lent:Option (D×Row)) (rs:List ResultVar) (s:St):Option (RK×Option Row) :=
 match rF T s rs,iP lent s with
 | some (ds,fr),some o=>if Yh lent fr then some (.clean (jZ ds),o) else none
 | _,_=>none
def Bv (lent:Option (D×Row)) (rs:List ResultVar) (s:St):Option (RK×Option Row) :=
 match rs with
 | [.tmp i] =>
  match s.t i,iP lent s with
  | .buf 0 0 sz o n,some (some r)=>some (.same sz o n,some r)
  | _,_=>none
 | _=>none
def ui:D->Option (RK×Option Row)
 | .sl nl tg n xs=>some (.clean (.sl nl tg n xs),none)
 | _=>none
def CV (lent:Option (D×Row)) (rs:List ResultVar) (s:St):Option (RK×Option Row) :=
 match lent,rs with
 | none,[.tmp i]=>ui (s.t i)
 | _,_=>none
def uf (ty s o n:Nat):Option Row->Option (RK×Option Row)
 | some r=>if r.fz=false∧r.ty=ty∧o+n*s<=r.cells.length then some (.fresh ty s n ((r.cells.drop o).take (n*s)),none) else none
 | none=>none
def lq (ty s:Nat) (h:Nat->Option Row):D->Option (RK×Option Row)
 | .buf x v sz o n=>if sz=s then uf ty s o n (live h x v) else none
 | .sl _ tg 0 _=>if tg=true then some (.fresh ty s 0 [],none) else none
 | _=>none
def pL (ty s:Nat) (rs:List ResultVar) (st:St):Option (RK×Option Row) :=
 match rs with
 | [.tmp i]=>lq ty s st.h (st.t i)
 | _=>none
def eZ (mode:Mode) (T:Nat->Option Ty) (lent:Option (D×Row)) (rs:List ResultVar) (s:St):Option (RK×Option Row) :=
 match mode with
 | .clean=>nP T lent rs s
 | .same=>Bv lent rs s
 | .tight=>CV lent rs s
 | .fresh ty sz=>pL ty sz rs s
def aW (mode:Mode) (T:Nat->Option Ty) (Γ:Env) (F:Nat) (fn:Func) (lent:Option (D×Row)) (args:List D):Option (RK×Option Row) :=
 match fn.body with
 | some c =>
  if fn.ntmps<=PK then
   match fi T Γ fn.ntmps F c (bM lent args) with
   | some (.exit _,_)=>none
   | some (_,s)=>eZ mode T lent fn.results.toList ⟨s.t,EH s.h,s.e⟩
   | none=>none
  else none
 | none=>none
def DQ:Option (D×Row)->Bool
 | none=>true
 | some (.buf 0 0 _ _ _,_)=>true
 | some (.ptr 0 0 _,_)=>true
 | some (.mp 0 0,_)=>true
 | _=>false
def DG:Option (D×Row)->List D->Nat
 | none,afq=>afq.length
 | some _,afq=>afq.length+1
section
variable {P:Program} {T:Nat->Option Ty} {N:Nat} {M:Nat->Prop} {L:ik} {w0:World} {blk:Nat->Option (Nat×Nat)} {a:Act} {w:World} {Γ:Env}
theorem Inv.abo {V:Nat->Nat->Prop} {t:Nat->D} {h:Nat->Option Row} (hI:Inv N M L w0 blk V t h a w) (fr:List Nat):mE M h blk fr M where
 le b hb := .inl hb
 no x hx r g hr hg hb:=hI.notM hr hg hb
def ze (tm:Array Value):ResultVar->Sem Value
 | .tmp t=>pure (tm.getD t undef)
 | .cell b t=>do loadVar t (<- asAddr (tm.getD b undef))
theorem Ev (fn:Func) (tm:Array Value):results fn tm=(do
  let vs <- fn.results.mapM (ze tm)
  pure (if h:vs.size=1 then vs[0] else .tuple vs)):=by
 unfold results
 congr 1
theorem VI (hT:gm P T) {M':Nat->Prop} {ty:Nat} {τ:Ty} {g c:Nat} {xs:List D} {d:D} (hτ:T ty=some τ) (hat:At w M' g c xs) (hl:xs.length=τ.size) (hd:iB τ xs=some d) :
  ∃u,(loadVar ty ⟨g,c,none⟩).run P w=.ok u w∧RP w M' d u:=by
 obtain⟨us,h1,h2,h3,h4⟩:=hat.aed
 have hone:τ.ds.nd=false->xs.length=1∧xs=[d]:=by
  intro hf
  simp only[iB,hf,af5,if_false]at hd
  split at hd
  ·simp only[afE]at hd;subst hd;exact⟨rfl,rfl⟩
  ·cases hd
 have hrun:=iZ (hT ty τ hτ) w g c us (by rw[h1,hl]) h2 (fun hf=>by rw[h1];exact (hone hf).1)
 refine⟨_,hrun,?_⟩
 cases ha:τ.ds.nd with
 | true =>
  simp only[iB,ha,if_true,afE]at hd
  subst hd
  exact .agg xs us h1 h3 h4
 | false =>
  obtain⟨_,rfl⟩:=hone ha
  exact h3 0 d rfl
theorem YC (hT:gm P T) {M':Nat->Prop} {V:Nat->Nat->Prop} {s:St} (hI:Inv N M L w0 blk V s.t s.h a w) {r:ResultVar} {d:D} {fr:List Nat} (h1:OF T s r=some (d,fr)) (hl:mE M s.h blk fr M'):∃u,(ze a.tmps r).run P w=.ok u w∧RP w M' d u:=by
 cases r with
 | tmp i =>
  simp only[OF]at h1
  exact⟨a.tmps.getD i undef,rfl,hI.bE h1 hl (hI.slots i)⟩
 | cell i ty =>
  simp only[OF]at h1
  split at h1
  ·rename_i τ x v o hτ hp
   split at h1
   ·rename_i E hE
    simp only[afE,Prod.mk.injEq]at h1
    obtain⟨rfl,_⟩:=h1
    have hsl:=hI.slots i
    rw[hp]at hsl
    simp only[df]at hE
    split at hE
    ·rename_i rr hlv
     obtain⟨hx,hv⟩:=bU hlv
     split at hE
     ·rename_i hle
      split at hE
      ·rename_i d' hd'
       simp only[afE]at hE
       subst hE
       obtain⟨g,hg,hpv⟩:=hsl.2 rr hx hv
       have hat:=((hI.rowAt hx hg (fW hlv)).drop o).take τ.size
       obtain⟨u,hu1,hu2⟩:=VI hT hτ hat (by simp;omega) hd'
       refine⟨u,?_,(hu2.less fun b hb=>hl.le b hb).eX⟩
       simp only[ze,hpv,asAddr,af2,Sem.run_pure,Result.andThen_ok,hu1]
      ·cases hE
     ·cases hE
    ·cases hE
   ·cases h1
  ·cases h1
theorem OS (hT:gm P T) {M':Nat->Prop} {V:Nat->Nat->Prop} {s:St} (hI:Inv N M L w0 blk V s.t s.h a w):∀(rs:List ResultVar) (ds:List D) (fr:List Nat),rF T s rs=some (ds,fr)->mE M s.h blk fr M' ->
  ∃us:List Value,(rs.mapM (ze a.tmps)).run P w=.ok us w∧us.length=ds.length∧∀j d,ds[j]? = some d->RP w M' d (us.getD j undef)
 | [],ds,fr,h,_=>by
  simp only[rF,afE,Prod.mk.injEq]at h
  obtain⟨rfl,_⟩:=h
  exact⟨[],by simp,rfl,fun j d hj=>by simp at hj⟩
 | r::rs,ds,fr,h,hl=>by
  simp only[rF]at h
  split at h
  ·rename_i d fr1 h1
   split at h
   ·rename_i ds2 fr2 h2
    simp only[afE,Prod.mk.injEq]at h
    obtain⟨rfl,rfl⟩:=h
    obtain⟨us,i1,i2,i3⟩:=OS hT hI rs ds2 fr2 h2 hl.right
    obtain⟨u,hu1,hu2⟩:=YC (P:=P) hT hI h1 hl.left
    refine⟨u::us,?_,by simp[i2],fun j d hj =>?_⟩
    ·simp only[List.mapM_cons,af2,hu1,Result.andThen_ok,i1,Sem.run_pure]
    ·cases j with
     | zero=>simp only[List.getElem?_cons_zero,afE]at hj;subst hj;simpa using hu2
     | succ j=>simpa using i3 j d (by simpa using hj)
   ·cases h
  ·cases h
theorem oZ (hT:gm P T) {M':Nat->Prop} {V:Nat->Nat->Prop} {s:St} (hI:Inv N M L w0 blk V s.t s.h a w) {fn:Func} {ds:List D} {fr:List Nat} (h:rF T s fn.results.toList=some (ds,fr)) (hl:mE M s.h blk fr M') :
  ∃v,(results fn a.tmps).run P w=.ok v w∧RP w M' (jZ ds) v:=by
 obtain⟨us,i1,i2,i3⟩:=OS (P:=P) hT hI _ ds fr h hl
 have hm:(fn.results.mapM (ze a.tmps)).run P w=.ok us.toArray w:=by
  rw[ago,Sem.run_map,i1]
  rfl
 rw[Ev]
 simp only[af2,hm,Result.andThen_ok,Sem.run_pure]
 refine⟨_,rfl,?_⟩
 match us,ds,i2,i3 with
 | [u],[d],_,i3=>simpa [jZ] using i3 0 d rfl
 | [],[],_,_=>exact .tup [] [] rfl (fun j x hj=>by simp at hj)
 | u1::u2::us,d1::d2::ds,i2,i3 =>
  have:¬(u1::u2::us).toArray.size=1:=by simp
  rw[dif_neg this]
  exact .tup _ _ (by simpa using i2) i3
theorem mm {fn:Func} {tm:Array Value} {i:Nat} (h:fn.results.toList=[.tmp i]):(results fn tm).run P w=.ok (tm.getD i undef) w:=by
 have he:fn.results = #[.tmp i]:=by rw[<- h]
 rw[Ev,he]
 simp[ze]
theorem Inv.pL {V:Nat->Nat->Prop} {s:St} {ty0 s0:Nat} (hI:Inv N M L w0 blk V s.t s.h a w) {fn:Func} {rk:RK} {out:Option Row} (he:Am.pL ty0 s0 fn.results.toList s=some (rk,out)) :
  out=none∧∃v ty sz n cells,rk=.fresh ty sz n cells∧(results fn a.tmps).run P w=.ok v w∧ss w0 w M (LB L) v rk:=by
 unfold Am.pL at he
 split at he
 ·rename_i i hrs
  have hsl:=hI.slots i
  unfold lq at he
  split at he
  ·rename_i x v sz o n ht
   rw[ht]at hsl
   split at he
   ·rename_i hsz
    subst hsz
    unfold uf at he
    split at he
    ·rename_i r hlv
     split at he
     ·rename_i hcond
      obtain⟨hz,hty,hle⟩:=hcond
      simp only[afE,Prod.mk.injEq]at he
      obtain⟨rfl,rfl⟩:=he
      refine⟨rfl,a.tmps.getD i undef,_,_,_,_,rfl,mm hrs,?_⟩
      obtain⟨hx,hv⟩:=bU hlv
      have hol:((r.cells.drop o).take (n*sz)).length=n*sz:=by simp;omega
      rcases hI.wX hlv hsl with⟨g,o',c,cs,g0,g1,g2,g3,g4,g5,g7,g8⟩|⟨g0,rfl,g2,A,g3⟩
      ·by_cases hc:0<c∨o=0
       ·obtain⟨k1,k2⟩:=g5 hc
        subst k1
        refine .inl ⟨(g.1,g.2+o),c,cs,g1,(show w0.heap.size<=g.1∨LB L g.1 from hI.base hx g0),by rw[<- hty];exact g4,g2,g3,k2,by rw[hol];simp only;omega,fun j d hj =>?_⟩
        rw[b7]at hj
        split at hj
        ·rw[afQ]
         refine⟨(g8 _ _ hj).1,(g8 _ _ hj).2.less fun b hb =>?_⟩
         rcases hb with hb|rfl
         ·exact .inl hb
         ·exact .inr ⟨x,r,g,hx,hz,g0,rfl⟩
        ·cases hj
       ·have hn:n=0:=by omega
        have hc0:c=0:=by omega
        subst hn hc0
        exact .inr ⟨rfl,by simp,_,g1⟩
      ·exact .inr ⟨rfl,by simp,A,g3⟩
     ·cases he
    ·cases he
   ·cases he
  ·rename_i nl tg xs ht
   rw[ht]at hsl
   split at he
   ·rename_i hnt
    simp only[afE,Prod.mk.injEq]at he
    obtain⟨rfl,rfl⟩:=he
    refine⟨rfl,a.tmps.getD i undef,_,_,_,_,rfl,mm hrs,.inr ⟨rfl,rfl,?_⟩⟩
    have hr:RP w (Own M s.h blk) (.sl nl tg 0 xs) (a.tmps.getD i undef):=hsl
    generalize a.tmps.getD i undef=u at *
    cases hr with
    | sl A c nl tight n xs us h1 h2 h3 h4 h5 h6 h7 h8 =>
     have hc:c=0:=by
      exact h5 hnt
     subst hc
     exact⟨A,rfl⟩
   ·cases he
  ·cases he
 ·cases he
theorem tD {args:List D} {vs:Array Value} {n i:Nat} (hs:vs.size=args.length):(vs++Array.replicate (n-vs.size) undef).getD i undef=vs.getD i undef∨args.getD i .und=.und:=by
 by_cases hi:i<args.length
 ·left
  have:i<vs.size:=by omega
  simp[afA,Array.getElem?_append_left this]
 ·right
  simp[List.getD,ag7 (ahc hi)]
theorem Ut {h:Nat->Option Row} (hp:∀k r,h k=some r->k<2*PK∧pO r=true):EH h=h:=by
 funext k
 by_cases hk:k<2*PK
 ·rw[pE hk]
  cases hh:h k with
  | none=>rfl
  | some r =>
   simp only[Option.map_some,Bl]
   split
   ·rename_i hm
    obtain⟨ks,vs,hc⟩:=xH (hp k r hh).2 hm
    cases r
    simp only at hc
    subst hc
    rfl
   ·rfl
 ·have h1:h k=none:=by
   cases hh:h k with
   | none=>rfl
   | some r=>exact absurd (hp k r hh).1 hk
  rw[h1]
  unfold EH
  rw[if_neg hk]
  cases hh:h (k % PK) with
  | none=>rfl
  | some r =>
   simp only[Option.bind_some,oV]
   split
   ·rename_i hm
    obtain⟨ks,vs,hc⟩:=xH (hp _ r hh).2 hm
    rw[hc]
    rfl
   ·rfl
theorem BE {h:Nat->Option Row} (hp:∀k r,h k=some r->k<2*PK∧r.mp=false):EH h=h:=by
 funext k
 by_cases hk:k<2*PK
 ·rw[pE hk]
  cases hh:h k with
  | none=>rfl
  | some r =>
   simp only[Option.map_some,Bl,(hp k r hh).2]
   rfl
 ·have h1:h k=none:=by
   cases hh:h k with
   | none=>rfl
   | some r=>exact absurd (hp k r hh).1 hk
  rw[h1]
  unfold EH
  rw[if_neg hk]
  cases hh:h (k % PK) with
  | none=>rfl
  | some r =>
   simp only[Option.bind_some,oV,(hp _ r hh).2]
   rfl
theorem iJ (hT:gm P T) (hΓ:bA P Γ) (hm:P.follows .mixedOrders=true) {mode:Mode} {f:FuncId} {fn:Func} {F:Nat} {lent:Option (D×Row)} {args:List D} {rk:RK} {out:Option Row} (hf:P.funcs[f]? = some fn)
  (hok:(match fn.body with|some c=>codeOk c|none=>true)=true) (hn:DG lent args<=fn.ntmps) (hlo:DQ lent=true)
  (hr:aW mode T Γ F fn lent args=some (rk,out)):pb P f lent args rk out:=by
 unfold aW at hr
 split at hr<;>try (cases hr;done)
 rename_i c hc
 rw[hc]at hok
 simp only at hok
 split at hr<;>try (cases hr;done)
 rename_i hbig
 split at hr<;>try (cases hr;done)
 rename_i x s hne hv
 cases lent with
 | none =>
  intro w M vs hM hargs
  have hI:Inv fn.ntmps M none w (fun _=>none) (fun x v=>x<fn.ntmps∧v<0) (bM none args).t (bM none args).h { tmps:=vs++Array.replicate (fn.ntmps-vs.size) undef,defers:=[] } w:={
   tab:=fun b hb=>(hargs.tab b hb).less fun b hb=>by
    rcases hb with hb|⟨x,r,g,hx,_⟩
    ·exact hb
    ·cases hx
   below:=dJ.refl _ _
   mlt:=hM
   lent:=fun b hb=>absurd hb oB
   pin:=fun go hg=>by cases hg
   defers:=rfl
   tsz:=by have:=hargs.1;simp only[DG]at hn;simp;omega
   slots:=fun i=>by
    simp only[bM]
    rcases tD (n:=fn.ntmps) (i:=i) hargs.1 with he|he
    ·rw[he]
     by_cases hi:i<args.length
     ·have h1:=hargs.2 i _ (afI hi)
      have e1:args.getD i .und=args[i]:=by simp[List.getD,hi]
      rw[e1]
      exact bo (h1.less fun b hb=>by
       rcases hb with hb|⟨x,r,g,hx,_⟩
       ·exact hb
       ·cases hx)
     ·have e1:args.getD i .und=.und:=by simp[List.getD,ag7 (ahc hi)]
      rw[e1]
      trivial
    ·rw[he];trivial
   rows:=fun x r hx=>by cases hx
   inj:=fun x y r s g g' hx=>by cases hx
   big:=hbig
   pha:=fun y r g hy=>by cases hy
   ali:=fun y r g hy=>by cases hy }
  apply calls_of_wp hf hc
  refine gJ hT hΓ hm c (bM none args) x s _ _ _ hv hok ⟨_,⟨(by rw[BE (fun k r hk=>by cases hk)];exact hI.weaken fun x v hx=>absurd hx.2 (Nat.not_lt_zero _)),fun x r ty s nv cs hx=>by cases hx⟩⟩ (fun a' w' hH =>?_)
  obtain⟨blk',hIE⟩:=hH
  obtain⟨sE,hsE⟩:∃sE:St,sE=⟨s.t,EH s.h,s.e⟩:=⟨_,rfl⟩
  have hI':Inv fn.ntmps M none w blk' (VE fn.ntmps s.e [] s.h) sE.t sE.h a' w':=by rw[hsE];exact hIE.inv
  rw[<- hsE]at hr
  have hbel:Below w.heap.size w w':=hI'.below.below (fun b hb=>absurd hb oB)
  have hpost:a'.defers=[]∧∃v,(results fn a'.tmps).run P w'=.ok v w'∧(∃v',Ending.returned v=.returned v'∧Below w.heap.size w w'∧ss w w' M (fun _=>False) v' rk):=by
   refine⟨hI'.defers,?_⟩
   cases mode with
   | clean =>
    simp only[eZ,nP,iP]at hr
    split at hr<;>try (cases hr;done)
    rename_i ds fr o hres ho
    split at hr<;>try (cases hr;done)
    simp only[afE,Prod.mk.injEq]at hr
    obtain⟨rfl,_⟩:=hr
    obtain⟨v,hv1,hv2⟩:=oZ (P:=P) hT hI' hres (hI'.abo fr)
    exact⟨v,hv1,v,rfl,hbel,hv2⟩
   | same =>
    simp only[eZ,Bv,iP]at hr
    split at hr<;>try (cases hr;done)
    split at hr
    ·rename_i hq;cases hq
    ·cases hr
   | tight =>
    simp only[eZ,CV]at hr
    split at hr<;>try (cases hr;done)
    rename_i i _ hrs
    have hsl:=hI'.slots i
    generalize sE.t i=dd at *
    unfold ui at hr
    split at hr<;>try (cases hr;done)
    rename_i nl tg n xs
    simp only[afE,Prod.mk.injEq]at hr
    obtain⟨rfl,_⟩:=hr
    have hsl':RP w' (Own M sE.h blk') (.sl nl tg n xs) (a'.tmps.getD i undef):=hsl
    exact⟨a'.tmps.getD i undef,mm hrs,_,rfl,hbel,hsl'.less fun b hb =>.inl hb⟩
   | fresh ty0 s0 =>
    obtain⟨rfl,v,ty,sz,n,cells,rfl,hv1,hv2⟩:=hI'.pL (P:=P) hr
    refine⟨v,hv1,v,rfl,hbel,?_⟩
    rcases hv2 with⟨g,k1,cs,k2,k3,k4⟩|hv2
    ·exact .inl ⟨g,k1,cs,k2,k3.imp id (fun hb=>absurd hb oB),k4⟩
    ·exact .inr hv2
  cases x with
  | normal=>exact hpost
  | ret=>exact hpost
  | exit n=>exact (hne n rfl).elim
 | some p =>
  obtain⟨d0,r⟩:=p
  intro w M go u0 vs hM hgoM hz hmp hrow hlv hargs
  have hown:∀b,Own M (bM (some (d0,r)) args).h (fun x=>if x=0 then go else none) b↔(M b∨sf go b):=by
   intro b
   constructor
   ·rintro (hb|⟨x,r',g,hx,_,hg,he⟩)
    ·exact .inl hb
    ·simp only[bM]at hx
     split at hx
     ·rename_i h0
      subst h0
      simp only[if_true]at hg
      exact .inr ⟨g,hg,he.symm⟩
     ·cases hx
   ·rintro (hb|⟨g,hg,he⟩)
    ·exact .inl hb
    ·exact .inr ⟨0,{ r with v:=0 },g,rfl,hz,by simpa using hg,he.symm⟩
  have hI:Inv fn.ntmps M (JN go) w (fun x=>if x=0 then go else none) (fun x v=>x<fn.ntmps∧v<1) (bM (some (d0,r)) args).t (bM (some (d0,r)) args).h { tmps:=(#[u0]++vs)++Array.replicate (fn.ntmps-(#[u0]++vs).size) undef,defers:=[] } w:={
   tab:=fun b hb=>(hargs.tab b hb).less fun b hb=>(hown b).1 hb
   below:=dJ.refl _ _
   mlt:=hM
   lent:=fun b hb=>hgoM b (I6.1 hb)
   pin:=fun go' hg=>by
    cases hg
    exact⟨⟨by simp only[DG]at hn;omega,ahd⟩,fun r' _ _=>⟨rfl,fun g _=>rfl⟩⟩
   defers:=rfl
   tsz:=by have:=hargs.1;simp only[DG]at hn;simp;omega
   slots:=fun i=>by
    simp only[bM]
    rcases tD (args:=d0::args) (vs:=#[u0]++vs) (n:=fn.ntmps) (i:=i) (by simp[hargs.1];omega) with he|he
    ·rw[he]
     cases i with
     | zero =>
      have e1:(#[u0]++vs).getD 0 undef=u0:=by simp[Array.getElem?_append]
      rw[e1]
      simp only[agA]
      cases d0 with
      | buf x v sz o n =>
       have hxv:x=0∧v=0:=by
        simp only[DQ]at hlo
        split at hlo<;>simp_all
       obtain⟨rfl,rfl⟩:=hxv
       exact⟨⟨by simp only[DG]at hn;omega,ahd⟩,fun r' h1 h2=>by simpa using hlv.2 ⟨0,0,[],false,false,false⟩ rfl rfl⟩
      | ptr x v o =>
       have hxv:x=0∧v=0:=by
        simp only[DQ]at hlo
        split at hlo<;>simp_all
       obtain⟨rfl,rfl⟩:=hxv
       exact⟨⟨by simp only[DG]at hn;omega,ahd⟩,fun r' h1 h2=>by simpa using hlv.2 ⟨0,0,[],false,false,false⟩ rfl rfl⟩
      | mp x v =>
       have hxv:x=0∧v=0:=by
        simp only[DQ]at hlo
        split at hlo<;>simp_all
       obtain⟨rfl,rfl⟩:=hxv
       exact⟨⟨by simp only[DG]at hn;omega,ahd⟩,fun r' h1 h2=>by simpa using hlv.2 ⟨0,0,[],false,false,false⟩ rfl rfl⟩
      | _=>simp[DQ]at hlo
     | succ i =>
      have e1:(#[u0]++vs).getD (i+1) undef=vs.getD i undef:=by
       simp only[afA]
       rw[Array.getElem?_append_right (by simp)]
       simp
      rw[e1]
      simp only[agB]
      by_cases hi:i<args.length
      ·have h1:=hargs.2 i _ (afI hi)
       have e1:args.getD i .und=args[i]:=by simp[List.getD,hi]
       rw[e1]
       exact bo (h1.less fun b hb=>(hown b).1 hb)
      ·have e1:args.getD i .und=.und:=by simp[List.getD,ag7 (ahc hi)]
       rw[e1]
       trivial
    ·rw[he];trivial
   rows:=fun x r' hx=>by
    simp only[bM]at hx
    split at hx
    ·rename_i h0
     subst h0
     simp only[afE]at hx
     subst hx
     refine⟨fun hn=>⟨hn,ahd⟩,?_⟩
     simp only[if_true]
     cases go with
     | none=>exact hrow
     | some g =>
      exact⟨.inr (I6.2 ⟨g,rfl,rfl⟩),du.keep (r':={ r with v:=0 }) hrow rfl rfl rfl rfl (fun b h1 h2=>⟨h1,fun hb=>h2 ((hown b).1 hb),rfl⟩)⟩
    ·cases hx
   inj:=fun x y r1 r2 g g' hx hy _ _ _=>by
    simp only[bM]at hx hy
    split at hx
    ·split at hy
     ·omega
     ·cases hy
    ·cases hx
   big:=hbig
   pha:=fun y r1 g hy hm _ j x s n hj=>by
    simp only[bM]at hy
    split at hy
    ·simp only[afE]at hy
     subst hy
     obtain⟨ks,vs',hc⟩:=xH hmp hm
     rw[show ({ r with v:=0 } : Row).cells=r.cells from rfl,hc]at hj
     cases j<;>simp at hj
    ·cases hy
   ali:=fun y r1 g hy hz1=>by
    simp only[bM]at hy
    split at hy
    ·simp only[afE]at hy
     subst hy
     simp_all
    ·cases hy }
  have hplain:EH (bM (some (d0,r)) args).h=(bM (some (d0,r)) args).h:=by
   refine Ut fun k r' hk =>?_
   simp only[bM]at hk
   split at hk
   ·rename_i h0
    subst h0
    simp only[afE]at hk
    subst hk
    exact⟨(by have:=bZ;omega),by simpa [pO] using hmp⟩
   ·cases hk
  have hnv0:E4 (bM (some (d0,r)) args).e [] (bM (some (d0,r)) args).h:=by
   intro x r' ty s nv cs hx hm'
   simp only[bM]at hx
   split at hx
   ·simp only[afE]at hx
    subst hx
    intro hc'
    obtain⟨ks,vs',hc⟩:=xH hmp hm'
    rw[show ({ r with v:=0 } : Row).cells=r.cells from rfl,hc]at hc'
    cases hc'
   ·cases hx
  apply calls_of_wp hf hc
  refine gJ hT hΓ hm c (bM (some (d0,r)) args) x s _ _ _ hv hok ⟨_,⟨(by rw[hplain];exact hI.weaken fun x v hx =>.inl ⟨hx.1,.inl hx.2⟩),hnv0⟩⟩ (fun a' w' hH =>?_)
  obtain⟨blk',hIE⟩:=hH
  obtain⟨sE,hsE⟩:∃sE:St,sE=⟨s.t,EH s.h,s.e⟩:=⟨_,rfl⟩
  have hI':Inv fn.ntmps M (JN go) w blk' (VE fn.ntmps s.e [] s.h) sE.t sE.h a' w':=by rw[hsE];exact hIE.inv
  rw[<- hsE]at hr
  have hbel:dJ (sf go) w w':=⟨hI'.below.os,hI'.below.tape,hI'.below.output,hI'.below.size,fun k hk hn=>hI'.below.block k hk (fun hb=>hn (I6.1 hb))⟩
  have hlast:∀r1,iP (some (d0,r)) sE=some (some r1)->sE.h 0=some r1∧r1.v=0∧r1.fz=false∧(r1.ty=r.ty∧(r1.mp=r.mp∧pO r1=true))∧blk' 0=go∧(∀g,go=some g->w'.shape? g.1=w.shape? g.1)∧(∀b,(M b∨sf go b)->Own M sE.h blk' b):=by
   intro r1 hl
   simp only[iP]at hl
   split at hl<;>try (cases hl;done)
   rename_i r2 h2
   split at hl<;>try (cases hl;done)
   rename_i hcond
   simp only[afE]at hl
   subst hl
   obtain⟨c1,c2,c3⟩:=hcond
   obtain⟨_,k2⟩:=hI'.pin _ rfl
   obtain⟨k3,k4⟩:=k2 r2 h2 c1
   refine⟨h2,c1,c2,c3,k3,k4,?_⟩
   rintro b (hb|⟨g,hg,he⟩)
   ·exact .inl hb
   ·exact .inr ⟨0,r2,g,h2,c2,k3.trans hg,he.symm⟩
  have hrowin:∀r1,iP (some (d0,r)) sE=some (some r1)->RW w' (fun b=>M b∨sf go b) go r1:=by
   intro r1 hl
   obtain⟨h1,_,_,h4,h5,_,h7⟩:=hlast r1 hl
   have:=(hI'.rows 0 r1 h1).2
   rw[h5]at this
   cases go with
   | none=>exact this
   | some g =>
    exact du.keep this.2 rfl rfl rfl rfl (fun b h1 h2=>⟨h1,fun hb=>h2 (h7 b hb),rfl⟩)
  have hpost:a'.defers=[]∧∃v,(results fn a'.tmps).run P w'=.ok v w'∧(∃v',Ending.returned v=.returned v'∧dJ (sf go) w w'∧aaX w w' M go r out∧aaZ w w' M go v' rk):=by
   refine⟨hI'.defers,?_⟩
   cases mode with
   | clean =>
    simp only[eZ,nP]at hr
    split at hr<;>try (cases hr;done)
    rename_i ds fr o hres ho
    split at hr<;>try (cases hr;done)
    rename_i hfr
    simp only[Yh,af7,List.contains_eq_mem,decide_eq_false_iff_not]at hfr
    simp only[afE,Prod.mk.injEq]at hr
    obtain⟨rfl,rfl⟩:=hr
    cases o with
    | none =>
     simp only[iP]at ho
     split at ho<;>try (cases ho;done)
     split at ho<;>cases ho
    | some r1 =>
     obtain⟨h1,h2,h3,h4,h5,h6,h7⟩:=hlast r1 ho
     have hless:mE M sE.h blk' fr (fun b=>M b∨sf go b):=by
      refine⟨h7,fun x hx r' g hx' hg hb =>?_⟩
      rcases hb with hb|⟨g',hg',he⟩
      ·exact hI'.notM hx' hg hb
      ·have:x=0:=hI'.inj x 0 r' r1 g g' hx' h1 hg (h5.trans hg') he
       subst this
       exact hfr hx
     obtain⟨v,hv1,hv2⟩:=oZ (P:=P) hT hI' hres hless
     exact⟨v,hv1,v,rfl,hbel,⟨h4.1,h3,h4.2,h6,hrowin r1 ho⟩,hv2⟩
   | same =>
    simp only[eZ,Bv]at hr
    split at hr<;>try (cases hr;done)
    rename_i i hrs
    split at hr<;>try (cases hr;done)
    rename_i sz o n r1 ht ho
    simp only[afE,Prod.mk.injEq]at hr
    obtain⟨rfl,rfl⟩:=hr
    obtain⟨h1,h2,h3,h4,h5,h6,h7⟩:=hlast r1 ho
    refine⟨a'.tmps.getD i undef,mm hrs,_,rfl,hbel,⟨h4.1,h3,h4.2,h6,hrowin r1 ho⟩,?_⟩
    have hsl:=hI'.slots i
    rw[ht]at hsl
    refine⟨trivial,fun r' _ _ =>?_⟩
    have:=hsl.2 r1 h1 h2
    rw[h5]at this
    exact this
   | tight =>
    simp only[eZ,CV]at hr
    cases hr
   | fresh ty0 s0 =>
    obtain⟨rfl,v,ty,sz,n,cells,rfl,hv1,hv2⟩:=hI'.pL (P:=P) hr
    refine⟨v,hv1,v,rfl,hbel,trivial,?_⟩
    rcases hv2 with⟨g,k1,cs,k2,k3,k4⟩|hv2
    ·exact .inl ⟨g,k1,cs,k2,k3.imp id (fun hb=>I6.1 hb),k4⟩
    ·exact .inr hv2
  cases x with
  | normal=>exact hpost
  | ret=>exact hpost
  | exit n=>exact (hne n rfl).elim
def ext (Γ:Env) (f:Nat) (l:Bool) (G:Option (D×Row)->List D->Option (RK×Option Row)):Env:=⟨fun g=>if g=f then l else Γ.lends g,fun g lent afq=>if g=f then G lent afq else Γ.sem g lent afq,Γ.own,Γ.hint,Γ.ins,Γ.grw,Γ.nst,Γ.nx⟩
theorem bA.ext (hΓ:bA P Γ) {f:Nat} {l:Bool} {G:Option (D×Row)->List D->Option (RK×Option Row)} (hG:∀lent afq rk out,G lent afq=some (rk,out)->pb P f lent afq rk out) (hc:dy P f):bA P (Am.ext Γ f l G):=by
 refine⟨fun g lent afq rk out h =>?_,hΓ.ins,hΓ.grw,hΓ.lnd,hΓ.res⟩
 simp only[Am.ext]at h
 split at h
 ·rename_i he;subst he;exact⟨hG lent afq rk out h,hc⟩
 ·exact hΓ.calls g lent afq rk out h
def aY:Env:=⟨fun _=>false,fun _ _ _=>none,fun _=>true,fun _=>none,fun _=>none,fun _=>none,fun _=>none,{}⟩
theorem bA.none:bA P aY:=⟨fun f lent args rk out h=>(by cases h),fun f p h=>(by cases h),fun f p h=>(by cases h),fun f p h=>(by cases h),fun f p h=>(by cases h)⟩
def keep (d:Nat) (Γ:Env):Env:=⟨Γ.lends,Γ.sem,fun i=>i != d&&Γ.own i,Γ.hint,Γ.ins,Γ.grw,Γ.nst,Γ.nx⟩
theorem bA.keep (hΓ:bA P Γ) (d:Nat):bA P (Am.keep d Γ):=⟨hΓ.calls,hΓ.ins,hΓ.grw,hΓ.lnd,hΓ.res⟩
def vK (d y:Nat) (Γ:Env):Env:=⟨Γ.lends,Γ.sem,Γ.own,fun i=>if i=d then some y else Γ.hint i,Γ.ins,Γ.grw,Γ.nst,Γ.nx⟩
theorem bA.vK (hΓ:bA P Γ) (d y:Nat):bA P (Am.vK d y Γ):=⟨hΓ.calls,hΓ.ins,hΓ.grw,hΓ.lnd,hΓ.res⟩
def Dj (f:Nat) (p:Nat×Nat×Nat) (Γ:Env):Env:=⟨Γ.lends,Γ.sem,Γ.own,Γ.hint,fun g=>if g=f then some p else Γ.ins g,Γ.grw,Γ.nst,Γ.nx⟩
theorem bA.Dj (hΓ:bA P Γ) {f:Nat} {p:Nat×Nat×Nat} (hi:abJ P f p):bA P (Am.Dj f p Γ):=⟨hΓ.calls,fun g q h=>by
 simp only[Am.Dj]at h
 split at h
 ·rename_i he;subst he;cases h;exact hi
 ·exact hΓ.ins g q h,hΓ.grw,hΓ.lnd,hΓ.res⟩
def vp (d:Nat) (p:Nat×Nat×Nat) (Γ:Env):Env:=⟨Γ.lends,Γ.sem,Γ.own,Γ.hint,Γ.ins,Γ.grw,fun i=>if i=d then some p else Γ.nst i,Γ.nx⟩
theorem bA.vp (hΓ:bA P Γ) (d:Nat) (p:Nat×Nat×Nat):bA P (Am.vp d p Γ):=⟨hΓ.calls,hΓ.ins,hΓ.grw,hΓ.lnd,hΓ.res⟩
def A7 (f:Nat) (p:Nat×(Nat->Nat->Nat->Nat->List D->List D->Option (D×List D))) (Γ:Env):Env:=⟨Γ.lends,Γ.sem,Γ.own,Γ.hint,Γ.ins,Γ.grw,Γ.nst,⟨fun g=>if g=f then some p else Γ.nx.lnd g,Γ.nx.res⟩⟩
theorem bA.A7 (hΓ:bA P Γ) {f:Nat} {p:Nat×(Nat->Nat->Nat->Nat->List D->List D->Option (D×List D))} (hc:dy P f) (hi:∀ty t s o cs args d cs',p.2 ty t s o cs args=some (d,cs')->I4 P f ty t s o cs args d cs'):bA P (Am.A7 f p Γ):=⟨hΓ.calls,hΓ.ins,hΓ.grw,fun g q h=>by
 simp only[Am.A7]at h
 split at h
 ·rename_i he;subst he;cases h;exact⟨hc,hi⟩
 ·exact hΓ.lnd g q h,hΓ.res⟩
def Ba (f:Nat) (p:List D->Option (Nat×Nat×Nat×Nat×Nat×List D)) (Γ:Env):Env:=⟨Γ.lends,Γ.sem,Γ.own,Γ.hint,Γ.ins,Γ.grw,Γ.nst,⟨Γ.nx.lnd,fun g=>if g=f then some p else Γ.nx.res g⟩⟩
theorem bA.Ba (hΓ:bA P Γ) {f:Nat} {p:List D->Option (Nat×Nat×Nat×Nat×Nat×List D)} (hc:dy P f) (hi:∀args ty t s S n cs,p args=some (ty,t,s,S,n,cs)->I3 P f args ty t s S n cs):bA P (Am.Ba f p Γ):=⟨hΓ.calls,hΓ.ins,hΓ.grw,hΓ.lnd,fun g q h=>by
 simp only[Am.Ba]at h
 split at h
 ·rename_i he;subst he;cases h;exact⟨hc,hi⟩
 ·exact hΓ.res g q h⟩
def Dc (f:Nat) (p:Grow) (Γ:Env):Env:=⟨Γ.lends,Γ.sem,Γ.own,Γ.hint,Γ.ins,fun g=>if g=f then some p else Γ.grw g,Γ.nst,Γ.nx⟩
theorem bA.Dc (hΓ:bA P Γ) {f:Nat} {p:Grow} (hi:Wa P f p):bA P (Am.Dc f p Γ):=⟨hΓ.calls,hΓ.ins,fun g q h=>by
 simp only[Am.Dc]at h
 split at h
 ·rename_i he;subst he;cases h;exact hi
 ·exact hΓ.grw g q h,hΓ.lnd,hΓ.res⟩
end
def pC (ty t s o:Nat) (cs args:List D):St:=⟨fun i=>(.ptr 0 0 o::args).getD i .und,lB (gW ty t s 0 cs),1⟩
def Xp (t s:Nat) (ds:List D):List D->Option (D×List D)
 | [.nr t' s' _ cs']=>if t'=t∧s'=s then some (jZ ds,cs') else none
 | _=>none
def L8 (ty t s:Nat):Option (List D×List Nat)->Option Row->Option (D×List D)
 | some (ds,fr),some r=>if r.v=0∧r.fz=false∧r.ty=ty∧r.mp=true∧fr.all (fun k=>rt k != 0)=true then Xp t s ds r.cells else none
 | _,_=>none
def UO (T:Nat->Option Ty) (ty t s:Nat) (rs:List ResultVar) (st:St):Option (D×List D):=L8 ty t s (rF T ⟨st.t,EH st.h,st.e⟩ rs) (st.h 0)
def RD (T:Nat->Option Ty) (Γ:Env) (F:Nat) (fn:Func) (ty t s o:Nat) (cs args:List D):Option (D×List D) :=
 match fn.body with
 | some c =>
  if fn.ntmps<=PK then
   match fi T Γ fn.ntmps F c (pC ty t s o cs args) with
   | some (.exit _,_)=>none
   | some (_,st)=>UO T ty t s fn.results.toList st
   | none=>none
  else none
 | none=>none
def Xo (x S n:Nat) (ty:Nat):List D->Option (Nat×Nat×Nat×Nat×Nat×List D)
 | [.nr t s _ cs]=>if x<PK then some (ty,t,s,S,n,cs) else none
 | _=>none
def L6 (x v S n:Nat):Option Row->Option (Nat×Nat×Nat×Nat×Nat×List D)
 | some r=>if r.v=v∧r.fz=false∧r.mp=true then Xo x S n r.ty r.cells else none
 | none=>none
def SI (h:Nat->Option Row):D->Option (Nat×Nat×Nat×Nat×Nat×List D)
 | .buf x v S 0 n=>L6 x v S n (h x)
 | _=>none
def UN (rs:List ResultVar) (st:St):Option (Nat×Nat×Nat×Nat×Nat×List D) :=
 match rs with
 | [.tmp i]=>SI st.h (st.t i)
 | _=>none
def Kx (T:Nat->Option Ty) (Γ:Env) (F:Nat) (fn:Func) (args:List D):Option (Nat×Nat×Nat×Nat×Nat×List D) :=
 match fn.body with
 | some c =>
  if fn.ntmps<=PK then
   match fi T Γ fn.ntmps F c (bM none args) with
   | some (.exit _,_)=>none
   | some (_,st)=>UN fn.results.toList st
   | none=>none
  else none
 | none=>none
section
variable {P:Program} {T:Nat->Option Ty} {N:Nat} {M:Nat->Prop} {L:ik} {w0:World} {blk:Nat->Option (Nat×Nat)} {a:Act} {w:World} {Γ:Env}
theorem Kz (hT:gm P T) (hΓ:bA P Γ) (hm:P.follows .mixedOrders=true) {f:FuncId} {fn:Func} {F:Nat} {ty t s o:Nat} {cs args cs':List D} {d:D} (hf:P.funcs[f]? = some fn)
  (hok:(match fn.body with|some c=>codeOk c|none=>true)=true) (hn:args.length+1<=fn.ntmps)
  (hr:RD T Γ F fn ty t s o cs args=some (d,cs')):I4 P f ty t s o cs args d cs':=by
 unfold RD at hr
 split at hr<;>try (cases hr;done)
 rename_i c hc
 rw[hc]at hok
 simp only at hok
 split at hr<;>try (cases hr;done)
 rename_i hbig
 split at hr<;>try (cases hr;done)
 rename_i x st hne hv
 intro w M blk h0 h1 g0 vs hh0 hh1 hM hdis hg0 hR hargs
 have hpk:=bZ
 have hfz:∀k r,h0 k=some r->r.fz=false:=by
  intro k r hk
  rw[hh0]at hk
  rcases gO hk with⟨_,rfl⟩|⟨_,_,_,_,_,rfl⟩<;>rfl
 have hown:∀b,Own M h0 blk b↔(M b∨tU blk h0 b):=by
  intro b
  constructor
  ·rintro (hb|⟨k,r,g,h1,_,h2,h3⟩)
   ·exact .inl hb
   ·exact .inr ⟨k,r,g,h1,h2,h3⟩
  ·rintro (hb|⟨k,r,g,h1,h2,h3⟩)
   ·exact .inl hb
   ·exact .inr ⟨k,r,g,h1,hfz k r h1,h2,h3⟩
 have hrow0:h0 0=some ⟨0,ty,cs.mapIdx (ow 0 s),false,true,true⟩:=by rw[hh0];exact tB
 obtain⟨LL,hLL⟩:∃LL:ik,LL=some (some g0,tU blk h0):=⟨_,rfl⟩
 have hLB:∀b,LB LL b↔tU blk h0 b:=by
  intro b
  subst hLL
  constructor
  ·rintro⟨p,hp,h⟩
   cases hp
   rcases h with⟨g,hg,rfl⟩|h
   ·cases hg;exact⟨0,_,g0,hrow0,hg0,rfl⟩
   ·exact h
  ·exact fun h=>⟨_,rfl,.inr h⟩
 have hI:Inv fn.ntmps M LL w blk (fun x v=>x<fn.ntmps∧v<1) (pC ty t s o cs args).t h0 { tmps:=(#[Value.pointer (some ⟨g0.1,g0.2+o,none⟩)]++vs)++Array.replicate (fn.ntmps-(#[Value.pointer (some ⟨g0.1,g0.2+o,none⟩)]++vs).size) undef,defers:=[] } w:={
  tab:=fun b hb=>(hargs.tab b hb).less fun b hb=>(hown b).1 hb
  below:=dJ.refl _ _
  mlt:=hM
  lent:=fun b hb=>hdis b ((hLB b).1 hb)
  pin:=fun p hp=>by
   subst hLL
   cases hp
   exact⟨⟨by omega,ahd⟩,fun r' _ _=>⟨hg0,fun g _=>rfl⟩⟩
  defers:=rfl
  tsz:=by have:=hargs.1;simp;omega
  slots:=fun i=>by
   simp only[pC]
   rcases tD (args := .ptr 0 0 o::args) (vs:=#[.pointer (some ⟨g0.1,g0.2+o,none⟩)]++vs) (n:=fn.ntmps) (i:=i) (by simp[hargs.1];omega) with he|he
   ·rw[he]
    cases i with
    | zero =>
     have e1:(#[Value.pointer (some ⟨g0.1,g0.2+o,none⟩)]++vs).getD 0 undef=.pointer (some ⟨g0.1,g0.2+o,none⟩):=by simp[Array.getElem?_append]
     rw[e1]
     simp only[agA]
     exact⟨⟨by omega,ahd⟩,fun r' _ _=>⟨g0,hg0,rfl⟩⟩
    | succ i =>
     have e1:(#[Value.pointer (some ⟨g0.1,g0.2+o,none⟩)]++vs).getD (i+1) undef=vs.getD i undef:=by
      simp only[afA]
      rw[Array.getElem?_append_right (by simp)]
      simp
     rw[e1]
     simp only[agB]
     by_cases hi:i<args.length
     ·have h1:=hargs.2 i _ (afI hi)
      have e1:args.getD i .und=args[i]:=by simp[List.getD,hi]
      rw[e1]
      exact bo (h1.less fun b hb=>(hown b).1 hb)
     ·have e1:args.getD i .und=.und:=by simp[List.getD,ag7 (ahc hi)]
      rw[e1]
      trivial
   ·rw[he];trivial
  rows:=fun k r hk=>by
   refine⟨fun hn =>?_,?_⟩
   ·rw[hh0]at hk
    rcases gO hk with⟨rfl,rfl⟩|⟨o',_,_,rfl,_,rfl⟩
    ·exact⟨hn,ahd⟩
    ·have:=dX 0 o';omega
   ·have:=hR.rows k r hk
    cases hg:blk k with
    | none=>rw[hg]at this;exact this
    | some g =>
     rw[hg]at this
     exact⟨.inr ((hLB g.1).2 ⟨k,r,g,hk,hg,rfl⟩),this.keep rfl rfl rfl rfl fun b q1 q2=>⟨q1,fun hb=>q2 ((hown b).1 hb),rfl⟩⟩
  inj:=hR.inj
  big:=hbig
  pha:=hR.pha
  ali:=fun y r g hy hz=>by rw[hfz y r hy]at hz;cases hz }
 have hnv0:E4 (pC ty t s o cs args).e [] (pC ty t s o cs args).h:=by
  intro k r' ty' s' nv' cs1 hx hm' hcc
  simp only[pC,lB]at hx
  split at hx
  ·simp only[afE]at hx
   subst hx
   simp only[gW,afT,D.nr.injEq,and_true]at hcc
   obtain⟨_,_,rfl,_⟩:=hcc
   exact fun _=>⟨by simp[pC],fun _=>by simp[pC]⟩
  ·cases hx
 have hEH:EH (pC ty t s o cs args).h=h0:=hh0.symm
 apply calls_of_wp hf hc
 refine gJ hT hΓ hm c (pC ty t s o cs args) x st _ _ _ hv hok ⟨_,⟨(by rw[hEH];exact hI.weaken fun x v hx=>Or.inl ⟨hx.1,Or.inl hx.2⟩),hnv0⟩⟩ (fun a' w' hH =>?_)
 obtain⟨blk',hIE⟩:=hH
 have hI':=hIE.inv
 unfold UO L8 at hr
 split at hr<;>try (cases hr;done)
 rename_i ds fr r1 hres hr1
 split at hr<;>try (cases hr;done)
 rename_i hcond
 obtain⟨c1,c2,c3,c4,c5⟩:=hcond
 unfold Xp at hr
 split at hr<;>try (cases hr;done)
 rename_i t' s' nv' cs1 hcells
 split at hr<;>try (cases hr;done)
 rename_i hts
 obtain⟨rfl,rfl⟩:=hts
 simp only[afE,Prod.mk.injEq]at hr
 obtain⟨rfl,rfl⟩:=hr
 have hE0:=eR hr1 c4 hcells lh
 obtain⟨p1,p2⟩:=(hI'.pin (some g0,tU blk h0) hLL).2 _ hE0 c1
 have hIB:=I5 (blk:=blk') hr1 c4 hcells lh
 rw[c3]at hIB
 have hQ:∀b,(M b∨tU (ov blk' 0) h1 b)->Own M (EH st.h) blk' b:=by
  rintro b (hb|hb)
  ·exact .inl hb
  ·rw[hh1]at hb
   obtain⟨k,r',g',q0,q1,q2,q3⟩:=(hIB b).1 hb
   refine .inr ⟨k,r',g',q1,?_,q2,q3⟩
   rcases dK hr1 c4 hcells lh q0 q1 with⟨_,rfl⟩|⟨_,_,_,_,_,rfl⟩<;>exact c2
 have hless:mE M (EH st.h) blk' fr (fun b=>M b∨tU (ov blk' 0) h1 b):=by
  refine⟨hQ,fun k hk r' g hk1 hg hb =>?_⟩
  rcases hb with hb|hb
  ·exact hI'.notM hk1 hg hb
  ·rw[hh1]at hb
   obtain⟨l,r2,g',q0,q1,q2,q3⟩:=(hIB _).1 hb
   have:=hI'.inj k l r' r2 g g' hk1 q1 hg q2 q3.symm
   subst this
   have:=afG.1 c5 _ hk
   simp[q0]at this
 obtain⟨v,hv1,hv2⟩:=oZ (P:=P) (s:=⟨st.t,EH st.h,st.e⟩) hT hI' hres hless
 have hlend:=hI'.aca hr1 c4 hcells c2 lh hQ
 rw[c3,<- hh1]at hlend
 have hpost:a'.defers=[]∧∃v,(results fn a'.tmps).run P w'=.ok v w'∧(∃v' blk1,Ending.returned v=.returned v'∧dJ (tU blk h0) w w'∧blk1 0=some g0∧w'.shape? g0.1=w.shape? g0.1∧(∀b,tU blk1 h1 b->w.heap.size<=b∨tU blk h0 b)∧FW w' (fun b=>M b∨tU blk1 h1 b) blk1 h1∧RP w' (fun b=>M b∨tU blk1 h1 b) (jZ ds) v'):=by
  refine⟨hI'.defers,v,hv1,v,ov blk' 0,rfl,⟨hI'.below.os,hI'.below.tape,hI'.below.output,hI'.below.size,fun k hk hn=>hI'.below.block k hk fun hb=>hn ((hLB k).1 hb)⟩,by rw[ov,py];exact p1,p2 g0 rfl,fun b hb =>?_,hlend,hv2⟩
  rw[hh1]at hb
  obtain⟨k,r',g',q0,q1,q2,q3⟩:=(hIB b).1 hb
  rcases hI'.base q1 q2 with q|q
  ·exact .inl (by omega)
  ·exact .inr (by rw[<- q3];exact (hLB _).1 q)
 cases x with
 | normal=>exact hpost
 | ret=>exact hpost
 | exit n=>exact (hne n rfl).elim
theorem aeS (hT:gm P T) (hΓ:bA P Γ) (hm:P.follows .mixedOrders=true) {f:FuncId} {fn:Func} {F:Nat} {args:List D} {c:Code} {x:Ex} {st:St} (hf:P.funcs[f]? = some fn) (hc:fn.body=some c) (hok:codeOk c=true) (hn:args.length<=fn.ntmps) (hbig:fn.ntmps<=PK)
  (hv:fi T Γ fn.ntmps F c (bM none args)=some (x,st)) (hne:∀n,x ≠ .exit n) {w:World} {M:Nat->Prop} {vs:Array Value} (hM:∀b,M b->b<w.heap.size) (hargs:wQ w M args vs) {Φ:Ending->World->Prop}
  (hk:∀a' w' blk',Inv fn.ntmps M none w blk' (VE fn.ntmps st.e [] st.h) st.t (EH st.h) a' w'->∃v,(results fn a'.tmps).run P w'=.ok v w'∧Φ (.returned v) w'):Calls P f vs w Φ:=by
 have hI:Inv fn.ntmps M none w (fun _=>none) (fun x v=>x<fn.ntmps∧v<0) (bM none args).t (bM none args).h { tmps:=vs++Array.replicate (fn.ntmps-vs.size) undef,defers:=[] } w:={
  tab:=fun b hb=>(hargs.tab b hb).less fun b hb=>by
   rcases hb with hb|⟨x,r,g,hx,_⟩
   ·exact hb
   ·cases hx
  below:=dJ.refl _ _
  mlt:=hM
  lent:=fun b hb=>absurd hb oB
  pin:=fun go hg=>by cases hg
  defers:=rfl
  tsz:=by have:=hargs.1;simp;omega
  slots:=fun i=>by
   simp only[bM]
   rcases tD (n:=fn.ntmps) (i:=i) hargs.1 with he|he
   ·rw[he]
    by_cases hi:i<args.length
    ·have h1:=hargs.2 i _ (afI hi)
     have e1:args.getD i .und=args[i]:=by simp[List.getD,hi]
     rw[e1]
     exact bo (h1.less fun b hb=>by
      rcases hb with hb|⟨x,r,g,hx,_⟩
      ·exact hb
      ·cases hx)
    ·have e1:args.getD i .und=.und:=by simp[List.getD,ag7 (ahc hi)]
     rw[e1]
     trivial
   ·rw[he];trivial
  rows:=fun x r hx=>by cases hx
  inj:=fun x y r s g g' hx=>by cases hx
  big:=hbig
  pha:=fun y r g hy=>by cases hy
  ali:=fun y r g hy=>by cases hy }
 apply calls_of_wp hf hc
 refine gJ hT hΓ hm c (bM none args) x st _ _ _ hv hok ⟨_,⟨(by rw[BE (fun k r hk=>by cases hk)];exact hI.weaken fun x v hx=>absurd hx.2 (Nat.not_lt_zero _)),fun x r ty s nv cs hx=>by cases hx⟩⟩ (fun a' w' hH =>?_)
 obtain⟨blk',hIE⟩:=hH
 obtain⟨v,h1,h2⟩:=hk a' w' blk' hIE.inv
 have hpost:a'.defers=[]∧∃v,(results fn a'.tmps).run P w'=.ok v w'∧Φ (.returned v) w':=⟨hIE.inv.defers,v,h1,h2⟩
 cases x with
 | normal=>exact hpost
 | ret=>exact hpost
 | exit n=>exact (hne n rfl).elim
theorem Pp {F:Nat} {fn:Func} {args:List D} {ty t s S n:Nat} {cs:List D} (hr:Kx T Γ F fn args=some (ty,t,s,S,n,cs)) :
  ∃c x st i k v r nv,fn.body=some c∧fn.ntmps<=PK∧fi T Γ fn.ntmps F c (bM none args)=some (x,st)∧(∀m,x ≠ .exit m)∧fn.results.toList=[.tmp i]∧st.t i=.buf k v S 0 n∧st.h k=some r∧r.v=v∧r.fz=false∧r.mp=true∧k<PK∧r.ty=ty∧r.cells=[.nr t s nv cs]:=by
 unfold Kx at hr
 split at hr<;>try (cases hr;done)
 rename_i c hc
 split at hr<;>try (cases hr;done)
 rename_i hbig
 split at hr<;>try (cases hr;done)
 rename_i x st hne hv
 unfold UN at hr
 split at hr<;>try (cases hr;done)
 rename_i i hrs
 unfold SI at hr
 split at hr<;>try (cases hr;done)
 rename_i k v S' n' ht
 unfold L6 at hr
 split at hr<;>try (cases hr;done)
 rename_i r hh
 split at hr<;>try (cases hr;done)
 rename_i hcond
 unfold Xo at hr
 split at hr<;>try (cases hr;done)
 rename_i t' s' nv cs' hcells
 split at hr<;>try (cases hr;done)
 rename_i hk
 simp only[afE,Prod.mk.injEq]at hr
 obtain⟨h1,h2,h3,h4,h5,h6⟩:=hr
 subst h2 h3 h4 h5 h6
 exact⟨c,x,st,i,k,v,r,nv,hc,hbig,hv,fun m hm=>hne m hm,hrs,ht,hh,hcond.1,hcond.2.1,hcond.2.2,hk,h1,hcells⟩
theorem Ky (hT:gm P T) (hΓ:bA P Γ) (hm:P.follows .mixedOrders=true) {f:FuncId} {fn:Func} {F:Nat} {args:List D} {ty t s S n:Nat} {cs:List D} (hf:P.funcs[f]? = some fn)
  (hok:(match fn.body with|some c=>codeOk c|none=>true)=true) (hn:args.length<=fn.ntmps)
  (hr:Kx T Γ F fn args=some (ty,t,s,S,n,cs)):I3 P f args ty t s S n cs:=by
 obtain⟨c,x,st,i,k,v,r,nv,hc,hbig,hv,hne,hrs,ht,hh,c1,c2,c3,hk,hty,hcells⟩:=Pp hr
 rw[hc]at hok
 simp only at hok
 intro w M h vs hh0 hM hargs
 refine aeS hT hΓ hm hf hc hok hn hbig hv hne hM hargs fun a' w' blk' hI' =>?_
 have hIB:=I5 (blk:=blk') hh c3 hcells hk
 rw[hty,<- hh0]at hIB
 have hbel:Below w.heap.size w w':=hI'.below.below (fun b hb=>absurd hb oB)
 have hQ:∀b,(M b∨tU (ov blk' k) h b)->Own M (EH st.h) blk' b:=by
  rintro b (hb|hb)
  ·exact .inl hb
  ·obtain⟨l,r',g',q0,q1,q2,q3⟩:=(hIB b).1 hb
   refine .inr ⟨l,r',g',q1,?_,q2,q3⟩
   rcases dK hh c3 hcells hk q0 q1 with⟨_,rfl⟩|⟨_,_,_,_,_,rfl⟩<;>exact c2
 have hlend:=hI'.aca hh c3 hcells c2 hk hQ
 rw[hty,<- hh0]at hlend
 have hsl:=hI'.slots i
 rw[ht]at hsl
 refine⟨_,mm hrs,_,ov blk' k,rfl,hbel,fun b hb =>?_,hlend,trivial,fun r' _ _ =>?_⟩
 ·obtain⟨l,r',g',q0,q1,q2,q3⟩:=(hIB b).1 hb
  rcases hI'.base q1 q2 with q|q
  ·omega
  ·exact absurd q oB
 ·rw[ov,py]
  exact hsl.2 _ (eR hh c3 hcells hk) c1
end
def XL:bV->D
 | (n,none) =>.int .i64 n
 | (a,some b) =>.agg [.int .i64 a,.int .i64 b]
theorem M4 {w:World} {M:Nat->Prop} (k:bV):RP w M (XL k) (jx k):=by
 obtain⟨a,x⟩:=k
 cases x with
 | none=>exact .int _ _
 | some b =>
  refine .agg [.int .i64 a,.int .i64 b] [.int .i64 a,.int .i64 b] rfl (fun j x hj =>?_) (fun x hx =>?_)
  ·match j,hj with
   | 0,hj=>simp only[List.getElem?_cons_zero,afE]at hj;subst hj;exact .int _ _
   | 1,hj=>simp only[List.getElem?_cons_succ,List.getElem?_cons_zero,afE]at hj;subst hj;exact .int _ _
   | j+2,hj=>simp at hj
  ·simp only[afC,agC,or_false]at hx
   rcases hx with rfl|rfl<;>rfl
section
variable {P:Program} {T:Nat->Option Ty} {N:Nat} {M:Nat->Prop} {L:ik} {w0:World} {blk:Nat->Option (Nat×Nat)} {V:Nat->Nat->Prop} {t:Nat->D} {h:Nat->Option Row} {a:Act} {w:World} {e:Nat} {o:Oper} {Γ:Env} {done:List Nat}
theorem sj {x v ty:Nat} {ks:List bV} {vs:List D} {fz lst:Bool} (hx:h x=some ⟨v,ty,[.mpc ks vs],fz,lst,true⟩) (hp:x<PK):EH h x=some ⟨v,ty,[.mpc ks vs],fz,lst,true⟩∧∀o,EH h (NK x o)=none:=by
 constructor
 ·rw[pE (by have:=bZ;omega),hx];rfl
 ·intro o
  rw[pD hp,hx];rfl
theorem tX (hI:qt N M L w0 blk e done t h a w) (hd:∀d:Nat,o.dst=some d->d∉done∧d<N) {E:bt} {v:Value} {w':World} (hrel:fS e h (aH h E.hw)) (hA:ij N M L w0 (VE N e done h) t h a e o.dst E v w'):BD N M L w0 t h a e (o.dst.toList++done) E v w':=by
 have hsub:∀x,x∈done->x∈o.dst.toList++done:=fun x hx=>afK _ hx
 obtain⟨blk',h1,h2⟩:=hA
 have hVV:∀x n,VE N e done h x n∨(o.dst=some x∧n=e)->VE N e (o.dst.toList++done) (aH h E.hw) x n:=by
  rintro x n (hv|⟨hx,rfl⟩)
  ·exact hv.step hrel hsub
  ·exact .inl ⟨(hd x hx).2,.inr ⟨rfl,afJ _ (by rw[hx];simp)⟩⟩
 exact⟨blk',⟨h1.weaken hVV,hI.nv.step hrel hsub⟩,h2.mono ⟨fun _ h1 h2=>⟨h1,h2,rfl⟩,hVV,fun _ _ _ r' h1 h2=>⟨⟨r',h1,h2⟩,rfl,fun _ _=>rfl⟩⟩⟩
theorem yS {ops:Array Oper} {l:List Oper} {Q:Exit->Act->World->Prop} (hg:o.guard=none) {K:(Nat->D)->(Nat->Option Row)->Prop} (hI:qt N M L w0 blk e done t h a w) (hf:fits N o.dst=true)
  (hD:dz P o a w fun v w'=>∃E:bt,K (dU t o.dst E.val) (aH h E.hw)∧BD N M L w0 t h a e (o.dst.toList++done) E v w')
  (hK:∀t' h' a' w' blk',K t' h'->qt N M L w0 blk' e (o.dst.toList++done) t' h' a' w'->wpList P ops Q l a' w'):wpList P ops Q (o::l) a w:=by
 unfold wpList
 have:Region.wanted o (yielded ops a.tmps)=true:=by simp[Region.wanted,hg]
 rw[this]
 simp only[if_true]
 refine .inl (hD.wp fun v w' hA =>?_)
 obtain⟨E,hk,blk',hI',hR⟩:=hA
 exact hK _ _ _ _ blk' hk ⟨hI'.inv.acn hf hR,hI'.nv⟩
theorem PS (hT:gm P T) (hI:Inv N M L w0 blk V t (EH h) a w) {ty d x v v' rty k el:Nat} {m:Operand} {ks:List bV} {vs:List D} {lst:Bool} (ho:o.op=.range ty m) (hd:o.dst=some d) (hV:gR N V d e) (hu:P.underlying ty=some (.map k el)) (hm:ev t m=.mp x v)
  (hx:h x=some ⟨v,rty,[.mpc ks vs],false,lst,true⟩) (hty:rty<900000) (hxp:x<PK) (hdx:d≠x) :
  dz P o a w (ij N M L w0 V t h a e o.dst ⟨.ptr d e 0,[(x,some ⟨v,rty,[.mpc ks vs],true,true,true⟩),(d,some ⟨e,900000,[.mpc ks vs],false,true,true⟩)]⟩):=by
 have hpk:=bZ
 have hbig:=hI.big
 have hdN:d<N:=hV.lt
 have hdp:d<PK:=by omega
 obtain⟨hEx,hEn⟩:=sj hx hxp
 have hmv:=hI.ev m
 rw[hm]at hmv
 have hlm:fV (EH h) x v=some (ks,vs):=by unfold fV;rw[hEx];simp[hty]
 obtain⟨g,r,h1,h2,h3,h4,h5,hmu,hlen,ents,clock,hheap,hsz,hst,us,hk,hv⟩:=hI.NN hlm hmv
 have hrun:=run_range_map (P:=P) w ty k el g.1 ents clock hu hheap
 have hA0:=hI.le (xi (h:=h) d hdp)
 have h0x:bz h d none x=some ⟨v,rty,[.mpc ks vs],false,lst,true⟩:=by rw[au _ _ (Ne.symm hdx)];exact hx
 obtain⟨hE0x,hE0n⟩:=sj h0x hxp
 have hA:=hA0.freeze [x]
 have hfx:∀z,aH (EH (bz h d none)) (gG (EH (bz h d none)) [x]) z=if z=x then some ⟨v,rty,[.mpc ks vs],true,true,true⟩ else EH (bz h d none) z:=by
  intro z
  rw[yW]
  by_cases hz:z=x
  ·subst hz;rw[if_pos (by simp),if_pos rfl,hE0x];rfl
  ·rw[if_neg (by simpa using hz),if_neg hz]
 generalize hh1:aH (EH (bz h d none)) (gG (EH (bz h d none)) [x])=h1' at hA hfx
 have hnew:=heap_alloc_new w (.mapIter (some g.1) clock #[] clock)
 have hold:∀b,b<w.heap.size->(w.alloc (.mapIter (some g.1) clock #[] clock)).heap[b]? = w.heap[b]?:=fun b hb=>Below.heap_alloc w _ b hb
 have hbw:=(Below.refl w.heap.size w).alloc (afv _) (.mapIter (some g.1) clock #[] clock)
 have hglt:g.1<w.heap.size:=(afz.1 hheap).1
 have hx1:h1' x=some ⟨v,rty,[.mpc ks vs],true,true,true⟩:=by rw[hfx,if_pos rfl]
 have hno:¬Own M h1' blk g.1:=by
  rintro (hb|⟨y,r',g',hy,hz',hg',he⟩)
  ·exact hA.notM hx1 h5 hb
  ·have:y=x:=hA.inj y x r' _ g' g hy hx1 hg' h5 he
   subst this
   rw[hx1]at hy
   cases hy
   cases hz'
 have hB:=hA.BS (w':=w.alloc (.mapIter (some g.1) clock #[] clock)) (h1:=h1') (old:=none) (d:=d) (e:=e) (r0:=⟨e,900000,[.mpc ks vs],false,true,true⟩) (go:=some (w.heap.size,0)) hbw.os hbw.tape hbw.output hbw.size (fun k hk _=>hold k hk) (fun y hy=>by cases hy) rfl hV
  ⟨.inl (afv _),.inl ⟨ks,vs,rfl,hlen,fun q=>absurd q (Nat.lt_irrefl _),fun _=>⟨rfl,g.1,ents,clock,#[],[],List.range ks.length,us,hnew,by have:=hbw.size;omega,by
   rintro (hb|hb)
   ·exact hno hb
   ·have:g.1=w.heap.size:=hb
    omega,(hold _ hglt).trans hheap,hst,(agH 900000).symm,afw _,by simp,List.nodup_range,fun i=>by
   rw[ahb]
   constructor
   ·intro hi
    exact⟨ents[i]'(by omega),agG (by omega),by simp⟩
   ·rintro⟨e1,he1,_⟩
    have:=(afz.1 he1).1
    omega,fun i hi=>by simp at hi,fun j k' hj=>by
   obtain⟨e1,p1,p2,p3⟩:=hk j k' hj
   have hjl:=(afY.1 hj).1
   exact⟨j,e1,by simp[hjl],p1,p2,p3⟩,fun j y hj=>(hv j y hj).keep fun b q1 q2=>⟨by have:=hbw.size;omega,by
    rintro (hb|hb)
    ·apply q2
     rcases hb with hb|⟨y,r',g',hy,hz',hg',he⟩
     ·exact .inl hb
     ·by_cases hyx:y=x
      ·subst hyx;rw[hx1]at hy;cases hy;cases hz'
      ·rw[hfx,if_neg hyx]at hy
       obtain⟨r2,q3,q4⟩:=xi (h:=h) d hdp y r' hy
       refine .inr ⟨y,r2,g',q3,?_,hg',he⟩
       rcases q4 with rfl|⟨_,cs,rfl,_⟩|⟨_,kk,rfl⟩
       ·exact hz'
       ·exact hz'
       ·exact hz'
    ·have:b=w.heap.size:=hb
     omega,hold b q1⟩⟩⟩⟩ rfl rfl (fun _ g' hg' j x' s' n' hj=>by cases j<;>simp at hj)
 have hfin:bz h1' d (some (⟨e,900000,[.mpc ks vs],false,true,true⟩:Row))=EH (aH h [(x,some ⟨v,rty,[.mpc ks vs],true,true,true⟩),(d,some ⟨e,900000,[.mpc ks vs],false,true,true⟩)]):=by
  have hap:aH h [(x,some ⟨v,rty,[.mpc ks vs],true,true,true⟩),(d,some ⟨e,900000,[.mpc ks vs],false,true,true⟩)]=bz (bz h x (some ⟨v,rty,[.mpc ks vs],true,true,true⟩)) d (some ⟨e,900000,[.mpc ks vs],false,true,true⟩):=rfl
  rw[hap]
  have k1:bz (bz h x (some (⟨v,rty,[.mpc ks vs],true,true,true⟩:Row))) d (some ⟨e,900000,[.mpc ks vs],false,true,true⟩) d=some ⟨e,900000,[.mpc ks vs],false,true,true⟩:=aq _ _ _
  have k2:bz (bz h x (some (⟨v,rty,[.mpc ks vs],true,true,true⟩:Row))) d (some ⟨e,900000,[.mpc ks vs],false,true,true⟩) x=some ⟨v,rty,[.mpc ks vs],true,true,true⟩:=by rw[au _ _ (Ne.symm hdx),aq]
  obtain⟨m1,m2⟩:=sj k1 hdp
  obtain⟨m3,m4⟩:=sj k2 hxp
  have k3:bz h d none d=none:=aq _ _ _
  funext z
  by_cases hzd:rt z=d
  ·rcases mz hzd with rfl|⟨o',rfl⟩
   ·rw[aq,m1]
   ·rw[au _ _ (by have:=dX d o';omega),m2,hfx,if_neg (by have:=dX d o';omega),pD hdp,k3];rfl
  ·rw[au _ _ (fun e=>hzd (by rw[e,fX (by omega)])),hfx]
   by_cases hzx:rt z=x
   ·rcases mz hzx with rfl|⟨o',rfl⟩
    ·rw[if_pos rfl,m3]
    ·rw[if_neg (by have:=dX x o';omega),m4,hE0n]
   ·rw[if_neg (fun e=>hzx (by rw[e,fX (by omega)]))]
    exact dA (by rw[au _ _ hzd,au _ _ hzd,au _ _ hzx])
 rw[hfin]at hB
 refine aD (v := .pointer (some ⟨w.heap.size,0,none⟩)) (w':=w.alloc (.mapIter (some g.1) clock #[] clock)) ?_ ⟨bz blk d (some (w.heap.size,0)),hB.weaken fun x n hx =>?_,?_⟩
 ·simp[execOp,ho,hmu,hrun]
 ·rcases hx with hx|⟨rfl,rfl⟩
  ·exact .inl hx
  ·exact .inr ⟨hd,rfl⟩
 ·exact⟨.inr ⟨hd,rfl⟩,fun r hr hv=>⟨(w.heap.size,0),aq _ _ _,rfl⟩⟩
theorem Inv.iter (hI:Inv N M L w0 blk V t (EH h) a w) {y v ty:Nat} {p:Operand} {ks:List bV} {vs:List D} {lst:Bool} (hp:Am.ev t p=.ptr y v 0) (hy:h y=some ⟨v,ty,[.mpc ks vs],false,lst,true⟩) (hty:900000<=ty) (hyp:y<PK) :
  ∃(g:Nat×Nat),blk y=some g∧a.eval p=.pointer (some ⟨g.1,g.2+0,none⟩)∧vs.length=ks.length∧KE w (Own M (EH h) blk) g ty ks vs:=by
 obtain⟨hEy,_⟩:=sj hy hyp
 have hpv:=hI.ev p
 rw[hp]at hpv
 obtain⟨g,hg,hu⟩:=hpv.2 _ hEy rfl
 have hri:=hI.rowIs hEy hg
 unfold du at hri
 simp only at hri
 rcases hri with⟨ks',vs',k1,k2,_,k4⟩|⟨k1,_⟩
 ·simp only[afT,D.mpc.injEq,and_true]at k1
  obtain⟨rfl,rfl⟩:=k1
  exact⟨g,hg,hu,k2,k4 hty⟩
 ·have:=k1 _ (afS.2 rfl)
  cases this
theorem RM {y v ty ty':Nat} {ks ks':List bV} {vs vs':List D} {fz lst fz' lst':Bool} (hy:h y=some ⟨v,ty,[.mpc ks vs],fz,lst,true⟩) (hyp:y<PK):EH (bz h y (some ⟨v,ty',[.mpc ks' vs'],fz',lst',true⟩))=bz (EH h) y (some ⟨v,ty',[.mpc ks' vs'],fz',lst',true⟩):=by
 obtain⟨_,m2⟩:=sj hy hyp
 have hy':bz h y (some (⟨v,ty',[.mpc ks' vs'],fz',lst',true⟩:Row)) y=some ⟨v,ty',[.mpc ks' vs'],fz',lst',true⟩:=aq _ _ _
 obtain⟨m3,m4⟩:=sj hy' hyp
 funext z
 by_cases hz:rt z=y
 ·rcases mz hz with rfl|⟨o',rfl⟩
  ·rw[aq,m3]
  ·rw[au _ _ (by have:=dX y o';have:=bZ;omega),m4,m2]
 ·rw[au _ _ (fun e=>hz (by rw[e,fX (by have:=bZ;omega)]))]
  exact dA (by rw[au _ _ hz])
theorem UH (hI:Inv N M L w0 blk V t (EH h) a w) {y v ty:Nat} {p:Operand} {ks:List bV} {vs:List D} {lst:Bool} (ho:o.op=.next p false) (hp:ev t p=.ptr y v 0) (hy:h y=some ⟨v,ty,[.mpc ks vs],false,lst,true⟩) (hty:900000<=ty) (hyp:y<PK) :
  dz P o a w fun v' w'=>(ks.drop (ty-900000)=[]∧ij N M L w0 V t h a e o.dst ⟨.tup [.bool false],[]⟩ v' w') ∨
   ∃(j:Nat) (k:bV) (x:D),(ks.drop (ty-900000))[j]? = some k∧(vs.drop (ty-900000))[j]? = some x∧ij N M L w0 V t h a e o.dst ⟨.tup [.bool true,XL k,x],[(y,some ⟨v,900001,[.mpc (k::(ks.drop (ty-900000)).eraseIdx j) (x::(vs.drop (ty-900000)).eraseIdx j)],false,lst,true⟩)]⟩ v' w':=by
 obtain⟨g,hg,hpv,hlen,hg2,b,ents,clock,seen,c,l,us,h1,h2,h3,h4,hst,k1,k2,k3,k4,k5,k6,k7,k8⟩:=hI.iter hp hy hty hyp
 rw[hg2,af4]at hpv
 obtain⟨hEy,_⟩:=sj hy hyp
 rw[<- k1]
 have hkl:(ks.drop c.length).length=l.length:=by rw[afP,<- k3,agF];omega
 have hvl:(vs.drop c.length).length=l.length:=by rw[afP,hlen,<- k3,agF];omega
 rcases run_next_at (P:=P) w o.type g.1 b clock clock seen ents clock h1 h4 hst.1 (afv _) with⟨hs0,hrun⟩|⟨en,hen,w1,hw1,hrun⟩
 ·refine aD (v := .tuple #[.bool false]) (w':=w) (by simp[execOp,ho,hpv,hrun]) (.inl ⟨?_,?_⟩)
  ·have hl0:l=[]:=by
    refine List.eq_nil_iff_forall_not_mem.2 fun i hi =>?_
    obtain⟨e1,q1,q2⟩:=(k5 i).1 hi
    have:e1∈(leftOf ents seen).toList:=by
     unfold leftOf
     simp only[Array.toList_filter,ag8]
     exact⟨by simpa using agn q1,by rw[q2];rfl⟩
    have h0:(leftOf ents seen).toList.length=0:=by simpa using hs0
    rw[agO h0]at this
    cases this
   rw[hl0]at hkl
   exact agO hkl
  ·refine aV.de (h:=EH h) hI (bo (.tup _ [_] rfl fun j x hj =>?_))
   match j,hj with
   | 0,hj=>simp only[List.getElem?_cons_zero,afE]at hj;subst hj;exact .bool _
   | j+1,hj=>simp at hj
 ·obtain⟨m1,m2⟩:=mem_left hen
  obtain⟨i,hi⟩:=afR m1
  rw[agm]at hi
  have hil:i∈l:=(k5 i).2 ⟨en,hi,m2⟩
  obtain⟨j,hj⟩:∃j,j=l.idxOf i:=⟨_,rfl⟩
  have hjl:j<l.length:=by rw[hj];exact agE hil
  have hlj:l[j]? = some i:=by rw[afI hjl];simp[hj]
  have her:l.erase i=l.eraseIdx j:=List.erase_eq_eraseIdx_of_idxOf hj.symm
  have hkj:(ks.drop c.length)[j]? = some ((ks.drop c.length)[j]'(by omega)):=afI _
  have hvj:(vs.drop c.length)[j]? = some ((vs.drop c.length)[j]'(by omega)):=afI _
  generalize (ks.drop c.length)[j]'(by omega)=k at hkj
  generalize (vs.drop c.length)[j]'(by omega)=x at hvj
  have hcl:∀n:Nat,(c++l)[c.length+n]? = l[n]?:=fun n=>by rw[aga (by omega)];congr 1;omega
  have hkey:en.key=jx k∧en.val=us (c.length+j):=by
   rw[afM]at hkj
   obtain⟨i',e',q1,q2,q3,q4⟩:=k7 _ _ hkj
   rw[hcl,hlj]at q1
   cases q1
   rw[hi]at q2
   cases q2
   exact⟨q3,q4⟩
  have hval:RP w (Own M (EH h) blk) x (us (c.length+j)):=by
   rw[afM]at hvj
   exact k8 _ _ hvj
  have hw1h:w1.heap=w.heap∧w1.os=w.os∧w1.tape=w.tape∧w1.output=w.output:=by rcases hw1 with rfl|rfl<;>exact⟨rfl,rfl,rfl,rfl⟩
  obtain⟨p1,p2,p3,p4⟩:=hw1h
  generalize hw':ChangeMaps.setBlock w1 g.1 (.mapIter (some b) clock (seen.push en.born) clock)=w' at hrun
  have hglt:g.1<w.heap.size:=(afz.1 h1).1
  have hh':w'.heap=w.heap.setIfInBounds g.1 (.mapIter (some b) clock (seen.push en.born) clock):=by rw[<- hw',<- p1];rfl
  have hhs:w'.heap.size=w.heap.size:=by rw[hh'];simp
  have hnew:w'.heap[g.1]? = some (.mapIter (some b) clock (seen.push en.born) clock):=by rw[hh',Array.getElem?_setIfInBounds,if_pos rfl,if_pos hglt]
  have hheap:∀b',b'≠g.1->w'.heap[b']? = w.heap[b']?:=fun b' hb=>by rw[hh',Array.getElem?_setIfInBounds,if_neg (Ne.symm hb)]
  have hown:Own M (EH h) blk g.1 := .inr ⟨y,_,g,hEy,rfl,hg,rfl⟩
  have hbg:b≠g.1:=fun e=>h3 (e ▸ hown)
  have hkp:∀ {d:D} {u:Value},RP w (Own M (EH h) blk) d u->RP w' (Own M (EH h) blk) d u:=fun hr=>hr.keep fun b q1 q2=>⟨by rw[hhs];exact q1,q2,hheap b (fun e=>q2 (e ▸ hown))⟩
  have hiff:∀ {n:Nat} {e':MapEntry},ents[n]? = some e'->(e'.born==en.born)=decide (n=i):=by
   intro n e' hn
   by_cases hni:n=i
   ·subst hni
    rw[hi]at hn
    cases hn
    simp
   ·have:e'.born≠en.born:=by
     intro he
     have hnd:=hst.2.1
     have a1:(ents.toList.map (·.born))[n]? = some e'.born:=by simp[hn]
     have a2:(ents.toList.map (·.born))[i]? = some en.born:=by simp[hi]
     have hn1:=(afY.1 a1).1
     have hi1:=(afY.1 a2).1
     exact hni ((List.getElem_inj (h₀:=hn1) (h₁:=hi1) hnd).1 (by
      have b1:=(afY.1 a1).2
      have b2:=(afY.1 a2).2
      rw[b1,b2,he]))
    simp[hni,this]
  have hB:=hI.iH (x:=y) (r:=⟨v,ty,[.mpc ks vs],false,lst,true⟩) (r0:=⟨v,900001,[.mpc (k::(ks.drop c.length).eraseIdx j) (x::(vs.drop c.length).eraseIdx j)],false,lst,true⟩) (w':=w') hEy rfl rfl
   (by rw[<- hw'];exact p2) (by rw[<- hw'];exact p3) (by rw[<- hw'];exact p4) (by rw[hhs];exact afv _) (fun b' _ hb=>hheap b' (hb g hg)) (by
   rw[hg]
   refine⟨by simp[World.shape?,hnew,h1],.inl ⟨_,_,rfl,?_,fun q=>absurd q (by show ¬(900001<900000);omega),fun _=>⟨hg2,b,ents,clock,seen.push en.born,[i],l.eraseIdx j,fun m=>if m=0 then en.val else us (c.length+(if m-1<j then m-1 else m)),hnew,by rw[hhs];exact h2,h3,(hheap b hbg).trans h4,hst,(agT (n:=900000) (m:=1)).symm,afv _,?_,?_,fun n =>?_,fun n hn =>?_,fun m k' hm =>?_,fun m x' hm =>?_⟩⟩⟩
   ·simp only[List.length_cons,List.length_eraseIdx]
    rw[hkl,hvl]
   ·simp only[agF,List.length_cons,List.length_nil,List.length_eraseIdx]
    rw[hkl]
    split<;>omega
   ·rw[<- her];exact k4.erase _
   ·rw[<- her,k4.mem_erase_iff,k5]
    constructor
    ·rintro⟨q1,e',q2,q3⟩
     exact⟨e',q2,by rw[contains_push,q3,hiff q2];simpa using q1⟩
    ·rintro⟨e',q2,q3⟩
     rw[contains_push,hiff q2,Bool.or_eq_false_iff,decide_eq_false_iff_not]at q3
     exact⟨q3.2,e',q2,q3.1⟩
   ·simp only[afS]at hn
    subst hn
    exact⟨en,hi,by simp⟩
   ·cases m with
    | zero =>
     simp only[List.getElem?_cons_zero,afE]at hm
     subst hm
     exact⟨i,en,rfl,hi,hkey.1,by simp⟩
    | succ m =>
     rw[agD,List.getElem?_eraseIdx]at hm
     have hm':(ks.drop c.length)[if m<j then m else m+1]? = some k':=by
      by_cases hmj:m<j
      ·rw[if_pos hmj]at hm ⊢;exact hm
      ·rw[if_neg hmj]at hm ⊢;exact hm
     rw[afM]at hm'
     obtain⟨i',e',q1,q2,q3,q4⟩:=k7 _ _ hm'
     rw[hcl]at q1
     refine⟨i',e',?_,q2,q3,?_⟩
     ·rw[List.singleton_append,agD,List.getElem?_eraseIdx]
      by_cases hmj:m<j
      ·rw[if_pos hmj]at q1 ⊢;exact q1
      ·rw[if_neg hmj]at q1 ⊢;exact q1
     ·simp only[Nat.add_eq_zero_iff,ahu,and_false,if_false,ahi]
      exact q4
   ·cases m with
    | zero =>
     simp only[List.getElem?_cons_zero,afE]at hm
     subst hm
     simp only[if_true]
     rw[hkey.2]
     exact hkp hval
    | succ m =>
     rw[agD,List.getElem?_eraseIdx]at hm
     have hm':(vs.drop c.length)[if m<j then m else m+1]? = some x':=by
      by_cases hmj:m<j
      ·rw[if_pos hmj]at hm ⊢;exact hm
      ·rw[if_neg hmj]at hm ⊢;exact hm
     rw[afM]at hm'
     simp only[Nat.add_eq_zero_iff,ahu,and_false,if_false,ahi]
     exact hkp (k8 _ _ hm')) (fun hh=>by cases hh) (fun _ g' hg' j' x' s' n' hj'=>by cases j'<;>simp at hj')
  refine aD (v := .tuple #[.bool true,en.key,en.val]) (w':=w') (by simp[execOp,ho,hpv,hrun]) (.inr ⟨j,k,x,hkj,hvj,blk,?_,?_⟩)
  ·show Inv _ _ _ _ _ _ _ (EH (bz h y (some _))) _ _
   rw[RM hy hyp]
   exact hB.weaken fun _ _ h =>.inl h
  ·have hle:∀b',Own M (EH (bz h y (some ⟨v,900001,[.mpc (k::(ks.drop c.length).eraseIdx j) (x::(vs.drop c.length).eraseIdx j)],false,lst,true⟩))) blk b'->Own M (EH h) blk b':=by
    rw[RM hy hyp]
    rintro b' (hb|⟨z,r',g',hz,hz',hg',he⟩)
    ·exact .inl hb
    ·by_cases hzy:z=y
     ·subst hzy
      exact .inr ⟨z,_,g',hEy,rfl,hg',he⟩
     ·rw[au _ _ hzy]at hz
      exact .inr ⟨z,r',g',hz,hz',hg',he⟩
   refine bo (.tup _ [.bool true,en.key,en.val] rfl fun n d hn =>?_)
   match n,hn with
   | 0,hn=>simp only[List.getElem?_cons_zero,afE]at hn;subst hn;exact .bool _
   | 1,hn =>
    simp only[List.getElem?_cons_succ,List.getElem?_cons_zero,afE]at hn
    subst hn
    simp only[agB,agA]
    rw[hkey.1]
    exact M4 k
   | 2,hn =>
    simp only[List.getElem?_cons_succ,List.getElem?_cons_zero,afE]at hn
    subst hn
    simp only[agB,agA]
    rw[hkey.2]
    exact (hkp hval).less hle
   | n+3,hn=>simp at hn
theorem PO (hI:Inv N M L w0 blk V t (EH h) a w) {y v:Nat} {p:Operand} {k:bV} {x:D} {ks:List bV} {vs:List D} {lst:Bool} (ho:o.op=.entry p) (hp:ev t p=.ptr y v 0) (hy:h y=some ⟨v,900001,[.mpc (k::ks) (x::vs)],false,lst,true⟩) (hyp:y<PK) :
  dz P o a w (ij N M L w0 V t h a e o.dst ⟨.tup [XL k,x],[]⟩):=by
 obtain⟨g,hg,hpv,hlen,hg2,b,ents,clock,seen,c,l,us,h1,h2,h3,h4,hst,k1,k2,k3,k4,k5,k6,k7,k8⟩:=hI.iter hp hy (by omega) hyp
 rw[hg2,af4]at hpv
 have hc1:c.length=1:=by rw[k1]
 match c,hc1 with
 | [i],_ =>
  obtain⟨en,q1,q2⟩:=k6 i (by simp)
  obtain⟨i',e',r1,r2,r3,r4⟩:=k7 0 k rfl
  simp only[List.singleton_append,List.getElem?_cons_zero,afE]at r1
  subst r1
  rw[q1]at r2
  cases r2
  obtain⟨s0,hs0⟩:=Array.back?_eq_some_iff.1 q2
  rw[hs0]at h1
  have hrun:=run_entry_at (P:=P) w g.1 b clock s0 ents clock en h1 h4 (by simpa using agn q1) hst.2.1
  refine aD (v := .tuple #[en.key,en.val]) (w':=w) (by simp[execOp,ho,hpv,hrun]) (aV.de (h:=EH h) hI (bo (.tup _ [en.key,en.val] rfl fun n d hn =>?_)))
  match n,hn with
  | 0,hn =>
   simp only[List.getElem?_cons_zero,afE]at hn
   subst hn
   simp only[agA]
   rw[r3]
   exact M4 k
  | 1,hn =>
   simp only[List.getElem?_cons_succ,List.getElem?_cons_zero,afE]at hn
   subst hn
   simp only[agB,agA]
   rw[r4]
   exact k8 0 x rfl
  | n+2,hn=>simp at hn
end
def tab (t:Nat):Option Ty :=
 match t with
 | 2=>some ⟨.int .i64,1,8,[.int .i64 0],false⟩
 | 3=>some ⟨.int .i64,1,8,[.int .i64 0],false⟩
 | 4=>some ⟨.bool,1,1,[.bool false],false⟩
 | 5=>some ⟨.int .u8,1,1,[.int .u8 0],false⟩
 | 9=>some ⟨.str,1,16,[.string ⟨#[]⟩],false⟩
 | 12=>some ⟨.int .u64,1,8,[.int .u64 0],false⟩
 | 21=>some ⟨.int .i32,1,4,[.int .i32 0],false⟩
 | 22=>some ⟨.slice 3,1,24,[.slice none 0 0],false⟩
 | 23=>some ⟨.slice 55,1,24,[.slice none 0 0],false⟩
 | 24=>some ⟨.struct [(22,0),(23,1)],2,48,[.slice none 0 0,.slice none 0 0],false⟩
 | 25=>some ⟨.struct [(22,0),(23,1)],2,48,[.slice none 0 0,.slice none 0 0],false⟩
 | 26=>some ⟨.slice 63,1,24,[.slice none 0 0],false⟩
 | 27=>some ⟨.struct [(3,0),(26,1)],2,32,[.int .i64 0,.slice none 0 0],false⟩
 | 28=>some ⟨.struct [(3,0),(26,1)],2,32,[.int .i64 0,.slice none 0 0],false⟩
 | 32=>some ⟨.int .i64,1,8,[.int .i64 0],false⟩
 | 39=>some ⟨.struct [(3,0),(22,1)],2,32,[.int .i64 0,.slice none 0 0],false⟩
 | 40=>some ⟨.struct [(3,0),(22,1)],2,32,[.int .i64 0,.slice none 0 0],false⟩
 | 41=>some ⟨.struct [(40,0),(40,2)],4,64,[.int .i64 0,.slice none 0 0,.int .i64 0,.slice none 0 0],false⟩
 | 42=>some ⟨.struct [(40,0),(40,2)],4,64,[.int .i64 0,.slice none 0 0,.int .i64 0,.slice none 0 0],false⟩
 | 48=>some ⟨.slice 98,1,24,[.slice none 0 0],false⟩
 | 49=>some ⟨.slice 85,1,24,[.slice none 0 0],false⟩
 | 50=>some ⟨.slice 70,1,24,[.slice none 0 0],false⟩
 | 51=>some ⟨.struct [(48,0),(49,1),(50,2)],3,72,[.slice none 0 0,.slice none 0 0,.slice none 0 0],false⟩
 | 52=>some ⟨.struct [(48,0),(49,1),(50,2)],3,72,[.slice none 0 0,.slice none 0 0,.slice none 0 0],false⟩
 | 53=>some ⟨.slice 57,1,24,[.slice none 0 0],false⟩
 | 54=>some ⟨.struct [(52,0),(53,3),(22,4)],5,120,[.slice none 0 0,.slice none 0 0,.slice none 0 0,.slice none 0 0,.slice none 0 0],false⟩
 | 55=>some ⟨.struct [(52,0),(53,3),(22,4)],5,120,[.slice none 0 0,.slice none 0 0,.slice none 0 0,.slice none 0 0,.slice none 0 0],false⟩
 | 56=>some ⟨.struct [(3,0),(3,1)],2,16,[.int .i64 0,.int .i64 0],true⟩
 | 57=>some ⟨.struct [(3,0),(3,1)],2,16,[.int .i64 0,.int .i64 0],true⟩
 | 61=>some ⟨.slice 4,1,24,[.slice none 0 0],false⟩
 | 62=>some ⟨.struct [(3,0),(3,1),(42,2)],6,80,[.int .i64 0,.int .i64 0,.int .i64 0,.slice none 0 0,.int .i64 0,.slice none 0 0],false⟩
 | 63=>some ⟨.struct [(3,0),(3,1),(42,2)],6,80,[.int .i64 0,.int .i64 0,.int .i64 0,.slice none 0 0,.int .i64 0,.slice none 0 0],false⟩
 | 65=>some ⟨.int .u16,1,2,[.int .u16 0],false⟩
 | 70=>some ⟨.slice 42,1,24,[.slice none 0 0],false⟩
 | 84=>some ⟨.struct [(3,0),(3,1),(3,2),(9,3)],4,40,[.int .i64 0,.int .i64 0,.int .i64 0,.string ⟨#[]⟩],true⟩
 | 85=>some ⟨.struct [(3,0),(3,1),(3,2),(9,3)],4,40,[.int .i64 0,.int .i64 0,.int .i64 0,.string ⟨#[]⟩],true⟩
 | 92=>some ⟨.slice 152,1,24,[.slice none 0 0],false⟩
 | 97=>some ⟨.struct [(3,0),(3,1),(3,2)],3,24,[.int .i64 0,.int .i64 0,.int .i64 0],true⟩
 | 98=>some ⟨.struct [(3,0),(3,1),(3,2)],3,24,[.int .i64 0,.int .i64 0,.int .i64 0],true⟩
 | 114=>some ⟨.map 117 42,1,8,[.map none],false⟩
 | 116=>some ⟨.struct [(3,0),(3,1)],2,16,[.int .i64 0,.int .i64 0],true⟩
 | 117=>some ⟨.struct [(3,0),(3,1)],2,16,[.int .i64 0,.int .i64 0],true⟩
 | 126=>some ⟨.slice 22,1,24,[.slice none 0 0],false⟩
 | 143=>some ⟨.slice 147,1,24,[.slice none 0 0],false⟩
 | 145=>some ⟨.slice 149,1,24,[.slice none 0 0],false⟩
 | 146=>some ⟨.struct [(42,0),(145,4)],5,88,[.int .i64 0,.slice none 0 0,.int .i64 0,.slice none 0 0,.slice none 0 0],false⟩
 | 147=>some ⟨.struct [(42,0),(145,4)],5,88,[.int .i64 0,.slice none 0 0,.int .i64 0,.slice none 0 0,.slice none 0 0],false⟩
 | 148=>some ⟨.struct [(3,0),(42,1)],5,72,[.int .i64 0,.int .i64 0,.slice none 0 0,.int .i64 0,.slice none 0 0],false⟩
 | 149=>some ⟨.struct [(3,0),(42,1)],5,72,[.int .i64 0,.int .i64 0,.slice none 0 0,.int .i64 0,.slice none 0 0],false⟩
 | 151=>some ⟨.struct [(3,0),(42,1)],5,72,[.int .i64 0,.int .i64 0,.slice none 0 0,.int .i64 0,.slice none 0 0],false⟩
 | 152=>some ⟨.struct [(3,0),(42,1)],5,72,[.int .i64 0,.int .i64 0,.slice none 0 0,.int .i64 0,.slice none 0 0],false⟩
 | 171=>some ⟨.int .u64,1,8,[.int .u64 0],false⟩
 | 185=>some ⟨.int .u64,1,8,[.int .u64 0],false⟩
 | 200=>some ⟨.int .i64,1,8,[.int .i64 0],false⟩
 | 207=>some ⟨.int .u32,1,4,[.int .u32 0],false⟩
 | 216=>some ⟨.int .u64,1,8,[.int .u64 0],false⟩
 | _=>none
theorem abC:tab 2=some ⟨.int .i64,1,8,[.int .i64 0],false⟩:=rfl
theorem Ue:tab 3=some ⟨.int .i64,1,8,[.int .i64 0],false⟩:=rfl
theorem abD:tab 4=some ⟨.bool,1,1,[.bool false],false⟩:=rfl
theorem abE:tab 5=some ⟨.int .u8,1,1,[.int .u8 0],false⟩:=rfl
theorem abF:tab 9=some ⟨.str,1,16,[.string ⟨#[]⟩],false⟩:=rfl
theorem YY:tab 12=some ⟨.int .u64,1,8,[.int .u64 0],false⟩:=rfl
theorem YZ:tab 21=some ⟨.int .i32,1,4,[.int .i32 0],false⟩:=rfl
theorem Kn:tab 22=some ⟨.slice 3,1,24,[.slice none 0 0],false⟩:=rfl
theorem Y0:tab 23=some ⟨.slice 55,1,24,[.slice none 0 0],false⟩:=rfl
theorem Y1:tab 24=some ⟨.struct [(22,0),(23,1)],2,48,[.slice none 0 0,.slice none 0 0],false⟩:=rfl
theorem Y2:tab 25=some ⟨.struct [(22,0),(23,1)],2,48,[.slice none 0 0,.slice none 0 0],false⟩:=rfl
theorem Rg:tab 26=some ⟨.slice 63,1,24,[.slice none 0 0],false⟩:=rfl
theorem Y3:tab 27=some ⟨.struct [(3,0),(26,1)],2,32,[.int .i64 0,.slice none 0 0],false⟩:=rfl
theorem Ko:tab 28=some ⟨.struct [(3,0),(26,1)],2,32,[.int .i64 0,.slice none 0 0],false⟩:=rfl
theorem Y4:tab 32=some ⟨.int .i64,1,8,[.int .i64 0],false⟩:=rfl
theorem Y5:tab 39=some ⟨.struct [(3,0),(22,1)],2,32,[.int .i64 0,.slice none 0 0],false⟩:=rfl
theorem Rh:tab 40=some ⟨.struct [(3,0),(22,1)],2,32,[.int .i64 0,.slice none 0 0],false⟩:=rfl
theorem Y6:tab 41=some ⟨.struct [(40,0),(40,2)],4,64,[.int .i64 0,.slice none 0 0,.int .i64 0,.slice none 0 0],false⟩:=rfl
theorem Ri:tab 42=some ⟨.struct [(40,0),(40,2)],4,64,[.int .i64 0,.slice none 0 0,.int .i64 0,.slice none 0 0],false⟩:=rfl
theorem Y7:tab 48=some ⟨.slice 98,1,24,[.slice none 0 0],false⟩:=rfl
theorem Y8:tab 49=some ⟨.slice 85,1,24,[.slice none 0 0],false⟩:=rfl
theorem Y9:tab 50=some ⟨.slice 70,1,24,[.slice none 0 0],false⟩:=rfl
theorem Zj:tab 51=some ⟨.struct [(48,0),(49,1),(50,2)],3,72,[.slice none 0 0,.slice none 0 0,.slice none 0 0],false⟩:=rfl
theorem Zk:tab 52=some ⟨.struct [(48,0),(49,1),(50,2)],3,72,[.slice none 0 0,.slice none 0 0,.slice none 0 0],false⟩:=rfl
theorem Zl:tab 53=some ⟨.slice 57,1,24,[.slice none 0 0],false⟩:=rfl
theorem Zm:tab 54=some ⟨.struct [(52,0),(53,3),(22,4)],5,120,[.slice none 0 0,.slice none 0 0,.slice none 0 0,.slice none 0 0,.slice none 0 0],false⟩:=rfl
theorem Zn:tab 55=some ⟨.struct [(52,0),(53,3),(22,4)],5,120,[.slice none 0 0,.slice none 0 0,.slice none 0 0,.slice none 0 0,.slice none 0 0],false⟩:=rfl
theorem Zo:tab 56=some ⟨.struct [(3,0),(3,1)],2,16,[.int .i64 0,.int .i64 0],true⟩:=rfl
theorem Zp:tab 57=some ⟨.struct [(3,0),(3,1)],2,16,[.int .i64 0,.int .i64 0],true⟩:=rfl
theorem Zq:tab 61=some ⟨.slice 4,1,24,[.slice none 0 0],false⟩:=rfl
theorem Zr:tab 62=some ⟨.struct [(3,0),(3,1),(42,2)],6,80,[.int .i64 0,.int .i64 0,.int .i64 0,.slice none 0 0,.int .i64 0,.slice none 0 0],false⟩:=rfl
theorem Kp:tab 63=some ⟨.struct [(3,0),(3,1),(42,2)],6,80,[.int .i64 0,.int .i64 0,.int .i64 0,.slice none 0 0,.int .i64 0,.slice none 0 0],false⟩:=rfl
theorem Zs:tab 65=some ⟨.int .u16,1,2,[.int .u16 0],false⟩:=rfl
theorem Zt:tab 70=some ⟨.slice 42,1,24,[.slice none 0 0],false⟩:=rfl
theorem Zu:tab 84=some ⟨.struct [(3,0),(3,1),(3,2),(9,3)],4,40,[.int .i64 0,.int .i64 0,.int .i64 0,.string ⟨#[]⟩],true⟩:=rfl
theorem Zv:tab 85=some ⟨.struct [(3,0),(3,1),(3,2),(9,3)],4,40,[.int .i64 0,.int .i64 0,.int .i64 0,.string ⟨#[]⟩],true⟩:=rfl
theorem Zw:tab 92=some ⟨.slice 152,1,24,[.slice none 0 0],false⟩:=rfl
theorem Zx:tab 97=some ⟨.struct [(3,0),(3,1),(3,2)],3,24,[.int .i64 0,.int .i64 0,.int .i64 0],true⟩:=rfl
theorem Zy:tab 98=some ⟨.struct [(3,0),(3,1),(3,2)],3,24,[.int .i64 0,.int .i64 0,.int .i64 0],true⟩:=rfl
theorem TX:tab 114=some ⟨.map 117 42,1,8,[.map none],false⟩:=rfl
theorem TY:tab 116=some ⟨.struct [(3,0),(3,1)],2,16,[.int .i64 0,.int .i64 0],true⟩:=rfl
theorem TZ:tab 117=some ⟨.struct [(3,0),(3,1)],2,16,[.int .i64 0,.int .i64 0],true⟩:=rfl
theorem T0:tab 126=some ⟨.slice 22,1,24,[.slice none 0 0],false⟩:=rfl
theorem T1:tab 143=some ⟨.slice 147,1,24,[.slice none 0 0],false⟩:=rfl
theorem T2:tab 145=some ⟨.slice 149,1,24,[.slice none 0 0],false⟩:=rfl
theorem T3:tab 146=some ⟨.struct [(42,0),(145,4)],5,88,[.int .i64 0,.slice none 0 0,.int .i64 0,.slice none 0 0,.slice none 0 0],false⟩:=rfl
theorem T4:tab 147=some ⟨.struct [(42,0),(145,4)],5,88,[.int .i64 0,.slice none 0 0,.int .i64 0,.slice none 0 0,.slice none 0 0],false⟩:=rfl
theorem T5:tab 148=some ⟨.struct [(3,0),(42,1)],5,72,[.int .i64 0,.int .i64 0,.slice none 0 0,.int .i64 0,.slice none 0 0],false⟩:=rfl
theorem T6:tab 149=some ⟨.struct [(3,0),(42,1)],5,72,[.int .i64 0,.int .i64 0,.slice none 0 0,.int .i64 0,.slice none 0 0],false⟩:=rfl
theorem T7:tab 151=some ⟨.struct [(3,0),(42,1)],5,72,[.int .i64 0,.int .i64 0,.slice none 0 0,.int .i64 0,.slice none 0 0],false⟩:=rfl
theorem T8:tab 152=some ⟨.struct [(3,0),(42,1)],5,72,[.int .i64 0,.int .i64 0,.slice none 0 0,.int .i64 0,.slice none 0 0],false⟩:=rfl
theorem T9:tab 171=some ⟨.int .u64,1,8,[.int .u64 0],false⟩:=rfl
theorem Ua:tab 185=some ⟨.int .u64,1,8,[.int .u64 0],false⟩:=rfl
theorem Ub:tab 200=some ⟨.int .i64,1,8,[.int .i64 0],false⟩:=rfl
theorem Uc:tab 207=some ⟨.int .u32,1,4,[.int .u32 0],false⟩:=rfl
theorem Ud:tab 216=some ⟨.int .u64,1,8,[.int .u64 0],false⟩:=rfl
theorem aeV:dc Tryz.prog 2 ⟨.int .i64,1,8,[.int .i64 0],false⟩:=⟨by kernel_rfl,by kernel_rfl,by kernel_rfl,fun h=>by cases h⟩
theorem aeW:dc Tryz.prog 3 ⟨.int .i64,1,8,[.int .i64 0],false⟩:=⟨by kernel_rfl,by kernel_rfl,by kernel_rfl,fun h=>by cases h⟩
theorem aeX:dc Tryz.prog 4 ⟨.bool,1,1,[.bool false],false⟩:=⟨by kernel_rfl,by kernel_rfl,by kernel_rfl,fun h=>by cases h⟩
theorem aeY:dc Tryz.prog 5 ⟨.int .u8,1,1,[.int .u8 0],false⟩:=⟨by kernel_rfl,by kernel_rfl,by kernel_rfl,fun h=>by cases h⟩
theorem aeZ:dc Tryz.prog 9 ⟨.str,1,16,[.string ⟨#[]⟩],false⟩:=⟨by kernel_rfl,by kernel_rfl,by kernel_rfl,fun h=>by cases h⟩
theorem adF:dc Tryz.prog 12 ⟨.int .u64,1,8,[.int .u64 0],false⟩:=⟨by kernel_rfl,by kernel_rfl,by kernel_rfl,fun h=>by cases h⟩
theorem adG:dc Tryz.prog 21 ⟨.int .i32,1,4,[.int .i32 0],false⟩:=⟨by kernel_rfl,by kernel_rfl,by kernel_rfl,fun h=>by cases h⟩
theorem adH:dc Tryz.prog 22 ⟨.slice 3,1,24,[.slice none 0 0],false⟩:=⟨by kernel_rfl,by kernel_rfl,by kernel_rfl,fun h=>by cases h⟩
theorem adI:dc Tryz.prog 23 ⟨.slice 55,1,24,[.slice none 0 0],false⟩:=⟨by kernel_rfl,by kernel_rfl,by kernel_rfl,fun h=>by cases h⟩
theorem adJ:dc Tryz.prog 24 ⟨.struct [(22,0),(23,1)],2,48,[.slice none 0 0,.slice none 0 0],false⟩:=⟨by kernel_rfl,by kernel_rfl,by kernel_rfl,fun h=>by cases h⟩
theorem adK:dc Tryz.prog 25 ⟨.struct [(22,0),(23,1)],2,48,[.slice none 0 0,.slice none 0 0],false⟩:=⟨by kernel_rfl,by kernel_rfl,by kernel_rfl,fun h=>by cases h⟩
theorem adL:dc Tryz.prog 26 ⟨.slice 63,1,24,[.slice none 0 0],false⟩:=⟨by kernel_rfl,by kernel_rfl,by kernel_rfl,fun h=>by cases h⟩
theorem adM:dc Tryz.prog 27 ⟨.struct [(3,0),(26,1)],2,32,[.int .i64 0,.slice none 0 0],false⟩:=⟨by kernel_rfl,by kernel_rfl,by kernel_rfl,fun h=>by cases h⟩
theorem adN:dc Tryz.prog 28 ⟨.struct [(3,0),(26,1)],2,32,[.int .i64 0,.slice none 0 0],false⟩:=⟨by kernel_rfl,by kernel_rfl,by kernel_rfl,fun h=>by cases h⟩
theorem adO:dc Tryz.prog 32 ⟨.int .i64,1,8,[.int .i64 0],false⟩:=⟨by kernel_rfl,by kernel_rfl,by kernel_rfl,fun h=>by cases h⟩
theorem adP:dc Tryz.prog 39 ⟨.struct [(3,0),(22,1)],2,32,[.int .i64 0,.slice none 0 0],false⟩:=⟨by kernel_rfl,by kernel_rfl,by kernel_rfl,fun h=>by cases h⟩
theorem adQ:dc Tryz.prog 40 ⟨.struct [(3,0),(22,1)],2,32,[.int .i64 0,.slice none 0 0],false⟩:=⟨by kernel_rfl,by kernel_rfl,by kernel_rfl,fun h=>by cases h⟩
theorem adR:dc Tryz.prog 41 ⟨.struct [(40,0),(40,2)],4,64,[.int .i64 0,.slice none 0 0,.int .i64 0,.slice none 0 0],false⟩:=⟨by kernel_rfl,by kernel_rfl,by kernel_rfl,fun h=>by cases h⟩
theorem adS:dc Tryz.prog 42 ⟨.struct [(40,0),(40,2)],4,64,[.int .i64 0,.slice none 0 0,.int .i64 0,.slice none 0 0],false⟩:=⟨by kernel_rfl,by kernel_rfl,by kernel_rfl,fun h=>by cases h⟩
theorem adT:dc Tryz.prog 48 ⟨.slice 98,1,24,[.slice none 0 0],false⟩:=⟨by kernel_rfl,by kernel_rfl,by kernel_rfl,fun h=>by cases h⟩
theorem adU:dc Tryz.prog 49 ⟨.slice 85,1,24,[.slice none 0 0],false⟩:=⟨by kernel_rfl,by kernel_rfl,by kernel_rfl,fun h=>by cases h⟩
theorem adV:dc Tryz.prog 50 ⟨.slice 70,1,24,[.slice none 0 0],false⟩:=⟨by kernel_rfl,by kernel_rfl,by kernel_rfl,fun h=>by cases h⟩
theorem adW:dc Tryz.prog 51 ⟨.struct [(48,0),(49,1),(50,2)],3,72,[.slice none 0 0,.slice none 0 0,.slice none 0 0],false⟩:=⟨by kernel_rfl,by kernel_rfl,by kernel_rfl,fun h=>by cases h⟩
theorem adX:dc Tryz.prog 52 ⟨.struct [(48,0),(49,1),(50,2)],3,72,[.slice none 0 0,.slice none 0 0,.slice none 0 0],false⟩:=⟨by kernel_rfl,by kernel_rfl,by kernel_rfl,fun h=>by cases h⟩
theorem adY:dc Tryz.prog 53 ⟨.slice 57,1,24,[.slice none 0 0],false⟩:=⟨by kernel_rfl,by kernel_rfl,by kernel_rfl,fun h=>by cases h⟩
theorem adZ:dc Tryz.prog 54 ⟨.struct [(52,0),(53,3),(22,4)],5,120,[.slice none 0 0,.slice none 0 0,.slice none 0 0,.slice none 0 0,.slice none 0 0],false⟩:=⟨by kernel_rfl,by kernel_rfl,by kernel_rfl,fun h=>by cases h⟩
theorem ad0:dc Tryz.prog 55 ⟨.struct [(52,0),(53,3),(22,4)],5,120,[.slice none 0 0,.slice none 0 0,.slice none 0 0,.slice none 0 0,.slice none 0 0],false⟩:=⟨by kernel_rfl,by kernel_rfl,by kernel_rfl,fun h=>by cases h⟩
theorem ad1:dc Tryz.prog 56 ⟨.struct [(3,0),(3,1)],2,16,[.int .i64 0,.int .i64 0],true⟩:=⟨by kernel_rfl,by kernel_rfl,by kernel_rfl,fun _=>⟨by kernel_rfl,by kernel_rfl,by kernel_rfl⟩⟩
theorem ad2:dc Tryz.prog 57 ⟨.struct [(3,0),(3,1)],2,16,[.int .i64 0,.int .i64 0],true⟩:=⟨by kernel_rfl,by kernel_rfl,by kernel_rfl,fun _=>⟨by kernel_rfl,by kernel_rfl,by kernel_rfl⟩⟩
theorem ad3:dc Tryz.prog 61 ⟨.slice 4,1,24,[.slice none 0 0],false⟩:=⟨by kernel_rfl,by kernel_rfl,by kernel_rfl,fun h=>by cases h⟩
theorem ad4:dc Tryz.prog 62 ⟨.struct [(3,0),(3,1),(42,2)],6,80,[.int .i64 0,.int .i64 0,.int .i64 0,.slice none 0 0,.int .i64 0,.slice none 0 0],false⟩:=⟨by kernel_rfl,by kernel_rfl,by kernel_rfl,fun h=>by cases h⟩
theorem ad5:dc Tryz.prog 63 ⟨.struct [(3,0),(3,1),(42,2)],6,80,[.int .i64 0,.int .i64 0,.int .i64 0,.slice none 0 0,.int .i64 0,.slice none 0 0],false⟩:=⟨by kernel_rfl,by kernel_rfl,by kernel_rfl,fun h=>by cases h⟩
theorem ad6:dc Tryz.prog 65 ⟨.int .u16,1,2,[.int .u16 0],false⟩:=⟨by kernel_rfl,by kernel_rfl,by kernel_rfl,fun h=>by cases h⟩
theorem ad7:dc Tryz.prog 70 ⟨.slice 42,1,24,[.slice none 0 0],false⟩:=⟨by kernel_rfl,by kernel_rfl,by kernel_rfl,fun h=>by cases h⟩
theorem ad8:dc Tryz.prog 84 ⟨.struct [(3,0),(3,1),(3,2),(9,3)],4,40,[.int .i64 0,.int .i64 0,.int .i64 0,.string ⟨#[]⟩],true⟩:=⟨by kernel_rfl,by kernel_rfl,by kernel_rfl,fun _=>⟨by kernel_rfl,by kernel_rfl,by kernel_rfl⟩⟩
theorem ad9:dc Tryz.prog 85 ⟨.struct [(3,0),(3,1),(3,2),(9,3)],4,40,[.int .i64 0,.int .i64 0,.int .i64 0,.string ⟨#[]⟩],true⟩:=⟨by kernel_rfl,by kernel_rfl,by kernel_rfl,fun _=>⟨by kernel_rfl,by kernel_rfl,by kernel_rfl⟩⟩
theorem aea:dc Tryz.prog 92 ⟨.slice 152,1,24,[.slice none 0 0],false⟩:=⟨by kernel_rfl,by kernel_rfl,by kernel_rfl,fun h=>by cases h⟩
theorem aeb:dc Tryz.prog 97 ⟨.struct [(3,0),(3,1),(3,2)],3,24,[.int .i64 0,.int .i64 0,.int .i64 0],true⟩:=⟨by kernel_rfl,by kernel_rfl,by kernel_rfl,fun _=>⟨by kernel_rfl,by kernel_rfl,by kernel_rfl⟩⟩
theorem aec:dc Tryz.prog 98 ⟨.struct [(3,0),(3,1),(3,2)],3,24,[.int .i64 0,.int .i64 0,.int .i64 0],true⟩:=⟨by kernel_rfl,by kernel_rfl,by kernel_rfl,fun _=>⟨by kernel_rfl,by kernel_rfl,by kernel_rfl⟩⟩
theorem acA:dc Tryz.prog 114 ⟨.map 117 42,1,8,[.map none],false⟩:=⟨by kernel_rfl,by kernel_rfl,by kernel_rfl,fun h=>by cases h⟩
theorem acB:dc Tryz.prog 116 ⟨.struct [(3,0),(3,1)],2,16,[.int .i64 0,.int .i64 0],true⟩:=⟨by kernel_rfl,by kernel_rfl,by kernel_rfl,fun _=>⟨by kernel_rfl,by kernel_rfl,by kernel_rfl⟩⟩
theorem acC:dc Tryz.prog 117 ⟨.struct [(3,0),(3,1)],2,16,[.int .i64 0,.int .i64 0],true⟩:=⟨by kernel_rfl,by kernel_rfl,by kernel_rfl,fun _=>⟨by kernel_rfl,by kernel_rfl,by kernel_rfl⟩⟩
theorem acD:dc Tryz.prog 126 ⟨.slice 22,1,24,[.slice none 0 0],false⟩:=⟨by kernel_rfl,by kernel_rfl,by kernel_rfl,fun h=>by cases h⟩
theorem acE:dc Tryz.prog 143 ⟨.slice 147,1,24,[.slice none 0 0],false⟩:=⟨by kernel_rfl,by kernel_rfl,by kernel_rfl,fun h=>by cases h⟩
theorem acF:dc Tryz.prog 145 ⟨.slice 149,1,24,[.slice none 0 0],false⟩:=⟨by kernel_rfl,by kernel_rfl,by kernel_rfl,fun h=>by cases h⟩
theorem acG:dc Tryz.prog 146 ⟨.struct [(42,0),(145,4)],5,88,[.int .i64 0,.slice none 0 0,.int .i64 0,.slice none 0 0,.slice none 0 0],false⟩:=⟨by kernel_rfl,by kernel_rfl,by kernel_rfl,fun h=>by cases h⟩
theorem acH:dc Tryz.prog 147 ⟨.struct [(42,0),(145,4)],5,88,[.int .i64 0,.slice none 0 0,.int .i64 0,.slice none 0 0,.slice none 0 0],false⟩:=⟨by kernel_rfl,by kernel_rfl,by kernel_rfl,fun h=>by cases h⟩
theorem acI:dc Tryz.prog 148 ⟨.struct [(3,0),(42,1)],5,72,[.int .i64 0,.int .i64 0,.slice none 0 0,.int .i64 0,.slice none 0 0],false⟩:=⟨by kernel_rfl,by kernel_rfl,by kernel_rfl,fun h=>by cases h⟩
theorem acJ:dc Tryz.prog 149 ⟨.struct [(3,0),(42,1)],5,72,[.int .i64 0,.int .i64 0,.slice none 0 0,.int .i64 0,.slice none 0 0],false⟩:=⟨by kernel_rfl,by kernel_rfl,by kernel_rfl,fun h=>by cases h⟩
theorem acK:dc Tryz.prog 151 ⟨.struct [(3,0),(42,1)],5,72,[.int .i64 0,.int .i64 0,.slice none 0 0,.int .i64 0,.slice none 0 0],false⟩:=⟨by kernel_rfl,by kernel_rfl,by kernel_rfl,fun h=>by cases h⟩
theorem acL:dc Tryz.prog 152 ⟨.struct [(3,0),(42,1)],5,72,[.int .i64 0,.int .i64 0,.slice none 0 0,.int .i64 0,.slice none 0 0],false⟩:=⟨by kernel_rfl,by kernel_rfl,by kernel_rfl,fun h=>by cases h⟩
theorem acM:dc Tryz.prog 171 ⟨.int .u64,1,8,[.int .u64 0],false⟩:=⟨by kernel_rfl,by kernel_rfl,by kernel_rfl,fun h=>by cases h⟩
theorem acN:dc Tryz.prog 185 ⟨.int .u64,1,8,[.int .u64 0],false⟩:=⟨by kernel_rfl,by kernel_rfl,by kernel_rfl,fun h=>by cases h⟩
theorem acO:dc Tryz.prog 200 ⟨.int .i64,1,8,[.int .i64 0],false⟩:=⟨by kernel_rfl,by kernel_rfl,by kernel_rfl,fun h=>by cases h⟩
theorem acP:dc Tryz.prog 207 ⟨.int .u32,1,4,[.int .u32 0],false⟩:=⟨by kernel_rfl,by kernel_rfl,by kernel_rfl,fun h=>by cases h⟩
theorem acQ:dc Tryz.prog 216 ⟨.int .u64,1,8,[.int .u64 0],false⟩:=⟨by kernel_rfl,by kernel_rfl,by kernel_rfl,fun h=>by cases h⟩
theorem tok:gm Tryz.prog tab:=by
 intro t τ h
 unfold tab at h
 split at h
 ·cases h;exact aeV
 ·cases h;exact aeW
 ·cases h;exact aeX
 ·cases h;exact aeY
 ·cases h;exact aeZ
 ·cases h;exact adF
 ·cases h;exact adG
 ·cases h;exact adH
 ·cases h;exact adI
 ·cases h;exact adJ
 ·cases h;exact adK
 ·cases h;exact adL
 ·cases h;exact adM
 ·cases h;exact adN
 ·cases h;exact adO
 ·cases h;exact adP
 ·cases h;exact adQ
 ·cases h;exact adR
 ·cases h;exact adS
 ·cases h;exact adT
 ·cases h;exact adU
 ·cases h;exact adV
 ·cases h;exact adW
 ·cases h;exact adX
 ·cases h;exact adY
 ·cases h;exact adZ
 ·cases h;exact ad0
 ·cases h;exact ad1
 ·cases h;exact ad2
 ·cases h;exact ad3
 ·cases h;exact ad4
 ·cases h;exact ad5
 ·cases h;exact ad6
 ·cases h;exact ad7
 ·cases h;exact ad8
 ·cases h;exact ad9
 ·cases h;exact aea
 ·cases h;exact aeb
 ·cases h;exact aec
 ·cases h;exact acA
 ·cases h;exact acB
 ·cases h;exact acC
 ·cases h;exact acD
 ·cases h;exact acE
 ·cases h;exact acF
 ·cases h;exact acG
 ·cases h;exact acH
 ·cases h;exact acI
 ·cases h;exact acJ
 ·cases h;exact acK
 ·cases h;exact acL
 ·cases h;exact acM
 ·cases h;exact acN
 ·cases h;exact acO
 ·cases h;exact acP
 ·cases h;exact acQ
 ·cases h
theorem mixed:Tryz.prog.follows .mixedOrders=true:=by kernel_rfl
def nY {α:Type} (x:Option α) (K:α->Prop):Prop :=
 match x with
 | some a=>K a
 | none=>False
def br (b:Bool) (A B:Prop):Prop:=(b=true->A)∧(b=false->B)
def RE (d:D) (t:Nat->D) (g:Nat) (A B:(Nat->D)->Prop):Prop :=
 match d with
 | .bool b=>br b (A (bz t g (.bool b))) (B (bz t g (.bool b)))
 | _=>False
def wpS (d:D) (t:Nat->D) (g:Nat) (A B S:(Nat->D)->Prop):Prop :=
 match d with
 | .skp=>S t
 | d=>RE d t g A B
theorem yA {t:Nat->D} {g:Nat} {b:Bool} {A B S:(Nat->D)->Prop} : wpS (.bool b) t g A B S=br b (A (bz t g (.bool b))) (B (bz t g (.bool b))):=rfl
def ZU (ops:List Oper) (t:Nat->D) (gd:Option (Nat×Bool)) (A B:(Nat->D)->Prop):Prop :=
 match gd with
 | none=>A t
 | some (j,want)=>nY ((ops[j]?).bind (·.dst)) fun g=>wpS (t g) t g (if want then A else B) (if want then B else A) B
def Ps (T:Nat->Option Ty) (Γ:Env) (e:Nat) (o:Oper) (t:Nat->D) (h:Nat->Option Row) (K:(Nat->D)->bt->Prop):Prop :=
 match o.op with
 | .pick (.tmp c) a b=>RE (t c) t c (fun t=>K t ⟨ev t a,[]⟩) (fun t=>K t ⟨ev t b,[]⟩)
 | _=>nY (mM T Γ e o (ev t) h) (K t)
def EA (T:Nat->Option Ty) (Γ:Env) (N e:Nat) (ops:List Oper):List Oper->(Nat->D)->(Nat->Option Row)->((Nat->D)->(Nat->Option Row)->Prop)->Prop
 | [],t,h,K=>K t h
 | o::l,t,h,K=>fits N o.dst=true∧ZU ops t o.guard (fun t=>Ps T Γ e o t h fun t E=>EA T Γ N e ops l (dU t o.dst E.val) (aH h E.hw) K) (fun t=>EA T Γ N e ops l (dU t o.dst .skp) h K)
def runK (T:Nat->Option Ty) (Γ:Env) (N e:Nat) (ops:List Oper):List Oper->(Nat->D)->(Nat->Option Row)->List jg->((Nat->D)->(Nat->Option Row)->List jg->Prop)->Prop
 | [],t,h,fs,K=>K t h fs
 | o::l,t,h,fs,K=>fits N o.dst=true∧ZU ops t o.guard (fun t=>Ps T Γ e o t h fun t E=>runK T Γ N e ops l (dU t o.dst E.val) (aH h E.hw) (fs++[⟨bl o (ev t),E.hw.isEmpty⟩]) K) (fun t=>runK T Γ N e ops l (dU t o.dst .skp) h (fs++[⟨[],true⟩]) K)
abbrev Kt:=Ex->(Nat->D)->(Nat->Option Row)->Nat->Prop
def adB (x:Ex) (A:Prop) (B:Prop):Prop :=
 match x with
 | .normal=>A
 | _=>B
def WA (id:Nat) (x:Ex) (t:Nat->D) (h:Nat->Option Row) (e:Nat) (K:Kt):Prop :=
 match x with
 | .exit n=>if n=id then K .normal t h e else K (.exit n) t h e
 | x=>K x t h e
def wpR (T:Nat->Option Ty) (Γ:Env) (N:Nat) (ops:Array Oper) (draw:Bool) (t:Nat->D) (h:Nat->Option Row) (e:Nat) (K:(Nat->D)->(Nat->Option Row)->Prop):Prop :=
 match draw with
 | true=>runK T Γ N e ops.toList ops.toList t h [] fun t h fs=>CB ops fs=true∧K t h
 | false=>EA T Γ N e ops.toList ops.toList t h K
def Pu (T:Nat->Option Ty) (Γ:Env) (N F:Nat):Code->(Nat->D)->(Nat->Option Row)->Nat->Kt->Prop
 | .skip,t,h,e,K=>K .normal t h e
 | .region _ ops draw,t,h,e,K=>wpR T Γ N ops draw t h e fun t h=>K .normal t h (e+1)
 | .seq a b,t,h,e,K=>Pu T Γ N F a t h e fun x t h e=>adB x (Pu T Γ N F b t h e K) (K x t h e)
 | .cond c x y,t,h,e,K =>
  match c with
  | .tmp g=>RE (t g) t g (fun t=>Pu T Γ N F x t h e K) (fun t=>Pu T Γ N F y t h e K)
  | .const (.bool true)=>Pu T Γ N F x t h e K
  | .const (.bool false)=>Pu T Γ N F y t h e K
  | _=>False
 | .block id b,t,h,e,K=>Pu T Γ N F b t h e fun x t h e=>WA id x t h e K
 | .loop b,t,h,e,K=>∃x s,iter (fi T Γ N F b) F ⟨t,h,e⟩=some (x,s)∧K x s.t s.h s.e
 | .exit id,t,h,e,K=>K (.exit id) t h e
 | .ret,t,h,e,K=>K .ret t h e
 | _,_,_,_,_=>False
def ab0 (mode:Mode) (T:Nat->Option Ty) (lent:Option (D×Row)) (rs:List ResultVar) (x:Ex) (t:Nat->D) (h:Nat->Option Row) (e:Nat) (r:RK×Option Row):Prop :=
 match x with
 | .exit _=>False
 | _=>eZ mode T lent rs ⟨t,EH h,e⟩=some r
def wpf (mode:Mode) (T:Nat->Option Ty) (Γ:Env) (F:Nat) (fn:Func) (lent:Option (D×Row)) (args:List D) (r:RK×Option Row):Prop :=
 nY fn.body fun c=>Pu T Γ fn.ntmps F c (bM lent args).t (bM lent args).h (bM lent args).e fun x t h e=>ab0 mode T lent fn.results.toList x t h e r
theorem rj {α:Type} (a:α) (K:α->Prop):nY (some a) K=K a:=rfl
theorem DO {α:Type} {x:Option α} {K:α->Prop} (h:nY x K):∃a,x=some a∧K a:=by
 cases x with
 | none=>exact h.elim
 | some a=>exact⟨a,rfl,h⟩
theorem Rx {t:Nat->D} {g:Nat} {d:D} (h:t g=d):bz t g d=t:=by
 funext j
 unfold bz
 split
 ·rename_i e;subst e;exact h.symm
 ·rfl
theorem Jc (A B:Prop):br true A B=A:=by simp[br]
theorem BZ (A B:Prop):br false A B=B:=by simp[br]
theorem Z8 {b:Bool} {A B:Prop} (h:br b A B):if b then A else B:=by
 cases b with
 | true=>exact h.1 rfl
 | false=>exact h.2 rfl
theorem ZS {t:Nat->D} {g:Nat} {b:Bool} {A B:(Nat->D)->Prop} : RE (.bool b) t g A B=br b (A (bz t g (.bool b))) (B (bz t g (.bool b))):=rfl
theorem yy {t:Nat->D} {g:Nat} {A B:(Nat->D)->Prop} (h:t g=.bool true):RE (.bool true) t g A B=A t:=by simp[RE,Rx h,Jc]
theorem vg {t:Nat->D} {g:Nat} {A B:(Nat->D)->Prop} (h:t g=.bool false):RE (.bool false) t g A B=B t:=by simp[RE,Rx h,BZ]
theorem yB {t:Nat->D} {g:Nat} {A B S:(Nat->D)->Prop} (h:t g=.bool true):wpS (.bool true) t g A B S=A t:=yy h
theorem vk {t:Nat->D} {g:Nat} {A B S:(Nat->D)->Prop} (h:t g=.bool false):wpS (.bool false) t g A B S=B t:=vg h
theorem RF {t:Nat->D} {g:Nat} {A B:(Nat->D)->Prop} (h:RE (t g) t g A B):∃b,t g=.bool b∧(if b then A t else B t):=by
 unfold RE at h
 split at h
 ·rename_i b hb
  rw[Rx hb]at h
  exact⟨b,hb,Z8 h⟩
 ·exact h.elim
section
variable {T:Nat->Option Ty} {Γ:Env} {N F e:Nat}
theorem ZV {ops:Array Oper} {t:Nat->D} {o:Oper} {A B:(Nat->D)->Prop} (h:ZU ops.toList t o.guard A B):∃b,s6 ops t o=some b∧(if b then A t else B t):=by
 unfold ZU at h
 unfold s6
 split at h
 ·rename_i hg
  try rw[hg]
  exact⟨true,rfl,by simpa using h⟩
 ·rename_i j want hg
  try rw[hg]
  obtain⟨g,h1,h2⟩:=DO h
  rw[agm]at h1
  unfold wpS at h2
  split at h2
  ·rename_i hs
   simp only[h1,hs]
   exact⟨false,rfl,h2⟩
  ·obtain⟨b,h3,h4⟩:=RF h2
   simp only[h1,h3]
   refine⟨_,rfl,?_⟩
   cases b<;>cases want<;>simpa using h4
theorem ZT {o:Oper} {t:Nat->D} {h:Nat->Option Row} {K:(Nat->D)->bt->Prop} (hw:Ps T Γ e o t h K):∃E,mM T Γ e o (ev t) h=some E∧K t E:=by
 unfold Ps at hw
 split at hw
 ·rename_i c a b ho
  obtain⟨v,h1,h2⟩:=RF hw
  have hq:k9 Γ e h o.dst none=none:=by cases o.dst<;>rfl
  cases v with
  | true=>exact⟨⟨ev t a,[]⟩,by unfold mM fM kZ;rw[ho];simp only[ev,h1,ZY,je,fZ,hq],by simpa only[if_true] using h2⟩
  | false=>exact⟨⟨ev t b,[]⟩,by unfold mM fM kZ;rw[ho];simp only[ev,h1,ZY,je,fZ,hq],by simpa only[af5,if_false] using h2⟩
 ·obtain⟨E,h1,h2⟩:=DO hw
  exact⟨E,h1,h2⟩
theorem yn {ops:Array Oper} {K:(Nat->D)->(Nat->Option Row)->Prop} : ∀(l:List Oper) (t:Nat->D) (h:Nat->Option Row),EA T Γ N e ops.toList l t h K->∃t' h' fs,zg T Γ N e ops l t h=some (t',h',fs)∧K t' h'
 | [],t,h,hk=>⟨t,h,[],rfl,hk⟩
 | o::l,t,h,hk=>by
  unfold EA at hk
  obtain⟨hf,hg⟩:=hk
  obtain⟨b,h1,h2⟩:=ZV hg
  unfold zg step1
  rw[if_pos hf,h1]
  cases b with
  | true =>
   obtain⟨E,h3,h4⟩:=ZT (by simpa using h2)
   obtain⟨t',h',fs,h5,h6⟩:=yn l _ _ h4
   simp only[h3,h5]
   exact⟨_,_,_,rfl,h6⟩
  | false =>
   obtain⟨t',h',fs,h5,h6⟩:=yn l _ _ (by simpa using h2)
   simp only[h5]
   exact⟨_,_,_,rfl,h6⟩
theorem Kg {ops:Array Oper} {K:(Nat->D)->(Nat->Option Row)->List jg->Prop} : ∀(l:List Oper) (t:Nat->D) (h:Nat->Option Row) (f0:List jg),runK T Γ N e ops.toList l t h f0 K->∃t' h' fs,zg T Γ N e ops l t h=some (t',h',fs)∧K t' h' (f0++fs)
 | [],t,h,f0,hk=>⟨t,h,[],rfl,by unfold runK at hk;simpa using hk⟩
 | o::l,t,h,f0,hk=>by
  unfold runK at hk
  obtain⟨hf,hg⟩:=hk
  obtain⟨b,h1,h2⟩:=ZV hg
  unfold zg step1
  rw[if_pos hf,h1]
  cases b with
  | true =>
   obtain⟨E,h3,h4⟩:=ZT (by simpa using h2)
   obtain⟨t',h',fs,h5,h6⟩:=Kg l _ _ _ h4
   simp only[h3,h5]
   exact⟨_,_,_,rfl,by simpa using h6⟩
  | false =>
   obtain⟨t',h',fs,h5,h6⟩:=Kg l _ _ _ (by simpa using h2)
   simp only[h5]
   exact⟨_,_,_,rfl,by simpa using h6⟩
theorem acS {ops:Array Oper} {draw:Bool} {t:Nat->D} {h:Nat->Option Row} {K:(Nat->D)->(Nat->Option Row)->Prop} (hk:wpR T Γ N ops draw t h e K):∃t' h',vd T Γ N ops draw ⟨t,h,e⟩=some (.normal,⟨t',h',e+1⟩)∧K t' h':=by
 unfold vd
 cases draw with
 | false =>
  obtain⟨t',h',fs,h1,h2⟩:=yn _ _ _ hk
  simp only[h1]
  exact⟨t',h',by simp,h2⟩
 | true =>
  obtain⟨t',h',fs,h1,h2,h3⟩:=Kg _ _ _ _ hk
  simp only[h1]
  exact⟨t',h',by rw[ahe]at h2;simp[h2],h3⟩
theorem KA:∀(c:Code) (t:Nat->D) (h:Nat->Option Row) (e:Nat) (K:Kt),Pu T Γ N F c t h e K->∃x s,fi T Γ N F c ⟨t,h,e⟩=some (x,s)∧K x s.t s.h s.e:=by
 intro c
 induction c with
 | skip=>intro t h e K hk;exact⟨_,_,rfl,hk⟩
 | region i ops draw =>
  intro t h e K hk
  obtain⟨t',h',h1,h2⟩:=acS hk
  exact⟨_,_,h1,h2⟩
 | seq a b iha ihb =>
  intro t h e K hk
  obtain⟨x,s,h1,h2⟩:=iha _ _ _ _ hk
  simp only[fi,h1]
  cases x with
  | normal =>
   obtain⟨x2,s2,h3,h4⟩:=ihb _ _ _ _ h2
   exact⟨x2,s2,h3,h4⟩
  | exit n=>exact⟨_,_,rfl,h2⟩
  | ret=>exact⟨_,_,rfl,h2⟩
 | cond c x y ihx ihy =>
  intro t h e K hk
  unfold Pu at hk
  split at hk
  ·rename_i g
   obtain⟨b,h1,h2⟩:=RF hk
   simp only[fi,ev,h1,Po]
   cases b with
   | true=>exact ihx _ _ _ _ (by simpa using h2)
   | false=>exact ihy _ _ _ _ (by simpa using h2)
  ·simpa only[fi,ev,kW,Po,if_true] using ihx _ _ _ _ hk
  ·simpa only[fi,ev,kW,Po,af5,if_false] using ihy _ _ _ _ hk
  ·exact hk.elim
 | block id b ih =>
  intro t h e K hk
  obtain⟨x,s,h1,h2⟩:=ih _ _ _ _ hk
  simp only[fi,h1]
  cases x with
  | normal=>exact⟨_,_,rfl,h2⟩
  | ret=>exact⟨_,_,rfl,h2⟩
  | exit n =>
   simp only[RA]
   unfold WA at h2
   simp only at h2
   split at h2
   ·rename_i hn;rw[if_pos hn];exact⟨_,_,rfl,h2⟩
   ·rename_i hn;rw[if_neg hn];exact⟨_,_,rfl,h2⟩
 | loop b ih=>intro t h e K hk;exact hk
 | exit id=>intro t h e K hk;exact⟨_,_,rfl,hk⟩
 | ret=>intro t h e K hk;exact⟨_,_,rfl,hk⟩
 | _=>intro t h e K hk;exact hk.elim
theorem RG {mode:Mode} {fn:Func} {lent:Option (D×Row)} {args:List D} {r:RK×Option Row} (h:wpf mode T Γ F fn lent args r) (hN:fn.ntmps<=PK):aW mode T Γ F fn lent args=some r:=by
 obtain⟨c,h1,h2⟩:=DO h
 obtain⟨x,s,h3,h4⟩:=KA _ _ _ _ _ h2
 unfold aW
 simp only[h1]
 rw[if_pos hN]
 have e0:bM lent args=⟨(bM lent args).t,(bM lent args).h,(bM lent args).e⟩:=rfl
 rw[e0,h3]
 unfold ab0 at h4
 split at h4
 ·exact h4.elim
 ·rename_i hx
  split
  ·rename_i n _ he;cases he;exact (hx n rfl).elim
  ·rename_i _ x' s' _ he
   cases he
   exact h4
  ·rename_i he;cases he
theorem Uj {α:Type} (f:Nat->α) (i:Nat) (v:α) (j:Nat):bz f i v j=if j=i then v else f j:=ah6
def E7 (args:List D) (i:Nat):D:=args.getD i .und
theorem KQ (i:Nat):E7 [] i=.und:=by simp[E7]
theorem FZ (d:D) (l:List D):E7 (d::l) 0=d:=ah6
theorem FY (d:D) (l:List D) (i:Nat):E7 (d::l) (i+1)=E7 l i:=ah6
def Tn (_:Nat):Option Row:=none
theorem HP (i:Nat):Tn i=none:=ah6
end
end Go.Proofs.YtmcncjgbkobjnaaGreat.Am
