import Derived.Test.YtmcncjgbkobjnaaGreatJb
set_option linter.unusedSimpArgs false
set_option linter.unusedVariables false
noncomputable section
open Go.Proofs.Tryz
namespace Go.Proofs.YtmcncjgbkobjnaaGreat.Am
open Go.RowKit
section
variable {P:Program} {T:Nat->Option Ty} {N:Nat} {M:Nat->Prop} {L:iB} {w0:World} {blk:Nat->Option (Nat×Nat)} {V:Nat->Nat->Prop} {t:Nat->D} {h:Nat->Option Row} {a:Act} {w:World} {e:Nat} {o:Oper} {Γ:Env}
theorem Inv.acm (hI:Inv N M L w0 blk V t (EH h) a w) {x:Nat} {r:Row} {ty s nv n j:Nat} {cs xs:List D} (hx:h x=some r) (hm:r.mp=true) (hc:r.cells=[.nr ty s nv cs]) (hz:r.fz=false) (hp:x<PK) (hj:cs[j]? = some (.nx n xs)) (hn:xs.length=n*s) :
  Inv N M L w0 blk V t (EH (bB h x (some ⟨r.v,r.ty,[.nr ty s nv (cs.set j (.sl false false n xs))],false,r.lst,true⟩))) a w∧∀b,Own M (EH (bB h x (some ⟨r.v,r.ty,[.nr ty s nv (cs.set j (.sl false false n xs))],false,r.lst,true⟩))) blk b->Own M (EH h) blk b:=by
 have hjl:j<cs.length:=(agl.1 hj).1
 obtain⟨g,hg⟩:∃g,blk x=some g:=by
  cases hg:blk x with
  | some g=>exact⟨g,rfl⟩
  | none =>
   have:=(hI.rows x _ (eV hx hm hc hp)).2
   rw[hg]at this
   have h1:cs.mapIdx (oI x s)=[]:=this
   have h2:cs.length=0:=by
    have:=congrArg List.length h1
    simpa using this
   omega
 have hK:EH h (NK x j)=some ⟨nv,ty,xs,false,true,false⟩:=by rw[dQ hx hm hc hp,hj,hz];rfl
 obtain⟨u,hu1,hu2⟩:=hI.DU hx hm hc hp hg hj
 obtain⟨arr,ha1,ha2,ha3⟩:=hI.AD hx hm hc hp hg
 have hIf:=hI.freeze [NK x j]
 have hrp:RP w (Own M (aH (EH h) (gP (EH h) [NK x j])) blk) (.sl false false n xs) u:=by
  have hW:=hI.weaken (V':=fun y v=>V y v∨(y=NK x j∧v=nv)) (fun _ _ h =>.inl h)
  have hRT:RT w (Own M (EH h) blk) (EH h) blk (fun y v=>V y v∨(y=NK x j∧v=nv)) (.buf (NK x j) nv s 0 n) u:=by
   refine⟨.inr ⟨rfl,rfl⟩,fun r' hr' hv' =>?_⟩
   rcases hu2 with⟨g1,c,N',ty',k1,k2,k3,k4,k5,k6⟩|⟨k1,k2,k3⟩
   ·exact .inl ⟨g1,g1.2,c,N',ty',k1,k2,fun _=>⟨by omega,k3⟩,k4,k5,k6⟩
   ·exact .inr ⟨k1,k2,k3⟩
  have hl:live (EH h) (NK x j) nv=some ⟨nv,ty,xs,false,true,false⟩:=by
   unfold live
   rw[hK]
   simp
  have hcl:Am.bE (EH h) (.buf (NK x j) nv s 0 n)=some (.sl false false n xs,[NK x j]):=by
   simp only[Am.bE,Am.aP,Am.cZ,hl,agF,ahj]
   rw[if_pos (by rw[hn];exact afR _),<- hn,ahS]
   rfl
  exact hW.bE hcl (hW.eS [NK x j]) hRT
 generalize hh1:bB (EH h) (NK x j) none=h1
 have hdrop:bB (aH (EH h) (gP (EH h) [NK x j])) (NK x j) none=h1:=by
  rw[<- hh1]
  funext k
  by_cases hk:k=NK x j
  ·rw[hk,aq,aq]
  ·rw[au _ _ hk,au _ _ hk,y9]
   rw[if_neg (by simpa using hk)]
 have hI2:=hIf.drop (NK x j)
 rw[hdrop]at hI2
 have hown1:∀b,Own M h1 blk b->Own M (aH (EH h) (gP (EH h) [NK x j])) blk b:=by
  rintro b (hb|⟨k,r',g',hk,hz',hg',he⟩)
  ·exact .inl hb
  ·refine .inr ⟨k,r',g',?_,hz',hg',he⟩
   rw[<- hdrop]at hk
   by_cases hkk:k=NK x j
   ·rw[hkk,aq]at hk;cases hk
   ·rwa [au _ _ hkk]at hk
 have hx1:h1 x=some ⟨r.v,r.ty,cs.mapIdx (oI x s),r.fz,r.lst,true⟩:=by
  rw[<- hh1,au _ _ (by have:=dX x j;have:=bZ;omega)]
  exact eV hx hm hc hp
 have hcs:∀(i:Nat) d,(cs.set j (.sl false false n xs))[i]? = some d->(i=j∧d=.sl false false n xs)∨(i≠j∧cs[i]? = some d):=by
  intro i d hi
  by_cases hji:i=j
  ·subst hji
   rw[List.getElem?_set_self hjl]at hi
   exact .inl ⟨rfl,by simpa using hi.symm⟩
  ·rw[List.getElem?_set_ne (fun e=>hji e.symm)]at hi
   exact .inr ⟨hji,hi⟩
 have hB:=hI2.iR (x:=x) (r:=⟨r.v,r.ty,cs.mapIdx (oI x s),r.fz,r.lst,true⟩) (r0:=⟨r.v,r.ty,(cs.set j (.sl false false n xs)).mapIdx (oI x s),false,r.lst,true⟩) (w':=w) hx1 hz rfl rfl rfl rfl (afR _) (fun _ _ _=>rfl) (by
   rw[hg]
   refine⟨rfl,.inr ⟨fun d hd =>?_,arr,ha1,by simp only[ail,ahR];exact ha2,fun i d hi =>?_⟩⟩
   ·obtain⟨i,hi⟩:=agd hd
    simp only[aim,afP]at hi
    obtain⟨d0,hd0,rfl⟩:=hi
    exact jW _ _ _ _
   ·simp only[aim,afP]at hi
    obtain⟨d0,hd0,rfl⟩:=hi
    rcases hcs i d0 hd0 with⟨rfl,rfl⟩|⟨hij,hd1⟩
    ·have e1:arr.getD (g.2+i) undef=u:=by
      have:=aK ha1 (show g.2+i<arr.size by omega)
      rw[this]at hu1
      simpa using hu1
     rw[e1]
     exact hrp.less hown1
    ·by_cases hdd:eu d0=true
     ·rw[iS hdd]
      refine (ew hdd).2.2.2 ((ha3 i d0 hd1 hdd).less fun b hb =>?_)
      rcases hb with hb|⟨k,r',g',hk,hz',hg',he⟩
      ·exact .inl hb
      ·refine .inr ⟨k,r',g',?_,hz',hg',he⟩
       rw[<- hh1]at hk
       by_cases hkk:k=NK x j
       ·rw[hkk,aq]at hk;cases hk
       ·rwa [au _ _ hkk]at hk
     ·cases d0<;>first|trivial|exact absurd rfl hdd) (fun h=>by cases h) (fun _ g' hg' i x' s' n' hi=>by
   rw[hg]at hg'
   cases hg'
   simp only[aim,afP]at hi
   obtain⟨d0,hd0,he⟩:=hi
   obtain⟨xs1,rfl,rfl,rfl⟩:=oE he
   rcases hcs i _ hd0 with⟨rfl,hd1⟩|⟨hij,hd1⟩
   ·cases hd1
   ·exact hI2.pha x _ g hx1 rfl hg i (NK x i) s' n' (by simp only[aim,hd1,Option.map_some,oI]))
 have hfin:bB h1 x (some (⟨r.v,r.ty,(cs.set j (.sl false false n xs)).mapIdx (oI x s),false,r.lst,true⟩:Row))=EH (bB h x (some ⟨r.v,r.ty,[.nr ty s nv (cs.set j (.sl false false n xs))],false,r.lst,true⟩)):=by
  have hx':bB h x (some (⟨r.v,r.ty,[.nr ty s nv (cs.set j (.sl false false n xs))],false,r.lst,true⟩:Row)) x=some ⟨r.v,r.ty,[.nr ty s nv (cs.set j (.sl false false n xs))],false,r.lst,true⟩:=aq _ _ _
  funext k
  by_cases hkx:rt k=x
  rotate_left
  ·rw[au _ _ (fun e=>hkx (by rw[e,gj (by have:=bZ;omega)])),<- hh1,au _ _ (fun e=>hkx (by rw[e,sg hp]))]
   exact dB (by rw[au _ _ hkx])
  rcases mI hkx with rfl|⟨i,rfl⟩
  ·rw[aq,eV hx' rfl rfl hp]
  ·rw[au _ _ (by have:=dX x i;have:=bZ;omega),dQ hx' rfl rfl hp,<- hh1]
   by_cases hij:i=j
   ·rw[hij,aq,List.getElem?_set_self hjl];rfl
   ·rw[au _ _ (fun e=>hij (qE hp hp e).2),dQ hx hm hc hp,List.getElem?_set_ne (fun e=>hij e.symm),hz]
 rw[hfin]at hB
 refine⟨hB,?_⟩
 rintro b (hb|⟨k,r',g',hk,hz',hg',he⟩)
 ·exact .inl hb
 ·rw[<- hfin]at hk
  by_cases hkx:k=x
  ·subst hkx
   exact .inr ⟨k,_,g',eV hx hm hc hp,hz,hg',he⟩
  ·rw[au _ _ hkx,<- hh1]at hk
   by_cases hkk:k=NK x j
   ·rw[hkk,aq]at hk;cases hk
   ·rw[au _ _ hkk]at hk
    exact .inr ⟨k,r',g',hk,hz',hg',he⟩
end
def Bk (s:Nat):D->Bool
 | .nx n xs=>xs.length==n*s
 | d=>eu d
def lI (k o:Nat) (cs:List D):List D:=cs.mapIdx fun i d=>if o<=i∧i<o+k then Wd d else d
section
variable {P:Program} {T:Nat->Option Ty} {N:Nat} {M:Nat->Prop} {L:iB} {w0:World} {blk:Nat->Option (Nat×Nat)} {V:Nat->Nat->Prop} {t:Nat->D} {h:Nat->Option Row} {a:Act} {w:World} {e:Nat} {o:Oper} {Γ:Env}
theorem Jb (o:Nat) (cs:List D):lI 0 o cs=cs:=by
 unfold lI
 apply ahV
 intro i
 rw[aim]
 cases cs[i]? with
 | none=>rfl
 | some d=>simp only[Option.map_some];rw[if_neg (by omega)]
theorem vw (k o:Nat) (cs:List D) (i:Nat):(lI k o cs)[i]? = (cs[i]?).map fun d=>if o<=i∧i<o+k then Wd d else d:=by
 unfold lI
 rw[aim]
theorem Inv.aco (hI:Inv N M L w0 blk V t (EH h) a w) {x:Nat} {r:Row} {ty s nv o:Nat} {cs:List D} (hx:h x=some r) (hm:r.mp=true) (hc:r.cells=[.nr ty s nv cs]) (hz:r.fz=false) (hp:x<PK):∀k:Nat,((cs.drop o).take k).all (Bk s)=true ->
  Inv N M L w0 blk V t (EH (bB h x (some ⟨r.v,r.ty,[.nr ty s nv (lI k o cs)],false,r.lst,true⟩))) a w∧∀b,Own M (EH (bB h x (some ⟨r.v,r.ty,[.nr ty s nv (lI k o cs)],false,r.lst,true⟩))) blk b->Own M (EH h) blk b
 | 0,_=>by
  have:bB h x (some (⟨r.v,r.ty,[.nr ty s nv (lI 0 o cs)],false,r.lst,true⟩:Row))=h:=by
   funext k
   by_cases hk:k=x
   ·rw[hk,aq,Jb,hx]
    cases r
    simp only at hm hc hz
    rw[hm,hc,hz]
   ·rw[au _ _ hk]
  rw[this]
  exact⟨hI,fun _ h=>h⟩
 | k+1,hall=>by
  have hall':((cs.drop o).take k).all (Bk s)=true:=by
   rw[af2]at hall ⊢
   intro d hd
   obtain⟨i,hi⟩:=agd hd
   refine hall d (agk (i:=i) ?_)
   rw[af7]at hi ⊢
   split at hi
   ·rw[if_pos (by omega)];exact hi
   ·cases hi
  obtain⟨h1,h2⟩:=hI.aco hx hm hc hz hp k hall'
  have hsame:(∀n xs,cs[o+k]?≠some (.nx n xs))->lI (k+1) o cs=lI k o cs:=by
   intro hn
   apply ahV
   intro i
   rw[vw,vw]
   cases hci:cs[i]? with
   | none=>rfl
   | some d =>
    simp only[Option.map_some,af0]
    by_cases hik:i=o+k
    ·subst hik
     rw[if_pos (by omega),if_neg (by omega)]
     cases d<;>first|rfl|exact absurd hci (hn _ _)
    ·by_cases hin:o<=i∧i<o+k
     ·rw[if_pos hin,if_pos (by omega)]
     ·rw[if_neg hin,if_neg (by omega)]
  by_cases hnx:∃n xs,cs[o+k]? = some (.nx n xs)
  rotate_left
  ·rw[hsame fun n xs h=>hnx ⟨n,xs,h⟩]
   exact⟨h1,h2⟩
  obtain⟨n,xs,hnx⟩:=hnx
  have hlen:xs.length=n*s:=by
   have:=af2.1 hall (.nx n xs) (agk (i:=k) (by rw[af7,if_pos (by omega),af8];exact hnx))
   simpa [Bk] using this
  have hset:lI (k+1) o cs=(lI k o cs).set (o+k) (.sl false false n xs):=by
   have hlt:=(agl.1 hnx).1
   apply ahV
   intro i
   rw[vw]
   by_cases hik:i=o+k
   ·subst hik
    rw[List.getElem?_set_self (by simpa [lI] using hlt),hnx]
    simp only[Option.map_some]
    rw[if_pos (by omega)]
    rfl
   ·rw[List.getElem?_set_ne (fun e=>hik e.symm),vw]
    cases hci:cs[i]? with
    | none=>rfl
    | some d =>
     simp only[Option.map_some,af0]
     by_cases hin:o<=i∧i<o+k
     ·rw[if_pos hin,if_pos (by omega)]
     ·rw[if_neg hin,if_neg (by omega)]
  have hj:(lI k o cs)[o+k]? = some (.nx n xs):=by
   rw[vw,hnx]
   simp only[Option.map_some]
   rw[if_neg (by omega)]
  obtain⟨h3,h4⟩:=h1.acm (x:=x) (aq _ _ _) rfl rfl rfl hp hj hlen
  have hupd:∀(r1 r2:Option Row),bB (bB h x r1) x r2=bB h x r2:=by
   intro r1 r2
   funext i
   by_cases hi:i=x
   ·rw[hi,aq,aq]
   ·rw[au _ _ hi,au _ _ hi,au _ _ hi]
  rw[hupd,<- hset]at h3 h4
  exact⟨h3,fun b hb=>h2 b (h4 b hb)⟩
def Jr (x:Nat) (r:Row) (ty s o k:Nat):Option Nat->Option (D×List D)->Option bu
 | some nv',some (d,cs')=>if ((cs'.drop o).take k).all (Bk s)=true then some ⟨d,[(x,some ⟨r.v,r.ty,[.nr ty s nv' (lI k o cs')],false,r.lst,true⟩)]⟩ else none
 | _,_=>none
def Cg (e x:Nat) (r:Row) (ty s nv:Nat) (cs:List D) (o:Nat):Option (Nat×(Nat->Nat->Nat->Nat->List D->List D->Option (D×List D)))->Option (List D×List Nat)->Option bu
 | some p,some (afM,[])=>Jr x r ty s o p.1 (bump nv e) (p.2 r.ty ty s o cs afM)
 | _,_=>none
def pP (Γ:Env) (e:Nat) (h:Nat->Option Row) (g:Nat):List D->Option bu
 | .ptr x v o::rest =>
  match eY h x v with
  | some (r,ty,s,nv,cs)=>Cg e x r ty s nv cs o (Γ.nx.lnd g) (bn (EH h) rest)
  | none=>none
 | _=>none
theorem qS {g:Nat} {args:List D} {E:bu} (hE:pP Γ e h g args=some E):∃x v o rest r ty s nv cs p afM nv' d cs',args=.ptr x v o::rest∧eY h x v=some (r,ty,s,nv,cs)∧Γ.nx.lnd g=some p∧bn (EH h) rest=some (afM,[])∧bump nv e=some nv'∧p.2 r.ty ty s o cs afM=some (d,cs') ∧
  ((cs'.drop o).take p.1).all (Bk s)=true∧E=⟨d,[(x,some ⟨r.v,r.ty,[.nr ty s nv' (lI p.1 o cs')],false,r.lst,true⟩)]⟩:=by
 unfold pP at hE
 split at hE<;>try (cases hE;done)
 rename_i x v o rest
 split at hE<;>try (cases hE;done)
 rename_i r ty s nv cs hl
 unfold Cg at hE
 split at hE<;>try (cases hE;done)
 rename_i p afM hp hca
 unfold Jr at hE
 split at hE<;>try (cases hE;done)
 rename_i nv' d cs' hb hs
 split at hE<;>try (cases hE;done)
 rename_i hall
 exact⟨x,v,o,rest,r,ty,s,nv,cs,p,afM,nv',d,cs',rfl,hl,hp,hca,hb,hs,hall,by simpa using hE.symm⟩
theorem W6 (hΓ:bA P Γ) (hI:Inv N M L w0 blk V t (EH h) a w) (hVw:aai V h e) {g:Nat} {dst:Option Nat} {args:List D} {vs:Array Value} {E:bu} (hE:pP Γ e h g args=some E) (hsz:vs.size=args.length)
  (hr:∀(j:Nat) d,args[j]? = some d->RT w (Own M (EH h) blk) (EH h) blk V d (vs.getD j undef)):dz P g∧Calls P g vs w fun e' w'=>∃v,e'=.returned v∧iA N M L w0 V t h a e dst E v w':=by
 obtain⟨x,v,o,rest,r,ty,s,nv,cs,p,afM,nv',d,cs',rfl,hl,hp,hca,hb,hs,hall,rfl⟩:=qS hE
 obtain⟨hx,hv,hz,hm,hp1,hc⟩:=gq hl
 obtain⟨hcl,hcalls⟩:=hΓ.lnd g p hp
 refine⟨hcl,?_⟩
 have h0:=hr 0 _ rfl
 have hEx:=eV hx hm hc hp1
 obtain⟨g0,hg0,hu0⟩:=h0.2 _ hEx hv
 have hvs:vs = #[.pointer (some ⟨g0.1,g0.2+o,none⟩)]++vs.extract 1 vs.size:=by
  have h1:0<vs.size:=by rw[hsz];simp
  rw[<- hu0]
  apply Array.ext
  ·simp;omega
  ·intro i h1 h2
   cases i with
   | zero=>simp[ag2 h1]
   | succ i=>simp[ag6];congr 1;omega
 have hsz':(vs.extract 1 vs.size).size=rest.length:=by simp at hsz ⊢;omega
 have hr':∀(j:Nat) d,rest[j]? = some d->RT w (Own M (EH h) blk) (EH h) blk V d ((vs.extract 1 vs.size).getD j undef):=by
  intro j d hj
  have:=hr (j+1) d (by simpa using hj)
  have e1:(vs.extract 1 vs.size).getD j undef=vs.getD (j+1) undef:=by
   simp only[afW]
   congr 1
   rw[ag8]
   split
   ·congr 1;omega
   ·rename_i hh;rw[ag9 (by omega)]
  rw[e1];exact this
 obtain⟨M',hM'⟩:∃M':Nat->Prop,∀b,M' b↔Own M (EH h) blk b∧¬InX blk h x b:=⟨_,fun _=>Iff.rfl⟩
 have hInX:∀b,InX blk h x b->Own M (EH h) blk b:=by
  rintro b ⟨k,r',g',q0,q1,q2,q3⟩
  refine .inr ⟨k,r',g',q1,?_,q2,q3⟩
  rcases dL hx hm hc hp1 q0 q1 with⟨_,rfl⟩|⟨_,_,_,_,_,rfl⟩<;>exact hz
 have hIB:=Jh (blk:=blk) hx hm hc hp1
 have hQ:∀b,(M' b∨uj (oH blk x) (EH (lH (ic r.ty ty s 0 cs))) b)->Own M (EH h) blk b:=fun b hb=>hb.elim (fun hb=>((hM' b).1 hb).1) (fun hb=>hInX b ((hIB b).1 hb))
 have hargs:=hI.B1 hca ⟨fun b h=>h,fun x hx=>by cases hx⟩ hsz' hr'
 have hA:wY w (fun b=>M' b∨uj (oH blk x) (EH (lH (ic r.ty ty s 0 cs))) b) afM (vs.extract 1 vs.size):=⟨hargs.1,fun j d hj=>(hargs.2 j d hj).less hQ,fun b hb=>(hargs.tab b hb).less hQ⟩
 rw[hvs]
 refine (hcalls _ _ _ _ _ _ _ _ hs w M' (oH blk x) _ _ g0 _ rfl rfl (fun b hb=>hI.wN ((hM' b).1 hb).1) (fun b hb hb'=>((hM' b).1 hb').2 ((hIB b).1 hb)) (by rw[oH,pI];exact hg0) (hI.acs hx hm hc hz hp1 hQ) hA).mono fun e' w' hg =>?_
 obtain⟨u,blk1,he,hbey,q0,qsh,qnew,qR,qrp⟩:=hg
 refine⟨u,he,mG blk blk1 x,?_⟩
 obtain⟨k1,k2⟩:=hI.back hx hm hc hz hp1 (hVw x r ty s nv cs nv' hx hm hc hp1 hb) hg0 rfl hM' ⟨hbey.os,hbey.tape,hbey.output,hbey.size,fun k hk hn=>hbey.block k hk fun hh=>hn ((hIB k).1 hh)⟩ q0 qsh (fun b hb=>(qnew b hb).imp id fun hh=>(hIB b).1 hh) qR
 obtain⟨k3,k4⟩:=k1.aco (x:=x) (o:=o) (aq _ _ _) rfl rfl rfl hp1 p.1 hall
 have hupd:∀(r1 r2:Option Row),bB (bB h x r1) x r2=bB h x r2:=by
  intro r1 r2
  funext i
  by_cases hi:i=x
  ·rw[hi,aq,aq]
  ·rw[au _ _ hi,au _ _ hi,au _ _ hi]
 rw[hupd]at k3 k4
 exact⟨k3.weaken fun _ _ h =>.inl h,bq (qrp.less fun b hb=>k2 b (k4 b hb))⟩
end
def F3:D->D->Option D
 | .nx _ _,.sl true true 0 []=>some (.nx 0 [])
 | .nx _ _,_=>none
 | _,d=>if eu d=true then some (canon d) else none
def qo:List D->List D->Option (List D)
 | [],[]=>some []
 | c::cs,x::xs =>
  match F3 c x,qo cs xs with
  | some y,some ys=>some (y::ys)
  | _,_=>none
 | _,_=>none
def stZ (x:Nat) (r:Row) (ty s:Nat):Option Nat->Option (List D)->Option bu
 | some nv',some cs'=>some ⟨.und,[(x,some ⟨r.v,r.ty,[.nr ty s nv' cs'],false,r.lst,true⟩)]⟩
 | _,_=>none
def Rq (n e x:Nat) (r:Row) (ty s nv:Nat) (cs:List D):D->Option bu
 | .agg xs=>if xs.length=n then stZ x r ty s (bump nv e) (qo cs xs) else none
 | _=>none
def nZ (τ:Ty) (e:Nat) (h:Nat->Option Row) (p d:D):Option bu :=
 match p with
 | .ptr x v o =>
  match eY h x v with
  | some (r,ty,s,nv,cs)=>if r.lst=false∧o=0∧cs.length=τ.size then Rq τ.size e x r ty s nv cs d else none
  | none=>none
 | _=>none
def QF (x:Nat) (r:Row) (ty s nv:Nat) (cs:List D):Option D->Option bu
 | some d=>some ⟨d,[(x,some ⟨r.v,r.ty,[.nr ty s nv cs],false,r.lst,true⟩)]⟩
 | none=>none
def nU (τ:Ty) (h:Nat->Option Row):D->Option bu
 | .ptr x v o =>
  match eY h x v with
  | some (r,ty,s,nv,cs)=>if r.lst=false∧o=0∧cs.length=τ.size∧1<τ.size∧cs.all (Bk s)=true then QF x r ty s nv (lI τ.size 0 cs) (iL τ (cs.map Wd)) else none
  | none=>none
 | _=>none
def orE:Option bu->Option bu->Option bu
 | some E,_=>some E
 | none,y=>y
def td (τ:Ty) (h:Nat->Option Row) (p:D):Option bu:=orE (nU τ h p) (nV τ h p)
def tf (τ:Ty) (e:Nat) (h:Nat->Option Row) (p d:D):Option bu:=orE (nZ τ e h p d) (ly τ e h p d)
theorem PG:∀ {cs xs ys:List D},qo cs xs=some ys->ys.length=cs.length∧xs.length=cs.length∧∀(j:Nat) c x,cs[j]? = some c->xs[j]? = some x->∃y,ys[j]? = some y∧F3 c x=some y
 | [],[],ys,h=>by simp only[qo,af0]at h;subst h;exact⟨rfl,rfl,fun j c x hc=>by simp at hc⟩
 | c::cs,x::xs,ys,h=>by
  simp only[qo]at h
  split at h
  ·rename_i y ys' h1 h2
   simp only[af0]at h
   subst h
   obtain⟨k1,k2,k3⟩:=PG h2
   refine⟨by simp[k1],by simp[k2],fun j c' x' hc hx =>?_⟩
   cases j with
   | zero =>
    simp only[List.getElem?_cons_zero,af0]at hc hx ⊢
    subst hc hx
    exact⟨y,rfl,h1⟩
   | succ j=>exact k3 j c' x' (by simpa using hc) (by simpa using hx)
  ·cases h
 | [],x::xs,ys,h=>by simp[qo]at h
 | c::cs,[],ys,h=>by simp[qo]at h
theorem Fa {c x y:D} (h:F3 c x=some y):(x=.sl true true 0 []∧y=.nx 0 [])∨(eu x=true∧y=canon x):=by
 unfold F3 at h
 split at h
 ·simp only[af0]at h;exact .inl ⟨rfl,h.symm⟩
 ·cases h
 ·split at h
  ·rename_i hd
   simp only[af0]at h;exact .inr ⟨hd,h.symm⟩
  ·cases h
section
variable {P:Program} {T:Nat->Option Ty} {N:Nat} {M:Nat->Prop} {L:iB} {w0:World} {blk:Nat->Option (Nat×Nat)} {V:Nat->Nat->Prop} {t:Nat->D} {h:Nat->Option Row} {a:Act} {w:World} {e:Nat} {o:Oper} {Γ:Env}
theorem Xy (x:Nat):Bw (EH h) (fun k=>if rt k=x∧k≠x then none else EH h k):=by
 intro k r' hk
 simp only at hk
 split at hk
 ·cases hk
 ·exact⟨r',hk,.refl _⟩
open Classical in
theorem Xw (hT:gz P T) (hI:Inv N M L w0 blk V t (EH h) a w) (hVn:aai V h e) {ty:Nat} {p x:Operand} {τ:Ty} {E:bu} (ho:o.op=.store ty p x) (hτ:T ty=some τ) (hE:nZ τ e h (ev t p) (ev t x)=some E):dA P o a w (iA N M L w0 V t h a e o.dst E):=by
 have hp:=hI.ev p
 have hq:=hI.ev x
 have hbig:=hI.big
 have hpk:=bZ
 generalize ev t p=pd at *
 generalize ev t x=d at *
 unfold nZ at hE
 split at hE<;>try (cases hE;done)
 rename_i y v c0
 split at hE<;>try (cases hE;done)
 rename_i r ty' s nv cs hl
 obtain⟨hx,hv,hz,hm,hp1,hc⟩:=gq hl
 have hEx:=eV hx hm hc hp1
 obtain⟨g,hg,hpv⟩:=hp.2 _ hEx hv
 split at hE<;>try (cases hE;done)
 rename_i hcond
 obtain⟨_,rfl,hl1⟩:=hcond
 unfold Rq at hE
 split at hE<;>try (cases hE;done)
 rename_i xs
 split at hE<;>try (cases hE;done)
 rename_i hl2
 unfold stZ at hE
 split at hE<;>try (cases hE;done)
 rename_i nv' cs' hb hzz
 simp only[af0]at hE
 subst hE
 obtain⟨z1,z2,z3⟩:=PG hzz
 have hq':RP w (Own M (EH h) blk) (.agg xs) (a.eval x):=hq
 obtain⟨us,hus,hul,hur⟩:∃us:List Value,a.eval x=.agg us.toArray∧us.length=xs.length∧∀j x,xs[j]? = some x->RP w (Own M (EH h) blk) x (us.getD j undef):=by
  generalize a.eval x=u at hq'
  cases hq' with
  | agg xs us h1 h2 h3=>exact⟨us,rfl,h1,h2⟩
 have hpl:∀(j:Nat) x,xs[j]? = some x->eu x=true:=by
  intro j x hj
  have hjl:=(agl.1 hj).1
  obtain⟨y',_,k2⟩:=z3 j _ x (af4 (by omega)) hj
  rcases Fa k2 with⟨rfl,_⟩|⟨k3,_⟩
  ·rfl
  ·exact k3
 have hone:∀u∈us,u.oneCell'=true:=by
  intro u hu
  obtain⟨j,hj⟩:=agd hu
  have hjl:=(agl.1 hj).1
  have hjx:=af4 (l:=xs) (i:=j) (by omega)
  have:=hur j _ hjx
  have e1:us.getD j undef=u:=by simp[List.getD,hj]
  rw[e1]at this
  exact this.pg (ew (hpl j _ hjx)).1
 obtain⟨arr,k1,k2,k3⟩:=hI.AD hx hm hc hp1 hg
 have hrun:=run_storeCells_at P g.1 (g.2+0) r.ty us 0 arr w k1 (by omega) hone
 rw[agr]at hrun
 have hsz:(arr.toList.take g.2++us++arr.toList.drop (g.2+us.length)).toArray.size=arr.size:=by simp;omega
 have hget:∀j,j<cs.length->(arr.toList.take g.2++us++arr.toList.drop (g.2+us.length)).toArray.getD (g.2+j) undef=us.getD j undef:=by
  intro j hj
  have:=po arr us g.2 (g.2+j) (by omega)
  rw[this,if_neg (by omega),if_pos (by omega)]
  congr 1
  omega
 generalize hnv:(arr.toList.take g.2++us++arr.toList.drop (g.2+us.length)).toArray=arr' at hrun hsz hget
 obtain⟨hnew,hhs,hheap⟩:=yA (g:=g) (arr':=arr') k1
 have hown:Own M (EH h) blk g.1 := .inr ⟨y,_,g,hEx,hz,hg,rfl⟩
 have hK:∀o,NK y o≠y∧2*PK<=NK y o:=fun o=>by have:=dX y o;omega
 have hle:=Xy (h:=h) y
 have hA:=hI.le hle
 generalize hh1:(fun k=>if rt k=y∧k≠y then none else EH h k)=h1 at hA hle
 have h1y:h1 y=some ⟨r.v,r.ty,cs.mapIdx (oI y s),r.fz,r.lst,true⟩:=by
  rw[<- hh1]
  simp only[ne_eq,not_true_eq_false,and_false,if_false]
  exact hEx
 have h1K:∀o,h1 (NK y o)=none:=fun o=>by
  rw[<- hh1]
  simp only
  rw[if_pos ⟨sg hp1,(hK o).1⟩]
 have h1ne:∀k,rt k≠y->h1 k=EH h k:=fun k hk=>by
  rw[<- hh1]
  simp only
  rw[if_neg (fun hh=>hk hh.1)]
 have hcs':∀(j:Nat) d,cs'[j]? = some d->(d=.nx 0 []∧us.getD j undef=.slice none 0 0)∨(eu d=true∧RP w (Own M (EH h) blk) d (us.getD j undef)):=by
  intro j d hj
  have hjl:=(agl.1 hj).1
  have hjx:=af4 (l:=xs) (i:=j) (by omega)
  obtain⟨y',q1,q2⟩:=z3 j _ _ (af4 (by omega)) hjx
  rw[hj]at q1
  cases q1
  have hr:=hur j _ hjx
  rcases Fa q2 with⟨e1,rfl⟩|⟨e1,rfl⟩
  ·refine .inl ⟨rfl,?_⟩
   rw[e1]at hr
   generalize us.getD j undef=u at hr
   cases hr with
   | sl A c _ _ _ _ us' g1 g2 g3 g4 g5 g6 g7 g8 =>
    obtain⟨rfl,rfl⟩:=(g3 rfl).1 rfl
    rfl
  ·refine .inr ⟨?_,hr.canon⟩
   generalize xs[j]=q at e1
   cases q<;>first|rfl|cases e1
 have hkeep:∀ {d:D} {u:Value},RP w (Own M (EH h) blk) d u->RP (w.setRow g.1 arr') (Own M h1 blk) d u:=fun hr=>hr.keep fun b q1 q2=>⟨by rw[hhs];exact q1,zl hle q2,hheap b (fun e=>q2 (e ▸ hown))⟩
 have hB:=hA.iR (x:=y) (r0:=⟨r.v,r.ty,cs'.mapIdx (oI y s),false,r.lst,true⟩) (w':=w.setRow g.1 arr') h1y hz rfl rfl rfl rfl (by rw[hhs];exact afR _) (fun b _ hb=>hheap b (hb g hg)) (by
  rw[hg]
  refine⟨by simp[World.shape?,hnew,k1,hsz],.inr ⟨fun d hd =>?_,arr',hnew,by simp only[ail];omega,fun j d hj =>?_⟩⟩
  ·obtain⟨j,hj⟩:=agd hd
   simp only[aim,afP]at hj
   obtain⟨d0,_,rfl⟩:=hj
   exact jW _ _ _ _
  ·simp only[aim,afP]at hj
   obtain⟨d0,hd0,rfl⟩:=hj
   have hjl:=(agl.1 hd0).1
   rw[hget j (by omega)]
   rcases hcs' j d0 hd0 with⟨rfl,_⟩|⟨q1,q2⟩
   ·trivial
   ·rw[iS q1]
    exact (ew q1).2.2.2 (hkeep q2)) (fun hh=>by cases hh) (fun _ g' hg' j x' s' n' hj=>by
  rw[hg]at hg'
  cases hg'
  simp only[aim,afP]at hj
  obtain⟨d0,hd0,he⟩:=hj
  obtain⟨xs1,rfl,rfl,rfl⟩:=oE he
  have hjl:=(agl.1 hd0).1
  exact⟨⟨hp1,.inr rfl⟩,_,aK hnew (by omega),fun r1 hr1=>by rw[h1K]at hr1;cases hr1⟩)
 obtain⟨S,hS⟩:∃S:Nat->Prop,∀k,S k↔∃o xs,k=NK y o∧cs'[o]? = some (.nx 0 xs):=⟨_,fun _=>Iff.rfl⟩
 have hnil:∀(j n':Nat) (xs:List D),cs'[j]? = some (.nx n' xs)->n'=0∧xs=[]∧us.getD j undef=.slice none 0 0:=by
  intro j n' xs hj
  rcases hcs' j _ hj with⟨e1,e2⟩|⟨e1,_⟩
  ·cases e1;exact⟨rfl,rfl,e2⟩
  ·cases e1
 have hx':bB h y (some (⟨r.v,r.ty,[.nr ty' s nv' cs'],false,r.lst,true⟩:Row)) y=some ⟨r.v,r.ty,[.nr ty' s nv' cs'],false,r.lst,true⟩:=aq _ _ _
 have hC:=hB.addEmpty S ty' nv' (h':=EH (bB h y (some ⟨r.v,r.ty,[.nr ty' s nv' cs'],false,r.lst,true⟩))) (blk':=fun k=>if S k then none else blk k) (fun k hk=>by
   obtain⟨o',xs,rfl,ho'⟩:=(hS k).1 hk
   have:=hK o'
   exact⟨by omega,by omega,hVn y r ty' s nv cs nv' hx hm hc hp1 hb o',by rw[au _ _ (hK o').1,h1K]⟩) (fun k hk=>by
   refine⟨?_,by rw[if_pos hk]⟩
   obtain⟨o',xs,rfl,ho'⟩:=(hS k).1 hk
   rw[dQ hx' rfl rfl hp1,ho']
   obtain⟨_,rfl,_⟩:=hnil o' 0 xs ho'
   rfl) (fun k hk=>by
   refine⟨?_,by rw[if_neg hk]⟩
   by_cases hkd:rt k=y
   ·rcases mI hkd with rfl|⟨o',rfl⟩
    ·rw[aq,eV hx' rfl rfl hp1]
    ·rw[au _ _ (hK o').1,h1K,dQ hx' rfl rfl hp1]
     cases hco:cs'[o']? with
     | none=>rfl
     | some d0 =>
      cases d0 with
      | nx n' xs =>
       obtain⟨rfl,_,_⟩:=hnil o' n' xs hco
       exact absurd ((hS _).2 ⟨o',xs,rfl,hco⟩) hk
      | _=>rfl
   ·rw[au _ _ (fun e=>hkd (by rw[e,gj (by omega)])),h1ne k hkd]
    exact dB (by rw[au _ _ hkd])) (fun y1 r1 g1 hy hm1 hg1 j x' s' n' hj hs=>by
   obtain⟨o',xs,rfl,ho'⟩:=(hS _).1 hs
   obtain⟨⟨p1,p2⟩,u,p3,_⟩:=hB.pha y1 r1 g1 hy hm1 hg1 j _ s' n' hj
   rcases p2 with p2|p2
   ·have:=dX y o';omega
   obtain⟨rfl,rfl⟩:=qE hp1 p1 p2
   rw[aq]at hy
   rw[hg]at hg1
   cases hy
   cases hg1
   simp only[aim,afP]at hj
   obtain⟨d0,hd0,he⟩:=hj
   obtain⟨xs',rfl,_,rfl⟩:=oE he
   obtain⟨k1',_,k3'⟩:=hnil o' n' xs' hd0
   have hlt:=(agl.1 hd0).1
   refine⟨_,aK hnew (by omega),k1',none,?_⟩
   rw[hget o' (by omega)]
   exact k3')
 refine .inr (.inl ⟨w.setRow g.1 arr',?_,fun k=>if S k then none else blk k,?_,trivial⟩)
 ·have hcells:(a.eval x).cells.toList=us:=by rw[hus];rfl
  have hcs:(a.eval x).cells.size=τ.size:=by rw[<- hl2,<- hul,<- hcells];simp
  have hrun':(storeCells ⟨g.1,g.2+0,none⟩ (a.eval x).cells.toList 0).run P w=.ok () (w.setRow g.1 arr'):=by rw[hcells];exact hrun
  rw[agr]at hrun' hpv
  simp[execOp,ho,Instr.storeAt,Instr.sureAddr,hpv,storeVar,run_sizeOf (hT ty τ hτ),hcs,hrun']
 ·exact hC.weaken fun _ _ h =>.inl h
open Classical in
theorem Xs (hT:gz P T) (hI:Inv N M L w0 blk V t (EH h) a w) {ty d ty' s f:Nat} {τ:Ty} {E:bu} (ho:o.op=.alloc ty) (hd:o.dst=some d) (hV:hX N V d e) (hV':∀o,¬V (NK d o) (4*e+2)) (hτ:T ty=some τ)
  (hE:mkA τ ty e d ty' s f=some E):dA P o a w (iA N M L w0 V t h a e o.dst E):=by
 have hbig:=hI.big
 have hpk:=bZ
 unfold mkA at hE
 split at hE<;>try (cases hE;done)
 rename_i hcond
 obtain⟨c4,c5,c6,hdp,c8⟩:=hcond
 simp only[af0]at hE
 subst hE
 obtain⟨z,hz1,hz2⟩:=iz (hT ty τ hτ) w
 have hzl:(τ.zero.map lh).length=τ.size:=by rw[agm,c6]
 have hf:f<τ.size:=by
  rw[aik]at c8
  rcases agD f τ.size with hlt|hge
  ·exact hlt
  ·rw[aht (by omega)]at c8;cases c8
 have hzf:(τ.zero.map lh)[f]? = some (.sl true true 0 []):=by
  rw[aik]at c8
  unfold Yu at c8
  split at c8
  ·assumption
  ·cases c8
 have hzn:(k9 τ f).length=τ.size:=by
  unfold k9
  rw[iN (by simp;omega)]
  simp[c6]
 have hzat:∀(m:Nat) (x:D),(k9 τ f)[m]? = some x->(m=f∧x=.nx 0 [])∨(m≠f∧∃y,(τ.zero.map lh)[m]? = some y∧x=canon y):=by
  intro m x hm
  unfold k9 at hm
  by_cases hmf:m=f
  ·subst hmf
   rw[eT (by simp;omega)]at hm
   exact .inl ⟨rfl,by simpa using hm.symm⟩
  ·rw[fT (by simp;omega) hmf,afO,afP]at hm
   obtain⟨y,h1,h2⟩:=hm
   exact .inr ⟨hmf,y,h1,h2.symm⟩
 obtain⟨vs,hvs⟩:∃vs:Array Value,vs=τ.zero.toArray:=⟨_,rfl⟩
 have hsz:vs.size=τ.size:=by rw[hvs];simpa using c6
 have hdat:∀(M':Nat->Prop) (w':World) (j:Nat) (x:D),(k9 τ f)[j]? = some x->eu x=true->RP w' M' x (vs.getD j undef):=by
  intro M' w' j x hj hdx
  rw[hvs]
  rcases hzat _ x hj with⟨_,rfl⟩|⟨_,y,h1,rfl⟩
  ·cases hdx
  ·exact (oG (w:=w') (M:=M') τ.zero (af2.2 fun y hy=>(ew (af2.1 c5 y hy)).1) _ y h1).2.canon
 have hnil:∀(j:Nat) (n':Nat) (xs:List D),(k9 τ f)[j]? = some (.nx n' xs)->n'=0∧xs=[]∧vs.getD j undef=.slice none 0 0:=by
  intro j n' xs hj
  rcases hzat _ _ hj with⟨hm,he⟩|⟨_,y,h1,he⟩
  ·simp only[D.nx.injEq]at he
   refine⟨he.1,he.2,?_⟩
   rw[hvs,hm]
   rw[afO,afP]at hzf
   obtain⟨v,v1,v2⟩:=hzf
   simp only[afW,List.getElem?_toArray,v1,Option.getD_some]
   exact TG v2
  ·have:=af2.1 c5 y (agk h1)
   cases y<;>first|(cases he;done)|(cases this;done)
 generalize k9 τ f=cs at hzn hzat hdat hnil
 have hA:=hI.le (xq (h:=h) d hdp)
 have hold:∀b,b<w.heap.size->(w.alloc (.cells vs ty)).heap[b]? = w.heap[b]?:=fun b hb=>Below.heap_alloc w _ b hb
 have hbw:=(Below.refl w.heap.size w).alloc (afR _) (.cells vs ty)
 have hnew:=heap_alloc_new w (.cells vs ty)
 have hEn:∀o,EH (bB h d none) (NK d o)=none:=fun o=>by rw[pN hdp,aq];rfl
 have hKd:∀o,NK d o≠d:=fun o=>by have:=dX d o;omega
 have hB:=hA.BZ (w':=w.alloc (.cells vs ty)) (h1:=EH (bB h d none)) (old:=none) (d:=d) (e:=e) (r0:=⟨e,ty,cs.mapIdx (oI d s),false,false,true⟩) (go:=some (w.heap.size,0)) hbw.os hbw.tape hbw.output hbw.size (fun k hk _=>hold k hk) (fun y hy=>by cases hy) rfl hV
  ⟨.inl (afR _),.inr ⟨fun x hx=>by
   obtain⟨j,hj⟩:=agd hx
   simp only[aim,afP]at hj
   obtain⟨d0,hd0,rfl⟩:=hj
   exact jW _ _ _ _,vs,hnew,by simp only[ail];omega,fun j x hj=>by
   simp only[aim,afP]at hj
   obtain⟨d0,hd0,rfl⟩:=hj
   rw[agF]
   by_cases hdd:eu d0=true
   ·rw[iS hdd]
    exact (ew hdd).2.2.2 (hdat _ _ j d0 hd0 hdd)
   ·cases d0<;>first|trivial|exact absurd rfl hdd⟩⟩ rfl rfl (fun _ g hg j x s' n' hj=>by
   cases hg
   simp only[aim,afP]at hj
   obtain⟨d0,hd0,he⟩:=hj
   obtain⟨xs,rfl,rfl,rfl⟩:=oE he
   have hlt:=(agl.1 hd0).1
   refine⟨⟨hdp,.inr rfl⟩,_,aK hnew (by omega),fun r hr =>?_⟩
   rw[au _ _ (hKd j),hEn]at hr
   cases hr)
 obtain⟨S,hS⟩:∃S:Nat->Prop,∀k,S k↔∃o xs,k=NK d o∧cs[o]? = some (.nx 0 xs):=⟨_,fun _=>Iff.rfl⟩
 have hC:=hB.addEmpty S ty' (4*e+2) (h':=EH (bB h d (some ⟨e,ty,[.nr ty' s (4*e+2) cs],false,false,true⟩))) (blk':=fun k=>if S k then none else bB blk d (some (w.heap.size,0)) k) (fun k hk=>by
   obtain⟨o',xs,rfl,ho'⟩:=(hS k).1 hk
   have:=dX d o'
   refine⟨by omega,by omega,?_,by rw[au _ _ (hKd o'),hEn]⟩
   rintro (hv|⟨he,_⟩)
   ·exact hV' o' hv
   ·exact hKd o' he) (fun k hk=>by
   refine⟨?_,by rw[if_pos hk]⟩
   obtain⟨o',xs,rfl,ho'⟩:=(hS k).1 hk
   rw[dQ (aq _ _ _) rfl rfl hdp,ho']
   obtain⟨_,rfl,_⟩:=hnil o' 0 xs ho'
   rfl) (fun k hk=>by
   refine⟨?_,by rw[if_neg hk]⟩
   by_cases hkd:rt k=d
   ·rcases mI hkd with rfl|⟨o',rfl⟩
    ·rw[aq,eV (aq _ _ _) rfl rfl hdp]
    ·rw[au _ _ (hKd o'),hEn,dQ (aq _ _ _) rfl rfl hdp]
     cases hco:cs[o']? with
     | none=>rfl
     | some d0 =>
      cases d0 with
      | nx n' xs =>
       obtain⟨rfl,_,_⟩:=hnil o' n' xs hco
       exact absurd ((hS _).2 ⟨o',xs,rfl,hco⟩) hk
      | _=>rfl
   ·rw[au _ _ (fun e=>hkd (by rw[e,gj (by omega)]))]
    exact dB (by rw[au _ _ hkd,au _ _ hkd])) (fun y r g hy hm hg j x s' n' hj hs=>by
   obtain⟨o',xs,rfl,ho'⟩:=(hS _).1 hs
   obtain⟨⟨p1,p2⟩,u,p3,_⟩:=hB.pha y r g hy hm hg j _ s' n' hj
   rcases p2 with p2|p2
   ·have:=dX d o';omega
   obtain⟨rfl,rfl⟩:=qE hdp p1 p2
   rw[aq]at hy hg
   cases hy
   cases hg
   simp only[aim,afP]at hj
   obtain⟨d0,hd0,he⟩:=hj
   obtain⟨xs',rfl,_,rfl⟩:=oE he
   obtain⟨k1,_,k3⟩:=hnil o' n' xs' hd0
   have hlt:=(agl.1 hd0).1
   refine⟨_,aK hnew (by omega),k1,none,?_⟩
   rw[agF]
   exact k3)
 have hSd:¬S d:=fun hs=>by
  obtain⟨o',_,he,_⟩:=(hS d).1 hs
  exact hKd o' he.symm
 refine aD (v := .pointer (some ⟨w.heap.size,0,none⟩)) (w':=w.alloc (.cells vs ty)) ?_ ⟨fun k=>if S k then none else bB blk d (some (w.heap.size,0)) k,?_,?_⟩
 ·rw[hvs]
  simp[execOp,ho,Instr.alloc,hz1,newVar,newRow,hz2]
 ·refine hC.weaken fun x v hx =>?_
  rcases hx with hx|⟨rfl,rfl⟩
  ·exact .inl hx
  ·exact .inr ⟨hd,rfl⟩
 ·exact⟨.inr ⟨hd,rfl⟩,fun r hr hv=>⟨(w.heap.size,0),by simp only;rw[if_neg hSd,aq],rfl⟩⟩
theorem Xp (hT:gz P T) (hI:Inv N M L w0 blk V t (EH h) a w) {ty:Nat} {p:Operand} {τ:Ty} {E:bu} (ho:o.op=.load ty p) (hτ:T ty=some τ) (hE:nU τ h (ev t p)=some E):dA P o a w (iA N M L w0 V t h a e o.dst E):=by
 have hp:=hI.ev p
 generalize hev:ev t p=q at *
 unfold nU at hE
 split at hE<;>try (cases hE;done)
 rename_i x v c
 split at hE<;>try (cases hE;done)
 rename_i r ty' s nv cs hl
 obtain⟨hx,hv,hz,hm,hp1,hc⟩:=gq hl
 have hEx:=eV hx hm hc hp1
 obtain⟨g,hg,hpv⟩:=hp.2 _ hEx hv
 split at hE<;>try (cases hE;done)
 rename_i hcond
 obtain⟨_,rfl,c1,_,c2⟩:=hcond
 unfold QF at hE
 split at hE<;>try (cases hE;done)
 rename_i d hd
 simp only[af0]at hE
 subst hE
 obtain⟨hF,_⟩:=hI.aco (o:=0) hx hm hc hz hp1 τ.size (by rw[ahj,ahi (by omega)];exact c2)
 have hx':bB h x (some (⟨r.v,r.ty,[.nr ty' s nv (lI τ.size 0 cs)],false,r.lst,true⟩:Row)) x=some ⟨r.v,r.ty,[.nr ty' s nv (lI τ.size 0 cs)],false,r.lst,true⟩:=aq _ _ _
 have hwl:(lI τ.size 0 cs).length=cs.length:=by simp[lI]
 have hat:At w (Own M (EH (bB h x (some ⟨r.v,r.ty,[.nr ty' s nv (lI τ.size 0 cs)],false,r.lst,true⟩))) blk) g.1 (g.2+0) (cs.map Wd):=by
  intro j d1 hj
  rw[afO,afP]at hj
  obtain⟨d0,hj0,rfl⟩:=hj
  have hok:=af2.1 c2 d0 (agk hj0)
  have hjs:=(agl.1 hj0).1
  have hdc:eu (Wd d0)=true:=by
   cases d0<;>first|rfl|exact hok
  have hj':(lI τ.size 0 cs)[0+j]? = some (Wd d0):=by
   rw[agF,vw,hj0]
   simp only[Option.map_some]
   rw[if_pos (by omega)]
  obtain⟨arr,k1,k2,k3⟩:=hF.AD hx' rfl rfl hp1 hg
  have hlt:=(agl.1 hj').1
  refine⟨(ew hdc).1,_,?_,k3 _ _ hj' hdc⟩
  rw[agc]
  exact aK k1 (by omega)
 have:=oO (e:=e) (o:=o) hT hF ho hτ hpv hat (by rw[agm];exact c1) hd
 exact this
end
def Jq (e d:Nat):Option (Nat×Nat×Nat×Nat×Nat×List D)->Option bu
 | some (ty,t,s,S,n,cs)=>if d<PK then some ⟨.buf d e S 0 n,[(d,some ⟨e,ty,[.nr t s (4*e+2) cs],false,true,true⟩)]⟩ else none
 | none=>none
def Gt (p:List D->Option (Nat×Nat×Nat×Nat×Nat×List D)) (e d:Nat):Option (List D×List Nat)->Option bu
 | some (afM,[])=>Jq e d (p afM)
 | _=>none
theorem wC {p:List D->Option (Nat×Nat×Nat×Nat×Nat×List D)} {e d:Nat} {c:Option (List D×List Nat)} {E:bu} (hE:Gt p e d c=some E):∃afM ty t s S n cs,c=some (afM,[])∧p afM=some (ty,t,s,S,n,cs)∧d<PK∧E=⟨.buf d e S 0 n,[(d,some ⟨e,ty,[.nr t s (4*e+2) cs],false,true,true⟩)]⟩:=by
 unfold Gt at hE
 split at hE<;>try (cases hE;done)
 rename_i afM
 unfold Jq at hE
 split at hE<;>try (cases hE;done)
 rename_i ty t s S n cs hp
 split at hE<;>try (cases hE;done)
 rename_i hd
 exact⟨afM,ty,t,s,S,n,cs,rfl,hp,hd,by simpa using hE.symm⟩
section
variable {P:Program} {T:Nat->Option Ty} {N:Nat} {M:Nat->Prop} {L:iB} {w0:World} {blk:Nat->Option (Nat×Nat)} {V:Nat->Nat->Prop} {t:Nat->D} {h:Nat->Option Row} {a:Act} {w:World} {e:Nat} {o:Oper} {Γ:Env}
theorem W4 (hΓ:bA P Γ) (hI:Inv N M L w0 blk V t (EH h) a w) {g d:Nat} {dst:Option Nat} {p:List D->Option (Nat×Nat×Nat×Nat×Nat×List D)} {args:List D} {vs:Array Value} {E:bu} (hd:dst=some d) (hV:hX N V d e) (hV':∀o',¬V (NK d o') (4*e+2)) (hp:Γ.nx.res g=some p)
  (hE:Gt p e d (bn (EH h) args)=some E) (hsz:vs.size=args.length) (hr:∀(j:Nat) d,args[j]? = some d->RT w (Own M (EH h) blk) (EH h) blk V d (vs.getD j undef)):dz P g∧Calls P g vs w fun e' w'=>∃v,e'=.returned v∧iA N M L w0 V t h a e dst E v w':=by
 obtain⟨afM,ty,ti,s,S,n,cs,hca,hs,hdp,rfl⟩:=wC hE
 obtain⟨hcl,hcalls⟩:=hΓ.res g p hp
 refine⟨hcl,?_⟩
 have hargs:=hI.B1 hca ⟨fun b h=>h,fun x hx=>by cases hx⟩ hsz hr
 refine (hcalls _ _ _ _ _ _ _ hs w (Own M (EH h) blk) _ vs rfl (fun b hb=>hI.wN hb) hargs).mono fun e' w' hg =>?_
 obtain⟨u,blk1,he,hbel,hnew,hR,hu⟩:=hg
 refine⟨u,he,mG blk blk1 d,?_⟩
 have hA:=hI.le (xq (h:=h) d hdp)
 generalize hh2:bB h d (some (⟨e,ty,[.nr ti s (4*e+2) cs],false,true,true⟩:Row))=h2
 have hap:aH h [(d,some (⟨e,ty,[.nr ti s (4*e+2) cs],false,true,true⟩:Row))]=h2:=by rw[<- hh2];rfl
 rw[hap]
 have hx2:h2 d=some ⟨e,ty,[.nr ti s (4*e+2) cs],false,true,true⟩:=by rw[<- hh2,aq]
 have hn0:∀k,rt k=d->EH (bB h d none) k=none:=fun k hk=>R2 (by rw[hk,aq])
 have hne2:∀k,rt k≠d->EH h2 k=EH (bB h d none) k:=fun k hk=>dB (by rw[<- hh2,au _ _ hk,au _ _ hk])
 have hbne:∀k,rt k≠d->mG blk blk1 d k=blk k:=fun k hk=>if_neg hk
 have hbx:mG blk blk1 d d=blk1 0:=by unfold mG;rw[if_pos (yx hdp),sO]
 have hbN:∀o,mG blk blk1 d (NK d o)=blk1 (NK 0 o):=fun o=>by unfold mG;rw[if_pos (sg hdp),jR hdp]
 have hkey:∀k r',rt k=d->EH h2 k=some r'->∃r1,EH (lH (ic ty ti s 0 cs)) (Fj d k)=some r1∧mG blk blk1 d k=blk1 (Fj d k):=by
  intro k r' hk he
  have hq:mG blk blk1 d k=blk1 (Fj d k):=if_pos hk
  rcases dL hx2 rfl rfl hdp hk he with⟨rfl,_⟩|⟨o,n,xs,rfl,ho,_⟩
  ·rw[sO]at hq ⊢;exact⟨_,tP,hq⟩
  ·rw[jR hdp]at hq ⊢;exact⟨_,rQ ho,hq⟩
 have hown:∀b,Own M (EH h2) (mG blk blk1 d) b->Own M (EH h) blk b∨uj blk1 (EH (lH (ic ty ti s 0 cs))) b:=by
  intro b hb'
  rcases hb' with hb'|⟨k,r',g,hk,hz',hg,he⟩
  ·exact .inl (.inl hb')
  ·by_cases hkx:rt k=d
   ·obtain⟨r1,q1,q2⟩:=hkey k r' hkx hk
    exact .inr ⟨_,r1,g,q1,by rw[<- q2];exact hg,he⟩
   ·rw[hne2 k hkx]at hk
    rw[hbne k hkx]at hg
    refine .inl (.inr ⟨k,r',g,?_,hz',hg,he⟩)
    rw[<- hk]
    exact dB (by rw[au _ _ hkx])
 have hRle:∀ {g:Nat×Nat} {r1:Row},r1.mp=false->dw w' (fun b=>Own M (EH h) blk b∨uj blk1 (EH (lH (ic ty ti s 0 cs))) b) g r1->dw w' (Own M (EH h2) (mG blk blk1 d)) g r1:=by
  intro g r1 hm1 hr
  unfold dw at hr ⊢
  rw[hm1]at hr ⊢
  obtain⟨arr,k1,k2,k3⟩:=hr
  exact⟨arr,k1,k2,fun j d hj=>⟨(k3 j d hj).1,(k3 j d hj).2.less hown⟩⟩
 have hplace:∀k r',rt k=d->EH h2 k=some r'->∀g,mG blk blk1 d k=some g->w.heap.size<=g.1:=by
  intro k r' hk he g hg
  obtain⟨r1,q1,q2⟩:=hkey k r' hk he
  exact hnew g.1 ⟨_,r1,g,q1,by rw[<- q2];exact hg,rfl⟩
 have hInv:Inv N M L w0 (mG blk blk1 d) (fun y v=>V y v∨(y=d∧v=e)) t (EH h2) a w':=by
  refine hA.abS (fun k=>rt k=d) (fun _ _ h =>.inl h) hbel.os hbel.tape hbel.output hbel.size (fun k hk _=>hbel.block k hk) (fun k r' hk he=>by rw[hn0 k hk]at he;cases he) (fun k hk=>⟨hne2 k hk,hbne k hk⟩) ?_ ?_ ?_ ?_ ?_
  ·intro k r' hk he
   rcases dL hx2 rfl rfl hdp hk he with⟨rfl,rfl⟩|⟨o,n,xs,rfl,ho,rfl⟩
   ·refine⟨rfl,fun hn =>.inr ⟨rfl,rfl⟩,?_⟩
    rw[hbx]
    have hr0:=hR.rows 0 _ tP
    cases hg:blk1 0 with
    | none =>
     rw[hg]at hr0
     have h1:cs.mapIdx (oI 0 s)=[]:=hr0
     have h2:cs.length=0:=by
      have:=congrArg List.length h1
      simpa using this
     show cs.mapIdx (oI k s)=[]
     rw[aha h2]
     rfl
    | some g0 =>
     rw[hg]at hr0
     have hr0:dw w' (fun b=>Own M (EH h) blk b∨uj blk1 (EH (lH (ic ty ti s 0 cs))) b) g0 ⟨0,ty,cs.mapIdx (oI 0 s),false,true,true⟩:=hr0
     refine⟨.inl (hplace k _ hk he g0 (hbx.trans hg)),?_⟩
     unfold dw at hr0 ⊢
     simp only at hr0 ⊢
     rcases hr0 with⟨ks,vs,k1,_⟩|⟨_,arr,k2,k3,k4⟩
     ·exfalso
      simp only at k1
      have hl:cs.length=1:=by
       have:=congrArg List.length k1
       simpa using this
      match cs,hl with
      | [d],_ =>
       simp only[List.mapIdx_cons,List.mapIdx_nil,agf,and_true]at k1
       have:=jW 0 s 0 d
       rw[k1]at this
       cases this
     ·refine .inr ⟨fun d hd =>?_,arr,k2,by simpa using k3,fun j d hj =>?_⟩
      ·obtain⟨j,hj⟩:=agd hd
       simp only[aim,afP]at hj
       obtain⟨d0,hd0,rfl⟩:=hj
       exact jW _ _ _ _
      ·simp only[aim,afP]at hj
       obtain⟨d0,hd0,rfl⟩:=hj
       by_cases hdd:eu d0=true
       ·rw[iS hdd]
        have hj':(cs.mapIdx (oI 0 s))[j]? = some d0:=by rw[aim,hd0];exact congrArg some (iS hdd)
        exact (ew hdd).2.2.2 (((ew hdd).2.2.1 (k4 j _ hj')).less hown)
       ·cases d0<;>first|trivial|exact absurd rfl hdd
   ·refine⟨rfl,fun hn=>by have:=dX d o;have:=hI.big;have:=bZ;omega,?_⟩
    have hr0:=hR.rows _ _ (rQ ho)
    rw[hbN]
    cases hg:blk1 (NK 0 o) with
    | none=>rw[hg]at hr0;exact hr0
    | some g =>
     rw[hg]at hr0
     refine⟨.inl (hplace _ _ hk he g ((hbN o).trans hg)),hRle rfl ?_⟩
     obtain⟨arr,k1,k2,k3⟩:=hr0
     exact⟨arr,k1,k2,k3⟩
  ·intro k l r1 r2 g g' hk hl he he' hg hg' hgg
   obtain⟨q1,p1,p2⟩:=hkey k r1 hk he
   obtain⟨q2,p3,p4⟩:=hkey l r2 hl he'
   have e1:=hR.inj _ _ _ _ g g' p1 p3 (by rw[<- p2];exact hg) (by rw[<- p4];exact hg') hgg
   rcases dL hx2 rfl rfl hdp hk he with⟨rfl,_⟩|⟨o,n,xs,rfl,ho,_⟩
   ·rcases dL hx2 rfl rfl hdp hl he' with⟨rfl,_⟩|⟨o',n',xs',rfl,ho',_⟩
    ·rfl
    ·rw[sO,jR hdp]at e1
     have:=dX 0 o';have:=bZ;omega
   ·rcases dL hx2 rfl rfl hdp hl he' with⟨rfl,_⟩|⟨o',n',xs',rfl,ho',_⟩
    ·rw[sO,jR hdp]at e1
     have:=dX 0 o;have:=bZ;omega
    ·rw[jR hdp,jR hdp]at e1
     rw[(qE lq lq e1).2]
  ·intro k r' hk hv he
   rcases dL hx2 rfl rfl hdp hk he with⟨rfl,rfl⟩|⟨o,n,xs,rfl,ho,rfl⟩
   ·exact absurd hv hV.no
   ·exact absurd hv (hV' o)
  ·intro k r' g hk he hm' hg j x' s' n hj
   rcases dL hx2 rfl rfl hdp hk he with⟨rfl,rfl⟩|⟨o,n',xs,rfl,ho,rfl⟩
   rotate_left
   ·cases hm'
   simp only[aim,afP]at hj
   obtain⟨d0,hd0,he0⟩:=hj
   obtain⟨xs1,rfl,rfl,rfl⟩:=oE he0
   rw[hbx]at hg
   obtain⟨_,u,k1,k2⟩:=hR.pha 0 _ g tP rfl hg j (NK 0 j) s' n (by simp only[aim,hd0,Option.map_some,oI])
   refine⟨⟨hdp,.inr rfl⟩,u,k1,fun _ _ =>?_⟩
   have:=k2 _ (rQ hd0)
   rw[hbN]
   exact this
  ·intro y r' j x' s' n hy he hm' hj hx'
   have hrow:=(hA.rows y r' he).2
   cases hg:blk y with
   | none =>
    rw[hg]at hrow
    have hrow:r'.cells=[]:=hrow
    rw[hrow]at hj
    cases hj
   | some g =>
    obtain⟨q1,q2⟩:=(hA.pha y r' g he hm' hg j x' s' n hj).1
    rcases q2 with rfl|rfl
    ·have:rt (PK+y)=PK+y:=gj (by omega)
     rw[this]at hx'
     omega
    ·rw[sg q1]at hx'
     rw[yx q1]at hy
     exact hy hx'
 refine⟨hInv.weaken fun x v hx =>?_,.inr ⟨hd,rfl⟩,fun r' _ _ =>?_⟩
 ·rcases hx with hx|⟨rfl,rfl⟩
  ·exact .inl hx
  ·exact .inr ⟨hd,rfl⟩
 ·rw[hbx]
  exact hu.2 ⟨0,0,[],false,false,false⟩ rfl rfl
theorem CA (hI:Inv N M L w0 blk V t h a w) {c:Call} {f:Operand} {g:Nat} (ho:o.op=.call c) (hc:c.callee=.value f) (hf:ev t f=.fn g) {Φ:Value->World->Prop}
  (hk:∀vs:Array Value,vs.size=(c.args.toList.map (ev t)).length->(∀(j:Nat) d,(c.args.toList.map (ev t))[j]? = some d->RT w (Own M h blk) h blk V d (vs.getD j undef))->dz P g∧Calls P g vs w fun e' w'=>∃v,e'=.returned v∧Φ v w'):dA P o a w Φ:=by
 have hfv:=hI.ev f
 have hargs:∀(j:Nat) d,(c.args.toList.map (ev t))[j]? = some d->RT w (Own M h blk) h blk V d ((c.args.map a.eval).getD j undef):=by
  intro j d hj
  rw[afO]at hj
  cases hx:c.args.toList[j]? with
  | none=>simp[hx]at hj
  | some x =>
   simp only[hx,Option.map_some,af0]at hj
   subst hj
   have:(c.args.map a.eval).getD j undef=a.eval x:=by
    have hx':c.args[j]? = some x:=by simpa using hx
    simp[hx']
   rw[this]
   exact hI.ev x
 have hsz:(c.args.map a.eval).size=(c.args.toList.map (ev t)).length:=by simp
 rw[hf]at hfv
 have hfv':a.eval f=.func (.func g) #[] #[]:=by
  have hf':RP w (Own M h blk) (.fn g) (a.eval f):=hfv
  generalize a.eval f=u at *
  cases hf'
  rfl
 obtain⟨⟨fn,hfn,hname,hbody⟩,h2⟩:=hk _ hsz hargs
 have hn:¬fn.name = "runtime.NumGoroutine":=by simpa using hname
 have hb:¬fn.body=none:=by
  intro h0
  rw[h0]at hbody
  cases hbody
 exact .inr (.inr ⟨g,#[]++c.args.map a.eval++#[],by simp[execOp,ho,resolve,hc,hfv',Deferred.ofValue,invoke,callFunc,program,Sem.run,hfn,hn,hb],by simpa using h2⟩)
end
def gp (vs:Operand->D):Op->Option (D×List D)
 | .call c=>match c.callee with | .value f=>some (vs f,c.args.toList.map vs)|_=>none
 | _=>none
theorem mc {vs:Operand->D} {op:Op} {q:D} {args:List D} (hc:gp vs op=some (q,args)):∃c f,op=.call c∧c.callee=.value f∧q=vs f∧args=c.args.toList.map vs:=by
 unfold gp at hc
 split at hc<;>try (cases hc;done)
 rename_i c
 split at hc<;>try (cases hc;done)
 rename_i f hf
 simp only[af0,Prod.mk.injEq]at hc
 exact⟨c,f,rfl,hf,hc.1.symm,hc.2.symm⟩
def Ak (Γ:Env) (e:Nat) (h:Nat->Option Row):Option (D×List D)->Option bu
 | some (.fn g,args)=>pP Γ e h g args
 | _=>none
def CS (e d:Nat) (h:Nat->Option Row) (args:List D):Option (List D->Option (Nat×Nat×Nat×Nat×Nat×List D))->Option bu
 | some p=>Gt p e d (bn (EH h) args)
 | none=>none
def ln (Γ:Env) (e:Nat) (h:Nat->Option Row):Option Nat->Option (D×List D)->Option bu
 | some d,some (.fn g,args)=>CS e d h args (Γ.nx.res g)
 | _,_=>none
def te (T:Nat->Option Ty) (Γ:Env) (e:Nat) (o:Oper) (vs:Operand->D) (h:Nat->Option Row):Option bu :=
 match o.op with
 | .load ty p=>match T ty with|some τ=>td τ h (vs p)|none=>none
 | .store ty p x=>match T ty with|some τ=>tf τ e h (vs p) (vs x)|none=>none
 | .call c=>Ak Γ e h (gp vs (.call c))
 | _=>none
def or2 (h:Nat->Option Row):Option bu->Option bu->Option bu
 | some ⟨v,hw⟩,_=>some ⟨v,jq h hw⟩
 | none,y=>y
def mX (T:Nat->Option Ty) (Γ:Env) (e:Nat) (o:Oper) (vs:Operand->D) (h:Nat->Option Row):Option bu :=
 match fO T Γ e o vs with
 | some E=>some E
 | none =>
  match ln Γ e h o.dst (gp vs o.op) with
  | some E=>some E
  | none=>or2 h (ll T Γ e o vs (EH h)) (te T Γ e o vs h)
def bl (o:Oper) (vs:Operand->D):List Nat:=(fI o vs).map rt
def VE (N e:Nat) (done:List Nat) (h:Nat->Option Row) (x v:Nat):Prop:=(x<N∧(v<e∨(v=e∧x∈done))) ∨
 (2*PK<=x∧v<=4*e+3∧(x % PK∉done->v<=4*e+1)∧∀r ty s nv cs,h (x % PK)=some r->r.mp=true->r.cells=[.nr ty s nv cs]->v<=nv)
def Fg (e:Nat) (done:List Nat) (h:Nat->Option Row):Prop:=∀x r ty s nv cs,h x=some r->r.mp=true->r.cells=[.nr ty s nv cs]->x<PK->nv<=4*e+3∧(x∉done->nv<=4*e+1)
def fW (e:Nat) (h h':Nat->Option Row):Prop:=∀x r' ty' s' nv' cs',h' x=some r'->r'.mp=true->r'.cells=[.nr ty' s' nv' cs']->x<PK->∃r ty s nv cs,h x=some r∧r.mp=true∧r.cells=[.nr ty s nv cs]∧(nv'=nv∨bump nv e=some nv')
theorem fW.refl (e:Nat) (h:Nat->Option Row):fW e h h:=fun x r ty s nv cs hx hm hc _=>⟨r,ty,s,nv,cs,hx,hm,hc,.inl rfl⟩
theorem Jp {nv e nv':Nat} (h:bump nv e=some nv'):nv<nv'∧(nv'=4*e+1∨(nv=4*e+2∧nv'=4*e+3)):=by
 unfold bump at h
 split at h
 ·cases h;omega
 ·split at h
  ·cases h;omega
  ·cases h
theorem Fg.step {e:Nat} {done done':List Nat} {h h':Nat->Option Row} (hN:Fg e done h) (hr:fW e h h') (hd:∀x,x∈done->x∈done'):Fg e done' h':=by
 intro x r' ty' s' nv' cs' hx hm hc hp
 obtain⟨r,ty,s,nv,cs,k1,k2,k3,k4⟩:=hr x r' ty' s' nv' cs' hx hm hc hp
 obtain⟨q1,q2⟩:=hN x r ty s nv cs k1 k2 k3 hp
 rcases k4 with rfl|k4
 ·exact⟨q1,fun hn=>q2 fun h=>hn (hd x h)⟩
 ·obtain⟨b1,b2⟩:=Jp k4
  refine⟨by omega,fun hn =>?_⟩
  rcases b2 with b2|⟨b2,b3⟩
  ·omega
  ·have:=q2 fun h=>hn (hd x h)
   omega
theorem VE.step {N e:Nat} {done done':List Nat} {h h':Nat->Option Row} (hr:fW e h h') (hd:∀x,x∈done->x∈done') {x v:Nat} (hv:VE N e done h x v):VE N e done' h' x v:=by
 rcases hv with⟨h1,h2⟩|⟨h1,h2,h3,h4⟩
 ·exact .inl ⟨h1,h2.imp id fun⟨q1,q2⟩=>⟨q1,hd x q2⟩⟩
 ·refine .inr ⟨h1,h2,fun hn=>h3 fun h=>hn (hd _ h),fun r' ty' s' nv' cs' k1 k2 k3 =>?_⟩
  obtain⟨r,ty,s,nv,cs,q1,q2,q3,q4⟩:=hr _ r' ty' s' nv' cs' k1 k2 k3 (HR _)
  have:=h4 r ty s nv cs q1 q2 q3
  rcases q4 with rfl|q4
  ·exact this
  ·have:=(Jp q4).1
   omega
theorem Fg.adD {N e:Nat} {done:List Nat} {h:Nat->Option Row} (hN:Fg e done h):VNr (VE N e done h) h:=by
 intro x r ty s nv cs hx hm hc hp o
 obtain⟨q1,q2⟩:=hN x r ty s nv cs hx hm hc hp
 refine .inr ⟨dX x o,q1,by rw[qF o hp];exact q2,fun r' ty' s' nv' cs' k1 k2 k3 =>?_⟩
 rw[qF o hp,hx]at k1
 cases k1
 rw[hc]at k3
 cases k3
 exact afR _
theorem Fg.new {N e:Nat} {done:List Nat} {h:Nat->Option Row} (hN:Fg e done h) (hb:N<=PK):aai (VE N e done h) h e:=by
 intro x r ty s nv cs nv' hx hm hc hp hbm o hv
 have hge:=dX x o
 have:=bZ
 rcases hv with⟨h1,_⟩|⟨_,_,_,h4⟩
 ·omega
 ·have h5:=h4 r ty s nv cs (by rw[qF o hp];exact hx) hm hc
  have h6:=(Jp hbm).1
  omega
theorem Mx (e:Nat):∀(l:List (Nat×Option Row)) (h:Nat->Option Row),fW e h (aH h (jq h l))
 | [],h =>.refl e h
 | (k,r)::l,h=>by
  intro x r' ty' s' nv' cs' hx hm hc hp
  obtain⟨r1,ty1,s1,nv1,cs1,k1,k2,k3,k4⟩:=Mx e l (bB h (rt k) (yg h k r)) x r' ty' s' nv' cs' hx hm hc hp
  by_cases hxk:x=rt k
  rotate_left
  ·rw[au _ _ hxk]at k1
   exact⟨r1,ty1,s1,nv1,cs1,k1,k2,k3,k4⟩
  ·rw[hxk,aq]at k1
   unfold yg at k1
   split at k1
   ·exfalso
    obtain⟨_,h2,_⟩:=zg (o:=0) k1
    unfold DR at k1
    split at k1
    ·split at k1
     ·split at k1
      ·cases k1
      ·rename_i hne
       simp only[af0]at k1
       subst k1
       exact hne _ _ _ _ k3
     ·rename_i hmp
      simp only[af0]at k1
      subst k1
      exact hmp k2
    ·cases k1
   ·rename_i hk2
    have hrt:rt k=k % PK:=by unfold rt;rw[if_neg hk2]
    rw[afP]at k1
    obtain⟨q,q1,q2⟩:=k1
    unfold En at q2
    split at q2
    ·rename_i hqm
     split at q2
     ·rename_i ty s nv cs hqc
      subst q2
      simp only at k3
      refine⟨q,ty,s,nv,cs,by rw[hxk,hrt];exact q1,hqm,hqc,?_⟩
      unfold zt at k3
      split at k3<;>(simp only[agf,D.nr.injEq,and_true]at k3;obtain⟨rfl,rfl,rfl,_⟩:=k3;exact k4)
     ·subst q2
      exact⟨q,ty1,s1,nv1,cs1,by rw[hxk,hrt];exact q1,k2,k3,k4⟩
    ·subst q2
     exact⟨q,ty1,s1,nv1,cs1,by rw[hxk,hrt];exact q1,k2,k3,k4⟩
section
variable {P:Program} {T:Nat->Option Ty} {N:Nat} {M:Nat->Prop} {L:iB} {w0:World} {blk:Nat->Option (Nat×Nat)} {t:Nat->D} {h h':Nat->Option Row} {a:Act} {w:World} {e:Nat} {o:Oper} {Γ:Env} {done:List Nat}
theorem fW.set {x:Nat} {r r':Row} {ty s nv nv' ty' s':Nat} {cs cs':List D} (hx:h x=some r) (hm:r.mp=true) (hc:r.cells=[.nr ty s nv cs]) (hc':r'.cells=[.nr ty' s' nv' cs']) (hn:nv'=nv∨bump nv e=some nv'):fW e h (bB h x (some r')):=by
 intro y r1 ty1 s1 nv1 cs1 hy hm1 hc1 hp
 by_cases hyx:y=x
 ·subst hyx
  rw[aq]at hy
  cases hy
  rw[hc']at hc1
  cases hc1
  exact⟨r,ty,s,nv,cs,hx,hm,hc,hn⟩
 ·rw[au _ _ hyx]at hy
  exact⟨r1,ty1,s1,nv1,cs1,hy,hm1,hc1,.inl rfl⟩
theorem fW.drop {y:Nat} (hr:fW e (bB h y none) h'):fW e h h':=by
 intro x r' ty' s' nv' cs' hx hm hc hp
 obtain⟨r,ty,s,nv,cs,k1,k⟩:=hr x r' ty' s' nv' cs' hx hm hc hp
 by_cases hxy:x=y
 ·subst hxy;rw[aq]at k1;cases k1
 ·rw[au _ _ hxy]at k1
  exact⟨r,ty,s,nv,cs,k1,k⟩
theorem G5 {τ:Ty} {d:D} {E:bu} (hE:nV τ h d=some E):E.hw=[]:=by
 unfold nV at hE
 split at hE<;>try (cases hE;done)
 split at hE<;>try (cases hE;done)
 unfold Dx at hE
 split at hE
 ·split at hE<;>try (cases hE;done)
  cases hE;rfl
 ·split at hE<;>try (cases hE;done)
  split at hE<;>try (cases hE;done)
  cases hE;rfl
 ·cases hE
theorem Qa {τ:Ty} {d:D} {E:bu} (hE:nU τ h d=some E):fW e h (aH h E.hw):=by
 unfold nU at hE
 split at hE<;>try (cases hE;done)
 split at hE<;>try (cases hE;done)
 rename_i r ty s nv cs hl
 obtain⟨hx,hv,hz,hm,hp1,hc⟩:=gq hl
 split at hE<;>try (cases hE;done)
 unfold QF at hE
 split at hE<;>try (cases hE;done)
 cases hE
 exact fW.set hx hm hc rfl (.inl rfl)
theorem Qd {τ:Ty} {p d:D} {E:bu} (hE:nZ τ e h p d=some E):fW e h (aH h E.hw):=by
 unfold nZ at hE
 split at hE<;>try (cases hE;done)
 split at hE<;>try (cases hE;done)
 rename_i r ty s nv cs hl
 obtain⟨hx,hv,hz,hm,hp1,hc⟩:=gq hl
 split at hE<;>try (cases hE;done)
 unfold Rq at hE
 split at hE<;>try (cases hE;done)
 split at hE<;>try (cases hE;done)
 unfold stZ at hE
 split at hE<;>try (cases hE;done)
 rename_i nv' cs' hb _
 cases hE
 exact fW.set hx hm hc rfl (.inr hb)
theorem Qc {τ:Ty} {p d:D} {E:bu} (hE:ly τ e h p d=some E):fW e h (aH h E.hw):=by
 unfold ly at hE
 split at hE<;>try (cases hE;done)
 rename_i y0 v0 c0
 split at hE<;>try (cases hE;done)
 rename_i r ty s nv cs hl
 obtain⟨hx,hv,hz,hm,hp1,hc⟩:=gq hl
 split at hE<;>try (cases hE;done)
 have plain:∀ {c':Option (List D)},zy τ y0 r ty s nv cs c0 c'=some E->fW e h (aH h E.hw):=by
  intro c' hE
  unfold zy at hE
  split at hE<;>try (cases hE;done)
  split at hE<;>try (cases hE;done)
  cases hE
  exact fW.set hx hm hc rfl (.inl rfl)
 unfold vF at hE
 split at hE
 ·rename_i yq vq sq oq nq
  split at hE<;>try (cases hE;done)
  split at hE
  ·split at hE<;>try (cases hE;done)
   unfold zw at hE
   split at hE<;>try (cases hE;done)
   split at hE<;>try (cases hE;done)
   cases hE
   exact fW.set hx hm hc rfl (.inl rfl)
  ·split at hE<;>try (cases hE;done)
   split at hE<;>try (cases hE;done)
   rename_i q hlq
   split at hE<;>try (cases hE;done)
   unfold zx at hE
   split at hE<;>try (cases hE;done)
   rename_i nv' hb
   cases hE
   obtain⟨hq1,hq2⟩:=bU hlq
   refine fW.drop (y:=yq) ?_
   exact fW.set (by
    rw[au]
    ·exact hx
    ·rintro rfl
     rw[hx]at hq1
     cases hq1
     have:=gi hlq
     rw[hm]at this
     cases this) hm hc rfl (.inr hb)
 ·exact plain hE
structure qD (N:Nat) (M:Nat->Prop) (L:iB) (w0:World) (blk:Nat->Option (Nat×Nat)) (e:Nat) (done:List Nat) (t:Nat->D) (h:Nat->Option Row) (a:Act) (w:World):Prop where
 inv:Inv N M L w0 blk (VE N e done h) t (EH h) a w
 nv:Fg e done h
def BM (N:Nat) (M:Nat->Prop) (L:iB) (w0:World) (t:Nat->D) (h:Nat->Option Row) (a:Act) (e:Nat) (done:List Nat) (E:bu) (v:Value) (w':World):Prop :=
 ∃blk',qD N M L w0 blk' e done t (aH h E.hw) a w'∧RT w' (Own M (EH (aH h E.hw)) blk') (EH (aH h E.hw)) blk' (VE N e done (aH h E.hw)) E.val v
theorem P9 (hT:gz P T) (hΓ:bA P Γ) (hI:qD N M L w0 blk e done t h a w) (hd:∀d:Nat,o.dst=some d->d∉done∧d<N) {E:bu} (hE:mX T Γ e o (ev t) h=some E):dA P o a w (BM N M L w0 t h a e (o.dst.toList++done) E):=by
 have hbig:=hI.inv.big
 have hpk:=bZ
 have hV:∀d:Nat,o.dst=some d->hX N (VE N e done h) d e:=by
  intro d hd'
  obtain⟨q1,q2⟩:=hd d hd'
  replace q2:(d:Nat)<N:=q2
  refine⟨fun hv =>?_,q2⟩
  rcases hv with⟨_,hv|⟨_,hv⟩⟩|⟨hv,_⟩
  ·omega
  ·exact q1 hv
  ·omega
 have hP:∀x v,VE N e done h x v->x<N∨2*PK<=x:=fun x v hv=>hv.imp (fun h=>h.1) (fun h=>h.1)
 have hsub:∀x,x∈done->x∈o.dst.toList++done:=fun x hx=>af6 _ hx
 have fin:fW e h (aH h E.hw)->∀ {v:Value} {w':World},iA N M L w0 (VE N e done h) t h a e o.dst E v w'->BM N M L w0 t h a e (o.dst.toList++done) E v w':=by
  intro hrel v w' hA
  obtain⟨blk',h1,h2⟩:=hA
  have hVV:∀x n,VE N e done h x n∨(o.dst=some x∧n=e)->VE N e (o.dst.toList++done) (aH h E.hw) x n:=by
   rintro x n (hv|⟨hx,rfl⟩)
   ·exact hv.step hrel hsub
   ·exact .inl ⟨(hd x hx).2,.inr ⟨rfl,af5 _ (by rw[hx];simp)⟩⟩
  refine⟨blk',⟨h1.weaken hVV,hI.nv.step hrel hsub⟩,h2.mono ⟨fun _ h1 h2=>⟨h1,h2,rfl⟩,hVV,fun _ _ _ r' h1 h2=>⟨⟨r',h1,h2⟩,rfl,fun _ _=>rfl⟩⟩⟩
 have fin2:∀ {E0:bu} {d:Nat} {r0:Row} {ty' s:Nat} {cs0:List D},o.dst=some d->E0.hw=[(d,some r0)]->r0.mp=true->r0.cells=[.nr ty' s (4*e+2) cs0]->∀ {v:Value} {w':World},iA N M L w0 (VE N e done h) t h a e o.dst E0 v w'->BM N M L w0 t h a e (o.dst.toList++done) E0 v w':=by
  intro E0 d r0 ty' s cs0 hdst hr0 hrm hrc v w' hA
  obtain⟨blk',h1,h2⟩:=hA
  obtain⟨hdn,hdN⟩:=hd d hdst
  have hap:aH h E0.hw=bB h d (some r0):=by rw[hr0];rfl
  have hVV:∀x n,VE N e done h x n∨(o.dst=some x∧n=e)->VE N e (o.dst.toList++done) (aH h E0.hw) x n:=by
   rintro x n (hv|⟨hx,rfl⟩)
   ·rcases hv with⟨q1,q2⟩|⟨q1,q2,q3,q4⟩
    ·exact .inl ⟨q1,q2.imp id fun⟨p1,p2⟩=>⟨p1,hsub _ p2⟩⟩
    ·refine .inr ⟨q1,q2,fun hn=>q3 fun h=>hn (hsub _ h),fun r' ty1 s1 nv1 cs1 k1 k2 k3 =>?_⟩
     rw[hap]at k1
     by_cases hxd:x % PK=d
     ·rw[hxd,aq]at k1
      cases k1
      rw[hrc]at k3
      cases k3
      have:=q3 (by rw[hxd];exact hdn)
      omega
     ·rw[au _ _ hxd]at k1
      exact q4 r' ty1 s1 nv1 cs1 k1 k2 k3
   ·exact .inl ⟨(hd x hx).2,.inr ⟨rfl,af5 _ (by rw[hx];simp)⟩⟩
  refine⟨blk',⟨h1.weaken hVV,?_⟩,h2.mono ⟨fun _ h1 h2=>⟨h1,h2,rfl⟩,hVV,fun _ _ _ r' h1 h2=>⟨⟨r',h1,h2⟩,rfl,fun _ _=>rfl⟩⟩⟩
  intro x r' ty1 s1 nv1 cs1 k1 k2 k3 hp
  rw[hap]at k1
  by_cases hxd:x=d
  ·subst hxd
   rw[aq]at k1
   cases k1
   rw[hrc]at k3
   cases k3
   exact⟨by omega,fun hn=>absurd (af5 _ (by rw[hdst];simp)) hn⟩
  ·rw[au _ _ hxd]at k1
   obtain⟨p1,p2⟩:=hI.nv x r' ty1 s1 nv1 cs1 k1 k2 k3 hp
   exact⟨p1,fun hn=>p2 fun h=>hn (hsub _ h)⟩
 have hnk:∀d:Nat,o.dst=some d->∀o',¬VE N e done h (NK d o') (4*e+2):=by
  intro d hdst o' hv
  obtain⟨hdn,hdN⟩:=hd d hdst
  have hdp:(d:Nat)<PK:=afU hdN hbig
  rcases hv with⟨hv,_⟩|⟨_,_,hv,_⟩
  ·have:=dX d o';omega
  ·have:=hv (by rw[qF o' hdp];exact hdn)
   omega
 unfold mX at hE
 split at hE
 ·rename_i E0 hmk
  simp only[af0]at hE
  subst hE
  unfold fO at hmk
  split at hmk<;>try (cases hmk;done)
  rotate_left
  ·rename_i ty ho
   split at hmk<;>try (cases hmk;done)
   rename_i d hdst
   split at hmk<;>try (cases hmk;done)
   rename_i ty' s f hn
   split at hmk<;>try (cases hmk;done)
   rename_i τ hτ
   obtain⟨hdn,hdN⟩:=hd d hdst
   have hA:=Xs hT hI.inv ho hdst (hV d hdst) (hnk d hdst) hτ hmk
   obtain⟨r0,hr0,hrm,hrc⟩:∃r0:Row,E0.hw=[(d,some r0)]∧r0.mp=true∧∃cs,r0.cells=[.nr ty' s (4*e+2) cs]:=by
    unfold mkA at hmk
    split at hmk<;>try (cases hmk;done)
    cases hmk
    exact⟨_,rfl,rfl,_,rfl⟩
   obtain⟨cs0,hrc⟩:=hrc
   exact hA.mono fun v w' hA=>fin2 hdst hr0 hrm hrc hA
  rename_i ty l c ho
  split at hmk<;>try (cases hmk;done)
  rename_i d hdst
  split at hmk<;>try (cases hmk;done)
  rename_i ty' s f hn
  split at hmk<;>try (cases hmk;done)
  rename_i τ hτ
  obtain⟨hdn,hdN⟩:=hd d hdst
  have hA:=Xt hT hI.inv ho hdst (hV d hdst) (fun o' hv=>by
   have hdp:(d:Nat)<PK:=afU hdN hbig
   rcases hv with⟨hv,_⟩|⟨_,_,hv,_⟩
   ·have:=dX d o';omega
   ·have:=hv (by rw[qF o' hdp];exact hdn)
    omega) hτ hmk
  obtain⟨r0,hr0,hrm,hrc⟩:∃r0:Row,E0.hw=[(d,some r0)]∧r0.mp=true∧∃cs,r0.cells=[.nr ty' s (4*e+2) cs]:=by
   unfold mO at hmk
   split at hmk<;>try (cases hmk;done)
   split at hmk<;>try (cases hmk;done)
   split at hmk<;>try (cases hmk;done)
   cases hmk
   exact⟨_,rfl,rfl,_,rfl⟩
  obtain⟨cs0,hrc⟩:=hrc
  exact hA.mono fun v w' hA=>fin2 hdst hr0 hrm hrc hA
 split at hE
 ·rename_i E0 hcf
  simp only[af0]at hE
  subst hE
  unfold ln at hcf
  split at hcf<;>try (cases hcf;done)
  rename_i d g args hdst hco
  obtain⟨c,f,hop,hcc,hq,hargs⟩:=mc hco
  unfold CS at hcf
  split at hcf<;>try (cases hcf;done)
  rename_i p hp
  obtain⟨_,ty',ti,s',S',n',cs',_,_,_,hE0⟩:=wC hcf
  subst hargs
  have hA:=CA hI.inv hop hcc hq.symm (fun vs q1 q2=>W4 hΓ hI.inv hdst (hV d hdst) (hnk d hdst) hp hcf q1 q2)
  refine hA.mono fun v w' hA =>?_
  exact fin2 (r0:=⟨e,ty',[.nr ti s' (4*e+2) cs'],false,true,true⟩) hdst (by rw[hE0]) rfl rfl hA
 ·unfold or2 at hE
  split at hE
  ·rename_i v0 hw he
   simp only[af0]at hE
   subst hE
   have hA:=U3 hT hΓ hI.inv hV hP he
   exact hA.mono fun v w' hA=>fin (Mx e hw h) (hA.le (Mv hw h))
  ·unfold te at hE
   split at hE
   ·rename_i ty p ho
    split at hE<;>try (cases hE;done)
    rename_i τ hτ
    unfold td orE at hE
    split at hE
    ·rename_i E0 hF
     simp only[af0]at hE
     subst hE
     exact (Xp hT hI.inv ho hτ hF).mono fun v w' hA=>fin (Qa hF) hA
    ·exact (Xq hT hI.inv hI.nv.adD ho hτ hE).mono fun v w' hA=>fin (by rw[G5 hE];exact .refl e h) hA
   ·rename_i ty p x ho
    split at hE<;>try (cases hE;done)
    rename_i τ hτ
    unfold tf orE at hE
    split at hE
    ·rename_i E0 hF
     simp only[af0]at hE
     subst hE
     exact (Xw hT hI.inv (hI.nv.new hbig) ho hτ hF).mono fun v w' hA=>fin (Qd hF) hA
    ·exact (Xv hT hI.inv (hI.nv.new hbig) ho hτ hE).mono fun v w' hA=>fin (Qc hE) hA
   ·rename_i c ho
    unfold Ak at hE
    split at hE<;>try (cases hE;done)
    rename_i g args hco
    obtain⟨c',f,hop,hcc,hq,hargs⟩:=mc hco
    cases hop
    subst hargs
    refine (CA hI.inv ho hcc hq.symm (fun vs q1 q2=>W6 hΓ hI.inv (hI.nv.new hbig) (dst:=o.dst) hE q1 q2)).mono fun v w' hA=>fin ?_ hA
    obtain⟨x,v,o',rest,r,ty,s,nv,cs,p,afM,nv',d,cs',_,hl,_,_,hb,_,_,rfl⟩:=qS hE
    obtain⟨hx,_,_,hm,_,hc⟩:=gq hl
    exact fW.set hx hm hc rfl (.inr hb)
   ·cases hE
end
section
variable {T:Nat->Option Ty} {h h':Nat->Option Row} {e:Nat} {o:Oper} {Γ:Env}
theorem mn {x v:Nat} (hx:h x=h' x):eY h x v=eY h' x v:=by simp[eY,hx]
theorem kT {x v:Nat} {q:Row×Nat×Nat×Nat×List D} (hl:eY h x v=some q):x<PK:=by
 obtain⟨r,ty,s,nv,cs⟩:=q
 exact (gq hl).2.2.2.2.1
theorem Ar:∀(l:List (Nat×Option Row)) {h h':Nat->Option Row},(∀p∈l,h (rt p.1)=h' (rt p.1))->jq h l=jq h' l
 | [],_,_,_=>rfl
 | (k,r)::l,h,h',hl=>by
  have hk:h (rt k)=h' (rt k):=hl (k,r) (by simp)
  have hp:yg h k r=yg h' k r:=by
   unfold yg
   split
   ·rfl
   ·rename_i hk2
    have:rt k=k % PK:=by unfold rt;rw[if_neg hk2]
    rw[<- this,hk]
  unfold jq
  rw[hp]
  congr 1
  refine Ar l fun p hp' =>?_
  by_cases he:rt p.1=rt k
  ·rw[he,aq,aq]
  ·rw[au _ _ he,au _ _ he]
   exact hl p (ahp _ hp')
theorem As:∀(l:List (Nat×Option Row)) {h:Nat->Option Row},∀p∈jq h l,∃q∈l,p.1=rt q.1
 | [],_,p,hp=>by simp[jq]at hp
 | (k,r)::l,h,p,hp=>by
  unfold jq at hp
  rcases afY.1 hp with rfl|hp
  ·exact⟨(k,r),by simp,rfl⟩
  ·obtain⟨q,h1,h2⟩:=As l p hp
   exact⟨q,ahp _ h1,h2⟩
theorem V4 {τ:Ty} {p d:D} {E:bu} (hE:ly τ e h p d=some E):∀q∈E.hw,q.1<PK∧(q.1∈nm p∨q.1∈nm d):=by
 unfold ly at hE
 split at hE<;>try (cases hE;done)
 rename_i y0 v0 c0
 split at hE<;>try (cases hE;done)
 rename_i r ty s nv cs hl
 have hlt:=kT hl
 split at hE<;>try (cases hE;done)
 have one:∀ {r':Option Row} (q:Nat×Option Row),q∈[(y0,r')]->q.1<PK∧(q.1∈nm (.ptr y0 v0 c0)∨q.1∈nm d):=by
  intro r' q hq
  simp only[age]at hq
  subst hq
  exact⟨hlt,.inl (by simp[nm,fS])⟩
 have plain:∀ {c':Option (List D)},zy τ y0 r ty s nv cs c0 c'=some E->∀q∈E.hw,q.1<PK∧(q.1∈nm (.ptr y0 v0 c0)∨q.1∈nm d):=by
  intro c' hE
  unfold zy at hE
  split at hE<;>try (cases hE;done)
  split at hE<;>try (cases hE;done)
  cases hE
  exact one
 unfold vF at hE
 split at hE
 ·rename_i yq vq sq oq nq
  split at hE<;>try (cases hE;done)
  split at hE
  ·split at hE<;>try (cases hE;done)
   unfold zw at hE
   split at hE<;>try (cases hE;done)
   split at hE<;>try (cases hE;done)
   cases hE
   exact one
  ·split at hE<;>try (cases hE;done)
   rename_i hyp
   split at hE<;>try (cases hE;done)
   split at hE<;>try (cases hE;done)
   unfold zx at hE
   split at hE<;>try (cases hE;done)
   cases hE
   intro q hq
   rcases afY.1 hq with rfl|hq
   ·exact⟨hyp,.inr (by simp[nm,fS])⟩
   ·exact one q hq
 ·exact plain hE
theorem Vl {τ:Ty} {p:D} {E:bu} (hE:nU τ h p=some E):∀q∈E.hw,q.1<PK∧q.1∈nm p:=by
 unfold nU at hE
 split at hE<;>try (cases hE;done)
 rename_i y0 v0 c0
 split at hE<;>try (cases hE;done)
 rename_i r ty s nv cs hl
 have hlt:=kT hl
 split at hE<;>try (cases hE;done)
 unfold QF at hE
 split at hE<;>try (cases hE;done)
 cases hE
 intro q hq
 simp only[age]at hq
 subst hq
 exact⟨hlt,by simp[nm,fS]⟩
theorem V7 {τ:Ty} {p d:D} {E:bu} (hE:nZ τ e h p d=some E):∀q∈E.hw,q.1<PK∧(q.1∈nm p∨q.1∈nm d):=by
 unfold nZ at hE
 split at hE<;>try (cases hE;done)
 rename_i y0 v0 c0
 split at hE<;>try (cases hE;done)
 rename_i r ty s nv cs hl
 have hlt:=kT hl
 split at hE<;>try (cases hE;done)
 unfold Rq at hE
 split at hE<;>try (cases hE;done)
 split at hE<;>try (cases hE;done)
 unfold stZ at hE
 split at hE<;>try (cases hE;done)
 cases hE
 intro q hq
 simp only[age]at hq
 subst hq
 exact⟨hlt,.inl (by simp[nm,fS])⟩
theorem Vk {τ:Ty} {d:D} (hx:∀x∈nm d,x<2*PK->h x=h' x):nU τ h d=nU τ h' d:=by
 unfold nU
 split
 ·rename_i x v o
  by_cases hp:x<2*PK
  ·rw[mn (hx x (by simp[nm,fS]) hp)]
  ·have hn:∀h:Nat->Option Row,eY h x v=none:=by
    intro h
    cases hl:eY h x v with
    | none=>rfl
    | some q=>have:=kT hl;omega
   rw[hn,hn]
 ·rfl
theorem V6 {τ:Ty} {p d:D} (hp:∀x∈nm p,x<2*PK->h x=h' x):nZ τ e h p d=nZ τ e h' p d:=by
 unfold nZ
 split
 ·rename_i x v o
  by_cases hxp:x<2*PK
  ·rw[mn (hp x (by simp[nm,fS]) hxp)]
  ·have hn:∀h:Nat->Option Row,eY h x v=none:=by
    intro h
    cases hl:eY h x v with
    | none=>rfl
    | some q=>have:=kT hl;omega
   rw[hn,hn]
 ·rfl
theorem Vn {τ:Ty} {d:D} (hx:∀x∈nm d,x<2*PK->h x=h' x):nV τ h d=nV τ h' d:=by
 unfold nV
 split
 ·rename_i x v o
  by_cases hp:x<2*PK
  ·rw[mn (hx x (by simp[nm,fS]) hp)]
  ·have hn:∀h:Nat->Option Row,eY h x v=none:=by
    intro h
    cases hl:eY h x v with
    | none=>rfl
    | some q=>have:=kT hl;omega
   rw[hn,hn]
 ·rfl
theorem V3 {τ:Ty} {p d:D} (hp:∀x∈nm p,x<2*PK->h x=h' x) (hd:∀x∈nm d,x<2*PK->h x=h' x):ly τ e h p d=ly τ e h' p d:=by
 unfold ly
 split
 ·rename_i x v o
  by_cases hxp:x<2*PK
  rotate_left
  ·have hn:∀h:Nat->Option Row,eY h x v=none:=by
    intro h
    cases hl:eY h x v with
    | none=>rfl
    | some q=>have:=kT hl;omega
   rw[hn,hn]
  rw[mn (hp x (by simp[nm,fS]) hxp)]
  split
  ·split
   ·unfold vF
    split
    ·rename_i y vy s' oy n
     by_cases hyp:y<2*PK
     ·rw[cr (hd y (by simp[nm,fS]) hyp)]
     ·split
      ·split
       ·rfl
       ·rw[if_neg (by have:=bZ;omega),if_neg (by have:=bZ;omega)]
      ·rfl
    ·rfl
   ·rfl
  ·rfl
 ·rfl
theorem eF {vs:Operand->D} {x:Nat} (hx:x∈fI o vs):rt x∈bl o vs:=afQ.2 ⟨x,hx,rfl⟩
theorem mB {vs:Operand->D} {y:Operand} (hy:y∈o.op.operands.toList) (h1:∀a b c,o.op ≠ .pick a b c) (h2:∀a,o.op ≠ .move a) (h3:∀a b c,o.op ≠ .makeFunc a b c) {x:Nat} (hx:x∈nm (vs y)):x∈fI o vs:=by
 unfold fI
 split
 ·rename_i ho;exact absurd ho (h2 _)
 ·rename_i ho;exact absurd ho (h1 _ _ _)
 ·rename_i ho;exact absurd ho (h3 _ _ _)
 ·exact af5 _ (ahm.2 ⟨y,hy,hx⟩)
theorem Gw {vs:Operand->D} {q:D} {args:List D} (hc:gp vs o.op=some (q,args)) (hx:∀x∈bl o vs,h x=h' x):∀d∈args,∀x∈nm d,h (rt x)=h' (rt x):=by
 obtain⟨c,f,ho,hcc,_,hargs⟩:=mc hc
 subst hargs
 intro d hd x hxd
 obtain⟨y,hy,rfl⟩:=afQ.1 hd
 exact hx _ (eF (mB (y:=y) (by simp[ho,Op.operands,Call.operands,hcc];exact .inr (by simpa using hy)) (by simp[ho]) (by simp[ho]) (by simp[ho]) hxd))
theorem Li {g:Nat} {args:List D} (hx:∀d∈args,∀x∈nm d,h (rt x)=h' (rt x)):pP Γ e h g args=pP Γ e h' g args:=by
 unfold pP
 split
 ·rename_i x v c rest
  have hca:bn (EH h) rest=bn (EH h') rest:=ia fun d hd x hxd=>dB (hx d (ahp _ hd) x hxd)
  by_cases hp:x<2*PK
  ·have:=hx _ aho x (by simp[nm,fS])
   rw[gj hp]at this
   rw[mn this,hca]
  ·have hn:∀h:Nat->Option Row,eY h x v=none:=by
    intro h
    cases hl:eY h x v with
    | none=>rfl
    | some q=>have:=kT hl;omega
   rw[hn,hn]
 ·rfl
theorem Mf {vs:Operand->D} (hx:∀x∈bl o vs,h x=h' x):ln Γ e h o.dst (gp vs o.op)=ln Γ e h' o.dst (gp vs o.op):=by
 unfold ln
 split
 ·rename_i d g args hd hc
  unfold CS
  split
  ·rw[ia fun d hd x hxd=>dB (Gw hc hx d hd x hxd)]
  ·rfl
 ·rfl
theorem Qb {vs:Operand->D} (hx:∀x∈bl o vs,h x=h' x):te T Γ e o vs h=te T Γ e o vs h':=by
 unfold te
 split
 ·rename_i ty p ho
  split
  ·have hn:∀x∈nm (vs p),x<2*PK->h x=h' x:=fun x hxm hl=>by
    have:=hx _ (eF (mB (y:=p) (by simp[ho,Op.operands]) (by simp[ho]) (by simp[ho]) (by simp[ho]) hxm))
    rwa [gj hl]at this
   unfold td
   rw[Vn hn,Vk hn]
  ·rfl
 ·rename_i ty p x ho
  split
  ·have hn:∀x∈nm (vs p),x<2*PK->h x=h' x:=fun y hxm hl=>by
    have:=hx _ (eF (mB (y:=p) (by simp[ho,Op.operands]) (by simp[ho]) (by simp[ho]) (by simp[ho]) hxm))
    rwa [gj hl]at this
   unfold tf
   rw[V3 hn (fun y hxm hl=>by
    have:=hx _ (eF (mB (y:=x) (by simp[ho,Op.operands]) (by simp[ho]) (by simp[ho]) (by simp[ho]) hxm))
    rwa [gj hl]at this),V6 hn]
  ·rfl
 ·rename_i c ho
  unfold Ak
  split
  ·rename_i g args hc
   exact Li (Gw (by rw[ho];exact hc) hx)
  ·rfl
 ·rfl
theorem P7 {vs:Operand->D} (hx:∀x∈bl o vs,h x=h' x):mX T Γ e o vs h=mX T Γ e o vs h':=by
 have h1:ll T Γ e o vs (EH h)=ll T Γ e o vs (EH h'):=U2 fun x hxm=>dB (hx _ (eF hxm))
 unfold mX
 rw[h1,Qb hx,Mf hx]
 split
 ·rfl
 split
 ·rfl
 ·cases hE:ll T Γ e o vs (EH h') with
  | none=>rfl
  | some E =>
   simp only[or2]
   rw[Ar E.hw fun p hp=>hx _ (eF (G6 hE p hp))]
theorem P8 {vs:Operand->D} {E:bu} (hE:mX T Γ e o vs h=some E):∀p∈E.hw,p.1∈bl o vs:=by
 unfold mX at hE
 split at hE
 ·rename_i E0 hmk
  simp only[af0]at hE
  subst hE
  unfold fO at hmk
  split at hmk<;>try (cases hmk;done)
  rotate_left
  ·rename_i ty ho
   split at hmk<;>try (cases hmk;done)
   rename_i d hdst
   split at hmk<;>try (cases hmk;done)
   split at hmk<;>try (cases hmk;done)
   unfold mkA at hmk
   split at hmk<;>try (cases hmk;done)
   rename_i hcond
   cases hmk
   intro p hp
   simp only[age]at hp
   subst hp
   have hd:d∈fI o vs:=by
    unfold fI
    rw[ho]
    exact af6 _ (by rw[hdst];simp)
   have:=eF hd
   rwa [gj (by have:=hcond.2.2.2.1;omega)]at this
  rename_i ty l c ho
  split at hmk<;>try (cases hmk;done)
  rename_i d hdst
  split at hmk<;>try (cases hmk;done)
  split at hmk<;>try (cases hmk;done)
  unfold mO at hmk
  split at hmk<;>try (cases hmk;done)
  split at hmk<;>try (cases hmk;done)
  split at hmk<;>try (cases hmk;done)
  rename_i hcond
  cases hmk
  intro p hp
  simp only[age]at hp
  subst hp
  have hd:d∈fI o vs:=by
   unfold fI
   rw[ho]
   exact af6 _ (by rw[hdst];simp)
  have:=eF hd
  rwa [gj (by have:=hcond.2.2.2.2.2.2.1;omega)]at this
 split at hE
 ·rename_i E0 hcf
  simp only[af0]at hE
  subst hE
  unfold ln at hcf
  split at hcf<;>try (cases hcf;done)
  rename_i d g args hdst hco
  obtain⟨c,f,hop,hcc,hq,hargs⟩:=mc hco
  unfold CS at hcf
  split at hcf<;>try (cases hcf;done)
  obtain⟨_,_,_,_,_,_,_,_,_,hdp,rfl⟩:=wC hcf
  intro p hp
  simp only[age]at hp
  subst hp
  have hd:d∈fI o vs:=by
   unfold fI
   rw[hop]
   exact af6 _ (by rw[hdst];simp)
  have:=eF hd
  rwa [gj (by omega)]at this
 ·unfold or2 at hE
  split at hE
  ·rename_i v0 hw he
   simp only[af0]at hE
   subst hE
   intro p hp
   obtain⟨q,h1,h2⟩:=As hw p hp
   rw[h2]
   exact eF (G6 he q h1)
  ·unfold te at hE
   split at hE
   ·rename_i ty p ho
    split at hE<;>try (cases hE;done)
    unfold td orE at hE
    split at hE
    ·rename_i E0 hF
     simp only[af0]at hE
     subst hE
     intro q hq
     obtain⟨q1,q2⟩:=Vl hF q hq
     have:q.1∈fI o vs:=mB (y:=p) (by simp[ho,Op.operands]) (by simp[ho]) (by simp[ho]) (by simp[ho]) q2
     have:=eF this
     rwa [gj (by omega)]at this
    rw[G5 hE]
    intro p hp
    simp at hp
   ·rename_i ty p x ho
    split at hE<;>try (cases hE;done)
    intro q hq
    have hnm:q.1<PK∧(q.1∈nm (vs p)∨q.1∈nm (vs x)):=by
     unfold tf orE at hE
     split at hE
     ·rename_i E0 hF
      simp only[af0]at hE
      subst hE
      exact V7 hF q hq
     ·exact V4 hE q hq
    obtain⟨q1,q2⟩:=hnm
    have:q.1∈fI o vs:=by
     rcases q2 with q2|q2
     ·exact mB (y:=p) (by simp[ho,Op.operands]) (by simp[ho]) (by simp[ho]) (by simp[ho]) q2
     ·exact mB (y:=x) (by simp[ho,Op.operands]) (by simp[ho]) (by simp[ho]) (by simp[ho]) q2
    have:=eF this
    rwa [gj (by omega)]at this
   ·rename_i c ho
    unfold Ak at hE
    split at hE<;>try (cases hE;done)
    rename_i g args hco
    obtain⟨c',f,hop,hcc,hq,hargs⟩:=mc hco
    cases hop
    obtain⟨x,v,o',rest,r,ty,s,nv,cs,p,afM,nv',d,cs',hag,hl,_,_,_,_,_,rfl⟩:=qS hE
    have hlt:=kT hl
    intro q hq
    simp only[age]at hq
    subst hq
    obtain⟨y,hy,hyx⟩:∃y∈c.args.toList,vs y=.ptr x v o':=by
     have:(.ptr x v o':D)∈c.args.toList.map vs:=by rw[<- hargs,hag];exact aho
     obtain⟨y,h1,h2⟩:=afQ.1 this
     exact⟨y,h1,h2⟩
    have:x∈fI o vs:=mB (y:=y) (by simp[ho,Op.operands,Call.operands,hcc];exact .inr (by simpa using hy)) (by simp[ho]) (by simp[ho]) (by simp[ho]) (by rw[hyx];simp[nm,fS])
    have:=eF this
    rwa [gj (by omega)]at this
   ·cases hE
theorem aaz {vs vs':Operand->D} (hx:∀y∈o.op.operands.toList,vs y=vs' y):mX T Γ e o vs h=mX T Γ e o vs' h∧bl o vs=bl o vs':=by
 obtain⟨h1,h2⟩:=acf (T:=T) (Γ:=Γ) (e:=e) (h:=EH h) hx
 have h3:fO T Γ e o vs=fO T Γ e o vs':=by
  unfold fO
  split
  ·rename_i ty l c ho
   rw[hx l (by simp[ho,Op.operands]),hx c (by simp[ho,Op.operands])]
  ·rfl
  ·rfl
 have hco:∀c,o.op=.call c->gp vs (.call c)=gp vs' (.call c):=by
  intro c ho
  unfold gp
  simp only
  split
  ·rename_i f hf
   rw[hx f (by simp[ho,Op.operands,Call.operands,hf]),ahn fun y hy=>hx y (by simp[ho,Op.operands,Call.operands,hf];exact .inr (by simpa using hy))]
  ·rfl
 have h4:te T Γ e o vs h=te T Γ e o vs' h:=by
  unfold te
  split
  ·rename_i ty p ho
   rw[hx p (by simp[ho,Op.operands])]
  ·rename_i ty p x ho
   rw[hx p (by simp[ho,Op.operands]),hx x (by simp[ho,Op.operands])]
  ·rename_i c ho
   rw[hco c ho]
  ·rfl
 have h5:gp vs o.op=gp vs' o.op:=by
  by_cases hc:∃c,o.op=.call c
  ·obtain⟨c,hc⟩:=hc
   rw[hc]
   exact hco c hc
  ·unfold gp
   split
   ·rename_i c ho;exact absurd ⟨c,ho⟩ hc
   ·rfl
 unfold mX bl
 rw[h1,h2,h3,h4,h5]
 exact⟨rfl,rfl⟩
end
structure ju where
 tc:List Nat
 q:Bool
def tr (ops:Array Oper) (t:Nat->D) (o:Oper):Option Bool :=
 match o.guard with
 | none=>some true
 | some (j,want) =>
  match (ops[j]?).bind (·.dst) with
  | some g=>match t g with | .bool b=>some (b==want) | .skp=>some false|_=>none
  | none=>none
def dV (t:Nat->D) (dst:Option Nat) (d:D):Nat->D :=
 match dst with
 | none=>t
 | some i=>bB t i d
def fits (N:Nat) (dst:Option Nat):Bool :=
 match dst with
 | none=>true
 | some i=>decide (i<N)
def step1 (T:Nat->Option Ty) (Γ:Env) (N e:Nat) (ops:Array Oper) (o:Oper) (t:Nat->D) (h:Nat->Option Row):Option ((Nat->D)×(Nat->Option Row)×ju) :=
 if fits N o.dst then
  match tr ops t o with
  | some true =>
   match mX T Γ e o (ev t) h with
   | some E=>some (dV t o.dst E.val,aH h E.hw,⟨bl o (ev t),E.hw.isEmpty⟩)
   | none=>none
  | some false=>some (dV t o.dst .skp,h,⟨[],true⟩)
  | none=>none
 else none
section
variable {P:Program} {T:Nat->Option Ty} {N:Nat} {M:Nat->Prop} {L:iB} {w0:World} {blk:Nat->Option (Nat×Nat)} {t:Nat->D} {h:Nat->Option Row} {a:Act} {w:World} {e:Nat} {o:Oper} {Γ:Env} {ops:Array Oper}
theorem xL {V:Nat->Nat->Prop} (hI:Inv N M L w0 blk V t h a w) {b:Bool} (hg:tr ops t o=some b):Region.wanted o (yielded ops a.tmps)=b:=by
 unfold tr at hg
 split at hg
 ·rename_i ho
  simp only[af0]at hg
  subst hg
  simp[Region.wanted,ho]
 ·rename_i j want ho
  split at hg
  ·rename_i g hgd
   split at hg
   ·rename_i b' hb
    simp only[af0]at hg
    subst hg
    have hs:=hI.slots g
    rw[hb]at hs
    have hv:=uk hs
    have hget:a.tmps[g]? = some (.bool b'):=by
     simp only[afW]at hv
     cases hx:a.tmps[g]? with
     | none=>rw[hx]at hv;cases hv
     | some v=>rw[hx]at hv;simp only[Option.getD_some]at hv;rw[hv]
    have hy:yielded ops a.tmps j=some b':=by
     unfold yielded
     rw[hgd]
     simp[hget]
    simp only[Region.wanted,ho,hy]
    cases b'<;>cases want<;>rfl
   ·rename_i hb
    simp only[af0]at hg
    subst hg
    have hs:=hI.slots g
    rw[hb]at hs
    have hv:a.tmps.getD g undef=undef:=hs
    have hy:yielded ops a.tmps j=none:=by
     unfold yielded
     rw[hgd]
     simp only[afW]at hv
     cases hx:a.tmps[g]? with
     | none=>simp only[Option.bind_some,hx]
     | some v=>rw[hx]at hv;simp only[Option.getD_some]at hv;subst hv;simp only[Option.bind_some,hx];rfl
    simp only[Region.wanted,ho,hy]
    cases want<;>rfl
   ·cases hg
  ·cases hg
theorem Inv.acE {V:Nat->Nat->Prop} (hI:Inv N M L w0 blk V t h a w) (hf:fits N o.dst=true) {d:D} {v:Value} (hx:RT w (Own M h blk) h blk V d v):Inv N M L w0 blk V (dV t o.dst d) h (a.put o.dst v) w:=by
 cases hd:o.dst with
 | none=>simpa [dV,Act.put] using hI
 | some i =>
  rw[hd]at hf
  exact hI.put (by simpa [fits] using hf) hx
theorem Kz (hT:gz P T) (hΓ:bA P Γ) {done:List Nat} {t':Nat->D} {h':Nat->Option Row} {f:ju} {K:Act->World->Prop} {Q:Exit->Act->World->Prop} (hI:qD N M L w0 blk e done t h a w)
  (hs:step1 T Γ N e ops o t h=some (t',h',f)) (hd:∀d,o.dst=some d->d∉done) (hK:∀a' w' blk',qD N M L w0 blk' e (o.dst.toList++done) t' h' a' w'->K a' w') :
  if Region.wanted o (yielded ops a.tmps) then o.wp P a w K Q∨(o.asks P a w∧LetsOut Q) else K (a.put o.dst undef) w:=by
 unfold step1 at hs
 split at hs
 ·rename_i hf
  split at hs
  ·rename_i hg
   rw[xL hI.inv hg]
   simp only[if_true]
   split at hs
   ·rename_i E hE
    simp only[af0,Prod.mk.injEq]at hs
    obtain⟨rfl,rfl,_⟩:=hs
    have:=P9 hT hΓ hI (fun d hd'=>⟨hd d hd',by rw[hd']at hf;simpa [fits] using hf⟩) hE
    refine .inl (this.wp fun v w' hA =>?_)
    obtain⟨blk',hI',hR⟩:=hA
    exact hK _ _ blk' ⟨hI'.inv.acE hf hR,hI'.nv⟩
   ·cases hs
  ·rename_i hg
   rw[xL hI.inv hg]
   simp only[ags,if_false]
   simp only[af0,Prod.mk.injEq]at hs
   obtain⟨rfl,rfl,_⟩:=hs
   have hsub:∀x,x∈done->x∈o.dst.toList++done:=fun x hx=>af6 _ hx
   exact hK _ _ blk ⟨(hI.inv.acE hf (d := .skp) (v:=undef) rfl).weaken fun x n hx=>hx.step (.refl e h) hsub,hI.nv.step (.refl e h) hsub⟩
  ·cases hs
 ·cases hs
theorem eK {x:Nat} : ∀ {l:List (Nat×Option Row)} {h:Nat->Option Row},(∀p∈l,p.1≠x)->aH h l x=h x
 | [],_,_=>rfl
 | (y,r)::l,h,hn=>by
  simp only[aH]
  rw[eK (fun p hp=>hn p (by simp[hp]))]
  exact au _ _ (fun e=>hn (y,r) (by simp) e.symm)
theorem y3 {x:Nat} : ∀ {l:List (Nat×Option Row)} {h h':Nat->Option Row},(∃p∈l,p.1=x)->aH h l x=aH h' l x
 | [],_,_,he=>by obtain⟨p,hp,_⟩:=he;simp at hp
 | (y,r)::l,h,h',he=>by
  simp only[aH]
  by_cases hl:∃p∈l,p.1=x
  ·exact y3 hl
  ·have hn:∀p∈l,p.1≠x:=fun p hp hpx=>hl ⟨p,hp,hpx⟩
   rw[eK hn,eK hn]
   obtain⟨p,hp,hpx⟩:=he
   rcases afY.1 hp with rfl|hp
   ·simp only at hpx;subst hpx;rw[aq,aq]
   ·exact absurd hpx (hn p hp)
theorem K1 {l l':List (Nat×Option Row)} {h:Nat->Option Row} (hd:∀p∈l,∀q∈l',p.1≠q.1):aH (aH h l) l'=aH (aH h l') l:=by
 funext x
 by_cases h1:∃p∈l,p.1=x
 ·obtain⟨p,hp,rfl⟩:=h1
  rw[eK (fun q hq e=>hd p hp q hq e.symm)]
  exact y3 ⟨p,hp,rfl⟩
 ·have hn:∀p∈l,p.1≠x:=fun p hp hpx=>h1 ⟨p,hp,hpx⟩
  rw[eK hn]
  by_cases h2:∃p∈l',p.1=x
  ·exact y3 h2
  ·have hn':∀p∈l',p.1≠x:=fun p hp hpx=>h2 ⟨p,hp,hpx⟩
   rw[eK hn',eK hn',eK hn]
theorem VX {t:Nat->D} {x y:Option Nat} {v u:D} (hne:∀d,x=some d->y≠some d):dV (dV t x v) y u=dV (dV t y u) x v:=by
 cases x with
 | none=>rfl
 | some i =>
  cases y with
  | none=>rfl
  | some j=>exact Z3 t v u (fun e=>hne i rfl (by rw[e]))
theorem TO {t:Nat->D} {x:Option Nat} {v:D} {s:Nat} (hne:x≠some s):dV t x v s=t s:=by
 cases x with
 | none=>rfl
 | some i=>exact au _ _ (fun e=>hne (by rw[e]))
theorem Pr {t t1:Nat->D} {h h1:Nat->Option Row} {f:ju} (hs:step1 T Γ N e ops o t h=some (t1,h1,f)) :
  ∃v hw,t1=dV t o.dst v∧h1=aH h hw∧(∀p∈hw,p.1∈f.tc)∧(f.q=true->hw=[]) ∧
   ∀t' h',(∀s∈o.looksAt ops,t s=t' s)->(∀x∈f.tc,h x=h' x)->step1 T Γ N e ops o t' h'=some (dV t' o.dst v,aH h' hw,f):=by
 have hgd:∀t':Nat->D,(∀s∈o.looksAt ops,t s=t' s)->tr ops t o=tr ops t' o:=by
  intro t' ht
  unfold tr
  split
  ·rfl
  ·rename_i j want ho
   split
   ·rename_i g hg
    rw[ht g (by simp[Oper.looksAt,ho,hg])]
   ·rfl
 have hvs:∀t':Nat->D,(∀s∈o.looksAt ops,t s=t' s)->∀y∈o.op.operands.toList,ev t y=ev t' y:=by
  intro t' ht y hy
  cases y with
  | tmp i=>exact ht i (by unfold Oper.looksAt;exact af5 _ (List.mem_filterMap.2 ⟨_,hy,rfl⟩))
  | const v=>rfl
  | global g=>rfl
  | func f=>rfl
 unfold step1 at hs
 split at hs
 ·rename_i hf
  split at hs
  ·rename_i hg
   split at hs
   ·rename_i E hE
    simp only[af0,Prod.mk.injEq]at hs
    obtain⟨rfl,rfl,rfl⟩:=hs
    refine⟨E.val,E.hw,rfl,rfl,P8 hE,fun hq=>by simpa using hq,fun t' h' ht hh =>?_⟩
    obtain⟨e1,e2⟩:=aaz (T:=T) (Γ:=Γ) (e:=e) (h:=h) (hvs t' ht)
    have e3:mX T Γ e o (ev t') h'=some E:=by
     rw[<- hE,e1]
     exact (P7 (fun x hx=>hh x (by rw[e2];exact hx))).symm
    unfold step1
    rw[if_pos hf,<- hgd t' ht,hg]
    simp only[e3,e2]
   ·cases hs
  ·rename_i hg
   simp only[af0,Prod.mk.injEq]at hs
   obtain⟨rfl,rfl,rfl⟩:=hs
   refine⟨.skp,[],rfl,rfl,fun p hp=>by simp at hp,fun _=>rfl,fun t' h' ht hh =>?_⟩
   unfold step1
   rw[if_pos hf,<- hgd t' ht,hg]
   rfl
  ·cases hs
 ·cases hs
def PO (T:Nat->Option Ty) (Γ:Env) (N e:Nat) (ops:Array Oper) (F:Nat->ju):List Nat->(Nat->D)->(Nat->Option Row)->(Nat->D)->(Nat->Option Row)->Prop
 | [],t,h,t',h'=>t=t'∧h=h'
 | i::L,t,h,t',h'=>∃o t1 h1,ops[i]? = some o∧step1 T Γ N e ops o t h=some (t1,h1,F i)∧PO T Γ N e ops F L t1 h1 t' h'
def aav (l l':List Nat):Bool:=l.all fun x => !l'.contains x
structure R4 (ops:Array Oper) (F:Nat->ju) (j i:Nat):Prop where
 apart:∀oj oi,ops[j]? = some oj->ops[i]? = some oi->oj.apart ops oi=true
 foot:((F j).q&&(F i).q||aav (F j).tc (F i).tc)=true
theorem swap {F:Nat->ju} {i j:Nat} {L:List Nat} {t t':Nat->D} {h h':Nat->Option Row} (hr:PO T Γ N e ops F (j::i::L) t h t' h') (hi:R4 ops F j i):PO T Γ N e ops F (i::j::L) t h t' h':=by
 obtain⟨oj,t1,h1,hoj,hsj,oi,t2,h2,hoi,hsi,hrest⟩:=hr
 obtain⟨a1,a2,a3⟩:=Oper.apart_spec (hi.apart oj oi hoj hoi)
 obtain⟨vj,wj,rfl,rfl,nj,qj,locj⟩:=Pr hsj
 obtain⟨vi,wi,rfl,rfl,ni,qi,loci⟩:=Pr hsi
 have hfoot:=hi.foot
 simp only[ahs,agt]at hfoot
 have d1:∀x∈(F i).tc,∀p∈wj,p.1≠x:=by
  intro x hx p hp he
  rcases hfoot with⟨h1,_⟩|h1
  ·rw[qj h1]at hp;simp at hp
  ·simp only[aav,af2]at h1
   have:=h1 p.1 (nj p hp)
   rw[he]at this
   simp[hx]at this
 have d2:∀x∈(F j).tc,∀p∈wi,p.1≠x:=by
  intro x hx p hp he
  rcases hfoot with⟨_,h1⟩|h1
  ·rw[qi h1]at hp;simp at hp
  ·simp only[aav,af2]at h1
   have:=h1 x hx
   have hm:=ni p hp
   rw[he]at hm
   simp[hm]at this
 have hsi':=loci t h (fun s hs=>TO (fun hd=>a1 s hd hs)) (fun x hx=>eK (d1 x hx))
 have hsj':=locj (dV t oi.dst vi) (aH h wi) (fun s hs=>(TO (fun hd=>a3 s hd hs)).symm) (fun x hx=>(eK (d2 x hx)).symm)
 refine⟨oi,_,_,hoi,hsi',oj,_,_,hoj,hsj',?_⟩
 rw[VX (x:=oi.dst) (y:=oj.dst) (fun d hd hd'=>a2 d hd' hd),K1 (l:=wi) (l':=wj) (fun p hp q hq he=>d1 p.1 (ni p hp) q hq he.symm)]
 exact hrest
theorem front {F:Nat->ju} {i:Nat} {post:List Nat} : ∀ {pre:List Nat} {t t':Nat->D} {h h':Nat->Option Row},PO T Γ N e ops F (pre++i::post) t h t' h'->(∀j∈pre,R4 ops F j i)->PO T Γ N e ops F (i::(pre++post)) t h t' h'
 | [],_,_,_,_,hr,_=>hr
 | j::pre,t,t',h,h',hr,hi=>by
  obtain⟨oj,t1,h1,hoj,hsj,hrest⟩:=hr
  have ih:=front (pre:=pre) hrest (fun k hk=>hi k (by simp[hk]))
  exact swap ⟨oj,t1,h1,hoj,hsj,ih⟩ (hi j (by simp))
def direct (o:Oper):List Nat:=(o.after.toList.filter (Region.binds .any)).map (·.on)
def uu:List Oper->List (List Nat)->List (List Nat)
 | [],acc=>acc
 | o::l,acc=>uu l (acc++[direct o++(direct o).flatMap fun k=>acc.getD k []])
def acd (ops:Array Oper):List (List Nat):=uu ops.toList []
theorem Co (S:Nat->Prop):∀(l:List Oper) (acc:List (List Nat)) (k:Nat),k=acc.length->(∀i j,j∈acc.getD i []->i<k->(∀m o,ops[m]? = some o->S m->∀d∈direct o,S d)->(∀o,ops[i]? = some o->∀d∈direct o,S d)->S j) ->
  (∀j,l[j]? = ops[k+j]?)->∀i j,j∈(uu l acc).getD i []->(∀m o,ops[m]? = some o->S m->∀d∈direct o,S d)->(∀o,ops[i]? = some o->∀d∈direct o,S d)->S j
 | [],acc,k,hk,hacc,hl,i,j,hj,hS,hi=>by
  simp only[uu]at hj
  by_cases hik:i<k
  ·exact hacc i j hj hik hS hi
  ·have:acc.getD i []=[]:=by simp[List.getD,aht (show acc.length<=i by omega)]
   rw[this]at hj
   simp at hj
 | o::l,acc,k,hk,hacc,hl,i,j,hj,hS,hi=>by
  simp only[uu]at hj
  refine Co S l _ (k+1) (by simp[hk]) ?_ (fun j=>by have:=hl (j+1);simpa [agc,Nat.add_comm 1 j] using this) i j hj hS hi
  intro i' j' hj' hik' hS' hi'
  by_cases hlt:i'<k
  ·have:(acc++[direct o++(direct o).flatMap fun k=>acc.getD k []]).getD i' []=acc.getD i' []:=by
    simp[List.getD,agw (show i'<acc.length by omega)]
   rw[this]at hj'
   exact hacc i' j' hj' hlt hS' hi'
  ·obtain rfl:i'=k:=by omega
   have:(acc++[direct o++(direct o).flatMap fun k=>acc.getD k []]).getD i' []=direct o++(direct o).flatMap fun k=>acc.getD k []:=by
    simp[List.getD,agx (show acc.length<=i' by omega),hk]
   rw[this]at hj'
   have ho:ops[i']? = some o:=by have:=hl 0;simpa using this.symm
   rcases ag7.1 hj' with hd|hd
   ·exact hi' o ho j' hd
   ·obtain⟨m,hm,hmj⟩:=ahm.1 hd
    have hSm:=hi' o ho m hm
    by_cases hmk:m<i'
    ·exact hacc m j' hmj hmk hS' (fun o' ho' d hd'=>hS' m o' ho' hSm d hd')
    ·have:acc.getD m []=[]:=by simp[List.getD,aht (show acc.length<=m by omega)]
     rw[this]at hmj
     simp at hmj
theorem aau {S:Nat->Prop} {i j:Nat} (hj:j∈(acd ops).getD i []) (hS:∀m o,ops[m]? = some o->S m->∀d∈direct o,S d) (hi:∀o,ops[i]? = some o->∀d∈direct o,S d):S j :=
 Co S ops.toList [] 0 rfl (fun i j hj _ _ _=>by simp at hj) (fun j=>by simp) i j hj hS hi
def Xk (acc:List Nat):List Nat->Nat
 | []=>0
 | k::l=>(2 ^ k ||| acc.getD k 0) ||| Xk acc l
def Cp:List Oper->List Nat->List Nat
 | [],acc=>acc
 | o::l,acc=>Cp l (acc++[Xk acc (direct o)])
def SL (ops:Array Oper):List Nat:=Cp ops.toList []
theorem SO {acc:List Nat} {j:Nat} : ∀ {l:List Nat},(Xk acc l).testBit j=true->j∈l∨∃k∈l,(acc.getD k 0).testBit j=true
 | [],h=>by simp[Xk]at h
 | k::l,h=>by
  simp only[Xk,Nat.testBit_or,ahs,Nat.testBit_two_pow,decide_eq_true_eq]at h
  rcases h with (rfl|h)|h
  ·exact .inl (aho ..)
  ·exact .inr ⟨k,aho ..,h⟩
  ·rcases SO h with h|⟨k',h1,h2⟩
   ·exact .inl (ahp _ h)
   ·exact .inr ⟨k',ahp _ h1,h2⟩
theorem zT:∀(l:List Oper) (accM:List Nat) (acc:List (List Nat)),accM.length=acc.length->(∀i j,(accM.getD i 0).testBit j=true->j∈acc.getD i [])->∀i j,((Cp l accM).getD i 0).testBit j=true->j∈(uu l acc).getD i []
 | [],_,_,_,h,i,j,hj=>h i j hj
 | o::l,accM,acc,hl,h,i,j,hj=>by
  refine zT l _ _ (by simp[hl]) (fun i' j' hj' =>?_) i j hj
  by_cases h1:i'<accM.length
  ·rw[agv,agw h1,<- agv]at hj'
   rw[agv,agw (by omega),<- agv]
   exact h i' j' hj'
  ·by_cases h2:i'=accM.length
   ·subst h2
    rw[agv,agx (afR _),ag3]at hj'
    simp only[List.getElem?_cons_zero,Option.getD_some]at hj'
    rw[hl,agv,agx (afR _),ag3]
    simp only[List.getElem?_cons_zero,Option.getD_some,ag7,ahm]
    rcases SO hj' with hj'|⟨k,hk,hj'⟩
    ·exact .inl hj'
    ·exact .inr ⟨k,hk,h k j' hj'⟩
   ·rw[agv,aht (by simp;omega)]at hj'
    simp at hj'
theorem Xd {i j:Nat} (h:((SL ops).getD i 0).testBit j=true):j∈(acd ops).getD i [] :=
 zT ops.toList [] [] rfl (fun i j h=>by simp at h) i j h
def R9 (ops:Array Oper) (F:Nat->ju):Prop:=∀j i,j<i->i<ops.size->j∈(acd ops).getD i []∨R4 ops F j i
theorem Wi (hT:gz P T) (hΓ:bA P Γ) {F:Nat->ju} {Q:Exit->Act->World->Prop} {t':Nat->D} {h':Nat->Option Row} (hp:R9 ops F) (hedge:∀i o,ops[i]? = some o->∀d∈direct o,d<i)
  (hdst:∀(i j:Nat) (oi oj:Oper) (d:Nat),ops[i]? = some oi->ops[j]? = some oj->oi.dst=some d->oj.dst=some d->i=j) (hQ:∀a' w' blk' done,qD N M L w0 blk' e done t' h' a' w'->Q .normal a' w') :
  ∀(n:Nat) (LL:List Nat) (listed:Array Bool) (t:Nat->D) (h:Nat->Option Row) (a:Act) (w:World) (blk:Nat->Option (Nat×Nat)) (done:List Nat),LL.length=n->(∀i,i∈LL↔listed.getD i true=false)->LL.Pairwise (· < ·)->(∀i∈LL,i<ops.size)->listed.size=ops.size ->
   (∀i o,ops[i]? = some o->listed.getD i false=true->∀d∈direct o,listed.getD d false=true)->(∀d∈done,∃i o,ops[i]? = some o∧o.dst=some d∧listed.getD i false=true) ->
   PO T Γ N e ops F LL t h t' h'->qD N M L w0 blk e done t h a w->wpAny P .any ops Q n listed a w:=by
 intro n
 induction n with
 | zero =>
  intro LL listed t h a w blk done hn hL hs hlt hsz hdown hdone hr hI
  have:LL=[]:=aha hn
  subst this
  obtain⟨rfl,rfl⟩:=hr
  refine⟨?_,hQ a w blk done hI⟩
  refine List.eq_nil_iff_forall_not_mem.2 fun i hi =>?_
  have:=(mem_ready.1 hi).1
  exact absurd ((hL i).2 this) (by simp)
 | succ n ih =>
  intro LL listed t h a w blk done hn hL hs hlt hsz hdown hdone hr hI
  refine⟨fun hempty =>?_,fun i hi =>?_⟩
  ·cases LL with
   | nil=>simp at hn
   | cons i LL =>
    obtain⟨o,t1,h1,ho,_⟩:=hr
    have hready:i∈Region.ready .any ops listed:=by
     refine mem_ready.2 ⟨(hL i).1 (by simp),o,ho,fun ed hed hb =>?_⟩
     have hd:ed.on∈direct o:=afQ.2 ⟨ed,ahu.2 ⟨by simpa using hed,hb⟩,rfl⟩
     have hlt':=hedge i o ho _ hd
     by_cases hm:ed.on∈i::LL
     ·rcases afY.1 hm with hm|hm
      ·omega
      ·have:=(ahv.1 hs).1 _ hm
       omega
     ·have h1:¬listed.getD ed.on true=false:=fun hf=>hm ((hL _).2 hf)
      have h2:ed.on<listed.size:=by rw[hsz];have:=hlt i (by simp);omega
      have:listed.getD ed.on true=listed.getD ed.on false:=by simp[Array.getD,h2]
      rw[<- this]
      simpa using h1
    rw[hempty]at hready
    simp at hready
  ·obtain⟨hi0,o,ho,hneeds⟩:=mem_ready.1 hi
   have hiL:i∈LL:=(hL i).2 hi0
   obtain⟨pre,post,rfl⟩:=List.append_of_mem hiL
   have hisz:i<listed.size:=by rw[hsz];exact hlt i hiL
   have hdirect:∀d∈direct o,listed.getD d false=true:=by
    intro d hd
    obtain⟨ed,hed,rfl⟩:=afQ.1 hd
    obtain⟨h1,h2⟩:=ahu.1 hed
    exact hneeds ed (by simpa using h1) h2
   have hind:∀j∈pre,R4 ops F j i:=by
    intro j hj
    have hji:j<i:=by
     have:=List.pairwise_append.1 hs
     exact this.2.2 j hj i (by simp)
    rcases hp j i hji (hlt i hiL) with hc|hc
    ·have hjl:listed.getD j false=true:=aau (S:=fun m=>listed.getD m false=true) hc (fun m om hm hSm d hd=>hdown m om hm hSm d hd) (fun o' ho' d hd=>by
      rw[ho]at ho'
      cases ho'
      exact hdirect d hd)
     have hjt:=(hL j).1 (by simp[hj])
     have hjs:j<listed.size:=by omega
     have:listed.getD j true=listed.getD j false:=by simp[Array.getD,hjs]
     rw[this,hjl]at hjt
     cases hjt
    ·exact hc
   obtain⟨o',t1,h1,ho',hstep,hrest⟩:=front hr hind
   rw[ho]at ho'
   cases ho'
   unfold wpOp
   simp only[ho]
   refine Kz hT hΓ hI hstep (fun d hd hdd =>?_) (fun a' w' blk' hI' =>?_)
   ·obtain⟨k,ok,hk,hkd,hkl⟩:=hdone d hdd
    have:=hdst i k o ok d ho hk hd hkd
    subst this
    have:listed.getD i true=listed.getD i false:=by simp[Array.getD,hisz]
    rw[this,hkl]at hi0
    cases hi0
   ·have hset:∀k,(listed.setIfInBounds i true).getD k false=true↔k=i∨listed.getD k false=true:=by
     intro k
     by_cases hki:k=i
     ·subst hki;simp[hisz]
     ·rw[getD_set_ne false (Ne.symm hki)];simp[hki]
    have hset2:∀k,(listed.setIfInBounds i true).getD k true=false↔k≠i∧listed.getD k true=false:=by
     intro k
     by_cases hki:k=i
     ·subst hki;simp[hisz]
     ·rw[getD_set_ne true (Ne.symm hki)];simp[hki]
    have hnd:(pre++i::post).Nodup:=hs.imp (fun h=>Nat.ne_of_lt h)
    refine ih (pre++post) (listed.setIfInBounds i true) t1 h1 a' w' blk' _ (by simp at hn ⊢;omega) (fun k =>?_) ?_ (fun k hk=>hlt k (by simp at hk ⊢;rcases hk with hk|hk<;>simp[hk])) (by simpa using hsz) (fun k ok hk hkl d hd =>?_) (fun d hd =>?_) hrest hI'
    ·rw[hset2]
     constructor
     ·intro hk
      have hkL:k∈pre++i::post:=by simp at hk ⊢;rcases hk with hk|hk<;>simp[hk]
      refine⟨fun e =>?_,(hL k).1 hkL⟩
      subst e
      have:=List.nodup_append.1 hnd
      simp only[ahw]at this
      rcases ag7.1 hk with hk|hk
      ·exact this.2.2 k hk k (by simp) rfl
      ·exact this.2.1.1 hk
     ·rintro⟨hk,hkl⟩
      have:=(hL k).2 hkl
      simp only[ag7,afY]at this ⊢
      rcases this with h|h|h
      ·exact .inl h
      ·exact absurd h hk
      ·exact .inr h
    ·refine List.Pairwise.sublist ?_ hs
     exact List.Sublist.append_left (List.sublist_cons_self _ _) _
    ·rw[hset]
     rcases (hset k).1 hkl with rfl|hkl
     ·rw[ho]at hk;cases hk;exact .inr (hdirect d hd)
     ·exact .inr (hdown k ok hk hkl d hd)
    ·rcases ag7.1 hd with hd|hd
     ·exact⟨i,o,ho,by simpa using hd,(hset i).2 (.inl rfl)⟩
     ·obtain⟨k,ok,hk,hkd,hkl⟩:=hdone d hd
      exact⟨k,ok,hk,hkd,(hset k).2 (.inr hkl)⟩
end
def zr (T:Nat->Option Ty) (Γ:Env) (N e:Nat) (ops:Array Oper):List Oper->(Nat->D)->(Nat->Option Row)->Option ((Nat->D)×(Nat->Option Row)×List ju)
 | [],t,h=>some (t,h,[])
 | o::l,t,h =>
  match step1 T Γ N e ops o t h with
  | some (t1,h1,f) =>
   match zr T Γ N e ops l t1 h1 with
   | some (t2,h2,fs)=>some (t2,h2,f::fs)
   | none=>none
  | none=>none
def Kc:List Nat->Bool
 | []=>true
 | x::l => !l.contains x&&Kc l
def Xz (ops:Array Oper):Bool:=Kc (ops.toList.filterMap (·.dst))
def Sj (ops:Array Oper) (j i:Nat):Bool :=
 match ops[j]?,ops[i]? with
 | some oj,some oi=>oj.apart ops oi
 | _,_=>true
def P6 (ops:Array Oper):Bool :=
 (ops.toList.zipIdx.all fun p=>(direct p.1).all fun d=>decide (d<p.2)) &&
 ((List.range ops.size).all fun i=>(List.range i).all fun j=>((SL ops).getD i 0).testBit j||Sj ops j i)
def Ia (ops:Array Oper):List (Nat×Nat):=(List.range ops.size).flatMap fun i=>((List.range i).filter fun j => !((SL ops).getD i 0).testBit j).map fun j=>(j,i)
def YJ (fs:List ju) (p:Nat×Nat):Bool :=
 match fs[p.1]?,fs[p.2]? with
 | some f,some g=>f.q&&g.q||aav f.tc g.tc
 | _,_=>false
def CI (ops:Array Oper) (fs:List ju):Bool:=(Ia ops).all (YJ fs)
inductive Ex where
 | normal
 | exit (n:Nat)
 | ret
structure St where
 t:Nat->D
 h:Nat->Option Row
 e:Nat
def iter (f:St->Option (Ex×St)):Nat->St->Option (Ex×St)
 | 0,_=>none
 | n+1,s =>
  match f s with
  | some (.normal,s1)=>iter f n s1
  | r=>r
def vv (T:Nat->Option Ty) (Γ:Env) (N:Nat) (ops:Array Oper) (draw:Bool) (s:St):Option (Ex×St) :=
 match zr T Γ N s.e ops ops.toList s.t s.h with
 | some (t,h,fs)=>if !draw||CI ops fs then some (.normal,⟨t,h,s.e+1⟩) else none
 | none=>none
def Py (d:D) (x y:Option (Ex×St)):Option (Ex×St) :=
 match d with
 | .bool b=>if b then x else y
 | _=>none
def ac7 (r:Option (Ex×St)) (k:St->Option (Ex×St)):Option (Ex×St) :=
 match r with
 | some (.normal,s)=>k s
 | r=>r
def RS (id:Nat) (r:Option (Ex×St)):Option (Ex×St) :=
 match r with
 | some (.exit n,s)=>if n=id then some (.normal,s) else some (.exit n,s)
 | r=>r
def fj (T:Nat->Option Ty) (Γ:Env) (N F:Nat):Code->St->Option (Ex×St)
 | .skip,s=>some (.normal,s)
 | .region _ ops draw,s=>vv T Γ N ops draw s
 | .seq a b,s=>ac7 (fj T Γ N F a s) (fj T Γ N F b)
 | .cond c x y,s=>Py (ev s.t c) (fj T Γ N F x s) (fj T Γ N F y s)
 | .block id b,s=>RS id (fj T Γ N F b s)
 | .loop b,s=>iter (fj T Γ N F b) F s
 | .exit id,s=>some (.exit id,s)
 | .ret,s=>some (.ret,s)
 | _,_=>none
def codeOk:Code->Bool
 | .region _ ops draw=>Xz ops&&(!draw||P6 ops)
 | .seq a b=>codeOk a&&codeOk b
 | .cond _ x y=>codeOk x&&codeOk y
 | .block _ b=>codeOk b
 | .loop b=>codeOk b
 | _=>true
section
variable {P:Program} {T:Nat->Option Ty} {N:Nat} {M:Nat->Prop} {L:iB} {w0:World} {blk:Nat->Option (Nat×Nat)} {t:Nat->D} {h:Nat->Option Row} {a:Act} {w:World} {e:Nat} {o:Oper} {Γ:Env} {ops:Array Oper}
theorem H3:∀ {l:List Nat},Kc l=true->l.Nodup
 | [],_=>List.nodup_nil
 | x::l,h=>by
  simp only[Kc,agt,agu,List.contains_eq_mem,decide_eq_false_iff_not]at h
  exact ahw.2 ⟨h.1,H3 h.2⟩
theorem Fm:∀ {l:List Oper} {done:List Nat},(l.filterMap (·.dst)).Nodup->(∀o∈l,∀d,o.dst=some d->d∉done)->∀o l',l=o::l'->(l'.filterMap (·.dst)).Nodup∧∀o'∈l',∀d,o'.dst=some d->d∉o.dst.toList++done:=by
 intro l done hn hd o l' he
 subst he
 cases ho:o.dst with
 | none =>
  rw[List.filterMap_cons_none ho]at hn
  exact⟨hn,fun o' ho' d hd'=>by simpa using hd o' (by simp[ho']) d hd'⟩
 | some x =>
  rw[List.filterMap_cons_some ho]at hn
  obtain⟨h1,h2⟩:=ahw.1 hn
  refine⟨h2,fun o' ho' d hd' hm =>?_⟩
  simp only[Option.toList_some,List.singleton_append,afY]at hm
  rcases hm with rfl|hm
  ·exact h1 (List.mem_filterMap.2 ⟨o',ho',hd'⟩)
  ·exact hd o' (by simp[ho']) d hd' hm
theorem wT (hT:gz P T) (hΓ:bA P Γ) {Q:Exit->Act->World->Prop} : ∀ {l:List Oper} {t t':Nat->D} {h h':Nat->Option Row} {fs:List ju} {a:Act} {w:World} {blk:Nat->Option (Nat×Nat)} {done:List Nat},
  zr T Γ N e ops l t h=some (t',h',fs)->(l.filterMap (·.dst)).Nodup->(∀o∈l,∀d,o.dst=some d->d∉done)->qD N M L w0 blk e done t h a w ->
  (∀a' w' blk' done,qD N M L w0 blk' e done t' h' a' w'->Q .normal a' w')->wpList P ops Q l a w
 | [],t,t',h,h',fs,a,w,blk,done,hr,_,_,hI,hQ=>by
  simp only[zr,af0,Prod.mk.injEq]at hr
  obtain⟨rfl,rfl,_⟩:=hr
  exact hQ a w blk done hI
 | o::l,t,t',h,h',fs,a,w,blk,done,hr,hn,hd,hI,hQ=>by
  simp only[zr]at hr
  split at hr
  ·rename_i t1 h1 f hs
   split at hr
   ·rename_i t2 h2 fs2 hr2
    simp only[af0,Prod.mk.injEq]at hr
    obtain⟨rfl,rfl,_⟩:=hr
    obtain⟨hn',hd'⟩:=Fm hn hd o l rfl
    have:=Kz (K:=wpList P ops Q l) (Q:=Q) hT hΓ hI hs (hd o (by simp)) (fun a' w' blk' hI'=>wT hT hΓ hr2 hn' hd' hI' hQ)
    unfold wpList
    exact this
   ·cases hr
  ·cases hr
theorem yy {F:Nat->ju} : ∀ {l:List Oper} {k:Nat} {t t':Nat->D} {h h':Nat->Option Row} {fs:List ju},zr T Γ N e ops l t h=some (t',h',fs)->(∀j,l[j]? = ops[k+j]?)->(∀j f,fs[j]? = some f->F (k+j)=f) ->
  fs.length=l.length∧PO T Γ N e ops F (List.range' k l.length) t h t' h'
 | [],k,t,t',h,h',fs,hr,_,_=>by
  simp only[zr,af0,Prod.mk.injEq]at hr
  obtain⟨rfl,rfl,rfl⟩:=hr
  exact⟨rfl,rfl,rfl⟩
 | o::l,k,t,t',h,h',fs,hr,hl,hF=>by
  simp only[zr]at hr
  split at hr
  ·rename_i t1 h1 f hs
   split at hr
   ·rename_i t2 h2 fs2 hr2
    simp only[af0,Prod.mk.injEq]at hr
    obtain⟨rfl,rfl,rfl⟩:=hr
    obtain⟨i1,i2⟩:=yy (k:=k+1) hr2 (fun j=>by have:=hl (j+1);simpa [agc,Nat.add_comm 1 j] using this) (fun j f' hj=>by have:=hF (j+1) f' (by simpa using hj);rwa [show k+(j+1)=k+1+j by omega]at this)
    refine⟨by simp[i1],o,t1,h1,by have:=hl 0;simpa using this.symm,?_,i2⟩
    have:=hF 0 f rfl
    rw[agr]at this
    rw[this]
    exact hs
   ·cases hr
  ·cases hr
def Holds (N:Nat) (M:Nat->Prop) (L:iB) (w0:World) (s:St) (a:Act) (w:World):Prop:=∃blk,qD N M L w0 blk s.e [] s.t s.h a w
theorem F0 (hT:gz P T) (hΓ:bA P Γ) (hm:P.follows .mixedOrders=true) {id:Nat} {draw:Bool} {s:St} {x:Ex} {s':St} {Q:Exit->Act->World->Prop} (hr:vv T Γ N ops draw s=some (x,s')) (hok:(Xz ops&&(!draw||P6 ops))=true)
  (hH:Holds N M L w0 s a w) (hQ:∀a' w',Holds N M L w0 s' a' w'->Q .normal a' w'):x=.normal∧(Code.region id ops draw).wp P Q a w:=by
 unfold vv at hr
 split at hr
 ·rename_i t h fs hrun
  split at hr
  ·rename_i hdyn
   simp only[af0,Prod.mk.injEq]at hr
   obtain⟨rfl,rfl⟩:=hr
   refine⟨rfl,?_⟩
   simp only[agt]at hok
   have hnd:(ops.toList.filterMap (·.dst)).Nodup:=H3 hok.1
   obtain⟨blk,hI⟩:=hH
   have hfin:∀a' w' blk' done,qD N M L w0 blk' s.e done t h a' w'->Q .normal a' w':=by
    intro a' w' blk' done hI'
    refine hQ a' w' ⟨blk',hI'.inv.weaken fun x v hx =>?_,fun x r ty s nv cs k1 k2 k3 k4 =>?_⟩
    ·rcases hx with⟨hn,hx|⟨hx,_⟩⟩|⟨hn,h2,h3,h4⟩
     ·exact .inl ⟨hn,.inl (by simp only;omega)⟩
     ·exact .inl ⟨hn,.inl (by simp only;omega)⟩
     ·exact .inr ⟨hn,by simp only;omega,fun _=>by simp only;omega,h4⟩
    ·have:=hI'.nv x r ty s nv cs k1 k2 k3 k4
     exact⟨by simp only;omega,fun _=>by simp only;omega⟩
   cases draw with
   | false =>
    apply wp_region_list
    exact wT hT hΓ hrun hnd (done:=[]) (fun o _ d _=>by simp) hI hfin
   | true =>
    simp only[ahk,agU]at hdyn hok
    apply wp_region_any hm
    have hdr:=hok.2
    simp only[P6,agt]at hdr
    let F:Nat->ju:=fun i=>fs.getD i ⟨[],true⟩
    obtain⟨hlen,hRun⟩:=yy (F:=F) (k:=0) hrun (fun j=>by simp) (fun j f hj=>by simp[F,List.getD,hj])
    have hedge:∀i o,ops[i]? = some o->∀d∈direct o,d<i:=by
     intro i o ho d hd
     have h1:=hdr.1
     rw[af2]at h1
     have hmem:(o,i)∈ops.toList.zipIdx:=by
      rw[List.mem_zipIdx_iff_getElem?]
      simpa using ho
     have:=h1 _ hmem
     rw[af2]at this
     simpa using this d hd
    have hdst:∀(i j:Nat) (oi oj:Oper) (d:Nat),ops[i]? = some oi->ops[j]? = some oj->oi.dst=some d->oj.dst=some d->i=j:=by
     have key:∀(l:List Oper),(l.filterMap (·.dst)).Nodup->∀(i j:Nat) (oi oj:Oper) (d:Nat),l[i]? = some oi->l[j]? = some oj->oi.dst=some d->oj.dst=some d->i=j:=by
      intro l
      induction l with
      | nil=>intro _ i j oi oj d hi;simp at hi
      | cons o l ih =>
       intro hn i j oi oj d hi hj hdi hdj
       have hn':(l.filterMap (·.dst)).Nodup:=by
        cases ho:o.dst with
        | none=>rw[List.filterMap_cons_none ho]at hn;exact hn
        | some x=>rw[List.filterMap_cons_some ho]at hn;exact (ahw.1 hn).2
       have hnot:∀(k:Nat) (ok:Oper),l[k]? = some ok->o.dst=some d->ok.dst=some d->False:=by
        intro k ok hk ho hkd
        rw[List.filterMap_cons_some ho]at hn
        exact (ahw.1 hn).1 (List.mem_filterMap.2 ⟨ok,agk hk,hkd⟩)
       cases i with
       | zero =>
        simp only[List.getElem?_cons_zero,af0]at hi
        subst hi
        cases j with
        | zero=>rfl
        | succ j=>exact (hnot j oj (by simpa using hj) hdi hdj).elim
       | succ i =>
        cases j with
        | zero =>
         simp only[List.getElem?_cons_zero,af0]at hj
         subst hj
         exact (hnot i oi (by simpa using hi) hdj hdi).elim
        | succ j=>rw[ih hn' i j oi oj d (by simpa using hi) (by simpa using hj) hdi hdj]
     intro i j oi oj d hi hj
     exact key ops.toList hnd i j oi oj d (by simpa using hi) (by simpa using hj)
    have hpairs:R9 ops F:=by
     intro j i hji hi
     by_cases hc:((SL ops).getD i 0).testBit j=true
     ·exact .inl (Xd hc)
     ·refine .inr ⟨fun oj oi hoj hoi =>?_,?_⟩
      ·have h2:=hdr.2
       rw[af2]at h2
       have:=h2 i (ahx.2 hi)
       rw[af2]at this
       have:=this j (ahx.2 hji)
       simp only[ahs]at this
       rcases this with h'|h'
       ·exact absurd h' hc
       ·simpa [Sj,hoj,hoi] using h'
      ·rw[CI,af2]at hdyn
       have hmem:(j,i)∈Ia ops:=by
        refine ahm.2 ⟨i,ahx.2 hi,afQ.2 ⟨j,ahu.2 ⟨ahx.2 hji,?_⟩,rfl⟩⟩
        simpa using hc
       have:=hdyn _ hmem
       have hi':i<fs.length:=by rw[hlen];simpa using hi
       have hj':j<fs.length:=by omega
       simp only[YJ,af4 hj',af4 hi']at this
       simp only[F,agv,af4 hj',af4 hi',Option.getD_some]
       exact this
    rw[agy,<- List.range_eq_range']at hRun
    have hrep:∀i,(Array.replicate ops.size false).getD i false=false:=by
     intro i
     by_cases hi:i<ops.size
     ·simp[Array.getD,hi]
     ·simp[Array.getD,hi]
    have hrept:∀i,(Array.replicate ops.size false).getD i true=false↔i<ops.size:=by
     intro i
     by_cases hi:i<ops.size
     ·simp[Array.getD,hi]
     ·simp[Array.getD,hi]
    exact Wi hT hΓ hpairs hedge hdst hfin ops.size (List.range ops.size) (Array.replicate ops.size false) s.t s.h a _ blk [] (by simp) (fun i=>by rw[hrept];exact ahx) List.pairwise_lt_range (fun i hi=>ahx.1 hi) (by simp)
     (fun i o _ hl=>by rw[hrep]at hl;cases hl) (fun d hd=>by simp at hd) hRun ⟨hI.inv.drew,hI.nv⟩
  ·cases hr
 ·cases hr
def C5:Ex->Exit
 | .normal =>.normal
 | .exit n =>.exit n
 | .ret =>.ret
theorem gT (hT:gz P T) (hΓ:bA P Γ) (hm:P.follows .mixedOrders=true) {F:Nat} : ∀(c:Code) (s:St) (x:Ex) (s':St) (Q:Exit->Act->World->Prop) (a:Act) (w:World),fj T Γ N F c s=some (x,s')->codeOk c=true->Holds N M L w0 s a w ->
  (∀a' w',Holds N M L w0 s' a' w'->Q (C5 x) a' w')->c.wp P Q a w:=by
 intro c
 induction c with
 | skip =>
  intro s x s' Q a w hr _ hH hQ
  simp only[fj,af0,Prod.mk.injEq]at hr
  obtain⟨rfl,rfl⟩:=hr
  exact wp_skip (hQ a w hH)
 | region id ops draw =>
  intro s x s' Q a w hr hok hH hQ
  simp only[fj]at hr
  have hx:x=.normal:=by
   unfold vv at hr
   split at hr
   ·split at hr
    ·simp only[af0,Prod.mk.injEq]at hr;exact hr.1.symm
    ·cases hr
   ·cases hr
  subst hx
  exact (F0 hT hΓ hm hr hok hH hQ).2
 | seq b c ihb ihc =>
  intro s x s' Q a w hr hok hH hQ
  simp only[codeOk,agt]at hok
  simp only[fj,ac7]at hr
  apply wp_seq
  split at hr
  ·rename_i s1 h1
   exact ihb s .normal s1 _ a w h1 hok.1 hH (fun a' w' hH'=>ihc s1 x s' Q a' w' hr hok.2 hH' hQ)
  ·rename_i r hne
   refine ihb s x s' _ a w hr hok.1 hH (fun a' w' hH' =>?_)
   cases x with
   | normal=>exact absurd hr (fun h=>hne s' h)
   | exit n=>exact hQ a' w' hH'
   | ret=>exact hQ a' w' hH'
 | cond c b d ihb ihd =>
  intro s x s' Q a w hr hok hH hQ
  simp only[codeOk,agt]at hok
  simp only[fj]at hr
  unfold Py at hr
  split at hr
  ·rename_i bb hb
   obtain⟨blk,hI⟩:=hH
   have hv:=hI.inv.ev c
   rw[hb]at hv
   refine wp_cond (t:=bb) (uk hv) ?_
   cases bb with
   | true=>exact ihb s x s' Q a w hr hok.1 ⟨blk,hI⟩ hQ
   | false=>exact ihd s x s' Q a w hr hok.2 ⟨blk,hI⟩ hQ
  ·cases hr
 | block id b ih =>
  intro s x s' Q a w hr hok hH hQ
  simp only[fj]at hr
  apply wp_block
  unfold RS at hr
  split at hr
  ·rename_i n s1 h1
   refine ih s (.exit n) s1 _ a w h1 hok hH (fun a' w' hH' =>?_)
   split at hr
   ·rename_i hn
    simp only[af0,Prod.mk.injEq]at hr
    obtain⟨rfl,rfl⟩:=hr
    simp only[C5,Exit.inBlock,hn,if_true]
    exact hQ a' w' hH'
   ·rename_i hn
    simp only[af0,Prod.mk.injEq]at hr
    obtain⟨rfl,rfl⟩:=hr
    simp only[C5,Exit.inBlock,hn,if_false]
    exact hQ a' w' hH'
  ·rename_i r hne
   refine ih s x s' _ a w hr hok hH (fun a' w' hH' =>?_)
   cases x with
   | normal=>exact hQ a' w' hH'
   | exit n=>exact absurd hr (fun h=>hne n s' h)
   | ret=>exact hQ a' w' hH'
 | loop b ih =>
  intro s x s' Q a w hr hok hH hQ
  simp only[fj]at hr
  refine wp_loop_ghost (fun n a w=>∃s,Holds N M L w0 s a w∧iter (fj T Γ N F b) n s=some (x,s')) F ⟨s,hH,hr⟩ ?_
  intro n a w ⟨s1,hH1,h1⟩
  cases n with
  | zero=>simp[iter]at h1
  | succ n =>
   simp only[iter]at h1
   split at h1
   ·rename_i s2 h2
    exact ih s1 .normal s2 _ a w h2 hok hH1 (fun a' w' hH'=>⟨n,by omega,s2,hH',h1⟩)
   ·rename_i r hne
    refine ih s1 x s' _ a w h1 hok hH1 (fun a' w' hH' =>?_)
    cases x with
    | normal=>exact absurd h1 (fun h=>hne s' h)
    | exit n=>exact hQ a' w' hH'
    | ret=>exact hQ a' w' hH'
 | exit id =>
  intro s x s' Q a w hr _ hH hQ
  simp only[fj,af0,Prod.mk.injEq]at hr
  obtain⟨rfl,rfl⟩:=hr
  exact wp_exit (hQ a w hH)
 | ret =>
  intro s x s' Q a w hr _ hH hQ
  simp only[fj,af0,Prod.mk.injEq]at hr
  obtain⟨rfl,rfl⟩:=hr
  exact wp_ret (hQ a w hH)
 | _=>intro s x s' Q a w hr;simp[fj]at hr
end
def OQ (T:Nat->Option Ty) (s:St):ResultVar->Option (D×List Nat)
 | .tmp i=>bE s.h (s.t i)
 | .cell i ty =>
  match T ty,s.t i with
  | some τ,.ptr x v o=>match di τ s.h (.ptr x v o) with|some E=>some (e8 E.val,[])|none=>none
  | _,_=>none
def rP (T:Nat->Option Ty) (s:St):List ResultVar->Option (List D×List Nat)
 | []=>some ([],[])
 | r::rs =>
  match OQ T s r with
  | some (d,fr)=>match rP T s rs with
   | some (ds,fr')=>some (d::ds,fr++fr')
   | none=>none
  | none=>none
def kh:List D->D
 | [d]=>d
 | ds =>.tup ds
inductive Mode where
 | clean|same|tight
 | fresh (ty s:Nat)
def bQ:Option (D×Row)->List D->St
 | none,args=>⟨fun i=>args.getD i .und,fun _=>none,0⟩
 | some (d0,r),args=>⟨fun i=>(d0::args).getD i .und,fun x=>if x=0 then some { r with v:=0 } else none,1⟩
def ja:Option (D×Row)->St->Option (Option Row)
 | none,_=>some none
 | some (_,r),s =>
  match s.h 0 with
  | some r1=>if r1.v=0∧r1.fz=false∧r1.ty=r.ty∧(r1.mp=r.mp∧pY r1=true) then some (some r1) else none
  | none=>none
def Yy:Option (D×Row)->List Nat->Bool
 | none,_=>true
 | some _,fr => !fr.contains 0
def n5 (T:Nat->Option Ty) (lent:Option (D×Row)) (rs:List ResultVar) (s:St):Option (RK×Option Row) :=
 match rP T s rs,ja lent s with
 | some (ds,fr),some o=>if Yy lent fr then some (.clean (kh ds),o) else none
 | _,_=>none
def BC (lent:Option (D×Row)) (rs:List ResultVar) (s:St):Option (RK×Option Row) :=
 match rs with
 | [.tmp i] =>
  match s.t i,ja lent s with
  | .buf 0 0 sz o n,some (some r)=>some (.same sz o n,some r)
  | _,_=>none
 | _=>none
def uC:D->Option (RK×Option Row)
 | .sl nl tg n xs=>some (.clean (.sl nl tg n xs),none)
 | _=>none
def C2 (lent:Option (D×Row)) (rs:List ResultVar) (s:St):Option (RK×Option Row) :=
 match lent,rs with
 | none,[.tmp i]=>uC (s.t i)
 | _,_=>none
def uB (ty s o n:Nat):Option Row->Option (RK×Option Row)
 | some r=>if r.fz=false∧r.ty=ty∧o+n*s<=r.cells.length then some (.fresh ty s n ((r.cells.drop o).take (n*s)),none) else none
 | none=>none
def lz (ty s:Nat) (h:Nat->Option Row):D->Option (RK×Option Row)
 | .buf x v sz o n=>if sz=s then uB ty s o n (live h x v) else none
 | .sl _ tg 0 _=>if tg=true then some (.fresh ty s 0 [],none) else none
 | _=>none
def pV (ty s:Nat) (rs:List ResultVar) (st:St):Option (RK×Option Row) :=
 match rs with
 | [.tmp i]=>lz ty s st.h (st.t i)
 | _=>none
def eR (mode:Mode) (T:Nat->Option Ty) (lent:Option (D×Row)) (rs:List ResultVar) (s:St):Option (RK×Option Row) :=
 match mode with
 | .clean=>n5 T lent rs s
 | .same=>BC lent rs s
 | .tight=>C2 lent rs s
 | .fresh ty sz=>pV ty sz rs s
def aW (mode:Mode) (T:Nat->Option Ty) (Γ:Env) (F:Nat) (fn:Func) (lent:Option (D×Row)) (args:List D):Option (RK×Option Row) :=
 match fn.body with
 | some c =>
  if fn.ntmps<=PK then
   match fj T Γ fn.ntmps F c (bQ lent args) with
   | some (.exit _,_)=>none
   | some (_,s)=>eR mode T lent fn.results.toList ⟨s.t,EH s.h,s.e⟩
   | none=>none
  else none
 | none=>none
def DZ:Option (D×Row)->Bool
 | none=>true
 | some (.buf 0 0 _ _ _,_)=>true
 | some (.ptr 0 0 _,_)=>true
 | some (.mp 0 0,_)=>true
 | _=>false
def DO:Option (D×Row)->List D->Nat
 | none,afM=>afM.length
 | some _,afM=>afM.length+1
section
variable {P:Program} {T:Nat->Option Ty} {N:Nat} {M:Nat->Prop} {L:iB} {w0:World} {blk:Nat->Option (Nat×Nat)} {a:Act} {w:World} {Γ:Env}
theorem Inv.abG {V:Nat->Nat->Prop} {t:Nat->D} {h:Nat->Option Row} (hI:Inv N M L w0 blk V t h a w) (fr:List Nat):mP M h blk fr M where
 le b hb := .inl hb
 no x hx r g hr hg hb:=hI.notM hr hg hb
def zp (tm:Array Value):ResultVar->Sem Value
 | .tmp t=>pure (tm.getD t undef)
 | .cell b t=>do loadVar t (<- asAddr (tm.getD b undef))
theorem EE (fn:Func) (tm:Array Value):results fn tm=(do
  let vs <- fn.results.mapM (zp tm)
  pure (if h:vs.size=1 then vs[0] else .tuple vs)):=by
 unfold results
 congr 1
theorem VZ (hT:gz P T) {M':Nat->Prop} {ty:Nat} {τ:Ty} {g c:Nat} {xs:List D} {d:D} (hτ:T ty=some τ) (hat:At w M' g c xs) (hl:xs.length=τ.size) (hd:iL τ xs=some d) :
  ∃u,(loadVar ty ⟨g,c,none⟩).run P w=.ok u w∧RP w M' d u:=by
 obtain⟨us,h1,h2,h3,h4⟩:=hat.aex
 have hone:τ.ds.nn=false->xs.length=1∧xs=[d]:=by
  intro hf
  simp only[iL,hf,ags,if_false]at hd
  split at hd
  ·simp only[af0]at hd;subst hd;exact⟨rfl,rfl⟩
  ·cases hd
 have hrun:=jk (hT ty τ hτ) w g c us (by rw[h1,hl]) h2 (fun hf=>by rw[h1];exact (hone hf).1)
 refine⟨_,hrun,?_⟩
 cases ha:τ.ds.nn with
 | true =>
  simp only[iL,ha,if_true,af0]at hd
  subst hd
  exact .agg xs us h1 h3 h4
 | false =>
  obtain⟨_,rfl⟩:=hone ha
  exact h3 0 d rfl
theorem YT (hT:gz P T) {M':Nat->Prop} {V:Nat->Nat->Prop} {s:St} (hI:Inv N M L w0 blk V s.t s.h a w) {r:ResultVar} {d:D} {fr:List Nat} (h1:OQ T s r=some (d,fr)) (hl:mP M s.h blk fr M'):∃u,(zp a.tmps r).run P w=.ok u w∧RP w M' d u:=by
 cases r with
 | tmp i =>
  simp only[OQ]at h1
  exact⟨a.tmps.getD i undef,rfl,hI.bE h1 hl (hI.slots i)⟩
 | cell i ty =>
  simp only[OQ]at h1
  split at h1
  ·rename_i τ x v o hτ hp
   split at h1
   ·rename_i E hE
    simp only[af0,Prod.mk.injEq]at h1
    obtain⟨rfl,_⟩:=h1
    have hsl:=hI.slots i
    rw[hp]at hsl
    simp only[di]at hE
    split at hE
    ·rename_i rr hlv
     obtain⟨hx,hv⟩:=bU hlv
     split at hE
     ·rename_i hle
      split at hE
      ·rename_i d' hd'
       simp only[af0]at hE
       subst hE
       obtain⟨g,hg,hpv⟩:=hsl.2 rr hx hv
       have hat:=((hI.rowAt hx hg (gi hlv)).drop o).take τ.size
       obtain⟨u,hu1,hu2⟩:=VZ hT hτ hat (by simp;omega) hd'
       refine⟨u,?_,(hu2.less fun b hb=>hl.le b hb).e8⟩
       simp only[zp,hpv,asAddr,agp,Sem.run_pure,Result.andThen_ok,hu1]
      ·cases hE
     ·cases hE
    ·cases hE
   ·cases h1
  ·cases h1
theorem O3 (hT:gz P T) {M':Nat->Prop} {V:Nat->Nat->Prop} {s:St} (hI:Inv N M L w0 blk V s.t s.h a w):∀(rs:List ResultVar) (ds:List D) (fr:List Nat),rP T s rs=some (ds,fr)->mP M s.h blk fr M' ->
  ∃us:List Value,(rs.mapM (zp a.tmps)).run P w=.ok us w∧us.length=ds.length∧∀j d,ds[j]? = some d->RP w M' d (us.getD j undef)
 | [],ds,fr,h,_=>by
  simp only[rP,af0,Prod.mk.injEq]at h
  obtain⟨rfl,_⟩:=h
  exact⟨[],by simp,rfl,fun j d hj=>by simp at hj⟩
 | r::rs,ds,fr,h,hl=>by
  simp only[rP]at h
  split at h
  ·rename_i d fr1 h1
   split at h
   ·rename_i ds2 fr2 h2
    simp only[af0,Prod.mk.injEq]at h
    obtain⟨rfl,rfl⟩:=h
    obtain⟨us,i1,i2,i3⟩:=O3 hT hI rs ds2 fr2 h2 hl.right
    obtain⟨u,hu1,hu2⟩:=YT (P:=P) hT hI h1 hl.left
    refine⟨u::us,?_,by simp[i2],fun j d hj =>?_⟩
    ·simp only[List.mapM_cons,agp,hu1,Result.andThen_ok,i1,Sem.run_pure]
    ·cases j with
     | zero=>simp only[List.getElem?_cons_zero,af0]at hj;subst hj;simpa using hu2
     | succ j=>simpa using i3 j d (by simpa using hj)
   ·cases h
  ·cases h
theorem pn (hT:gz P T) {M':Nat->Prop} {V:Nat->Nat->Prop} {s:St} (hI:Inv N M L w0 blk V s.t s.h a w) {fn:Func} {ds:List D} {fr:List Nat} (h:rP T s fn.results.toList=some (ds,fr)) (hl:mP M s.h blk fr M') :
  ∃v,(results fn a.tmps).run P w=.ok v w∧RP w M' (kh ds) v:=by
 obtain⟨us,i1,i2,i3⟩:=O3 (P:=P) hT hI _ ds fr h hl
 have hm:(fn.results.mapM (zp a.tmps)).run P w=.ok us.toArray w:=by
  rw[agK,Sem.run_map,i1]
  rfl
 rw[EE]
 simp only[agp,hm,Result.andThen_ok,Sem.run_pure]
 refine⟨_,rfl,?_⟩
 match us,ds,i2,i3 with
 | [u],[d],_,i3=>simpa [kh] using i3 0 d rfl
 | [],[],_,_=>exact .tup [] [] rfl (fun j x hj=>by simp at hj)
 | u1::u2::us,d1::d2::ds,i2,i3 =>
  have:¬(u1::u2::us).toArray.size=1:=by simp
  rw[dif_neg this]
  exact .tup _ _ (by simpa using i2) i3
theorem mz {fn:Func} {tm:Array Value} {i:Nat} (h:fn.results.toList=[.tmp i]):(results fn tm).run P w=.ok (tm.getD i undef) w:=by
 have he:fn.results = #[.tmp i]:=by rw[<- h]
 rw[EE,he]
 simp[zp]
theorem Inv.pV {V:Nat->Nat->Prop} {s:St} {ty0 s0:Nat} (hI:Inv N M L w0 blk V s.t s.h a w) {fn:Func} {rk:RK} {out:Option Row} (he:Am.pV ty0 s0 fn.results.toList s=some (rk,out)) :
  out=none∧∃v ty sz n cells,rk=.fresh ty sz n cells∧(results fn a.tmps).run P w=.ok v w∧sK w0 w M (LB L) v rk:=by
 unfold Am.pV at he
 split at he
 ·rename_i i hrs
  have hsl:=hI.slots i
  unfold lz at he
  split at he
  ·rename_i x v sz o n ht
   rw[ht]at hsl
   split at he
   ·rename_i hsz
    subst hsz
    unfold uB at he
    split at he
    ·rename_i r hlv
     split at he
     ·rename_i hcond
      obtain⟨hz,hty,hle⟩:=hcond
      simp only[af0,Prod.mk.injEq]at he
      obtain⟨rfl,rfl⟩:=he
      refine⟨rfl,a.tmps.getD i undef,_,_,_,_,rfl,mz hrs,?_⟩
      obtain⟨hx,hv⟩:=bU hlv
      have hol:((r.cells.drop o).take (n*sz)).length=n*sz:=by simp;omega
      rcases hI.xc hlv hsl with⟨g,o',c,cs,g0,g1,g2,g3,g4,g5,g7,g8⟩|⟨g0,rfl,g2,A,g3⟩
      ·by_cases hc:0<c∨o=0
       ·obtain⟨k1,k2⟩:=g5 hc
        subst k1
        refine .inl ⟨(g.1,g.2+o),c,cs,g1,(show w0.heap.size<=g.1∨LB L g.1 from hI.base hx g0),by rw[<- hty];exact g4,g2,g3,k2,by rw[hol];simp only;omega,fun j d hj =>?_⟩
        rw[b9]at hj
        split at hj
        ·rw[agc]
         refine⟨(g8 _ _ hj).1,(g8 _ _ hj).2.less fun b hb =>?_⟩
         rcases hb with hb|rfl
         ·exact .inl hb
         ·exact .inr ⟨x,r,g,hx,hz,g0,rfl⟩
        ·cases hj
       ·have hn:n=0:=by omega
        have hc0:c=0:=by omega
        subst hn hc0
        exact .inr ⟨rfl,by simp,_,g1⟩
      ·exact .inr ⟨rfl,by simp,A,g3⟩
     ·cases he
    ·cases he
   ·cases he
  ·rename_i nl tg xs ht
   rw[ht]at hsl
   split at he
   ·rename_i hnt
    simp only[af0,Prod.mk.injEq]at he
    obtain⟨rfl,rfl⟩:=he
    refine⟨rfl,a.tmps.getD i undef,_,_,_,_,rfl,mz hrs,.inr ⟨rfl,rfl,?_⟩⟩
    have hr:RP w (Own M s.h blk) (.sl nl tg 0 xs) (a.tmps.getD i undef):=hsl
    generalize a.tmps.getD i undef=u at *
    cases hr with
    | sl A c nl tight n xs us h1 h2 h3 h4 h5 h6 h7 h8 =>
     have hc:c=0:=by
      exact h5 hnt
     subst hc
     exact⟨A,rfl⟩
   ·cases he
  ·cases he
 ·cases he
theorem tS {args:List D} {vs:Array Value} {n i:Nat} (hs:vs.size=args.length):(vs++Array.replicate (n-vs.size) undef).getD i undef=vs.getD i undef∨args.getD i .und=.und:=by
 by_cases hi:i<args.length
 ·left
  have:i<vs.size:=by omega
  simp[afW,Array.getElem?_append_left this]
 ·right
  simp[List.getD,aht (ahy hi)]
theorem UK {h:Nat->Option Row} (hp:∀k r,h k=some r->k<2*PK∧pY r=true):EH h=h:=by
 funext k
 by_cases hk:k<2*PK
 ·rw[pO hk]
  cases hh:h k with
  | none=>rfl
  | some r =>
   simp only[Option.map_some,Bu]
   split
   ·rename_i hm
    obtain⟨ks,vs,hc⟩:=xQ (hp k r hh).2 hm
    cases r
    simp only at hc
    subst hc
    rfl
   ·rfl
 ·have h1:h k=none:=by
   cases hh:h k with
   | none=>rfl
   | some r=>exact absurd (hp k r hh).1 hk
  rw[h1]
  unfold EH
  rw[if_neg hk]
  cases hh:h (k % PK) with
  | none=>rfl
  | some r =>
   simp only[Option.bind_some,pf]
   split
   ·rename_i hm
    obtain⟨ks,vs,hc⟩:=xQ (hp _ r hh).2 hm
    rw[hc]
    rfl
   ·rfl
theorem BN {h:Nat->Option Row} (hp:∀k r,h k=some r->k<2*PK∧r.mp=false):EH h=h:=by
 funext k
 by_cases hk:k<2*PK
 ·rw[pO hk]
  cases hh:h k with
  | none=>rfl
  | some r =>
   simp only[Option.map_some,Bu,(hp k r hh).2]
   rfl
 ·have h1:h k=none:=by
   cases hh:h k with
   | none=>rfl
   | some r=>exact absurd (hp k r hh).1 hk
  rw[h1]
  unfold EH
  rw[if_neg hk]
  cases hh:h (k % PK) with
  | none=>rfl
  | some r =>
   simp only[Option.bind_some,pf,(hp _ r hh).2]
   rfl
theorem iT (hT:gz P T) (hΓ:bA P Γ) (hm:P.follows .mixedOrders=true) {mode:Mode} {f:FuncId} {fn:Func} {F:Nat} {lent:Option (D×Row)} {args:List D} {rk:RK} {out:Option Row} (hf:P.funcs[f]? = some fn)
  (hok:(match fn.body with|some c=>codeOk c|none=>true)=true) (hn:DO lent args<=fn.ntmps) (hlo:DZ lent=true)
  (hr:aW mode T Γ F fn lent args=some (rk,out)):pq P f lent args rk out:=by
 unfold aW at hr
 split at hr<;>try (cases hr;done)
 rename_i c hc
 rw[hc]at hok
 simp only at hok
 split at hr<;>try (cases hr;done)
 rename_i hbig
 split at hr<;>try (cases hr;done)
 rename_i x s hne hv
 cases lent with
 | none =>
  intro w M vs hM hargs
  have hI:Inv fn.ntmps M none w (fun _=>none) (fun x v=>x<fn.ntmps∧v<0) (bQ none args).t (bQ none args).h { tmps:=vs++Array.replicate (fn.ntmps-vs.size) undef,defers:=[] } w:={
   tab:=fun b hb=>(hargs.tab b hb).less fun b hb=>by
    rcases hb with hb|⟨x,r,g,hx,_⟩
    ·exact hb
    ·cases hx
   below:=dK.refl _ _
   mlt:=hM
   lent:=fun b hb=>absurd hb oL
   pin:=fun go hg=>by cases hg
   defers:=rfl
   tsz:=by have:=hargs.1;simp only[DO]at hn;simp;omega
   slots:=fun i=>by
    simp only[bQ]
    rcases tS (n:=fn.ntmps) (i:=i) hargs.1 with he|he
    ·rw[he]
     by_cases hi:i<args.length
     ·have h1:=hargs.2 i _ (af4 hi)
      have e1:args.getD i .und=args[i]:=by simp[List.getD,hi]
      rw[e1]
      exact bq (h1.less fun b hb=>by
       rcases hb with hb|⟨x,r,g,hx,_⟩
       ·exact hb
       ·cases hx)
     ·have e1:args.getD i .und=.und:=by simp[List.getD,aht (ahy hi)]
      rw[e1]
      trivial
    ·rw[he];trivial
   rows:=fun x r hx=>by cases hx
   inj:=fun x y r s g g' hx=>by cases hx
   big:=hbig
   pha:=fun y r g hy=>by cases hy
   ali:=fun y r g hy=>by cases hy }
  apply calls_of_wp hf hc
  refine gT hT hΓ hm c (bQ none args) x s _ _ _ hv hok ⟨_,⟨(by rw[BN (fun k r hk=>by cases hk)];exact hI.weaken fun x v hx=>absurd hx.2 (Nat.not_lt_zero _)),fun x r ty s nv cs hx=>by cases hx⟩⟩ (fun a' w' hH =>?_)
  obtain⟨blk',hIE⟩:=hH
  obtain⟨sE,hsE⟩:∃sE:St,sE=⟨s.t,EH s.h,s.e⟩:=⟨_,rfl⟩
  have hI':Inv fn.ntmps M none w blk' (VE fn.ntmps s.e [] s.h) sE.t sE.h a' w':=by rw[hsE];exact hIE.inv
  rw[<- hsE]at hr
  have hbel:Below w.heap.size w w':=hI'.below.below (fun b hb=>absurd hb oL)
  have hpost:a'.defers=[]∧∃v,(results fn a'.tmps).run P w'=.ok v w'∧(∃v',Ending.returned v=.returned v'∧Below w.heap.size w w'∧sK w w' M (fun _=>False) v' rk):=by
   refine⟨hI'.defers,?_⟩
   cases mode with
   | clean =>
    simp only[eR,n5,ja]at hr
    split at hr<;>try (cases hr;done)
    rename_i ds fr o hres ho
    split at hr<;>try (cases hr;done)
    simp only[af0,Prod.mk.injEq]at hr
    obtain⟨rfl,_⟩:=hr
    obtain⟨v,hv1,hv2⟩:=pn (P:=P) hT hI' hres (hI'.abG fr)
    exact⟨v,hv1,v,rfl,hbel,hv2⟩
   | same =>
    simp only[eR,BC,ja]at hr
    split at hr<;>try (cases hr;done)
    split at hr
    ·rename_i hq;cases hq
    ·cases hr
   | tight =>
    simp only[eR,C2]at hr
    split at hr<;>try (cases hr;done)
    rename_i i _ hrs
    have hsl:=hI'.slots i
    generalize sE.t i=dd at *
    unfold uC at hr
    split at hr<;>try (cases hr;done)
    rename_i nl tg n xs
    simp only[af0,Prod.mk.injEq]at hr
    obtain⟨rfl,_⟩:=hr
    have hsl':RP w' (Own M sE.h blk') (.sl nl tg n xs) (a'.tmps.getD i undef):=hsl
    exact⟨a'.tmps.getD i undef,mz hrs,_,rfl,hbel,hsl'.less fun b hb =>.inl hb⟩
   | fresh ty0 s0 =>
    obtain⟨rfl,v,ty,sz,n,cells,rfl,hv1,hv2⟩:=hI'.pV (P:=P) hr
    refine⟨v,hv1,v,rfl,hbel,?_⟩
    rcases hv2 with⟨g,k1,cs,k2,k3,k4⟩|hv2
    ·exact .inl ⟨g,k1,cs,k2,k3.imp id (fun hb=>absurd hb oL),k4⟩
    ·exact .inr hv2
  cases x with
  | normal=>exact hpost
  | ret=>exact hpost
  | exit n=>exact (hne n rfl).elim
 | some p =>
  obtain⟨d0,r⟩:=p
  intro w M go u0 vs hM hgoM hz hmp hrow hlv hargs
  have hown:∀b,Own M (bQ (some (d0,r)) args).h (fun x=>if x=0 then go else none) b↔(M b∨ss go b):=by
   intro b
   constructor
   ·rintro (hb|⟨x,r',g,hx,_,hg,he⟩)
    ·exact .inl hb
    ·simp only[bQ]at hx
     split at hx
     ·rename_i h0
      subst h0
      simp only[if_true]at hg
      exact .inr ⟨g,hg,he.symm⟩
     ·cases hx
   ·rintro (hb|⟨g,hg,he⟩)
    ·exact .inl hb
    ·exact .inr ⟨0,{ r with v:=0 },g,rfl,hz,by simpa using hg,he.symm⟩
  have hI:Inv fn.ntmps M (JZ go) w (fun x=>if x=0 then go else none) (fun x v=>x<fn.ntmps∧v<1) (bQ (some (d0,r)) args).t (bQ (some (d0,r)) args).h { tmps:=(#[u0]++vs)++Array.replicate (fn.ntmps-(#[u0]++vs).size) undef,defers:=[] } w:={
   tab:=fun b hb=>(hargs.tab b hb).less fun b hb=>(hown b).1 hb
   below:=dK.refl _ _
   mlt:=hM
   lent:=fun b hb=>hgoM b (Ji.1 hb)
   pin:=fun go' hg=>by
    cases hg
    exact⟨⟨by simp only[DO]at hn;omega,ahz⟩,fun r' _ _=>⟨rfl,fun g _=>rfl⟩⟩
   defers:=rfl
   tsz:=by have:=hargs.1;simp only[DO]at hn;simp;omega
   slots:=fun i=>by
    simp only[bQ]
    rcases tS (args:=d0::args) (vs:=#[u0]++vs) (n:=fn.ntmps) (i:=i) (by simp[hargs.1];omega) with he|he
    ·rw[he]
     cases i with
     | zero =>
      have e1:(#[u0]++vs).getD 0 undef=u0:=by simp[Array.getElem?_append]
      rw[e1]
      simp only[agW]
      cases d0 with
      | buf x v sz o n =>
       have hxv:x=0∧v=0:=by
        simp only[DZ]at hlo
        split at hlo<;>simp_all
       obtain⟨rfl,rfl⟩:=hxv
       exact⟨⟨by simp only[DO]at hn;omega,ahz⟩,fun r' h1 h2=>by simpa using hlv.2 ⟨0,0,[],false,false,false⟩ rfl rfl⟩
      | ptr x v o =>
       have hxv:x=0∧v=0:=by
        simp only[DZ]at hlo
        split at hlo<;>simp_all
       obtain⟨rfl,rfl⟩:=hxv
       exact⟨⟨by simp only[DO]at hn;omega,ahz⟩,fun r' h1 h2=>by simpa using hlv.2 ⟨0,0,[],false,false,false⟩ rfl rfl⟩
      | mp x v =>
       have hxv:x=0∧v=0:=by
        simp only[DZ]at hlo
        split at hlo<;>simp_all
       obtain⟨rfl,rfl⟩:=hxv
       exact⟨⟨by simp only[DO]at hn;omega,ahz⟩,fun r' h1 h2=>by simpa using hlv.2 ⟨0,0,[],false,false,false⟩ rfl rfl⟩
      | _=>simp[DZ]at hlo
     | succ i =>
      have e1:(#[u0]++vs).getD (i+1) undef=vs.getD i undef:=by
       simp only[afW]
       rw[Array.getElem?_append_right (by simp)]
       simp
      rw[e1]
      simp only[agX]
      by_cases hi:i<args.length
      ·have h1:=hargs.2 i _ (af4 hi)
       have e1:args.getD i .und=args[i]:=by simp[List.getD,hi]
       rw[e1]
       exact bq (h1.less fun b hb=>(hown b).1 hb)
      ·have e1:args.getD i .und=.und:=by simp[List.getD,aht (ahy hi)]
       rw[e1]
       trivial
    ·rw[he];trivial
   rows:=fun x r' hx=>by
    simp only[bQ]at hx
    split at hx
    ·rename_i h0
     subst h0
     simp only[af0]at hx
     subst hx
     refine⟨fun hn=>⟨hn,ahz⟩,?_⟩
     simp only[if_true]
     cases go with
     | none=>exact hrow
     | some g =>
      exact⟨.inr (Ji.2 ⟨g,rfl,rfl⟩),dw.keep (r':={ r with v:=0 }) hrow rfl rfl rfl rfl (fun b h1 h2=>⟨h1,fun hb=>h2 ((hown b).1 hb),rfl⟩)⟩
    ·cases hx
   inj:=fun x y r1 r2 g g' hx hy _ _ _=>by
    simp only[bQ]at hx hy
    split at hx
    ·split at hy
     ·omega
     ·cases hy
    ·cases hx
   big:=hbig
   pha:=fun y r1 g hy hm _ j x s n hj=>by
    simp only[bQ]at hy
    split at hy
    ·simp only[af0]at hy
     subst hy
     obtain⟨ks,vs',hc⟩:=xQ hmp hm
     rw[show ({ r with v:=0 } : Row).cells=r.cells from rfl,hc]at hj
     cases j<;>simp at hj
    ·cases hy
   ali:=fun y r1 g hy hz1=>by
    simp only[bQ]at hy
    split at hy
    ·simp only[af0]at hy
     subst hy
     simp_all
    ·cases hy }
  have hplain:EH (bQ (some (d0,r)) args).h=(bQ (some (d0,r)) args).h:=by
   refine UK fun k r' hk =>?_
   simp only[bQ]at hk
   split at hk
   ·rename_i h0
    subst h0
    simp only[af0]at hk
    subst hk
    exact⟨(by have:=bZ;omega),by simpa [pY] using hmp⟩
   ·cases hk
  have hnv0:Fg (bQ (some (d0,r)) args).e [] (bQ (some (d0,r)) args).h:=by
   intro x r' ty s nv cs hx hm'
   simp only[bQ]at hx
   split at hx
   ·simp only[af0]at hx
    subst hx
    intro hc'
    obtain⟨ks,vs',hc⟩:=xQ hmp hm'
    rw[show ({ r with v:=0 } : Row).cells=r.cells from rfl,hc]at hc'
    cases hc'
   ·cases hx
  apply calls_of_wp hf hc
  refine gT hT hΓ hm c (bQ (some (d0,r)) args) x s _ _ _ hv hok ⟨_,⟨(by rw[hplain];exact hI.weaken fun x v hx =>.inl ⟨hx.1,.inl hx.2⟩),hnv0⟩⟩ (fun a' w' hH =>?_)
  obtain⟨blk',hIE⟩:=hH
  obtain⟨sE,hsE⟩:∃sE:St,sE=⟨s.t,EH s.h,s.e⟩:=⟨_,rfl⟩
  have hI':Inv fn.ntmps M (JZ go) w blk' (VE fn.ntmps s.e [] s.h) sE.t sE.h a' w':=by rw[hsE];exact hIE.inv
  rw[<- hsE]at hr
  have hbel:dK (ss go) w w':=⟨hI'.below.os,hI'.below.tape,hI'.below.output,hI'.below.size,fun k hk hn=>hI'.below.block k hk (fun hb=>hn (Ji.1 hb))⟩
  have hlast:∀r1,ja (some (d0,r)) sE=some (some r1)->sE.h 0=some r1∧r1.v=0∧r1.fz=false∧(r1.ty=r.ty∧(r1.mp=r.mp∧pY r1=true))∧blk' 0=go∧(∀g,go=some g->w'.shape? g.1=w.shape? g.1)∧(∀b,(M b∨ss go b)->Own M sE.h blk' b):=by
   intro r1 hl
   simp only[ja]at hl
   split at hl<;>try (cases hl;done)
   rename_i r2 h2
   split at hl<;>try (cases hl;done)
   rename_i hcond
   simp only[af0]at hl
   subst hl
   obtain⟨c1,c2,c3⟩:=hcond
   obtain⟨_,k2⟩:=hI'.pin _ rfl
   obtain⟨k3,k4⟩:=k2 r2 h2 c1
   refine⟨h2,c1,c2,c3,k3,k4,?_⟩
   rintro b (hb|⟨g,hg,he⟩)
   ·exact .inl hb
   ·exact .inr ⟨0,r2,g,h2,c2,k3.trans hg,he.symm⟩
  have hrowin:∀r1,ja (some (d0,r)) sE=some (some r1)->Sb w' (fun b=>M b∨ss go b) go r1:=by
   intro r1 hl
   obtain⟨h1,_,_,h4,h5,_,h7⟩:=hlast r1 hl
   have:=(hI'.rows 0 r1 h1).2
   rw[h5]at this
   cases go with
   | none=>exact this
   | some g =>
    exact dw.keep this.2 rfl rfl rfl rfl (fun b h1 h2=>⟨h1,fun hb=>h2 (h7 b hb),rfl⟩)
  have hpost:a'.defers=[]∧∃v,(results fn a'.tmps).run P w'=.ok v w'∧(∃v',Ending.returned v=.returned v'∧dK (ss go) w w'∧abe w w' M go r out∧abg w w' M go v' rk):=by
   refine⟨hI'.defers,?_⟩
   cases mode with
   | clean =>
    simp only[eR,n5]at hr
    split at hr<;>try (cases hr;done)
    rename_i ds fr o hres ho
    split at hr<;>try (cases hr;done)
    rename_i hfr
    simp only[Yy,agu,List.contains_eq_mem,decide_eq_false_iff_not]at hfr
    simp only[af0,Prod.mk.injEq]at hr
    obtain⟨rfl,rfl⟩:=hr
    cases o with
    | none =>
     simp only[ja]at ho
     split at ho<;>try (cases ho;done)
     split at ho<;>cases ho
    | some r1 =>
     obtain⟨h1,h2,h3,h4,h5,h6,h7⟩:=hlast r1 ho
     have hless:mP M sE.h blk' fr (fun b=>M b∨ss go b):=by
      refine⟨h7,fun x hx r' g hx' hg hb =>?_⟩
      rcases hb with hb|⟨g',hg',he⟩
      ·exact hI'.notM hx' hg hb
      ·have:x=0:=hI'.inj x 0 r' r1 g g' hx' h1 hg (h5.trans hg') he
       subst this
       exact hfr hx
     obtain⟨v,hv1,hv2⟩:=pn (P:=P) hT hI' hres hless
     exact⟨v,hv1,v,rfl,hbel,⟨h4.1,h3,h4.2,h6,hrowin r1 ho⟩,hv2⟩
   | same =>
    simp only[eR,BC]at hr
    split at hr<;>try (cases hr;done)
    rename_i i hrs
    split at hr<;>try (cases hr;done)
    rename_i sz o n r1 ht ho
    simp only[af0,Prod.mk.injEq]at hr
    obtain⟨rfl,rfl⟩:=hr
    obtain⟨h1,h2,h3,h4,h5,h6,h7⟩:=hlast r1 ho
    refine⟨a'.tmps.getD i undef,mz hrs,_,rfl,hbel,⟨h4.1,h3,h4.2,h6,hrowin r1 ho⟩,?_⟩
    have hsl:=hI'.slots i
    rw[ht]at hsl
    refine⟨trivial,fun r' _ _ =>?_⟩
    have:=hsl.2 r1 h1 h2
    rw[h5]at this
    exact this
   | tight =>
    simp only[eR,C2]at hr
    cases hr
   | fresh ty0 s0 =>
    obtain⟨rfl,v,ty,sz,n,cells,rfl,hv1,hv2⟩:=hI'.pV (P:=P) hr
    refine⟨v,hv1,v,rfl,hbel,trivial,?_⟩
    rcases hv2 with⟨g,k1,cs,k2,k3,k4⟩|hv2
    ·exact .inl ⟨g,k1,cs,k2,k3.imp id (fun hb=>Ji.1 hb),k4⟩
    ·exact .inr hv2
  cases x with
  | normal=>exact hpost
  | ret=>exact hpost
  | exit n=>exact (hne n rfl).elim
def ext (Γ:Env) (f:Nat) (l:Bool) (G:Option (D×Row)->List D->Option (RK×Option Row)):Env:=⟨fun g=>if g=f then l else Γ.lends g,fun g lent afM=>if g=f then G lent afM else Γ.sem g lent afM,Γ.own,Γ.hint,Γ.ins,Γ.grw,Γ.nst,Γ.nx⟩
theorem bA.ext (hΓ:bA P Γ) {f:Nat} {l:Bool} {G:Option (D×Row)->List D->Option (RK×Option Row)} (hG:∀lent afM rk out,G lent afM=some (rk,out)->pq P f lent afM rk out) (hc:dz P f):bA P (Am.ext Γ f l G):=by
 refine⟨fun g lent afM rk out h =>?_,hΓ.ins,hΓ.grw,hΓ.lnd,hΓ.res⟩
 simp only[Am.ext]at h
 split at h
 ·rename_i he;subst he;exact⟨hG lent afM rk out h,hc⟩
 ·exact hΓ.calls g lent afM rk out h
def a7:Env:=⟨fun _=>false,fun _ _ _=>none,fun _=>true,fun _=>none,fun _=>none,fun _=>none,fun _=>none,{}⟩
theorem bA.none:bA P a7:=⟨fun f lent args rk out h=>(by cases h),fun f p h=>(by cases h),fun f p h=>(by cases h),fun f p h=>(by cases h),fun f p h=>(by cases h)⟩
def keep (d:Nat) (Γ:Env):Env:=⟨Γ.lends,Γ.sem,fun i=>i != d&&Γ.own i,Γ.hint,Γ.ins,Γ.grw,Γ.nst,Γ.nx⟩
theorem bA.keep (hΓ:bA P Γ) (d:Nat):bA P (Am.keep d Γ):=⟨hΓ.calls,hΓ.ins,hΓ.grw,hΓ.lnd,hΓ.res⟩
def vV (d y:Nat) (Γ:Env):Env:=⟨Γ.lends,Γ.sem,Γ.own,fun i=>if i=d then some y else Γ.hint i,Γ.ins,Γ.grw,Γ.nst,Γ.nx⟩
theorem bA.vV (hΓ:bA P Γ) (d y:Nat):bA P (Am.vV d y Γ):=⟨hΓ.calls,hΓ.ins,hΓ.grw,hΓ.lnd,hΓ.res⟩
def Dr (f:Nat) (p:Nat×Nat×Nat) (Γ:Env):Env:=⟨Γ.lends,Γ.sem,Γ.own,Γ.hint,fun g=>if g=f then some p else Γ.ins g,Γ.grw,Γ.nst,Γ.nx⟩
theorem bA.Dr (hΓ:bA P Γ) {f:Nat} {p:Nat×Nat×Nat} (hi:ab0 P f p):bA P (Am.Dr f p Γ):=⟨hΓ.calls,fun g q h=>by
 simp only[Am.Dr]at h
 split at h
 ·rename_i he;subst he;cases h;exact hi
 ·exact hΓ.ins g q h,hΓ.grw,hΓ.lnd,hΓ.res⟩
def vE (d:Nat) (p:Nat×Nat×Nat) (Γ:Env):Env:=⟨Γ.lends,Γ.sem,Γ.own,Γ.hint,Γ.ins,Γ.grw,fun i=>if i=d then some p else Γ.nst i,Γ.nx⟩
theorem bA.vE (hΓ:bA P Γ) (d:Nat) (p:Nat×Nat×Nat):bA P (Am.vE d p Γ):=⟨hΓ.calls,hΓ.ins,hΓ.grw,hΓ.lnd,hΓ.res⟩
def Bg (f:Nat) (p:Nat×(Nat->Nat->Nat->Nat->List D->List D->Option (D×List D))) (Γ:Env):Env:=⟨Γ.lends,Γ.sem,Γ.own,Γ.hint,Γ.ins,Γ.grw,Γ.nst,⟨fun g=>if g=f then some p else Γ.nx.lnd g,Γ.nx.res⟩⟩
theorem bA.Bg (hΓ:bA P Γ) {f:Nat} {p:Nat×(Nat->Nat->Nat->Nat->List D->List D->Option (D×List D))} (hc:dz P f) (hi:∀ty t s o cs args d cs',p.2 ty t s o cs args=some (d,cs')->Jg P f ty t s o cs args d cs'):bA P (Am.Bg f p Γ):=⟨hΓ.calls,hΓ.ins,hΓ.grw,fun g q h=>by
 simp only[Am.Bg]at h
 split at h
 ·rename_i he;subst he;cases h;exact⟨hc,hi⟩
 ·exact hΓ.lnd g q h,hΓ.res⟩
def Bj (f:Nat) (p:List D->Option (Nat×Nat×Nat×Nat×Nat×List D)) (Γ:Env):Env:=⟨Γ.lends,Γ.sem,Γ.own,Γ.hint,Γ.ins,Γ.grw,Γ.nst,⟨Γ.nx.lnd,fun g=>if g=f then some p else Γ.nx.res g⟩⟩
theorem bA.Bj (hΓ:bA P Γ) {f:Nat} {p:List D->Option (Nat×Nat×Nat×Nat×Nat×List D)} (hc:dz P f) (hi:∀args ty t s S n cs,p args=some (ty,t,s,S,n,cs)->Jf P f args ty t s S n cs):bA P (Am.Bj f p Γ):=⟨hΓ.calls,hΓ.ins,hΓ.grw,hΓ.lnd,fun g q h=>by
 simp only[Am.Bj]at h
 split at h
 ·rename_i he;subst he;cases h;exact⟨hc,hi⟩
 ·exact hΓ.res g q h⟩
def Dk (f:Nat) (p:Grow) (Γ:Env):Env:=⟨Γ.lends,Γ.sem,Γ.own,Γ.hint,Γ.ins,fun g=>if g=f then some p else Γ.grw g,Γ.nst,Γ.nx⟩
theorem bA.Dk (hΓ:bA P Γ) {f:Nat} {p:Grow} (hi:Wr P f p):bA P (Am.Dk f p Γ):=⟨hΓ.calls,hΓ.ins,fun g q h=>by
 simp only[Am.Dk]at h
 split at h
 ·rename_i he;subst he;cases h;exact hi
 ·exact hΓ.grw g q h,hΓ.lnd,hΓ.res⟩
end
def pM (ty t s o:Nat) (cs args:List D):St:=⟨fun i=>(.ptr 0 0 o::args).getD i .und,lH (ic ty t s 0 cs),1⟩
def XH (t s:Nat) (ds:List D):List D->Option (D×List D)
 | [.nr t' s' _ cs']=>if t'=t∧s'=s then some (kh ds,cs') else none
 | _=>none
def Mk (ty t s:Nat):Option (List D×List Nat)->Option Row->Option (D×List D)
 | some (ds,fr),some r=>if r.v=0∧r.fz=false∧r.ty=ty∧r.mp=true∧fr.all (fun k=>rt k != 0)=true then XH t s ds r.cells else none
 | _,_=>none
def U5 (T:Nat->Option Ty) (ty t s:Nat) (rs:List ResultVar) (st:St):Option (D×List D):=Mk ty t s (rP T ⟨st.t,EH st.h,st.e⟩ rs) (st.h 0)
def RV (T:Nat->Option Ty) (Γ:Env) (F:Nat) (fn:Func) (ty t s o:Nat) (cs args:List D):Option (D×List D) :=
 match fn.body with
 | some c =>
  if fn.ntmps<=PK then
   match fj T Γ fn.ntmps F c (pM ty t s o cs args) with
   | some (.exit _,_)=>none
   | some (_,st)=>U5 T ty t s fn.results.toList st
   | none=>none
  else none
 | none=>none
def XG (x S n:Nat) (ty:Nat):List D->Option (Nat×Nat×Nat×Nat×Nat×List D)
 | [.nr t s _ cs]=>if x<PK then some (ty,t,s,S,n,cs) else none
 | _=>none
def Mi (x v S n:Nat):Option Row->Option (Nat×Nat×Nat×Nat×Nat×List D)
 | some r=>if r.v=v∧r.fz=false∧r.mp=true then XG x S n r.ty r.cells else none
 | none=>none
def SZ (h:Nat->Option Row):D->Option (Nat×Nat×Nat×Nat×Nat×List D)
 | .buf x v S 0 n=>Mi x v S n (h x)
 | _=>none
def U4 (rs:List ResultVar) (st:St):Option (Nat×Nat×Nat×Nat×Nat×List D) :=
 match rs with
 | [.tmp i]=>SZ st.h (st.t i)
 | _=>none
def KJ (T:Nat->Option Ty) (Γ:Env) (F:Nat) (fn:Func) (args:List D):Option (Nat×Nat×Nat×Nat×Nat×List D) :=
 match fn.body with
 | some c =>
  if fn.ntmps<=PK then
   match fj T Γ fn.ntmps F c (bQ none args) with
   | some (.exit _,_)=>none
   | some (_,st)=>U4 fn.results.toList st
   | none=>none
  else none
 | none=>none
section
variable {P:Program} {T:Nat->Option Ty} {N:Nat} {M:Nat->Prop} {L:iB} {w0:World} {blk:Nat->Option (Nat×Nat)} {a:Act} {w:World} {Γ:Env}
theorem KL (hT:gz P T) (hΓ:bA P Γ) (hm:P.follows .mixedOrders=true) {f:FuncId} {fn:Func} {F:Nat} {ty t s o:Nat} {cs args cs':List D} {d:D} (hf:P.funcs[f]? = some fn)
  (hok:(match fn.body with|some c=>codeOk c|none=>true)=true) (hn:args.length+1<=fn.ntmps)
  (hr:RV T Γ F fn ty t s o cs args=some (d,cs')):Jg P f ty t s o cs args d cs':=by
 unfold RV at hr
 split at hr<;>try (cases hr;done)
 rename_i c hc
 rw[hc]at hok
 simp only at hok
 split at hr<;>try (cases hr;done)
 rename_i hbig
 split at hr<;>try (cases hr;done)
 rename_i x st hne hv
 intro w M blk h0 h1 g0 vs hh0 hh1 hM hdis hg0 hR hargs
 have hpk:=bZ
 have hfz:∀k r,h0 k=some r->r.fz=false:=by
  intro k r hk
  rw[hh0]at hk
  rcases gX hk with⟨_,rfl⟩|⟨_,_,_,_,_,rfl⟩<;>rfl
 have hown:∀b,Own M h0 blk b↔(M b∨uj blk h0 b):=by
  intro b
  constructor
  ·rintro (hb|⟨k,r,g,h1,_,h2,h3⟩)
   ·exact .inl hb
   ·exact .inr ⟨k,r,g,h1,h2,h3⟩
  ·rintro (hb|⟨k,r,g,h1,h2,h3⟩)
   ·exact .inl hb
   ·exact .inr ⟨k,r,g,h1,hfz k r h1,h2,h3⟩
 have hrow0:h0 0=some ⟨0,ty,cs.mapIdx (oI 0 s),false,true,true⟩:=by rw[hh0];exact tP
 obtain⟨LL,hLL⟩:∃LL:iB,LL=some (some g0,uj blk h0):=⟨_,rfl⟩
 have hLB:∀b,LB LL b↔uj blk h0 b:=by
  intro b
  subst hLL
  constructor
  ·rintro⟨p,hp,h⟩
   cases hp
   rcases h with⟨g,hg,rfl⟩|h
   ·cases hg;exact⟨0,_,g0,hrow0,hg0,rfl⟩
   ·exact h
  ·exact fun h=>⟨_,rfl,.inr h⟩
 have hI:Inv fn.ntmps M LL w blk (fun x v=>x<fn.ntmps∧v<1) (pM ty t s o cs args).t h0 { tmps:=(#[Value.pointer (some ⟨g0.1,g0.2+o,none⟩)]++vs)++Array.replicate (fn.ntmps-(#[Value.pointer (some ⟨g0.1,g0.2+o,none⟩)]++vs).size) undef,defers:=[] } w:={
  tab:=fun b hb=>(hargs.tab b hb).less fun b hb=>(hown b).1 hb
  below:=dK.refl _ _
  mlt:=hM
  lent:=fun b hb=>hdis b ((hLB b).1 hb)
  pin:=fun p hp=>by
   subst hLL
   cases hp
   exact⟨⟨by omega,ahz⟩,fun r' _ _=>⟨hg0,fun g _=>rfl⟩⟩
  defers:=rfl
  tsz:=by have:=hargs.1;simp;omega
  slots:=fun i=>by
   simp only[pM]
   rcases tS (args := .ptr 0 0 o::args) (vs:=#[.pointer (some ⟨g0.1,g0.2+o,none⟩)]++vs) (n:=fn.ntmps) (i:=i) (by simp[hargs.1];omega) with he|he
   ·rw[he]
    cases i with
    | zero =>
     have e1:(#[Value.pointer (some ⟨g0.1,g0.2+o,none⟩)]++vs).getD 0 undef=.pointer (some ⟨g0.1,g0.2+o,none⟩):=by simp[Array.getElem?_append]
     rw[e1]
     simp only[agW]
     exact⟨⟨by omega,ahz⟩,fun r' _ _=>⟨g0,hg0,rfl⟩⟩
    | succ i =>
     have e1:(#[Value.pointer (some ⟨g0.1,g0.2+o,none⟩)]++vs).getD (i+1) undef=vs.getD i undef:=by
      simp only[afW]
      rw[Array.getElem?_append_right (by simp)]
      simp
     rw[e1]
     simp only[agX]
     by_cases hi:i<args.length
     ·have h1:=hargs.2 i _ (af4 hi)
      have e1:args.getD i .und=args[i]:=by simp[List.getD,hi]
      rw[e1]
      exact bq (h1.less fun b hb=>(hown b).1 hb)
     ·have e1:args.getD i .und=.und:=by simp[List.getD,aht (ahy hi)]
      rw[e1]
      trivial
   ·rw[he];trivial
  rows:=fun k r hk=>by
   refine⟨fun hn =>?_,?_⟩
   ·rw[hh0]at hk
    rcases gX hk with⟨rfl,rfl⟩|⟨o',_,_,rfl,_,rfl⟩
    ·exact⟨hn,ahz⟩
    ·have:=dX 0 o';omega
   ·have:=hR.rows k r hk
    cases hg:blk k with
    | none=>rw[hg]at this;exact this
    | some g =>
     rw[hg]at this
     exact⟨.inr ((hLB g.1).2 ⟨k,r,g,hk,hg,rfl⟩),this.keep rfl rfl rfl rfl fun b q1 q2=>⟨q1,fun hb=>q2 ((hown b).1 hb),rfl⟩⟩
  inj:=hR.inj
  big:=hbig
  pha:=hR.pha
  ali:=fun y r g hy hz=>by rw[hfz y r hy]at hz;cases hz }
 have hnv0:Fg (pM ty t s o cs args).e [] (pM ty t s o cs args).h:=by
  intro k r' ty' s' nv' cs1 hx hm' hcc
  simp only[pM,lH]at hx
  split at hx
  ·simp only[af0]at hx
   subst hx
   simp only[ic,agf,D.nr.injEq,and_true]at hcc
   obtain⟨_,_,rfl,_⟩:=hcc
   exact fun _=>⟨by simp[pM],fun _=>by simp[pM]⟩
  ·cases hx
 have hEH:EH (pM ty t s o cs args).h=h0:=hh0.symm
 apply calls_of_wp hf hc
 refine gT hT hΓ hm c (pM ty t s o cs args) x st _ _ _ hv hok ⟨_,⟨(by rw[hEH];exact hI.weaken fun x v hx=>Or.inl ⟨hx.1,Or.inl hx.2⟩),hnv0⟩⟩ (fun a' w' hH =>?_)
 obtain⟨blk',hIE⟩:=hH
 have hI':=hIE.inv
 unfold U5 Mk at hr
 split at hr<;>try (cases hr;done)
 rename_i ds fr r1 hres hr1
 split at hr<;>try (cases hr;done)
 rename_i hcond
 obtain⟨c1,c2,c3,c4,c5⟩:=hcond
 unfold XH at hr
 split at hr<;>try (cases hr;done)
 rename_i t' s' nv' cs1 hcells
 split at hr<;>try (cases hr;done)
 rename_i hts
 obtain⟨rfl,rfl⟩:=hts
 simp only[af0,Prod.mk.injEq]at hr
 obtain⟨rfl,rfl⟩:=hr
 have hE0:=eV hr1 c4 hcells lq
 obtain⟨p1,p2⟩:=(hI'.pin (some g0,uj blk h0) hLL).2 _ hE0 c1
 have hIB:=Jh (blk:=blk') hr1 c4 hcells lq
 rw[c3]at hIB
 have hQ:∀b,(M b∨uj (oH blk' 0) h1 b)->Own M (EH st.h) blk' b:=by
  rintro b (hb|hb)
  ·exact .inl hb
  ·rw[hh1]at hb
   obtain⟨k,r',g',q0,q1,q2,q3⟩:=(hIB b).1 hb
   refine .inr ⟨k,r',g',q1,?_,q2,q3⟩
   rcases dL hr1 c4 hcells lq q0 q1 with⟨_,rfl⟩|⟨_,_,_,_,_,rfl⟩<;>exact c2
 have hless:mP M (EH st.h) blk' fr (fun b=>M b∨uj (oH blk' 0) h1 b):=by
  refine⟨hQ,fun k hk r' g hk1 hg hb =>?_⟩
  rcases hb with hb|hb
  ·exact hI'.notM hk1 hg hb
  ·rw[hh1]at hb
   obtain⟨l,r2,g',q0,q1,q2,q3⟩:=(hIB _).1 hb
   have:=hI'.inj k l r' r2 g g' hk1 q1 hg q2 q3.symm
   subst this
   have:=af2.1 c5 _ hk
   simp[q0]at this
 obtain⟨v,hv1,hv2⟩:=pn (P:=P) (s:=⟨st.t,EH st.h,st.e⟩) hT hI' hres hless
 have hlend:=hI'.acs hr1 c4 hcells c2 lq hQ
 rw[c3,<- hh1]at hlend
 have hpost:a'.defers=[]∧∃v,(results fn a'.tmps).run P w'=.ok v w'∧(∃v' blk1,Ending.returned v=.returned v'∧dK (uj blk h0) w w'∧blk1 0=some g0∧w'.shape? g0.1=w.shape? g0.1∧(∀b,uj blk1 h1 b->w.heap.size<=b∨uj blk h0 b)∧F6 w' (fun b=>M b∨uj blk1 h1 b) blk1 h1∧RP w' (fun b=>M b∨uj blk1 h1 b) (kh ds) v'):=by
  refine⟨hI'.defers,v,hv1,v,oH blk' 0,rfl,⟨hI'.below.os,hI'.below.tape,hI'.below.output,hI'.below.size,fun k hk hn=>hI'.below.block k hk fun hb=>hn ((hLB k).1 hb)⟩,by rw[oH,pI];exact p1,p2 g0 rfl,fun b hb =>?_,hlend,hv2⟩
  rw[hh1]at hb
  obtain⟨k,r',g',q0,q1,q2,q3⟩:=(hIB b).1 hb
  rcases hI'.base q1 q2 with q|q
  ·exact .inl (by omega)
  ·exact .inr (by rw[<- q3];exact (hLB _).1 q)
 cases x with
 | normal=>exact hpost
 | ret=>exact hpost
 | exit n=>exact (hne n rfl).elim
theorem afe (hT:gz P T) (hΓ:bA P Γ) (hm:P.follows .mixedOrders=true) {f:FuncId} {fn:Func} {F:Nat} {args:List D} {c:Code} {x:Ex} {st:St} (hf:P.funcs[f]? = some fn) (hc:fn.body=some c) (hok:codeOk c=true) (hn:args.length<=fn.ntmps) (hbig:fn.ntmps<=PK)
  (hv:fj T Γ fn.ntmps F c (bQ none args)=some (x,st)) (hne:∀n,x ≠ .exit n) {w:World} {M:Nat->Prop} {vs:Array Value} (hM:∀b,M b->b<w.heap.size) (hargs:wY w M args vs) {Φ:Ending->World->Prop}
  (hk:∀a' w' blk',Inv fn.ntmps M none w blk' (VE fn.ntmps st.e [] st.h) st.t (EH st.h) a' w'->∃v,(results fn a'.tmps).run P w'=.ok v w'∧Φ (.returned v) w'):Calls P f vs w Φ:=by
 have hI:Inv fn.ntmps M none w (fun _=>none) (fun x v=>x<fn.ntmps∧v<0) (bQ none args).t (bQ none args).h { tmps:=vs++Array.replicate (fn.ntmps-vs.size) undef,defers:=[] } w:={
  tab:=fun b hb=>(hargs.tab b hb).less fun b hb=>by
   rcases hb with hb|⟨x,r,g,hx,_⟩
   ·exact hb
   ·cases hx
  below:=dK.refl _ _
  mlt:=hM
  lent:=fun b hb=>absurd hb oL
  pin:=fun go hg=>by cases hg
  defers:=rfl
  tsz:=by have:=hargs.1;simp;omega
  slots:=fun i=>by
   simp only[bQ]
   rcases tS (n:=fn.ntmps) (i:=i) hargs.1 with he|he
   ·rw[he]
    by_cases hi:i<args.length
    ·have h1:=hargs.2 i _ (af4 hi)
     have e1:args.getD i .und=args[i]:=by simp[List.getD,hi]
     rw[e1]
     exact bq (h1.less fun b hb=>by
      rcases hb with hb|⟨x,r,g,hx,_⟩
      ·exact hb
      ·cases hx)
    ·have e1:args.getD i .und=.und:=by simp[List.getD,aht (ahy hi)]
     rw[e1]
     trivial
   ·rw[he];trivial
  rows:=fun x r hx=>by cases hx
  inj:=fun x y r s g g' hx=>by cases hx
  big:=hbig
  pha:=fun y r g hy=>by cases hy
  ali:=fun y r g hy=>by cases hy }
 apply calls_of_wp hf hc
 refine gT hT hΓ hm c (bQ none args) x st _ _ _ hv hok ⟨_,⟨(by rw[BN (fun k r hk=>by cases hk)];exact hI.weaken fun x v hx=>absurd hx.2 (Nat.not_lt_zero _)),fun x r ty s nv cs hx=>by cases hx⟩⟩ (fun a' w' hH =>?_)
 obtain⟨blk',hIE⟩:=hH
 obtain⟨v,h1,h2⟩:=hk a' w' blk' hIE.inv
 have hpost:a'.defers=[]∧∃v,(results fn a'.tmps).run P w'=.ok v w'∧Φ (.returned v) w':=⟨hIE.inv.defers,v,h1,h2⟩
 cases x with
 | normal=>exact hpost
 | ret=>exact hpost
 | exit n=>exact (hne n rfl).elim
theorem Pz {F:Nat} {fn:Func} {args:List D} {ty t s S n:Nat} {cs:List D} (hr:KJ T Γ F fn args=some (ty,t,s,S,n,cs)) :
  ∃c x st i k v r nv,fn.body=some c∧fn.ntmps<=PK∧fj T Γ fn.ntmps F c (bQ none args)=some (x,st)∧(∀m,x ≠ .exit m)∧fn.results.toList=[.tmp i]∧st.t i=.buf k v S 0 n∧st.h k=some r∧r.v=v∧r.fz=false∧r.mp=true∧k<PK∧r.ty=ty∧r.cells=[.nr t s nv cs]:=by
 unfold KJ at hr
 split at hr<;>try (cases hr;done)
 rename_i c hc
 split at hr<;>try (cases hr;done)
 rename_i hbig
 split at hr<;>try (cases hr;done)
 rename_i x st hne hv
 unfold U4 at hr
 split at hr<;>try (cases hr;done)
 rename_i i hrs
 unfold SZ at hr
 split at hr<;>try (cases hr;done)
 rename_i k v S' n' ht
 unfold Mi at hr
 split at hr<;>try (cases hr;done)
 rename_i r hh
 split at hr<;>try (cases hr;done)
 rename_i hcond
 unfold XG at hr
 split at hr<;>try (cases hr;done)
 rename_i t' s' nv cs' hcells
 split at hr<;>try (cases hr;done)
 rename_i hk
 simp only[af0,Prod.mk.injEq]at hr
 obtain⟨h1,h2,h3,h4,h5,h6⟩:=hr
 subst h2 h3 h4 h5 h6
 exact⟨c,x,st,i,k,v,r,nv,hc,hbig,hv,fun m hm=>hne m hm,hrs,ht,hh,hcond.1,hcond.2.1,hcond.2.2,hk,h1,hcells⟩
theorem KK (hT:gz P T) (hΓ:bA P Γ) (hm:P.follows .mixedOrders=true) {f:FuncId} {fn:Func} {F:Nat} {args:List D} {ty t s S n:Nat} {cs:List D} (hf:P.funcs[f]? = some fn)
  (hok:(match fn.body with|some c=>codeOk c|none=>true)=true) (hn:args.length<=fn.ntmps)
  (hr:KJ T Γ F fn args=some (ty,t,s,S,n,cs)):Jf P f args ty t s S n cs:=by
 obtain⟨c,x,st,i,k,v,r,nv,hc,hbig,hv,hne,hrs,ht,hh,c1,c2,c3,hk,hty,hcells⟩:=Pz hr
 rw[hc]at hok
 simp only at hok
 intro w M h vs hh0 hM hargs
 refine afe hT hΓ hm hf hc hok hn hbig hv hne hM hargs fun a' w' blk' hI' =>?_
 have hIB:=Jh (blk:=blk') hh c3 hcells hk
 rw[hty,<- hh0]at hIB
 have hbel:Below w.heap.size w w':=hI'.below.below (fun b hb=>absurd hb oL)
 have hQ:∀b,(M b∨uj (oH blk' k) h b)->Own M (EH st.h) blk' b:=by
  rintro b (hb|hb)
  ·exact .inl hb
  ·obtain⟨l,r',g',q0,q1,q2,q3⟩:=(hIB b).1 hb
   refine .inr ⟨l,r',g',q1,?_,q2,q3⟩
   rcases dL hh c3 hcells hk q0 q1 with⟨_,rfl⟩|⟨_,_,_,_,_,rfl⟩<;>exact c2
 have hlend:=hI'.acs hh c3 hcells c2 hk hQ
 rw[hty,<- hh0]at hlend
 have hsl:=hI'.slots i
 rw[ht]at hsl
 refine⟨_,mz hrs,_,oH blk' k,rfl,hbel,fun b hb =>?_,hlend,trivial,fun r' _ _ =>?_⟩
 ·obtain⟨l,r',g',q0,q1,q2,q3⟩:=(hIB b).1 hb
  rcases hI'.base q1 q2 with q|q
  ·omega
  ·exact absurd q oL
 ·rw[oH,pI]
  exact hsl.2 _ (eV hh c3 hcells hk) c1
end
def X3:bV->D
 | (n,none) =>.int .i64 n
 | (a,some b) =>.agg [.int .i64 a,.int .i64 b]
theorem Ng {w:World} {M:Nat->Prop} (k:bV):RP w M (X3 k) (jI k):=by
 obtain⟨a,x⟩:=k
 cases x with
 | none=>exact .int _ _
 | some b =>
  refine .agg [.int .i64 a,.int .i64 b] [.int .i64 a,.int .i64 b] rfl (fun j x hj =>?_) (fun x hx =>?_)
  ·match j,hj with
   | 0,hj=>simp only[List.getElem?_cons_zero,af0]at hj;subst hj;exact .int _ _
   | 1,hj=>simp only[List.getElem?_cons_succ,List.getElem?_cons_zero,af0]at hj;subst hj;exact .int _ _
   | j+2,hj=>simp at hj
  ·simp only[afY,agY,or_false]at hx
   rcases hx with rfl|rfl<;>rfl
section
variable {P:Program} {T:Nat->Option Ty} {N:Nat} {M:Nat->Prop} {L:iB} {w0:World} {blk:Nat->Option (Nat×Nat)} {V:Nat->Nat->Prop} {t:Nat->D} {h:Nat->Option Row} {a:Act} {w:World} {e:Nat} {o:Oper} {Γ:Env} {done:List Nat}
theorem sF {x v ty:Nat} {ks:List bV} {vs:List D} {fz lst:Bool} (hx:h x=some ⟨v,ty,[.mpc ks vs],fz,lst,true⟩) (hp:x<PK):EH h x=some ⟨v,ty,[.mpc ks vs],fz,lst,true⟩∧∀o,EH h (NK x o)=none:=by
 constructor
 ·rw[pO (by have:=bZ;omega),hx];rfl
 ·intro o
  rw[pN hp,hx];rfl
theorem uo (hI:qD N M L w0 blk e done t h a w) (hd:∀d:Nat,o.dst=some d->d∉done∧d<N) {E:bu} {v:Value} {w':World} (hrel:fW e h (aH h E.hw)) (hA:iA N M L w0 (VE N e done h) t h a e o.dst E v w'):BM N M L w0 t h a e (o.dst.toList++done) E v w':=by
 have hsub:∀x,x∈done->x∈o.dst.toList++done:=fun x hx=>af6 _ hx
 obtain⟨blk',h1,h2⟩:=hA
 have hVV:∀x n,VE N e done h x n∨(o.dst=some x∧n=e)->VE N e (o.dst.toList++done) (aH h E.hw) x n:=by
  rintro x n (hv|⟨hx,rfl⟩)
  ·exact hv.step hrel hsub
  ·exact .inl ⟨(hd x hx).2,.inr ⟨rfl,af5 _ (by rw[hx];simp)⟩⟩
 exact⟨blk',⟨h1.weaken hVV,hI.nv.step hrel hsub⟩,h2.mono ⟨fun _ h1 h2=>⟨h1,h2,rfl⟩,hVV,fun _ _ _ r' h1 h2=>⟨⟨r',h1,h2⟩,rfl,fun _ _=>rfl⟩⟩⟩
theorem y5 {ops:Array Oper} {l:List Oper} {Q:Exit->Act->World->Prop} (hg:o.guard=none) {K:(Nat->D)->(Nat->Option Row)->Prop} (hI:qD N M L w0 blk e done t h a w) (hf:fits N o.dst=true)
  (hD:dA P o a w fun v w'=>∃E:bu,K (dV t o.dst E.val) (aH h E.hw)∧BM N M L w0 t h a e (o.dst.toList++done) E v w')
  (hK:∀t' h' a' w' blk',K t' h'->qD N M L w0 blk' e (o.dst.toList++done) t' h' a' w'->wpList P ops Q l a' w'):wpList P ops Q (o::l) a w:=by
 unfold wpList
 have:Region.wanted o (yielded ops a.tmps)=true:=by simp[Region.wanted,hg]
 rw[this]
 simp only[if_true]
 refine .inl (hD.wp fun v w' hA =>?_)
 obtain⟨E,hk,blk',hI',hR⟩:=hA
 exact hK _ _ _ _ blk' hk ⟨hI'.inv.acE hf hR,hI'.nv⟩
theorem P3 (hT:gz P T) (hI:Inv N M L w0 blk V t (EH h) a w) {ty d x v v' rty k el:Nat} {m:Operand} {ks:List bV} {vs:List D} {lst:Bool} (ho:o.op=.range ty m) (hd:o.dst=some d) (hV:hX N V d e) (hu:P.underlying ty=some (.map k el)) (hm:ev t m=.mp x v)
  (hx:h x=some ⟨v,rty,[.mpc ks vs],false,lst,true⟩) (hty:rty<900000) (hxp:x<PK) (hdx:d≠x) :
  dA P o a w (iA N M L w0 V t h a e o.dst ⟨.ptr d e 0,[(x,some ⟨v,rty,[.mpc ks vs],true,true,true⟩),(d,some ⟨e,900000,[.mpc ks vs],false,true,true⟩)]⟩):=by
 have hpk:=bZ
 have hbig:=hI.big
 have hdN:d<N:=hV.lt
 have hdp:d<PK:=by omega
 obtain⟨hEx,hEn⟩:=sF hx hxp
 have hmv:=hI.ev m
 rw[hm]at hmv
 have hlm:gh (EH h) x v=some (ks,vs):=by unfold gh;rw[hEx];simp[hty]
 obtain⟨g,r,h1,h2,h3,h4,h5,hmu,hlen,ents,clock,hheap,hsz,hst,us,hk,hv⟩:=hI.NY hlm hmv
 have hrun:=run_range_map (P:=P) w ty k el g.1 ents clock hu hheap
 have hA0:=hI.le (xq (h:=h) d hdp)
 have h0x:bB h d none x=some ⟨v,rty,[.mpc ks vs],false,lst,true⟩:=by rw[au _ _ (Ne.symm hdx)];exact hx
 obtain⟨hE0x,hE0n⟩:=sF h0x hxp
 have hA:=hA0.freeze [x]
 have hfx:∀z,aH (EH (bB h d none)) (gP (EH (bB h d none)) [x]) z=if z=x then some ⟨v,rty,[.mpc ks vs],true,true,true⟩ else EH (bB h d none) z:=by
  intro z
  rw[y9]
  by_cases hz:z=x
  ·subst hz;rw[if_pos (by simp),if_pos rfl,hE0x];rfl
  ·rw[if_neg (by simpa using hz),if_neg hz]
 generalize hh1:aH (EH (bB h d none)) (gP (EH (bB h d none)) [x])=h1' at hA hfx
 have hnew:=heap_alloc_new w (.mapIter (some g.1) clock #[] clock)
 have hold:∀b,b<w.heap.size->(w.alloc (.mapIter (some g.1) clock #[] clock)).heap[b]? = w.heap[b]?:=fun b hb=>Below.heap_alloc w _ b hb
 have hbw:=(Below.refl w.heap.size w).alloc (afR _) (.mapIter (some g.1) clock #[] clock)
 have hglt:g.1<w.heap.size:=(afV.1 hheap).1
 have hx1:h1' x=some ⟨v,rty,[.mpc ks vs],true,true,true⟩:=by rw[hfx,if_pos rfl]
 have hno:¬Own M h1' blk g.1:=by
  rintro (hb|⟨y,r',g',hy,hz',hg',he⟩)
  ·exact hA.notM hx1 h5 hb
  ·have:y=x:=hA.inj y x r' _ g' g hy hx1 hg' h5 he
   subst this
   rw[hx1]at hy
   cases hy
   cases hz'
 have hB:=hA.BZ (w':=w.alloc (.mapIter (some g.1) clock #[] clock)) (h1:=h1') (old:=none) (d:=d) (e:=e) (r0:=⟨e,900000,[.mpc ks vs],false,true,true⟩) (go:=some (w.heap.size,0)) hbw.os hbw.tape hbw.output hbw.size (fun k hk _=>hold k hk) (fun y hy=>by cases hy) rfl hV
  ⟨.inl (afR _),.inl ⟨ks,vs,rfl,hlen,fun q=>absurd q (Nat.lt_irrefl _),fun _=>⟨rfl,g.1,ents,clock,#[],[],List.range ks.length,us,hnew,by have:=hbw.size;omega,by
   rintro (hb|hb)
   ·exact hno hb
   ·have:g.1=w.heap.size:=hb
    omega,(hold _ hglt).trans hheap,hst,(ag3 900000).symm,afS _,by simp,List.nodup_range,fun i=>by
   rw[ahx]
   constructor
   ·intro hi
    exact⟨ents[i]'(by omega),ag2 (by omega),by simp⟩
   ·rintro⟨e1,he1,_⟩
    have:=(afV.1 he1).1
    omega,fun i hi=>by simp at hi,fun j k' hj=>by
   obtain⟨e1,p1,p2,p3⟩:=hk j k' hj
   have hjl:=(agl.1 hj).1
   exact⟨j,e1,by simp[hjl],p1,p2,p3⟩,fun j y hj=>(hv j y hj).keep fun b q1 q2=>⟨by have:=hbw.size;omega,by
    rintro (hb|hb)
    ·apply q2
     rcases hb with hb|⟨y,r',g',hy,hz',hg',he⟩
     ·exact .inl hb
     ·by_cases hyx:y=x
      ·subst hyx;rw[hx1]at hy;cases hy;cases hz'
      ·rw[hfx,if_neg hyx]at hy
       obtain⟨r2,q3,q4⟩:=xq (h:=h) d hdp y r' hy
       refine .inr ⟨y,r2,g',q3,?_,hg',he⟩
       rcases q4 with rfl|⟨_,cs,rfl,_⟩|⟨_,kk,rfl⟩
       ·exact hz'
       ·exact hz'
       ·exact hz'
    ·have:b=w.heap.size:=hb
     omega,hold b q1⟩⟩⟩⟩ rfl rfl (fun _ g' hg' j x' s' n' hj=>by cases j<;>simp at hj)
 have hfin:bB h1' d (some (⟨e,900000,[.mpc ks vs],false,true,true⟩:Row))=EH (aH h [(x,some ⟨v,rty,[.mpc ks vs],true,true,true⟩),(d,some ⟨e,900000,[.mpc ks vs],false,true,true⟩)]):=by
  have hap:aH h [(x,some ⟨v,rty,[.mpc ks vs],true,true,true⟩),(d,some ⟨e,900000,[.mpc ks vs],false,true,true⟩)]=bB (bB h x (some ⟨v,rty,[.mpc ks vs],true,true,true⟩)) d (some ⟨e,900000,[.mpc ks vs],false,true,true⟩):=rfl
  rw[hap]
  have k1:bB (bB h x (some (⟨v,rty,[.mpc ks vs],true,true,true⟩:Row))) d (some ⟨e,900000,[.mpc ks vs],false,true,true⟩) d=some ⟨e,900000,[.mpc ks vs],false,true,true⟩:=aq _ _ _
  have k2:bB (bB h x (some (⟨v,rty,[.mpc ks vs],true,true,true⟩:Row))) d (some ⟨e,900000,[.mpc ks vs],false,true,true⟩) x=some ⟨v,rty,[.mpc ks vs],true,true,true⟩:=by rw[au _ _ (Ne.symm hdx),aq]
  obtain⟨m1,m2⟩:=sF k1 hdp
  obtain⟨m3,m4⟩:=sF k2 hxp
  have k3:bB h d none d=none:=aq _ _ _
  funext z
  by_cases hzd:rt z=d
  ·rcases mI hzd with rfl|⟨o',rfl⟩
   ·rw[aq,m1]
   ·rw[au _ _ (by have:=dX d o';omega),m2,hfx,if_neg (by have:=dX d o';omega),pN hdp,k3];rfl
  ·rw[au _ _ (fun e=>hzd (by rw[e,gj (by omega)])),hfx]
   by_cases hzx:rt z=x
   ·rcases mI hzx with rfl|⟨o',rfl⟩
    ·rw[if_pos rfl,m3]
    ·rw[if_neg (by have:=dX x o';omega),m4,hE0n]
   ·rw[if_neg (fun e=>hzx (by rw[e,gj (by omega)]))]
    exact dB (by rw[au _ _ hzd,au _ _ hzd,au _ _ hzx])
 rw[hfin]at hB
 refine aD (v := .pointer (some ⟨w.heap.size,0,none⟩)) (w':=w.alloc (.mapIter (some g.1) clock #[] clock)) ?_ ⟨bB blk d (some (w.heap.size,0)),hB.weaken fun x n hx =>?_,?_⟩
 ·simp[execOp,ho,hmu,hrun]
 ·rcases hx with hx|⟨rfl,rfl⟩
  ·exact .inl hx
  ·exact .inr ⟨hd,rfl⟩
 ·exact⟨.inr ⟨hd,rfl⟩,fun r hr hv=>⟨(w.heap.size,0),aq _ _ _,rfl⟩⟩
theorem Inv.iter (hI:Inv N M L w0 blk V t (EH h) a w) {y v ty:Nat} {p:Operand} {ks:List bV} {vs:List D} {lst:Bool} (hp:Am.ev t p=.ptr y v 0) (hy:h y=some ⟨v,ty,[.mpc ks vs],false,lst,true⟩) (hty:900000<=ty) (hyp:y<PK) :
  ∃(g:Nat×Nat),blk y=some g∧a.eval p=.pointer (some ⟨g.1,g.2+0,none⟩)∧vs.length=ks.length∧KQ w (Own M (EH h) blk) g ty ks vs:=by
 obtain⟨hEy,_⟩:=sF hy hyp
 have hpv:=hI.ev p
 rw[hp]at hpv
 obtain⟨g,hg,hu⟩:=hpv.2 _ hEy rfl
 have hri:=hI.rowIs hEy hg
 unfold dw at hri
 simp only at hri
 rcases hri with⟨ks',vs',k1,k2,_,k4⟩|⟨k1,_⟩
 ·simp only[agf,D.mpc.injEq,and_true]at k1
  obtain⟨rfl,rfl⟩:=k1
  exact⟨g,hg,hu,k2,k4 hty⟩
 ·have:=k1 _ (age.2 rfl)
  cases this
theorem R3 {y v ty ty':Nat} {ks ks':List bV} {vs vs':List D} {fz lst fz' lst':Bool} (hy:h y=some ⟨v,ty,[.mpc ks vs],fz,lst,true⟩) (hyp:y<PK):EH (bB h y (some ⟨v,ty',[.mpc ks' vs'],fz',lst',true⟩))=bB (EH h) y (some ⟨v,ty',[.mpc ks' vs'],fz',lst',true⟩):=by
 obtain⟨_,m2⟩:=sF hy hyp
 have hy':bB h y (some (⟨v,ty',[.mpc ks' vs'],fz',lst',true⟩:Row)) y=some ⟨v,ty',[.mpc ks' vs'],fz',lst',true⟩:=aq _ _ _
 obtain⟨m3,m4⟩:=sF hy' hyp
 funext z
 by_cases hz:rt z=y
 ·rcases mI hz with rfl|⟨o',rfl⟩
  ·rw[aq,m3]
  ·rw[au _ _ (by have:=dX y o';have:=bZ;omega),m4,m2]
 ·rw[au _ _ (fun e=>hz (by rw[e,gj (by have:=bZ;omega)]))]
  exact dB (by rw[au _ _ hz])
theorem UZ (hI:Inv N M L w0 blk V t (EH h) a w) {y v ty:Nat} {p:Operand} {ks:List bV} {vs:List D} {lst:Bool} (ho:o.op=.next p false) (hp:ev t p=.ptr y v 0) (hy:h y=some ⟨v,ty,[.mpc ks vs],false,lst,true⟩) (hty:900000<=ty) (hyp:y<PK) :
  dA P o a w fun v' w'=>(ks.drop (ty-900000)=[]∧iA N M L w0 V t h a e o.dst ⟨.tup [.bool false],[]⟩ v' w') ∨
   ∃(j:Nat) (k:bV) (x:D),(ks.drop (ty-900000))[j]? = some k∧(vs.drop (ty-900000))[j]? = some x∧iA N M L w0 V t h a e o.dst ⟨.tup [.bool true,X3 k,x],[(y,some ⟨v,900001,[.mpc (k::(ks.drop (ty-900000)).eraseIdx j) (x::(vs.drop (ty-900000)).eraseIdx j)],false,lst,true⟩)]⟩ v' w':=by
 obtain⟨g,hg,hpv,hlen,hg2,b,ents,clock,seen,c,l,us,h1,h2,h3,h4,hst,k1,k2,k3,k4,k5,k6,k7,k8⟩:=hI.iter hp hy hty hyp
 rw[hg2,agr]at hpv
 obtain⟨hEy,_⟩:=sF hy hyp
 rw[<- k1]
 have hkl:(ks.drop c.length).length=l.length:=by rw[agb,<- k3,ag1];omega
 have hvl:(vs.drop c.length).length=l.length:=by rw[agb,hlen,<- k3,ag1];omega
 rcases run_next_at (P:=P) w o.type g.1 b clock clock seen ents clock h1 h4 hst.1 (afR _) with⟨hs0,hrun⟩|⟨en,hen,w1,hw1,hrun⟩
 ·refine aD (v := .tuple #[.bool false]) (w':=w) (by simp[execOp,ho,hpv,hrun]) (.inl ⟨?_,?_⟩)
  ·have hl0:l=[]:=by
    refine List.eq_nil_iff_forall_not_mem.2 fun i hi =>?_
    obtain⟨e1,q1,q2⟩:=(k5 i).1 hi
    have:e1∈(leftOf ents seen).toList:=by
     unfold leftOf
     simp only[Array.toList_filter,ahu]
     exact⟨by simpa using agJ q1,by rw[q2];rfl⟩
    have h0:(leftOf ents seen).toList.length=0:=by simpa using hs0
    rw[aha h0]at this
    cases this
   rw[hl0]at hkl
   exact aha hkl
  ·refine aX.dh (h:=EH h) hI (bq (.tup _ [_] rfl fun j x hj =>?_))
   match j,hj with
   | 0,hj=>simp only[List.getElem?_cons_zero,af0]at hj;subst hj;exact .bool _
   | j+1,hj=>simp at hj
 ·obtain⟨m1,m2⟩:=mem_left hen
  obtain⟨i,hi⟩:=agd m1
  rw[agI]at hi
  have hil:i∈l:=(k5 i).2 ⟨en,hi,m2⟩
  obtain⟨j,hj⟩:∃j,j=l.idxOf i:=⟨_,rfl⟩
  have hjl:j<l.length:=by rw[hj];exact ag0 hil
  have hlj:l[j]? = some i:=by rw[af4 hjl];simp[hj]
  have her:l.erase i=l.eraseIdx j:=List.erase_eq_eraseIdx_of_idxOf hj.symm
  have hkj:(ks.drop c.length)[j]? = some ((ks.drop c.length)[j]'(by omega)):=af4 _
  have hvj:(vs.drop c.length)[j]? = some ((vs.drop c.length)[j]'(by omega)):=af4 _
  generalize (ks.drop c.length)[j]'(by omega)=k at hkj
  generalize (vs.drop c.length)[j]'(by omega)=x at hvj
  have hcl:∀n:Nat,(c++l)[c.length+n]? = l[n]?:=fun n=>by rw[agx (by omega)];congr 1;omega
  have hkey:en.key=jI k∧en.val=us (c.length+j):=by
   rw[af8]at hkj
   obtain⟨i',e',q1,q2,q3,q4⟩:=k7 _ _ hkj
   rw[hcl,hlj]at q1
   cases q1
   rw[hi]at q2
   cases q2
   exact⟨q3,q4⟩
  have hval:RP w (Own M (EH h) blk) x (us (c.length+j)):=by
   rw[af8]at hvj
   exact k8 _ _ hvj
  have hw1h:w1.heap=w.heap∧w1.os=w.os∧w1.tape=w.tape∧w1.output=w.output:=by rcases hw1 with rfl|rfl<;>exact⟨rfl,rfl,rfl,rfl⟩
  obtain⟨p1,p2,p3,p4⟩:=hw1h
  generalize hw':ChangeMaps.setBlock w1 g.1 (.mapIter (some b) clock (seen.push en.born) clock)=w' at hrun
  have hglt:g.1<w.heap.size:=(afV.1 h1).1
  have hh':w'.heap=w.heap.setIfInBounds g.1 (.mapIter (some b) clock (seen.push en.born) clock):=by rw[<- hw',<- p1];rfl
  have hhs:w'.heap.size=w.heap.size:=by rw[hh'];simp
  have hnew:w'.heap[g.1]? = some (.mapIter (some b) clock (seen.push en.born) clock):=by rw[hh',Array.getElem?_setIfInBounds,if_pos rfl,if_pos hglt]
  have hheap:∀b',b'≠g.1->w'.heap[b']? = w.heap[b']?:=fun b' hb=>by rw[hh',Array.getElem?_setIfInBounds,if_neg (Ne.symm hb)]
  have hown:Own M (EH h) blk g.1 := .inr ⟨y,_,g,hEy,rfl,hg,rfl⟩
  have hbg:b≠g.1:=fun e=>h3 (e ▸ hown)
  have hkp:∀ {d:D} {u:Value},RP w (Own M (EH h) blk) d u->RP w' (Own M (EH h) blk) d u:=fun hr=>hr.keep fun b q1 q2=>⟨by rw[hhs];exact q1,q2,hheap b (fun e=>q2 (e ▸ hown))⟩
  have hiff:∀ {n:Nat} {e':MapEntry},ents[n]? = some e'->(e'.born==en.born)=decide (n=i):=by
   intro n e' hn
   by_cases hni:n=i
   ·subst hni
    rw[hi]at hn
    cases hn
    simp
   ·have:e'.born≠en.born:=by
     intro he
     have hnd:=hst.2.1
     have a1:(ents.toList.map (·.born))[n]? = some e'.born:=by simp[hn]
     have a2:(ents.toList.map (·.born))[i]? = some en.born:=by simp[hi]
     have hn1:=(agl.1 a1).1
     have hi1:=(agl.1 a2).1
     exact hni ((List.getElem_inj (h₀:=hn1) (h₁:=hi1) hnd).1 (by
      have b1:=(agl.1 a1).2
      have b2:=(agl.1 a2).2
      rw[b1,b2,he]))
    simp[hni,this]
  have hB:=hI.iR (x:=y) (r:=⟨v,ty,[.mpc ks vs],false,lst,true⟩) (r0:=⟨v,900001,[.mpc (k::(ks.drop c.length).eraseIdx j) (x::(vs.drop c.length).eraseIdx j)],false,lst,true⟩) (w':=w') hEy rfl rfl
   (by rw[<- hw'];exact p2) (by rw[<- hw'];exact p3) (by rw[<- hw'];exact p4) (by rw[hhs];exact afR _) (fun b' _ hb=>hheap b' (hb g hg)) (by
   rw[hg]
   refine⟨by simp[World.shape?,hnew,h1],.inl ⟨_,_,rfl,?_,fun q=>absurd q (by show ¬(900001<900000);omega),fun _=>⟨hg2,b,ents,clock,seen.push en.born,[i],l.eraseIdx j,fun m=>if m=0 then en.val else us (c.length+(if m-1<j then m-1 else m)),hnew,by rw[hhs];exact h2,h3,(hheap b hbg).trans h4,hst,(ahf (n:=900000) (m:=1)).symm,afR _,?_,?_,fun n =>?_,fun n hn =>?_,fun m k' hm =>?_,fun m x' hm =>?_⟩⟩⟩
   ·simp only[List.length_cons,List.length_eraseIdx]
    rw[hkl,hvl]
   ·simp only[ag1,List.length_cons,List.length_nil,List.length_eraseIdx]
    rw[hkl]
    split<;>omega
   ·rw[<- her];exact k4.erase _
   ·rw[<- her,k4.mem_erase_iff,k5]
    constructor
    ·rintro⟨q1,e',q2,q3⟩
     exact⟨e',q2,by rw[contains_push,q3,hiff q2];simpa using q1⟩
    ·rintro⟨e',q2,q3⟩
     rw[contains_push,hiff q2,Bool.or_eq_false_iff,decide_eq_false_iff_not]at q3
     exact⟨q3.2,e',q2,q3.1⟩
   ·simp only[age]at hn
    subst hn
    exact⟨en,hi,by simp⟩
   ·cases m with
    | zero =>
     simp only[List.getElem?_cons_zero,af0]at hm
     subst hm
     exact⟨i,en,rfl,hi,hkey.1,by simp⟩
    | succ m =>
     rw[agZ,List.getElem?_eraseIdx]at hm
     have hm':(ks.drop c.length)[if m<j then m else m+1]? = some k':=by
      by_cases hmj:m<j
      ·rw[if_pos hmj]at hm ⊢;exact hm
      ·rw[if_neg hmj]at hm ⊢;exact hm
     rw[af8]at hm'
     obtain⟨i',e',q1,q2,q3,q4⟩:=k7 _ _ hm'
     rw[hcl]at q1
     refine⟨i',e',?_,q2,q3,?_⟩
     ·rw[List.singleton_append,agZ,List.getElem?_eraseIdx]
      by_cases hmj:m<j
      ·rw[if_pos hmj]at q1 ⊢;exact q1
      ·rw[if_neg hmj]at q1 ⊢;exact q1
     ·simp only[Nat.add_eq_zero_iff,ahQ,and_false,if_false,ahE]
      exact q4
   ·cases m with
    | zero =>
     simp only[List.getElem?_cons_zero,af0]at hm
     subst hm
     simp only[if_true]
     rw[hkey.2]
     exact hkp hval
    | succ m =>
     rw[agZ,List.getElem?_eraseIdx]at hm
     have hm':(vs.drop c.length)[if m<j then m else m+1]? = some x':=by
      by_cases hmj:m<j
      ·rw[if_pos hmj]at hm ⊢;exact hm
      ·rw[if_neg hmj]at hm ⊢;exact hm
     rw[af8]at hm'
     simp only[Nat.add_eq_zero_iff,ahQ,and_false,if_false,ahE]
     exact hkp (k8 _ _ hm')) (fun hh=>by cases hh) (fun _ g' hg' j' x' s' n' hj'=>by cases j'<;>simp at hj')
  refine aD (v := .tuple #[.bool true,en.key,en.val]) (w':=w') (by simp[execOp,ho,hpv,hrun]) (.inr ⟨j,k,x,hkj,hvj,blk,?_,?_⟩)
  ·show Inv _ _ _ _ _ _ _ (EH (bB h y (some _))) _ _
   rw[R3 hy hyp]
   exact hB.weaken fun _ _ h =>.inl h
  ·have hle:∀b',Own M (EH (bB h y (some ⟨v,900001,[.mpc (k::(ks.drop c.length).eraseIdx j) (x::(vs.drop c.length).eraseIdx j)],false,lst,true⟩))) blk b'->Own M (EH h) blk b':=by
    rw[R3 hy hyp]
    rintro b' (hb|⟨z,r',g',hz,hz',hg',he⟩)
    ·exact .inl hb
    ·by_cases hzy:z=y
     ·subst hzy
      exact .inr ⟨z,_,g',hEy,rfl,hg',he⟩
     ·rw[au _ _ hzy]at hz
      exact .inr ⟨z,r',g',hz,hz',hg',he⟩
   refine bq (.tup _ [.bool true,en.key,en.val] rfl fun n d hn =>?_)
   match n,hn with
   | 0,hn=>simp only[List.getElem?_cons_zero,af0]at hn;subst hn;exact .bool _
   | 1,hn =>
    simp only[List.getElem?_cons_succ,List.getElem?_cons_zero,af0]at hn
    subst hn
    simp only[agX,agW]
    rw[hkey.1]
    exact Ng k
   | 2,hn =>
    simp only[List.getElem?_cons_succ,List.getElem?_cons_zero,af0]at hn
    subst hn
    simp only[agX,agW]
    rw[hkey.2]
    exact (hkp hval).less hle
   | n+3,hn=>simp at hn
theorem PY (hI:Inv N M L w0 blk V t (EH h) a w) {y v:Nat} {p:Operand} {k:bV} {x:D} {ks:List bV} {vs:List D} {lst:Bool} (ho:o.op=.entry p) (hp:ev t p=.ptr y v 0) (hy:h y=some ⟨v,900001,[.mpc (k::ks) (x::vs)],false,lst,true⟩) (hyp:y<PK) :
  dA P o a w (iA N M L w0 V t h a e o.dst ⟨.tup [X3 k,x],[]⟩):=by
 obtain⟨g,hg,hpv,hlen,hg2,b,ents,clock,seen,c,l,us,h1,h2,h3,h4,hst,k1,k2,k3,k4,k5,k6,k7,k8⟩:=hI.iter hp hy (by omega) hyp
 rw[hg2,agr]at hpv
 have hc1:c.length=1:=by rw[k1]
 match c,hc1 with
 | [i],_ =>
  obtain⟨en,q1,q2⟩:=k6 i (by simp)
  obtain⟨i',e',r1,r2,r3,r4⟩:=k7 0 k rfl
  simp only[List.singleton_append,List.getElem?_cons_zero,af0]at r1
  subst r1
  rw[q1]at r2
  cases r2
  obtain⟨s0,hs0⟩:=Array.back?_eq_some_iff.1 q2
  rw[hs0]at h1
  have hrun:=run_entry_at (P:=P) w g.1 b clock s0 ents clock en h1 h4 (by simpa using agJ q1) hst.2.1
  refine aD (v := .tuple #[en.key,en.val]) (w':=w) (by simp[execOp,ho,hpv,hrun]) (aX.dh (h:=EH h) hI (bq (.tup _ [en.key,en.val] rfl fun n d hn =>?_)))
  match n,hn with
  | 0,hn =>
   simp only[List.getElem?_cons_zero,af0]at hn
   subst hn
   simp only[agW]
   rw[r3]
   exact Ng k
  | 1,hn =>
   simp only[List.getElem?_cons_succ,List.getElem?_cons_zero,af0]at hn
   subst hn
   simp only[agX,agW]
   rw[r4]
   exact k8 0 x rfl
  | n+2,hn=>simp at hn
end
def tab (t:Nat):Option Ty :=
 match t with
 | 2=>some ⟨.int .i64,1,8,[.int .i64 0],false⟩
 | 3=>some ⟨.int .i64,1,8,[.int .i64 0],false⟩
 | 4=>some ⟨.bool,1,1,[.bool false],false⟩
 | 5=>some ⟨.int .u8,1,1,[.int .u8 0],false⟩
 | 9=>some ⟨.str,1,16,[.string ⟨#[]⟩],false⟩
 | 12=>some ⟨.int .u64,1,8,[.int .u64 0],false⟩
 | 21=>some ⟨.int .i32,1,4,[.int .i32 0],false⟩
 | 22=>some ⟨.slice 3,1,24,[.slice none 0 0],false⟩
 | 23=>some ⟨.slice 55,1,24,[.slice none 0 0],false⟩
 | 24=>some ⟨.struct [(22,0),(23,1)],2,48,[.slice none 0 0,.slice none 0 0],false⟩
 | 25=>some ⟨.struct [(22,0),(23,1)],2,48,[.slice none 0 0,.slice none 0 0],false⟩
 | 26=>some ⟨.slice 63,1,24,[.slice none 0 0],false⟩
 | 27=>some ⟨.struct [(3,0),(26,1)],2,32,[.int .i64 0,.slice none 0 0],false⟩
 | 28=>some ⟨.struct [(3,0),(26,1)],2,32,[.int .i64 0,.slice none 0 0],false⟩
 | 32=>some ⟨.int .i64,1,8,[.int .i64 0],false⟩
 | 39=>some ⟨.struct [(3,0),(22,1)],2,32,[.int .i64 0,.slice none 0 0],false⟩
 | 40=>some ⟨.struct [(3,0),(22,1)],2,32,[.int .i64 0,.slice none 0 0],false⟩
 | 41=>some ⟨.struct [(40,0),(40,2)],4,64,[.int .i64 0,.slice none 0 0,.int .i64 0,.slice none 0 0],false⟩
 | 42=>some ⟨.struct [(40,0),(40,2)],4,64,[.int .i64 0,.slice none 0 0,.int .i64 0,.slice none 0 0],false⟩
 | 48=>some ⟨.slice 98,1,24,[.slice none 0 0],false⟩
 | 49=>some ⟨.slice 85,1,24,[.slice none 0 0],false⟩
 | 50=>some ⟨.slice 70,1,24,[.slice none 0 0],false⟩
 | 51=>some ⟨.struct [(48,0),(49,1),(50,2)],3,72,[.slice none 0 0,.slice none 0 0,.slice none 0 0],false⟩
 | 52=>some ⟨.struct [(48,0),(49,1),(50,2)],3,72,[.slice none 0 0,.slice none 0 0,.slice none 0 0],false⟩
 | 53=>some ⟨.slice 57,1,24,[.slice none 0 0],false⟩
 | 54=>some ⟨.struct [(52,0),(53,3),(22,4)],5,120,[.slice none 0 0,.slice none 0 0,.slice none 0 0,.slice none 0 0,.slice none 0 0],false⟩
 | 55=>some ⟨.struct [(52,0),(53,3),(22,4)],5,120,[.slice none 0 0,.slice none 0 0,.slice none 0 0,.slice none 0 0,.slice none 0 0],false⟩
 | 56=>some ⟨.struct [(3,0),(3,1)],2,16,[.int .i64 0,.int .i64 0],true⟩
 | 57=>some ⟨.struct [(3,0),(3,1)],2,16,[.int .i64 0,.int .i64 0],true⟩
 | 61=>some ⟨.slice 4,1,24,[.slice none 0 0],false⟩
 | 62=>some ⟨.struct [(3,0),(3,1),(42,2)],6,80,[.int .i64 0,.int .i64 0,.int .i64 0,.slice none 0 0,.int .i64 0,.slice none 0 0],false⟩
 | 63=>some ⟨.struct [(3,0),(3,1),(42,2)],6,80,[.int .i64 0,.int .i64 0,.int .i64 0,.slice none 0 0,.int .i64 0,.slice none 0 0],false⟩
 | 65=>some ⟨.int .u16,1,2,[.int .u16 0],false⟩
 | 70=>some ⟨.slice 42,1,24,[.slice none 0 0],false⟩
 | 84=>some ⟨.struct [(3,0),(3,1),(3,2),(9,3)],4,40,[.int .i64 0,.int .i64 0,.int .i64 0,.string ⟨#[]⟩],true⟩
 | 85=>some ⟨.struct [(3,0),(3,1),(3,2),(9,3)],4,40,[.int .i64 0,.int .i64 0,.int .i64 0,.string ⟨#[]⟩],true⟩
 | 92=>some ⟨.slice 152,1,24,[.slice none 0 0],false⟩
 | 97=>some ⟨.struct [(3,0),(3,1),(3,2)],3,24,[.int .i64 0,.int .i64 0,.int .i64 0],true⟩
 | 98=>some ⟨.struct [(3,0),(3,1),(3,2)],3,24,[.int .i64 0,.int .i64 0,.int .i64 0],true⟩
 | 114=>some ⟨.map 117 42,1,8,[.map none],false⟩
 | 116=>some ⟨.struct [(3,0),(3,1)],2,16,[.int .i64 0,.int .i64 0],true⟩
 | 117=>some ⟨.struct [(3,0),(3,1)],2,16,[.int .i64 0,.int .i64 0],true⟩
 | 126=>some ⟨.slice 22,1,24,[.slice none 0 0],false⟩
 | 143=>some ⟨.slice 147,1,24,[.slice none 0 0],false⟩
 | 145=>some ⟨.slice 149,1,24,[.slice none 0 0],false⟩
 | 146=>some ⟨.struct [(42,0),(145,4)],5,88,[.int .i64 0,.slice none 0 0,.int .i64 0,.slice none 0 0,.slice none 0 0],false⟩
 | 147=>some ⟨.struct [(42,0),(145,4)],5,88,[.int .i64 0,.slice none 0 0,.int .i64 0,.slice none 0 0,.slice none 0 0],false⟩
 | 148=>some ⟨.struct [(3,0),(42,1)],5,72,[.int .i64 0,.int .i64 0,.slice none 0 0,.int .i64 0,.slice none 0 0],false⟩
 | 149=>some ⟨.struct [(3,0),(42,1)],5,72,[.int .i64 0,.int .i64 0,.slice none 0 0,.int .i64 0,.slice none 0 0],false⟩
 | 151=>some ⟨.struct [(3,0),(42,1)],5,72,[.int .i64 0,.int .i64 0,.slice none 0 0,.int .i64 0,.slice none 0 0],false⟩
 | 152=>some ⟨.struct [(3,0),(42,1)],5,72,[.int .i64 0,.int .i64 0,.slice none 0 0,.int .i64 0,.slice none 0 0],false⟩
 | 171=>some ⟨.int .u64,1,8,[.int .u64 0],false⟩
 | 185=>some ⟨.int .u64,1,8,[.int .u64 0],false⟩
 | 200=>some ⟨.int .i64,1,8,[.int .i64 0],false⟩
 | 207=>some ⟨.int .u32,1,4,[.int .u32 0],false⟩
 | 216=>some ⟨.int .u64,1,8,[.int .u64 0],false⟩
 | _=>none
theorem abT:tab 2=some ⟨.int .i64,1,8,[.int .i64 0],false⟩:=rfl
theorem Uv:tab 3=some ⟨.int .i64,1,8,[.int .i64 0],false⟩:=rfl
theorem abU:tab 4=some ⟨.bool,1,1,[.bool false],false⟩:=rfl
theorem abV:tab 5=some ⟨.int .u8,1,1,[.int .u8 0],false⟩:=rfl
theorem abW:tab 9=some ⟨.str,1,16,[.string ⟨#[]⟩],false⟩:=rfl
theorem Zp:tab 12=some ⟨.int .u64,1,8,[.int .u64 0],false⟩:=rfl
theorem Zq:tab 21=some ⟨.int .i32,1,4,[.int .i32 0],false⟩:=rfl
theorem KA:tab 22=some ⟨.slice 3,1,24,[.slice none 0 0],false⟩:=rfl
theorem Zr:tab 23=some ⟨.slice 55,1,24,[.slice none 0 0],false⟩:=rfl
theorem Zs:tab 24=some ⟨.struct [(22,0),(23,1)],2,48,[.slice none 0 0,.slice none 0 0],false⟩:=rfl
theorem Zt:tab 25=some ⟨.struct [(22,0),(23,1)],2,48,[.slice none 0 0,.slice none 0 0],false⟩:=rfl
theorem Rr:tab 26=some ⟨.slice 63,1,24,[.slice none 0 0],false⟩:=rfl
theorem Zu:tab 27=some ⟨.struct [(3,0),(26,1)],2,32,[.int .i64 0,.slice none 0 0],false⟩:=rfl
theorem KB:tab 28=some ⟨.struct [(3,0),(26,1)],2,32,[.int .i64 0,.slice none 0 0],false⟩:=rfl
theorem Zv:tab 32=some ⟨.int .i64,1,8,[.int .i64 0],false⟩:=rfl
theorem Zw:tab 39=some ⟨.struct [(3,0),(22,1)],2,32,[.int .i64 0,.slice none 0 0],false⟩:=rfl
theorem Rs:tab 40=some ⟨.struct [(3,0),(22,1)],2,32,[.int .i64 0,.slice none 0 0],false⟩:=rfl
theorem Zx:tab 41=some ⟨.struct [(40,0),(40,2)],4,64,[.int .i64 0,.slice none 0 0,.int .i64 0,.slice none 0 0],false⟩:=rfl
theorem Rt:tab 42=some ⟨.struct [(40,0),(40,2)],4,64,[.int .i64 0,.slice none 0 0,.int .i64 0,.slice none 0 0],false⟩:=rfl
theorem Zy:tab 48=some ⟨.slice 98,1,24,[.slice none 0 0],false⟩:=rfl
theorem Zz:tab 49=some ⟨.slice 85,1,24,[.slice none 0 0],false⟩:=rfl
theorem ZA:tab 50=some ⟨.slice 70,1,24,[.slice none 0 0],false⟩:=rfl
theorem ZB:tab 51=some ⟨.struct [(48,0),(49,1),(50,2)],3,72,[.slice none 0 0,.slice none 0 0,.slice none 0 0],false⟩:=rfl
theorem ZC:tab 52=some ⟨.struct [(48,0),(49,1),(50,2)],3,72,[.slice none 0 0,.slice none 0 0,.slice none 0 0],false⟩:=rfl
theorem ZD:tab 53=some ⟨.slice 57,1,24,[.slice none 0 0],false⟩:=rfl
theorem ZE:tab 54=some ⟨.struct [(52,0),(53,3),(22,4)],5,120,[.slice none 0 0,.slice none 0 0,.slice none 0 0,.slice none 0 0,.slice none 0 0],false⟩:=rfl
theorem ZF:tab 55=some ⟨.struct [(52,0),(53,3),(22,4)],5,120,[.slice none 0 0,.slice none 0 0,.slice none 0 0,.slice none 0 0,.slice none 0 0],false⟩:=rfl
theorem ZG:tab 56=some ⟨.struct [(3,0),(3,1)],2,16,[.int .i64 0,.int .i64 0],true⟩:=rfl
theorem ZH:tab 57=some ⟨.struct [(3,0),(3,1)],2,16,[.int .i64 0,.int .i64 0],true⟩:=rfl
theorem ZI:tab 61=some ⟨.slice 4,1,24,[.slice none 0 0],false⟩:=rfl
theorem ZJ:tab 62=some ⟨.struct [(3,0),(3,1),(42,2)],6,80,[.int .i64 0,.int .i64 0,.int .i64 0,.slice none 0 0,.int .i64 0,.slice none 0 0],false⟩:=rfl
theorem KC:tab 63=some ⟨.struct [(3,0),(3,1),(42,2)],6,80,[.int .i64 0,.int .i64 0,.int .i64 0,.slice none 0 0,.int .i64 0,.slice none 0 0],false⟩:=rfl
theorem Ru:tab 65=some ⟨.int .u16,1,2,[.int .u16 0],false⟩:=rfl
theorem ZK:tab 70=some ⟨.slice 42,1,24,[.slice none 0 0],false⟩:=rfl
theorem ZL:tab 84=some ⟨.struct [(3,0),(3,1),(3,2),(9,3)],4,40,[.int .i64 0,.int .i64 0,.int .i64 0,.string ⟨#[]⟩],true⟩:=rfl
theorem ZM:tab 85=some ⟨.struct [(3,0),(3,1),(3,2),(9,3)],4,40,[.int .i64 0,.int .i64 0,.int .i64 0,.string ⟨#[]⟩],true⟩:=rfl
theorem ZN:tab 92=some ⟨.slice 152,1,24,[.slice none 0 0],false⟩:=rfl
theorem ZO:tab 97=some ⟨.struct [(3,0),(3,1),(3,2)],3,24,[.int .i64 0,.int .i64 0,.int .i64 0],true⟩:=rfl
theorem ZP:tab 98=some ⟨.struct [(3,0),(3,1),(3,2)],3,24,[.int .i64 0,.int .i64 0,.int .i64 0],true⟩:=rfl
theorem Ue:tab 114=some ⟨.map 117 42,1,8,[.map none],false⟩:=rfl
theorem Uf:tab 116=some ⟨.struct [(3,0),(3,1)],2,16,[.int .i64 0,.int .i64 0],true⟩:=rfl
theorem Ug:tab 117=some ⟨.struct [(3,0),(3,1)],2,16,[.int .i64 0,.int .i64 0],true⟩:=rfl
theorem Uh:tab 126=some ⟨.slice 22,1,24,[.slice none 0 0],false⟩:=rfl
theorem Ui:tab 143=some ⟨.slice 147,1,24,[.slice none 0 0],false⟩:=rfl
theorem Uj:tab 145=some ⟨.slice 149,1,24,[.slice none 0 0],false⟩:=rfl
theorem Uk:tab 146=some ⟨.struct [(42,0),(145,4)],5,88,[.int .i64 0,.slice none 0 0,.int .i64 0,.slice none 0 0,.slice none 0 0],false⟩:=rfl
theorem Ul:tab 147=some ⟨.struct [(42,0),(145,4)],5,88,[.int .i64 0,.slice none 0 0,.int .i64 0,.slice none 0 0,.slice none 0 0],false⟩:=rfl
theorem Um:tab 148=some ⟨.struct [(3,0),(42,1)],5,72,[.int .i64 0,.int .i64 0,.slice none 0 0,.int .i64 0,.slice none 0 0],false⟩:=rfl
theorem Un:tab 149=some ⟨.struct [(3,0),(42,1)],5,72,[.int .i64 0,.int .i64 0,.slice none 0 0,.int .i64 0,.slice none 0 0],false⟩:=rfl
theorem Uo:tab 151=some ⟨.struct [(3,0),(42,1)],5,72,[.int .i64 0,.int .i64 0,.slice none 0 0,.int .i64 0,.slice none 0 0],false⟩:=rfl
theorem Up:tab 152=some ⟨.struct [(3,0),(42,1)],5,72,[.int .i64 0,.int .i64 0,.slice none 0 0,.int .i64 0,.slice none 0 0],false⟩:=rfl
theorem Uq:tab 171=some ⟨.int .u64,1,8,[.int .u64 0],false⟩:=rfl
theorem Ur:tab 185=some ⟨.int .u64,1,8,[.int .u64 0],false⟩:=rfl
theorem Us:tab 200=some ⟨.int .i64,1,8,[.int .i64 0],false⟩:=rfl
theorem Ut:tab 207=some ⟨.int .u32,1,4,[.int .u32 0],false⟩:=rfl
theorem Uu:tab 216=some ⟨.int .u64,1,8,[.int .u64 0],false⟩:=rfl
theorem afh:de prog 2 ⟨.int .i64,1,8,[.int .i64 0],false⟩:=⟨by kernel_rfl,by kernel_rfl,by kernel_rfl,fun h=>by cases h⟩
theorem afi:de prog 3 ⟨.int .i64,1,8,[.int .i64 0],false⟩:=⟨by kernel_rfl,by kernel_rfl,by kernel_rfl,fun h=>by cases h⟩
theorem afj:de prog 4 ⟨.bool,1,1,[.bool false],false⟩:=⟨by kernel_rfl,by kernel_rfl,by kernel_rfl,fun h=>by cases h⟩
theorem afk:de prog 5 ⟨.int .u8,1,1,[.int .u8 0],false⟩:=⟨by kernel_rfl,by kernel_rfl,by kernel_rfl,fun h=>by cases h⟩
theorem afl:de prog 9 ⟨.str,1,16,[.string ⟨#[]⟩],false⟩:=⟨by kernel_rfl,by kernel_rfl,by kernel_rfl,fun h=>by cases h⟩
theorem adZ:de prog 12 ⟨.int .u64,1,8,[.int .u64 0],false⟩:=⟨by kernel_rfl,by kernel_rfl,by kernel_rfl,fun h=>by cases h⟩
theorem ad0:de prog 21 ⟨.int .i32,1,4,[.int .i32 0],false⟩:=⟨by kernel_rfl,by kernel_rfl,by kernel_rfl,fun h=>by cases h⟩
theorem ad1:de prog 22 ⟨.slice 3,1,24,[.slice none 0 0],false⟩:=⟨by kernel_rfl,by kernel_rfl,by kernel_rfl,fun h=>by cases h⟩
theorem ad2:de prog 23 ⟨.slice 55,1,24,[.slice none 0 0],false⟩:=⟨by kernel_rfl,by kernel_rfl,by kernel_rfl,fun h=>by cases h⟩
theorem ad3:de prog 24 ⟨.struct [(22,0),(23,1)],2,48,[.slice none 0 0,.slice none 0 0],false⟩:=⟨by kernel_rfl,by kernel_rfl,by kernel_rfl,fun h=>by cases h⟩
theorem ad4:de prog 25 ⟨.struct [(22,0),(23,1)],2,48,[.slice none 0 0,.slice none 0 0],false⟩:=⟨by kernel_rfl,by kernel_rfl,by kernel_rfl,fun h=>by cases h⟩
theorem ad5:de prog 26 ⟨.slice 63,1,24,[.slice none 0 0],false⟩:=⟨by kernel_rfl,by kernel_rfl,by kernel_rfl,fun h=>by cases h⟩
theorem ad6:de prog 27 ⟨.struct [(3,0),(26,1)],2,32,[.int .i64 0,.slice none 0 0],false⟩:=⟨by kernel_rfl,by kernel_rfl,by kernel_rfl,fun h=>by cases h⟩
theorem ad7:de prog 28 ⟨.struct [(3,0),(26,1)],2,32,[.int .i64 0,.slice none 0 0],false⟩:=⟨by kernel_rfl,by kernel_rfl,by kernel_rfl,fun h=>by cases h⟩
theorem ad8:de prog 32 ⟨.int .i64,1,8,[.int .i64 0],false⟩:=⟨by kernel_rfl,by kernel_rfl,by kernel_rfl,fun h=>by cases h⟩
theorem ad9:de prog 39 ⟨.struct [(3,0),(22,1)],2,32,[.int .i64 0,.slice none 0 0],false⟩:=⟨by kernel_rfl,by kernel_rfl,by kernel_rfl,fun h=>by cases h⟩
theorem aea:de prog 40 ⟨.struct [(3,0),(22,1)],2,32,[.int .i64 0,.slice none 0 0],false⟩:=⟨by kernel_rfl,by kernel_rfl,by kernel_rfl,fun h=>by cases h⟩
theorem aeb:de prog 41 ⟨.struct [(40,0),(40,2)],4,64,[.int .i64 0,.slice none 0 0,.int .i64 0,.slice none 0 0],false⟩:=⟨by kernel_rfl,by kernel_rfl,by kernel_rfl,fun h=>by cases h⟩
theorem aec:de prog 42 ⟨.struct [(40,0),(40,2)],4,64,[.int .i64 0,.slice none 0 0,.int .i64 0,.slice none 0 0],false⟩:=⟨by kernel_rfl,by kernel_rfl,by kernel_rfl,fun h=>by cases h⟩
theorem aed:de prog 48 ⟨.slice 98,1,24,[.slice none 0 0],false⟩:=⟨by kernel_rfl,by kernel_rfl,by kernel_rfl,fun h=>by cases h⟩
theorem aee:de prog 49 ⟨.slice 85,1,24,[.slice none 0 0],false⟩:=⟨by kernel_rfl,by kernel_rfl,by kernel_rfl,fun h=>by cases h⟩
theorem aef:de prog 50 ⟨.slice 70,1,24,[.slice none 0 0],false⟩:=⟨by kernel_rfl,by kernel_rfl,by kernel_rfl,fun h=>by cases h⟩
theorem aeg:de prog 51 ⟨.struct [(48,0),(49,1),(50,2)],3,72,[.slice none 0 0,.slice none 0 0,.slice none 0 0],false⟩:=⟨by kernel_rfl,by kernel_rfl,by kernel_rfl,fun h=>by cases h⟩
theorem aeh:de prog 52 ⟨.struct [(48,0),(49,1),(50,2)],3,72,[.slice none 0 0,.slice none 0 0,.slice none 0 0],false⟩:=⟨by kernel_rfl,by kernel_rfl,by kernel_rfl,fun h=>by cases h⟩
theorem aei:de prog 53 ⟨.slice 57,1,24,[.slice none 0 0],false⟩:=⟨by kernel_rfl,by kernel_rfl,by kernel_rfl,fun h=>by cases h⟩
theorem aej:de prog 54 ⟨.struct [(52,0),(53,3),(22,4)],5,120,[.slice none 0 0,.slice none 0 0,.slice none 0 0,.slice none 0 0,.slice none 0 0],false⟩:=⟨by kernel_rfl,by kernel_rfl,by kernel_rfl,fun h=>by cases h⟩
theorem aek:de prog 55 ⟨.struct [(52,0),(53,3),(22,4)],5,120,[.slice none 0 0,.slice none 0 0,.slice none 0 0,.slice none 0 0,.slice none 0 0],false⟩:=⟨by kernel_rfl,by kernel_rfl,by kernel_rfl,fun h=>by cases h⟩
theorem ael:de prog 56 ⟨.struct [(3,0),(3,1)],2,16,[.int .i64 0,.int .i64 0],true⟩:=⟨by kernel_rfl,by kernel_rfl,by kernel_rfl,fun _=>⟨by kernel_rfl,by kernel_rfl,by kernel_rfl⟩⟩
theorem aem:de prog 57 ⟨.struct [(3,0),(3,1)],2,16,[.int .i64 0,.int .i64 0],true⟩:=⟨by kernel_rfl,by kernel_rfl,by kernel_rfl,fun _=>⟨by kernel_rfl,by kernel_rfl,by kernel_rfl⟩⟩
theorem aen:de prog 61 ⟨.slice 4,1,24,[.slice none 0 0],false⟩:=⟨by kernel_rfl,by kernel_rfl,by kernel_rfl,fun h=>by cases h⟩
theorem aeo:de prog 62 ⟨.struct [(3,0),(3,1),(42,2)],6,80,[.int .i64 0,.int .i64 0,.int .i64 0,.slice none 0 0,.int .i64 0,.slice none 0 0],false⟩:=⟨by kernel_rfl,by kernel_rfl,by kernel_rfl,fun h=>by cases h⟩
theorem aep:de prog 63 ⟨.struct [(3,0),(3,1),(42,2)],6,80,[.int .i64 0,.int .i64 0,.int .i64 0,.slice none 0 0,.int .i64 0,.slice none 0 0],false⟩:=⟨by kernel_rfl,by kernel_rfl,by kernel_rfl,fun h=>by cases h⟩
theorem aeq:de prog 65 ⟨.int .u16,1,2,[.int .u16 0],false⟩:=⟨by kernel_rfl,by kernel_rfl,by kernel_rfl,fun h=>by cases h⟩
theorem aer:de prog 70 ⟨.slice 42,1,24,[.slice none 0 0],false⟩:=⟨by kernel_rfl,by kernel_rfl,by kernel_rfl,fun h=>by cases h⟩
theorem aes:de prog 84 ⟨.struct [(3,0),(3,1),(3,2),(9,3)],4,40,[.int .i64 0,.int .i64 0,.int .i64 0,.string ⟨#[]⟩],true⟩:=⟨by kernel_rfl,by kernel_rfl,by kernel_rfl,fun _=>⟨by kernel_rfl,by kernel_rfl,by kernel_rfl⟩⟩
theorem aet:de prog 85 ⟨.struct [(3,0),(3,1),(3,2),(9,3)],4,40,[.int .i64 0,.int .i64 0,.int .i64 0,.string ⟨#[]⟩],true⟩:=⟨by kernel_rfl,by kernel_rfl,by kernel_rfl,fun _=>⟨by kernel_rfl,by kernel_rfl,by kernel_rfl⟩⟩
theorem aeu:de prog 92 ⟨.slice 152,1,24,[.slice none 0 0],false⟩:=⟨by kernel_rfl,by kernel_rfl,by kernel_rfl,fun h=>by cases h⟩
theorem aev:de prog 97 ⟨.struct [(3,0),(3,1),(3,2)],3,24,[.int .i64 0,.int .i64 0,.int .i64 0],true⟩:=⟨by kernel_rfl,by kernel_rfl,by kernel_rfl,fun _=>⟨by kernel_rfl,by kernel_rfl,by kernel_rfl⟩⟩
theorem aew:de prog 98 ⟨.struct [(3,0),(3,1),(3,2)],3,24,[.int .i64 0,.int .i64 0,.int .i64 0],true⟩:=⟨by kernel_rfl,by kernel_rfl,by kernel_rfl,fun _=>⟨by kernel_rfl,by kernel_rfl,by kernel_rfl⟩⟩
theorem acQ:de prog 114 ⟨.map 117 42,1,8,[.map none],false⟩:=⟨by kernel_rfl,by kernel_rfl,by kernel_rfl,fun h=>by cases h⟩
theorem acR:de prog 116 ⟨.struct [(3,0),(3,1)],2,16,[.int .i64 0,.int .i64 0],true⟩:=⟨by kernel_rfl,by kernel_rfl,by kernel_rfl,fun _=>⟨by kernel_rfl,by kernel_rfl,by kernel_rfl⟩⟩
theorem acS:de prog 117 ⟨.struct [(3,0),(3,1)],2,16,[.int .i64 0,.int .i64 0],true⟩:=⟨by kernel_rfl,by kernel_rfl,by kernel_rfl,fun _=>⟨by kernel_rfl,by kernel_rfl,by kernel_rfl⟩⟩
theorem acT:de prog 126 ⟨.slice 22,1,24,[.slice none 0 0],false⟩:=⟨by kernel_rfl,by kernel_rfl,by kernel_rfl,fun h=>by cases h⟩
theorem acU:de prog 143 ⟨.slice 147,1,24,[.slice none 0 0],false⟩:=⟨by kernel_rfl,by kernel_rfl,by kernel_rfl,fun h=>by cases h⟩
theorem acV:de prog 145 ⟨.slice 149,1,24,[.slice none 0 0],false⟩:=⟨by kernel_rfl,by kernel_rfl,by kernel_rfl,fun h=>by cases h⟩
theorem acW:de prog 146 ⟨.struct [(42,0),(145,4)],5,88,[.int .i64 0,.slice none 0 0,.int .i64 0,.slice none 0 0,.slice none 0 0],false⟩:=⟨by kernel_rfl,by kernel_rfl,by kernel_rfl,fun h=>by cases h⟩
theorem acX:de prog 147 ⟨.struct [(42,0),(145,4)],5,88,[.int .i64 0,.slice none 0 0,.int .i64 0,.slice none 0 0,.slice none 0 0],false⟩:=⟨by kernel_rfl,by kernel_rfl,by kernel_rfl,fun h=>by cases h⟩
theorem acY:de prog 148 ⟨.struct [(3,0),(42,1)],5,72,[.int .i64 0,.int .i64 0,.slice none 0 0,.int .i64 0,.slice none 0 0],false⟩:=⟨by kernel_rfl,by kernel_rfl,by kernel_rfl,fun h=>by cases h⟩
theorem acZ:de prog 149 ⟨.struct [(3,0),(42,1)],5,72,[.int .i64 0,.int .i64 0,.slice none 0 0,.int .i64 0,.slice none 0 0],false⟩:=⟨by kernel_rfl,by kernel_rfl,by kernel_rfl,fun h=>by cases h⟩
theorem ac0:de prog 151 ⟨.struct [(3,0),(42,1)],5,72,[.int .i64 0,.int .i64 0,.slice none 0 0,.int .i64 0,.slice none 0 0],false⟩:=⟨by kernel_rfl,by kernel_rfl,by kernel_rfl,fun h=>by cases h⟩
theorem ac1:de prog 152 ⟨.struct [(3,0),(42,1)],5,72,[.int .i64 0,.int .i64 0,.slice none 0 0,.int .i64 0,.slice none 0 0],false⟩:=⟨by kernel_rfl,by kernel_rfl,by kernel_rfl,fun h=>by cases h⟩
theorem ac2:de prog 171 ⟨.int .u64,1,8,[.int .u64 0],false⟩:=⟨by kernel_rfl,by kernel_rfl,by kernel_rfl,fun h=>by cases h⟩
theorem ac3:de prog 185 ⟨.int .u64,1,8,[.int .u64 0],false⟩:=⟨by kernel_rfl,by kernel_rfl,by kernel_rfl,fun h=>by cases h⟩
theorem ac4:de prog 200 ⟨.int .i64,1,8,[.int .i64 0],false⟩:=⟨by kernel_rfl,by kernel_rfl,by kernel_rfl,fun h=>by cases h⟩
theorem ac5:de prog 207 ⟨.int .u32,1,4,[.int .u32 0],false⟩:=⟨by kernel_rfl,by kernel_rfl,by kernel_rfl,fun h=>by cases h⟩
theorem ac6:de prog 216 ⟨.int .u64,1,8,[.int .u64 0],false⟩:=⟨by kernel_rfl,by kernel_rfl,by kernel_rfl,fun h=>by cases h⟩
theorem tok:gz prog tab:=by
 intro t τ h
 unfold tab at h
 split at h
 ·cases h;exact afh
 ·cases h;exact afi
 ·cases h;exact afj
 ·cases h;exact afk
 ·cases h;exact afl
 ·cases h;exact adZ
 ·cases h;exact ad0
 ·cases h;exact ad1
 ·cases h;exact ad2
 ·cases h;exact ad3
 ·cases h;exact ad4
 ·cases h;exact ad5
 ·cases h;exact ad6
 ·cases h;exact ad7
 ·cases h;exact ad8
 ·cases h;exact ad9
 ·cases h;exact aea
 ·cases h;exact aeb
 ·cases h;exact aec
 ·cases h;exact aed
 ·cases h;exact aee
 ·cases h;exact aef
 ·cases h;exact aeg
 ·cases h;exact aeh
 ·cases h;exact aei
 ·cases h;exact aej
 ·cases h;exact aek
 ·cases h;exact ael
 ·cases h;exact aem
 ·cases h;exact aen
 ·cases h;exact aeo
 ·cases h;exact aep
 ·cases h;exact aeq
 ·cases h;exact aer
 ·cases h;exact aes
 ·cases h;exact aet
 ·cases h;exact aeu
 ·cases h;exact aev
 ·cases h;exact aew
 ·cases h;exact acQ
 ·cases h;exact acR
 ·cases h;exact acS
 ·cases h;exact acT
 ·cases h;exact acU
 ·cases h;exact acV
 ·cases h;exact acW
 ·cases h;exact acX
 ·cases h;exact acY
 ·cases h;exact acZ
 ·cases h;exact ac0
 ·cases h;exact ac1
 ·cases h;exact ac2
 ·cases h;exact ac3
 ·cases h;exact ac4
 ·cases h;exact ac5
 ·cases h;exact ac6
 ·cases h
theorem mixed:Tryz.prog.follows .mixedOrders=true:=by kernel_rfl
def ot {α:Type} (x:Option α) (K:α->Prop):Prop :=
 match x with
 | some a=>K a
 | none=>False
def br (b:Bool) (A B:Prop):Prop:=(b=true->A)∧(b=false->B)
def RW (d:D) (t:Nat->D) (g:Nat) (A B:(Nat->D)->Prop):Prop :=
 match d with
 | .bool b=>br b (A (bB t g (.bool b))) (B (bB t g (.bool b)))
 | _=>False
def wpS (d:D) (t:Nat->D) (g:Nat) (A B S:(Nat->D)->Prop):Prop :=
 match d with
 | .skp=>S t
 | d=>RW d t g A B
theorem yL {t:Nat->D} {g:Nat} {b:Bool} {A B S:(Nat->D)->Prop} : wpS (.bool b) t g A B S=br b (A (bB t g (.bool b))) (B (bB t g (.bool b))):=rfl
def wpG (ops:List Oper) (t:Nat->D) (gd:Option (Nat×Bool)) (A B:(Nat->D)->Prop):Prop :=
 match gd with
 | none=>A t
 | some (j,want)=>ot ((ops[j]?).bind (·.dst)) fun g=>wpS (t g) t g (if want then A else B) (if want then B else A) B
def PC (T:Nat->Option Ty) (Γ:Env) (e:Nat) (o:Oper) (t:Nat->D) (h:Nat->Option Row) (K:(Nat->D)->bu->Prop):Prop :=
 match o.op with
 | .pick (.tmp c) a b=>RW (t c) t c (fun t=>K t ⟨ev t a,[]⟩) (fun t=>K t ⟨ev t b,[]⟩)
 | _=>ot (mX T Γ e o (ev t) h) (K t)
def EJ (T:Nat->Option Ty) (Γ:Env) (N e:Nat) (ops:List Oper):List Oper->(Nat->D)->(Nat->Option Row)->((Nat->D)->(Nat->Option Row)->Prop)->Prop
 | [],t,h,K=>K t h
 | o::l,t,h,K=>fits N o.dst=true∧wpG ops t o.guard (fun t=>PC T Γ e o t h fun t E=>EJ T Γ N e ops l (dV t o.dst E.val) (aH h E.hw) K) (fun t=>EJ T Γ N e ops l (dV t o.dst .skp) h K)
def runK (T:Nat->Option Ty) (Γ:Env) (N e:Nat) (ops:List Oper):List Oper->(Nat->D)->(Nat->Option Row)->List ju->((Nat->D)->(Nat->Option Row)->List ju->Prop)->Prop
 | [],t,h,fs,K=>K t h fs
 | o::l,t,h,fs,K=>fits N o.dst=true∧wpG ops t o.guard (fun t=>PC T Γ e o t h fun t E=>runK T Γ N e ops l (dV t o.dst E.val) (aH h E.hw) (fs++[⟨bl o (ev t),E.hw.isEmpty⟩]) K) (fun t=>runK T Γ N e ops l (dV t o.dst .skp) h (fs++[⟨[],true⟩]) K)
abbrev Kt:=Ex->(Nat->D)->(Nat->Option Row)->Nat->Prop
def adV (x:Ex) (A:Prop) (B:Prop):Prop :=
 match x with
 | .normal=>A
 | _=>B
def WV (id:Nat) (x:Ex) (t:Nat->D) (h:Nat->Option Row) (e:Nat) (K:Kt):Prop :=
 match x with
 | .exit n=>if n=id then K .normal t h e else K (.exit n) t h e
 | x=>K x t h e
def wpR (T:Nat->Option Ty) (Γ:Env) (N:Nat) (ops:Array Oper) (draw:Bool) (t:Nat->D) (h:Nat->Option Row) (e:Nat) (K:(Nat->D)->(Nat->Option Row)->Prop):Prop :=
 match draw with
 | true=>runK T Γ N e ops.toList ops.toList t h [] fun t h fs=>CI ops fs=true∧K t h
 | false=>EJ T Γ N e ops.toList ops.toList t h K
def PE (T:Nat->Option Ty) (Γ:Env) (N F:Nat):Code->(Nat->D)->(Nat->Option Row)->Nat->Kt->Prop
 | .skip,t,h,e,K=>K .normal t h e
 | .region _ ops draw,t,h,e,K=>wpR T Γ N ops draw t h e fun t h=>K .normal t h (e+1)
 | .seq a b,t,h,e,K=>PE T Γ N F a t h e fun x t h e=>adV x (PE T Γ N F b t h e K) (K x t h e)
 | .cond c x y,t,h,e,K =>
  match c with
  | .tmp g=>RW (t g) t g (fun t=>PE T Γ N F x t h e K) (fun t=>PE T Γ N F y t h e K)
  | .const (.bool true)=>PE T Γ N F x t h e K
  | .const (.bool false)=>PE T Γ N F y t h e K
  | _=>False
 | .block id b,t,h,e,K=>PE T Γ N F b t h e fun x t h e=>WV id x t h e K
 | .loop b,t,h,e,K=>∃x s,iter (fj T Γ N F b) F ⟨t,h,e⟩=some (x,s)∧K x s.t s.h s.e
 | .exit id,t,h,e,K=>K (.exit id) t h e
 | .ret,t,h,e,K=>K .ret t h e
 | _,_,_,_,_=>False
def ach (mode:Mode) (T:Nat->Option Ty) (lent:Option (D×Row)) (rs:List ResultVar) (x:Ex) (t:Nat->D) (h:Nat->Option Row) (e:Nat) (r:RK×Option Row):Prop :=
 match x with
 | .exit _=>False
 | _=>eR mode T lent rs ⟨t,EH h,e⟩=some r
def wpf (mode:Mode) (T:Nat->Option Ty) (Γ:Env) (F:Nat) (fn:Func) (lent:Option (D×Row)) (args:List D) (r:RK×Option Row):Prop :=
 ot fn.body fun c=>PE T Γ fn.ntmps F c (bQ lent args).t (bQ lent args).h (bQ lent args).e fun x t h e=>ach mode T lent fn.results.toList x t h e r
theorem rB {α:Type} (a:α) (K:α->Prop):ot (some a) K=K a:=rfl
theorem DX {α:Type} {x:Option α} {K:α->Prop} (h:ot x K):∃a,x=some a∧K a:=by
 cases x with
 | none=>exact h.elim
 | some a=>exact⟨a,rfl,h⟩
theorem RO {t:Nat->D} {g:Nat} {d:D} (h:t g=d):bB t g d=t:=by
 funext j
 unfold bB
 split
 ·rename_i e;subst e;exact h.symm
 ·rfl
theorem Jo (A B:Prop):br true A B=A:=by simp[br]
theorem B6 (A B:Prop):br false A B=B:=by simp[br]
theorem aap {b:Bool} {A B:Prop} (h:br b A B):if b then A else B:=by
 cases b with
 | true=>exact h.1 rfl
 | false=>exact h.2 rfl
theorem Z8 {t:Nat->D} {g:Nat} {b:Bool} {A B:(Nat->D)->Prop} : RW (.bool b) t g A B=br b (A (bB t g (.bool b))) (B (bB t g (.bool b))):=rfl
theorem yJ {t:Nat->D} {g:Nat} {A B:(Nat->D)->Prop} (h:t g=.bool true):RW (.bool true) t g A B=A t:=by simp[RW,RO h,Jo]
theorem vA {t:Nat->D} {g:Nat} {A B:(Nat->D)->Prop} (h:t g=.bool false):RW (.bool false) t g A B=B t:=by simp[RW,RO h,B6]
theorem yM {t:Nat->D} {g:Nat} {A B S:(Nat->D)->Prop} (h:t g=.bool true):wpS (.bool true) t g A B S=A t:=yJ h
theorem vB {t:Nat->D} {g:Nat} {A B S:(Nat->D)->Prop} (h:t g=.bool false):wpS (.bool false) t g A B S=B t:=vA h
theorem RX {t:Nat->D} {g:Nat} {A B:(Nat->D)->Prop} (h:RW (t g) t g A B):∃b,t g=.bool b∧(if b then A t else B t):=by
 unfold RW at h
 split at h
 ·rename_i b hb
  rw[RO hb]at h
  exact⟨b,hb,aap h⟩
 ·exact h.elim
section
variable {T:Nat->Option Ty} {Γ:Env} {N F e:Nat}
theorem aab {ops:Array Oper} {t:Nat->D} {o:Oper} {A B:(Nat->D)->Prop} (h:wpG ops.toList t o.guard A B):∃b,tr ops t o=some b∧(if b then A t else B t):=by
 unfold wpG at h
 unfold tr
 split at h
 ·rename_i hg
  try rw[hg]
  exact⟨true,rfl,by simpa using h⟩
 ·rename_i j want hg
  try rw[hg]
  obtain⟨g,h1,h2⟩:=DX h
  rw[agI]at h1
  unfold wpS at h2
  split at h2
  ·rename_i hs
   simp only[h1,hs]
   exact⟨false,rfl,h2⟩
  ·obtain⟨b,h3,h4⟩:=RX h2
   simp only[h1,h3]
   refine⟨_,rfl,?_⟩
   cases b<;>cases want<;>simpa using h4
theorem Z9 {o:Oper} {t:Nat->D} {h:Nat->Option Row} {K:(Nat->D)->bu->Prop} (hw:PC T Γ e o t h K):∃E,mX T Γ e o (ev t) h=some E∧K t E:=by
 unfold PC at hw
 split at hw
 ·rename_i c a b ho
  obtain⟨v,h1,h2⟩:=RX hw
  have hq:ln Γ e h o.dst none=none:=by cases o.dst<;>rfl
  cases v with
  | true=>exact⟨⟨ev t a,[]⟩,by unfold mX fO ll;rw[ho];simp only[ev,h1,or2,jq,gp,hq],by simpa only[if_true] using h2⟩
  | false=>exact⟨⟨ev t b,[]⟩,by unfold mX fO ll;rw[ho];simp only[ev,h1,or2,jq,gp,hq],by simpa only[ags,if_false] using h2⟩
 ·obtain⟨E,h1,h2⟩:=DX hw
  exact⟨E,h1,h2⟩
theorem yz {ops:Array Oper} {K:(Nat->D)->(Nat->Option Row)->Prop} : ∀(l:List Oper) (t:Nat->D) (h:Nat->Option Row),EJ T Γ N e ops.toList l t h K->∃t' h' fs,zr T Γ N e ops l t h=some (t',h',fs)∧K t' h'
 | [],t,h,hk=>⟨t,h,[],rfl,hk⟩
 | o::l,t,h,hk=>by
  unfold EJ at hk
  obtain⟨hf,hg⟩:=hk
  obtain⟨b,h1,h2⟩:=aab hg
  unfold zr step1
  rw[if_pos hf,h1]
  cases b with
  | true =>
   obtain⟨E,h3,h4⟩:=Z9 (by simpa using h2)
   obtain⟨t',h',fs,h5,h6⟩:=yz l _ _ h4
   simp only[h3,h5]
   exact⟨_,_,_,rfl,h6⟩
  | false =>
   obtain⟨t',h',fs,h5,h6⟩:=yz l _ _ (by simpa using h2)
   simp only[h5]
   exact⟨_,_,_,rfl,h6⟩
theorem Ks {ops:Array Oper} {K:(Nat->D)->(Nat->Option Row)->List ju->Prop} : ∀(l:List Oper) (t:Nat->D) (h:Nat->Option Row) (f0:List ju),runK T Γ N e ops.toList l t h f0 K->∃t' h' fs,zr T Γ N e ops l t h=some (t',h',fs)∧K t' h' (f0++fs)
 | [],t,h,f0,hk=>⟨t,h,[],rfl,by unfold runK at hk;simpa using hk⟩
 | o::l,t,h,f0,hk=>by
  unfold runK at hk
  obtain⟨hf,hg⟩:=hk
  obtain⟨b,h1,h2⟩:=aab hg
  unfold zr step1
  rw[if_pos hf,h1]
  cases b with
  | true =>
   obtain⟨E,h3,h4⟩:=Z9 (by simpa using h2)
   obtain⟨t',h',fs,h5,h6⟩:=Ks l _ _ _ h4
   simp only[h3,h5]
   exact⟨_,_,_,rfl,by simpa using h6⟩
  | false =>
   obtain⟨t',h',fs,h5,h6⟩:=Ks l _ _ _ (by simpa using h2)
   simp only[h5]
   exact⟨_,_,_,rfl,by simpa using h6⟩
theorem ac8 {ops:Array Oper} {draw:Bool} {t:Nat->D} {h:Nat->Option Row} {K:(Nat->D)->(Nat->Option Row)->Prop} (hk:wpR T Γ N ops draw t h e K):∃t' h',vv T Γ N ops draw ⟨t,h,e⟩=some (.normal,⟨t',h',e+1⟩)∧K t' h':=by
 unfold vv
 cases draw with
 | false =>
  obtain⟨t',h',fs,h1,h2⟩:=yz _ _ _ hk
  simp only[h1]
  exact⟨t',h',by simp,h2⟩
 | true =>
  obtain⟨t',h',fs,h1,h2,h3⟩:=Ks _ _ _ _ hk
  simp only[h1]
  exact⟨t',h',by rw[ahA]at h2;simp[h2],h3⟩
theorem KM:∀(c:Code) (t:Nat->D) (h:Nat->Option Row) (e:Nat) (K:Kt),PE T Γ N F c t h e K->∃x s,fj T Γ N F c ⟨t,h,e⟩=some (x,s)∧K x s.t s.h s.e:=by
 intro c
 induction c with
 | skip=>intro t h e K hk;exact⟨_,_,rfl,hk⟩
 | region i ops draw =>
  intro t h e K hk
  obtain⟨t',h',h1,h2⟩:=ac8 hk
  exact⟨_,_,h1,h2⟩
 | seq a b iha ihb =>
  intro t h e K hk
  obtain⟨x,s,h1,h2⟩:=iha _ _ _ _ hk
  simp only[fj,h1]
  cases x with
  | normal =>
   obtain⟨x2,s2,h3,h4⟩:=ihb _ _ _ _ h2
   exact⟨x2,s2,h3,h4⟩
  | exit n=>exact⟨_,_,rfl,h2⟩
  | ret=>exact⟨_,_,rfl,h2⟩
 | cond c x y ihx ihy =>
  intro t h e K hk
  unfold PE at hk
  split at hk
  ·rename_i g
   obtain⟨b,h1,h2⟩:=RX hk
   simp only[fj,ev,h1,Py]
   cases b with
   | true=>exact ihx _ _ _ _ (by simpa using h2)
   | false=>exact ihy _ _ _ _ (by simpa using h2)
  ·simpa only[fj,ev,lh,Py,if_true] using ihx _ _ _ _ hk
  ·simpa only[fj,ev,lh,Py,ags,if_false] using ihy _ _ _ _ hk
  ·exact hk.elim
 | block id b ih =>
  intro t h e K hk
  obtain⟨x,s,h1,h2⟩:=ih _ _ _ _ hk
  simp only[fj,h1]
  cases x with
  | normal=>exact⟨_,_,rfl,h2⟩
  | ret=>exact⟨_,_,rfl,h2⟩
  | exit n =>
   simp only[RS]
   unfold WV at h2
   simp only at h2
   split at h2
   ·rename_i hn;rw[if_pos hn];exact⟨_,_,rfl,h2⟩
   ·rename_i hn;rw[if_neg hn];exact⟨_,_,rfl,h2⟩
 | loop b ih=>intro t h e K hk;exact hk
 | exit id=>intro t h e K hk;exact⟨_,_,rfl,hk⟩
 | ret=>intro t h e K hk;exact⟨_,_,rfl,hk⟩
 | _=>intro t h e K hk;exact hk.elim
theorem RY {mode:Mode} {fn:Func} {lent:Option (D×Row)} {args:List D} {r:RK×Option Row} (h:wpf mode T Γ F fn lent args r) (hN:fn.ntmps<=PK):aW mode T Γ F fn lent args=some r:=by
 obtain⟨c,h1,h2⟩:=DX h
 obtain⟨x,s,h3,h4⟩:=KM _ _ _ _ _ h2
 unfold aW
 simp only[h1]
 rw[if_pos hN]
 have e0:bQ lent args=⟨(bQ lent args).t,(bQ lent args).h,(bQ lent args).e⟩:=rfl
 rw[e0,h3]
 unfold ach at h4
 split at h4
 ·exact h4.elim
 ·rename_i hx
  split
  ·rename_i n _ he;cases he;exact (hx n rfl).elim
  ·rename_i _ x' s' _ he
   cases he
   exact h4
  ·rename_i he;cases he
theorem UA {α:Type} (f:Nat->α) (i:Nat) (v:α) (j:Nat):bB f i v j=if j=i then v else f j:=aiu
def Fi (args:List D) (i:Nat):D:=args.getD i .und
theorem K2 (i:Nat):Fi [] i=.und:=by simp[Fi]
theorem F9 (d:D) (l:List D):Fi (d::l) 0=d:=aiu
theorem F8 (d:D) (l:List D) (i:Nat):Fi (d::l) (i+1)=Fi l i:=aiu
def TE (_:Nat):Option Row:=none
theorem H2 (i:Nat):TE i=none:=aiu
end
end Go.Proofs.YtmcncjgbkobjnaaGreat.Am
