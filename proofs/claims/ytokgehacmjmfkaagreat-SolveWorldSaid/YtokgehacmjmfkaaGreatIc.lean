import Derived.Test.YtokgehacmjmfkaaGreatIb
set_option linter.unusedSimpArgs false
set_option linter.unusedVariables false
set_option linter.defProp false
noncomputable section
open Go.Proofs.Tryz
namespace Go.Proofs.YtokgehacmjmfkaaGreat.Am
open Go.RowKit
section
variable {P:Program} {T:Nat->Option Ty} {N:Nat} {M:Nat->Prop} {L:kx} {w0:World} {blk:Nat->Option (Nat×Nat)} {V:Nat->Nat->Prop} {t:Nat->D} {h:Nat->Option Row} {a:Act} {w:World} {e:Nat} {o:Oper} {Γ:Env}
def Inv.aek (hI:Inv N M L w0 blk V t (EH h) a w) {x:Nat} {r:Row} {I s q n j:Nat} {o p:List D} (O:h x=some r) (P:r.mp=true) (Q:r.cells=[.nr I s q o]) (hz:r.fz=false) (B:x<PK) (hj:o[j]? = some (.nx n p)) (hn:p.length=n*s) :
  Inv N M L w0 blk V t (EH (b6 h x (some ⟨r.v,r.ty,[.nr I s q (o.set j (.sl false false n p))],false,r.lst,true⟩))) a w∧∀b,Own M (EH (b6 h x (some ⟨r.v,r.ty,[.nr I s q (o.set j (.sl false false n p))],false,r.lst,true⟩))) blk b->Own M (EH h) blk b:=by
 have aa:j<o.length:=(aiU.1 hj).1;obtain⟨g,R⟩:∃g,blk x=some g:=by
  cases R:blk x with
  | some g=>exact⟨g,rfl⟩
  | none =>
   have:=(hI.rows x _ (fY O P Q B)).2;rw[R]at this;have Y:o.mapIdx (su x s)=[]:=this;have h2:o.length=0:=by
    have:=congrArg List.length Y;simpa using this
   omega
 have hK:EH h (NK x j)=some ⟨q,I,p,false,true,false⟩:=by rw[fe O P Q B,hj,hz];rfl
 obtain⟨u,ab,ai⟩:=hI.GA O P Q B R hj;obtain⟨S,ad,aj,ak⟩:=hI.Bg O P Q B R;have al:=hI.freeze [NK x j];have an:RP w (Own M (aR (EH h) (kb (EH h) [NK x j])) blk) (.sl false false n p) u:=by
  have hW:=hI.weaken (V':=fun y v=>V y v∨(y=NK x j∧v=q)) (fun _ _ h =>.inl h);have ao:RT w (Own M (EH h) blk) (EH h) blk (fun y v=>V y v∨(y=NK x j∧v=q)) (.buf (NK x j) q s 0 n) u:=by
   refine⟨.inr ⟨rfl,rfl⟩,fun Z au av =>?_⟩;rcases ai with⟨g1,c,N',aq,k1,k2,k3,k4,k5,k6⟩|⟨k1,k2,k3⟩
   ·exact .inl ⟨g1,g1.2,c,N',aq,k1,k2,fun _=>⟨by omega,k3⟩,k4,k5,k6⟩
   ·exact .inr ⟨k1,k2,k3⟩
  have hl:live (EH h) (NK x j) q=some ⟨q,I,p,false,true,false⟩:=by
   unfold live;rw[hK];simp
  have ar:Am.ch (EH h) (.buf (NK x j) q s 0 n)=some (.sl false false n p,[NK x j]):=by
   simp only[Am.ch,Am.bF,Am.dU,hl,ajf,ajV];rw[if_pos (by rw[hn];exact air _),<- hn,akD];rfl
  exact hW.ch ar (hW.gj [NK x j]) ao
 generalize z:b6 (EH h) (NK x j) none=Y;have C:b6 (aR (EH h) (kb (EH h) [NK x j])) (NK x j) none=Y:=by
  rw[<- z];funext k
  by_cases f:k=NK x j
  ·rw[f,ax,ax]
  ·rw[az _ _ f,az _ _ f,B0];rw[if_neg (by simpa using f)]
 have T:=al.drop (NK x j);rw[C]at T;have U:∀b,Own M Y blk b->Own M (aR (EH h) (kb (EH h) [NK x j])) blk b:=by
  rintro b (W|⟨k,Z,X,f,E,l,J⟩)
  ·exact .inl W
  ·refine .inr ⟨k,Z,X,?_,E,l,J⟩;rw[<- C]at f
   by_cases m:k=NK x j
   ·rw[m,ax]at f;cases f
   ·rwa [az _ _ m]at f
 have ae:Y x=some ⟨r.v,r.ty,o.mapIdx (su x s),r.fz,r.lst,true⟩:=by
  rw[<- z,az _ _ (by have:=fJ x j;have:=cK;omega)];exact fY O P Q B
 have ag:∀(i:Nat) d,(o.set j (.sl false false n p))[i]? = some d->(i=j∧d=.sl false false n p)∨(i≠j∧o[i]? = some d):=by
  intro i d A
  by_cases hji:i=j
  ·subst hji;rw[alk aa]at A;exact .inl ⟨rfl,by simpa using A.symm⟩
  ·rw[aln (fun e=>hji e.symm)]at A;exact .inr ⟨hji,A⟩
 have hB:=T.ke (x:=x) (r:=⟨r.v,r.ty,o.mapIdx (su x s),r.fz,r.lst,true⟩) (r0:=⟨r.v,r.ty,(o.set j (.sl false false n p)).mapIdx (su x s),false,r.lst,true⟩) (w':=w) ae hz rfl rfl rfl rfl (air _) (fun _ _ _=>rfl) (by
   rw[R];refine⟨rfl,.inr ⟨fun d hd =>?_,S,ad,by simp only[alh,akC];exact aj,fun i d A =>?_⟩⟩
   ·obtain⟨i,A⟩:=aiN hd;simp only[alj,aip]at A;obtain⟨d0,G,rfl⟩:=A;exact mE _ _ _ _
   ·simp only[alj,aip]at A;obtain⟨d0,G,rfl⟩:=A;rcases ag i d0 G with⟨rfl,rfl⟩|⟨hij,F⟩
    ·have e1:S.getD (g.2+i) undef=u:=by
      have:=aW ad (show g.2+i<S.size by omega);rw[this]at ab;simpa using ab
     rw[e1];exact an.less U
    ·by_cases H:fA d0=true
     ·rw[lf H];refine (fB H).2.2.2 ((ak i d0 F H).less fun b W =>?_);rcases W with W|⟨k,Z,X,f,E,l,J⟩
      ·exact .inl W
      ·refine .inr ⟨k,Z,X,?_,E,l,J⟩;rw[<- z]at f
       by_cases m:k=NK x j
       ·rw[m,ax]at f;cases f
       ·rwa [az _ _ m]at f
     ·cases d0<;>first|trivial|exact absurd rfl H) (fun h=>by cases h) (fun _ X l i x' s' n' A=>by
   rw[R]at l;cases l;simp only[alj,aip]at A;obtain⟨d0,G,J⟩:=A;obtain⟨aw,rfl,rfl,rfl⟩:=sw J;rcases ag i _ G with⟨rfl,F⟩|⟨hij,F⟩
   ·cases F
   ·exact T.pha x _ g ae rfl R i (NK x i) s' n' (by simp only[alj,F,Option.map_some,su]))
 have K:b6 Y x (some (⟨r.v,r.ty,(o.set j (.sl false false n p)).mapIdx (su x s),false,r.lst,true⟩:Row))=EH (b6 h x (some ⟨r.v,r.ty,[.nr I s q (o.set j (.sl false false n p))],false,r.lst,true⟩)):=by
  have ah:b6 h x (some (⟨r.v,r.ty,[.nr I s q (o.set j (.sl false false n p))],false,r.lst,true⟩:Row)) x=some ⟨r.v,r.ty,[.nr I s q (o.set j (.sl false false n p))],false,r.lst,true⟩:=ax _ _ _;funext k
  by_cases hkx:rt k=x
  rotate_left
  ·rw[az _ _ (fun e=>hkx (by rw[e,je (by have:=cK;omega)])),<- z,az _ _ (fun e=>hkx (by rw[e,wc B]))];exact eF (by rw[az _ _ hkx])
  rcases qf hkx with rfl|⟨i,rfl⟩
  ·rw[ax,fY ah rfl rfl B]
  ·rw[az _ _ (by have:=fJ x i;have:=cK;omega),fe ah rfl rfl B,<- z]
   by_cases hij:i=j
   ·rw[hij,ax,alk aa];rfl
   ·rw[az _ _ (fun e=>hij (uS B B e).2),fe O P Q B,aln (fun e=>hij e.symm),hz]
 rw[K]at hB;refine⟨hB,?_⟩;rintro b (W|⟨k,Z,X,f,E,l,J⟩)
 ·exact .inl W
 ·rw[<- K]at f
  by_cases hkx:k=x
  ·subst hkx;exact .inr ⟨k,_,X,fY O P Q B,hz,l,J⟩
  ·rw[az _ _ hkx,<- z]at f
   by_cases m:k=NK x j
   ·rw[m,ax]at f;cases f
   ·rw[az _ _ m]at f;exact .inr ⟨k,Z,X,f,E,l,J⟩
end
def tR (s:Nat):D->Bool
 | .nx n xs=>xs.length==n*s
 | d=>fA d
def nF (k o:Nat) (a:List D):List D:=a.mapIdx fun i d=>if o<=i∧i<o+k then y4 d else d
section
variable {P:Program} {T:Nat->Option Ty} {N:Nat} {M:Nat->Prop} {L:kx} {w0:World} {blk:Nat->Option (Nat×Nat)} {V:Nat->Nat->Prop} {t:Nat->D} {h:Nat->Option Row} {a:Act} {w:World} {e:Nat} {o:Oper} {Γ:Env}
def Lf (o:Nat) (a:List D):nF 0 o a=a:=by
 unfold nF;apply akE;intro i;rw[alj];cases a[i]? with
 | none=>rfl
 | some d=>simp only[Option.map_some];rw[if_neg (by omega)]
def tz (k o:Nat) (a:List D) (i:Nat):(nF k o a)[i]? = (a[i]?).map fun d=>if o<=i∧i<o+k then y4 d else d:=by
 unfold nF;rw[alj]
def Inv.aca (H:Inv N M L w0 blk V t (EH h) a w) {x:Nat} {r:Row} {z s A o:Nat} {c:List D} (I:h x=some r) (B:r.mp=true) (C:r.cells=[.nr z s A c]) (E:r.fz=false) (J:x<PK):∀k:Nat,((c.drop o).take k).all (tR s)=true ->
  Inv N M L w0 blk V t (EH (b6 h x (some ⟨r.v,r.ty,[.nr z s A (nF k o c)],false,r.lst,true⟩))) a w∧∀b,Own M (EH (b6 h x (some ⟨r.v,r.ty,[.nr z s A (nF k o c)],false,r.lst,true⟩))) blk b->Own M (EH h) blk b
 | 0,_=>by
  have:b6 h x (some (⟨r.v,r.ty,[.nr z s A (nF 0 o c)],false,r.lst,true⟩:Row))=h:=by
   funext k
   by_cases K:k=x
   ·rw[K,ax,Lf,I];cases r;simp only at B C E;rw[B,C,E]
   ·rw[az _ _ K]
  rw[this];exact⟨H,fun _ h=>h⟩
 | k+1,f=>by
  have m:((c.drop o).take k).all (tR s)=true:=by
   rw[aiC]at f ⊢;intro d S;obtain⟨i,l⟩:=aiN S;refine f d (aiT (i:=i) ?_);rw[aiH]at l ⊢;split at l
   ·rw[if_pos (by omega)];exact l
   ·cases l
  obtain⟨O,h2⟩:=H.aca I B C E J k m;have p:(∀n j,c[o+k]?≠some (.nx n j))->nF (k+1) o c=nF k o c:=by
   intro T;apply akE;intro i;rw[tz,tz];cases q:c[i]? with
   | none=>rfl
   | some d =>
    simp only[Option.map_some,aiA]
    by_cases hik:i=o+k
    ·subst hik;rw[if_pos (by omega),if_neg (by omega)];cases d<;>first|rfl|exact absurd q (T _ _)
    ·by_cases g:o<=i∧i<o+k
     ·rw[if_pos g,if_pos (by omega)]
     ·rw[if_neg g,if_neg (by omega)]
  by_cases hnx:∃n j,c[o+k]? = some (.nx n j)
  rotate_left
  ·rw[p fun n j h=>hnx ⟨n,j,h⟩];exact⟨O,h2⟩
  obtain⟨n,j,hnx⟩:=hnx;have u:j.length=n*s:=by
   have:=aiC.1 f (.nx n j) (aiT (i:=k) (by rw[aiH,if_pos (by omega),aiI];exact hnx));simpa [tR] using this
  have v:nF (k+1) o c=(nF k o c).set (o+k) (.sl false false n j):=by
   have F:=(aiU.1 hnx).1;apply akE;intro i;rw[tz]
   by_cases hik:i=o+k
   ·subst hik;rw[alk (by simpa [nF] using F),hnx];simp only[Option.map_some];rw[if_pos (by omega)];rfl
   ·rw[aln (fun e=>hik e.symm),tz];cases q:c[i]? with
    | none=>rfl
    | some d =>
     simp only[Option.map_some,aiA]
     by_cases g:o<=i∧i<o+k
     ·rw[if_pos g,if_pos (by omega)]
     ·rw[if_neg g,if_neg (by omega)]
  have U:(nF k o c)[o+k]? = some (.nx n j):=by
   rw[tz,hnx];simp only[Option.map_some];rw[if_neg (by omega)]
  obtain⟨P,Q⟩:=O.aek (x:=x) (ax _ _ _) rfl rfl rfl J U u;have y:∀(R G:Option Row),b6 (b6 h x R) x G=b6 h x G:=by
   intro R G;funext i
   by_cases l:i=x
   ·rw[l,ax,ax]
   ·rw[az _ _ l,az _ _ l,az _ _ l]
  rw[y,<- v]at P Q;exact⟨P,fun b W=>h2 b (Q b W)⟩
def Lu (x:Nat) (r:Row) (c s o k:Nat):Option Nat->Option (D×List D)->Option ca
 | some b,some (d,a)=>if ((a.drop o).take k).all (tR s)=true then some ⟨d,[(x,some ⟨r.v,r.ty,[.nr c s b (nF k o a)],false,r.lst,true⟩)]⟩ else none
 | _,_=>none
def E4 (e x:Nat) (r:Row) (a s b:Nat) (c:List D) (o:Nat):Option (Nat×(Nat->Nat->Nat->Nat->List D->List D->Option (D×List D)))->Option (List D×List Nat)->Option ca
 | some p,some (aim,[])=>Lu x r a s o p.1 (bump b e) (p.2 r.ty a s o c aim)
 | _,_=>none
def ub (Γ:Env) (e:Nat) (h:Nat->Option Row) (g:Nat):List D->Option ca
 | .ptr x v o::rest =>
  match gq h x v with
  | some (r,ty,s,nv,cs)=>E4 e x r ty s nv cs o (Γ.nx.lnd g) (bQ (EH h) rest)
  | none=>none
 | _=>none
def u7 {g:Nat} {j:List D} {E:ca} (a:ub Γ e h g j=some E):∃x v o b r k s m n p f i d c,j=.ptr x v o::b∧gq h x v=some (r,k,s,m,n)∧Γ.nx.lnd g=some p∧bQ (EH h) b=some (f,[])∧bump m e=some i∧p.2 r.ty k s o n f=some (d,c) ∧
  ((c.drop o).take p.1).all (tR s)=true∧E=⟨d,[(x,some ⟨r.v,r.ty,[.nr k s i (nF p.1 o c)],false,r.lst,true⟩)]⟩:=by
 unfold ub at a;split at a<;>try (cases a;done)
 rename_i x v o b;split at a<;>try (cases a;done)
 rename_i r k s m n t;unfold E4 at a;split at a<;>try (cases a;done)
 rename_i p f u q;unfold Lu at a;split at a<;>try (cases a;done)
 rename_i i d c w y;split at a<;>try (cases a;done)
 rename_i l;exact⟨x,v,o,b,r,k,s,m,n,p,f,i,d,c,rfl,t,u,q,w,y,l,by simpa using a.symm⟩
def YV (hΓ:bI P Γ) (hI:Inv N M L w0 blk V t (EH h) a w) (S:abI V h e) {g:Nat} {dst:Option Nat} {m:List D} {c:Array Value} {E:ca} (hE:ub Γ e h g m=some E) (F:c.size=m.length)
  (hr:∀(j:Nat) d,m[j]? = some d->RT w (Own M (EH h) blk) (EH h) blk V d (c.getD j undef)):eD P g∧Calls P g c w fun e' w'=>∃v,e'=.returned v∧kq N M L w0 V t h a e dst E v w':=by
 obtain⟨x,v,o,z,r,T,s,nv,U,p,W,X,d,ak,rfl,hl,hp,Y,hb,hs,G,rfl⟩:=u7 hE;obtain⟨A,hv,Z,B,f,C⟩:=jn hl;obtain⟨aa,n⟩:=hΓ.lnd g p hp;refine⟨aa,?_⟩;have h0:=hr 0 _ rfl;have ab:=fY A B C f;obtain⟨g0,H,ad⟩:=h0.2 _ ab hv;have ae:c = #[.pointer (some ⟨g0.1,g0.2+o,none⟩)]++c.extract 1 c.size:=by
  have h1:0<c.size:=by rw[F];simp
  rw[<- ad];apply ajE
  ·simp;omega
  ·intro i h1 h2;cases i with
   | zero=>simp[ajC h1]
   | succ i=>simp[ajH];congr 1;omega
 have I:(c.extract 1 c.size).size=z.length:=by simp at F ⊢;omega
 have ag:∀(j:Nat) d,z[j]? = some d->RT w (Own M (EH h) blk) (EH h) blk V d ((c.extract 1 c.size).getD j undef):=by
  intro j d hj;have:=hr (j+1) d (by simpa using hj);have e1:(c.extract 1 c.size).getD j undef=c.getD (j+1) undef:=by
   simp only[aiw];congr 1;rw[ajJ];split
   ·congr 1;omega
   ·rename_i Q;rw[ajK (by omega)]
  rw[e1];exact this
 obtain⟨M',q⟩:∃M':Nat->Prop,∀b,M' b↔Own M (EH h) blk b∧¬InX blk h x b:=⟨_,fun _=>Iff.rfl⟩;have hInX:∀b,InX blk h x b->Own M (EH h) blk b:=by
  rintro b ⟨k,r',g',q0,q1,q2,q3⟩;refine .inr ⟨k,r',g',q1,?_,q2,q3⟩;rcases eX A B C f q0 q1 with⟨_,rfl⟩|⟨_,_,_,_,_,rfl⟩<;>exact Z
 have y:=Lk (blk:=blk) A B C f;have hQ:∀b,(M' b∨yj (sH blk x) (EH (nD (ja r.ty T s 0 U))) b)->Own M (EH h) blk b:=fun b hb=>hb.elim (fun hb=>((q b).1 hb).1) (fun hb=>hInX b ((y b).1 hb));have l:=hI.ER Y ⟨fun b h=>h,fun x A=>by cases A⟩ I ag;have hA:Ay w (fun b=>M' b∨yj (sH blk x) (EH (nD (ja r.ty T s 0 U))) b) W (c.extract 1 c.size):=⟨l.1,fun j d hj=>(l.2 j d hj).less hQ,fun b hb=>(l.tab b hb).less hQ⟩;rw[ae];refine (n _ _ _ _ _ _ _ _ hs w M' (sH blk x) _ _ g0 _ rfl rfl (fun b hb=>hI.Aj ((q b).1 hb).1) (fun b hb ah=>((q b).1 ah).2 ((y b).1 hb)) (by rw[sH,tP];exact H) (hI.aeq A B C Z f hQ) hA).mono fun e' w' hg =>?_;obtain⟨u,J,he,hbey,q0,ai,K,qR,aj⟩:=hg;refine⟨u,he,p7 blk J x,?_⟩;obtain⟨k1,k2⟩:=hI.back A B C Z f (S x r T s nv U X A B C f hb) H rfl q ⟨hbey.os,hbey.tape,hbey.output,hbey.size,fun k hk hn=>hbey.block k hk fun Q=>hn ((y k).1 Q)⟩ q0 ai (fun b hb=>(K b hb).imp id fun Q=>(y b).1 Q) qR;obtain⟨k3,k4⟩:=k1.aca (x:=x) (o:=o) (ax _ _ _) rfl rfl rfl f p.1 G;have O:∀(r1 r2:Option Row),b6 (b6 h x r1) x r2=b6 h x r2:=by
  intro r1 r2;funext i
  by_cases R:i=x
  ·rw[R,ax,ax]
  ·rw[az _ _ R,az _ _ R,az _ _ R]
 rw[O]at k3 k4;exact⟨k3.weaken fun _ _ h =>.inl h,bR (aj.less fun b hb=>k2 b (k4 b hb))⟩
end
def RX:D->D->Option D
 | .nx _ _,.sl true true 0 []=>some (.nx 0 [])
 | .nx _ _,_=>none
 | _,d=>if fA d=true then some (canon d) else none
def uF:List D->List D->Option (List D)
 | [],[]=>some []
 | c::a,x::b =>
  match RX c x,uF a b with
  | some y,some d=>some (y::d)
  | _,_=>none
 | _,_=>none
def stZ (x:Nat) (r:Row) (b s:Nat):Option Nat->Option (List D)->Option ca
 | some a,some cs'=>some ⟨.und,[(x,some ⟨r.v,r.ty,[.nr b s a cs'],false,r.lst,true⟩)]⟩
 | _,_=>none
def TJ (n e x:Nat) (r:Row) (b s c:Nat) (d:List D):D->Option ca
 | .agg a=>if a.length=n then stZ x r b s (bump c e) (uF d a) else none
 | _=>none
def rQ (τ:Ty) (e:Nat) (h:Nat->Option Row) (p d:D):Option ca :=
 match p with
 | .ptr x v o =>
  match gq h x v with
  | some (r,b,s,c,a)=>if r.lst=false∧o=0∧a.length=τ.size then TJ τ.size e x r b s c a d else none
  | none=>none
 | _=>none
def S7 (x:Nat) (r:Row) (a s b:Nat) (c:List D):Option D->Option ca
 | some d=>some ⟨d,[(x,some ⟨r.v,r.ty,[.nr a s b c],false,r.lst,true⟩)]⟩
 | none=>none
def rM (τ:Ty) (h:Nat->Option Row):D->Option ca
 | .ptr x v o =>
  match gq h x v with
  | some (r,b,s,c,a)=>if r.lst=false∧o=0∧a.length=τ.size∧1<τ.size∧a.all (tR s)=true then S7 x r b s c (nF τ.size 0 a) (kU τ (a.map y4)) else none
  | none=>none
 | _=>none
def orE:Option ca->Option ca->Option ca
 | some E,_=>some E
 | none,y=>y
def w8 (τ:Ty) (h:Nat->Option Row) (p:D):Option ca:=orE (rM τ h p) (rN τ h p)
def xa (τ:Ty) (e:Nat) (h:Nat->Option Row) (p d:D):Option ca:=orE (rQ τ e h p d) (oO τ e h p d)
def RY:∀ {a xs ys:List D},uF a xs=some ys->ys.length=a.length∧xs.length=a.length∧∀(j:Nat) c x,a[j]? = some c->xs[j]? = some x->∃y,ys[j]? = some y∧RX c x=some y
 | [],[],ys,h=>by simp only[uF,aiA]at h;subst h;exact⟨rfl,rfl,fun j c x b=>by simp at b⟩
 | c::a,x::xs,ys,h=>by
  simp only[uF]at h;split at h
  ·rename_i y e f g;simp only[aiA]at h;subst h;obtain⟨i,k,l⟩:=RY g;refine⟨by simp[i],by simp[k],fun j m n b d =>?_⟩;cases j with
   | zero =>
    simp only[List.getElem?_cons_zero,aiA]at b d ⊢;subst b d;exact⟨y,rfl,f⟩
   | succ j=>exact l j m n (by simpa using b) (by simpa using d)
  ·cases h
 | [],x::xs,ys,h=>by simp[uF]at h
 | c::a,[],ys,h=>by simp[uF]at h
def HT {c x y:D} (h:RX c x=some y):(x=.sl true true 0 []∧y=.nx 0 [])∨(fA x=true∧y=canon x):=by
 unfold RX at h;split at h
 ·simp only[aiA]at h;exact .inl ⟨rfl,h.symm⟩
 ·cases h
 ·split at h
  ·rename_i a;simp only[aiA]at h;exact .inr ⟨a,h.symm⟩
  ·cases h
section
variable {P:Program} {T:Nat->Option Ty} {N:Nat} {M:Nat->Prop} {L:kx} {w0:World} {blk:Nat->Option (Nat×Nat)} {V:Nat->Nat->Prop} {t:Nat->D} {h:Nat->Option Row} {a:Act} {w:World} {e:Nat} {o:Oper} {Γ:Env}
def Zv (x:Nat):Eh (EH h) (fun k=>if rt k=x∧k≠x then none else EH h k):=by
 intro k b a;simp only at a;split at a
 ·cases a
 ·exact⟨b,a,.refl _⟩
open Classical in
def Zt (hT:ji P T) (hI:Inv N M L w0 blk V t (EH h) a w) (aD:abI V h e) {ty:Nat} {p x:Operand} {τ:Ty} {E:ca} (ho:o.op=.store ty p x) (hτ:T ty=some τ) (C:rQ τ e h (ev t p) (ev t x)=some E):eE P o a w (kq N M L w0 V t h a e o.dst E):=by
 have hp:=hI.ev p;have hq:=hI.ev x;have aP:=hI.big;have aQ:=cK;generalize ev t p=pd at *;generalize ev t x=d at *;unfold rQ at C;split at C<;>try (cases C;done)
 rename_i y v c0;split at C<;>try (cases C;done)
 rename_i r K s nv cs hl;obtain⟨hx,hv,hz,hm,z,hc⟩:=jn hl;have ad:=fY hx hm hc z;obtain⟨g,hg,an⟩:=hp.2 _ ad hv;split at C<;>try (cases C;done)
 rename_i ae;obtain⟨_,rfl,aR⟩:=ae;unfold TJ at C;split at C<;>try (cases C;done)
 rename_i n;split at C<;>try (cases C;done)
 rename_i aE;unfold stZ at C;split at C<;>try (cases C;done)
 rename_i O F hb aF;simp only[aiA]at C;subst C;obtain⟨z1,z2,z3⟩:=RY aF;have ao:RP w (Own M (EH h) blk) (.agg n) (a.eval x):=hq;obtain⟨m,aG,aH,aq⟩:∃m:List Value,a.eval x=.agg m.toArray∧m.length=n.length∧∀j x,n[j]? = some x->RP w (Own M (EH h) blk) x (m.getD j undef):=by
  generalize a.eval x=u at ao;cases ao with
  | agg n m h1 h2 h3=>exact⟨m,rfl,h1,h2⟩
 have aI:∀(j:Nat) x,n[j]? = some x->fA x=true:=by
  intro j x f;have Z:=(aiU.1 f).1;obtain⟨y',_,k2⟩:=z3 j _ x (aiE (by omega)) f;rcases HT k2 with⟨rfl,_⟩|⟨k3,_⟩
  ·rfl
  ·exact k3
 have ar:∀u∈m,u.oneCell'=true:=by
  intro u hu;obtain⟨j,f⟩:=aiN hu;have Z:=(aiU.1 f).1;have Q:=aiE (l:=n) (i:=j) (by omega);have:=aq j _ Q;have Y:m.getD j undef=u:=by simp[List.getD,f]
  rw[Y]at this;exact this.qO (fB (aI j _ Q)).1
 obtain⟨B,k1,k2,k3⟩:=hI.Bg hx hm hc z hg;have R:=run_storeCells_at P g.1 (g.2+0) r.ty m 0 B w k1 (by omega) ar;rw[ai0]at R;have au:(B.toList.take g.2++m++B.toList.drop (g.2+m.length)).toArray.size=B.size:=by simp;omega
 have U:∀j,j<cs.length->(B.toList.take g.2++m++B.toList.drop (g.2+m.length)).toArray.getD (g.2+j) undef=m.getD j undef:=by
  intro j f;have:=tw B m g.2 (g.2+j) (by omega);rw[this,if_neg (by omega),if_pos (by omega)];congr 1;omega
 generalize aS:(B.toList.take g.2++m++B.toList.drop (g.2+m.length)).toArray=arr' at R au U;obtain⟨H,av,hheap⟩:=Bt (g:=g) (arr':=arr') k1;have aw:Own M (EH h) blk g.1 := .inr ⟨y,_,g,ad,hz,hg,rfl⟩;have hK:∀o,NK y o≠y∧2*PK<=NK y o:=fun o=>by have:=fJ y o;omega
 have ag:=Zv (h:=h) y;have hA:=hI.le ag;generalize ah:(fun k=>if rt k=y∧k≠y then none else EH h k)=h1 at hA ag;have aJ:h1 y=some ⟨r.v,r.ty,cs.mapIdx (su y s),r.fz,r.lst,true⟩:=by
  rw[<- ah];simp only[ne_eq,not_true_eq_false,and_false,if_false];exact ad
 have ai:∀o,h1 (NK y o)=none:=fun o=>by
  rw[<- ah];simp only;rw[if_pos ⟨wc z,(hK o).1⟩]
 have ay:∀k,rt k≠y->h1 k=EH h k:=fun k hk=>by
  rw[<- ah];simp only;rw[if_neg (fun hh=>hk hh.1)]
 have ab:∀(j:Nat) d,F[j]? = some d->(d=.nx 0 []∧m.getD j undef=.slice none 0 0)∨(fA d=true∧RP w (Own M (EH h) blk) d (m.getD j undef)):=by
  intro j d f;have Z:=(aiU.1 f).1;have Q:=aiE (l:=n) (i:=j) (by omega);obtain⟨y',q1,q2⟩:=z3 j _ _ (aiE (by omega)) Q;rw[f]at q1;cases q1;have hr:=aq j _ Q;rcases HT q2 with⟨Y,rfl⟩|⟨Y,rfl⟩
  ·refine .inl ⟨rfl,?_⟩;rw[Y]at hr;generalize m.getD j undef=u at hr;cases hr with
   | sl A c _ _ _ _ aT g1 g2 g3 g4 g5 g6 g7 g8 =>
    obtain⟨rfl,rfl⟩:=(g3 rfl).1 rfl;rfl
  ·refine .inr ⟨?_,hr.canon⟩;generalize n[j]=q at Y;cases q<;>first|rfl|cases Y
 have aj:∀ {d:D} {u:Value},RP w (Own M (EH h) blk) d u->RP (w.setRow g.1 arr') (Own M h1 blk) d u:=fun hr=>hr.keep fun b q1 q2=>⟨by rw[av];exact q1,CC ag q2,hheap b (fun e=>q2 (e ▸ aw))⟩;have hB:=hA.ke (x:=y) (r0:=⟨r.v,r.ty,F.mapIdx (su y s),false,r.lst,true⟩) (w':=w.setRow g.1 arr') aJ hz rfl rfl rfl rfl (by rw[av];exact air _) (fun b _ hb=>hheap b (hb g hg)) (by
  rw[hg];refine⟨by simp[World.shape?,H,k1,au],.inr ⟨fun d hd =>?_,arr',H,by simp only[alh];omega,fun j d f =>?_⟩⟩
  ·obtain⟨j,f⟩:=aiN hd;simp only[alj,aip]at f;obtain⟨d0,_,rfl⟩:=f;exact mE _ _ _ _
  ·simp only[alj,aip]at f;obtain⟨d0,G,rfl⟩:=f;have Z:=(aiU.1 G).1;rw[U j (by omega)];rcases ab j d0 G with⟨rfl,_⟩|⟨q1,q2⟩
   ·trivial
   ·rw[lf q1];exact (fB q1).2.2.2 (aj q2)) (fun hh=>by cases hh) (fun _ g' aA j x' s' n' f=>by
  rw[hg]at aA;cases aA;simp only[alj,aip]at f;obtain⟨d0,G,he⟩:=f;obtain⟨aU,rfl,rfl,rfl⟩:=sw he;have Z:=(aiU.1 G).1;exact⟨⟨z,.inr rfl⟩,_,aW H (by omega),fun r1 aB=>by rw[ai]at aB;cases aB⟩)
 obtain⟨S,hS⟩:∃S:Nat->Prop,∀k,S k↔∃o n,k=NK y o∧F[o]? = some (.nx 0 n):=⟨_,fun _=>Iff.rfl⟩;have W:∀(j n':Nat) (n:List D),F[j]? = some (.nx n' n)->n'=0∧n=[]∧m.getD j undef=.slice none 0 0:=by
  intro j n' n f;rcases ab j _ f with⟨Y,e2⟩|⟨Y,_⟩
  ·cases Y;exact⟨rfl,rfl,e2⟩
  ·cases Y
 have ak:b6 h y (some (⟨r.v,r.ty,[.nr K s O F],false,r.lst,true⟩:Row)) y=some ⟨r.v,r.ty,[.nr K s O F],false,r.lst,true⟩:=ax _ _ _;have hC:=hB.addEmpty S K O (h':=EH (b6 h y (some ⟨r.v,r.ty,[.nr K s O F],false,r.lst,true⟩))) (blk':=fun k=>if S k then none else blk k) (fun k hk=>by
   obtain⟨I,n,rfl,aa⟩:=(hS k).1 hk;have:=hK I;exact⟨by omega,by omega,aD y r K s nv cs O hx hm hc z hb I,by rw[az _ _ (hK I).1,ai]⟩) (fun k hk=>by
   refine⟨?_,by rw[if_pos hk]⟩;obtain⟨I,n,rfl,aa⟩:=(hS k).1 hk;rw[fe ak rfl rfl z,aa];obtain⟨_,rfl,_⟩:=W I 0 n aa;rfl) (fun k hk=>by
   refine⟨?_,by rw[if_neg hk]⟩
   by_cases hkd:rt k=y
   ·rcases qf hkd with rfl|⟨I,rfl⟩
    ·rw[ax,fY ak rfl rfl z]
    ·rw[az _ _ (hK I).1,ai,fe ak rfl rfl z];cases aC:F[I]? with
     | none=>rfl
     | some d0 =>
      cases d0 with
      | nx n' n =>
       obtain⟨rfl,_,_⟩:=W I n' n aC;exact absurd ((hS _).2 ⟨I,n,rfl,aC⟩) hk
      | _=>rfl
   ·rw[az _ _ (fun e=>hkd (by rw[e,je (by omega)])),ay k hkd];exact eF (by rw[az _ _ hkd])) (fun y1 r1 g1 hy aK al j x' s' n' f hs=>by
   obtain⟨I,n,rfl,aa⟩:=(hS _).1 hs;obtain⟨⟨p1,p2⟩,u,p3,_⟩:=hB.pha y1 r1 g1 hy aK al j _ s' n' f;rcases p2 with p2|p2
   ·have:=fJ y I;omega
   obtain⟨rfl,rfl⟩:=uS z p1 p2;rw[ax]at hy;rw[hg]at al;cases hy;cases al;simp only[alj,aip]at f;obtain⟨d0,G,he⟩:=f;obtain⟨aL,rfl,_,rfl⟩:=sw he;obtain⟨aM,_,aN⟩:=W I n' aL G;have aV:=(aiU.1 G).1;refine⟨_,aW H (by omega),aM,none,?_⟩;rw[U I (by omega)];exact aN)
 refine .inr (.inl ⟨w.setRow g.1 arr',?_,fun k=>if S k then none else blk k,?_,trivial⟩)
 ·have J:(a.eval x).cells.toList=m:=by rw[aG];rfl
  have aO:(a.eval x).cells.size=τ.size:=by rw[<- aE,<- aH,<- J];simp
  have X:(storeCells ⟨g.1,g.2+0,none⟩ (a.eval x).cells.toList 0).run P w=.ok () (w.setRow g.1 arr'):=by rw[J];exact R
  rw[ai0]at X an;simp[execOp,ho,Instr.storeAt,Instr.sureAddr,an,storeVar,run_sizeOf (hT ty τ hτ),aO,X]
 ·exact hC.weaken fun _ _ h =>.inl h
open Classical in
def Zp (hT:ji P T) (hI:Inv N M L w0 blk V t (EH h) a w) {B d W s f:Nat} {τ:Ty} {E:ca} (ho:o.op=.alloc B) (hd:o.dst=some d) (hV:j0 N V d e) (ag:∀o,¬V (NK d o) (4*e+2)) (hτ:T B=some τ)
  (hE:mkA τ B e d W s f=some E):eE P o a w (kq N M L w0 V t h a e o.dst E):=by
 have ao:=hI.big;have aq:=cK;unfold mkA at hE;split at hE<;>try (cases hE;done)
 rename_i X;obtain⟨c4,c5,c6,l,Y⟩:=X;simp only[aiA]at hE;subst hE;obtain⟨z,ah,ai⟩:=ko (hT B τ hτ) w;have ar:(τ.zero.map pq).length=τ.size:=by rw[aiV,c6]
 have hf:f<τ.size:=by
  rw[alg]at Y;rcases ajc f τ.size with Z|au
  ·exact Z
  ·rw[aj7 (by omega)]at Y;cases Y
 have ad:(τ.zero.map pq)[f]? = some (.sl true true 0 []):=by
  rw[alg]at Y;unfold aar at Y;split at Y
  ·assumption
  ·cases Y
 have aj:(ov τ f).length=τ.size:=by
  unfold ov;rw[kY (by simp;omega)];simp[c6]
 have C:∀(m:Nat) (x:D),(ov τ f)[m]? = some x->(m=f∧x=.nx 0 [])∨(m≠f∧∃y,(τ.zero.map pq)[m]? = some y∧x=canon y):=by
  intro m x I;unfold ov at I
  by_cases aa:m=f
  ·subst aa;rw[gm (by simp;omega)]at I;exact .inl ⟨rfl,by simpa using I.symm⟩
  ·rw[iO (by simp;omega) aa,aio,aip]at I;obtain⟨y,h1,h2⟩:=I;exact .inr ⟨aa,y,h1,h2.symm⟩
 obtain⟨F,J⟩:∃F:Array Value,F=τ.zero.toArray:=⟨_,rfl⟩;have av:F.size=τ.size:=by rw[J];simpa using c6
 have U:∀(M':Nat->Prop) (w':World) (j:Nat) (x:D),(ov τ f)[j]? = some x->fA x=true->RP w' M' x (F.getD j undef):=by
  intro M' w' j x c ak;rw[J];rcases C _ x c with⟨_,rfl⟩|⟨_,y,h1,rfl⟩
  ·cases ak
  ·exact (sD (w:=w') (M:=M') τ.zero (aiC.2 fun y hy=>(fB (aiC.1 c5 y hy)).1) _ y h1).2.canon
 have p:∀(j:Nat) (n':Nat) (q:List D),(ov τ f)[j]? = some (.nx n' q)->n'=0∧q=[]∧F.getD j undef=.slice none 0 0:=by
  intro j n' q c;rcases C _ _ c with⟨I,A⟩|⟨_,y,h1,A⟩
  ·simp only[D.nx.injEq]at A;refine⟨A.1,A.2,?_⟩;rw[J,I];rw[aio,aip]at ad;obtain⟨v,v1,v2⟩:=ad;simp only[aiw,List.getElem?_toArray,v1,Option.getD_some];exact VK v2
  ·have:=aiC.1 c5 y (aiT h1);cases y<;>first|(cases A;done)|(cases this;done)
 generalize ov τ f=cs at aj C U p;have hA:=hI.le (AU (h:=h) d l);have hold:∀b,b<w.heap.size->(w.alloc (.cells F B)).heap[b]? = w.heap[b]?:=fun b hb=>Below.heap_alloc w _ b hb;have K:=(Below.refl w.heap.size w).alloc (air _) (.cells F B);have G:=heap_alloc_new w (.cells F B);have ab:∀o,EH (b6 h d none) (NK d o)=none:=fun o=>by rw[tT l,ax];rfl
 have H:∀o,NK d o≠d:=fun o=>by have:=fJ d o;omega
 have hB:=hA.EO (w':=w.alloc (.cells F B)) (h1:=EH (b6 h d none)) (old:=none) (d:=d) (e:=e) (r0:=⟨e,B,cs.mapIdx (su d s),false,false,true⟩) (go:=some (w.heap.size,0)) K.os K.tape K.output K.size (fun k O _=>hold k O) (fun y hy=>by cases hy) rfl hV
  ⟨.inl (air _),.inr ⟨fun x hx=>by
   obtain⟨j,c⟩:=aiN hx;simp only[alj,aip]at c;obtain⟨d0,n,rfl⟩:=c;exact mE _ _ _ _,F,G,by simp only[alh];omega,fun j x c=>by
   simp only[alj,aip]at c;obtain⟨d0,n,rfl⟩:=c;rw[ajf]
   by_cases Q:fA d0=true
   ·rw[lf Q];exact (fB Q).2.2.2 (U _ _ j d0 n Q)
   ·cases d0<;>first|trivial|exact absurd rfl Q⟩⟩ rfl rfl (fun _ g hg j x s' n' c=>by
   cases hg;simp only[alj,aip]at c;obtain⟨d0,n,A⟩:=c;obtain⟨q,rfl,rfl,rfl⟩:=sw A;have Z:=(aiU.1 n).1;refine⟨⟨l,.inr rfl⟩,_,aW G (by omega),fun r hr =>?_⟩;rw[az _ _ (H j),ab]at hr;cases hr)
 obtain⟨S,hS⟩:∃S:Nat->Prop,∀k,S k↔∃o q,k=NK d o∧cs[o]? = some (.nx 0 q):=⟨_,fun _=>Iff.rfl⟩;have hC:=hB.addEmpty S W (4*e+2) (h':=EH (b6 h d (some ⟨e,B,[.nr W s (4*e+2) cs],false,false,true⟩))) (blk':=fun k=>if S k then none else b6 blk d (some (w.heap.size,0)) k) (fun k O=>by
   obtain⟨i,q,rfl,R⟩:=(hS k).1 O;have:=fJ d i;refine⟨by omega,by omega,?_,by rw[az _ _ (H i),ab]⟩;rintro (hv|⟨A,_⟩)
   ·exact ag i hv
   ·exact H i A) (fun k O=>by
   refine⟨?_,by rw[if_pos O]⟩;obtain⟨i,q,rfl,R⟩:=(hS k).1 O;rw[fe (ax _ _ _) rfl rfl l,R];obtain⟨_,rfl,_⟩:=p i 0 q R;rfl) (fun k O=>by
   refine⟨?_,by rw[if_neg O]⟩
   by_cases hkd:rt k=d
   ·rcases qf hkd with rfl|⟨i,rfl⟩
    ·rw[ax,fY (ax _ _ _) rfl rfl l]
    ·rw[az _ _ (H i),ab,fe (ax _ _ _) rfl rfl l];cases ae:cs[i]? with
     | none=>rfl
     | some d0 =>
      cases d0 with
      | nx n' q =>
       obtain⟨rfl,_,_⟩:=p i n' q ae;exact absurd ((hS _).2 ⟨i,q,rfl,ae⟩) O
      | _=>rfl
   ·rw[az _ _ (fun e=>hkd (by rw[e,je (by omega)]))];exact eF (by rw[az _ _ hkd,az _ _ hkd])) (fun y r g hy I hg j x s' n' c hs=>by
   obtain⟨i,q,rfl,R⟩:=(hS _).1 hs;obtain⟨⟨p1,p2⟩,u,p3,_⟩:=hB.pha y r g hy I hg j _ s' n' c;rcases p2 with p2|p2
   ·have:=fJ d i;omega
   obtain⟨rfl,rfl⟩:=uS l p1 p2;rw[ax]at hy hg;cases hy;cases hg;simp only[alj,aip]at c;obtain⟨d0,n,A⟩:=c;obtain⟨al,rfl,_,rfl⟩:=sw A;obtain⟨k1,_,k3⟩:=p i n' al n;have Z:=(aiU.1 n).1;refine⟨_,aW G (by omega),k1,none,?_⟩;rw[ajf];exact k3)
 have an:¬S d:=fun hs=>by
  obtain⟨i,_,A,_⟩:=(hS d).1 hs;exact H i A.symm
 refine aN (v := .pointer (some ⟨w.heap.size,0,none⟩)) (w':=w.alloc (.cells F B)) ?_ ⟨fun k=>if S k then none else b6 blk d (some (w.heap.size,0)) k,?_,?_⟩
 ·rw[J];simp[execOp,ho,Instr.alloc,ah,newVar,newRow,ai]
 ·refine hC.weaken fun x v hx =>?_;rcases hx with hx|⟨rfl,rfl⟩
  ·exact .inl hx
  ·exact .inr ⟨hd,rfl⟩
 ·exact⟨.inr ⟨hd,rfl⟩,fun r hr hv=>⟨(w.heap.size,0),by simp only;rw[if_neg an,ax],rfl⟩⟩
def Zm (R:ji P T) (F:Inv N M L w0 blk V t (EH h) a w) {G:Nat} {p:Operand} {τ:Ty} {E:ca} (S:o.op=.load G p) (U:T G=some τ) (b:rM τ h (ev t p)=some E):eE P o a w (kq N M L w0 V t h a e o.dst E):=by
 have W:=F.ev p;generalize X:ev t p=q at *;unfold rM at b;split at b<;>try (cases b;done)
 rename_i x v c;split at b<;>try (cases b;done)
 rename_i r f s y i Y;obtain⟨H,Z,hz,I,k,J⟩:=jn Y;have z:=fY H I J k;obtain⟨g,hg,A⟩:=W.2 _ z Z;split at b<;>try (cases b;done)
 rename_i l;obtain⟨_,rfl,c1,_,K⟩:=l;unfold S7 at b;split at b<;>try (cases b;done)
 rename_i d hd;simp only[aiA]at b;subst b;obtain⟨O,_⟩:=F.aca (o:=0) H I J hz k τ.size (by rw[ajV,ajU (by omega)];exact K);have B:b6 h x (some (⟨r.v,r.ty,[.nr f s y (nF τ.size 0 i)],false,r.lst,true⟩:Row)) x=some ⟨r.v,r.ty,[.nr f s y (nF τ.size 0 i)],false,r.lst,true⟩:=ax _ _ _;have aa:(nF τ.size 0 i).length=i.length:=by simp[nF]
 have C:At w (Own M (EH (b6 h x (some ⟨r.v,r.ty,[.nr f s y (nF τ.size 0 i)],false,r.lst,true⟩))) blk) g.1 (g.2+0) (i.map y4):=by
  intro j d1 Q;rw[aio,aip]at Q;obtain⟨d0,m,rfl⟩:=Q;have D:=aiC.1 K d0 (aiT m);have ab:=(aiU.1 m).1;have n:fA (y4 d0)=true:=by
   cases d0<;>first|rfl|exact D
  have u:(nF τ.size 0 i)[0+j]? = some (y4 d0):=by
   rw[ajf,tz,m];simp only[Option.map_some];rw[if_pos (by omega)]
  obtain⟨ad,k1,k2,k3⟩:=O.Bg B rfl rfl k hg;have ae:=(aiU.1 u).1;refine⟨(fB n).1,_,?_,k3 _ _ u n⟩;rw[aiM];exact aW k1 (by omega)
 have:=sV (e:=e) (o:=o) R O S U A C (by rw[aiV];exact c1) hd;exact this
end
def Lt (e d:Nat):Option (Nat×Nat×Nat×Nat×Nat×List D)->Option ca
 | some (a,t,s,S,n,b)=>if d<PK then some ⟨.buf d e S 0 n,[(d,some ⟨e,a,[.nr t s (4*e+2) b],false,true,true⟩)]⟩ else none
 | none=>none
def I0 (p:List D->Option (Nat×Nat×Nat×Nat×Nat×List D)) (e d:Nat):Option (List D×List Nat)->Option ca
 | some (aim,[])=>Lt e d (p aim)
 | _=>none
def zu {p:List D->Option (Nat×Nat×Nat×Nat×Nat×List D)} {e d:Nat} {c:Option (List D×List Nat)} {E:ca} (a:I0 p e d c=some E):∃b f t s S n g,c=some (b,[])∧p b=some (f,t,s,S,n,g)∧d<PK∧E=⟨.buf d e S 0 n,[(d,some ⟨e,f,[.nr t s (4*e+2) g],false,true,true⟩)]⟩:=by
 unfold I0 at a;split at a<;>try (cases a;done)
 rename_i b;unfold Lt at a;split at a<;>try (cases a;done)
 rename_i f t s S n g h;split at a<;>try (cases a;done)
 rename_i i;exact⟨b,f,t,s,S,n,g,rfl,h,i,by simpa using a.symm⟩
section
variable {P:Program} {T:Nat->Option Ty} {N:Nat} {M:Nat->Prop} {L:kx} {w0:World} {blk:Nat->Option (Nat×Nat)} {V:Nat->Nat->Prop} {t:Nat->D} {h:Nat->Option Row} {a:Act} {w:World} {e:Nat} {o:Oper} {Γ:Env}
def YT (hΓ:bI P Γ) (hI:Inv N M L w0 blk V t (EH h) a w) {g d:Nat} {al:Option Nat} {p:List D->Option (Nat×Nat×Nat×Nat×Nat×List D)} {J:List D} {vs:Array Value} {E:ca} (hd:al=some d) (hV:j0 N V d e) (ar:∀o',¬V (NK d o') (4*e+2)) (hp:Γ.nx.res g=some p)
  (hE:I0 p e d (bQ (EH h) J)=some E) (au:vs.size=J.length) (hr:∀(j:Nat) d,J[j]? = some d->RT w (Own M (EH h) blk) (EH h) blk V d (vs.getD j undef)):eD P g∧Calls P g vs w fun e' w'=>∃v,e'=.returned v∧kq N M L w0 V t h a e al E v w':=by
 obtain⟨aJ,Y,ti,s,S,n,C,av,hs,f,rfl⟩:=zu hE;obtain⟨aw,U⟩:=hΓ.res g p hp;refine⟨aw,?_⟩;have ad:=hI.ER av ⟨fun b h=>h,fun x hx=>by cases hx⟩ au hr;refine (U _ _ _ _ _ _ _ hs w (Own M (EH h) blk) _ vs rfl (fun b hb=>hI.Aj hb) ad).mono fun e' w' r =>?_;obtain⟨u,c,q,hbel,an,hR,hu⟩:=r;refine⟨u,q,p7 blk c d,?_⟩;have hA:=hI.le (AU (h:=h) d f);generalize ae:b6 h d (some (⟨e,Y,[.nr ti s (4*e+2) C],false,true,true⟩:Row))=R;have ay:aR h [(d,some (⟨e,Y,[.nr ti s (4*e+2) C],false,true,true⟩:Row))]=R:=by rw[<- ae];rfl
 rw[ay];have A:R d=some ⟨e,Y,[.nr ti s (4*e+2) C],false,true,true⟩:=by rw[<- ae,ax]
 have aA:∀k,rt k=d->EH (b6 h d none) k=none:=fun k i=>Uh (by rw[i,ax]);have Z:∀k,rt k≠d->EH R k=EH (b6 h d none) k:=fun k i=>eF (by rw[<- ae,az _ _ i,az _ _ i]);have aa:∀k,rt k≠d->p7 blk c d k=blk k:=fun k i=>if_neg i;have W:p7 blk c d d=c 0:=by unfold p7;rw[if_pos (Bp f),wM]
 have ag:∀o,p7 blk c d (NK d o)=c (NK 0 o):=fun o=>by unfold p7;rw[if_pos (wc f),my f]
 have F:∀k z,rt k=d->EH R k=some z->∃I,EH (nD (ja Y ti s 0 C)) (H0 d k)=some I∧p7 blk c d k=c (H0 d k):=by
  intro k z i q;have hq:p7 blk c d k=c (H0 d k):=if_pos i;rcases eX A rfl rfl f i q with⟨rfl,_⟩|⟨o,n,xs,rfl,ho,_⟩
  ·rw[wM]at hq ⊢;exact⟨_,xL,hq⟩
  ·rw[my f]at hq ⊢;exact⟨_,vL ho,hq⟩
 have ab:∀b,Own M (EH R) (p7 blk c d) b->Own M (EH h) blk b∨yj c (EH (nD (ja Y ti s 0 C))) b:=by
  intro b ah;rcases ah with ah|⟨k,z,g,i,aB,r,q⟩
  ·exact .inl (.inl ah)
  ·by_cases X:rt k=d
   ·obtain⟨I,q1,q2⟩:=F k z X i;exact .inr ⟨_,I,g,q1,by rw[<- q2];exact r,q⟩
   ·rw[Z k X]at i;rw[aa k X]at r;refine .inl (.inr ⟨k,z,g,?_,aB,r,q⟩);rw[<- i];exact eF (by rw[az _ _ X])
 have ao:∀ {g:Nat×Nat} {I:Row},I.mp=false->ez w' (fun b=>Own M (EH h) blk b∨yj c (EH (nD (ja Y ti s 0 C))) b) g I->ez w' (Own M (EH R) (p7 blk c d)) g I:=by
  intro g I aC hr;unfold ez at hr ⊢;rw[aC]at hr ⊢;obtain⟨K,T,k2,k3⟩:=hr;exact⟨K,T,k2,fun j d B=>⟨(k3 j d B).1,(k3 j d B).2.less ab⟩⟩
 have G:∀k z,rt k=d->EH R k=some z->∀g,p7 blk c d k=some g->w.heap.size<=g.1:=by
  intro k z i q g r;obtain⟨I,q1,q2⟩:=F k z i q;exact an g.1 ⟨_,I,g,q1,by rw[<- q2];exact r,rfl⟩
 have aq:Inv N M L w0 (p7 blk c d) (fun y v=>V y v∨(y=d∧v=e)) t (EH R) a w':=by
  refine hA.adV (fun k=>rt k=d) (fun _ _ h =>.inl h) hbel.os hbel.tape hbel.output hbel.size (fun k i _=>hbel.block k i) (fun k z i q=>by rw[aA k i]at q;cases q) (fun k i=>⟨Z k i,aa k i⟩) ?_ ?_ ?_ ?_ ?_
  ·intro k z i q;rcases eX A rfl rfl f i q with⟨rfl,rfl⟩|⟨o,n,xs,rfl,ho,rfl⟩
   ·refine⟨rfl,fun hn =>.inr ⟨rfl,rfl⟩,?_⟩;rw[W];have m:=hR.rows 0 _ xL;cases r:c 0 with
    | none =>
     rw[r]at m;have h1:C.mapIdx (su 0 s)=[]:=m;have R:C.length=0:=by
      have:=congrArg List.length h1;simpa using this
     show C.mapIdx (su k s)=[];rw[ajL R];rfl
    | some g0 =>
     rw[r]at m;have m:ez w' (fun b=>Own M (EH h) blk b∨yj c (EH (nD (ja Y ti s 0 C))) b) g0 ⟨0,Y,C.mapIdx (su 0 s),false,true,true⟩:=m;refine⟨.inl (G k _ i q g0 (W.trans r)),?_⟩;unfold ez at m ⊢;simp only at m ⊢;rcases m with⟨ks,vs,T,_⟩|⟨_,K,k2,k3,k4⟩
     ·exfalso;simp only at T;have hl:C.length=1:=by
       have:=congrArg List.length T;simpa using this
      match C,hl with
      | [d],_ =>
       simp only[List.mapIdx_cons,List.mapIdx_nil,aiP,and_true]at T;have:=mE 0 s 0 d;rw[T]at this;cases this
     ·refine .inr ⟨fun d hd =>?_,K,k2,by simpa using k3,fun j d B =>?_⟩
      ·obtain⟨j,B⟩:=aiN hd;simp only[alj,aip]at B;obtain⟨d0,O,rfl⟩:=B;exact mE _ _ _ _
      ·simp only[alj,aip]at B;obtain⟨d0,O,rfl⟩:=B
       by_cases Q:fA d0=true
       ·rw[lf Q];have aD:(C.mapIdx (su 0 s))[j]? = some d0:=by rw[alj,O];exact congrArg some (lf Q)
        exact (fB Q).2.2.2 (((fB Q).2.2.1 (k4 j _ aD)).less ab)
       ·cases d0<;>first|trivial|exact absurd rfl Q
   ·refine⟨rfl,fun hn=>by have:=fJ d o;have:=hI.big;have:=cK;omega,?_⟩;have m:=hR.rows _ _ (vL ho);rw[ag];cases r:c (NK 0 o) with
    | none=>rw[r]at m;exact m
    | some g =>
     rw[r]at m;refine⟨.inl (G _ _ i q g ((ag o).trans r)),ao rfl ?_⟩;obtain⟨K,T,k2,k3⟩:=m;exact⟨K,T,k2,k3⟩
  ·intro k l I r2 g g' i hl q ai r aE aF;obtain⟨q1,p1,p2⟩:=F k I i q;obtain⟨q2,p3,p4⟩:=F l r2 hl ai;have e1:=hR.inj _ _ _ _ g g' p1 p3 (by rw[<- p2];exact r) (by rw[<- p4];exact aE) aF;rcases eX A rfl rfl f i q with⟨rfl,_⟩|⟨o,n,xs,rfl,ho,_⟩
   ·rcases eX A rfl rfl f hl ai with⟨rfl,_⟩|⟨o',n',aG,rfl,aH,_⟩
    ·rfl
    ·rw[wM,my f]at e1;have:=fJ 0 o';have:=cK;omega
   ·rcases eX A rfl rfl f hl ai with⟨rfl,_⟩|⟨o',n',aG,rfl,aH,_⟩
    ·rw[wM,my f]at e1;have:=fJ 0 o;have:=cK;omega
    ·rw[my f,my f]at e1;rw[(uS oH oH e1).2]
  ·intro k z i hv q;rcases eX A rfl rfl f i q with⟨rfl,rfl⟩|⟨o,n,xs,rfl,ho,rfl⟩
   ·exact absurd hv hV.no
   ·exact absurd hv (ar o)
  ·intro k z g i q aj r j x' s' n B;rcases eX A rfl rfl f i q with⟨rfl,rfl⟩|⟨o,n',xs,rfl,ho,rfl⟩;rotate_left
   ·cases aj
   simp only[alj,aip]at B;obtain⟨d0,O,aI⟩:=B;obtain⟨aK,rfl,rfl,rfl⟩:=sw aI;rw[W]at r;obtain⟨_,u,T,k2⟩:=hR.pha 0 _ g xL rfl r j (NK 0 j) s' n (by simp only[alj,O,Option.map_some,su]);refine⟨⟨f,.inr rfl⟩,u,T,fun _ _ =>?_⟩;have:=k2 _ (vL O);rw[ag];exact this
  ·intro y z j x' s' n hy q aj B ak;have H:=(hA.rows y z q).2;cases r:blk y with
   | none =>
    rw[r]at H;have H:z.cells=[]:=H;rw[H]at B;cases B
   | some g =>
    obtain⟨q1,q2⟩:=(hA.pha y z g q aj r j x' s' n B).1;rcases q2 with rfl|rfl
    ·have:rt (PK+y)=PK+y:=je (by omega);rw[this]at ak;omega
    ·rw[wc q1]at ak;rw[Bp q1]at hy;exact hy ak
 refine⟨aq.weaken fun x v hx =>?_,.inr ⟨hd,rfl⟩,fun z _ _ =>?_⟩
 ·rcases hx with hx|⟨rfl,rfl⟩
  ·exact .inl hx
  ·exact .inr ⟨hd,rfl⟩
 ·rw[W];exact hu.2 ⟨0,0,[],false,false,false⟩ rfl rfl
def Fh (z:Inv N M L w0 blk V t h a w) {c:Call} {f:Operand} {g:Nat} (B:o.op=.call c) (C:c.callee=.value f) (D:ev t f=.fn g) {Φ:Value->World->Prop}
  (E:∀n:Array Value,n.size=(c.args.toList.map (ev t)).length->(∀(j:Nat) d,(c.args.toList.map (ev t))[j]? = some d->RT w (Own M h blk) h blk V d (n.getD j undef))->eD P g∧Calls P g n w fun F G=>∃v,F=.returned v∧Φ v G):eE P o a w Φ:=by
 have k:=z.ev f;have e:∀(j:Nat) d,(c.args.toList.map (ev t))[j]? = some d->RT w (Own M h blk) h blk V d ((c.args.map a.eval).getD j undef):=by
  intro j d m;rw[aio]at m;cases p:c.args.toList[j]? with
  | none=>simp[p]at m
  | some x =>
   simp only[p,Option.map_some,aiA]at m;subst m;have:(c.args.map a.eval).getD j undef=a.eval x:=by
    have q:c.args[j]? = some x:=by simpa using p
    simp[q]
   rw[this];exact z.ev x
 have r:(c.args.map a.eval).size=(c.args.toList.map (ev t)).length:=by simp
 rw[D]at k;have l:a.eval f=.func (.func g) #[] #[]:=by
  have s:RP w (Own M h blk) (.fn g) (a.eval f):=k;generalize a.eval f=u at *;cases s;rfl
 obtain⟨⟨A,y,i,b⟩,H⟩:=E _ r e;have I:¬A.name = "runtime.NumGoroutine":=by simpa using i
 have J:¬A.body=none:=by
  intro K;rw[K]at b;cases b
 exact .inr (.inr ⟨g,#[]++c.args.map a.eval++#[],by simp[execOp,B,resolve,C,l,Deferred.ofValue,invoke,callFunc,program,Sem.run,y,I,J],by simpa using H⟩)
end
def jk (a:Operand->D):Op->Option (D×List D)
 | .call c=>match c.callee with | .value f=>some (a f,c.args.toList.map a)|_=>none
 | _=>none
def pD {d:Operand->D} {e:Op} {q:D} {a:List D} (b:jk d e=some (q,a)):∃c f,e=.call c∧c.callee=.value f∧q=d f∧a=c.args.toList.map d:=by
 unfold jk at b;split at b<;>try (cases b;done)
 rename_i c;split at b<;>try (cases b;done)
 rename_i f g;simp only[aiA,Prod.mk.injEq]at b;exact⟨c,f,rfl,g,b.1.symm,b.2.symm⟩
def Dq (Γ:Env) (e:Nat) (h:Nat->Option Row):Option (D×List D)->Option ca
 | some (.fn g,args)=>ub Γ e h g args
 | _=>none
def Fy (e d:Nat) (h:Nat->Option Row) (a:List D):Option (List D->Option (Nat×Nat×Nat×Nat×Nat×List D))->Option ca
 | some p=>I0 p e d (bQ (EH h) a)
 | none=>none
def pG (Γ:Env) (e:Nat) (h:Nat->Option Row):Option Nat->Option (D×List D)->Option ca
 | some d,some (.fn g,args)=>Fy e d h args (Γ.nx.res g)
 | _,_=>none
def w9 (T:Nat->Option Ty) (Γ:Env) (e:Nat) (o:Oper) (a:Operand->D) (h:Nat->Option Row):Option ca :=
 match o.op with
 | .load b p=>match T b with|some τ=>w8 τ h (a p)|none=>none
 | .store b p x=>match T b with|some τ=>xa τ e h (a p) (a x)|none=>none
 | .call c=>Dq Γ e h (jk a (.call c))
 | _=>none
def or2 (h:Nat->Option Row):Option ca->Option ca->Option ca
 | some ⟨v,hw⟩,_=>some ⟨v,lR h hw⟩
 | none,y=>y
def qG (T:Nat->Option Ty) (Γ:Env) (e:Nat) (o:Oper) (a:Operand->D) (h:Nat->Option Row):Option ca :=
 match iI T Γ e o a with
 | some E=>some E
 | none =>
  match pG Γ e h o.dst (jk a o.op) with
  | some E=>some E
  | none=>or2 h (sG T Γ e o a (EH h)) (w9 T Γ e o a h)
def cI (o:Oper) (a:Operand->D):List Nat:=(iB o a).map rt
def VE (N e:Nat) (done:List Nat) (h:Nat->Option Row) (x v:Nat):Prop:=(x<N∧(v<e∨(v=e∧x∈done))) ∨
 (2*PK<=x∧v<=4*e+3∧(x % PK∉done->v<=4*e+1)∧∀r b s a c,h (x % PK)=some r->r.mp=true->r.cells=[.nr b s a c]->v<=a)
def HX (e:Nat) (done:List Nat) (h:Nat->Option Row):Prop:=∀x r a s nv b,h x=some r->r.mp=true->r.cells=[.nr a s nv b]->x<PK->nv<=4*e+3∧(x∉done->nv<=4*e+1)
def iS (e:Nat) (h h':Nat->Option Row):Prop:=∀x r' b f a c,h' x=some r'->r'.mp=true->r'.cells=[.nr b f a c]->x<PK->∃r g s d i,h x=some r∧r.mp=true∧r.cells=[.nr g s d i]∧(a=d∨bump d e=some a)
def iS.refl (e:Nat) (h:Nat->Option Row):iS e h h:=fun x r a s b c d f g _=>⟨r,a,s,b,c,d,f,g,.inl rfl⟩
def Ls {b e a:Nat} (h:bump b e=some a):b<a∧(a=4*e+1∨(b=4*e+2∧a=4*e+3)):=by
 unfold bump at h;split at h
 ·cases h;omega
 ·split at h
  ·cases h;omega
  ·cases h
def HX.step {e:Nat} {done a:List Nat} {h h':Nat->Option Row} (k:HX e done h) (l:iS e h h') (i:∀x,x∈done->x∈a):HX e a h':=by
 intro x m b n c d o p q j;obtain⟨r,t,s,u,v,w,y,z,f⟩:=l x m b n c d o p q j;obtain⟨A,q2⟩:=k x r t s u v w y z j;rcases f with rfl|f
 ·exact⟨A,fun hn=>q2 fun h=>hn (i x h)⟩
 ·obtain⟨B,g⟩:=Ls f;refine⟨by omega,fun hn =>?_⟩;rcases g with g|⟨g,C⟩
  ·omega
  ·have:=q2 fun h=>hn (i x h);omega
def VE.step {N e:Nat} {done a:List Nat} {h h':Nat->Option Row} (m:iS e h h') (l:∀x,x∈done->x∈a) {x v:Nat} (n:VE N e done h x v):VE N e a h' x v:=by
 rcases n with⟨b,c⟩|⟨b,c,h3,o⟩
 ·exact .inl ⟨b,c.imp id fun⟨d,f⟩=>⟨d,l x f⟩⟩
 ·refine .inr ⟨b,c,fun hn=>h3 fun h=>hn (l _ h),fun p g q i j t u w =>?_⟩;obtain⟨r,y,s,z,A,d,f,B,k⟩:=m _ p g q i j t u w (Kd _);have:=o r y s z A d f B;rcases k with rfl|k
  ·exact this
  ·have:=(Ls k).1;omega
def HX.afI {N e:Nat} {done:List Nat} {h:Nat->Option Row} (g:HX e done h):VNr (VE N e done h) h:=by
 intro x r i s j k b l c a o;obtain⟨m,n⟩:=g x r i s j k b l c a;refine .inr ⟨fJ x o,m,by rw[uT o a];exact n,fun u p v q t d w f =>?_⟩;rw[uT o a,b]at d;cases d;rw[c]at f;cases f;exact air _
def HX.new {N e:Nat} {done:List Nat} {h:Nat->Option Row} (p:HX e done h) (q:N<=PK):abI (VE N e done h) h e:=by
 intro x r b s c d f g i j k a o l;have m:=fJ x o;have:=cK;rcases l with⟨t,_⟩|⟨_,_,_,n⟩
 ·omega
 ·have u:=n r b s c d (by rw[uT o k];exact g) i j;have v:=(Ls a).1;omega
def OR (e:Nat):∀(l:List (Nat×Option Row)) (h:Nat->Option Row),iS e h (aR h (lR h l))
 | [],h =>.refl e h
 | (k,r)::l,h=>by
  intro x E p F t u G H I J;obtain⟨K,d,v,f,g,a,m,c,n⟩:=OR e l (b6 h (rt k) (Bl h k r)) x E p F t u G H I J
  by_cases b:x=rt k
  rotate_left
  ·rw[az _ _ b]at a;exact⟨K,d,v,f,g,a,m,c,n⟩
  ·rw[b,ax]at a;unfold Bl at a;split at a
   ·exfalso;obtain⟨_,O,_⟩:=Cv (o:=0) a;unfold Ij at a;split at a
    ·split at a
     ·split at a
      ·cases a
      ·rename_i w;simp only[aiA]at a;subst a;exact w _ _ _ _ c
     ·rename_i y;simp only[aiA]at a;subst a;exact y m
    ·cases a
   ·rename_i z;have i:rt k=k % PK:=by unfold rt;rw[if_neg z]
    rw[aip]at a;obtain⟨q,A,j⟩:=a;unfold Ha at j;split at j
    ·rename_i B;split at j
     ·rename_i L s M N C;subst j;simp only at c;refine⟨q,L,s,M,N,by rw[b,i];exact A,B,C,?_⟩;unfold Hs at c;split at c<;>(simp only[aiP,D.nr.injEq,and_true]at c;obtain⟨rfl,rfl,rfl,_⟩:=c;exact n)
     ·subst j;exact⟨q,d,v,f,g,by rw[b,i];exact A,m,c,n⟩
    ·subst j;exact⟨q,d,v,f,g,by rw[b,i];exact A,m,c,n⟩
section
variable {P:Program} {T:Nat->Option Ty} {N:Nat} {M:Nat->Prop} {L:kx} {w0:World} {blk:Nat->Option (Nat×Nat)} {t:Nat->D} {h h':Nat->Option Row} {a:Act} {w:World} {e:Nat} {o:Oper} {Γ:Env} {done:List Nat}
def iS.set {x:Nat} {r o:Row} {p s d a g t:Nat} {q i:List D} (u:h x=some r) (v:r.mp=true) (w:r.cells=[.nr p s d q]) (j:o.cells=[.nr g t a i]) (z:a=d∨bump d e=some a):iS e h (b6 h x (some o)):=by
 intro y A k B l m f n b C
 by_cases c:y=x
 ·subst c;rw[ax]at f;cases f;rw[j]at b;cases b;exact⟨r,p,s,d,q,u,v,w,z⟩
 ·rw[az _ _ c]at f;exact⟨A,k,B,l,m,f,n,b,.inl rfl⟩
def iS.drop {y:Nat} (g:iS e (b6 h y none) h'):iS e h h':=by
 intro x i c j d f l m n o;obtain⟨r,p,s,q,t,b,k⟩:=g x i c j d f l m n o
 by_cases a:x=y
 ·subst a;rw[ax]at b;cases b
 ·rw[az _ _ a]at b;exact⟨r,p,s,q,t,b,k⟩
def Jt {τ:Ty} {d:D} {E:ca} (a:rN τ h d=some E):E.hw=[]:=by
 unfold rN at a;split at a<;>try (cases a;done)
 split at a<;>try (cases a;done)
 unfold Me at a;split at a
 ·split at a<;>try (cases a;done)
  cases a;rfl
 ·split at a<;>try (cases a;done)
  split at a<;>try (cases a;done)
  cases a;rfl
 ·cases a
def SB {τ:Ty} {d:D} {E:ca} (a:rM τ h d=some E):iS e h (aR h E.hw):=by
 unfold rM at a;split at a<;>try (cases a;done)
 split at a<;>try (cases a;done)
 rename_i r j s k l b;obtain⟨c,m,n,f,g,i⟩:=jn b;split at a<;>try (cases a;done)
 unfold S7 at a;split at a<;>try (cases a;done)
 cases a;exact iS.set c f i rfl (.inl rfl)
def SE {τ:Ty} {p d:D} {E:ca} (a:rQ τ e h p d=some E):iS e h (aR h E.hw):=by
 unfold rQ at a;split at a<;>try (cases a;done)
 split at a<;>try (cases a;done)
 rename_i r m s n o b;obtain⟨c,q,t,f,g,i⟩:=jn b;split at a<;>try (cases a;done)
 unfold TJ at a;split at a<;>try (cases a;done)
 split at a<;>try (cases a;done)
 unfold stZ at a;split at a<;>try (cases a;done)
 rename_i j k l _;cases a;exact iS.set c f i rfl (.inr l)
def SD {τ:Ty} {p d:D} {E:ca} (a:oO τ e h p d=some E):iS e h (aR h E.hw):=by
 unfold oO at a;split at a<;>try (cases a;done)
 rename_i l B m;split at a<;>try (cases a;done)
 rename_i r n s o t u;obtain⟨g,C,F,i,v,j⟩:=jn u;split at a<;>try (cases a;done)
 have b:∀ {k:Option (List D)},MU τ l r n s o t m k=some E->iS e h (aR h E.hw):=by
  intro k a;unfold MU at a;split at a<;>try (cases a;done)
  split at a<;>try (cases a;done)
  cases a;exact iS.set g i j rfl (.inl rfl)
 unfold Iw at a;split at a
 ·rename_i w G H I J;split at a<;>try (cases a;done)
  split at a
  ·split at a<;>try (cases a;done)
   unfold MS at a;split at a<;>try (cases a;done)
   split at a<;>try (cases a;done)
   cases a;exact iS.set g i j rfl (.inl rfl)
  ·split at a<;>try (cases a;done)
   split at a<;>try (cases a;done)
   rename_i q c;split at a<;>try (cases a;done)
   unfold CN at a;split at a<;>try (cases a;done)
   rename_i x z;cases a;obtain⟨f,A⟩:=cz c;refine iS.drop (y:=w) ?_;exact iS.set (by
    rw[az]
    ·exact g
    ·rintro rfl;rw[g]at f;cases f;have:=iZ c;rw[i]at this;cases this) i j rfl (.inr z)
 ·exact b a
structure uR (N:Nat) (M:Nat->Prop) (L:kx) (w0:World) (blk:Nat->Option (Nat×Nat)) (e:Nat) (done:List Nat) (t:Nat->D) (h:Nat->Option Row) (a:Act) (w:World):Prop where
 inv:Inv N M L w0 blk (VE N e done h) t (EH h) a w
 nv:HX e done h
def Ew (N:Nat) (M:Nat->Prop) (L:kx) (w0:World) (t:Nat->D) (h:Nat->Option Row) (a:Act) (e:Nat) (done:List Nat) (E:ca) (v:Value) (c:World):Prop :=
 ∃b,uR N M L w0 b e done t (aR h E.hw) a c∧RT c (Own M (EH (aR h E.hw)) b) (EH (aR h E.hw)) b (VE N e done (aR h E.hw)) E.val v
def SA (hT:ji P T) (hΓ:bI P Γ) (q:uR N M L w0 blk e done t h a w) (hd:∀d:Nat,o.dst=some d->d∉done∧d<N) {E:ca} (j:qG T Γ e o (ev t) h=some E):eE P o a w (Ew N M L w0 t h a e (o.dst.toList++done) E):=by
 have u:=q.inv.big;have av:=cK;have hV:∀d:Nat,o.dst=some d->j0 N (VE N e done h) d e:=by
  intro d aq;obtain⟨V,H⟩:=hd d aq;replace H:(d:Nat)<N:=H;refine⟨fun hv =>?_,H⟩;rcases hv with⟨_,hv|⟨_,hv⟩⟩|⟨hv,_⟩
  ·omega
  ·exact V hv
  ·omega
 have hP:∀x v,VE N e done h x v->x<N∨2*PK<=x:=fun x v hv=>hv.imp (fun h=>h.1) (fun h=>h.1);have y:∀x,x∈done->x∈o.dst.toList++done:=fun x W=>aiG _ W;have fin:iS e h (aR h E.hw)->∀ {v:Value} {B:World},kq N M L w0 (VE N e done h) t h a e o.dst E v B->Ew N M L w0 t h a e (o.dst.toList++done) E v B:=by
  intro aa v B k;obtain⟨I,J,K⟩:=k;have O:∀x n,VE N e done h x n∨(o.dst=some x∧n=e)->VE N e (o.dst.toList++done) (aR h E.hw) x n:=by
   rintro x n (hv|⟨W,rfl⟩)
   ·exact hv.step aa y
   ·exact .inl ⟨(hd x W).2,.inr ⟨rfl,aiF _ (by rw[W];simp)⟩⟩
  refine⟨I,⟨J.weaken O,q.nv.step aa y⟩,K.mono ⟨fun _ J K=>⟨J,K,rfl⟩,O,fun _ _ _ r' J K=>⟨⟨r',J,K⟩,rfl,fun _ _=>rfl⟩⟩⟩
 have fin2:∀ {E0:ca} {d:Nat} {r0:Row} {z s:Nat} {X:List D},o.dst=some d->E0.hw=[(d,some r0)]->r0.mp=true->r0.cells=[.nr z s (4*e+2) X]->∀ {v:Value} {B:World},kq N M L w0 (VE N e done h) t h a e o.dst E0 v B->Ew N M L w0 t h a e (o.dst.toList++done) E0 v B:=by
  intro E0 d r0 z s X b Q Y m v B k;obtain⟨I,J,K⟩:=k;obtain⟨F,R⟩:=hd d b;have ak:aR h E0.hw=b6 h d (some r0):=by rw[Q];rfl
  have O:∀x n,VE N e done h x n∨(o.dst=some x∧n=e)->VE N e (o.dst.toList++done) (aR h E0.hw) x n:=by
   rintro x n (hv|⟨W,rfl⟩)
   ·rcases hv with⟨V,H⟩|⟨V,H,q3,q4⟩
    ·exact .inl ⟨V,H.imp id fun⟨p1,p2⟩=>⟨p1,y _ p2⟩⟩
    ·refine .inr ⟨V,H,fun hn=>q3 fun h=>hn (y _ h),fun r' ab s1 ad ae S k2 k3 =>?_⟩;rw[ak]at S
     by_cases G:x % PK=d
     ·rw[G,ax]at S;cases S;rw[m]at k3;cases k3;have:=q3 (by rw[G];exact F);omega
     ·rw[az _ _ G]at S;exact q4 r' ab s1 ad ae S k2 k3
   ·exact .inl ⟨(hd x W).2,.inr ⟨rfl,aiF _ (by rw[W];simp)⟩⟩
  refine⟨I,⟨J.weaken O,?_⟩,K.mono ⟨fun _ J K=>⟨J,K,rfl⟩,O,fun _ _ _ r' J K=>⟨⟨r',J,K⟩,rfl,fun _ _=>rfl⟩⟩⟩;intro x r' ab s1 ad ae S k2 k3 hp;rw[ak]at S
  by_cases G:x=d
  ·subst G;rw[ax]at S;cases S;rw[m]at k3;cases k3;exact⟨by omega,fun hn=>absurd (aiF _ (by rw[b];simp)) hn⟩
  ·rw[az _ _ G]at S;obtain⟨p1,p2⟩:=q.nv x r' ab s1 ad ae S k2 k3 hp;exact⟨p1,fun hn=>p2 fun h=>hn (y _ h)⟩
 have al:∀d:Nat,o.dst=some d->∀o',¬VE N e done h (NK d o') (4*e+2):=by
  intro d b o' hv;obtain⟨F,R⟩:=hd d b;have ag:(d:Nat)<PK:=aiu R u;rcases hv with⟨hv,_⟩|⟨_,_,hv,_⟩
  ·have:=fJ d o';omega
  ·have:=hv (by rw[uT o' ag];exact F);omega
 unfold qG at j;split at j
 ·rename_i E0 i;simp only[aiA]at j;subst j;unfold iI at i;split at i<;>try (cases i;done)
  rotate_left
  ·rename_i ty U;split at i<;>try (cases i;done)
   rename_i d b;split at i<;>try (cases i;done)
   rename_i z s f hn;split at i<;>try (cases i;done)
   rename_i τ Z;obtain⟨F,R⟩:=hd d b;have k:=Zp hT q.inv U b (hV d b) (al d b) Z i;obtain⟨r0,Q,Y,m⟩:∃r0:Row,E0.hw=[(d,some r0)]∧r0.mp=true∧∃cs,r0.cells=[.nr z s (4*e+2) cs]:=by
    unfold mkA at i;split at i<;>try (cases i;done)
    cases i;exact⟨_,rfl,rfl,_,rfl⟩
   obtain⟨X,m⟩:=m;exact k.mono fun v B k=>fin2 b Q Y m k
  rename_i ty l c U;split at i<;>try (cases i;done)
  rename_i d b;split at i<;>try (cases i;done)
  rename_i z s f hn;split at i<;>try (cases i;done)
  rename_i τ Z;obtain⟨F,R⟩:=hd d b;have k:=Zq hT q.inv U b (hV d b) (fun o' hv=>by
   have ag:(d:Nat)<PK:=aiu R u;rcases hv with⟨hv,_⟩|⟨_,_,hv,_⟩
   ·have:=fJ d o';omega
   ·have:=hv (by rw[uT o' ag];exact F);omega) Z i
  obtain⟨r0,Q,Y,m⟩:∃r0:Row,E0.hw=[(d,some r0)]∧r0.mp=true∧∃cs,r0.cells=[.nr z s (4*e+2) cs]:=by
   unfold pZ at i;split at i<;>try (cases i;done)
   split at i<;>try (cases i;done)
   split at i<;>try (cases i;done)
   cases i;exact⟨_,rfl,rfl,_,rfl⟩
  obtain⟨X,m⟩:=m;exact k.mono fun v B k=>fin2 b Q Y m k
 split at j
 ·rename_i E0 A;simp only[aiA]at j;subst j;unfold pG at A;split at A<;>try (cases A;done)
  rename_i d g an b ah;obtain⟨c,f,ai,aj,hq,C⟩:=pD ah;unfold Fy at A;split at A<;>try (cases A;done)
  rename_i p hp;obtain⟨_,z,ti,s',S',n',ao,_,_,_,ar⟩:=zu A;subst C;have k:=Fh q.inv ai aj hq.symm (fun vs V H=>YT hΓ q.inv b (hV d b) (al d b) hp A V H);refine k.mono fun v B k =>?_;exact fin2 (r0:=⟨e,z,[.nr ti s' (4*e+2) ao],false,true,true⟩) b (by rw[ar]) rfl rfl k
 ·unfold or2 at j;split at j
  ·rename_i v0 hw he;simp only[aiA]at j;subst j;have k:=WV hT hΓ q.inv hV hP he;exact k.mono fun v B k=>fin (OR e hw h) (k.le (OP hw h))
  ·unfold w9 at j;split at j
   ·rename_i ty p U;split at j<;>try (cases j;done)
    rename_i τ Z;unfold w8 orE at j;split at j
    ·rename_i E0 hF;simp only[aiA]at j;subst j;exact (Zm hT q.inv U Z hF).mono fun v B k=>fin (SB hF) k
    ·exact (Zn hT q.inv q.nv.afI U Z j).mono fun v B k=>fin (by rw[Jt j];exact .refl e h) k
   ·rename_i ty p x U;split at j<;>try (cases j;done)
    rename_i τ Z;unfold xa orE at j;split at j
    ·rename_i E0 hF;simp only[aiA]at j;subst j;exact (Zt hT q.inv (q.nv.new u) U Z hF).mono fun v B k=>fin (SE hF) k
    ·exact (Zs hT q.inv (q.nv.new u) U Z j).mono fun v B k=>fin (SD j) k
   ·rename_i c U;unfold Dq at j;split at j<;>try (cases j;done)
    rename_i g an ah;obtain⟨c',f,ai,aj,hq,C⟩:=pD ah;cases ai;subst C;refine (Fh q.inv U aj hq.symm (fun vs V H=>YV hΓ q.inv (q.nv.new u) (dst:=o.dst) j V H)).mono fun v B k=>fin ?_ k;obtain⟨x,v,o',au,r,ty,s,nv,cs,p,aw,ay,d,ao,_,hl,_,_,hb,_,_,rfl⟩:=u7 j;obtain⟨W,_,_,hm,_,hc⟩:=jn hl;exact iS.set W hm hc rfl (.inr hb)
   ·cases j
end
section
variable {T:Nat->Option Ty} {h h':Nat->Option Row} {e:Nat} {o:Oper} {Γ:Env}
def pO {x v:Nat} (a:h x=h' x):gq h x v=gq h' x v:=by simp[gq,a]
def nW {x v:Nat} {q:Row×Nat×Nat×Nat×List D} (a:gq h x v=some q):x<PK:=by
 obtain⟨r,b,s,c,d⟩:=q;exact (jn a).2.2.2.2.1
def Dw:∀(l:List (Nat×Option Row)) {h h':Nat->Option Row},(∀p∈l,h (rt p.1)=h' (rt p.1))->lR h l=lR h' l
 | [],_,_,_=>rfl
 | (k,r)::l,h,h',d=>by
  have e:h (rt k)=h' (rt k):=d (k,r) (by simp);have f:Bl h k r=Bl h' k r:=by
   unfold Bl;split
   ·rfl
   ·rename_i a;have:rt k=k % PK:=by unfold rt;rw[if_neg a]
    rw[<- this,e]
  unfold lR;rw[f];congr 1;refine Dw l fun p b =>?_
  by_cases c:rt p.1=rt k
  ·rw[c,ax,ax]
  ·rw[az _ _ c,az _ _ c];exact d p (aj3 _ b)
def Dx:∀(l:List (Nat×Option Row)) {h:Nat->Option Row},∀p∈lR h l,∃q∈l,p.1=rt q.1
 | [],_,p,a=>by simp[lR]at a
 | (k,r)::l,h,p,a=>by
  unfold lR at a;rcases aiy.1 a with rfl|a
  ·exact⟨(k,r),by simp,rfl⟩
  ·obtain⟨q,b,c⟩:=Dx l p a;exact⟨q,aj3 _ b,c⟩
def XP {τ:Ty} {p d:D} {E:ca} (a:oO τ e h p d=some E):∀q∈E.hw,q.1<PK∧(q.1∈nm p∨q.1∈nm d):=by
 unfold oO at a;split at a<;>try (cases a;done)
 rename_i f k g;split at a<;>try (cases a;done)
 rename_i r n s o t u;have i:=nW u;split at a<;>try (cases a;done)
 have one:∀ {l:Option Row} (q:Nat×Option Row),q∈[(f,l)]->q.1<PK∧(q.1∈nm (.ptr f k g)∨q.1∈nm d):=by
  intro l q c;simp only[aiO]at c;subst c;exact⟨i,.inl (by simp[nm,jr])⟩
 have b:∀ {m:Option (List D)},MU τ f r n s o t g m=some E->∀q∈E.hw,q.1<PK∧(q.1∈nm (.ptr f k g)∨q.1∈nm d):=by
  intro m a;unfold MU at a;split at a<;>try (cases a;done)
  split at a<;>try (cases a;done)
  cases a;exact one
 unfold Iw at a;split at a
 ·rename_i v w x y z;split at a<;>try (cases a;done)
  split at a
  ·split at a<;>try (cases a;done)
   unfold MS at a;split at a<;>try (cases a;done)
   split at a<;>try (cases a;done)
   cases a;exact one
  ·split at a<;>try (cases a;done)
   rename_i j;split at a<;>try (cases a;done)
   split at a<;>try (cases a;done)
   unfold CN at a;split at a<;>try (cases a;done)
   cases a;intro q c;rcases aiy.1 c with rfl|c
   ·exact⟨j,.inr (by simp[nm,jr])⟩
   ·exact one q c
 ·exact b a
def Xj {τ:Ty} {p:D} {E:ca} (a:rM τ h p=some E):∀q∈E.hw,q.1<PK∧q.1∈nm p:=by
 unfold rM at a;split at a<;>try (cases a;done)
 rename_i e f g;split at a<;>try (cases a;done)
 rename_i r i s j k d;have b:=nW d;split at a<;>try (cases a;done)
 unfold S7 at a;split at a<;>try (cases a;done)
 cases a;intro q c;simp only[aiO]at c;subst c;exact⟨b,by simp[nm,jr]⟩
def XR {τ:Ty} {p d:D} {E:ca} (a:rQ τ e h p d=some E):∀q∈E.hw,q.1<PK∧(q.1∈nm p∨q.1∈nm d):=by
 unfold rQ at a;split at a<;>try (cases a;done)
 rename_i g i j;split at a<;>try (cases a;done)
 rename_i r k s l m f;have b:=nW f;split at a<;>try (cases a;done)
 unfold TJ at a;split at a<;>try (cases a;done)
 split at a<;>try (cases a;done)
 unfold stZ at a;split at a<;>try (cases a;done)
 cases a;intro q c;simp only[aiO]at c;subst c;exact⟨b,.inl (by simp[nm,jr])⟩
def Xi {τ:Ty} {d:D} (b:∀x∈nm d,x<2*PK->h x=h' x):rM τ h d=rM τ h' d:=by
 unfold rM;split
 ·rename_i x v o
  by_cases c:x<2*PK
  ·rw[pO (b x (by simp[nm,jr]) c)]
  ·have a:∀h:Nat->Option Row,gq h x v=none:=by
    intro h;cases e:gq h x v with
    | none=>rfl
    | some q=>have:=nW e;omega
   rw[a,a]
 ·rfl
def XQ {τ:Ty} {p d:D} (c:∀x∈nm p,x<2*PK->h x=h' x):rQ τ e h p d=rQ τ e h' p d:=by
 unfold rQ;split
 ·rename_i x v o
  by_cases a:x<2*PK
  ·rw[pO (c x (by simp[nm,jr]) a)]
  ·have b:∀h:Nat->Option Row,gq h x v=none:=by
    intro h;cases f:gq h x v with
    | none=>rfl
    | some q=>have:=nW f;omega
   rw[b,b]
 ·rfl
def Xk {τ:Ty} {d:D} (b:∀x∈nm d,x<2*PK->h x=h' x):rN τ h d=rN τ h' d:=by
 unfold rN;split
 ·rename_i x v o
  by_cases c:x<2*PK
  ·rw[pO (b x (by simp[nm,jr]) c)]
  ·have a:∀h:Nat->Option Row,gq h x v=none:=by
    intro h;cases e:gq h x v with
    | none=>rfl
    | some q=>have:=nW e;omega
   rw[a,a]
 ·rfl
def XO {τ:Ty} {p d:D} (f:∀x∈nm p,x<2*PK->h x=h' x) (g:∀x∈nm d,x<2*PK->h x=h' x):oO τ e h p d=oO τ e h' p d:=by
 unfold oO;split
 ·rename_i x v o
  by_cases a:x<2*PK
  rotate_left
  ·have c:∀h:Nat->Option Row,gq h x v=none:=by
    intro h;cases i:gq h x v with
    | none=>rfl
    | some q=>have:=nW i;omega
   rw[c,c]
  rw[pO (f x (by simp[nm,jr]) a)];split
  ·split
   ·unfold Iw;split
    ·rename_i y j k l n
     by_cases b:y<2*PK
     ·rw[dh (g y (by simp[nm,jr]) b)]
     ·split
      ·split
       ·rfl
       ·rw[if_neg (by have:=cK;omega),if_neg (by have:=cK;omega)]
      ·rfl
    ·rfl
   ·rfl
  ·rfl
 ·rfl
def fQ {a:Operand->D} {x:Nat} (b:x∈iB o a):rt x∈cI o a:=aiq.2 ⟨x,b,rfl⟩
def pY {e:Operand->D} {y:Operand} (f:y∈o.op.operands.toList) (g:∀a b c,o.op ≠ .pick a b c) (h:∀a,o.op ≠ .move a) (i:∀a b c,o.op ≠ .makeFunc a b c) {x:Nat} (j:x∈nm (e y)):x∈iB o e:=by
 unfold iB;split
 ·rename_i d;exact absurd d (h _)
 ·rename_i d;exact absurd d (g _ _ _)
 ·rename_i d;exact absurd d (i _ _ _)
 ·exact aiF _ (ajZ.2 ⟨y,f,j⟩)
def I3 {j:Operand->D} {q:D} {a:List D} (k:jk j o.op=some (q,a)) (l:∀x∈cI o j,h x=h' x):∀d∈a,∀x∈nm d,h (rt x)=h' (rt x):=by
 obtain⟨c,f,e,g,_,b⟩:=pD k;subst b;intro d m x i;obtain⟨y,n,rfl⟩:=aiq.1 m;exact l _ (fQ (pY (y:=y) (by simp[e,Op.operands,Call.operands,g];exact .inr (by simpa using n)) (by simp[e]) (by simp[e]) (by simp[e]) i))
def NN {g:Nat} {a:List D} (j:∀d∈a,∀x∈nm d,h (rt x)=h' (rt x)):ub Γ e h g a=ub Γ e h' g a:=by
 unfold ub;split
 ·rename_i x v c b;have f:bQ (EH h) b=bQ (EH h') b:=j9 fun d l x i=>eF (j d (aj3 _ l) x i)
  by_cases m:x<2*PK
  ·have:=j _ aj2 x (by simp[nm,jr]);rw[je m]at this;rw[pO this,f]
  ·have k:∀h:Nat->Option Row,gq h x v=none:=by
    intro h;cases n:gq h x v with
    | none=>rfl
    | some q=>have:=nW n;omega
   rw[k,k]
 ·rfl
def OA {a:Operand->D} (i:∀x∈cI o a,h x=h' x):pG Γ e h o.dst (jk a o.op)=pG Γ e h' o.dst (jk a o.op):=by
 unfold pG;split
 ·rename_i d g c f j;unfold Fy;split
  ·rw[j9 fun d f x b=>eF (I3 j i d f x b)]
  ·rfl
 ·rfl
def SC {d:Operand->D} (j:∀x∈cI o d,h x=h' x):w9 T Γ e o d h=w9 T Γ e o d h':=by
 unfold w9;split
 ·rename_i l p a;split
  ·have f:∀x∈nm (d p),x<2*PK->h x=h' x:=fun x b i=>by
    have:=j _ (fQ (pY (y:=p) (by simp[a,Op.operands]) (by simp[a]) (by simp[a]) (by simp[a]) b))
    rwa [je i]at this
   unfold w8;rw[Xk f,Xi f]
  ·rfl
 ·rename_i l p x a;split
  ·have f:∀x∈nm (d p),x<2*PK->h x=h' x:=fun y b i=>by
    have:=j _ (fQ (pY (y:=p) (by simp[a,Op.operands]) (by simp[a]) (by simp[a]) (by simp[a]) b))
    rwa [je i]at this
   unfold xa;rw[XO f (fun y b i=>by
    have:=j _ (fQ (pY (y:=x) (by simp[a,Op.operands]) (by simp[a]) (by simp[a]) (by simp[a]) b))
    rwa [je i]at this),XQ f]
  ·rfl
 ·rename_i c a;unfold Dq;split
  ·rename_i g k m;exact NN (I3 (by rw[a];exact m) j)
  ·rfl
 ·rfl
def Sy {a:Operand->D} (hx:∀x∈cI o a,h x=h' x):qG T Γ e o a h=qG T Γ e o a h':=by
 have c:sG T Γ e o a (EH h)=sG T Γ e o a (EH h'):=WU fun x b=>eF (hx _ (fQ b));unfold qG;rw[c,SC hx,OA hx];split
 ·rfl
 split
 ·rfl
 ·cases d:sG T Γ e o a (EH h') with
  | none=>rfl
  | some E =>
   simp only[or2];rw[Dw E.hw fun p f=>hx _ (fQ (Ju d p f))]
def Sz {n:Operand->D} {E:ca} (b:qG T Γ e o n h=some E):∀p∈E.hw,p.1∈cI o n:=by
 unfold qG at b;split at b
 ·rename_i I a;simp only[aiA]at b;subst b;unfold iI at a;split at a<;>try (cases a;done)
  rotate_left
  ·rename_i H i;split at a<;>try (cases a;done)
   rename_i d j;split at a<;>try (cases a;done)
   split at a<;>try (cases a;done)
   unfold mkA at a;split at a<;>try (cases a;done)
   rename_i k;cases a;intro p t;simp only[aiO]at t;subst t;have C:d∈iB o n:=by
    unfold iB;rw[i];exact aiG _ (by rw[j];simp)
   have:=fQ C
   rwa [je (by have:=k.2.2.2.1;omega)]at this
  rename_i H l c i;split at a<;>try (cases a;done)
  rename_i d j;split at a<;>try (cases a;done)
  split at a<;>try (cases a;done)
  unfold pZ at a;split at a<;>try (cases a;done)
  split at a<;>try (cases a;done)
  split at a<;>try (cases a;done)
  rename_i k;cases a;intro p t;simp only[aiO]at t;subst t;have C:d∈iB o n:=by
   unfold iB;rw[i];exact aiG _ (by rw[j];simp)
  have:=fQ C
  rwa [je (by have:=k.2.2.2.2.2.2.1;omega)]at this
 split at b
 ·rename_i I m;simp only[aiA]at b;subst b;unfold pG at m;split at m<;>try (cases m;done)
  rename_i d g F j z;obtain⟨c,f,A,G,w,u⟩:=pD z;unfold Fy at m;split at m<;>try (cases m;done)
  obtain⟨_,_,_,_,_,_,_,_,_,R,rfl⟩:=zu m;intro p t;simp only[aiO]at t;subst t;have C:d∈iB o n:=by
   unfold iB;rw[A];exact aiG _ (by rw[j];simp)
  have:=fQ C
  rwa [je (by omega)]at this
 ·unfold or2 at b;split at b
  ·rename_i v0 S U;simp only[aiA]at b;subst b;intro p t;obtain⟨q,J,K⟩:=Dx S p t;rw[K];exact fQ (Ju U q J)
  ·unfold w9 at b;split at b
   ·rename_i H p i;split at b<;>try (cases b;done)
    unfold w8 orE at b;split at b
    ·rename_i I L;simp only[aiA]at b;subst b;intro q w;obtain⟨V,B⟩:=Xj L q w;have:q.1∈iB o n:=pY (y:=p) (by simp[i,Op.operands]) (by simp[i]) (by simp[i]) (by simp[i]) B;have:=fQ this
     rwa [je (by omega)]at this
    rw[Jt b];intro p t;simp at t
   ·rename_i H p x i;split at b<;>try (cases b;done)
    intro q w;have M:q.1<PK∧(q.1∈nm (n p)∨q.1∈nm (n x)):=by
     unfold xa orE at b;split at b
     ·rename_i I L;simp only[aiA]at b;subst b;exact XR L q w
     ·exact XP b q w
    obtain⟨V,B⟩:=M;have:q.1∈iB o n:=by
     rcases B with B|B
     ·exact pY (y:=p) (by simp[i,Op.operands]) (by simp[i]) (by simp[i]) (by simp[i]) B
     ·exact pY (y:=x) (by simp[i,Op.operands]) (by simp[i]) (by simp[i]) (by simp[i]) B
    have:=fQ this
    rwa [je (by omega)]at this
   ·rename_i c i;unfold Dq at b;split at b<;>try (cases b;done)
    rename_i g F z;obtain⟨c',f,A,G,w,u⟩:=pD z;cases A;obtain⟨x,v,P,Q,r,H,s,nv,cs,p,W,X,d,Y,N,Z,_,_,_,_,_,rfl⟩:=u7 b;have aa:=nW Z;intro q w;simp only[aiO]at w;subst w;obtain⟨y,hy,O⟩:∃y∈c.args.toList,n y=.ptr x v P:=by
     have:(.ptr x v P:D)∈c.args.toList.map n:=by rw[<- u,N];exact aj2
     obtain⟨y,J,K⟩:=aiq.1 this;exact⟨y,J,K⟩
    have:x∈iB o n:=pY (y:=y) (by simp[i,Op.operands,Call.operands,G];exact .inr (by simpa using hy)) (by simp[i]) (by simp[i]) (by simp[i]) (by rw[O];simp[nm,jr]);have:=fQ this
    rwa [je (by omega)]at this
   ·cases b
def ab1 {d a:Operand->D} (hx:∀y∈o.op.operands.toList,d y=a y):qG T Γ e o d h=qG T Γ e o a h∧cI o d=cI o a:=by
 obtain⟨m,n⟩:=aed (T:=T) (Γ:=Γ) (e:=e) (h:=EH h) hx;have q:iI T Γ e o d=iI T Γ e o a:=by
  unfold iI;split
  ·rename_i j l c b;rw[hx l (by simp[b,Op.operands]),hx c (by simp[b,Op.operands])]
  ·rfl
  ·rfl
 have g:∀c,o.op=.call c->jk d (.call c)=jk a (.call c):=by
  intro c b;unfold jk;simp only;split
  ·rename_i f k;rw[hx f (by simp[b,Op.operands,Call.operands,k]),aj0 fun y r=>hx y (by simp[b,Op.operands,Call.operands,k];exact .inr (by simpa using r))]
  ·rfl
 have s:w9 T Γ e o d h=w9 T Γ e o a h:=by
  unfold w9;split
  ·rename_i j p b;rw[hx p (by simp[b,Op.operands])]
  ·rename_i j p x b;rw[hx p (by simp[b,Op.operands]),hx x (by simp[b,Op.operands])]
  ·rename_i c b;rw[g c b]
  ·rfl
 have t:jk d o.op=jk a o.op:=by
  by_cases i:∃c,o.op=.call c
  ·obtain⟨c,i⟩:=i;rw[i];exact g c i
  ·unfold jk;split
   ·rename_i c b;exact absurd ⟨c,b⟩ i
   ·rfl
 unfold qG cI;rw[m,n,q,s,t];exact⟨rfl,rfl⟩
end
structure lU where
 tc:List Nat
 q:Bool
def xq (ops:Array Oper) (t:Nat->D) (o:Oper):Option Bool :=
 match o.guard with
 | none=>some true
 | some (j,a) =>
  match (ops[j]?).bind (·.dst) with
  | some g=>match t g with | .bool b=>some (b==a) | .skp=>some false|_=>none
  | none=>none
def fk (t:Nat->D) (a:Option Nat) (d:D):Nat->D :=
 match a with
 | none=>t
 | some i=>b6 t i d
def fits (N:Nat) (a:Option Nat):Bool :=
 match a with
 | none=>true
 | some i=>decide (i<N)
def step1 (T:Nat->Option Ty) (Γ:Env) (N e:Nat) (ops:Array Oper) (o:Oper) (t:Nat->D) (h:Nat->Option Row):Option ((Nat->D)×(Nat->Option Row)×lU) :=
 if fits N o.dst then
  match xq ops t o with
  | some true =>
   match qG T Γ e o (ev t) h with
   | some E=>some (fk t o.dst E.val,aR h E.hw,⟨cI o (ev t),E.hw.isEmpty⟩)
   | none=>none
  | some false=>some (fk t o.dst .skp,h,⟨[],true⟩)
  | none=>none
 else none
section
variable {P:Program} {T:Nat->Option Ty} {N:Nat} {M:Nat->Prop} {L:kx} {w0:World} {blk:Nat->Option (Nat×Nat)} {t:Nat->D} {h:Nat->Option Row} {a:Act} {w:World} {e:Nat} {o:Oper} {Γ:Env} {ops:Array Oper}
def A5 {V:Nat->Nat->Prop} (r:Inv N M L w0 blk V t h a w) {b:Bool} (c:xq ops t o=some b):Region.wanted o (yielded ops a.tmps)=b:=by
 unfold xq at c;split at c
 ·rename_i m;simp only[aiA]at c;subst c;simp[Region.wanted,m]
 ·rename_i j e m;split at c
  ·rename_i g i;split at c
   ·rename_i n p;simp only[aiA]at c;subst c;have k:=r.slots g;rw[p]at k;have d:=ym k;have l:a.tmps[g]? = some (.bool n):=by
     simp only[aiw]at d;cases f:a.tmps[g]? with
     | none=>rw[f]at d;cases d
     | some v=>rw[f]at d;simp only[Option.getD_some]at d;rw[d]
    have q:yielded ops a.tmps j=some n:=by
     unfold yielded;rw[i];simp[l]
    simp only[Region.wanted,m,q];cases n<;>cases e<;>rfl
   ·rename_i p;simp only[aiA]at c;subst c;have k:=r.slots g;rw[p]at k;have d:a.tmps.getD g undef=undef:=k;have q:yielded ops a.tmps j=none:=by
     unfold yielded;rw[i];simp only[aiw]at d;cases f:a.tmps[g]? with
     | none=>simp only[Option.bind_some,f]
     | some v=>rw[f]at d;simp only[Option.getD_some]at d;subst d;simp only[Option.bind_some,f];rfl
    simp only[Region.wanted,m,q]<;>cases e<;>rfl
   ·cases c
  ·cases c
def Inv.aeH {V:Nat->Nat->Prop} (b:Inv N M L w0 blk V t h a w) (c:fits N o.dst=true) {d:D} {v:Value} (e:RT w (Own M h blk) h blk V d v):Inv N M L w0 blk V (fk t o.dst d) h (a.put o.dst v) w:=by
 cases f:o.dst with
 | none=>simpa [fk,Act.put] using b
 | some i =>
  rw[f]at c;exact b.put (by simpa [fits] using c) e
def MV (u:ji P T) (y:bI P Γ) {done:List Nat} {q:Nat->D} {h':Nat->Option Row} {f:lU} {K:Act->World->Prop} {Q:Exit->Act->World->Prop} (i:uR N M L w0 blk e done t h a w)
  (b:step1 T Γ N e ops o t h=some (q,h',f)) (z:∀d,o.dst=some d->d∉done) (r:∀s m c,uR N M L w0 c e (o.dst.toList++done) q h' s m->K s m) :
  if Region.wanted o (yielded ops a.tmps) then o.wp P a w K Q∨(o.asks P a w∧LetsOut Q) else K (a.put o.dst undef) w:=by
 unfold step1 at b;split at b
 ·rename_i l;split at b
  ·rename_i p;rw[A5 i.inv p];simp only[if_true];split at b
   ·rename_i E A;simp only[aiA,Prod.mk.injEq]at b;obtain⟨rfl,rfl,_⟩:=b;have:=SA u y i (fun d j=>⟨z d j,by rw[j]at l;simpa [fits] using l⟩) A;refine .inl (this.wp fun v m B =>?_);obtain⟨c,k,C⟩:=B;exact r _ _ c ⟨k.inv.aeH l C,k.nv⟩
   ·cases b
  ·rename_i p;rw[A5 i.inv p];simp only[ai1,if_false];simp only[aiA,Prod.mk.injEq]at b;obtain⟨rfl,rfl,_⟩:=b;have g:∀x,x∈done->x∈o.dst.toList++done:=fun x hx=>aiG _ hx;exact r _ _ blk ⟨(i.inv.aeH l (d := .skp) (v:=undef) rfl).weaken fun x n hx=>hx.step (.refl e h) g,i.nv.step (.refl e h) g⟩
  ·cases b
 ·cases b
def fU {x:Nat} : ∀ {l:List (Nat×Option Row)} {h:Nat->Option Row},(∀p∈l,p.1≠x)->aR h l x=h x
 | [],_,_=>rfl
 | (y,r)::l,h,hn=>by
  simp only[aR];rw[fU (fun p a=>hn p (by simp[a]))];exact az _ _ (fun e=>hn (y,r) (by simp) e.symm)
def BP {x:Nat} : ∀ {l:List (Nat×Option Row)} {h h':Nat->Option Row},(∃p∈l,p.1=x)->aR h l x=aR h' l x
 | [],_,_,he=>by obtain⟨p,b,_⟩:=he;simp at b
 | (y,r)::l,h,h',he=>by
  simp only[aR]
  by_cases hl:∃p∈l,p.1=x
  ·exact BP hl
  ·have c:∀p∈l,p.1≠x:=fun p b a=>hl ⟨p,b,a⟩;rw[fU c,fU c];obtain⟨p,b,a⟩:=he;rcases aiy.1 b with rfl|b
   ·simp only at a;subst a;rw[ax,ax]
   ·exact absurd a (c p b)
def Nv {l l':List (Nat×Option Row)} {h:Nat->Option Row} (hd:∀p∈l,∀q∈l',p.1≠q.1):aR (aR h l) l'=aR (aR h l') l:=by
 funext x
 by_cases h1:∃p∈l,p.1=x
 ·obtain⟨p,b,rfl⟩:=h1;rw[fU (fun q f e=>hd p b q f e.symm)];exact BP ⟨p,b,rfl⟩
 ·have d:∀p∈l,p.1≠x:=fun p b a=>h1 ⟨p,b,a⟩;rw[fU d]
  by_cases h2:∃p∈l',p.1=x
  ·exact BP h2
  ·have c:∀p∈l',p.1≠x:=fun p b a=>h2 ⟨p,b,a⟩;rw[fU c,fU c,fU d]
def XC {t:Nat->D} {x y:Option Nat} {v u:D} (hne:∀d,x=some d->y≠some d):fk (fk t x v) y u=fk (fk t y u) x v:=by
 cases x with
 | none=>rfl
 | some i =>
  cases y with
  | none=>rfl
  | some j=>exact abm t v u (fun e=>hne i rfl (by rw[e]))
def VS {t:Nat->D} {x:Option Nat} {v:D} {s:Nat} (hne:x≠some s):fk t x v s=t s:=by
 cases x with
 | none=>rfl
 | some i=>exact az _ _ (fun e=>hne (by rw[e]))
def Rz {t t1:Nat->D} {h m:Nat->Option Row} {f:lU} (b:step1 T Γ N e ops o t h=some (t1,m,f)) :
  ∃v hw,t1=fk t o.dst v∧m=aR h hw∧(∀p∈hw,p.1∈f.tc)∧(f.q=true->hw=[]) ∧
   ∀a h',(∀s∈o.looksAt ops,t s=a s)->(∀x∈f.tc,h x=h' x)->step1 T Γ N e ops o a h'=some (fk a o.dst v,aR h' hw,f):=by
 have d:∀a:Nat->D,(∀s∈o.looksAt ops,t s=a s)->xq ops t o=xq ops a o:=by
  intro a c;unfold xq;split
  ·rfl
  ·rename_i j n w;split
   ·rename_i g k;rw[c g (by simp[Oper.looksAt,w,k])]
   ·rfl
 have l:∀a:Nat->D,(∀s∈o.looksAt ops,t s=a s)->∀y∈o.op.operands.toList,ev t y=ev a y:=by
  intro a c y z;cases y with
  | tmp i=>exact c i (by unfold Oper.looksAt;exact aiF _ (List.mem_filterMap.2 ⟨_,z,rfl⟩))
  | const v=>rfl
  | global g=>rfl
  | func f=>rfl
 unfold step1 at b;split at b
 ·rename_i q;split at b
  ·rename_i k;split at b
   ·rename_i E r;simp only[aiA,Prod.mk.injEq]at b;obtain⟨rfl,rfl,rfl⟩:=b;refine⟨E.val,E.hw,rfl,rfl,Sz r,fun A=>by simpa using A,fun a h' c hh =>?_⟩;obtain⟨B,u⟩:=ab1 (T:=T) (Γ:=Γ) (e:=e) (h:=h) (l a c);have C:qG T Γ e o (ev a) h'=some E:=by
     rw[<- r,B];exact (Sy (fun x F=>hh x (by rw[u];exact F))).symm
    unfold step1;rw[if_pos q,<- d a c,k];simp only[C,u]
   ·cases b
  ·rename_i k;simp only[aiA,Prod.mk.injEq]at b;obtain⟨rfl,rfl,rfl⟩:=b;refine⟨.skp,[],rfl,rfl,fun p G=>by simp at G,fun _=>rfl,fun a h' c hh =>?_⟩;unfold step1;rw[if_pos q,<- d a c,k];rfl
  ·cases b
 ·cases b
def Sa (T:Nat->Option Ty) (Γ:Env) (N e:Nat) (ops:Array Oper) (F:Nat->lU):List Nat->(Nat->D)->(Nat->Option Row)->(Nat->D)->(Nat->Option Row)->Prop
 | [],t,h,a,h'=>t=a∧h=h'
 | i::L,t,h,a,h'=>∃o t1 b,ops[i]? = some o∧step1 T Γ N e ops o t h=some (t1,b,F i)∧Sa T Γ N e ops F L t1 b a h'
def abW (l a:List Nat):Bool:=l.all fun x => !a.contains x
structure Uj (ops:Array Oper) (F:Nat->lU) (j i:Nat):Prop where
 apart:∀oj oi,ops[j]? = some oj->ops[i]? = some oi->oj.apart ops oi=true
 foot:((F j).q&&(F i).q||abW (F j).tc (F i).tc)=true
def swap {F:Nat->lU} {i j:Nat} {L:List Nat} {t I:Nat->D} {h h':Nat->Option Row} (P:Sa T Γ N e ops F (j::i::L) t h I h') (J:Uj ops F j i):Sa T Γ N e ops F (i::j::L) t h I h':=by
 obtain⟨A,t1,b,k,B,z,t2,V,m,C,f⟩:=P;obtain⟨a1,a2,a3⟩:=Oper.apart_spec (J.apart A z k m);obtain⟨W,K,rfl,rfl,Q,R,n⟩:=Rz B;obtain⟨vi,E,rfl,rfl,M,S,o⟩:=Rz C;have a:=J.foot;simp only[aj6,ai2]at a;have d1:∀x∈(F i).tc,∀p∈K,p.1≠x:=by
  intro x g p c r;rcases a with⟨b,_⟩|b
  ·rw[R b]at c;simp at c
  ·simp only[abW,aiC]at b;have:=b p.1 (Q p c);rw[r]at this;simp[g]at this
 have d2:∀x∈(F j).tc,∀p∈E,p.1≠x:=by
  intro x g p c r;rcases a with⟨_,b⟩|b
  ·rw[S b]at c;simp at c
  ·simp only[abW,aiC]at b;have:=b x g;have O:=M p c;rw[r]at O;simp[O]at this
 have u:=o t h (fun s G=>VS (fun v=>a1 s v G)) (fun x g=>fU (d1 x g));have w:=n (fk t z.dst vi) (aR h E) (fun s G=>(VS (fun v=>a3 s v G)).symm) (fun x g=>(fU (d2 x g)).symm);refine⟨z,_,_,m,u,A,_,_,k,w,?_⟩;rw[XC (x:=z.dst) (y:=A.dst) (fun d v H=>a2 d H v),Nv (l:=E) (l':=K) (fun p c q U r=>d1 p.1 (M p c) q U r.symm)];exact f
def front {F:Nat->lU} {i:Nat} {a:List Nat} : ∀ {pre:List Nat} {t c:Nat->D} {h h':Nat->Option Row},Sa T Γ N e ops F (pre++i::a) t h c h'->(∀j∈pre,Uj ops F j i)->Sa T Γ N e ops F (i::(pre++a)) t h c h'
 | [],_,_,_,_,hr,_=>hr
 | j::pre,t,c,h,h',hr,hi=>by
  obtain⟨g,t1,l,d,f,b⟩:=hr;have m:=front (pre:=pre) b (fun k n=>hi k (by simp[n]));exact swap ⟨g,t1,l,d,f,m⟩ (hi j (by simp))
def direct (o:Oper):List Nat:=(o.after.toList.filter (Region.binds .any)).map (·.on)
def yv:List Oper->List (List Nat)->List (List Nat)
 | [],acc=>acc
 | o::l,acc=>yv l (acc++[direct o++(direct o).flatMap fun k=>acc.getD k []])
def ad9 (ops:Array Oper):List (List Nat):=yv ops.toList []
def E8 (S:Nat->Prop):∀(l:List Oper) (acc:List (List Nat)) (k:Nat),k=acc.length->(∀i j,j∈acc.getD i []->i<k->(∀m o,ops[m]? = some o->S m->∀d∈direct o,S d)->(∀o,ops[i]? = some o->∀d∈direct o,S d)->S j) ->
  (∀j,l[j]? = ops[k+j]?)->∀i j,j∈(yv l acc).getD i []->(∀m o,ops[m]? = some o->S m->∀d∈direct o,S d)->(∀o,ops[i]? = some o->∀d∈direct o,S d)->S j
 | [],acc,k,hk,a,h,i,j,e,n,p=>by
  simp only[yv]at e
  by_cases q:i<k
  ·exact a i j e q n p
  ·have:acc.getD i []=[]:=by simp[List.getD,aj7 (show acc.length<=i by omega)]
   rw[this]at e;simp at e
 | o::l,acc,k,hk,a,h,i,j,e,n,p=>by
  simp only[yv]at e;refine E8 S l _ (k+1) (by simp[hk]) ?_ (fun j=>by have:=h (j+1);simpa [aiM,Nat.add_comm 1 j] using this) i j e n p;intro b r c y hS' f
  by_cases s:b<k
  ·have:(acc++[direct o++(direct o).flatMap fun k=>acc.getD k []]).getD b []=acc.getD b []:=by
    simp[List.getD,ai5 (show b<acc.length by omega)]
   rw[this]at c;exact a b r c s hS' f
  ·obtain rfl:b=k:=by omega
   have:(acc++[direct o++(direct o).flatMap fun k=>acc.getD k []]).getD b []=direct o++(direct o).flatMap fun k=>acc.getD k []:=by
    simp[List.getD,ai6 (show acc.length<=b by omega),hk]
   rw[this]at c;have z:ops[b]? = some o:=by have:=h 0;simpa using this.symm
   rcases ajI.1 c with t|t
   ·exact f o z r t
   ·obtain⟨m,A,g⟩:=ajZ.1 t;have u:=f o z m A
    by_cases v:m<b
    ·exact a m r g v hS' (fun B w d x=>hS' m B w u d x)
    ·have:acc.getD m []=[]:=by simp[List.getD,aj7 (show acc.length<=m by omega)]
     rw[this]at g;simp at g
def abT {S:Nat->Prop} {i j:Nat} (a:j∈(ad9 ops).getD i []) (b:∀m o,ops[m]? = some o->S m->∀d∈direct o,S d) (c:∀o,ops[i]? = some o->∀d∈direct o,S d):S j :=
 E8 S ops.toList [] 0 rfl (fun i j a _ _ _=>by simp at a) (fun j=>by simp) i j a b c
def Y8 (a:List Nat):List Nat->Nat
 | []=>0
 | k::l=>(2 ^ k ||| a.getD k 0) ||| Y8 a l
def E9:List Oper->List Nat->List Nat
 | [],acc=>acc
 | o::l,acc=>E9 l (acc++[Y8 acc (direct o)])
def UP (ops:Array Oper):List Nat:=E9 ops.toList []
def US {a:List Nat} {j:Nat} : ∀ {l:List Nat},(Y8 a l).testBit j=true->j∈l∨∃k∈l,(a.getD k 0).testBit j=true
 | [],h=>by simp[Y8]at h
 | k::l,h=>by
  simp only[Y8,Nat.testBit_or,aj6,Nat.testBit_two_pow,decide_eq_true_eq]at h;rcases h with (rfl|h)|h
  ·exact .inl (aj2 ..)
  ·exact .inr ⟨k,aj2 ..,h⟩
  ·rcases US h with h|⟨b,c,d⟩
   ·exact .inl (aj3 _ h)
   ·exact .inr ⟨b,aj3 _ c,d⟩
def Da:∀(l:List Oper) (b:List Nat) (c:List (List Nat)),b.length=c.length->(∀i j,(b.getD i 0).testBit j=true->j∈c.getD i [])->∀i j,((E9 l b).getD i 0).testBit j=true->j∈(yv l c).getD i []
 | [],_,_,_,h,i,j,d=>h i j d
 | o::l,b,c,f,h,i,j,d=>by
  refine Da l _ _ (by simp[f]) (fun e g a =>?_) i j d
  by_cases m:e<b.length
  ·rw[ai4,ai5 m,<- ai4]at a;rw[ai4,ai5 (by omega),<- ai4];exact h e g a
  ·by_cases n:e=b.length
   ·subst n;rw[ai4,ai6 (air _),ajD]at a;simp only[List.getElem?_cons_zero,Option.getD_some]at a;rw[f,ai4,ai6 (air _),ajD];simp only[List.getElem?_cons_zero,Option.getD_some,ajI,ajZ];rcases US a with a|⟨k,p,a⟩
    ·exact .inl a
    ·exact .inr ⟨k,p,h k g a⟩
   ·rw[ai4,aj7 (by simp;omega)]at a;simp at a
def YZ {i j:Nat} (h:((UP ops).getD i 0).testBit j=true):j∈(ad9 ops).getD i [] :=
 Da ops.toList [] [] rfl (fun i j h=>by simp at h) i j h
def Uq (ops:Array Oper) (F:Nat->lU):Prop:=∀j i,j<i->i<ops.size->j∈(ad9 ops).getD i []∨Uj ops F j i
def X6 (hT:ji P T) (hΓ:bI P Γ) {F:Nat->lU} {Q:Exit->Act->World->Prop} {t':Nat->D} {h':Nat->Option Row} (hp:Uq ops F) (H:∀i o,ops[i]? = some o->∀d∈direct o,d<i)
  (X:∀(i j:Nat) (oi oj:Oper) (d:Nat),ops[i]? = some oi->ops[j]? = some oj->oi.dst=some d->oj.dst=some d->i=j) (hQ:∀a' w' s done,uR N M L w0 s e done t' h' a' w'->Q .normal a' w') :
  ∀(n:Nat) (LL:List Nat) (listed:Array Bool) (t:Nat->D) (h:Nat->Option Row) (a:Act) (w:World) (blk:Nat->Option (Nat×Nat)) (done:List Nat),LL.length=n->(∀i,i∈LL↔listed.getD i true=false)->LL.Pairwise (· < ·)->(∀i∈LL,i<ops.size)->listed.size=ops.size ->
   (∀i o,ops[i]? = some o->listed.getD i false=true->∀d∈direct o,listed.getD d false=true)->(∀d∈done,∃i o,ops[i]? = some o∧o.dst=some d∧listed.getD i false=true) ->
   Sa T Γ N e ops F LL t h t' h'->uR N M L w0 blk e done t h a w->wpAny P .any ops Q n listed a w:=by
 intro n
 induction n with
 | zero =>
  intro LL listed t h a w blk done hn G Y hlt y hdown l hr hI;have:LL=[]:=ajL hn;subst this;obtain⟨rfl,rfl⟩:=hr;refine⟨?_,hQ a w blk done hI⟩;refine List.eq_nil_iff_forall_not_mem.2 fun i hi =>?_;have:=(mem_ready.1 hi).1;exact absurd ((G i).2 this) (by simp)
 | succ n ih =>
  intro LL listed t h a w blk done hn G Y hlt y hdown l hr hI;refine⟨fun z =>?_,fun i hi =>?_⟩
  ·cases LL with
   | nil=>simp at hn
   | cons i LL =>
    obtain⟨o,t1,W,A,_⟩:=hr;have q:i∈Region.ready .any ops listed:=by
     refine mem_ready.2 ⟨(G i).1 (by simp),o,A,fun B I hb =>?_⟩;have f:B.on∈direct o:=aiq.2 ⟨B,aj8.2 ⟨by simpa using I,hb⟩,rfl⟩;have al:=H i o A _ f
     by_cases hm:B.on∈i::LL
     ·rcases aiy.1 hm with hm|hm
      ·omega
      ·have:=(aj9.1 Y).1 _ hm;omega
     ·have W:¬listed.getD B.on true=false:=fun hf=>hm ((G _).2 hf);have h2:B.on<listed.size:=by rw[y];have:=hlt i (by simp);omega
      have:listed.getD B.on true=listed.getD B.on false:=by simp[Array.getD,h2]
      rw[<- this];simpa using W
    rw[z]at q;simp at q
  ·obtain⟨J,o,A,C⟩:=mem_ready.1 hi;have K:i∈LL:=(G i).2 J;obtain⟨E,u,rfl⟩:=List.append_of_mem K;have v:i<listed.size:=by rw[y];exact hlt i K
   have g:∀d∈direct o,listed.getD d false=true:=by
    intro d f;obtain⟨B,I,rfl⟩:=aiq.1 f;obtain⟨W,h2⟩:=aj8.1 I;exact C B (by simpa using W) h2
   have Z:∀j∈E,Uj ops F j i:=by
    intro j hj;have ab:j<i:=by
     have:=aka.1 Y;exact this.2.2 j hj i (by simp)
    rcases hp j i ab (hlt i K) with hc|hc
    ·have ad:listed.getD j false=true:=abT (S:=fun m=>listed.getD m false=true) hc (fun m om hm ae d f=>hdown m om hm ae d f) (fun o' x d f=>by
      rw[A]at x;cases x;exact g d f)
     have aa:=(G j).1 (by simp[hj]);have ag:j<listed.size:=by omega
     have:listed.getD j true=listed.getD j false:=by simp[Array.getD,ag]
     rw[this,ad]at aa;cases aa
    ·exact hc
   obtain⟨o',t1,W,x,O,R⟩:=front hr Z;rw[A]at x;cases x;unfold wpOp;simp only[A];refine MV hT hΓ hI O (fun d f ah =>?_) (fun a' w' s ai =>?_)
   ·obtain⟨k,ok,b,U,c⟩:=l d ah;have:=X i k o ok d A b f U;subst this;have:listed.getD i true=listed.getD i false:=by simp[Array.getD,v]
    rw[this,c]at J;cases J
   ·have r:∀k,(listed.setIfInBounds i true).getD k false=true↔k=i∨listed.getD k false=true:=by
     intro k
     by_cases p:k=i
     ·subst p;simp[v]
     ·rw[getD_set_ne false (Ne.symm p)];simp[p]
    have V:∀k,(listed.setIfInBounds i true).getD k true=false↔k≠i∧listed.getD k true=false:=by
     intro k
     by_cases p:k=i
     ·subst p;simp[v]
     ·rw[getD_set_ne true (Ne.symm p)];simp[p]
    have aj:(E++i::u).Nodup:=Y.imp (fun h=>Nat.ne_of_lt h);refine ih (E++u) (listed.setIfInBounds i true) t1 W a' w' s _ (by simp at hn ⊢;omega) (fun k =>?_) ?_ (fun k b=>hlt k (by simp at b ⊢;rcases b with b|b<;>simp[b])) (by simpa using y) (fun k ok b c d f =>?_) (fun d f =>?_) R ai
    ·rw[V];constructor
     ·intro b;have ak:k∈E++i::u:=by simp at b ⊢;rcases b with b|b<;>simp[b]
      refine⟨fun e =>?_,(G k).1 ak⟩;subst e;have:=List.nodup_append.1 aj;simp only[akb]at this;rcases ajI.1 b with b|b
      ·exact this.2.2 k b k (by simp) rfl
      ·exact this.2.1.1 b
     ·rintro⟨b,c⟩;have:=(G k).2 c;simp only[ajI,aiy]at this ⊢;rcases this with h|h|h
      ·exact .inl h
      ·exact absurd h b
      ·exact .inr h
    ·refine List.Pairwise.sublist ?_ Y;exact List.Sublist.append_left (List.sublist_cons_self _ _) _
    ·rw[r];rcases (r k).1 c with rfl|c
     ·rw[A]at b;cases b;exact .inr (g d f)
     ·exact .inr (hdown k ok b c d f)
    ·rcases ajI.1 f with f|f
     ·exact⟨i,o,A,by simpa using f,(r i).2 (.inl rfl)⟩
     ·obtain⟨k,ok,b,U,c⟩:=l d f;exact⟨k,ok,b,U,(r k).2 (.inr c)⟩
end
def CI (T:Nat->Option Ty) (Γ:Env) (N e:Nat) (ops:Array Oper):List Oper->(Nat->D)->(Nat->Option Row)->Option ((Nat->D)×(Nat->Option Row)×List lU)
 | [],t,h=>some (t,h,[])
 | o::l,t,h =>
  match step1 T Γ N e ops o t h with
  | some (t1,a,f) =>
   match CI T Γ N e ops l t1 a with
   | some (t2,h2,fs)=>some (t2,h2,f::fs)
   | none=>none
  | none=>none
def Mm:List Nat->Bool
 | []=>true
 | x::l => !l.contains x&&Mm l
def Zw (ops:Array Oper):Bool:=Mm (ops.toList.filterMap (·.dst))
def Uz (ops:Array Oper) (j i:Nat):Bool :=
 match ops[j]?,ops[i]? with
 | some oj,some oi=>oj.apart ops oi
 | _,_=>true
def Sx (ops:Array Oper):Bool :=
 (ops.toList.zipIdx.all fun p=>(direct p.1).all fun d=>decide (d<p.2)) &&
 ((List.range ops.size).all fun i=>(List.range i).all fun j=>((UP ops).getD i 0).testBit j||Uz ops j i)
def Ky (ops:Array Oper):List (Nat×Nat):=(List.range ops.size).flatMap fun i=>((List.range i).filter fun j => !((UP ops).getD i 0).testBit j).map fun j=>(j,i)
def aay (a:List lU) (p:Nat×Nat):Bool :=
 match a[p.1]?,a[p.2]? with
 | some f,some g=>f.q&&g.q||abW f.tc g.tc
 | _,_=>false
def Fq (ops:Array Oper) (a:List lU):Bool:=(Ky ops).all (aay a)
inductive Ex where
 | normal
 | exit (n:Nat)
 | ret
structure St where
 t:Nat->D
 h:Nat->Option Row
 e:Nat
def iter (f:St->Option (Ex×St)):Nat->St->Option (Ex×St)
 | 0,_=>none
 | n+1,s =>
  match f s with
  | some (.normal,s1)=>iter f n s1
  | r=>r
def yQ (T:Nat->Option Ty) (Γ:Env) (N:Nat) (ops:Array Oper) (a:Bool) (s:St):Option (Ex×St) :=
 match CI T Γ N s.e ops ops.toList s.t s.h with
 | some (t,h,b)=>if !a||Fq ops b then some (.normal,⟨t,h,s.e+1⟩) else none
 | none=>none
def RR (d:D) (x y:Option (Ex×St)):Option (Ex×St) :=
 match d with
 | .bool b=>if b then x else y
 | _=>none
def ae1 (r:Option (Ex×St)) (k:St->Option (Ex×St)):Option (Ex×St) :=
 match r with
 | some (.normal,s)=>k s
 | r=>r
def T8 (id:Nat) (r:Option (Ex×St)):Option (Ex×St) :=
 match r with
 | some (.exit n,s)=>if n=id then some (.normal,s) else some (.exit n,s)
 | r=>r
def gD (T:Nat->Option Ty) (Γ:Env) (N F:Nat):Code->St->Option (Ex×St)
 | .skip,s=>some (.normal,s)
 | .region _ ops draw,s=>yQ T Γ N ops draw s
 | .seq a b,s=>ae1 (gD T Γ N F a s) (gD T Γ N F b)
 | .cond c x y,s=>RR (ev s.t c) (gD T Γ N F x s) (gD T Γ N F y s)
 | .block id b,s=>T8 id (gD T Γ N F b s)
 | .loop b,s=>iter (gD T Γ N F b) F s
 | .exit id,s=>some (.exit id,s)
 | .ret,s=>some (.ret,s)
 | _,_=>none
def codeOk:Code->Bool
 | .region _ ops draw=>Zw ops&&(!draw||Sx ops)
 | .seq a b=>codeOk a&&codeOk b
 | .cond _ x y=>codeOk x&&codeOk y
 | .block _ b=>codeOk b
 | .loop b=>codeOk b
 | _=>true
section
variable {P:Program} {T:Nat->Option Ty} {N:Nat} {M:Nat->Prop} {L:kx} {w0:World} {blk:Nat->Option (Nat×Nat)} {t:Nat->D} {h:Nat->Option Row} {a:Act} {w:World} {e:Nat} {o:Oper} {Γ:Env} {ops:Array Oper}
def Kp:∀ {l:List Nat},Mm l=true->l.Nodup
 | [],_=>List.nodup_nil
 | x::l,h=>by
  simp only[Mm,ai2,ai3,List.contains_eq_mem,decide_eq_false_iff_not]at h;exact akb.2 ⟨h.1,Kp h.2⟩
def H5:∀ {l:List Oper} {done:List Nat},(l.filterMap (·.dst)).Nodup->(∀o∈l,∀d,o.dst=some d->d∉done)->∀o e,l=o::e->(e.filterMap (·.dst)).Nodup∧∀c∈e,∀d,c.dst=some d->d∉o.dst.toList++done:=by
 intro l done f h o e j;subst j;cases i:o.dst with
 | none =>
  rw[List.filterMap_cons_none i]at f;exact⟨f,fun c a d b=>by simpa using h c (by simp[a]) d b⟩
 | some x =>
  rw[List.filterMap_cons_some i]at f;obtain⟨k,m⟩:=akb.1 f;refine⟨m,fun c a d b g =>?_⟩;simp only[Option.toList_some,List.singleton_append,aiy]at g;rcases g with rfl|g
  ·exact k (List.mem_filterMap.2 ⟨c,a,b⟩)
  ·exact h c (by simp[a]) d b g
def Au (u:ji P T) (v:bI P Γ) {Q:Exit->Act->World->Prop} : ∀ {l:List Oper} {t g:Nat->D} {h h':Nat->Option Row} {i:List lU} {a:Act} {w:World} {blk:Nat->Option (Nat×Nat)} {done:List Nat},
  CI T Γ N e ops l t h=some (g,h',i)->(l.filterMap (·.dst)).Nodup->(∀o∈l,∀d,o.dst=some d->d∉done)->uR N M L w0 blk e done t h a w ->
  (∀j k c done,uR N M L w0 c e done g h' j k->Q .normal j k)->wpList P ops Q l a w
 | [],t,g,h,h',i,a,w,blk,done,b,_,_,m,n=>by
  simp only[CI,aiA,Prod.mk.injEq]at b;obtain⟨rfl,rfl,_⟩:=b;exact n a w blk done m
 | o::l,t,g,h,h',i,a,w,blk,done,b,y,x,m,n=>by
  simp only[CI]at b;split at b
  ·rename_i t1 B f z;split at b
   ·rename_i t2 C A p;simp only[aiA,Prod.mk.injEq]at b;obtain⟨rfl,rfl,_⟩:=b;obtain⟨q,r⟩:=H5 y x o l rfl;have:=MV (K:=wpList P ops Q l) (Q:=Q) u v m z (x o (by simp)) (fun j k c s=>Au u v p q r s n);unfold wpList;exact this
   ·cases b
  ·cases b
def Bq {F:Nat->lU} : ∀ {l:List Oper} {k:Nat} {t b:Nat->D} {h h':Nat->Option Row} {fs:List lU},CI T Γ N e ops l t h=some (b,h',fs)->(∀j,l[j]? = ops[k+j]?)->(∀j f,fs[j]? = some f->F (k+j)=f) ->
  fs.length=l.length∧Sa T Γ N e ops F (List.range' k l.length) t h b h'
 | [],k,t,b,h,h',fs,a,_,_=>by
  simp only[CI,aiA,Prod.mk.injEq]at a;obtain⟨rfl,rfl,rfl⟩:=a;exact⟨rfl,rfl,rfl⟩
 | o::l,k,t,b,h,h',fs,a,d,g=>by
  simp only[CI]at a;split at a
  ·rename_i t1 i f m;split at a
   ·rename_i t2 u n c;simp only[aiA,Prod.mk.injEq]at a;obtain⟨rfl,rfl,rfl⟩:=a;obtain⟨p,q⟩:=Bq (k:=k+1) c (fun j=>by have:=d (j+1);simpa [aiM,Nat.add_comm 1 j] using this) (fun j r s=>by have:=g (j+1) r (by simpa using s);rwa [show k+(j+1)=k+1+j by omega]at this);refine⟨by simp[p],o,t1,i,by have:=d 0;simpa using this.symm,?_,q⟩;have:=g 0 f rfl;rw[ai0]at this;rw[this];exact m
   ·cases a
  ·cases a
def Holds (N:Nat) (M:Nat->Prop) (L:kx) (w0:World) (s:St) (a:Act) (w:World):Prop:=∃blk,uR N M L w0 blk s.e [] s.t s.h a w
def IA (hT:ji P T) (hΓ:bI P Γ) (hm:P.follows .mixedOrders=true) {id:Nat} {c:Bool} {s:St} {x:Ex} {s':St} {Q:Exit->Act->World->Prop} (C:yQ T Γ N ops c s=some (x,s')) (p:(Zw ops&&(!c||Sx ops))=true)
  (hH:Holds N M L w0 s a w) (hQ:∀D E,Holds N M L w0 s' D E->Q .normal D E):x=.normal∧(Code.region id ops c).wp P Q a w:=by
 unfold yQ at C;split at C
 ·rename_i t h fs u;split at C
  ·rename_i e;simp only[aiA,Prod.mk.injEq]at C;obtain⟨rfl,rfl⟩:=C;refine⟨rfl,?_⟩;simp only[ai2]at p;have R:(ops.toList.filterMap (·.dst)).Nodup:=Kp p.1;obtain⟨blk,hI⟩:=hH;have y:∀D E g done,uR N M L w0 g s.e done t h D E->Q .normal D E:=by
    intro D E g done S;refine hQ D E ⟨g,S.inv.weaken fun x v hx =>?_,fun x r ty s nv cs k1 k2 k3 k4 =>?_⟩
    ·rcases hx with⟨m,hx|⟨hx,_⟩⟩|⟨m,h2,h3,h4⟩
     ·exact .inl ⟨m,.inl (by simp only;omega)⟩
     ·exact .inl ⟨m,.inl (by simp only;omega)⟩
     ·exact .inr ⟨m,by simp only;omega,fun _=>by simp only;omega,h4⟩
    ·have:=S.nv x r ty s nv cs k1 k2 k3 k4;exact⟨by simp only;omega,fun _=>by simp only;omega⟩
   cases c with
   | false =>
    apply wp_region_list;exact Au hT hΓ u R (done:=[]) (fun o _ d _=>by simp) hI y
   | true =>
    simp only[ajW,ajv]at e p;apply wp_region_any hm;have G:=p.2;simp only[Sx,ai2]at G
    let F:Nat->lU:=fun i=>fs.getD i ⟨[],true⟩
    obtain⟨U,z⟩:=Bq (F:=F) (k:=0) u (fun j=>by simp) (fun j f A=>by simp[F,List.getD,A]);have H:∀i o,ops[i]? = some o->∀d∈direct o,d<i:=by
     intro i o O d hd;have h1:=G.1;rw[aiC]at h1;have n:(o,i)∈ops.toList.zipIdx:=by
      rw[List.mem_zipIdx_iff_getElem?];simpa using O
     have:=h1 _ n;rw[aiC]at this;simpa using this d hd
    have V:∀(i j:Nat) (oi oj:Oper) (d:Nat),ops[i]? = some oi->ops[j]? = some oj->oi.dst=some d->oj.dst=some d->i=j:=by
     have key:∀(l:List Oper),(l.filterMap (·.dst)).Nodup->∀(i j:Nat) (oi oj:Oper) (d:Nat),l[i]? = some oi->l[j]? = some oj->oi.dst=some d->oj.dst=some d->i=j:=by
      intro l
      induction l with
      | nil=>intro _ i j oi oj d b;simp at b
      | cons o l ih =>
       intro m i j oi oj d b A I J;have aa:(l.filterMap (·.dst)).Nodup:=by
        cases O:o.dst with
        | none=>rw[List.filterMap_cons_none O]at m;exact m
        | some x=>rw[List.filterMap_cons_some O]at m;exact (akb.1 m).2
       have B:∀(k:Nat) (ok:Oper),l[k]? = some ok->o.dst=some d->ok.dst=some d->False:=by
        intro k ok hk O ab;rw[List.filterMap_cons_some O]at m;exact (akb.1 m).1 (List.mem_filterMap.2 ⟨ok,aiT hk,ab⟩)
       cases i with
       | zero =>
        simp only[List.getElem?_cons_zero,aiA]at b;subst b;cases j with
        | zero=>rfl
        | succ j=>exact (B j oj (by simpa using A) I J).elim
       | succ i =>
        cases j with
        | zero =>
         simp only[List.getElem?_cons_zero,aiA]at A;subst A;exact (B i oi (by simpa using b) J I).elim
        | succ j=>rw[ih aa i j oi oj d (by simpa using b) (by simpa using A) I J]
     intro i j oi oj d b A;exact key ops.toList R i j oi oj d (by simpa using b) (by simpa using A)
    have q:Uq ops F:=by
     intro j i W b
     by_cases hc:((UP ops).getD i 0).testBit j=true
     ·exact .inl (YZ hc)
     ·refine .inr ⟨fun oj oi ad ae =>?_,?_⟩
      ·have h2:=G.2;rw[aiC]at h2;have:=h2 i (akc.2 b);rw[aiC]at this;have:=this j (akc.2 W);simp only[aj6]at this;rcases this with h'|h'
       ·exact absurd h' hc
       ·simpa [Uz,ad,ae] using h'
      ·rw[Fq,aiC]at e;have n:(j,i)∈Ky ops:=by
        refine ajZ.2 ⟨i,akc.2 b,aiq.2 ⟨j,aj8.2 ⟨akc.2 W,?_⟩,rfl⟩⟩;simpa using hc
       have:=e _ n;have X:i<fs.length:=by rw[U];simpa using b
       have Y:j<fs.length:=by omega
       simp only[aay,aiE Y,aiE X]at this;simp only[F,ai4,aiE Y,aiE X,Option.getD_some];exact this
    rw[ai7,<- List.range_eq_range']at z;have Z:∀i,(Array.replicate ops.size false).getD i false=false:=by
     intro i
     by_cases b:i<ops.size
     ·simp[Array.getD,b]
     ·simp[Array.getD,b]
    have K:∀i,(Array.replicate ops.size false).getD i true=false↔i<ops.size:=by
     intro i
     by_cases b:i<ops.size
     ·simp[Array.getD,b]
     ·simp[Array.getD,b]
    exact X6 hT hΓ q H V y ops.size (List.range ops.size) (Array.replicate ops.size false) s.t s.h a _ blk [] (by simp) (fun i=>by rw[K];exact akc) akd (fun i b=>akc.1 b) (by simp)
     (fun i o _ hl=>by rw[Z]at hl;cases hl) (fun d hd=>by simp at hd) z ⟨hI.inv.drew,hI.nv⟩
  ·cases C
 ·cases C
def FK:Ex->Exit
 | .normal =>.normal
 | .exit n =>.exit n
 | .ret =>.ret
def jM (E:ji P T) (G:bI P Γ) (H:P.follows .mixedOrders=true) {F:Nat} : ∀(c:Code) (s:St) (x:Ex) (j:St) (Q:Exit->Act->World->Prop) (a:Act) (w:World),gD T Γ N F c s=some (x,j)->codeOk c=true->Holds N M L w0 s a w ->
  (∀k l,Holds N M L w0 j k l->Q (FK x) k l)->c.wp P Q a w:=by
 intro c
 induction c with
 | skip =>
  intro s x j Q a w e _ m i;simp only[gD,aiA,Prod.mk.injEq]at e;obtain⟨rfl,rfl⟩:=e;exact wp_skip (i a w m)
 | region id ops draw =>
  intro s x j Q a w e f m i;simp only[gD]at e;have I:x=.normal:=by
   unfold yQ at e;split at e
   ·split at e
    ·simp only[aiA,Prod.mk.injEq]at e;exact e.1.symm
    ·cases e
   ·cases e
  subst I;exact (IA E G H e f m i).2
 | seq b c p ihc =>
  intro s x j Q a w e f m i;simp only[codeOk,ai2]at f;simp only[gD,ae1]at e;apply wp_seq;split at e
  ·rename_i q o;exact p s .normal q _ a w o f.1 m (fun k l g=>ihc q x j Q k l e f.2 g i)
  ·rename_i r hne;refine p s x j _ a w e f.1 m (fun k l g =>?_);cases x with
   | normal=>exact absurd e (fun h=>hne j h)
   | exit n=>exact i k l g
   | ret=>exact i k l g
 | cond c b d p y =>
  intro s x j Q a w e f m i;simp only[codeOk,ai2]at f;simp only[gD]at e;unfold RR at e;split at e
  ·rename_i B J;obtain⟨blk,z⟩:=m;have C:=z.inv.ev c;rw[J]at C;refine wp_cond (t:=B) (ym C) ?_;cases B with
   | true=>exact p s x j Q a w e f.1 ⟨blk,z⟩ i
   | false=>exact y s x j Q a w e f.2 ⟨blk,z⟩ i
  ·cases e
 | block id b u =>
  intro s x j Q a w e f m i;simp only[gD]at e;apply wp_block;unfold T8 at e;split at e
  ·rename_i n q o;refine u s (.exit n) q _ a w o f m (fun k l g =>?_);split at e
   ·rename_i A;simp only[aiA,Prod.mk.injEq]at e;obtain⟨rfl,rfl⟩:=e;simp only[FK,Exit.inBlock,A,if_true];exact i k l g
   ·rename_i A;simp only[aiA,Prod.mk.injEq]at e;obtain⟨rfl,rfl⟩:=e;simp only[FK,Exit.inBlock,A,if_false];exact i k l g
  ·rename_i r hne;refine u s x j _ a w e f m (fun k l g =>?_);cases x with
   | normal=>exact i k l g
   | exit n=>exact absurd e (fun h=>hne n j h)
   | ret=>exact i k l g
 | loop b u =>
  intro s x j Q a w e f m i;simp only[gD]at e;refine wp_loop_ghost (fun n a w=>∃s,Holds N M L w0 s a w∧iter (gD T Γ N F b) n s=some (x,j)) F ⟨s,m,e⟩ ?_;intro n a w ⟨q,v,o⟩;cases n with
  | zero=>simp[iter]at o
  | succ n =>
   simp only[iter]at o;split at o
   ·rename_i D K;exact u q .normal D _ a w K f v (fun k l g=>⟨n,by omega,D,g,o⟩)
   ·rename_i r hne;refine u q x j _ a w o f v (fun k l g =>?_);cases x with
    | normal=>exact absurd o (fun h=>hne j h)
    | exit n=>exact i k l g
    | ret=>exact i k l g
 | exit id =>
  intro s x j Q a w e _ m i;simp only[gD,aiA,Prod.mk.injEq]at e;obtain⟨rfl,rfl⟩:=e;exact wp_exit (i a w m)
 | ret =>
  intro s x j Q a w e _ m i;simp only[gD,aiA,Prod.mk.injEq]at e;obtain⟨rfl,rfl⟩:=e;exact wp_ret (i a w m)
 | _=>intro s x j Q a w e;simp[gD]at e
end
def QY (T:Nat->Option Ty) (s:St):ResultVar->Option (D×List Nat)
 | .tmp i=>ch s.h (s.t i)
 | .cell i a =>
  match T a,s.t i with
  | some τ,.ptr x v o=>match ff τ s.h (.ptr x v o) with|some E=>some (jw E.val,[])|none=>none
  | _,_=>none
def vK (T:Nat->Option Ty) (s:St):List ResultVar->Option (List D×List Nat)
 | []=>some ([],[])
 | r::b =>
  match QY T s r with
  | some (d,fr)=>match vK T s b with
   | some (ds,a)=>some (d::ds,fr++a)
   | none=>none
  | none=>none
def mS:List D->D
 | [d]=>d
 | ds =>.tup ds
inductive Mode where
 | clean|same|tight
 | fresh (ty s:Nat)
def cg:Option (D×Row)->List D->St
 | none,args=>⟨fun i=>args.getD i .und,fun _=>none,0⟩
 | some (d0,r),args=>⟨fun i=>(d0::args).getD i .und,fun x=>if x=0 then some { r with v:=0 } else none,1⟩
def mC:Option (D×Row)->St->Option (Option Row)
 | none,_=>some none
 | some (_,r),s =>
  match s.h 0 with
  | some a=>if a.v=0∧a.fz=false∧a.ty=r.ty∧(a.mp=r.mp∧vx a=true) then some (some a) else none
  | none=>none
def aat:Option (D×Row)->List Nat->Bool
 | none,_=>true
 | some _,fr => !fr.contains 0
def rR (T:Nat->Option Ty) (a:Option (D×Row)) (b:List ResultVar) (s:St):Option (RK×Option Row) :=
 match vK T s b,mC a s with
 | some (c,d),some o=>if aat a d then some (.clean (mS c),o) else none
 | _,_=>none
def LP (a:Option (D×Row)) (b:List ResultVar) (s:St):Option (RK×Option Row) :=
 match b with
 | [.tmp i] =>
  match s.t i,mC a s with
  | .buf 0 0 sz o n,some (some r)=>some (.same sz o n,some r)
  | _,_=>none
 | _=>none
def JC:D->Option (RK×Option Row)
 | .sl nl a n xs=>some (.clean (.sl nl a n xs),none)
 | _=>none
def FI (a:Option (D×Row)) (b:List ResultVar) (s:St):Option (RK×Option Row) :=
 match a,b with
 | none,[.tmp i]=>JC (s.t i)
 | _,_=>none
def yy (a s o n:Nat):Option Row->Option (RK×Option Row)
 | some r=>if r.fz=false∧r.ty=a∧o+n*s<=r.cells.length then some (.fresh a s n ((r.cells.drop o).take (n*s)),none) else none
 | none=>none
def qY (a s:Nat) (h:Nat->Option Row):D->Option (RK×Option Row)
 | .buf x v b o n=>if b=s then yy a s o n (live h x v) else none
 | .sl _ c 0 _=>if c=true then some (.fresh a s 0 [],none) else none
 | _=>none
def uh (b s:Nat) (c:List ResultVar) (a:St):Option (RK×Option Row) :=
 match c with
 | [.tmp i]=>qY b s a.h (a.t i)
 | _=>none
def gi (b:Mode) (T:Nat->Option Ty) (a:Option (D×Row)) (c:List ResultVar) (s:St):Option (RK×Option Row) :=
 match b with
 | .clean=>rR T a c s
 | .same=>LP a c s
 | .tight=>FI a c s
 | .fresh ty sz=>uh ty sz c s
def lT (b:Mode) (T:Nat->Option Ty) (Γ:Env) (F:Nat) (e:Func) (a:Option (D×Row)) (d:List D):Option (RK×Option Row) :=
 match e.body with
 | some c =>
  if e.ntmps<=PK then
   match gD T Γ e.ntmps F c (cg a d) with
   | some (.exit _,_)=>none
   | some (_,s)=>gi b T a e.results.toList ⟨s.t,EH s.h,s.e⟩
   | none=>none
  else none
 | none=>none
def GJ:Option (D×Row)->Bool
 | none=>true
 | some (.buf 0 0 _ _ _,_)=>true
 | some (.ptr 0 0 _,_)=>true
 | some (.mp 0 0,_)=>true
 | _=>false
def Gx:Option (D×Row)->List D->Nat
 | none,aim=>aim.length
 | some _,aim=>aim.length+1
section
variable {P:Program} {T:Nat->Option Ty} {N:Nat} {M:Nat->Prop} {L:kx} {w0:World} {blk:Nat->Option (Nat×Nat)} {a:Act} {w:World} {Γ:Env}
def Inv.aad {V:Nat->Nat->Prop} {t:Nat->D} {h:Nat->Option Row} (d:Inv N M L w0 blk V t h a w) (e:List Nat):qy M h blk e M where
 le b c := .inl c
 no x j r g f i c:=d.notM f i c
def CG (a:Array Value):ResultVar->Sem Value
 | .tmp t=>pure (a.getD t undef)
 | .cell b t=>do loadVar t (<- asAddr (a.getD b undef))
def Hj (b:Func) (c:Array Value):results b c=(do
  let a <- b.results.mapM (CG c)
  pure (if h:a.size=1 then a[0] else .tuple a)):=by
 unfold results;congr 1
def XF (o:ji P T) {k:Nat->Prop} {f:Nat} {τ:Ty} {g c:Nat} {xs:List D} {d:D} (p:T f=some τ) (h:At w k g c xs) (q:xs.length=τ.size) (b:kU τ xs=some d) :
  ∃u,(loadVar f ⟨g,c,none⟩).run P w=.ok u w∧RP w k d u:=by
 obtain⟨l,i,r,m,s⟩:=h.CS;have a:τ.ds.uk=false->xs.length=1∧xs=[d]:=by
  intro j;simp only[kU,j,ai1,if_false]at b;split at b
  ·simp only[aiA]at b;subst b;exact⟨rfl,rfl⟩
  ·cases b
 have e:=lO (o f τ p) w g c l (by rw[i,q]) r (fun j=>by rw[i];exact (a j).1);refine⟨_,e,?_⟩;cases n:τ.ds.uk with
 | true =>
  simp only[kU,n,if_true,aiA]at b;subst b;exact .agg xs l i m s
 | false =>
  obtain⟨_,rfl⟩:=a n;exact m 0 d rfl
def aaH (z:ji P T) {q:Nat->Prop} {V:Nat->Nat->Prop} {s:St} (j:Inv N M L w0 blk V s.t s.h a w) {r:ResultVar} {d:D} {t:List Nat} (c:QY T s r=some (d,t)) (hl:qy M s.h blk t q):∃u,(CG a.tmps r).run P w=.ok u w∧RP w q d u:=by
 cases r with
 | tmp i =>
  simp only[QY]at c;exact⟨a.tmps.getD i undef,rfl,j.ch c hl (j.slots i)⟩
 | cell i ty =>
  simp only[QY]at c;split at c
  ·rename_i τ x v o A B;split at c
   ·rename_i E e;simp only[aiA,Prod.mk.injEq]at c;obtain⟨rfl,_⟩:=c;have f:=j.slots i;rw[B]at f;simp only[ff]at e;split at e
    ·rename_i C h;obtain⟨y,F⟩:=cz h;split at e
     ·rename_i G;split at e
      ·rename_i J k;simp only[aiA]at e;subst e;obtain⟨g,H,l⟩:=f.2 C y F;have m:=((j.rowAt y H (iZ h)).drop o).take τ.size;obtain⟨u,n,p⟩:=XF z A m (by simp;omega) k;refine⟨u,?_,(p.less fun b I=>hl.le b I).jw⟩;simp only[CG,l,asAddr,aiY,Sem.run_pure,Result.andThen_ok,n]
      ·cases e
     ·cases e
    ·cases e
   ·cases c
  ·cases c
def Rf (n:ji P T) {o:Nat->Prop} {V:Nat->Nat->Prop} {s:St} (p:Inv N M L w0 blk V s.t s.h a w):∀(f:List ResultVar) (b:List D) (g:List Nat),vK T s f=some (b,g)->qy M s.h blk g o ->
  ∃c:List Value,(f.mapM (CG a.tmps)).run P w=.ok c w∧c.length=b.length∧∀j d,b[j]? = some d->RP w o d (c.getD j undef)
 | [],b,g,h,_=>by
  simp only[vK,aiA,Prod.mk.injEq]at h;obtain⟨rfl,_⟩:=h;exact⟨[],by simp,rfl,fun j d e=>by simp at e⟩
 | r::f,b,g,h,q=>by
  simp only[vK]at h;split at h
  ·rename_i d t v;split at h
   ·rename_i i k x;simp only[aiA,Prod.mk.injEq]at h;obtain⟨rfl,rfl⟩:=h;obtain⟨c,y,z,A⟩:=Rf n p f i k x q.right;obtain⟨u,l,m⟩:=aaH (P:=P) n p v q.left;refine⟨u::c,?_,by simp[z],fun j d e =>?_⟩
    ·simp only[List.mapM_cons,aiY,l,Result.andThen_ok,y,Sem.run_pure]
    ·cases j with
     | zero=>simp only[List.getElem?_cons_zero,aiA]at e;subst e;simpa using m
     | succ j=>simpa using A j d (by simpa using e)
   ·cases h
  ·cases h
def tu (l:ji P T) {k:Nat->Prop} {V:Nat->Nat->Prop} {s:St} (m:Inv N M L w0 blk V s.t s.h a w) {f:Func} {b:List D} {g:List Nat} (h:vK T s f.results.toList=some (b,g)) (n:qy M s.h blk g k) :
  ∃v,(results f a.tmps).run P w=.ok v w∧RP w k (mS b) v:=by
 obtain⟨e,o,i,c⟩:=Rf (P:=P) l m _ b g h n;have p:(f.results.mapM (CG a.tmps)).run P w=.ok e.toArray w:=by
  rw[ajk,Sem.run_map,o];rfl
 rw[Hj];simp only[aiY,p,Result.andThen_ok,Sem.run_pure];refine⟨_,rfl,?_⟩
 match e,b,i,c with
 | [u],[d],_,c=>simpa [mS] using c 0 d rfl
 | [],[],_,_=>exact .tup [] [] rfl (fun j x q=>by simp at q)
 | r::t::e,d1::d2::b,i,c =>
  have:¬(r::t::e).toArray.size=1:=by simp
  rw[dif_neg this];exact .tup _ _ (by simpa using i) c
def ny {a:Func} {b:Array Value} {i:Nat} (h:a.results.toList=[.tmp i]):(results a b).run P w=.ok (b.getD i undef) w:=by
 have c:a.results = #[.tmp i]:=by rw[<- h]
 rw[Hj,c];simp[CG]
def Inv.uh {V:Nat->Nat->Prop} {s:St} {q W:Nat} (t:Inv N M L w0 blk V s.t s.h a w) {K:Func} {y:RK} {out:Option Row} (e:Am.uh q W K.results.toList s=some (y,out)) :
  out=none∧∃v X p n cells,y=.fresh X p n cells∧(results K a.tmps).run P w=.ok v w∧wI w0 w M (LB L) v y:=by
 unfold Am.uh at e;split at e
 ·rename_i i k;have f:=t.slots i;unfold qY at e;split at e
  ·rename_i x v p o n z;rw[z]at f;split at e
   ·rename_i B;subst B;unfold yy at e;split at e
    ·rename_i r l;split at e
     ·rename_i h;obtain⟨Y,C,Z⟩:=h;simp only[aiA,Prod.mk.injEq]at e;obtain⟨rfl,rfl⟩:=e;refine⟨rfl,a.tmps.getD i undef,_,_,_,_,rfl,ny k,?_⟩;obtain⟨O,hv⟩:=cz l;have D:((r.cells.drop o).take (n*p)).length=n*p:=by simp;omega
      rcases t.AF l f with⟨g,o',c,cs,E,Q,R,F,g4,g5,g7,S⟩|⟨E,rfl,R,A,F⟩
      ·by_cases G:0<c∨o=0
       ·obtain⟨k1,k2⟩:=g5 G;subst k1;refine .inl ⟨(g.1,g.2+o),c,cs,Q,(show w0.heap.size<=g.1∨LB L g.1 from t.base O E),by rw[<- C];exact g4,R,F,k2,by rw[D];simp only;omega,fun j d m =>?_⟩;rw[cR]at m;split at m
        ·rw[aiM];refine⟨(S _ _ m).1,(S _ _ m).2.less fun b H =>?_⟩;rcases H with H|rfl
         ·exact .inl H
         ·exact .inr ⟨x,r,g,O,Y,E,rfl⟩
        ·cases m
       ·have hn:n=0:=by omega
        have I:c=0:=by omega
        subst hn I;exact .inr ⟨rfl,by simp,_,Q⟩
      ·exact .inr ⟨rfl,by simp,A,F⟩
     ·cases e
    ·cases e
   ·cases e
  ·rename_i T tg U z;rw[z]at f;split at e
   ·rename_i J;simp only[aiA,Prod.mk.injEq]at e;obtain⟨rfl,rfl⟩:=e;refine⟨rfl,a.tmps.getD i undef,_,_,_,_,rfl,ny k,.inr ⟨rfl,rfl,?_⟩⟩;have hr:RP w (Own M s.h blk) (.sl T tg 0 U) (a.tmps.getD i undef):=f;generalize a.tmps.getD i undef=u at *;cases hr with
    | sl A c T tight n U us h1 h2 h3 h4 h5 h6 h7 h8 =>
     have G:c=0:=by
      exact h5 J
     subst G;exact⟨A,rfl⟩
   ·cases e
  ·cases e
 ·cases e
def xR {args:List D} {vs:Array Value} {n i:Nat} (b:vs.size=args.length):(vs++Array.replicate (n-vs.size) undef).getD i undef=vs.getD i undef∨args.getD i .und=.und:=by
 by_cases a:i<args.length
 ·left;have:i<vs.size:=by omega
  simp[aiw,ake this]
 ·right;simp[List.getD,aj7 (akf a)]
def Wv {h:Nat->Option Row} (c:∀k r,h k=some r->k<2*PK∧vx r=true):EH h=h:=by
 funext k
 by_cases d:k<2*PK
 ·rw[tU d];cases a:h k with
  | none=>rfl
  | some r =>
   simp only[Option.map_some,Er];split
   ·rename_i e;obtain⟨f,g,b⟩:=Bb (c k r a).2 e;cases r;simp only at b;subst b;rfl
   ·rfl
 ·have i:h k=none:=by
   cases a:h k with
   | none=>rfl
   | some r=>exact absurd (c k r a).1 d
  rw[i];unfold EH;rw[if_neg d];cases a:h (k % PK) with
  | none=>rfl
  | some r =>
   simp only[Option.bind_some,s8];split
   ·rename_i e;obtain⟨f,g,b⟩:=Bb (c _ r a).2 e;rw[b];rfl
   ·rfl
def Ey {h:Nat->Option Row} (b:∀k r,h k=some r->k<2*PK∧r.mp=false):EH h=h:=by
 funext k
 by_cases c:k<2*PK
 ·rw[tU c];cases a:h k with
  | none=>rfl
  | some r =>
   simp only[Option.map_some,Er,(b k r a).2];rfl
 ·have d:h k=none:=by
   cases a:h k with
   | none=>rfl
   | some r=>exact absurd (b k r a).1 c
  rw[d];unfold EH;rw[if_neg c];cases a:h (k % PK) with
  | none=>rfl
  | some r =>
   simp only[Option.bind_some,s8,(b _ r a).2];rfl
def lk (hT:ji P T) (hΓ:bI P Γ) (hm:P.follows .mixedOrders=true) {N:Mode} {f:FuncId} {B:Func} {F:Nat} {lent:Option (D×Row)} {a:List D} {rk:RK} {ag:Option Row} (hf:P.funcs[f]? = some B)
  (Z:(match B.body with|some c=>codeOk c|none=>true)=true) (hn:Gx lent a<=B.ntmps) (G:GJ lent=true)
  (d:lT N T Γ F B lent a=some (rk,ag)):rp P f lent a rk ag:=by
 unfold lT at d;split at d<;>try (cases d;done)
 rename_i c hc;rw[hc]at Z;simp only at Z;split at d<;>try (cases d;done)
 rename_i ad;split at d<;>try (cases d;done)
 rename_i x s ao hv;cases lent with
 | none =>
  intro w M X hM h;have hI:Inv B.ntmps M none w (fun _=>none) (fun x v=>x<B.ntmps∧v<0) (cg none a).t (cg none a).h { tmps:=X++Array.replicate (B.ntmps-X.size) undef,defers:=[] } w:={
   tab:=fun b e=>(h.tab b e).less fun b e=>by
    rcases e with e|⟨x,r,g,l,_⟩
    ·exact e
    ·cases l
   below:=ee.refl _ _
   mlt:=hM
   lent:=fun b e=>absurd e qw
   pin:=fun C L=>by cases L
   defers:=rfl
   tsz:=by have:=h.1;simp only[Gx]at hn;simp;omega
   slots:=fun i=>by
    simp only[cg];rcases xR (n:=B.ntmps) (i:=i) h.1 with H|H
    ·rw[H]
     by_cases hi:i<a.length
     ·have E:=h.2 i _ (aiE hi);have O:a.getD i .und=a[i]:=by simp[List.getD,hi]
      rw[O];exact bR (E.less fun b e=>by
       rcases e with e|⟨x,r,g,l,_⟩
       ·exact e
       ·cases l)
     ·have O:a.getD i .und=.und:=by simp[List.getD,aj7 (akf hi)]
      rw[O];trivial
    ·rw[H];trivial
   rows:=fun x r l=>by cases l
   inj:=fun x y r s g g' l=>by cases l
   big:=ad
   pha:=fun y r g A=>by cases A
   ali:=fun y r g A=>by cases A }
  apply calls_of_wp hf hc;refine jM hT hΓ hm c (cg none a) x s _ _ _ hv Z ⟨_,⟨(by rw[Ey (fun k r hk=>by cases hk)];exact hI.weaken fun x v l=>absurd l.2 (Nat.not_lt_zero _)),fun x r ty s nv cs l=>by cases l⟩⟩ (fun Y w' hH =>?_);obtain⟨q,ah⟩:=hH;obtain⟨sE,Q⟩:∃sE:St,sE=⟨s.t,EH s.h,s.e⟩:=⟨_,rfl⟩;have hI':Inv B.ntmps M none w q (VE B.ntmps s.e [] s.h) sE.t sE.h Y w':=by rw[Q];exact ah.inv
  rw[<- Q]at d;have t:Below w.heap.size w w':=hI'.below.below (fun b e=>absurd e qw);have u:Y.defers=[]∧∃v,(results B Y.tmps).run P w'=.ok v w'∧(∃v',Ending.returned v=.returned v'∧Below w.heap.size w w'∧wI w w' M (fun _=>False) v' rk):=by
   refine⟨hI'.defers,?_⟩;cases N with
   | clean =>
    simp only[gi,rR,mC]at d;split at d<;>try (cases d;done)
    rename_i ds fr o R S;split at d<;>try (cases d;done)
    simp only[aiA,Prod.mk.injEq]at d;obtain⟨rfl,_⟩:=d;obtain⟨v,I,z⟩:=tu (P:=P) hT hI' R (hI'.aad fr);exact⟨v,I,v,rfl,t,z⟩
   | same =>
    simp only[gi,LP,mC]at d;split at d<;>try (cases d;done)
    split at d
    ·rename_i hq;cases hq
    ·cases d
   | tight =>
    simp only[gi,FI]at d;split at d<;>try (cases d;done)
    rename_i i _ ai;have aa:=hI'.slots i;generalize sE.t i=dd at *;unfold JC at d;split at d<;>try (cases d;done)
    rename_i nl tg n xs;simp only[aiA,Prod.mk.injEq]at d;obtain⟨rfl,_⟩:=d;have ar:RP w' (Own M sE.h q) (.sl nl tg n xs) (Y.tmps.getD i undef):=aa;exact⟨Y.tmps.getD i undef,ny ai,_,rfl,t,ar.less fun b e =>.inl e⟩
   | fresh ay s0 =>
    obtain⟨rfl,v,ty,sz,n,cells,rfl,I,z⟩:=hI'.uh (P:=P) d;refine⟨v,I,v,rfl,t,?_⟩;rcases z with⟨g,k1,cs,k2,k3,k4⟩|z
    ·exact .inl ⟨g,k1,cs,k2,k3.imp id (fun e=>absurd e qw),k4⟩
    ·exact .inr z
  cases x with
  | normal=>exact u
  | ret=>exact u
  | exit n=>exact (ao n rfl).elim
 | some p =>
  obtain⟨d0,r⟩:=p;intro w M C u0 X hM hgoM hz aj ae ak h;have U:∀b,Own M (cg (some (d0,r)) a).h (fun x=>if x=0 then C else none) b↔(M b∨uQ C b):=by
   intro b;constructor
   ·rintro (e|⟨x,V,g,l,_,L,H⟩)
    ·exact .inl e
    ·simp only[cg]at l;split at l
     ·rename_i h0;subst h0;simp only[if_true]at L;exact .inr ⟨g,L,H.symm⟩
     ·cases l
   ·rintro (e|⟨g,L,H⟩)
    ·exact .inl e
    ·exact .inr ⟨0,{ r with v:=0 },g,rfl,hz,by simpa using L,H.symm⟩
  have hI:Inv B.ntmps M (Mf C) w (fun x=>if x=0 then C else none) (fun x v=>x<B.ntmps∧v<1) (cg (some (d0,r)) a).t (cg (some (d0,r)) a).h { tmps:=(#[u0]++X)++Array.replicate (B.ntmps-(#[u0]++X).size) undef,defers:=[] } w:={
   tab:=fun b e=>(h.tab b e).less fun b e=>(U b).1 e
   below:=ee.refl _ _
   mlt:=hM
   lent:=fun b e=>hgoM b (Ll.1 e)
   pin:=fun aC L=>by
    cases L;exact⟨⟨by simp only[Gx]at hn;omega,akg⟩,fun V _ _=>⟨rfl,fun g _=>rfl⟩⟩
   defers:=rfl
   tsz:=by have:=h.1;simp only[Gx]at hn;simp;omega
   slots:=fun i=>by
    simp only[cg];rcases xR (args:=d0::a) (vs:=#[u0]++X) (n:=B.ntmps) (i:=i) (by simp[h.1];omega) with H|H
    ·rw[H];cases i with
     | zero =>
      have O:(#[u0]++X).getD 0 undef=u0:=by simp[Array.getElem?_append]
      rw[O];simp only[ajw];cases d0 with
      | buf x v sz o n =>
       have W:x=0∧v=0:=by
        simp only[GJ]at G;split at G<;>simp_all
       obtain⟨rfl,rfl⟩:=W;exact⟨⟨by simp only[Gx]at hn;omega,akg⟩,fun V E h2=>by simpa using ak.2 ⟨0,0,[],false,false,false⟩ rfl rfl⟩
      | ptr x v o =>
       have W:x=0∧v=0:=by
        simp only[GJ]at G;split at G<;>simp_all
       obtain⟨rfl,rfl⟩:=W;exact⟨⟨by simp only[Gx]at hn;omega,akg⟩,fun V E h2=>by simpa using ak.2 ⟨0,0,[],false,false,false⟩ rfl rfl⟩
      | mp x v =>
       have W:x=0∧v=0:=by
        simp only[GJ]at G;split at G<;>simp_all
       obtain⟨rfl,rfl⟩:=W;exact⟨⟨by simp only[Gx]at hn;omega,akg⟩,fun V E h2=>by simpa using ak.2 ⟨0,0,[],false,false,false⟩ rfl rfl⟩
      | _=>simp[GJ]at G
     | succ i =>
      have O:(#[u0]++X).getD (i+1) undef=X.getD i undef:=by
       simp only[aiw];rw[Array.getElem?_append_right (by simp)];simp
      rw[O];simp only[ajx]
      by_cases hi:i<a.length
      ·have E:=h.2 i _ (aiE hi);have O:a.getD i .und=a[i]:=by simp[List.getD,hi]
       rw[O];exact bR (E.less fun b e=>(U b).1 e)
      ·have O:a.getD i .und=.und:=by simp[List.getD,aj7 (akf hi)]
       rw[O];trivial
    ·rw[H];trivial
   rows:=fun x V l=>by
    simp only[cg]at l;split at l
    ·rename_i h0;subst h0;simp only[aiA]at l;subst l;refine⟨fun hn=>⟨hn,akg⟩,?_⟩;simp only[if_true];cases C with
     | none=>exact ae
     | some g =>
      exact⟨.inr (Ll.2 ⟨g,rfl,rfl⟩),ez.keep (r':={ r with v:=0 }) ae rfl rfl rfl rfl (fun b E h2=>⟨E,fun e=>h2 ((U b).1 e),rfl⟩)⟩
    ·cases l
   inj:=fun x y m r2 g g' l A _ _ _=>by
    simp only[cg]at l A;split at l
    ·split at A
     ·omega
     ·cases A
    ·cases l
   big:=ad
   pha:=fun y m g A hm _ j x s n hj=>by
    simp only[cg]at A;split at A
    ·simp only[aiA]at A;subst A;obtain⟨ks,az,hc⟩:=Bb aj hm;rw[show ({ r with v:=0 } : Row).cells=r.cells from rfl,hc]at hj;cases j<;>simp at hj
    ·cases A
   ali:=fun y m g A aD=>by
    simp only[cg]at A;split at A
    ·simp only[aiA]at A;subst A;simp_all
    ·cases A }
  have ab:EH (cg (some (d0,r)) a).h=(cg (some (d0,r)) a).h:=by
   refine Wv fun k V hk =>?_;simp only[cg]at hk;split at hk
   ·rename_i h0;subst h0;simp only[aiA]at hk;subst hk;exact⟨(by have:=cK;omega),by simpa [vx] using aj⟩
   ·cases hk
  have au:HX (cg (some (d0,r)) a).e [] (cg (some (d0,r)) a).h:=by
   intro x V ty s nv cs l aA;simp only[cg]at l;split at l
   ·simp only[aiA]at l;subst l;intro av;obtain⟨ks,az,hc⟩:=Bb aj aA;rw[show ({ r with v:=0 } : Row).cells=r.cells from rfl,hc]at av;cases av
   ·cases l
  apply calls_of_wp hf hc;refine jM hT hΓ hm c (cg (some (d0,r)) a) x s _ _ _ hv Z ⟨_,⟨(by rw[ab];exact hI.weaken fun x v l =>.inl ⟨l.1,.inl l.2⟩),au⟩⟩ (fun Y w' hH =>?_);obtain⟨q,ah⟩:=hH;obtain⟨sE,Q⟩:∃sE:St,sE=⟨s.t,EH s.h,s.e⟩:=⟨_,rfl⟩;have hI':Inv B.ntmps M (Mf C) w q (VE B.ntmps s.e [] s.h) sE.t sE.h Y w':=by rw[Q];exact ah.inv
  rw[<- Q]at d;have t:ee (uQ C) w w':=⟨hI'.below.os,hI'.below.tape,hI'.below.output,hI'.below.size,fun k hk hn=>hI'.below.block k hk (fun e=>hn (Ll.1 e))⟩;have J:∀m,mC (some (d0,r)) sE=some (some m)->sE.h 0=some m∧m.v=0∧m.fz=false∧(m.ty=r.ty∧(m.mp=r.mp∧vx m=true))∧q 0=C∧(∀g,C=some g->w'.shape? g.1=w.shape? g.1)∧(∀b,(M b∨uQ C b)->Own M sE.h q b):=by
   intro m hl;simp only[mC]at hl;split at hl<;>try (cases hl;done)
   rename_i r2 h2;split at hl<;>try (cases hl;done)
   rename_i al;simp only[aiA]at hl;subst hl;obtain⟨c1,c2,c3⟩:=al;obtain⟨_,k2⟩:=hI'.pin _ rfl;obtain⟨k3,k4⟩:=k2 r2 h2 c1;refine⟨h2,c1,c2,c3,k3,k4,?_⟩;rintro b (e|⟨g,L,H⟩)
   ·exact .inl e
   ·exact .inr ⟨0,r2,g,h2,c2,k3.trans L,H.symm⟩
  have K:∀m,mC (some (d0,r)) sE=some (some m)->Us w' (fun b=>M b∨uQ C b) C m:=by
   intro m hl;obtain⟨E,_,_,h4,h5,_,h7⟩:=J m hl;have:=(hI'.rows 0 m E).2;rw[h5]at this;cases C with
   | none=>exact this
   | some g =>
    exact ez.keep this.2 rfl rfl rfl rfl (fun b E h2=>⟨E,fun e=>h2 (h7 b e),rfl⟩)
  have u:Y.defers=[]∧∃v,(results B Y.tmps).run P w'=.ok v w'∧(∃v',Ending.returned v=.returned v'∧ee (uQ C) w w'∧ac3 w w' M C r ag∧ac5 w w' M C v' rk):=by
   refine⟨hI'.defers,?_⟩;cases N with
   | clean =>
    simp only[gi,rR]at d;split at d<;>try (cases d;done)
    rename_i ds fr o R S;split at d<;>try (cases d;done)
    rename_i aw;simp only[aat,ai3,List.contains_eq_mem,decide_eq_false_iff_not]at aw;simp only[aiA,Prod.mk.injEq]at d;obtain⟨rfl,rfl⟩:=d;cases o with
    | none =>
     simp only[mC]at S;split at S<;>try (cases S;done)
     split at S<;>cases S
    | some m =>
     obtain⟨E,h2,h3,h4,h5,h6,h7⟩:=J m S;have an:qy M sE.h q fr (fun b=>M b∨uQ C b):=by
      refine⟨h7,fun x l V g ax L e =>?_⟩;rcases e with e|⟨g',aB,H⟩
      ·exact hI'.notM ax L e
      ·have:x=0:=hI'.inj x 0 V m g g' ax E L (h5.trans aB) H;subst this;exact aw l
     obtain⟨v,I,z⟩:=tu (P:=P) hT hI' R an;exact⟨v,I,v,rfl,t,⟨h4.1,h3,h4.2,h6,K m S⟩,z⟩
   | same =>
    simp only[gi,LP]at d;split at d<;>try (cases d;done)
    rename_i i ai;split at d<;>try (cases d;done)
    rename_i sz o n m ht S;simp only[aiA,Prod.mk.injEq]at d;obtain⟨rfl,rfl⟩:=d;obtain⟨E,h2,h3,h4,h5,h6,h7⟩:=J m S;refine⟨Y.tmps.getD i undef,ny ai,_,rfl,t,⟨h4.1,h3,h4.2,h6,K m S⟩,?_⟩;have aa:=hI'.slots i;rw[ht]at aa;refine⟨trivial,fun V _ _ =>?_⟩;have:=aa.2 m E h2;rw[h5]at this;exact this
   | tight =>
    simp only[gi,FI]at d;cases d
   | fresh ay s0 =>
    obtain⟨rfl,v,ty,sz,n,cells,rfl,I,z⟩:=hI'.uh (P:=P) d;refine⟨v,I,v,rfl,t,trivial,?_⟩;rcases z with⟨g,k1,cs,k2,k3,k4⟩|z
    ·exact .inl ⟨g,k1,cs,k2,k3.imp id (fun e=>Ll.1 e),k4⟩
    ·exact .inr z
  cases x with
  | normal=>exact u
  | ret=>exact u
  | exit n=>exact (ao n rfl).elim
def ext (Γ:Env) (f:Nat) (l:Bool) (G:Option (D×Row)->List D->Option (RK×Option Row)):Env:=⟨fun g=>if g=f then l else Γ.lends g,fun g a b=>if g=f then G a b else Γ.sem g a b,Γ.own,Γ.hint,Γ.ins,Γ.grw,Γ.nst,Γ.nx⟩
def bI.ext (d:bI P Γ) {f:Nat} {l:Bool} {G:Option (D×Row)->List D->Option (RK×Option Row)} (i:∀a b e c,G a b=some (e,c)->rp P f a b e c) (j:eD P f):bI P (Am.ext Γ f l G):=by
 refine⟨fun g a b e c h =>?_,d.ins,d.grw,d.lnd,d.res⟩;simp only[Am.ext]at h;split at h
 ·rename_i k;subst k;exact⟨i a b e c h,j⟩
 ·exact d.calls g a b e c h
def bf:Env:=⟨fun _=>false,fun _ _ _=>none,fun _=>true,fun _=>none,fun _=>none,fun _=>none,fun _=>none,{}⟩
def bI.none:bI P bf:=⟨fun f a b d c h=>(by cases h),fun f p h=>(by cases h),fun f p h=>(by cases h),fun f p h=>(by cases h),fun f p h=>(by cases h)⟩
def keep (d:Nat) (Γ:Env):Env:=⟨Γ.lends,Γ.sem,fun i=>i != d&&Γ.own i,Γ.hint,Γ.ins,Γ.grw,Γ.nst,Γ.nx⟩
def bI.keep (a:bI P Γ) (d:Nat):bI P (Am.keep d Γ):=⟨a.calls,a.ins,a.grw,a.lnd,a.res⟩
def Ga (f:Nat) (p:Nat×Nat×Nat) (Γ:Env):Env:=⟨Γ.lends,Γ.sem,Γ.own,Γ.hint,fun g=>if g=f then some p else Γ.ins g,Γ.grw,Γ.nst,Γ.nx⟩
def bI.Ga (a:bI P Γ) {f:Nat} {p:Nat×Nat×Nat} (b:Yi P f p):bI P (Am.Ga f p Γ):=⟨a.calls,fun g q h=>by
 simp only[Am.Ga]at h;split at h
 ·rename_i c;subst c;cases h;exact b
 ·exact a.ins g q h,a.grw,a.lnd,a.res⟩
def wA (d:Nat) (p:Nat×Nat×Nat) (Γ:Env):Env:=⟨Γ.lends,Γ.sem,Γ.own,Γ.hint,Γ.ins,Γ.grw,fun i=>if i=d then some p else Γ.nst i,Γ.nx⟩
def bI.wA (a:bI P Γ) (d:Nat) (p:Nat×Nat×Nat):bI P (Am.wA d p Γ):=⟨a.calls,a.ins,a.grw,a.lnd,a.res⟩
def qJ (f:Nat) (p:Nat×(Nat->Nat->Nat->Nat->List D->List D->Option (D×List D))) (Γ:Env):Env:=⟨Γ.lends,Γ.sem,Γ.own,Γ.hint,Γ.ins,Γ.grw,Γ.nst,⟨fun g=>if g=f then some p else Γ.nx.lnd g,Γ.nx.res⟩⟩
def bI.qJ (b:bI P Γ) {f:Nat} {p:Nat×(Nat->Nat->Nat->Nat->List D->List D->Option (D×List D))} (j:eD P f) (k:∀e t s o i a d c,p.2 e t s o i a=some (d,c)->Lj P f e t s o i a d c):bI P (Am.qJ f p Γ):=⟨b.calls,b.ins,b.grw,fun g q h=>by
 simp only[Am.qJ]at h;split at h
 ·rename_i l;subst l;cases h;exact⟨j,k⟩
 ·exact b.lnd g q h,b.res⟩
def Bh (f:Nat) (p:List D->Option (Nat×Nat×Nat×Nat×Nat×List D)) (Γ:Env):Env:=⟨Γ.lends,Γ.sem,Γ.own,Γ.hint,Γ.ins,Γ.grw,Γ.nst,⟨Γ.nx.lnd,fun g=>if g=f then some p else Γ.nx.res g⟩⟩
def bI.Bh (b:bI P Γ) {f:Nat} {p:List D->Option (Nat×Nat×Nat×Nat×Nat×List D)} (e:eD P f) (i:∀a c t s S n d,p a=some (c,t,s,S,n,d)->Li P f a c t s S n d):bI P (Am.Bh f p Γ):=⟨b.calls,b.ins,b.grw,b.lnd,fun g q h=>by
 simp only[Am.Bh]at h;split at h
 ·rename_i j;subst j;cases h;exact⟨e,i⟩
 ·exact b.res g q h⟩
end
def sA (b t s o:Nat) (c a:List D):St:=⟨fun i=>(.ptr 0 0 o::a).getD i .und,nD (ja b t s 0 c),1⟩
def ZG (t s:Nat) (b:List D):List D->Option (D×List D)
 | [.nr c d _ a]=>if c=t∧d=s then some (mS b,a) else none
 | _=>none
def OH (a t s:Nat):Option (List D×List Nat)->Option Row->Option (D×List D)
 | some (b,c),some r=>if r.v=0∧r.fz=false∧r.ty=a∧r.mp=true∧c.all (fun k=>rt k != 0)=true then ZG t s b r.cells else none
 | _,_=>none
def WY (T:Nat->Option Ty) (b t s:Nat) (c:List ResultVar) (a:St):Option (D×List D):=OH b t s (vK T ⟨a.t,EH a.h,a.e⟩ c) (a.h 0)
def vU (T:Nat->Option Ty) (Γ:Env) (F:Nat) (b:Func) (d t s o:Nat) (e a:List D):Option (D×List D) :=
 match b.body with
 | some c =>
  if b.ntmps<=PK then
   match gD T Γ b.ntmps F c (sA d t s o e a) with
   | some (.exit _,_)=>none
   | some (_,st)=>WY T d t s b.results.toList st
   | none=>none
  else none
 | none=>none
def ZE (x S n:Nat) (a:Nat):List D->Option (Nat×Nat×Nat×Nat×Nat×List D)
 | [.nr t s _ b]=>if x<PK then some (a,t,s,S,n,b) else none
 | _=>none
def OF (x v S n:Nat):Option Row->Option (Nat×Nat×Nat×Nat×Nat×List D)
 | some r=>if r.v=v∧r.fz=false∧r.mp=true then ZE x S n r.ty r.cells else none
 | none=>none
def U2 (h:Nat->Option Row):D->Option (Nat×Nat×Nat×Nat×Nat×List D)
 | .buf x v S 0 n=>OF x v S n (h x)
 | _=>none
def ZD (b:List ResultVar) (a:St):Option (Nat×Nat×Nat×Nat×Nat×List D) :=
 match b with
 | [.tmp i]=>U2 a.h (a.t i)
 | _=>none
def vT (T:Nat->Option Ty) (Γ:Env) (F:Nat) (b:Func) (a:List D):Option (Nat×Nat×Nat×Nat×Nat×List D) :=
 match b.body with
 | some c =>
  if b.ntmps<=PK then
   match gD T Γ b.ntmps F c (cg none a) with
   | some (.exit _,_)=>none
   | some (_,st)=>ZD b.results.toList st
   | none=>none
  else none
 | none=>none
def ZI (T:Nat->Option Ty):Option (Nat×Nat×Nat×Nat×Nat×List D)->Option D
 | some (_,_,s,S,n,a)=>if n*S<=a.length∧a.all (tR s)=true then some (.sl false false n ((a.map y4).take (n*S))) else none
 | none=>none
def Ua (T:Nat->Option Ty) (Γ:Env) (F:Nat) (b:Func) (a:List D):Option D:=ZI T (vT T Γ F b a)
section
variable {P:Program} {T:Nat->Option Ty} {N:Nat} {M:Nat->Prop} {L:kx} {w0:World} {blk:Nat->Option (Nat×Nat)} {a:Act} {w:World} {Γ:Env}
def Nc (hT:ji P T) (hΓ:bI P Γ) (hm:P.follows .mixedOrders=true) {f:FuncId} {K:Func} {F:Nat} {S t s o:Nat} {U a ah:List D} {d:D} (hf:P.funcs[f]? = some K)
  (Y:(match K.body with|some c=>codeOk c|none=>true)=true) (hn:a.length+1<=K.ntmps)
  (z:vU T Γ F K S t s o U a=some (d,ah)):Lj P f S t s o U a d ah:=by
 unfold vU at z;split at z<;>try (cases z;done)
 rename_i c hc;rw[hc]at Y;simp only at Y;split at z<;>try (cases z;done)
 rename_i ai;split at z<;>try (cases z;done)
 rename_i x st aq hv;intro w M blk E C m Z L N hM hdis aa hR A;have aB:=cK;have aj:∀k r,E k=some r->r.fz=false:=by
  intro k r G;rw[L]at G;rcases jW G with⟨_,rfl⟩|⟨_,_,_,_,_,rfl⟩<;>rfl
 have H:∀b,Own M E blk b↔(M b∨yj blk E b):=by
  intro b;constructor
  ·rintro (e|⟨k,r,g,C,_,h2,h3⟩)
   ·exact .inl e
   ·exact .inr ⟨k,r,g,C,h2,h3⟩
  ·rintro (e|⟨k,r,g,C,h2,h3⟩)
   ·exact .inl e
   ·exact .inr ⟨k,r,g,C,aj k r C,h2,h3⟩
 have ab:E 0=some ⟨0,S,U.mapIdx (su 0 s),false,true,true⟩:=by rw[L];exact xL
 obtain⟨LL,ad⟩:∃LL:kx,LL=some (some m,yj blk E):=⟨_,rfl⟩;have O:∀b,LB LL b↔yj blk E b:=by
  intro b;subst ad;constructor
  ·rintro⟨p,hp,h⟩;cases hp;rcases h with⟨g,V,rfl⟩|h
   ·cases V;exact⟨0,_,m,ab,aa,rfl⟩
   ·exact h
  ·exact fun h=>⟨_,rfl,.inr h⟩
 have hI:Inv K.ntmps M LL w blk (fun x v=>x<K.ntmps∧v<1) (sA S t s o U a).t E { tmps:=(#[Value.pointer (some ⟨m.1,m.2+o,none⟩)]++Z)++Array.replicate (K.ntmps-(#[Value.pointer (some ⟨m.1,m.2+o,none⟩)]++Z).size) undef,defers:=[] } w:={
  tab:=fun b e=>(A.tab b e).less fun b e=>(H b).1 e
  below:=ee.refl _ _
  mlt:=hM
  lent:=fun b e=>hdis b ((O b).1 e)
  pin:=fun p hp=>by
   subst ad;cases hp;exact⟨⟨by omega,akg⟩,fun r' _ _=>⟨aa,fun g _=>rfl⟩⟩
  defers:=rfl
  tsz:=by have:=A.1;simp;omega
  slots:=fun i=>by
   simp only[sA];rcases xR (args := .ptr 0 0 o::a) (vs:=#[.pointer (some ⟨m.1,m.2+o,none⟩)]++Z) (n:=K.ntmps) (i:=i) (by simp[A.1];omega) with he|he
   ·rw[he];cases i with
    | zero =>
     have e1:(#[Value.pointer (some ⟨m.1,m.2+o,none⟩)]++Z).getD 0 undef=.pointer (some ⟨m.1,m.2+o,none⟩):=by simp[Array.getElem?_append]
     rw[e1];simp only[ajw];exact⟨⟨by omega,akg⟩,fun r' _ _=>⟨m,aa,rfl⟩⟩
    | succ i =>
     have e1:(#[Value.pointer (some ⟨m.1,m.2+o,none⟩)]++Z).getD (i+1) undef=Z.getD i undef:=by
      simp only[aiw];rw[Array.getElem?_append_right (by simp)];simp
     rw[e1];simp only[ajx]
     by_cases hi:i<a.length
     ·have C:=A.2 i _ (aiE hi);have e1:a.getD i .und=a[i]:=by simp[List.getD,hi]
      rw[e1];exact bR (C.less fun b e=>(H b).1 e)
     ·have e1:a.getD i .und=.und:=by simp[List.getD,aj7 (akf hi)]
      rw[e1];trivial
   ·rw[he];trivial
  rows:=fun k r G=>by
   refine⟨fun hn =>?_,?_⟩
   ·rw[L]at G;rcases jW G with⟨rfl,rfl⟩|⟨o',_,_,rfl,_,rfl⟩
    ·exact⟨hn,akg⟩
    ·have:=fJ 0 o';omega
   ·have:=hR.rows k r G;cases V:blk k with
    | none=>rw[V]at this;exact this
    | some g =>
     rw[V]at this;exact⟨.inr ((O g.1).2 ⟨k,r,g,G,V,rfl⟩),this.keep rfl rfl rfl rfl fun b W q2=>⟨W,fun e=>q2 ((H b).1 e),rfl⟩⟩
  inj:=hR.inj
  big:=ai
  pha:=hR.pha
  ali:=fun y r g hy hz=>by rw[aj y r hy]at hz;cases hz }
 have ak:HX (sA S t s o U a).e [] (sA S t s o U a).h:=by
  intro k r' aC s' ar au X aD al;simp only[sA,nD]at X;split at X
  ·simp only[aiA]at X;subst X;simp only[ja,aiP,D.nr.injEq,and_true]at al;obtain⟨_,_,rfl,_⟩:=al;exact fun _=>⟨by simp[sA],fun _=>by simp[sA]⟩
  ·cases X
 have av:EH (sA S t s o U a).h=E:=L.symm;apply calls_of_wp hf hc;refine jM hT hΓ hm c (sA S t s o U a) x st _ _ _ hv Y ⟨_,⟨(by rw[av];exact hI.weaken fun x v X=>Or.inl ⟨X.1,Or.inl X.2⟩),ak⟩⟩ (fun a' w' hH =>?_);obtain⟨u,aw⟩:=hH;have hI':=aw.inv;unfold WY OH at z;split at z<;>try (cases z;done)
 rename_i ds fr r1 an Q;split at z<;>try (cases z;done)
 rename_i ae;obtain⟨c1,c2,c3,c4,c5⟩:=ae;unfold ZG at z;split at z<;>try (cases z;done)
 rename_i t' s' ar au j;split at z<;>try (cases z;done)
 rename_i ax;obtain⟨rfl,rfl⟩:=ax;simp only[aiA,Prod.mk.injEq]at z;obtain⟨rfl,rfl⟩:=z;have ay:=fY Q c4 j oH;obtain⟨p1,p2⟩:=(hI'.pin (some m,yj blk E) ad).2 _ ay c1;have R:=Lk (blk:=u) Q c4 j oH;rw[c3]at R;have hQ:∀b,(M b∨yj (sH u 0) C b)->Own M (EH st.h) u b:=by
  rintro b (e|e)
  ·exact .inl e
  ·rw[N]at e;obtain⟨k,r',g',q0,W,q2,q3⟩:=(R b).1 e;refine .inr ⟨k,r',g',W,?_,q2,q3⟩;rcases eX Q c4 j oH q0 W with⟨_,rfl⟩|⟨_,_,_,_,_,rfl⟩<;>exact c2
 have ag:qy M (EH st.h) u fr (fun b=>M b∨yj (sH u 0) C b):=by
  refine⟨hQ,fun k G r' g ao V e =>?_⟩;rcases e with e|e
  ·exact hI'.notM ao V e
  ·rw[N]at e;obtain⟨l,r2,g',q0,W,q2,q3⟩:=(R _).1 e;have:=hI'.inj k l r' r2 g g' ao W V q2 q3.symm;subst this;have:=aiC.1 c5 _ G;simp[q0]at this
 obtain⟨v,az,aA⟩:=tu (P:=P) (s:=⟨st.t,EH st.h,st.e⟩) hT hI' an ag;have I:=hI'.aeq Q c4 j c2 oH hQ;rw[c3,<- N]at I;have J:a'.defers=[]∧∃v,(results K a'.tmps).run P w'=.ok v w'∧(∃v' B,Ending.returned v=.returned v'∧ee (yj blk E) w w'∧B 0=some m∧w'.shape? m.1=w.shape? m.1∧(∀b,yj B C b->w.heap.size<=b∨yj blk E b)∧IE w' (fun b=>M b∨yj B C b) B C∧RP w' (fun b=>M b∨yj B C b) (mS ds) v'):=by
  refine⟨hI'.defers,v,az,v,sH u 0,rfl,⟨hI'.below.os,hI'.below.tape,hI'.below.output,hI'.below.size,fun k G hn=>hI'.below.block k G fun e=>hn ((O k).1 e)⟩,by rw[sH,tP];exact p1,p2 m rfl,fun b e =>?_,I,aA⟩;rw[N]at e;obtain⟨k,r',g',q0,W,q2,q3⟩:=(R b).1 e;rcases hI'.base W q2 with q|q
  ·exact .inl (by omega)
  ·exact .inr (by rw[<- q3];exact (O _).1 q)
 cases x with
 | normal=>exact J
 | ret=>exact J
 | exit n=>exact (aq n rfl).elim
def af3 (K:ji P T) (L:bI P Γ) (N:P.follows .mixedOrders=true) {f:FuncId} {e:Func} {F:Nat} {a:List D} {c:Code} {x:Ex} {p:St} (O:P.funcs[f]? = some e) (Q:e.body=some c) (A:codeOk c=true) (Y:a.length<=e.ntmps) (t:e.ntmps<=PK)
  (R:gD T Γ e.ntmps F c (cg none a)=some (x,p)) (B:∀n,x ≠ .exit n) {w:World} {M:Nat->Prop} {z:Array Value} (S:∀b,M b->b<w.heap.size) (d:Ay w M a z) {Φ:Ending->World->Prop}
  (C:∀q o h,Inv e.ntmps M none w h (VE e.ntmps p.e [] p.h) p.t (EH p.h) q o->∃v,(results e q.tmps).run P o=.ok v o∧Φ (.returned v) o):Calls P f z w Φ:=by
 have U:Inv e.ntmps M none w (fun _=>none) (fun x v=>x<e.ntmps∧v<0) (cg none a).t (cg none a).h { tmps:=z++Array.replicate (e.ntmps-z.size) undef,defers:=[] } w:={
  tab:=fun b j=>(d.tab b j).less fun b j=>by
   rcases j with j|⟨x,r,g,l,_⟩
   ·exact j
   ·cases l
  below:=ee.refl _ _
  mlt:=S
  lent:=fun b j=>absurd j qw
  pin:=fun Z V=>by cases V
  defers:=rfl
  tsz:=by have:=d.1;simp;omega
  slots:=fun i=>by
   simp only[cg];rcases xR (n:=e.ntmps) (i:=i) d.1 with E|E
   ·rw[E]
    by_cases G:i<a.length
    ·have H:=d.2 i _ (aiE G);have I:a.getD i .und=a[i]:=by simp[List.getD,G]
     rw[I];exact bR (H.less fun b j=>by
      rcases j with j|⟨x,r,g,l,_⟩
      ·exact j
      ·cases l)
    ·have I:a.getD i .und=.und:=by simp[List.getD,aj7 (akf G)]
     rw[I];trivial
   ·rw[E];trivial
  rows:=fun x r l=>by cases l
  inj:=fun x y r s g g' l=>by cases l
  big:=t
  pha:=fun y r g J=>by cases J
  ali:=fun y r g J=>by cases J }
 apply calls_of_wp O Q;refine jM K L N c (cg none a) x p _ _ _ R A ⟨_,⟨(by rw[Ey (fun k r C=>by cases C)];exact U.weaken fun x v l=>absurd l.2 (Nat.not_lt_zero _)),fun x r ty s nv cs l=>by cases l⟩⟩ (fun q o W =>?_);obtain⟨h,u⟩:=W;obtain⟨v,H,X⟩:=C q o h u.inv;have m:q.defers=[]∧∃v,(results e q.tmps).run P o=.ok v o∧Φ (.returned v) o:=⟨u.inv.defers,v,H,X⟩;cases x with
 | normal=>exact m
 | ret=>exact m
 | exit n=>exact (B n rfl).elim
def DZ {F:Nat} {f:Func} {e:List D} {o t s S n:Nat} {p:List D} (a:vT T Γ F f e=some (o,t,s,S,n,p)) :
  ∃c x g i k v r j,f.body=some c∧f.ntmps<=PK∧gD T Γ f.ntmps F c (cg none e)=some (x,g)∧(∀m,x ≠ .exit m)∧f.results.toList=[.tmp i]∧g.t i=.buf k v S 0 n∧g.h k=some r∧r.v=v∧r.fz=false∧r.mp=true∧k<PK∧r.ty=o∧r.cells=[.nr t s j p]:=by
 unfold vT at a;split at a<;>try (cases a;done)
 rename_i c q;split at a<;>try (cases a;done)
 rename_i h;split at a<;>try (cases a;done)
 rename_i x g hne u;unfold ZD at a;split at a<;>try (cases a;done)
 rename_i i l;unfold U2 at a;split at a<;>try (cases a;done)
 rename_i k v K L w;unfold OF at a;split at a<;>try (cases a;done)
 rename_i r y;split at a<;>try (cases a;done)
 rename_i b;unfold ZE at a;split at a<;>try (cases a;done)
 rename_i M N j z d;split at a<;>try (cases a;done)
 rename_i A;simp only[aiA,Prod.mk.injEq]at a;obtain⟨B,C,E,G,H,I⟩:=a;subst C E G H I;exact⟨c,x,g,i,k,v,r,j,q,h,u,fun m J=>hne m J,l,w,y,b.1,b.2.1,b.2.2,A,B,d⟩
def Nb (Z:ji P T) (hΓ:bI P Γ) (hm:P.follows .mixedOrders=true) {f:FuncId} {E:Func} {F:Nat} {e:List D} {Q t s S n:Nat} {R:List D} (hf:P.funcs[f]? = some E)
  (m:(match E.body with|some c=>codeOk c|none=>true)=true) (hn:e.length<=E.ntmps)
  (hr:vT T Γ F E e=some (Q,t,s,S,n,R)):Li P f e Q t s S n R:=by
 obtain⟨c,x,st,i,k,v,r,nv,U,y,hv,K,L,ht,G,c1,V,H,I,z,a⟩:=DZ hr;rw[U]at m;simp only at m;intro w M h vs A hM o;refine af3 Z hΓ hm hf U m hn y hv K hM o fun a' w' d j =>?_;have p:=Lk (blk:=d) G H a I;rw[z,<- A]at p;have B:Below w.heap.size w w':=j.below.below (fun b u=>absurd u qw);have hQ:∀b,(M b∨yj (sH d k) h b)->Own M (EH st.h) d b:=by
  rintro b (u|u)
  ·exact .inl u
  ·obtain⟨l,N,W,X,J,O,Y⟩:=(p b).1 u;refine .inr ⟨l,N,W,J,?_,O,Y⟩;rcases eX G H a I X J with⟨_,rfl⟩|⟨_,_,_,_,_,rfl⟩<;>exact V
 have g:=j.aeq G H a V I hQ;rw[z,<- A]at g;have C:=j.slots i;rw[ht]at C;refine⟨_,ny L,_,sH d k,rfl,B,fun b u =>?_,g,trivial,fun N _ _ =>?_⟩
 ·obtain⟨l,N,W,X,J,O,Y⟩:=(p b).1 u;rcases j.base J O with q|q
  ·omega
  ·exact absurd q qw
 ·rw[sH,tP];exact C.2 _ (fY G H a I) c1
def abk {s:Nat} {d:D} (h:tR s d=true):fA (y4 d)=true:=by
 cases d<;>first|rfl|exact h
def Nd (hT:ji P T) (hΓ:bI P Γ) (hm:P.follows .mixedOrders=true) {f:FuncId} {L:Func} {F:Nat} {e:List D} {d:D} (hf:P.funcs[f]? = some L)
  (p:(match L.body with|some c=>codeOk c|none=>true)=true) (hn:e.length<=L.ntmps)
  (q:Ua T Γ F L e=some d):rp P f none e (.clean d) none:=by
 unfold Ua ZI at q;split at q<;>try (cases q;done)
 rename_i ty t s S n a hF;split at q<;>try (cases q;done)
 rename_i u;simp only[aiA]at q;subst q;obtain⟨O,m⟩:=u;obtain⟨c,x,st,i,k,v,r,nv,hc,A,hv,Q,R,ht,hh,c1,c2,c3,U,ab,l⟩:=DZ hF;rw[hc]at p;simp only at p;intro w M vs hM y;refine af3 hT hΓ hm hf hc p hn A hv Q hM y fun a' V B C =>?_;have E:Below w.heap.size w V:=C.below.below (fun b hb=>absurd hb qw);obtain⟨G,_⟩:=C.aca (o:=0) hh c3 l c2 U a.length (by rw[ajV,akD];exact m);have hw:nF a.length 0 a=a.map y4:=by
  apply akE;intro j;rw[tz,aio];cases N:a[j]? with
  | none=>rfl
  | some d =>
   have:=(aiU.1 N).1;simp only[Option.map_some];rw[if_pos (by omega)]
 rw[hw]at G;generalize W:b6 st.h k (some (⟨r.v,r.ty,[.nr t s nv (a.map y4)],false,r.lst,true⟩:Row))=H at G;have I:H k=some ⟨r.v,r.ty,[.nr t s nv (a.map y4)],false,r.lst,true⟩:=by rw[<- W,ax]
 have J:=fY I rfl rfl U;have X:=G.ke (x:=k) (r:=⟨r.v,r.ty,(a.map y4).mapIdx (su k s),false,r.lst,true⟩) (r0:=⟨r.v,r.ty,a.map y4,false,r.lst,false⟩) (w':=V) J rfl rfl rfl rfl rfl (air _) (fun _ _ _=>rfl) (by
  cases hg:B k with
  | none =>
   have:=(G.rows k _ J).2;rw[hg]at this;have h1:(a.map y4).mapIdx (su k s)=[]:=this;have H:(a.map y4).length=0:=by
    have:=congrArg List.length h1;simpa using this
   exact ajL H
  | some g =>
   obtain⟨Y,a1,a2,a3⟩:=G.Bg I rfl rfl U hg;refine⟨rfl,Y,a1,a2,fun j d N =>?_⟩;have hd:fA d=true:=by
    have:=N;simp only[aio,aip]at this;obtain⟨d0,Z,rfl⟩:=this;exact abk (aiC.1 m d0 (aiT Z))
   exact⟨(fB hd).1,a3 j d N hd⟩) (fun h=>by cases h)
 have z:live (b6 (EH H) k (some ⟨r.v,r.ty,a.map y4,false,r.lst,false⟩)) k v=some ⟨r.v,r.ty,a.map y4,false,r.lst,false⟩:=by
  unfold live;rw[ax];simp[c1]
 have aa:Am.ch (b6 (EH H) k (some ⟨r.v,r.ty,a.map y4,false,r.lst,false⟩)) (.buf k v S 0 n)=some (.sl false false n ((a.map y4).take (n*S)),[k]):=by
  simp only[Am.ch,Am.bF,Am.dU,z,ajf,ajV];rw[if_pos (by rw[aiV];exact O)];rfl
 have K:=X.slots i;rw[ht]at K;exact⟨_,ny R,_,rfl,E,X.ch aa (X.aad [k]) K⟩
end
def Z1:dx->D
 | (n,none) =>.int .i64 n
 | (a,some b) =>.agg [.int .i64 a,.int .i64 b]
def Pz {w:World} {M:Nat->Prop} (k:dx):RP w M (Z1 k) (mg k):=by
 obtain⟨a,x⟩:=k;cases x with
 | none=>exact .int _ _
 | some b =>
  refine .agg [.int .i64 a,.int .i64 b] [.int .i64 a,.int .i64 b] rfl (fun j x c =>?_) (fun x d =>?_)
  ·match j,c with
   | 0,c=>simp only[List.getElem?_cons_zero,aiA]at c;subst c;exact .int _ _
   | 1,c=>simp only[List.getElem?_cons_succ,List.getElem?_cons_zero,aiA]at c;subst c;exact .int _ _
   | j+2,c=>simp at c
  ·simp only[aiy,ajy,or_false]at d;rcases d with rfl|rfl<;>rfl
section
variable {P:Program} {T:Nat->Option Ty} {N:Nat} {M:Nat->Prop} {L:kx} {w0:World} {blk:Nat->Option (Nat×Nat)} {V:Nat->Nat->Prop} {t:Nat->D} {h:Nat->Option Row} {a:Act} {w:World} {e:Nat} {o:Oper} {Γ:Env} {done:List Nat}
def wF {x v b:Nat} {c:List dx} {d:List D} {e a:Bool} (f:h x=some ⟨v,b,[.mpc c d],e,a,true⟩) (g:x<PK):EH h x=some ⟨v,b,[.mpc c d],e,a,true⟩∧∀o,EH h (NK x o)=none:=by
 constructor
 ·rw[tU (by have:=cK;omega),f];rfl
 ·intro o;rw[tT g,f];rfl
def yn (m:uR N M L w0 blk e done t h a w) (p:∀d:Nat,o.dst=some d->d∉done∧d<N) {E:ca} {v:Value} {l:World} (b:iS e h (aR h E.hw)) (q:kq N M L w0 (VE N e done h) t h a e o.dst E v l):Ew N M L w0 t h a e (o.dst.toList++done) E v l:=by
 have c:∀x,x∈done->x∈o.dst.toList++done:=fun x k=>aiG _ k;obtain⟨f,g,i⟩:=q;have j:∀x n,VE N e done h x n∨(o.dst=some x∧n=e)->VE N e (o.dst.toList++done) (aR h E.hw) x n:=by
  rintro x n (r|⟨k,rfl⟩)
  ·exact r.step b c
  ·exact .inl ⟨(p x k).2,.inr ⟨rfl,aiF _ (by rw[k];simp)⟩⟩
 exact⟨f,⟨g.weaken j,m.nv.step b c⟩,i.mono ⟨fun _ g i=>⟨g,i,rfl⟩,j,fun _ _ _ s g i=>⟨⟨s,g,i⟩,rfl,fun _ _=>rfl⟩⟩⟩
def BS {ops:Array Oper} {l:List Oper} {Q:Exit->Act->World->Prop} (i:o.guard=none) {K:(Nat->D)->(Nat->Option Row)->Prop} (r:uR N M L w0 blk e done t h a w) (j:fits N o.dst=true)
  (k:eE P o a w fun v c=>∃E:ca,K (fk t o.dst E.val) (aR h E.hw)∧Ew N M L w0 t h a e (o.dst.toList++done) E v c)
  (m:∀f h' g c b,K f h'->uR N M L w0 b e (o.dst.toList++done) f h' g c->wpList P ops Q l g c):wpList P ops Q (o::l) a w:=by
 unfold wpList;have:Region.wanted o (yielded ops a.tmps)=true:=by simp[Region.wanted,i]
 rw[this];simp only[if_true];refine .inl (k.wp fun v c n =>?_);obtain⟨E,p,b,d,q⟩:=n;exact m _ _ _ _ b p ⟨d.inv.aeH j q,d.nv⟩
def Ss (hT:ji P T) (hI:Inv N M L w0 blk V t (EH h) a w) {ty d x v v' f k el:Nat} {m:Operand} {l:List dx} {p:List D} {R:Bool} (ho:o.op=.range ty m) (hd:o.dst=some d) (hV:j0 N V d e) (hu:P.underlying ty=some (.map k el)) (hm:ev t m=.mp x v)
  (O:h x=some ⟨v,f,[.mpc l p],false,R,true⟩) (ag:f<900000) (K:x<PK) (S:d≠x) :
  eE P o a w (kq N M L w0 V t h a e o.dst ⟨.ptr d e 0,[(x,some ⟨v,f,[.mpc l p],true,true,true⟩),(d,some ⟨e,900000,[.mpc l p],false,true,true⟩)]⟩):=by
 have aw:=cK;have av:=hI.big;have ay:d<N:=hV.lt;have G:d<PK:=by omega
 obtain⟨ah,aA⟩:=wF O K;have U:=hI.ev m;rw[hm]at U;have ai:lS (EH h) x v=some (l,p):=by unfold lS;rw[ah];simp[ag]
 obtain⟨g,r,h1,h2,h3,h4,h5,aj,W,C,c,s,aB,ak,us,hk,hv⟩:=hI.PX ai U;have X:=run_range_map (P:=P) w ty k el g.1 C c hu s;have al:=hI.le (AU (h:=h) d G);have an:b6 h d none x=some ⟨v,f,[.mpc l p],false,R,true⟩:=by rw[az _ _ (Ne.symm S)];exact O
 obtain⟨Y,Z⟩:=wF an K;have hA:=al.freeze [x];have E:∀z,aR (EH (b6 h d none)) (kb (EH (b6 h d none)) [x]) z=if z=x then some ⟨v,f,[.mpc l p],true,true,true⟩ else EH (b6 h d none) z:=by
  intro z;rw[B0]
  by_cases hz:z=x
  ·subst hz;rw[if_pos (by simp),if_pos rfl,Y];rfl
  ·rw[if_neg (by simpa using hz),if_neg hz]
 generalize aC:aR (EH (b6 h d none)) (kb (EH (b6 h d none)) [x])=H at hA E;have aa:=heap_alloc_new w (.mapIter (some g.1) c #[] c);have hold:∀b,b<w.heap.size->(w.alloc (.mapIter (some g.1) c #[] c)).heap[b]? = w.heap[b]?:=fun b u=>Below.heap_alloc w _ b u;have A:=(Below.refl w.heap.size w).alloc (air _) (.mapIter (some g.1) c #[] c);have ab:g.1<w.heap.size:=(aiv.1 s).1;have I:H x=some ⟨v,f,[.mpc l p],true,true,true⟩:=by rw[E,if_pos rfl]
 have ao:¬Own M H blk g.1:=by
  rintro (u|⟨y,r',g',F,B,J,he⟩)
  ·exact hA.notM I h5 u
  ·have:y=x:=hA.inj y x r' _ g' g F I J h5 he;subst this;rw[I]at F;cases F;cases B
 have hB:=hA.EO (w':=w.alloc (.mapIter (some g.1) c #[] c)) (h1:=H) (old:=none) (d:=d) (e:=e) (r0:=⟨e,900000,[.mpc l p],false,true,true⟩) (go:=some (w.heap.size,0)) A.os A.tape A.output A.size (fun k hk _=>hold k hk) (fun y F=>by cases F) rfl hV
  ⟨.inl (air _),.inl ⟨l,p,rfl,W,fun q=>absurd q (Nat.lt_irrefl _),fun _=>⟨rfl,g.1,C,c,#[],[],List.range l.length,us,aa,by have:=A.size;omega,by
   rintro (u|u)
   ·exact ao u
   ·have:g.1=w.heap.size:=u;omega,(hold _ ab).trans s,ak,(ajD 900000).symm,ais _,by simp,List.nodup_range,fun i=>by
   rw[akc];constructor
   ·intro hi;exact⟨C[i]'(by omega),ajC (by omega),by simp⟩
   ·rintro⟨e1,aq,_⟩;have:=(aiv.1 aq).1;omega,fun i hi=>by simp at hi,fun j k' Q=>by
   obtain⟨e1,p1,p2,p3⟩:=hk j k' Q;have ar:=(aiU.1 Q).1;exact⟨j,e1,by simp[ar],p1,p2,p3⟩,fun j y Q=>(hv j y Q).keep fun b q1 q2=>⟨by have:=A.size;omega,by
    rintro (u|u)
    ·apply q2;rcases u with u|⟨y,r',g',F,B,J,he⟩
     ·exact .inl u
     ·by_cases ad:y=x
      ·subst ad;rw[I]at F;cases F;cases B
      ·rw[E,if_neg ad]at F;obtain⟨r2,q3,q4⟩:=AU (h:=h) d G y r' F;refine .inr ⟨y,r2,g',q3,?_,J,he⟩;rcases q4 with rfl|⟨_,cs,rfl,_⟩|⟨_,kk,rfl⟩
       ·exact B
       ·exact B
       ·exact B
    ·have:b=w.heap.size:=u;omega,hold b q1⟩⟩⟩⟩ rfl rfl (fun _ g' J j x' s' n' Q=>by cases j<;>simp at Q)
 have ae:b6 H d (some (⟨e,900000,[.mpc l p],false,true,true⟩:Row))=EH (aR h [(x,some ⟨v,f,[.mpc l p],true,true,true⟩),(d,some ⟨e,900000,[.mpc l p],false,true,true⟩)]):=by
  have au:aR h [(x,some ⟨v,f,[.mpc l p],true,true,true⟩),(d,some ⟨e,900000,[.mpc l p],false,true,true⟩)]=b6 (b6 h x (some ⟨v,f,[.mpc l p],true,true,true⟩)) d (some ⟨e,900000,[.mpc l p],false,true,true⟩):=rfl;rw[au];have k1:b6 (b6 h x (some (⟨v,f,[.mpc l p],true,true,true⟩:Row))) d (some ⟨e,900000,[.mpc l p],false,true,true⟩) d=some ⟨e,900000,[.mpc l p],false,true,true⟩:=ax _ _ _;have k2:b6 (b6 h x (some (⟨v,f,[.mpc l p],true,true,true⟩:Row))) d (some ⟨e,900000,[.mpc l p],false,true,true⟩) x=some ⟨v,f,[.mpc l p],true,true,true⟩:=by rw[az _ _ (Ne.symm S),ax]
  obtain⟨m1,m2⟩:=wF k1 G;obtain⟨m3,m4⟩:=wF k2 K;have k3:b6 h d none d=none:=ax _ _ _;funext z
  by_cases hzd:rt z=d
  ·rcases qf hzd with rfl|⟨o',rfl⟩
   ·rw[ax,m1]
   ·rw[az _ _ (by have:=fJ d o';omega),m2,E,if_neg (by have:=fJ d o';omega),tT G,k3];rfl
  ·rw[az _ _ (fun e=>hzd (by rw[e,je (by omega)])),E]
   by_cases hzx:rt z=x
   ·rcases qf hzx with rfl|⟨o',rfl⟩
    ·rw[if_pos rfl,m3]
    ·rw[if_neg (by have:=fJ x o';omega),m4,Z]
   ·rw[if_neg (fun e=>hzx (by rw[e,je (by omega)]))];exact eF (by rw[az _ _ hzd,az _ _ hzd,az _ _ hzx])
 rw[ae]at hB;refine aN (v := .pointer (some ⟨w.heap.size,0,none⟩)) (w':=w.alloc (.mapIter (some g.1) c #[] c)) ?_ ⟨b6 blk d (some (w.heap.size,0)),hB.weaken fun x n O =>?_,?_⟩
 ·simp[execOp,ho,aj,X]
 ·rcases O with O|⟨rfl,rfl⟩
  ·exact .inl O
  ·exact .inr ⟨hd,rfl⟩
 ·exact⟨.inr ⟨hd,rfl⟩,fun r hr hv=>⟨(w.heap.size,0),ax _ _ _,rfl⟩⟩
def Inv.iter (n:Inv N M L w0 blk V t (EH h) a w) {y v f:Nat} {p:Operand} {i:List dx} {j:List D} {k:Bool} (q:Am.ev t p=.ptr y v 0) (r:h y=some ⟨v,f,[.mpc i j],false,k,true⟩) (l:900000<=f) (m:y<PK) :
  ∃(g:Nat×Nat),blk y=some g∧a.eval p=.pointer (some ⟨g.1,g.2+0,none⟩)∧j.length=i.length∧No w (Own M (EH h) blk) g f i j:=by
 obtain⟨c,_⟩:=wF r m;have d:=n.ev p;rw[q]at d;obtain⟨g,o,s⟩:=d.2 _ c rfl;have b:=n.rowIs c o;unfold ez at b;simp only at b;rcases b with⟨u,x,e,z,_,A⟩|⟨e,_⟩
 ·simp only[aiP,D.mpc.injEq,and_true]at e;obtain⟨rfl,rfl⟩:=e;exact⟨g,o,s,z,A l⟩
 ·have:=e _ (aiO.2 rfl);cases this
def Ui {y v k b:Nat} {l c:List dx} {m d:List D} {n i f a:Bool} (o:h y=some ⟨v,k,[.mpc l m],n,i,true⟩) (g:y<PK):EH (b6 h y (some ⟨v,b,[.mpc c d],f,a,true⟩))=b6 (EH h) y (some ⟨v,b,[.mpc c d],f,a,true⟩):=by
 obtain⟨_,p⟩:=wF o g;have j:b6 h y (some (⟨v,b,[.mpc c d],f,a,true⟩:Row)) y=some ⟨v,b,[.mpc c d],f,a,true⟩:=ax _ _ _;obtain⟨q,r⟩:=wF j g;funext z
 by_cases hz:rt z=y
 ·rcases qf hz with rfl|⟨s,rfl⟩
  ·rw[ax,q]
  ·rw[az _ _ (by have:=fJ y s;have:=cK;omega),r,p]
 ·rw[az _ _ (fun e=>hz (by rw[e,je (by have:=cK;omega)]))];exact eF (by rw[az _ _ hz])
def WR (hI:Inv N M L w0 blk V t (EH h) a w) {y v ty:Nat} {p:Operand} {I:List dx} {K:List D} {O:Bool} (ho:o.op=.next p false) (hp:ev t p=.ptr y v 0) (hy:h y=some ⟨v,ty,[.mpc I K],false,O,true⟩) (aB:900000<=ty) (T:y<PK) :
  eE P o a w fun v' w'=>(I.drop (ty-900000)=[]∧kq N M L w0 V t h a e o.dst ⟨.tup [.bool false],[]⟩ v' w') ∨
   ∃(j:Nat) (k:dx) (x:D),(I.drop (ty-900000))[j]? = some k∧(K.drop (ty-900000))[j]? = some x∧kq N M L w0 V t h a e o.dst ⟨.tup [.bool true,Z1 k,x],[(y,some ⟨v,900001,[.mpc (k::(I.drop (ty-900000)).eraseIdx j) (x::(K.drop (ty-900000)).eraseIdx j)],false,O,true⟩)]⟩ v' w':=by
 obtain⟨g,hg,ah,ar,au,b,s,f,seen,c,l,us,h1,h2,h3,h4,ai,k1,k2,k3,k4,k5,k6,k7,k8⟩:=hI.iter hp hy aB T;rw[au,ai0]at ah;obtain⟨aj,_⟩:=wF hy T;rw[<- k1];have U:(I.drop c.length).length=l.length:=by rw[aiL,<- k3,ajB];omega
 have aC:(K.drop c.length).length=l.length:=by rw[aiL,ar,<- k3,ajB];omega
 rcases run_next_at (P:=P) w o.type g.1 b f f seen s f h1 h4 ai.1 (air _) with⟨aD,F⟩|⟨B,aE,w1,aF,F⟩
 ·refine aN (v := .tuple #[.bool false]) (w':=w) (by simp[execOp,ho,ah,F]) (.inl ⟨?_,?_⟩)
  ·have aG:l=[]:=by
    refine List.eq_nil_iff_forall_not_mem.2 fun i W =>?_;obtain⟨e1,G,q2⟩:=(k5 i).1 W;have:e1∈(leftOf s seen).toList:=by
     unfold leftOf;simp only[Array.toList_filter,aj8];exact⟨by simpa using ajj G,by rw[q2];rfl⟩
    have h0:(leftOf s seen).toList.length=0:=by simpa using aD
    rw[ajL h0]at this;cases this
   rw[aG]at U;exact ajL U
  ·refine bd.ec (h:=EH h) hI (bR (.tup _ [_] rfl fun j x R =>?_))
   match j,R with
   | 0,R=>simp only[List.getElem?_cons_zero,aiA]at R;subst R;exact .bool _
   | j+1,R=>simp at R
 ·obtain⟨m1,m2⟩:=mem_left aE;obtain⟨i,W⟩:=aiN m1;rw[aji]at W;have aH:i∈l:=(k5 i).2 ⟨B,W,m2⟩;obtain⟨j,R⟩:∃j,j=l.idxOf i:=⟨_,rfl⟩;have aI:j<l.length:=by rw[R];exact ajA aH
  have aJ:l[j]? = some i:=by rw[aiE aI];simp[R]
  have av:l.erase i=l.eraseIdx j:=List.erase_eq_eraseIdx_of_idxOf R.symm;have X:(I.drop c.length)[j]? = some ((I.drop c.length)[j]'(by omega)):=aiE _;have Y:(K.drop c.length)[j]? = some ((K.drop c.length)[j]'(by omega)):=aiE _;generalize (I.drop c.length)[j]'(by omega)=k at X;generalize (K.drop c.length)[j]'(by omega)=x at Y;have aw:∀n:Nat,(c++l)[c.length+n]? = l[n]?:=fun n=>by rw[ai6 (by omega)];congr 1;omega
  have H:B.key=mg k∧B.val=us (c.length+j):=by
   rw[aiI]at X;obtain⟨i',J,G,q2,Z,q4⟩:=k7 _ _ X;rw[aw,aJ]at G;cases G;rw[W]at q2;cases q2;exact⟨Z,q4⟩
  have ab:RP w (Own M (EH h) blk) x (us (c.length+j)):=by
   rw[aiI]at Y;exact k8 _ _ Y
  have ax:w1.heap=w.heap∧w1.os=w.os∧w1.tape=w.tape∧w1.output=w.output:=by rcases aF with rfl|rfl<;>exact⟨rfl,rfl,rfl,rfl⟩
  obtain⟨p1,p2,p3,p4⟩:=ax;generalize aa:ChangeMaps.setBlock w1 g.1 (.mapIter (some b) f (seen.push B.born) f)=w' at F;have ay:g.1<w.heap.size:=(aiv.1 h1).1;have ak:w'.heap=w.heap.setIfInBounds g.1 (.mapIter (some b) f (seen.push B.born) f):=by rw[<- aa,<- p1];rfl
  have al:w'.heap.size=w.heap.size:=by rw[ak];simp
  have ad:w'.heap[g.1]? = some (.mapIter (some b) f (seen.push B.born) f):=by rw[ak,aky,if_pos rfl,if_pos ay]
  have hheap:∀S,S≠g.1->w'.heap[S]? = w.heap[S]?:=fun S hb=>by rw[ak,aky,if_neg (Ne.symm hb)]
  have ae:Own M (EH h) blk g.1 := .inr ⟨y,_,g,aj,rfl,hg,rfl⟩;have aK:b≠g.1:=fun e=>h3 (e ▸ ae);have an:∀ {d:D} {u:Value},RP w (Own M (EH h) blk) d u->RP w' (Own M (EH h) blk) d u:=fun hr=>hr.keep fun b G q2=>⟨by rw[al];exact G,q2,hheap b (fun e=>q2 (e ▸ ae))⟩;have ag:∀ {n:Nat} {J:MapEntry},s[n]? = some J->(J.born==B.born)=decide (n=i):=by
   intro n J A
   by_cases ao:n=i
   ·subst ao;rw[W]at A;cases A;simp
   ·have:J.born≠B.born:=by
     intro he;have aL:=ai.2.1;have a1:(s.toList.map (·.born))[n]? = some J.born:=by simp[A]
     have a2:(s.toList.map (·.born))[i]? = some B.born:=by simp[W]
     have aM:=(aiU.1 a1).1;have aO:=(aiU.1 a2).1;exact ao ((List.getElem_inj (h₀:=aM) (h₁:=aO) aL).1 (by
      have b1:=(aiU.1 a1).2;have b2:=(aiU.1 a2).2;rw[b1,b2,he]))
    simp[ao,this]
  have hB:=hI.ke (x:=y) (r:=⟨v,ty,[.mpc I K],false,O,true⟩) (r0:=⟨v,900001,[.mpc (k::(I.drop c.length).eraseIdx j) (x::(K.drop c.length).eraseIdx j)],false,O,true⟩) (w':=w') aj rfl rfl
   (by rw[<- aa];exact p2) (by rw[<- aa];exact p3) (by rw[<- aa];exact p4) (by rw[al];exact air _) (fun S _ hb=>hheap S (hb g hg)) (by
   rw[hg];refine⟨by simp[World.shape?,ad,h1],.inl ⟨_,_,rfl,?_,fun q=>absurd q (by show ¬(900001<900000);omega),fun _=>⟨au,b,s,f,seen.push B.born,[i],l.eraseIdx j,fun m=>if m=0 then B.val else us (c.length+(if m-1<j then m-1 else m)),ad,by rw[al];exact h2,h3,(hheap b aK).trans h4,ai,(ajR (n:=900000) (m:=1)).symm,air _,?_,?_,fun n =>?_,fun n A =>?_,fun m k' E =>?_,fun m x' E =>?_⟩⟩⟩
   ·simp only[List.length_cons,List.length_eraseIdx];rw[U,aC]
   ·simp only[ajB,List.length_cons,List.length_nil,List.length_eraseIdx];rw[U];split<;>omega
   ·rw[<- av];exact k4.erase _
   ·rw[<- av,k4.mem_erase_iff,k5];constructor
    ·rintro⟨G,J,q2,Z⟩;exact⟨J,q2,by rw[contains_push,Z,ag q2];simpa using G⟩
    ·rintro⟨J,q2,Z⟩;rw[contains_push,ag q2,Bool.or_eq_false_iff,decide_eq_false_iff_not]at Z;exact⟨Z.2,J,q2,Z.1⟩
   ·simp only[aiO]at A;subst A;exact⟨B,W,by simp⟩
   ·cases m with
    | zero =>
     simp only[List.getElem?_cons_zero,aiA]at E;subst E;exact⟨i,B,rfl,W,H.1,by simp⟩
    | succ m =>
     rw[ajz,List.getElem?_eraseIdx]at E;have Q:(I.drop c.length)[if m<j then m else m+1]? = some k':=by
      by_cases C:m<j
      ·rw[if_pos C]at E ⊢;exact E
      ·rw[if_neg C]at E ⊢;exact E
     rw[aiI]at Q;obtain⟨i',J,G,q2,Z,q4⟩:=k7 _ _ Q;rw[aw]at G;refine⟨i',J,?_,q2,Z,?_⟩
     ·rw[List.singleton_append,ajz,List.getElem?_eraseIdx]
      by_cases C:m<j
      ·rw[if_pos C]at G ⊢;exact G
      ·rw[if_neg C]at G ⊢;exact G
     ·simp only[Nat.add_eq_zero_iff,akB,and_false,if_false,akl];exact q4
   ·cases m with
    | zero =>
     simp only[List.getElem?_cons_zero,aiA]at E;subst E;simp only[if_true];rw[H.2];exact an ab
    | succ m =>
     rw[ajz,List.getElem?_eraseIdx]at E;have Q:(K.drop c.length)[if m<j then m else m+1]? = some x':=by
      by_cases C:m<j
      ·rw[if_pos C]at E ⊢;exact E
      ·rw[if_neg C]at E ⊢;exact E
     rw[aiI]at Q;simp only[Nat.add_eq_zero_iff,akB,and_false,if_false,akl];exact an (k8 _ _ Q)) (fun hh=>by cases hh) (fun _ g' aq j' x' s' n' aP=>by cases j'<;>simp at aP)
  refine aN (v := .tuple #[.bool true,B.key,B.val]) (w':=w') (by simp[execOp,ho,ah,F]) (.inr ⟨j,k,x,X,Y,blk,?_,?_⟩)
  ·show Inv _ _ _ _ _ _ _ (EH (b6 h y (some _))) _ _;rw[Ui hy T];exact hB.weaken fun _ _ h =>.inl h
  ·have aQ:∀S,Own M (EH (b6 h y (some ⟨v,900001,[.mpc (k::(I.drop c.length).eraseIdx j) (x::(K.drop c.length).eraseIdx j)],false,O,true⟩))) blk S->Own M (EH h) blk S:=by
    rw[Ui hy T];rintro S (hb|⟨z,r',g',hz,aR,aq,he⟩)
    ·exact .inl hb
    ·by_cases aA:z=y
     ·subst aA;exact .inr ⟨z,_,g',aj,rfl,aq,he⟩
     ·rw[az _ _ aA]at hz;exact .inr ⟨z,r',g',hz,aR,aq,he⟩
   refine bR (.tup _ [.bool true,B.key,B.val] rfl fun n d A =>?_)
   match n,A with
   | 0,A=>simp only[List.getElem?_cons_zero,aiA]at A;subst A;exact .bool _
   | 1,A =>
    simp only[List.getElem?_cons_succ,List.getElem?_cons_zero,aiA]at A;subst A;simp only[ajx,ajw];rw[H.1];exact Pz k
   | 2,A =>
    simp only[List.getElem?_cons_succ,List.getElem?_cons_zero,aiA]at A;subst A;simp only[ajx,ajw];rw[H.2];exact (an ab).less aQ
   | n+3,A=>simp at A
def Sp (F:Inv N M L w0 blk V t (EH h) a w) {y v:Nat} {p:Operand} {k:dx} {x:D} {ks:List dx} {vs:List D} {u:Bool} (O:o.op=.entry p) (Q:ev t p=.ptr y v 0) (R:h y=some ⟨v,900001,[.mpc (k::ks) (x::vs)],false,u,true⟩) (z:y<PK) :
  eE P o a w (kq N M L w0 V t h a e o.dst ⟨.tup [Z1 k,x],[]⟩):=by
 obtain⟨g,hg,m,G,A,b,q,f,seen,c,l,us,H,h2,h3,S,B,T,k2,k3,k4,k5,U,W,X⟩:=F.iter Q R (by omega) z;rw[A,ai0]at m;have C:c.length=1:=by rw[T]
 match c,C with
 | [i],_ =>
  obtain⟨r,I,Y⟩:=U i (by simp);obtain⟨i',e',J,K,Z,r4⟩:=W 0 k rfl;simp only[List.singleton_append,List.getElem?_cons_zero,aiA]at J;subst J;rw[I]at K;cases K;obtain⟨s0,E⟩:=Array.back?_eq_some_iff.1 Y;rw[E]at H;have s:=run_entry_at (P:=P) w g.1 b f s0 q f r H S (by simpa using ajj I) B.2.1;refine aN (v := .tuple #[r.key,r.val]) (w':=w) (by simp[execOp,O,m,s]) (bd.ec (h:=EH h) F (bR (.tup _ [r.key,r.val] rfl fun n d j =>?_)))
  match n,j with
  | 0,j =>
   simp only[List.getElem?_cons_zero,aiA]at j;subst j;simp only[ajw];rw[Z];exact Pz k
  | 1,j =>
   simp only[List.getElem?_cons_succ,List.getElem?_cons_zero,aiA]at j;subst j;simp only[ajx,ajw];rw[r4];exact X 0 x rfl
  | n+2,j=>simp at j
end
def tab (t:Nat):Option Ty :=
 match t with
 | 2=>some ⟨.int .i64,1,8,[.int .i64 0],false⟩
 | 3=>some ⟨.int .i64,1,8,[.int .i64 0],false⟩
 | 4=>some ⟨.bool,1,1,[.bool false],false⟩
 | 5=>some ⟨.int .u8,1,1,[.int .u8 0],false⟩
 | 9=>some ⟨.str,1,16,[.string ⟨#[]⟩],false⟩
 | 12=>some ⟨.int .u64,1,8,[.int .u64 0],false⟩
 | 21=>some ⟨.int .i32,1,4,[.int .i32 0],false⟩
 | 22=>some ⟨.slice 3,1,24,[.slice none 0 0],false⟩
 | 23=>some ⟨.slice 63,1,24,[.slice none 0 0],false⟩
 | 24=>some ⟨.struct [(22,0),(23,1)],2,48,[.slice none 0 0,.slice none 0 0],false⟩
 | 25=>some ⟨.struct [(22,0),(23,1)],2,48,[.slice none 0 0,.slice none 0 0],false⟩
 | 26=>some ⟨.slice 41,1,24,[.slice none 0 0],false⟩
 | 30=>some ⟨.slice 50,1,24,[.slice none 0 0],false⟩
 | 31=>some ⟨.struct [(3,0),(30,1)],2,32,[.int .i64 0,.slice none 0 0],false⟩
 | 32=>some ⟨.struct [(3,0),(30,1)],2,32,[.int .i64 0,.slice none 0 0],false⟩
 | 33=>some ⟨.int .i64,1,8,[.int .i64 0],false⟩
 | 38=>some ⟨.struct [(3,0),(22,1)],2,32,[.int .i64 0,.slice none 0 0],false⟩
 | 39=>some ⟨.struct [(3,0),(22,1)],2,32,[.int .i64 0,.slice none 0 0],false⟩
 | 40=>some ⟨.struct [(39,0),(39,2)],4,64,[.int .i64 0,.slice none 0 0,.int .i64 0,.slice none 0 0],false⟩
 | 41=>some ⟨.struct [(39,0),(39,2)],4,64,[.int .i64 0,.slice none 0 0,.int .i64 0,.slice none 0 0],false⟩
 | 49=>some ⟨.struct [(3,0),(3,1),(41,2)],6,80,[.int .i64 0,.int .i64 0,.int .i64 0,.slice none 0 0,.int .i64 0,.slice none 0 0],false⟩
 | 50=>some ⟨.struct [(3,0),(3,1),(41,2)],6,80,[.int .i64 0,.int .i64 0,.int .i64 0,.slice none 0 0,.int .i64 0,.slice none 0 0],false⟩
 | 56=>some ⟨.slice 99,1,24,[.slice none 0 0],false⟩
 | 57=>some ⟨.slice 101,1,24,[.slice none 0 0],false⟩
 | 58=>some ⟨.slice 26,1,24,[.slice none 0 0],false⟩
 | 59=>some ⟨.struct [(56,0),(57,1),(58,2)],3,72,[.slice none 0 0,.slice none 0 0,.slice none 0 0],false⟩
 | 60=>some ⟨.struct [(56,0),(57,1),(58,2)],3,72,[.slice none 0 0,.slice none 0 0,.slice none 0 0],false⟩
 | 61=>some ⟨.slice 97,1,24,[.slice none 0 0],false⟩
 | 62=>some ⟨.struct [(60,0),(61,3),(22,4)],5,120,[.slice none 0 0,.slice none 0 0,.slice none 0 0,.slice none 0 0,.slice none 0 0],false⟩
 | 63=>some ⟨.struct [(60,0),(61,3),(22,4)],5,120,[.slice none 0 0,.slice none 0 0,.slice none 0 0,.slice none 0 0,.slice none 0 0],false⟩
 | 67=>some ⟨.map 70 41,1,8,[.map none],false⟩
 | 69=>some ⟨.struct [(3,0),(3,1)],2,16,[.int .i64 0,.int .i64 0],true⟩
 | 70=>some ⟨.struct [(3,0),(3,1)],2,16,[.int .i64 0,.int .i64 0],true⟩
 | 75=>some ⟨.slice 79,1,24,[.slice none 0 0],false⟩
 | 77=>some ⟨.slice 84,1,24,[.slice none 0 0],false⟩
 | 78=>some ⟨.struct [(41,0),(77,4)],5,88,[.int .i64 0,.slice none 0 0,.int .i64 0,.slice none 0 0,.slice none 0 0],false⟩
 | 79=>some ⟨.struct [(41,0),(77,4)],5,88,[.int .i64 0,.slice none 0 0,.int .i64 0,.slice none 0 0,.slice none 0 0],false⟩
 | 83=>some ⟨.struct [(3,0),(41,1)],5,72,[.int .i64 0,.int .i64 0,.slice none 0 0,.int .i64 0,.slice none 0 0],false⟩
 | 84=>some ⟨.struct [(3,0),(41,1)],5,72,[.int .i64 0,.int .i64 0,.slice none 0 0,.int .i64 0,.slice none 0 0],false⟩
 | 96=>some ⟨.struct [(3,0),(3,1)],2,16,[.int .i64 0,.int .i64 0],true⟩
 | 97=>some ⟨.struct [(3,0),(3,1)],2,16,[.int .i64 0,.int .i64 0],true⟩
 | 98=>some ⟨.struct [(3,0),(3,1),(3,2)],3,24,[.int .i64 0,.int .i64 0,.int .i64 0],true⟩
 | 99=>some ⟨.struct [(3,0),(3,1),(3,2)],3,24,[.int .i64 0,.int .i64 0,.int .i64 0],true⟩
 | 100=>some ⟨.struct [(3,0),(3,1),(3,2),(9,3)],4,40,[.int .i64 0,.int .i64 0,.int .i64 0,.string ⟨#[]⟩],true⟩
 | 101=>some ⟨.struct [(3,0),(3,1),(3,2),(9,3)],4,40,[.int .i64 0,.int .i64 0,.int .i64 0,.string ⟨#[]⟩],true⟩
 | 106=>some ⟨.int .u64,1,8,[.int .u64 0],false⟩
 | 131=>some ⟨.int .i64,1,8,[.int .i64 0],false⟩
 | 138=>some ⟨.int .u32,1,4,[.int .u32 0],false⟩
 | 140=>some ⟨.int .u64,1,8,[.int .u64 0],false⟩
 | 142=>some ⟨.slice 22,1,24,[.slice none 0 0],false⟩
 | 159=>some ⟨.int .u64,1,8,[.int .u64 0],false⟩
 | _=>none
def Wi:tab 3=some ⟨.int .i64,1,8,[.int .i64 0],false⟩:=rfl
def adW:tab 4=some ⟨.bool,1,1,[.bool false],false⟩:=rfl
def adX:tab 5=some ⟨.int .u8,1,1,[.int .u8 0],false⟩:=rfl
def abb:tab 9=some ⟨.str,1,16,[.string ⟨#[]⟩],false⟩:=rfl
def MX:tab 22=some ⟨.slice 3,1,24,[.slice none 0 0],false⟩:=rfl
def TL:tab 23=some ⟨.slice 63,1,24,[.slice none 0 0],false⟩:=rfl
def MY:tab 25=some ⟨.struct [(22,0),(23,1)],2,48,[.slice none 0 0,.slice none 0 0],false⟩:=rfl
def HC:tab 26=some ⟨.slice 41,1,24,[.slice none 0 0],false⟩:=rfl
def aa3:tab 30=some ⟨.slice 50,1,24,[.slice none 0 0],false⟩:=rfl
def aa4:tab 32=some ⟨.struct [(3,0),(30,1)],2,32,[.int .i64 0,.slice none 0 0],false⟩:=rfl
def TM:tab 39=some ⟨.struct [(3,0),(22,1)],2,32,[.int .i64 0,.slice none 0 0],false⟩:=rfl
def MZ:tab 41=some ⟨.struct [(39,0),(39,2)],4,64,[.int .i64 0,.slice none 0 0,.int .i64 0,.slice none 0 0],false⟩:=rfl
def aa5:tab 50=some ⟨.struct [(3,0),(3,1),(41,2)],6,80,[.int .i64 0,.int .i64 0,.int .i64 0,.slice none 0 0,.int .i64 0,.slice none 0 0],false⟩:=rfl
def TN:tab 56=some ⟨.slice 99,1,24,[.slice none 0 0],false⟩:=rfl
def TO:tab 57=some ⟨.slice 101,1,24,[.slice none 0 0],false⟩:=rfl
def TP:tab 58=some ⟨.slice 26,1,24,[.slice none 0 0],false⟩:=rfl
def TQ:tab 60=some ⟨.struct [(56,0),(57,1),(58,2)],3,72,[.slice none 0 0,.slice none 0 0,.slice none 0 0],false⟩:=rfl
def TR:tab 61=some ⟨.slice 97,1,24,[.slice none 0 0],false⟩:=rfl
def M0:tab 63=some ⟨.struct [(60,0),(61,3),(22,4)],5,120,[.slice none 0 0,.slice none 0 0,.slice none 0 0,.slice none 0 0,.slice none 0 0],false⟩:=rfl
def aa6:tab 67=some ⟨.map 70 41,1,8,[.map none],false⟩:=rfl
def aa7:tab 70=some ⟨.struct [(3,0),(3,1)],2,16,[.int .i64 0,.int .i64 0],true⟩:=rfl
def aa8:tab 75=some ⟨.slice 79,1,24,[.slice none 0 0],false⟩:=rfl
def aa9:tab 77=some ⟨.slice 84,1,24,[.slice none 0 0],false⟩:=rfl
def TS:tab 79=some ⟨.struct [(41,0),(77,4)],5,88,[.int .i64 0,.slice none 0 0,.int .i64 0,.slice none 0 0,.slice none 0 0],false⟩:=rfl
def aba:tab 84=some ⟨.struct [(3,0),(41,1)],5,72,[.int .i64 0,.int .i64 0,.slice none 0 0,.int .i64 0,.slice none 0 0],false⟩:=rfl
def M3:tab 97=some ⟨.struct [(3,0),(3,1)],2,16,[.int .i64 0,.int .i64 0],true⟩:=rfl
def M4:tab 99=some ⟨.struct [(3,0),(3,1),(3,2)],3,24,[.int .i64 0,.int .i64 0,.int .i64 0],true⟩:=rfl
def Eu:tab 101=some ⟨.struct [(3,0),(3,1),(3,2),(9,3)],4,40,[.int .i64 0,.int .i64 0,.int .i64 0,.string ⟨#[]⟩],true⟩:=rfl
def We:tab 106=some ⟨.int .u64,1,8,[.int .u64 0],false⟩:=rfl
def Wf:tab 138=some ⟨.int .u32,1,4,[.int .u32 0],false⟩:=rfl
def Wg:tab 140=some ⟨.int .u64,1,8,[.int .u64 0],false⟩:=rfl
def Wh:tab 142=some ⟨.slice 22,1,24,[.slice none 0 0],false⟩:=rfl
def ahP:eJ prog 2 ⟨.int .i64,1,8,[.int .i64 0],false⟩:=⟨by kernel_rfl,by kernel_rfl,by kernel_rfl,fun h=>by cases h⟩
def ahQ:eJ prog 3 ⟨.int .i64,1,8,[.int .i64 0],false⟩:=⟨by kernel_rfl,by kernel_rfl,by kernel_rfl,fun h=>by cases h⟩
def ahR:eJ prog 4 ⟨.bool,1,1,[.bool false],false⟩:=⟨by kernel_rfl,by kernel_rfl,by kernel_rfl,fun h=>by cases h⟩
def ahS:eJ prog 5 ⟨.int .u8,1,1,[.int .u8 0],false⟩:=⟨by kernel_rfl,by kernel_rfl,by kernel_rfl,fun h=>by cases h⟩
def ahT:eJ prog 9 ⟨.str,1,16,[.string ⟨#[]⟩],false⟩:=⟨by kernel_rfl,by kernel_rfl,by kernel_rfl,fun h=>by cases h⟩
def agu:eJ prog 12 ⟨.int .u64,1,8,[.int .u64 0],false⟩:=⟨by kernel_rfl,by kernel_rfl,by kernel_rfl,fun h=>by cases h⟩
def agv:eJ prog 21 ⟨.int .i32,1,4,[.int .i32 0],false⟩:=⟨by kernel_rfl,by kernel_rfl,by kernel_rfl,fun h=>by cases h⟩
def agw:eJ prog 22 ⟨.slice 3,1,24,[.slice none 0 0],false⟩:=⟨by kernel_rfl,by kernel_rfl,by kernel_rfl,fun h=>by cases h⟩
def agx:eJ prog 23 ⟨.slice 63,1,24,[.slice none 0 0],false⟩:=⟨by kernel_rfl,by kernel_rfl,by kernel_rfl,fun h=>by cases h⟩
def agy:eJ prog 24 ⟨.struct [(22,0),(23,1)],2,48,[.slice none 0 0,.slice none 0 0],false⟩:=⟨by kernel_rfl,by kernel_rfl,by kernel_rfl,fun h=>by cases h⟩
def agz:eJ prog 25 ⟨.struct [(22,0),(23,1)],2,48,[.slice none 0 0,.slice none 0 0],false⟩:=⟨by kernel_rfl,by kernel_rfl,by kernel_rfl,fun h=>by cases h⟩
def agA:eJ prog 26 ⟨.slice 41,1,24,[.slice none 0 0],false⟩:=⟨by kernel_rfl,by kernel_rfl,by kernel_rfl,fun h=>by cases h⟩
def agB:eJ prog 30 ⟨.slice 50,1,24,[.slice none 0 0],false⟩:=⟨by kernel_rfl,by kernel_rfl,by kernel_rfl,fun h=>by cases h⟩
def agC:eJ prog 31 ⟨.struct [(3,0),(30,1)],2,32,[.int .i64 0,.slice none 0 0],false⟩:=⟨by kernel_rfl,by kernel_rfl,by kernel_rfl,fun h=>by cases h⟩
def agD:eJ prog 32 ⟨.struct [(3,0),(30,1)],2,32,[.int .i64 0,.slice none 0 0],false⟩:=⟨by kernel_rfl,by kernel_rfl,by kernel_rfl,fun h=>by cases h⟩
def agE:eJ prog 33 ⟨.int .i64,1,8,[.int .i64 0],false⟩:=⟨by kernel_rfl,by kernel_rfl,by kernel_rfl,fun h=>by cases h⟩
def agF:eJ prog 38 ⟨.struct [(3,0),(22,1)],2,32,[.int .i64 0,.slice none 0 0],false⟩:=⟨by kernel_rfl,by kernel_rfl,by kernel_rfl,fun h=>by cases h⟩
def agG:eJ prog 39 ⟨.struct [(3,0),(22,1)],2,32,[.int .i64 0,.slice none 0 0],false⟩:=⟨by kernel_rfl,by kernel_rfl,by kernel_rfl,fun h=>by cases h⟩
def agH:eJ prog 40 ⟨.struct [(39,0),(39,2)],4,64,[.int .i64 0,.slice none 0 0,.int .i64 0,.slice none 0 0],false⟩:=⟨by kernel_rfl,by kernel_rfl,by kernel_rfl,fun h=>by cases h⟩
def agI:eJ prog 41 ⟨.struct [(39,0),(39,2)],4,64,[.int .i64 0,.slice none 0 0,.int .i64 0,.slice none 0 0],false⟩:=⟨by kernel_rfl,by kernel_rfl,by kernel_rfl,fun h=>by cases h⟩
def agJ:eJ prog 49 ⟨.struct [(3,0),(3,1),(41,2)],6,80,[.int .i64 0,.int .i64 0,.int .i64 0,.slice none 0 0,.int .i64 0,.slice none 0 0],false⟩:=⟨by kernel_rfl,by kernel_rfl,by kernel_rfl,fun h=>by cases h⟩
def agK:eJ prog 50 ⟨.struct [(3,0),(3,1),(41,2)],6,80,[.int .i64 0,.int .i64 0,.int .i64 0,.slice none 0 0,.int .i64 0,.slice none 0 0],false⟩:=⟨by kernel_rfl,by kernel_rfl,by kernel_rfl,fun h=>by cases h⟩
def agL:eJ prog 56 ⟨.slice 99,1,24,[.slice none 0 0],false⟩:=⟨by kernel_rfl,by kernel_rfl,by kernel_rfl,fun h=>by cases h⟩
def agM:eJ prog 57 ⟨.slice 101,1,24,[.slice none 0 0],false⟩:=⟨by kernel_rfl,by kernel_rfl,by kernel_rfl,fun h=>by cases h⟩
def agN:eJ prog 58 ⟨.slice 26,1,24,[.slice none 0 0],false⟩:=⟨by kernel_rfl,by kernel_rfl,by kernel_rfl,fun h=>by cases h⟩
def agO:eJ prog 59 ⟨.struct [(56,0),(57,1),(58,2)],3,72,[.slice none 0 0,.slice none 0 0,.slice none 0 0],false⟩:=⟨by kernel_rfl,by kernel_rfl,by kernel_rfl,fun h=>by cases h⟩
def agP:eJ prog 60 ⟨.struct [(56,0),(57,1),(58,2)],3,72,[.slice none 0 0,.slice none 0 0,.slice none 0 0],false⟩:=⟨by kernel_rfl,by kernel_rfl,by kernel_rfl,fun h=>by cases h⟩
def agQ:eJ prog 61 ⟨.slice 97,1,24,[.slice none 0 0],false⟩:=⟨by kernel_rfl,by kernel_rfl,by kernel_rfl,fun h=>by cases h⟩
def agR:eJ prog 62 ⟨.struct [(60,0),(61,3),(22,4)],5,120,[.slice none 0 0,.slice none 0 0,.slice none 0 0,.slice none 0 0,.slice none 0 0],false⟩:=⟨by kernel_rfl,by kernel_rfl,by kernel_rfl,fun h=>by cases h⟩
def agS:eJ prog 63 ⟨.struct [(60,0),(61,3),(22,4)],5,120,[.slice none 0 0,.slice none 0 0,.slice none 0 0,.slice none 0 0,.slice none 0 0],false⟩:=⟨by kernel_rfl,by kernel_rfl,by kernel_rfl,fun h=>by cases h⟩
def agT:eJ prog 67 ⟨.map 70 41,1,8,[.map none],false⟩:=⟨by kernel_rfl,by kernel_rfl,by kernel_rfl,fun h=>by cases h⟩
def agU:eJ prog 69 ⟨.struct [(3,0),(3,1)],2,16,[.int .i64 0,.int .i64 0],true⟩:=⟨by kernel_rfl,by kernel_rfl,by kernel_rfl,fun _=>⟨by kernel_rfl,by kernel_rfl,by kernel_rfl⟩⟩
def agV:eJ prog 70 ⟨.struct [(3,0),(3,1)],2,16,[.int .i64 0,.int .i64 0],true⟩:=⟨by kernel_rfl,by kernel_rfl,by kernel_rfl,fun _=>⟨by kernel_rfl,by kernel_rfl,by kernel_rfl⟩⟩
def agW:eJ prog 75 ⟨.slice 79,1,24,[.slice none 0 0],false⟩:=⟨by kernel_rfl,by kernel_rfl,by kernel_rfl,fun h=>by cases h⟩
def agX:eJ prog 77 ⟨.slice 84,1,24,[.slice none 0 0],false⟩:=⟨by kernel_rfl,by kernel_rfl,by kernel_rfl,fun h=>by cases h⟩
def agY:eJ prog 78 ⟨.struct [(41,0),(77,4)],5,88,[.int .i64 0,.slice none 0 0,.int .i64 0,.slice none 0 0,.slice none 0 0],false⟩:=⟨by kernel_rfl,by kernel_rfl,by kernel_rfl,fun h=>by cases h⟩
def agZ:eJ prog 79 ⟨.struct [(41,0),(77,4)],5,88,[.int .i64 0,.slice none 0 0,.int .i64 0,.slice none 0 0,.slice none 0 0],false⟩:=⟨by kernel_rfl,by kernel_rfl,by kernel_rfl,fun h=>by cases h⟩
def ag0:eJ prog 83 ⟨.struct [(3,0),(41,1)],5,72,[.int .i64 0,.int .i64 0,.slice none 0 0,.int .i64 0,.slice none 0 0],false⟩:=⟨by kernel_rfl,by kernel_rfl,by kernel_rfl,fun h=>by cases h⟩
def ag1:eJ prog 84 ⟨.struct [(3,0),(41,1)],5,72,[.int .i64 0,.int .i64 0,.slice none 0 0,.int .i64 0,.slice none 0 0],false⟩:=⟨by kernel_rfl,by kernel_rfl,by kernel_rfl,fun h=>by cases h⟩
def ag2:eJ prog 96 ⟨.struct [(3,0),(3,1)],2,16,[.int .i64 0,.int .i64 0],true⟩:=⟨by kernel_rfl,by kernel_rfl,by kernel_rfl,fun _=>⟨by kernel_rfl,by kernel_rfl,by kernel_rfl⟩⟩
def ag3:eJ prog 97 ⟨.struct [(3,0),(3,1)],2,16,[.int .i64 0,.int .i64 0],true⟩:=⟨by kernel_rfl,by kernel_rfl,by kernel_rfl,fun _=>⟨by kernel_rfl,by kernel_rfl,by kernel_rfl⟩⟩
def ag4:eJ prog 98 ⟨.struct [(3,0),(3,1),(3,2)],3,24,[.int .i64 0,.int .i64 0,.int .i64 0],true⟩:=⟨by kernel_rfl,by kernel_rfl,by kernel_rfl,fun _=>⟨by kernel_rfl,by kernel_rfl,by kernel_rfl⟩⟩
def ag5:eJ prog 99 ⟨.struct [(3,0),(3,1),(3,2)],3,24,[.int .i64 0,.int .i64 0,.int .i64 0],true⟩:=⟨by kernel_rfl,by kernel_rfl,by kernel_rfl,fun _=>⟨by kernel_rfl,by kernel_rfl,by kernel_rfl⟩⟩
def aeS:eJ prog 100 ⟨.struct [(3,0),(3,1),(3,2),(9,3)],4,40,[.int .i64 0,.int .i64 0,.int .i64 0,.string ⟨#[]⟩],true⟩:=⟨by kernel_rfl,by kernel_rfl,by kernel_rfl,fun _=>⟨by kernel_rfl,by kernel_rfl,by kernel_rfl⟩⟩
def aeT:eJ prog 101 ⟨.struct [(3,0),(3,1),(3,2),(9,3)],4,40,[.int .i64 0,.int .i64 0,.int .i64 0,.string ⟨#[]⟩],true⟩:=⟨by kernel_rfl,by kernel_rfl,by kernel_rfl,fun _=>⟨by kernel_rfl,by kernel_rfl,by kernel_rfl⟩⟩
def aeU:eJ prog 106 ⟨.int .u64,1,8,[.int .u64 0],false⟩:=⟨by kernel_rfl,by kernel_rfl,by kernel_rfl,fun h=>by cases h⟩
def aeV:eJ prog 131 ⟨.int .i64,1,8,[.int .i64 0],false⟩:=⟨by kernel_rfl,by kernel_rfl,by kernel_rfl,fun h=>by cases h⟩
def aeW:eJ prog 138 ⟨.int .u32,1,4,[.int .u32 0],false⟩:=⟨by kernel_rfl,by kernel_rfl,by kernel_rfl,fun h=>by cases h⟩
def aeX:eJ prog 140 ⟨.int .u64,1,8,[.int .u64 0],false⟩:=⟨by kernel_rfl,by kernel_rfl,by kernel_rfl,fun h=>by cases h⟩
def aeY:eJ prog 142 ⟨.slice 22,1,24,[.slice none 0 0],false⟩:=⟨by kernel_rfl,by kernel_rfl,by kernel_rfl,fun h=>by cases h⟩
def aeZ:eJ prog 159 ⟨.int .u64,1,8,[.int .u64 0],false⟩:=⟨by kernel_rfl,by kernel_rfl,by kernel_rfl,fun h=>by cases h⟩
def tok:ji prog tab:=by
 intro t τ h;unfold tab at h;split at h
 ·cases h;exact ahP
 ·cases h;exact ahQ
 ·cases h;exact ahR
 ·cases h;exact ahS
 ·cases h;exact ahT
 ·cases h;exact agu
 ·cases h;exact agv
 ·cases h;exact agw
 ·cases h;exact agx
 ·cases h;exact agy
 ·cases h;exact agz
 ·cases h;exact agA
 ·cases h;exact agB
 ·cases h;exact agC
 ·cases h;exact agD
 ·cases h;exact agE
 ·cases h;exact agF
 ·cases h;exact agG
 ·cases h;exact agH
 ·cases h;exact agI
 ·cases h;exact agJ
 ·cases h;exact agK
 ·cases h;exact agL
 ·cases h;exact agM
 ·cases h;exact agN
 ·cases h;exact agO
 ·cases h;exact agP
 ·cases h;exact agQ
 ·cases h;exact agR
 ·cases h;exact agS
 ·cases h;exact agT
 ·cases h;exact agU
 ·cases h;exact agV
 ·cases h;exact agW
 ·cases h;exact agX
 ·cases h;exact agY
 ·cases h;exact agZ
 ·cases h;exact ag0
 ·cases h;exact ag1
 ·cases h;exact ag2
 ·cases h;exact ag3
 ·cases h;exact ag4
 ·cases h;exact ag5
 ·cases h;exact aeS
 ·cases h;exact aeT
 ·cases h;exact aeU
 ·cases h;exact aeV
 ·cases h;exact aeW
 ·cases h;exact aeX
 ·cases h;exact aeY
 ·cases h;exact aeZ
 ·cases h
def mixed:Tryz.prog.follows .mixedOrders=true:=by kernel_rfl
def ur {α:Type} (x:Option α) (K:α->Prop):Prop :=
 match x with
 | some a=>K a
 | none=>False
def br (b:Bool) (A B:Prop):Prop:=(b=true->A)∧(b=false->B)
def Ub (d:D) (t:Nat->D) (g:Nat) (A B:(Nat->D)->Prop):Prop :=
 match d with
 | .bool b=>br b (A (b6 t g (.bool b))) (B (b6 t g (.bool b)))
 | _=>False
def wpS (d:D) (t:Nat->D) (g:Nat) (A B S:(Nat->D)->Prop):Prop :=
 match d with
 | .skp=>S t
 | d=>Ub d t g A B
def BE {t:Nat->D} {g:Nat} {b:Bool} {A B S:(Nat->D)->Prop} : wpS (.bool b) t g A B S=br b (A (b6 t g (.bool b))) (B (b6 t g (.bool b))):=rfl
def wpG (ops:List Oper) (t:Nat->D) (gd:Option (Nat×Bool)) (A B:(Nat->D)->Prop):Prop :=
 match gd with
 | none=>A t
 | some (j,a)=>ur ((ops[j]?).bind (·.dst)) fun g=>wpS (t g) t g (if a then A else B) (if a then B else A) B
def RV (T:Nat->Option Ty) (Γ:Env) (e:Nat) (o:Oper) (t:Nat->D) (h:Nat->Option Row) (K:(Nat->D)->ca->Prop):Prop :=
 match o.op with
 | .pick (.tmp c) a b=>Ub (t c) t c (fun t=>K t ⟨ev t a,[]⟩) (fun t=>K t ⟨ev t b,[]⟩)
 | _=>ur (qG T Γ e o (ev t) h) (K t)
def Hn (T:Nat->Option Ty) (Γ:Env) (N e:Nat) (ops:List Oper):List Oper->(Nat->D)->(Nat->Option Row)->((Nat->D)->(Nat->Option Row)->Prop)->Prop
 | [],t,h,K=>K t h
 | o::l,t,h,K=>fits N o.dst=true∧wpG ops t o.guard (fun t=>RV T Γ e o t h fun t E=>Hn T Γ N e ops l (fk t o.dst E.val) (aR h E.hw) K) (fun t=>Hn T Γ N e ops l (fk t o.dst .skp) h K)
def runK (T:Nat->Option Ty) (Γ:Env) (N e:Nat) (ops:List Oper):List Oper->(Nat->D)->(Nat->Option Row)->List lU->((Nat->D)->(Nat->Option Row)->List lU->Prop)->Prop
 | [],t,h,fs,K=>K t h fs
 | o::l,t,h,fs,K=>fits N o.dst=true∧wpG ops t o.guard (fun t=>RV T Γ e o t h fun t E=>runK T Γ N e ops l (fk t o.dst E.val) (aR h E.hw) (fs++[⟨cI o (ev t),E.hw.isEmpty⟩]) K) (fun t=>runK T Γ N e ops l (fk t o.dst .skp) h (fs++[⟨[],true⟩]) K)
abbrev Kt:=Ex->(Nat->D)->(Nat->Option Row)->Nat->Prop
def af5 (x:Ex) (A:Prop) (B:Prop):Prop :=
 match x with
 | .normal=>A
 | _=>B
def YL (id:Nat) (x:Ex) (t:Nat->D) (h:Nat->Option Row) (e:Nat) (K:Kt):Prop :=
 match x with
 | .exit n=>if n=id then K .normal t h e else K (.exit n) t h e
 | x=>K x t h e
def wpR (T:Nat->Option Ty) (Γ:Env) (N:Nat) (ops:Array Oper) (a:Bool) (t:Nat->D) (h:Nat->Option Row) (e:Nat) (K:(Nat->D)->(Nat->Option Row)->Prop):Prop :=
 match a with
 | true=>runK T Γ N e ops.toList ops.toList t h [] fun t h b=>Fq ops b=true∧K t h
 | false=>Hn T Γ N e ops.toList ops.toList t h K
def Nf (T:Nat->Option Ty) (Γ:Env) (N F:Nat):Code->(Nat->D)->(Nat->Option Row)->Nat->Kt->Prop
 | .skip,t,h,e,K=>K .normal t h e
 | .region _ ops draw,t,h,e,K=>wpR T Γ N ops draw t h e fun t h=>K .normal t h (e+1)
 | .seq a b,t,h,e,K=>Nf T Γ N F a t h e fun x t h e=>af5 x (Nf T Γ N F b t h e K) (K x t h e)
 | .cond c x y,t,h,e,K =>
  match c with
  | .tmp g=>Ub (t g) t g (fun t=>Nf T Γ N F x t h e K) (fun t=>Nf T Γ N F y t h e K)
  | .const (.bool true)=>Nf T Γ N F x t h e K
  | .const (.bool false)=>Nf T Γ N F y t h e K
  | _=>False
 | .block id b,t,h,e,K=>Nf T Γ N F b t h e fun x t h e=>YL id x t h e K
 | .loop b,t,h,e,K=>∃x s,iter (gD T Γ N F b) F ⟨t,h,e⟩=some (x,s)∧K x s.t s.h s.e
 | .exit id,t,h,e,K=>K (.exit id) t h e
 | .ret,t,h,e,K=>K .ret t h e
 | _,_,_,_,_=>False
def aef (a:Mode) (T:Nat->Option Ty) (b:Option (D×Row)) (c:List ResultVar) (x:Ex) (t:Nat->D) (h:Nat->Option Row) (e:Nat) (r:RK×Option Row):Prop :=
 match x with
 | .exit _=>False
 | _=>gi a T b c ⟨t,EH h,e⟩=some r
def wpf (d:Mode) (T:Nat->Option Ty) (Γ:Env) (F:Nat) (f:Func) (a:Option (D×Row)) (b:List D) (r:RK×Option Row):Prop :=
 ur f.body fun c=>Nf T Γ f.ntmps F c (cg a b).t (cg a b).h (cg a b).e fun x t h e=>aef d T a f.results.toList x t h e r
def GH {α:Type} (a:α) (K:α->Prop):ur (some a) K=K a:=rfl
def GF {α:Type} {x:Option α} {K:α->Prop} (h:ur x K):∃a,x=some a∧K a:=by
 cases x with
 | none=>exact h.elim
 | some a=>exact⟨a,rfl,h⟩
def T4 {t:Nat->D} {g:Nat} {d:D} (h:t g=d):b6 t g d=t:=by
 funext j;unfold b6;split
 ·rename_i e;subst e;exact h.symm
 ·rfl
def abO (A B:Prop):br true A B=A:=by simp[br]
def YN (A B:Prop):br false A B=B:=by simp[br]
def abN {b:Bool} {A B:Prop} (h:br b A B):if b then A else B:=by
 cases b with
 | true=>exact h.1 rfl
 | false=>exact h.2 rfl
def abv {t:Nat->D} {g:Nat} {b:Bool} {A B:(Nat->D)->Prop} : Ub (.bool b) t g A B=br b (A (b6 t g (.bool b))) (B (b6 t g (.bool b))):=rfl
def BC {t:Nat->D} {g:Nat} {A B:(Nat->D)->Prop} (h:t g=.bool true):Ub (.bool true) t g A B=A t:=by simp[Ub,T4 h,abO]
def yR {t:Nat->D} {g:Nat} {A B:(Nat->D)->Prop} (h:t g=.bool false):Ub (.bool false) t g A B=B t:=by simp[Ub,T4 h,YN]
def BG {t:Nat->D} {g:Nat} {A B S:(Nat->D)->Prop} (h:t g=.bool true):wpS (.bool true) t g A B S=A t:=BC h
def yS {t:Nat->D} {g:Nat} {A B S:(Nat->D)->Prop} (h:t g=.bool false):wpS (.bool false) t g A B S=B t:=yR h
def Uc {t:Nat->D} {g:Nat} {A B:(Nat->D)->Prop} (h:Ub (t g) t g A B):∃b,t g=.bool b∧(if b then A t else B t):=by
 unfold Ub at h;split at h
 ·rename_i b a;rw[T4 a]at h;exact⟨b,a,abN h⟩
 ·exact h.elim
section
variable {T:Nat->Option Ty} {Γ:Env} {N F e:Nat}
def aby {ops:Array Oper} {t:Nat->D} {o:Oper} {A B:(Nat->D)->Prop} (h:wpG ops.toList t o.guard A B):∃b,xq ops t o=some b∧(if b then A t else B t):=by
 unfold wpG at h;unfold xq;split at h
 ·rename_i d;try rw[d]
  exact⟨true,rfl,by simpa using h⟩
 ·rename_i j a d;try rw[d]
  obtain⟨g,e,c⟩:=GF h;rw[aji]at e;unfold wpS at c;split at c
  ·rename_i f;simp only[e,f];exact⟨false,rfl,c⟩
  ·obtain⟨b,i,k⟩:=Uc c;simp only[e,i];refine⟨_,rfl,?_⟩;cases b<;>cases a<;>simpa using k
def abw {o:Oper} {t:Nat->D} {h:Nat->Option Row} {K:(Nat->D)->ca->Prop} (d:RV T Γ e o t h K):∃E,qG T Γ e o (ev t) h=some E∧K t E:=by
 unfold RV at d;split at d
 ·rename_i c a b i;obtain⟨v,f,g⟩:=Uc d;have j:pG Γ e h o.dst none=none:=by cases o.dst<;>rfl
  cases v with
  | true=>exact⟨⟨ev t a,[]⟩,by unfold qG iI sG;rw[i];simp only[ev,f,or2,lR,jk,j],by simpa only[if_true] using g⟩
  | false=>exact⟨⟨ev t b,[]⟩,by unfold qG iI sG;rw[i];simp only[ev,f,or2,lR,jk,j],by simpa only[ai1,if_false] using g⟩
 ·obtain⟨E,f,g⟩:=GF d;exact⟨E,f,g⟩
def Br {ops:Array Oper} {K:(Nat->D)->(Nat->Option Row)->Prop} : ∀(l:List Oper) (t:Nat->D) (h:Nat->Option Row),Hn T Γ N e ops.toList l t h K->∃a h' c,CI T Γ N e ops l t h=some (a,h',c)∧K a h'
 | [],t,h,hk=>⟨t,h,[],rfl,hk⟩
 | o::l,t,h,hk=>by
  unfold Hn at hk;obtain⟨i,j⟩:=hk;obtain⟨b,k,g⟩:=aby j;unfold CI step1;rw[if_pos i,k];cases b with
  | true =>
   obtain⟨E,m,n⟩:=abw (by simpa using g);obtain⟨a,h',c,d,f⟩:=Br l _ _ n;simp only[m,d];exact⟨_,_,_,rfl,f⟩
  | false =>
   obtain⟨a,h',c,d,f⟩:=Br l _ _ (by simpa using g);simp only[d];exact⟨_,_,_,rfl,f⟩
def MJ {ops:Array Oper} {K:(Nat->D)->(Nat->Option Row)->List lU->Prop} : ∀(l:List Oper) (t:Nat->D) (h:Nat->Option Row) (f0:List lU),runK T Γ N e ops.toList l t h f0 K->∃a h' c,CI T Γ N e ops l t h=some (a,h',c)∧K a h' (f0++c)
 | [],t,h,f0,hk=>⟨t,h,[],rfl,by unfold runK at hk;simpa using hk⟩
 | o::l,t,h,f0,hk=>by
  unfold runK at hk;obtain⟨i,j⟩:=hk;obtain⟨b,k,g⟩:=aby j;unfold CI step1;rw[if_pos i,k];cases b with
  | true =>
   obtain⟨E,m,n⟩:=abw (by simpa using g);obtain⟨a,h',c,d,f⟩:=MJ l _ _ _ n;simp only[m,d];exact⟨_,_,_,rfl,by simpa using f⟩
  | false =>
   obtain⟨a,h',c,d,f⟩:=MJ l _ _ _ (by simpa using g);simp only[d];exact⟨_,_,_,rfl,by simpa using f⟩
def ae2 {ops:Array Oper} {a:Bool} {t:Nat->D} {h:Nat->Option Row} {K:(Nat->D)->(Nat->Option Row)->Prop} (f:wpR T Γ N ops a t h e K):∃b h',yQ T Γ N ops a ⟨t,h,e⟩=some (.normal,⟨b,h',e+1⟩)∧K b h':=by
 unfold yQ;cases a with
 | false =>
  obtain⟨b,h',g,d,c⟩:=Br _ _ _ f;simp only[d];exact⟨b,h',by simp,c⟩
 | true =>
  obtain⟨b,h',g,d,c,i⟩:=MJ _ _ _ _ f;simp only[d];exact⟨b,h',by rw[akh]at c;simp[c],i⟩
def CU:∀(c:Code) (t:Nat->D) (h:Nat->Option Row) (e:Nat) (K:Kt),Nf T Γ N F c t h e K->∃x s,gD T Γ N F c ⟨t,h,e⟩=some (x,s)∧K x s.t s.h s.e:=by
 intro c
 induction c with
 | skip=>intro t h e K d;exact⟨_,_,rfl,d⟩
 | region i ops draw =>
  intro t h e K d;obtain⟨z,h',j,f⟩:=ae2 d;exact⟨_,_,j,f⟩
 | seq a b m o =>
  intro t h e K d;obtain⟨x,s,j,f⟩:=m _ _ _ _ d;simp only[gD,j];cases x with
  | normal =>
   obtain⟨r,u,v,w⟩:=o _ _ _ _ f;exact⟨r,u,v,w⟩
  | exit n=>exact⟨_,_,rfl,f⟩
  | ret=>exact⟨_,_,rfl,f⟩
 | cond c x y k l =>
  intro t h e K d;unfold Nf at d;split at d
  ·rename_i g;obtain⟨b,j,f⟩:=Uc d;simp only[gD,ev,j,RR];cases b with
   | true=>exact k _ _ _ _ (by simpa using f)
   | false=>exact l _ _ _ _ (by simpa using f)
  ·simpa only[gD,ev,pq,RR,if_true] using k _ _ _ _ d
  ·simpa only[gD,ev,pq,RR,ai1,if_false] using l _ _ _ _ d
  ·exact d.elim
 | block id b q =>
  intro t h e K d;obtain⟨x,s,j,f⟩:=q _ _ _ _ d;simp only[gD,j];cases x with
  | normal=>exact⟨_,_,rfl,f⟩
  | ret=>exact⟨_,_,rfl,f⟩
  | exit n =>
   simp only[T8];unfold YL at f;simp only at f;split at f
   ·rename_i p;rw[if_pos p];exact⟨_,_,rfl,f⟩
   ·rename_i p;rw[if_neg p];exact⟨_,_,rfl,f⟩
 | loop b q=>intro t h e K d;exact d
 | exit id=>intro t h e K d;exact⟨_,_,rfl,d⟩
 | ret=>intro t h e K d;exact⟨_,_,rfl,d⟩
 | _=>intro t h e K d;exact d.elim
def Ud {d:Mode} {g:Func} {a:Option (D×Row)} {b:List D} {r:RK×Option Row} (h:wpf d T Γ F g a b r) (i:g.ntmps<=PK):lT d T Γ F g a b=some r:=by
 obtain⟨c,j,k⟩:=GF h;obtain⟨x,s,l,f⟩:=CU _ _ _ _ _ k;unfold lT;simp only[j];rw[if_pos i];have m:cg a b=⟨(cg a b).t,(cg a b).h,(cg a b).e⟩:=rfl;rw[m,l];unfold aef at f;split at f
 ·exact f.elim
 ·rename_i o;split
  ·rename_i n _ e;cases e;exact (o n rfl).elim
  ·rename_i _ p q _ e;cases e;exact f
  ·rename_i e;cases e
def Wo {α:Type} (f:Nat->α) (i:Nat) (v:α) (j:Nat):b6 f i v j=if j=i then v else f j:=alM
def AE (a:List D) (i:Nat):D:=a.getD i .und
def II (d:D) (l:List D):AE (d::l) 0=d:=alM
def IH (d:D) (l:List D) (i:Nat):AE (d::l) (i+1)=AE l i:=alM
def Ko (_:Nat):Option Row:=none
end
end Go.Proofs.YtokgehacmjmfkaaGreat.Am
