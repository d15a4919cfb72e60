/- Part of a proof, made small by a program (wip/mini.py). -/
import Derived.Test.YtpkahnkoecbndaaGreatDoorUf
namespace Go.Proofs.YtpkahnkoecbndaaGreatDoor.P
open Go.RowKit T
set_option linter.unusedSimpArgs false
set_option linter.unusedVariables false
theorem Ap {l:List al} {x:al} (hs:dt l) (hl:l.length<2000) (hx:nf x∨wa l x.bn x.bg=(x,0)):dt (l++[x]):=by
 refine⟨by simp;omega,fun i hi y hy =>?_⟩
 simp only[List.length_append,List.length_cons,List.length_nil]at hi
 by_cases h:i<l.length
 ·rw[List.getElem?_append_left h]at hy
  rw[List.take_append_of_le_length (by omega)]
  exact hs.2 i h y hy
 ·have:i=l.length:=by omega
  subst this
  simp at hy
  subst hy
  rw[List.take_append_of_le_length (Nat.le_refl _),List.take_length]
  exact hx
theorem Ri (x:al):∃b,du ⟨[x]⟩=some b∧(b=true↔nf x):=by
 obtain⟨b,hb,hs⟩:=T.mu ⟨[x]⟩
 refine⟨b,hb,hs.trans ⟨fun h =>?_,fun h=>⟨by simp,fun i hi y hy =>?_⟩⟩⟩
 ·rcases h.2 0 (by simp) x rfl with h1|h1
  ·exact h1
  ·obtain⟨u,v,hu,-⟩:=T.zf.1 h1
   have:=tR hu
   simp at this
   omega
 ·have:i=0:=by simp at hi;omega
  subst this
  simp at hy
  subst hy
  exact .inl h
section
variable (th:Nat→al) (L:Nat)
inductive Sub (l:List al):Nat→List Nat→Prop
 | leaf (j:Nat) (h:l[L+j]? = some (th j)):Sub l (L+j) [j]
 | pair (i a b:Nat) (S U:List Nat) (u v x:al) (ha:Sub l a S) (hb:Sub l b U) (h1:a<i) (h2:b<i) (hx:l[i]? = some x) (hl:x.bn=a) (hr:x.bg=b) (hu:l[a]? = some u) (hv:l[b]? = some v) (e1:x.aJ=u.aJ+v.aJ) (e2:x.aM=u.aM+v.aM):Sub l i (S++U)
def qC (S:List Nat):Int:=(S.map fun j=>(th j).aJ).sum
def ur (S:List Nat):Int:=(S.map fun j=>(th j).aM).sum
inductive dX (l:List al):List Int→List Nat→Prop
 | nil:dX l [] []
 | cons (i:Nat) (is:List Int) (S U:List Nat) (h:Sub th L l i S) (t:dX l is U):dX l ((i:Int)::is) (S++U)
end
section
variable {th:Nat→al} {L:Nat} {l:List al}
theorem T1 (S U:List Nat):qC th (S++U)=qC th S+qC th U:=by simp[qC]
theorem T0 (S U:List Nat):ur th (S++U)=ur th S+ur th U:=by simp[ur]
theorem Sub.mono {i:Nat} {S:List Nat} (h:Sub th L l i S) (e:List al):Sub th L (l++e) i S:=by
 have ext:∀ {k:Nat} {x:al},l[k]? = some x→(l++e)[k]? = some x:=fun hx=>by rw[List.getElem?_append_left (List.getElem?_eq_some_iff.1 hx).1];exact hx
 induction h with
 | leaf j h=>exact .leaf j (ext h)
 | pair i a b S U u v x ha hb h1 h2 hx hl hr hu hv e1 e2 iha ihb=>exact .pair i a b S U u v x iha ihb h1 h2 (ext hx) hl hr (ext hu) (ext hv) e1 e2
theorem Sub.val {i:Nat} {S:List Nat} (h:Sub th L l i S):∃x,l[i]? = some x∧x.aJ=qC th S∧x.aM=ur th S:=by
 induction h with
 | leaf j h=>exact⟨_,h,by simp[qC],by simp[ur]⟩
 | pair i a b S U u v x ha hb h1 h2 hx hl hr hu hv e1 e2 iha ihb =>
  obtain⟨u',hu',q1,q2⟩:=iha
  obtain⟨v',hv',q3,q4⟩:=ihb
  rw[hu]at hu';cases hu'
  rw[hv]at hv';cases hv'
  exact⟨x,hx,by rw[e1,q1,q3,T1],by rw[e2,q2,q4,T0]⟩
theorem dX.mono {is:List Int} {S:List Nat} (h:dX th L l is S) (e:List al):dX th L (l++e) is S:=by
 induction h with
 | nil=>exact .nil
 | cons i is S U h t ih=>exact .cons i is S U (h.mono e) ih
theorem dX.append {is js:List Int} {S U:List Nat} (h:dX th L l is S) (k:dX th L l js U):dX th L l (is++js) (S++U):=by
 induction h with
 | nil=>exact k
 | cons i is S V h t ih=>rw[List.append_assoc];exact .cons i _ S _ h ih
theorem dX.split:∀ {is js:List Int} {R:List Nat},dX th L l (is++js) R→∃S U,R=S++U∧dX th L l is S∧dX th L l js U
 | [],js,R,h=>⟨[],R,rfl,.nil,h⟩
 | i::is,js,R,h=>by
  generalize hq:(i::is)++js=q at h
  cases h with
  | nil=>cases hq
  | cons k ks S U h t =>
   rw[List.cons_append,List.cons.injEq]at hq
   obtain⟨rfl,rfl⟩:=hq
   obtain⟨S',U',rfl,h1,h2⟩:=dX.split t
   exact⟨S++S',U',by rw[List.append_assoc],.cons k is S S' h h1,h2⟩
theorem dX.one {i:Int} {R:List Nat} (h:dX th L l [i] R):∃k:Nat,i=k∧Sub th L l k R:=by
 generalize hq:[i]=q at h
 cases h with
 | nil=>cases hq
 | cons k ks S U h t =>
  rw[List.cons.injEq]at hq
  obtain⟨rfl,rfl⟩:=hq
  generalize hz:([]:List Int)=z at t
  cases t with
  | nil=>rw[List.append_nil];exact⟨k,rfl,h⟩
  | cons=>cases hz
end
def LS (th:Nat→al) (R:List Nat):Prop:=R.length≤64∧∀j∈R,(0≤(th j).aJ∧(th j).aJ≤1099511627776)∧(0≤(th j).aM∧(th j).aM≤1099511627776)
theorem Ig {f:Nat→Int} : ∀ {R:List Nat},(∀j∈R,0≤f j∧f j≤1099511627776)→0≤(R.map f).sum∧(R.map f).sum≤R.length*1099511627776
 | [],_=>by simp
 | j::R,h=>by
  have h1:=h j List.mem_cons_self
  have h2:=Ig (R:=R) fun k hk=>h k (List.mem_cons_of_mem _ hk)
  simp only[List.map_cons,List.sum_cons,List.length_cons]
  omega
theorem LS.sub {th:Nat→al} {A B C:List Nat} (h:LS th (A++(B++C))):(0≤qC th B∧qC th B≤70368744177664)∧(0≤ur th B∧ur th B≤70368744177664):=by
 have hl:=h.1
 simp only[List.length_append]at hl
 have h1:=Ig (f:=fun j=>(th j).aJ) (R:=B) fun j hj=>(h.2 j (by simp[hj])).1
 have h2:=Ig (f:=fun j=>(th j).aM) (R:=B) fun j hj=>(h.2 j (by simp[hj])).2
 unfold qC ur
 omega
theorem Q6 {th:Nat→al} {L:Nat} {l:List al} {next rest:List Int} {a b:Int} {R:List Nat} (hs:dt l) (hl:l.length<2000) (hR:LS th R) (hF:dX th L l (next++(a::b::rest)) R) :
  ∃x,jb l a b=some (l++[x])∧dt (l++[x])∧dX th L (l++[x]) (next++((l.length:Int)::rest)) R:=by
 obtain⟨S0,R1,rfl,f0,f1⟩:=dX.split hF
 obtain⟨S12,S3,rfl,f12,f3⟩:=dX.split (is:=[a,b]) (js:=rest) f1
 obtain⟨S1,S2,rfl,f1',f2'⟩:=dX.split (is:=[a]) (js:=[b]) f12
 obtain⟨i,rfl,s1⟩:=f1'.one
 obtain⟨j,rfl,s2⟩:=f2'.one
 obtain⟨u,hu,u1,u2⟩:=s1.val
 obtain⟨v,hv,v1,v2⟩:=s2.val
 have b1:=LS.sub (A:=S0) (B:=S1) (C:=S2++S3) (by simpa using hR)
 have b2:=LS.sub (A:=S0++S1) (B:=S2) (C:=S3) (by simpa using hR)
 have hi:=(List.getElem?_eq_some_iff.1 hu).1
 have hj:=(List.getElem?_eq_some_iff.1 hv).1
 have w1:IntKind.i64.wrap (u.aJ+v.aJ)=u.aJ+v.aJ:=wrap64 (by omega) (by omega)
 have w2:IntKind.i64.wrap (u.aM+v.aM)=u.aM+v.aM:=wrap64 (by omega) (by omega)
 refine⟨al.mk ⟨#[]⟩ (u.aJ+v.aJ) (u.aM+v.aM) i j,?_,?_,?_⟩
 ·unfold jb z7
  rw[bC hu,bC hv]
  simp only[Option.bind_some]
  rw[mU (by simp;omega) (by decide),w1,w2]
 ·refine Ap hs hl (.inr (T.zf.2 ⟨u,v,bC hu,bC hv,rfl,w1.symm,w2.symm,?_,?_⟩))
  ·simp only;omega
  ·simp only;omega
 ·have hx:(l++[al.mk ⟨#[]⟩ (u.aJ+v.aJ) (u.aM+v.aM) i j])[l.length]? = some (al.mk ⟨#[]⟩ (u.aJ+v.aJ) (u.aM+v.aM) i j):=by simp
  have ext:∀ {k:Nat} {x y:al},l[k]? = some x→(l++[y])[k]? = some x:=fun hx=>by rw[List.getElem?_append_left (List.getElem?_eq_some_iff.1 hx).1];exact hx
  refine (f0.mono _).append (.cons l.length rest (S1++S2) S3 ?_ (f3.mono _))
  exact .pair l.length i j S1 S2 u v _ (s1.mono _) (s2.mono _) hi hj hx rfl rfl (ext hu) (ext hv) rfl rfl
theorem Th {th:Nat→al} {L:Nat} {l0:List al} {lev:List Int} {R:List Nat} (hs:dt l0) (hR:LS th R) (hF:dX th L l0 lev R) (hl:l0.length+lev.length≤2001) :
  ∃next l,aV (iT lev) (0,[],l0)=some (next,l)∧∃k e,l=l0++e∧e.length=k∧next.length=k∧2*k≤lev.length∧lev.length≤2*k+1∧dt l∧dX th L l (next++lev.drop (2*k)) R:=by
 obtain⟨r,hr,hp⟩:=fU (body:=iT lev) (fun s=>∃k e,s.1=2*(k:Nat)∧s.2.2=l0++e∧e.length=k∧s.2.1.length=k∧2*k≤lev.length∧dt s.2.2∧dX th L s.2.2 (s.2.1++lev.drop (2*k)) R) (fun s=>(lev.length-s.1).toNat)
  (fun q=>∃k e,q.2=l0++e∧e.length=k∧q.1.length=k∧2*k≤lev.length∧lev.length≤2*k+1∧dt q.2∧dX th L q.2 (q.1++lev.drop (2*k)) R) (s:=(0,[],l0)) ⟨0,[],rfl,by simp,rfl,rfl,by omega,hs,by simpa using hF⟩ (by have:FU=1000000000000000000000000:=rfl;simp only;omega) (by
   rintro⟨s,next,l⟩ ⟨k,e,rfl,rfl,h1,h2,h3,h4,h5⟩
   dsimp only at h2 h4 h5 ⊢
   have hw1:IntKind.i64.wrap (2*(k:Int)+1)=((2*k+1:Nat):Int):=by rw[wrap64 (by omega) (by omega)];omega
   have hw2:IntKind.i64.wrap (2*(k:Int)+2)=((2*(k+1):Nat):Int):=by rw[wrap64 (by omega) (by omega)];omega
   have h2k:(2*(k:Int))=((2*k:Nat):Int):=by omega
   by_cases hk:2*k+1<lev.length
   ·have ha:lev[2*k]? = some (lev[2*k]'(by omega)):=List.getElem?_eq_getElem _
    have hb:lev[2*k+1]? = some (lev[2*k+1]'hk):=List.getElem?_eq_getElem _
    have hd:lev.drop (2*k)=(lev[2*k]'(by omega))::(lev[2*k+1]'hk)::lev.drop (2*(k+1)):=by
     rw[List.drop_eq_getElem_cons (by omega),List.drop_eq_getElem_cons hk]
     rfl
    rw[hd]at h5
    have hle:(l0++e).length<2000:=by simp only[List.length_append];omega
    obtain⟨x,p1,p2,p3⟩:=Q6 h4 hle hR h5
    refine .inl ⟨(((2*(k+1):Nat):Int),next++[((l0++e).length:Int)],(l0++e)++[x]),?_,⟨k+1,e++[x],?_,?_,?_,?_,?_,p2,?_⟩,?_⟩
    ·simp only[iT]
     rw[hw1,if_pos (by simp;omega),h2k,bC ha]
     simp only[Option.bind_some]
     rw[bC hb]
     simp only[Option.bind_some]
     rw[p1]
     simp only[Option.bind_some]
     rw[mU (by simp;omega) (by decide)]
     simp only[Option.bind_some]
     rw[← h2k,hw2]
    ·simp only;omega
    ·simp only[List.append_assoc]
    ·simp;omega
    ·simp;omega
    ·omega
    ·simp only[List.append_assoc]at p3 ⊢
     exact p3
    ·simp only;omega
   ·refine .inr ⟨(next,l0++e),?_,k,e,rfl,h1,h2,h3,by omega,h4,h5⟩
    simp only[iT]
    rw[hw1,if_neg (by simp;omega)])
 obtain⟨next,l⟩:=r
 obtain⟨k,e,q1,q2,q3,q4,q5,q6,q7⟩:=hp
 exact⟨next,l,hr,k,e,q1,q2,q3,q4,q5,q6,q7⟩
theorem QB {th:Nat→al} {L:Nat} {l0:List al} {lev:List Int} {R:List Nat} (hs:dt l0) (hR:LS th R) (hF:dX th L l0 lev R) (hl:l0.length+lev.length≤2001) (h0:lev≠[]) :
  ∃root l,aV gJ (lev,l0)=some ([root],l)∧(∃e,l=l0++e)∧dt l∧dX th L l [root] R:=by
 obtain⟨r,hr,hp⟩:=fU (body:=gJ) (fun s=>s.1≠[]∧(∃e,s.2=l0++e)∧dt s.2∧dX th L s.2 s.1 R∧s.2.length+s.1.length≤2001) (fun s=>s.1.length)
  (fun q=>∃root,q.1=[root]∧(∃e,q.2=l0++e)∧dt q.2∧dX th L q.2 [root] R) (s:=(lev,l0)) ⟨h0,⟨[],by simp⟩,hs,hF,hl⟩ (by have:FU=1000000000000000000000000:=rfl;simp only;omega) (by
   rintro⟨lv,l⟩ ⟨g0,⟨e,rfl⟩,g1,g2,g3⟩
   dsimp only at g0 g1 g2 g3 ⊢
   by_cases hone:lv.length>1
   ·obtain⟨next,l',h1,k,e',rfl,h3,h4,h5,h6,h7,h8⟩:=Th g1 hR g2 g3
    have hmod:vG .i64 ((lv.length:Nat):Int) 2=some ((lv.length:Int) % 2):=T.P3 (by omega) (by omega)
    by_cases hodd:lv.length % 2=1
    ·have hk:lv.length=2*k+1:=by omega
     have hlast:lv[2*k]? = some (lv[2*k]'(by omega)):=List.getElem?_eq_getElem _
     have hd:lv.drop (2*k)=[lv[2*k]'(by omega)]:=by
      rw[List.drop_eq_getElem_cons (by omega),List.drop_eq_nil_of_le (by omega)]
     rw[hd]at h8
     refine .inl ⟨(next++[lv[2*k]'(by omega)],(l0++e)++e'),?_,⟨by simp,⟨e++e',by simp⟩,h7,h8,?_⟩,?_⟩
     ·simp only[gJ]
      rw[if_pos (by simp;omega),h1]
      simp only[Option.bind_some]
      rw[hmod]
      simp only[Option.bind_some]
      rw[if_pos (by simp;omega),show IntKind.i64.wrap ((lv.length:Int)-1)=((2*k:Nat):Int) by rw[wrap64 (by omega) (by omega)];omega,bC hlast]
      simp only[Option.bind_some]
      rw[mU (by simp;omega) (by decide)]
      rfl
     ·simp only[List.length_append,List.length_cons,List.length_nil]at g3 ⊢;omega
     ·simp only[List.length_append,List.length_cons,List.length_nil];omega
    ·have hk:lv.length=2*k:=by omega
     have hd:lv.drop (2*k)=[]:=List.drop_eq_nil_of_le (by omega)
     rw[hd,List.append_nil]at h8
     refine .inl ⟨(next,(l0++e)++e'),?_,⟨?_,⟨e++e',by simp⟩,h7,h8,?_⟩,?_⟩
     ·simp only[gJ]
      rw[if_pos (by simp;omega),h1]
      simp only[Option.bind_some]
      rw[hmod]
      simp only[Option.bind_some]
      rw[if_neg (by simp;omega)]
     ·intro hnil;simp only at hnil;rw[hnil]at h4;simp at h4;omega
     ·simp only[List.length_append]at g3 ⊢;omega
     ·simp only;omega
   ·obtain⟨root,hroot⟩:∃root,lv=[root]:=by
     match lv,g0,hone with
     | [x],_,_=>exact⟨x,rfl⟩
     | x::y::z,_,h=>simp at h
    subst hroot
    refine .inr ⟨([root],l0++e),?_,root,rfl,⟨e,rfl⟩,g1,g2⟩
    simp only[gJ]
    rw[if_neg (by simp)])
 obtain⟨a,l⟩:=r
 obtain⟨root,rfl,q2,q3,q4⟩:=hp
 exact⟨root,l,hr,q2,q3,q4⟩
def qD (ts:List ByteArray) (vs bs:List Int) (j:Nat):al:=al.mk (ts.getD j ⟨#[]⟩) (vs.getD j 0) (bs.getD j 0) (-1) (-1)
def Pb (L n:Nat):List Int:=(List.range n).map fun (j:Nat)=>((L+j:Nat):Int)
structure p8 (v:List al) (ts:List ByteArray) (vs bs:List Int) (w:List al) (root:Int) (leaves:List Int):Prop where
 pos:0<ts.length
 le:ts.length≤64
 vlen:vs.length=ts.length
 blen:bs.length=ts.length
 leaf:∀j,j<ts.length→nf (qD ts vs bs j)
 sound:dt w
 at_:∀j,j<ts.length→w[v.length+j]? = some (qD ts vs bs j)
 leaves:leaves=Pb v.length ts.length
 root:∃i:Nat,root=i∧Sub (qD ts vs bs) v.length w i (List.range ts.length)
theorem xP (L n:Nat):(Pb L n).length=n:=by simp[Pb]
theorem Ti {L n j:Nat} (h:j<n):(Pb L n)[j]? = some ((L+j:Nat):Int):=by simp[Pb,h]
theorem Kw (L n:Nat):Pb L (n+1)=Pb L n++[((L+n:Nat):Int)]:=by simp[Pb,List.range_succ]
theorem CL {th:Nat→al} {L:Nat} {l:List al} : ∀n,(∀j,j<n→l[L+j]? = some (th j))→dX th L l (Pb L n) (List.range n)
 | 0,_ =>.nil
 | n+1,h=>by
  rw[Kw,List.range_succ]
  exact (CL n fun j hj=>h j (by omega)).append (.cons (L+n) [] [n] [] (.leaf n (h n (by omega))) .nil)
theorem Kp {v:List al} {ts:List ByteArray} {vs bs:List Int} (h1:vs.length=ts.length) (h2:bs.length=ts.length) (h3:ts.length≤64) (h4:v.length≤2000) :
  aV (iS ts vs bs) (0,[],v)=some (Pb v.length ts.length,v++(List.range ts.length).map (qD ts vs bs)):=by
 have hloop:=GO (body:=iS ts vs bs) ts.length (fun i=>((i:Int),Pb v.length i,v++(List.range i).map (qD ts vs bs))) (r:=(Pb v.length ts.length,v++(List.range ts.length).map (qD ts vs bs))) (by omega) (fun i hi=>by
  have g1:ts[i]? = some ts[i]:=List.getElem?_eq_getElem hi
  have g2:vs[i]? = some (vs[i]'(by omega)):=List.getElem?_eq_getElem _
  have g3:bs[i]? = some (bs[i]'(by omega)):=List.getElem?_eq_getElem _
  have ht:qD ts vs bs i=al.mk ts[i] (vs[i]'(by omega)) (bs[i]'(by omega)) (-1) (-1):=by simp[qD,List.getD,g1,g2,g3]
  simp only[iS]
  rw[if_pos (by simp;omega),bC g1,bC g2,bC g3]
  simp only[Option.bind_some,kC,lS,Iw]
  rw[mU (by simp;omega) (by decide)]
  simp only[Option.bind_some]
  rw[mU (by rw[xP];simp;omega) (by decide)]
  simp only[Option.bind_some]
  rw[Kw,List.range_succ,List.map_append,dw (by omega)]
  simp[ht]) (by
  simp only[iS]
  rw[if_neg (by simp)])
 have e0:((((0:Nat):Int),Pb v.length 0,v++(List.range 0).map (qD ts vs bs)):Int×List Int×List al)=(0,[],v):=by simp[Pb]
 rw[← e0]
 exact hloop
open Classical in
theorem Rz {v:List al} {ts:List ByteArray} {vs bs:List Int} (ht:ts.length*16≤140737488351232):∃r,iA ⟨v⟩ ts vs bs=some r∧(r.2.2.2=0→p8 v ts vs bs r.1.ah r.2.1 r.2.2.1):=by
 unfold iA
 obtain⟨b,hb,hs⟩:=T.mu ⟨v⟩
 rw[hb]
 simp only[Option.bind_some]
 have bad:∀(q:ax×Int×List Int×Int),q.2.2.2≠0→∃r,some q=some r∧(r.2.2.2=0→p8 v ts vs bs r.1.ah r.2.1 r.2.2.1):=fun q hq=>⟨q,rfl,fun h=>absurd h hq⟩
 cases b with
 | false=>exact bad _ (by decide)
 | true =>
 have hsd:dt v:=hs.1 rfl
 simp only[Bool.not_true,Bool.false_eq_true,if_false]
 by_cases q0:ts.length=0
 ·rw[if_pos (by simp[q0])];exact bad _ (by decide)
 rw[if_neg (by simp;exact fun h=>q0 (by rw[h];rfl))]
 by_cases q1:vs.length=ts.length
 ·rw[if_neg (by simp[q1])]
  simp only[Option.bind_some]
  by_cases q2:bs.length=ts.length
  ·rw[if_neg (by simp[q2])]
   have hL2:=XU ts (body:=jU ts vs bs) (fun i _=>nf (qD ts vs bs i)) (ax.mk [],-1,[],1) (by omega) (fun i x hx=>by
    have hi:=(List.getElem?_eq_some_iff.1 hx).1
    have g2:vs[i]? = some (vs[i]'(by omega)):=List.getElem?_eq_getElem _
    have g3:bs[i]? = some (bs[i]'(by omega)):=List.getElem?_eq_getElem _
    have hth:qD ts vs bs i=al.mk x (vs[i]'(by omega)) (bs[i]'(by omega)) (-1) (-1):=by simp[qD,List.getD,hx,g2,g3]
    obtain⟨c,hc,hc2⟩:=Ri (al.mk x (vs[i]'(by omega)) (bs[i]'(by omega)) (-1) (-1))
    simp only[jU]
    rw[if_pos (by simp;omega),bC hx,bC g2,bC g3]
    simp only[Option.bind_some,kC]
    rw[hc,hth]
    simp only[Option.bind_some]
    cases c with
    | true=>rw[if_neg (by simp),if_pos (hc2.1 rfl),dw (by omega)]
    | false=>rw[if_pos (by simp),if_neg (fun h=>absurd (hc2.2 h) (by simp))]) (by simp only[jU];rw[if_neg (by simp)])
   rcases hL2 with⟨hall,he⟩|⟨hall,he⟩
   ·rw[he]
    simp only[Option.bind_some]
    have hv2:=hsd.1
    have hwr:IntKind.i64.wrap (IntKind.i64.wrap ((v.length:Int)+IntKind.i64.wrap (2*(ts.length:Int)))-1)=(v.length:Int)+2*ts.length-1:=by
     rw[wrap64 (x:=2*(ts.length:Int)) (by omega) (by omega),wrap64 (x:=(v.length:Int)+2*(ts.length:Int)) (by omega) (by omega),wrap64 (by omega) (by omega)]
    by_cases q3:(ts.length:Int)>64
    ·rw[if_pos (by simpa using q3)];exact bad _ (by decide)
    ·rw[if_neg (by simpa using q3)]
     simp only[Option.bind_some]
     rw[show (({ ah:=v } : ax).ah.length:Int)=v.length from rfl,hwr]
     by_cases q4:(v.length:Int)+2*ts.length-1>2000
     ·rw[if_pos (by simpa using q4)];exact bad _ (by decide)
     ·rw[if_neg (by simpa using q4)]
      have hcl:dD v=some v:=by
       unfold dD
       rw[mU (by simp;omega) (by decide)]
       rfl
      rw[hcl]
      simp only[Option.bind_some]
      rw[Kp q1 q2 (by omega) hv2]
      simp only[Option.bind_some]
      rw[OM (by rw[xP];omega)]
      simp only[Option.bind_some]
      have hat:∀j,j<ts.length→(v++(List.range ts.length).map (qD ts vs bs))[v.length+j]? = some (qD ts vs bs j):=by
       intro j hj
       rw[List.getElem?_append_right (by omega),Nat.add_sub_cancel_left]
       simp[hj]
      have hleaf:∀j,j<ts.length→nf (qD ts vs bs j):=fun j hj=>hall j ts[j] (List.getElem?_eq_getElem hj)
      have hsd1:∀n,n≤ts.length→dt (v++(List.range n).map (qD ts vs bs)):=by
       intro n
       induction n with
       | zero=>intro _;simpa using hsd
       | succ n ih =>
        intro hn
        rw[List.range_succ,List.map_append,← List.append_assoc]
        exact Ap (ih (by omega)) (by simp;omega) (.inl (hleaf n (by omega)))
      have hR:LS (qD ts vs bs) (List.range ts.length):=⟨by simp;omega,fun j hj=>by
       have:=hleaf j (List.mem_range.1 hj)
       exact⟨this.2.2.2.1,this.2.2.2.2⟩⟩
      obtain⟨root,w,r1,⟨e,r2⟩,r3,r4⟩:=QB (L:=v.length) (hsd1 ts.length (Nat.le_refl _)) hR (CL ts.length hat) (by rw[xP,List.length_append,List.length_map,List.length_range];omega) (by intro h;have:=congrArg List.length h;rw[xP]at this;exact q0 this)
      rw[r1]
      simp only[Option.bind_some]
      rw[show P.idx [root] 0=some root from rfl]
      simp only[Option.bind_some]
      obtain⟨i,hi,hsub⟩:=r4.one
      refine⟨_,rfl,fun _=>⟨by omega,by omega,q1,q2,hleaf,r3,fun j hj =>?_,rfl,i,hi,hsub⟩⟩
      simp only
      rw[r2,List.getElem?_append_left (by simp;omega)]
      exact hat j hj
   ·rw[he]
    simp only[Option.bind_some]
    exact bad _ (by decide)
  ·rw[if_pos (by simp;omega)];exact bad _ (by decide)
 ·rw[if_pos (by simp;omega)];exact bad _ (by decide)
inductive Nr (l:List al) (leaf:Nat):Nat→Prop
 | here:Nr l leaf leaf
 | up (i c:Nat) (x:al) (hx:l[i]? = some x) (hp:x.bn ≠ -1) (hc:x.bn=c∨x.bg=c) (hi:leaf<i) (h:Nr l leaf c):Nr l leaf i
theorem Nr.le {l:List al} {leaf i:Nat} (h:Nr l leaf i):leaf≤i:=by
 cases h with
 | here=>exact Nat.le_refl _
 | up c x hx hp hc hi h=>omega
theorem Sub.nr {th:Nat→al} {L:Nat} {l:List al} {i:Nat} {S:List Nat} (h:Sub th L l i S):∀j∈S,Nr l (L+j) i:=by
 induction h with
 | leaf j h=>intro k hk;rw[List.mem_singleton.1 hk];exact .here
 | pair i a b S U u v x ha hb h1 h2 hx hl hr hu hv e1 e2 iha ihb =>
  intro j hj
  rcases List.mem_append.1 hj with hj|hj
  ·have:=iha j hj
   exact .up i a x hx (by omega) (.inl hl) (by have:=this.le;omega) this
  ·have:=ihb j hj
   exact .up i b x hx (by omega) (.inr hr) (by have:=this.le;omega) this
theorem DC {l:List al} (hs:dt l) {i:Nat} {x:al} (hx:l[i]? = some x) (hL:x.bn ≠ -1):(0≤x.bn∧x.bn<i)∧(0≤x.bg∧x.bg<i):=by
 have hi:=(List.getElem?_eq_some_iff.1 hx).1
 rcases hs.2 i hi x hx with h|h
 ·exact absurd h.1 hL
 ·obtain⟨u,v,hu,hv,-⟩:=T.zf.1 h
  have h1:=tR hu
  have h2:=tR hv
  rw[List.length_take]at h1 h2
  omega
theorem Tr {l:List al} {leaf i:Nat} {x:al} (hx:l[i]? = some x) (hi:leaf<i) {a b:Nat} (ha:x.bn=a) (hb:x.bg=b):Nr l leaf i↔Nr l leaf a∨Nr l leaf b:=by
 constructor
 ·intro h
  cases h with
  | here=>omega
  | up _ c y hy hp hc hi h =>
   rw[hx]at hy;cases hy
   rcases hc with hc|hc
   ·have:a=c:=by omega
    subst this;exact .inl h
   ·have:b=c:=by omega
    subst this;exact .inr h
 ·rintro (h|h)
  ·exact .up i a x hx (by omega) (.inl ha) hi h
  ·exact .up i b x hx (by omega) (.inr hb) hi h
theorem O0 {l:List Bool} {i k:Nat} {b:Bool} (hi:i<l.length):(l.set i b)[k]? = if k=i then some b else l[k]?:=by
 by_cases h:k=i
 ·subst h;rw[if_pos rfl];simp[hi]
 ·rw[if_neg h,List.getElem?_set_ne (by omega)]
theorem TI {l:List al} (hs:dt l) {leaf:Nat} (hleaf:leaf<l.length):∃out,kh ⟨l⟩ (leaf:Int)=some out∧out.length=l.length∧∀k,k<l.length→(out[k]? = some true↔Nr l leaf k):=by
 have hl:=hs.1
 unfold kh
 rw[show (({ ah:=l } : ax).ah.length:Int)=(l.length:Int) from rfl,T.Wt (by omega) (by decide)]
 simp only[Option.bind_some]
 rw[bC (show (List.replicate l.length false)[leaf]? = some false by simp[hleaf])]
 simp only[Option.bind_some,Int.toNat_natCast]
 rw[dw (by omega)]
 obtain⟨r,hr,hp⟩:=fU (body:=eZ ⟨l⟩) (fun s=>∃i:Nat,s.1=i∧leaf<i∧i≤l.length∧s.2.length=l.length∧(∀k,k<i→(s.2[k]? = some true↔Nr l leaf k))) (fun s=>(l.length-s.1).toNat)
  (fun q=>q.length=l.length∧∀k,k<l.length→(q[k]? = some true↔Nr l leaf k)) (s:=(((leaf+1:Nat):Int),(List.replicate l.length false).set leaf true)) ⟨leaf+1,rfl,by omega,by omega,by simp,fun k hk=>by
   rw[O0 (by simpa using hleaf)]
   by_cases h:k=leaf
   ·subst h;simp[Nr.here]
   ·rw[if_neg h]
    have:¬Nr l leaf k:=fun hn=>by have:=hn.le;omega
    simp only[List.getElem?_replicate,this,iff_false]
    split<;>simp⟩ (by have:FU=1000000000000000000000000:=rfl;simp only;omega) (by
   rintro⟨s,out⟩ ⟨i,rfl,h1,h2,h3,h4⟩
   dsimp only at h3 h4 ⊢
   by_cases hi:i<l.length
   ·have hx:l[i]? = some l[i]:=List.getElem?_eq_getElem hi
    have ho:out[i]? = some (out[i]'(by omega)):=List.getElem?_eq_getElem _
    have hnew:∀b:Bool,(b=true↔Nr l leaf i)→∀k,k<i+1→((out.set i b)[k]? = some true↔Nr l leaf k):=by
     intro b hb k hk
     rw[O0 (by omega)]
     by_cases hki:k=i
     ·subst hki;rw[if_pos rfl];simp[hb]
     ·rw[if_neg hki];exact h4 k (by omega)
    have go:∀b:Bool,(b=true↔Nr l leaf i)→eZ ⟨l⟩ ((i:Int),out)=some (.inl (((i+1:Nat):Int),out.set i b))→(∃s',eZ ⟨l⟩ ((i:Int),out)=some (.inl s')∧(∃i:Nat,s'.1=i∧leaf<i∧i≤l.length∧s'.2.length=l.length∧(∀k,k<i→(s'.2[k]? = some true↔Nr l leaf k)))∧(l.length-s'.1:Int).toNat<(l.length-(i:Int)).toNat):=fun b hb he =>
     ⟨_,he,⟨i+1,rfl,by omega,by omega,by simp[h3],hnew b hb⟩,by simp only;omega⟩
    refine .inl ?_
    by_cases hL:l[i].bn = -1
    ·refine go false ⟨fun h=>(by cases h),fun h =>?_⟩ ?_
     ·cases h with
      | here=>omega
      | up _ c y hy hp hc hi h=>rw[hx]at hy;cases hy;exact absurd hL hp
     ·simp only[eZ]
      rw[if_pos (by simp;omega),bC hx]
      simp only[Option.bind_some,fL]
      rw[if_neg (by simp[hL]),bC ho]
      simp only[Option.bind_some,Int.toNat_natCast]
      rw[dw (by omega)]
    ·obtain⟨⟨a0,a1⟩,b0,b1⟩:=DC hs hx hL
     obtain⟨a,ha⟩:∃a:Nat,l[i].bn=a:=⟨l[i].bn.toNat,by omega⟩
     obtain⟨b,hb⟩:∃b:Nat,l[i].bg=b:=⟨l[i].bg.toNat,by omega⟩
     have hoa:out[a]? = some (out[a]'(by omega)):=List.getElem?_eq_getElem _
     have hob:out[b]? = some (out[b]'(by omega)):=List.getElem?_eq_getElem _
     have na:=h4 a (by omega)
     have nb:=h4 b (by omega)
     rw[hoa,Option.some.injEq]at na
     rw[hob,Option.some.injEq]at nb
     have hiff:=Tr hx h1 ha hb
     by_cases hva:out[a]'(by omega)=true
     ·refine go true ⟨fun _=>hiff.2 (.inl (na.1 hva)),fun _=>rfl⟩ ?_
      simp only[eZ]
      rw[if_pos (by simp;omega),bC hx]
      simp only[Option.bind_some,fL]
      rw[if_pos (by simp[hL]),ha,bC hoa]
      simp only[Option.bind_some]
      rw[if_pos hva,bC ho]
      simp only[Option.bind_some,Int.toNat_natCast]
      rw[dw (by omega)]
     ·refine go (out[b]'(by omega)) ⟨fun h=>hiff.2 (.inr (nb.1 h)),fun h=>(hiff.1 h).elim (fun h=>absurd (na.2 h) hva) nb.2⟩ ?_
      simp only[eZ]
      rw[if_pos (by simp;omega),bC hx]
      simp only[Option.bind_some,fL]
      rw[if_pos (by simp[hL]),ha,bC hoa]
      simp only[Option.bind_some]
      rw[if_neg hva,hb,bC hob]
      simp only[Option.bind_some]
      rw[bC ho]
      simp only[Option.bind_some,Int.toNat_natCast]
      rw[dw (by omega)]
   ·refine .inr ⟨out,?_,h3,fun k hk=>h4 k (by omega)⟩
    simp only[eZ]
    rw[if_neg (by simp;omega)])
 rw[hr]
 exact⟨r,rfl,hp⟩
theorem Rj {l:List al} {path:List Int} {b:Int} {i:Nat} {c:Int} (h:path[i]? = some c) (hs:wk l path i c):wk l (path++[b]) i c:=by
 obtain⟨h1,h2⟩:=hs
 refine⟨h1,h2.imp_right ?_⟩
 rintro⟨p,x,g1,g2⟩
 exact⟨p,x,by rw[List.getElem?_append_left (List.getElem?_eq_some_iff.1 g1).1];exact g1,g2⟩
theorem VD {l:List al} (hs:dt l) {root leaf:Nat} (hroot:root<l.length) (hn:Nr l leaf root):∃p,lR ⟨l⟩ (root:Int) (leaf:Int)=some p∧lU l p∧p.head? = some (root:Int)∧p.getLast? = some (leaf:Int)∧p.length≤2001:=by
 have hl:=hs.1
 have hle:=hn.le
 unfold lR
 obtain⟨b,hb,hb2⟩:=T.mu ⟨l⟩
 have hbt:b=true:=hb2.2 hs
 subst hbt
 rw[hb]
 simp only[Option.bind_some,Bool.not_true,Bool.false_eq_true,if_false,has_eq]
 have d1:decide (0≤(root:Int)∧(root:Int)<(({ ah:=l } : ax).ah.length:Int))=true:=decide_eq_true ⟨by omega,by simp only;omega⟩
 have d2:decide (0≤(leaf:Int)∧(leaf:Int)<(({ ah:=l } : ax).ah.length:Int))=true:=decide_eq_true ⟨by omega,by simp only;omega⟩
 simp only[d1,d2,Bool.not_true,Bool.false_eq_true,if_false,Option.bind_some]
 obtain⟨out,ho,hol,hon⟩:=TI hs (leaf:=leaf) (by omega)
 rw[ho]
 simp only[Option.bind_some]
 have hr1:out[root]? = some true:=(hon root hroot).2 hn
 rw[bC hr1]
 simp only[Option.bind_some,Bool.not_true,Bool.false_eq_true,if_false]
 obtain⟨r,hr,hp⟩:=fU (body:=gG ⟨l⟩ (leaf:Int) out) (fun s=>∃a:Nat,s.1=a∧a<l.length∧Nr l leaf a∧s.2.head? = some (root:Int)∧s.2.getLast? = some (a:Int)∧s.2.length+a≤root+1∧∀i c,s.2[i]? = some c→wk l s.2 i c) (fun s=>s.1.toNat)
  (fun q=>q.head? = some (root:Int)∧q.getLast? = some (leaf:Int)∧q.length≤2001∧∀i c,q[i]? = some c→wk l q i c) (s:=((root:Int),[(root:Int)])) ⟨root,rfl,hroot,hn,rfl,rfl,by simp;omega,fun i c hc=>by
   have hi:=(List.getElem?_eq_some_iff.1 hc).1
   simp at hi
   subst hi
   simp at hc
   subst hc
   exact⟨⟨by omega,by omega⟩,.inl rfl⟩⟩ (by have:FU=1000000000000000000000000:=rfl;simp only;omega) (by
   rintro⟨s,path⟩ ⟨a,rfl,h1,h2,h3,h4,h5,h6⟩
   dsimp only at h3 h4 h5 h6 ⊢
   by_cases he:a=leaf
   ·subst he
    refine .inr ⟨path,?_,h3,h4,by omega,h6⟩
    simp only[gG]
    rw[if_neg (by simp)]
   ·have hgt:leaf<a:=by have:=h2.le;omega
    have hx:l[a]? = some l[a]:=List.getElem?_eq_getElem h1
    have hL:l[a].bn ≠ -1:=by
     cases h2 with
     | here=>exact absurd rfl he
     | up _ c y hy hp hc hi h=>rw[hx]at hy;cases hy;exact hp
    obtain⟨⟨a0,a1⟩,b0,b1⟩:=DC hs hx hL
    obtain⟨u,hu⟩:∃u:Nat,l[a].bn=u:=⟨l[a].bn.toNat,by omega⟩
    obtain⟨v,hv⟩:∃v:Nat,l[a].bg=v:=⟨l[a].bg.toNat,by omega⟩
    have hnr:=(Tr hx hgt hu hv).1 h2
    have hmin:(if l[a].bg<l[a].bn then l[a].bg else l[a].bn)=((if v<u then v else u:Nat):Int):=by rw[hu,hv];split<;>split<;>omega
    have hmax:(if l[a].bg>l[a].bn then l[a].bg else l[a].bn)=((if v>u then v else u:Nat):Int):=by rw[hu,hv];split<;>split<;>omega
    have go:∀c:Nat,(c=u∨c=v)→Nr l leaf c→gG ⟨l⟩ (leaf:Int) out ((a:Int),path)=some (.inl ((c:Int),path++[(c:Int)]))→(∃s',gG ⟨l⟩ (leaf:Int) out ((a:Int),path)=some (.inl s')∧(∃a:Nat,s'.1=a∧a<l.length∧Nr l leaf a∧s'.2.head? = some (root:Int)∧s'.2.getLast? = some (a:Int)∧s'.2.length+a≤root+1∧∀i c,s'.2[i]? = some c→wk l s'.2 i c)∧s'.1.toNat<(a:Int).toNat):=by
     intro c hc hnc hbody
     have hpath:path≠[]:=by intro h;rw[h]at h3;cases h3
     refine⟨_,hbody,⟨c,rfl,by omega,hnc,?_,by simp,?_,?_⟩,by simp only;omega⟩
     ·simp only;rw[List.head?_append,h3];rfl
     ·simp only[List.length_append,List.length_cons,List.length_nil];omega
     ·intro i d hd
      simp only at hd ⊢
      by_cases hip:i<path.length
      ·rw[List.getElem?_append_left hip]at hd
       exact Rj hd (h6 i d hd)
      ·have hi2:=(List.getElem?_eq_some_iff.1 hd).1
       simp at hi2
       have:i=path.length:=by omega
       subst this
       simp at hd
       subst hd
       have hpos:0<path.length:=List.length_pos_iff.2 hpath
       refine⟨⟨by omega,by omega⟩,.inr ⟨(a:Int),l[a],?_,bC hx,by omega⟩⟩
       rw[List.getElem?_append_left (by omega),← List.getLast?_eq_getElem?]
       exact h4
    refine .inl ?_
    have hwl:path.length+1≤1000000:=by omega
    have hml:(if v<u then v else u:Nat)<l.length:=by split<;>omega
    have hom:out[(if v<u then v else u:Nat)]? = some (out[(if v<u then v else u:Nat)]'(by omega)):=List.getElem?_eq_getElem _
    have hbit:=hon _ hml
    rw[hom,Option.some.injEq]at hbit
    by_cases hb1:out[(if v<u then v else u:Nat)]'(by omega)=true
    ·refine go (if v<u then v else u:Nat) (by split<;>omega) (hbit.1 hb1) ?_
     simp only[gG]
     rw[if_pos (by simp;omega),bC hx]
     simp only[Option.bind_some]
     rw[hmin,bC hom]
     simp only[Option.bind_some]
     rw[if_neg (by simp[hb1]),mU (by simp;omega) (by decide)]
     rfl
    ·refine go (if v>u then v else u:Nat) (by split<;>omega) ?_ ?_
     ·have hno:¬Nr l leaf (if v<u then v else u:Nat):=fun h=>hb1 (hbit.2 h)
      by_cases hvu:v<u
      ·rw[if_pos hvu]at hno
       rw[if_neg (by omega)]
       exact hnr.elim id fun h=>absurd h hno
      ·rw[if_neg hvu]at hno
       by_cases huv:v>u
       ·rw[if_pos huv];exact hnr.elim (fun h=>absurd h hno) id
       ·have:v=u:=by omega
        subst this
        exact absurd (hnr.elim id id) hno
     ·simp only[gG]
      rw[if_pos (by simp;omega),bC hx]
      simp only[Option.bind_some]
      rw[hmin,bC hom]
      simp only[Option.bind_some]
      rw[if_pos (by simpa using hb1),hmax,mU (by simp;omega) (by decide)]
      rfl)
 rw[hr]
 refine⟨r,rfl,⟨hs,?_,hp.2.2.2⟩,hp.1,hp.2.1,hp.2.2.1⟩
 intro h
 rw[h]at hp
 cases hp.1
theorem p8.lt {v:List al} {ts:List ByteArray} {vs bs:List Int} {w:List al} {root:Int} {leaves:List Int} (h:p8 v ts vs bs w root leaves):∃i:Nat,root=i∧i<w.length∧(∀j,j<ts.length→Nr w (v.length+j) i)∧∃x,w[i]? = some x∧x.aJ=qC (qD ts vs bs) (List.range ts.length)∧x.aM=ur (qD ts vs bs) (List.range ts.length):=by
 obtain⟨i,hi,hsub⟩:=h.root
 obtain⟨x,hx,e1,e2⟩:=hsub.val
 exact⟨i,hi,(List.getElem?_eq_some_iff.1 hx).1,fun j hj=>hsub.nr j (List.mem_range.2 hj),x,hx,e1,e2⟩
def gu (w:List al) (p:List Int) (L:Nat) (ts:List ByteArray) (vs bs:List Int) (j:Nat):aN:=⟨((L+j:Nat):Int),p,ts.getD j ⟨#[]⟩,vs.getD j 0,bs.getD j 0⟩
theorem VA {v:List al} {l:fh} {w:List al} {root:Int} {leaves:List Int} (h:p8 v l.aR l.a8 l.bu w root leaves) {j:Nat} (hj:j<l.aR.length) :
  ∃p,jM ⟨w⟩ root leaves l (j:Int)=some (gu w p v.length l.aR l.a8 l.bu j)∧lU w p∧p.head? = some root∧p.getLast? = some ((v.length+j:Nat):Int)∧p.length≤2001:=by
 obtain⟨i,hi,hlt,hnr,-⟩:=h.lt
 obtain⟨p,hp,h1,h2,h3,h4⟩:=VD h.sound hlt (hnr j hj)
 refine⟨p,?_,h1,by rw[hi];exact h2,h3,h4⟩
 have g1:l.aR[j]? = some l.aR[j]:=List.getElem?_eq_getElem hj
 have g2:l.a8[j]? = some (l.a8[j]'(by rw[h.vlen];exact hj)):=List.getElem?_eq_getElem _
 have g3:l.bu[j]? = some (l.bu[j]'(by rw[h.blen];exact hj)):=List.getElem?_eq_getElem _
 unfold jM
 rw[h.leaves,bC (Ti hj)]
 simp only[Option.bind_some]
 rw[hi,hp]
 simp only[Option.bind_some]
 rw[bC g1,bC g2,bC g3]
 simp[gu,List.getD,g1,g2,g3]
theorem Rg {v:List al} {ts:List ByteArray} {vs bs:List Int} {w:List al} {root:Int} {leaves:List Int} (h:p8 v ts vs bs w root leaves) {j:Nat} (hj:j<ts.length) {x:aN} (hx:x.ct=((v.length+j:Nat):Int)) (total blind:Int) :
  uq w root total blind x↔(lU w x.dO∧x.dO.head? = some root∧x.dO.getLast? = some x.ct)∧total=qC (qD ts vs bs) (List.range ts.length)∧blind=ur (qD ts vs bs) (List.range ts.length)∧x.cI=ts.getD j ⟨#[]⟩∧x.aJ=vs.getD j 0∧x.aM=bs.getD j 0:=by
 obtain⟨i,hi,hlt,-,y,hy,e1,e2⟩:=h.lt
 have hat:=h.at_ j hj
 have hleafT:(qD ts vs bs j).bn = -1:=rfl
 constructor
 ·rintro⟨h1,h2,hw,a,b,x1,y1,h3,h4,h5,h6,h7,h8,h9,ho1,z,h10,h11,h12,h13⟩
  rw[h1]at h3;cases h3
  rw[h2]at h4;cases h4
  rw[hi,bC hy]at h5;cases h5
  rw[hx,bC hat]at h6;cases h6
  rw[hx,bC hat]at h10;cases h10
  exact⟨⟨hw,h1,h2⟩,by rw[← h7,e1],by rw[← h8,e2],h11.symm,h12.symm,h13.symm⟩
 ·rintro⟨⟨hw,h1,h2⟩,h3,h4,h5,h6,h7⟩
  refine⟨h1,h2,hw,root,x.ct,y,qD ts vs bs j,h1,h2,by rw[hi];exact bC hy,by rw[hx];exact bC hat,by rw[h3,e1],by rw[h4,e2],hleafT,h.sound,qD ts vs bs j,by rw[hx];exact bC hat,h5.symm,h6.symm,h7.symm⟩
theorem L4 {l:List Int} {n:Nat} (hl:l.length=n) (hn:n≤64) (hb:∀j,j<n→0≤l.getD j 0∧l.getD j 0≤1099511627776):jw l=some ((List.range n).map fun j=>l.getD j 0).sum:=by
 unfold jw
 have hsum:∀i,i≤n→0≤((List.range i).map fun j=>l.getD j 0).sum∧((List.range i).map fun j=>l.getD j 0).sum≤i*1099511627776:=by
  intro i hi
  have:=Ig (f:=fun j=>l.getD j 0) (R:=List.range i) fun j hj=>hb j (by have:=List.mem_range.1 hj;omega)
  simpa using this
 have hloop:=GO (body:=jx l) n (fun i=>(((List.range i).map fun j=>l.getD j 0).sum,(i:Int))) (r:=((List.range n).map fun j=>l.getD j 0).sum) (by omega) (fun i hi=>by
  have hx:l[i]? = some (l[i]'(by omega)):=List.getElem?_eq_getElem _
  have hg:l.getD i 0=l[i]'(by omega):=by simp[List.getD,hx]
  have h1:=hsum i (by omega)
  have h2:=hb i hi
  rw[hg]at h2
  simp only[jx]
  rw[if_pos (by simp;omega),bC hx]
  simp only[Option.bind_some]
  rw[wrap64 (x:=((List.range i).map fun j=>l.getD j 0).sum+l[i]'(by omega)) (by omega) (by omega),dw (by omega),List.range_succ]
  simp[hx]) (by
  simp only[jx]
  rw[if_neg (by simp;omega)])
 have hloop':aV (jx l) (0,0)=some ((List.range n).map fun j=>l.getD j 0).sum:=by
  rw[← hloop];simp
 rw[hloop']
 rfl
theorem p8.XD {v:List al} {ts:List ByteArray} {vs bs:List Int} {w:List al} {root:Int} {leaves:List Int} (h:p8 v ts vs bs w root leaves):jw vs=some (qC (qD ts vs bs) (List.range ts.length))∧jw bs=some (ur (qD ts vs bs) (List.range ts.length)):=by
 constructor
 ·rw[L4 h.vlen h.le fun j hj=>(h.leaf j hj).2.2.2.1];rfl
 ·rw[L4 h.blen h.le fun j hj=>(h.leaf j hj).2.2.2.2];rfl
theorem Re {v:List al} {l:fh} (ht:l.aR.length*16≤140737488351232):∃r,ke ⟨v⟩ l=some r∧(r.2.2.2=true→p8 v l.aR l.a8 l.bu r.1.ah r.2.1 r.2.2.1):=by
 unfold ke
 obtain⟨r,hr,hr2⟩:=Rz (v:=v) (ts:=l.aR) (vs:=l.a8) (bs:=l.bu) ht
 rw[hr]
 simp only[Option.bind_some]
 by_cases h0:r.2.2.2=0
 ·rw[if_pos (by simp[h0])]
  have hB:=hr2 h0
  split
  ·split
   ·exact⟨_,rfl,fun _=>hB⟩
   ·exact⟨_,rfl,fun h=>(by cases h)⟩
  ·exact⟨_,rfl,fun h=>(by cases h)⟩
 ·rw[if_neg (by simpa using h0)]
  exact⟨_,rfl,fun h=>(by cases h)⟩
theorem X2 {ts:List ByteArray} (n:Int) (hl:ts.length<4611686018427387904) (hn:0≤n∧n≤1000):∃b,rX ts n=some b∧(b=true→(ts.length:Int)≤n):=by
 unfold rX
 obtain⟨r,hr,hp⟩:=fU (body:=rY ts n) (fun s=>∃i:Nat,s=i∧i≤ts.length∧i≤1001) (fun s=>(1001-s).toNat) (fun r=>match r with | .inl _=>True | .inr b=>b=false) (s:=0) ⟨0,rfl,by omega,by omega⟩
  (by have:FU=1000000000000000000000000:=rfl;omega) (by
   rintro s ⟨i,rfl,h1,h2⟩
   unfold rY
   dsimp only
   by_cases hi:i<ts.length
   ·rw[if_pos (by simp;omega)]
    simp only[Option.bind_some]
    by_cases hin:(i:Int)≤n
    ·rw[if_pos (by simp;omega)]
     simp only[bC (List.getElem?_eq_getElem hi),Option.bind_some,dw (show i<4611686018427387904 by omega)]
     split
     ·split
      ·exact .inr ⟨_,rfl,rfl⟩
      ·split
       ·exact .inr ⟨_,rfl,rfl⟩
       ·exact .inl ⟨_,rfl,⟨i+1,rfl,by omega,by omega⟩,by omega⟩
     ·exact .inl ⟨_,rfl,⟨i+1,rfl,by omega,by omega⟩,by omega⟩
    ·rw[if_neg (by simp;omega)]
     exact .inr ⟨_,rfl,trivial⟩
   ·rw[if_neg (by simp;omega)]
    exact .inr ⟨_,rfl,trivial⟩)
 rw[hr]
 simp only[Option.bind_some]
 cases r with
 | inl u=>exact⟨_,rfl,fun h=>by simpa using h⟩
 | inr b=>subst hp;exact⟨_,rfl,fun h=>by cases h⟩
theorem ZE {l:fh} (hl:l.aR.length<4611686018427387904):∃b,rI l=some b∧(b=true→(l.aR.length:Int)≤12):=by
 unfold rI
 obtain⟨b,hb,hb2⟩:=X2 (ts:=l.aR) 12 hl (by omega)
 rw[hb]
 simp only[Option.bind_some]
 cases b with
 | false=>exact⟨_,rfl,fun h=>(by cases h)⟩
 | true =>
  simp only[if_true]
  split
  ·exact⟨_,rfl,fun _=>hb2 rfl⟩
  ·exact⟨_,rfl,fun h=>(by cases h)⟩
def sU (L:Nat) (spans:List bK) (j:Nat):Option aB:=spans[j]?.map fun s=>⟨((L+j:Nat):Int),s⟩
def bad (L:Nat) (vs:List Int) (spans:List bK) (j:Nat):Option bp :=
 match spans[j]? with
 | some s=>if sH s (vs.getD j 0) then none else some ⟨((L+j:Nat):Int),2⟩
 | none=>none
def Nw (w:List al) (root:Int) (L n:Nat) (pth:Nat→List Int):Prop:=∀j,j<n→lU w (pth j)∧(pth j).head? = some root∧(pth j).getLast? = some ((L+j:Nat):Int)∧(pth j).length≤2001
theorem JF {L:Nat} {f:Nat→aN} (hf:∀k,(f k).ct=((L+k:Nat):Int)):∀ {sel:List Nat} {j:Nat},j∈sel→(sel.map f).find? (fun x=>x.ct==((L+j:Nat):Int))=some (f j)
 | [],j,h=>by cases h
 | k::sel,j,h=>by
  by_cases hk:k=j
  ·subst hk
   rw[List.map_cons,List.find?_cons_of_pos (p:=fun x:aN=>x.ct==((L+k:Nat):Int)) (by simp[hf])]
  ·rw[List.map_cons,List.find?_cons_of_neg (p:=fun x:aN=>x.ct==((L+j:Nat):Int)) (by simp[hf];omega)]
   rcases List.mem_cons.1 h with h|h
   ·exact absurd h.symm hk
   ·exact JF hf h
theorem Vw {L:Nat} {spans:List bK} {sel:List Nat} {j:Nat} (hj:j∈sel) (value:Int):off (sel.filterMap (sU L spans)) ((L+j:Nat):Int) value=(match spans[j]? with|some s => !sH s value|none=>false):=by
 unfold off
 cases hs:spans[j]? with
 | none =>
  simp only
  rw[List.any_eq_false]
  intro m hm
  obtain⟨k,hk,hkm⟩:=List.mem_filterMap.1 hm
  unfold sU at hkm
  rw[Option.map_eq_some_iff]at hkm
  obtain⟨s,h1,rfl⟩:=hkm
  have:k≠j:=by rintro rfl;rw[hs]at h1;cases h1
  simp;omega
 | some s =>
  simp only
  have hmem:(⟨((L+j:Nat):Int),s⟩:aB)∈sel.filterMap (sU L spans):=List.mem_filterMap.2 ⟨j,hj,by unfold sU;rw[hs];rfl⟩
  cases hv:sH s value with
  | false =>
   simp only[Bool.not_false]
   rw[List.any_eq_true]
   exact⟨_,hmem,by simp[hv]⟩
  | true =>
   simp only[Bool.not_true]
   rw[List.any_eq_false]
   intro m hm
   obtain⟨k,hk,hkm⟩:=List.mem_filterMap.1 hm
   unfold sU at hkm
   rw[Option.map_eq_some_iff]at hkm
   obtain⟨s',h1,rfl⟩:=hkm
   by_cases hkj:k=j
   ·subst hkj;rw[hs]at h1;cases h1;simp[hv]
   ·simp;omega
theorem ql {α β:Type} {f g:α→Option β} : ∀ {l:List α},(∀x∈l,f x=g x)→l.filterMap f=l.filterMap g
 | [],_=>rfl
 | x::l,h=>by rw[List.filterMap_cons,List.filterMap_cons,h x List.mem_cons_self,ql fun y hy=>h y (List.mem_cons_of_mem _ hy)]
theorem sB {α β:Type} {f:α→Option β} {g:α→β} : ∀ {l:List α},(∀x∈l,f x=some (g x))→l.filterMap f=l.map g
 | [],_=>rfl
 | x::l,h=>by rw[List.filterMap_cons,h x List.mem_cons_self,List.map_cons,sB fun y hy=>h y (List.mem_cons_of_mem _ hy)]
section
variable {v:List al} {ts:List ByteArray} {vs bs:List Int} {w:List al} {root:Int} {leaves:List Int} {pth:Nat→List Int} {spans:List bK} {sel:List Nat}
open Classical in
theorem zU (h:p8 v ts vs bs w root leaves) (hp:Nw w root v.length ts.length pth) (h1:∀j∈sel,j<ts.length) {total:Int} {j:Nat} (hj:j∈sel) :
  tM w root total (ur (qD ts vs bs) (List.range ts.length)) (sel.map fun k=>gu w (pth k) v.length ts vs bs k) (sel.filterMap (sU v.length spans)) ((v.length+j:Nat):Int)=if total=qC (qD ts vs bs) (List.range ts.length) then bad v.length vs spans j else some ⟨((v.length+j:Nat):Int),1⟩:=by
 have hjn:=h1 j hj
 have hs:=Rg h hjn (x:=gu w (pth j) v.length ts vs bs j) rfl total (ur (qD ts vs bs) (List.range ts.length))
 obtain⟨p1,p2,p3,-⟩:=hp j hjn
 have hs':uq w root total (ur (qD ts vs bs) (List.range ts.length)) (gu w (pth j) v.length ts vs bs j)↔total=qC (qD ts vs bs) (List.range ts.length):=hs.trans ⟨fun h=>h.2.1,fun h=>⟨⟨p1,p2,p3⟩,h,rfl,rfl,rfl,rfl⟩⟩
 have hr:pQ w root total (ur (qD ts vs bs) (List.range ts.length)) ((v.length+j:Nat):Int) (sel.map fun k=>gu w (pth k) v.length ts vs bs k) (sel.filterMap (sU v.length spans))=if total=qC (qD ts vs bs) (List.range ts.length) then (if (match spans[j]? with|some s => !sH s (vs.getD j 0)|none=>false)=true then 2 else -1) else 1:=by
  unfold pQ
  rw[JF (fun k=>rfl) hj]
  simp only
  rw[Vw hj]
  by_cases ht:total=qC (qD ts vs bs) (List.range ts.length)
  ·rw[if_pos (hs'.2 ht),if_pos ht]
   rfl
  ·rw[if_neg (fun h=>ht (hs'.1 h)),if_neg ht]
 unfold tM
 by_cases ht:total=qC (qD ts vs bs) (List.range ts.length)
 ·rw[if_pos ht]at hr ⊢
  unfold bad
  cases hsp:spans[j]? with
  | none =>
   rw[hsp]at hr
   simp only[Bool.false_eq_true,if_false]at hr
   rw[if_pos hr]
  | some s =>
   rw[hsp]at hr
   cases hv:sH s (vs.getD j 0) with
   | true =>
    simp only[hv,Bool.not_true,Bool.false_eq_true,if_false]at hr
    rw[if_pos hr]
    show none=(if sH s (vs.getD j 0)=true then none else _)
    rw[if_pos hv]
   | false =>
    simp only[hv,Bool.not_false,if_true]at hr
    rw[if_neg (by rw[hr];decide),hr]
    show _=(if sH s (vs.getD j 0)=true then none else _)
    rw[if_neg (by rw[hv];decide)]
 ·rw[if_neg ht]at hr ⊢
  rw[if_neg (by rw[hr];decide),hr]
open Classical in
theorem W8 (h:p8 v ts vs bs w root leaves) (hp:Nw w root v.length ts.length pth) (h1:∀j∈sel,j<ts.length) (h2:sel.Nodup) (hlen:sel.length≤1000) (h3:∀j∈sel,∀s,spans[j]? = some s→sd s∧sR s=true) (total:Int) :
  eK ⟨w⟩ root total (ur (qD ts vs bs) (List.range ts.length)) (sel.map fun j=>((v.length+j:Nat):Int)) (sel.map fun k=>gu w (pth k) v.length ts vs bs k) (sel.filterMap (sU v.length spans))=some (if total=qC (qD ts vs bs) (List.range ts.length) then sel.filterMap (bad v.length vs spans) else sel.map fun j=>⟨((v.length+j:Nat):Int),1⟩,0):=by
 have hle:=h.le
 obtain⟨i,hi,hlt,-⟩:=h.lt
 have hops:TC (sel.map fun k=>gu w (pth k) v.length ts vs bs k):=⟨by simp;omega,fun x hx=>by
  obtain⟨k,hk,rfl⟩:=List.mem_map.1 hx
  have hv:=(h.leaf k (h1 k hk)).2.2.2.1
  have hpl:=(hp k (h1 k hk)).2.2.2
  simp only[qD]at hv
  exact⟨by simp only[gu];omega,by simp only[gu];omega,by simp only[gu];omega⟩⟩
 have hmem:∀m∈sel.filterMap (sU v.length spans),sd m.bP∧sR m.bP=true:=fun m hm=>by
  obtain⟨k,hk,hkm⟩:=List.mem_filterMap.1 hm
  unfold sU at hkm
  rw[Option.map_eq_some_iff]at hkm
  obtain⟨s,g1,rfl⟩:=hkm
  exact h3 k hk s g1
 have hms:To (sel.filterMap (sU v.length spans)):=⟨by have:=List.length_filterMap_le (sU v.length spans) sel;omega,fun m hm=>(hmem m hm).1⟩
 rw[Tb hops hms (by simp;omega)]
 unfold MR
 rw[if_pos ⟨h.sound,by omega,by omega⟩,if_pos (List.all_eq_true.2 fun m hm=>(hmem m hm).2),if_pos (show (sel.map fun j=>((v.length+j:Nat):Int)).Nodup from List.pairwise_map.2 (h2.imp fun hab=>by omega)),List.filterMap_map]
 congr 2
 by_cases ht:total=qC (qD ts vs bs) (List.range ts.length)
 ·rw[if_pos ht]
  refine ql fun j hj =>?_
  rw[Function.comp_apply,zU h hp h1 hj,if_pos ht]
 ·rw[if_neg ht]
  refine sB fun j hj =>?_
  rw[Function.comp_apply,zU h hp h1 hj,if_neg ht]
end
theorem paths {v:List al} {l:fh} {w:List al} {root:Int} {leaves:List Int} (h:p8 v l.aR l.a8 l.bu w root leaves) :
  ∃pth:Nat→List Int,Nw w root v.length l.aR.length pth∧∀j,j<l.aR.length→jM ⟨w⟩ root leaves l (j:Int)=some (gu w (pth j) v.length l.aR l.a8 l.bu j):=by
 have key:∀j,∃p,j<l.aR.length→jM ⟨w⟩ root leaves l (j:Int)=some (gu w p v.length l.aR l.a8 l.bu j)∧lU w p∧p.head? = some root∧p.getLast? = some ((v.length+j:Nat):Int)∧p.length≤2001:=fun j=>by
  by_cases hj:j<l.aR.length
  ·obtain⟨p,hp⟩:=VA h hj
   exact⟨p,fun _=>hp⟩
  ·exact⟨[],fun h=>absurd h hj⟩
 exact⟨fun j=>Classical.choose (key j),fun j hj=>(Classical.choose_spec (key j) hj).2,fun j hj=>(Classical.choose_spec (key j) hj).1⟩
structure Qa (L:Nat) (vs:List Int) (spans:List bK) (op:Nat→aN) (i:Nat) (asked:List Int) (ops:List aN) (ms:List aB) (want:List bp) (sel:List Nat):Prop where
 lt:∀j∈sel,j<i
 nodup:sel.Nodup
 len:sel.length≤i
 asked:asked=sel.map fun j=>((L+j:Nat):Int)
 ops:ops=sel.map op
 ms:ms=sel.filterMap (sU L spans)
 want:want=sel.filterMap (bad L vs spans)
 ok:∀j∈sel,∀s,spans[j]? = some s→sd s∧sR s=true
theorem Qa.skip {L:Nat} {vs:List Int} {spans:List bK} {op:Nat→aN} {i:Nat} {asked:List Int} {ops:List aN} {ms:List aB} {want:List bp} {sel:List Nat} (h:Qa L vs spans op i asked ops ms want sel):Qa L vs spans op (i+1) asked ops ms want sel :=
 ⟨fun j hj=>by have:=h.lt j hj;omega,h.nodup,by have:=h.len;omega,h.asked,h.ops,h.ms,h.want,h.ok⟩
theorem Qa.take {L:Nat} {vs:List Int} {spans:List bK} {op:Nat→aN} {i:Nat} {asked:List Int} {ops:List aN} {ms:List aB} {want:List bp} {sel:List Nat} (h:Qa L vs spans op i asked ops ms want sel) (hok:∀s,spans[i]? = some s→sd s∧sR s=true) :
  Qa L vs spans op (i+1) (asked++[((L+i:Nat):Int)]) (ops++[op i]) (ms++(sU L spans i).toList) (want++(bad L vs spans i).toList) (sel++[i]) where
 lt j hj:=by
  rcases List.mem_append.1 hj with hj|hj
  ·have:=h.lt j hj;omega
  ·simp at hj;omega
 nodup:=List.nodup_append.2 ⟨h.nodup,by simp,fun a ha b hb=>by simp at hb;have:=h.lt a ha;omega⟩
 len:=by have:=h.len;simp;omega
 asked:=by rw[h.asked];simp
 ops:=by rw[h.ops];simp
 ms:=by rw[h.ms,List.filterMap_append];cases hm:sU L spans i<;>simp[hm]
 want:=by rw[h.want,List.filterMap_append];cases hm:bad L vs spans i<;>simp[hm]
 ok j hj:=by
  rcases List.mem_append.1 hj with hj|hj
  ·exact h.ok j hj
  ·simp at hj;subst hj;exact hok
theorem w7 {a b c d:Rat} (h:a≤b) (h':c≤d):a+c≤b+d:=by grind
theorem zi {a b:Rat} (h:a≤b) (ha:LF a≤1000) (hb:LF b≤1000):dZ ⟨lF a,lF b⟩=some true:=by
 have hL:ff=4398046511104:=rfl
 unfold dZ
 rw[mr (by omega)]
 simp only[Option.bind_some,if_true]
 rw[mr (by omega)]
 simp only[Option.bind_some,if_true]
 rw[oc (by omega)]
 simp only[Option.bind_some,yK]
 rw[decide_eq_true h]
theorem Vm {a b:Rat} {n:Int} (h:a≤b) (ha:LF a≤1000) (hb:LF b≤1000) (hn : -9223372036854775808≤n∧n<9223372036854775808) (h1:a≤n) (h2:(n:Rat)≤b):iJ ⟨lF a,lF b⟩ (lF n)=some true:=by
 have hL:ff=4398046511104:=rfl
 have ln:=RH hn
 unfold iJ
 rw[zi h ha hb]
 simp only[Option.bind_some,if_true]
 rw[mr (by omega)]
 simp only[Option.bind_some,if_true]
 rw[oc (by omega)]
 simp only[Option.bind_some,yK]
 rw[decide_eq_true h1]
 simp only[if_true]
 rw[oc (by omega)]
 simp only[Option.bind_some,yK]
 rw[decide_eq_true h2]
theorem UZ {a b c d:Rat} (h:a≤b) (ha:LF a≤1000) (hb:LF b≤1000) (h':c≤d) (hc:LF c≤1000) (hd:LF d≤1000):oV ⟨lF a,lF b⟩ ⟨lF c,lF d⟩=some (⟨lF (a+c),lF (b+d)⟩,0):=by
 have hL:ff=4398046511104:=rfl
 unfold oV
 rw[zi h ha hb,zi h' hc hd]
 simp only[Option.bind_some,Bool.not_true,Bool.false_eq_true,if_false]
 rw[VX (by omega),VX (by omega)]
 rfl
def Rq (vs:List Int) (i:Nat):Int:=((List.range i).map fun j=>vs.getD j 0).sum
theorem Rr (vs:List Int) (i:Nat):Rq vs (i+1)=Rq vs i+vs.getD i 0:=by simp[Rq,List.range_succ]
structure Me (L:Nat) (vs:List Int) (spans:List bK) (op:Nat→aN) (i:Nat) (ops:List aN) (ms:List aB) (S:bK) (a b:Rat):Prop where
 ops:ops=(List.range i).map op
 ms:ms=(List.range i).filterMap (sU L spans)
 sp:S=⟨lF a,lF b⟩
 le:a≤b
 la:LF a≤5*i+2
 lb:LF b≤5*i+2
 ok:∀j,j<i→∀s,spans[j]? = some s→sd s∧sR s=true
 sum:(∀j,j<i→∀s,spans[j]? = some s→sH s (vs.getD j 0)=true)→a≤(Rq vs i:Int)∧((Rq vs i:Int):Rat)≤b
theorem Rk {v:List al} {l:fh} {w:List al} {root:Int} {leaves:List Int} (B:p8 v l.aR l.a8 l.bu w root leaves) {pth:Nat→List Int} (hp:∀j,j<l.aR.length→jM ⟨w⟩ root leaves l (j:Int)=some (gu w (pth j) v.length l.aR l.a8 l.bu j)) {spans:List bK} (hsl:spans.length=l.aR.length) (hn:l.aR.length≤64) {S0:bK} (h0:S0=⟨lF ((0:Int):Rat),lF ((0:Int):Rat)⟩) :
  ∃r,aV (fO l spans true (⟨w⟩,root,leaves,true)) (0,[],[],S0.aH.bx.ag,S0.aH.bx.aa,S0.aH.bt.ag,S0.aH.bt.aa,S0.az.bx.ag,S0.az.bx.aa,S0.az.bt.ag,S0.az.bt.aa)=some r ∧
   (match r with | .inr b=>b=true | .inl (ops,ms,c0,c1,c2,c3,c4,c5,c6,c7)=>∃a b,Me v.length l.a8 spans (fun k=>gu w (pth k) v.length l.aR l.a8 l.bu k) l.aR.length ops ms ⟨⟨⟨c0,c1⟩,⟨c2,c3⟩⟩,⟨⟨c4,c5⟩,⟨c6,c7⟩⟩⟩ a b):=by
 have hlv:leaves.length=l.aR.length:=by rw[B.leaves,xP]
 refine fU (body:=fO l spans true (⟨w⟩,root,leaves,true)) (fun s=>match s with|(s0,ops,ms,c0,c1,c2,c3,c4,c5,c6,c7)=>∃i:Nat,s0=i∧i≤l.aR.length∧∃a b,Me v.length l.a8 spans (fun k=>gu w (pth k) v.length l.aR l.a8 l.bu k) i ops ms ⟨⟨⟨c0,c1⟩,⟨c2,c3⟩⟩,⟨⟨c4,c5⟩,⟨c6,c7⟩⟩⟩ a b) (fun s=>(l.aR.length-s.1).toNat)
  (fun r=>(match r with | .inr b=>b=true | .inl (ops,ms,c0,c1,c2,c3,c4,c5,c6,c7)=>∃a b,Me v.length l.a8 spans (fun k=>gu w (pth k) v.length l.aR l.a8 l.bu k) l.aR.length ops ms ⟨⟨⟨c0,c1⟩,⟨c2,c3⟩⟩,⟨⟨c4,c5⟩,⟨c6,c7⟩⟩⟩ a b))
  ⟨0,rfl,by omega,((0:Int):Rat),((0:Int):Rat),⟨rfl,rfl,h0,Rat.le_refl,by have:=RI (n:=0) (by decide);omega,by have:=RI (n:=0) (by decide);omega,fun j hj=>by omega,fun _=>⟨Rat.le_refl,Rat.le_refl⟩⟩⟩ (by have:FU=1000000000000000000000000:=rfl;simp only;omega) ?_
 rintro⟨s,ops,ms,c0,c1,c2,c3,c4,c5,c6,c7⟩ ⟨i,rfl,h1,a,b,hg⟩
 dsimp only at hg ⊢
 by_cases hi:i<l.aR.length
 ·have hlf:leaves[i]? = some ((v.length+i:Nat):Int):=by rw[B.leaves];exact Ti hi
  have hs:spans[i]? = some (spans[i]'(by omega)):=List.getElem?_eq_getElem _
  have hol:ops.length≤64:=by rw[hg.ops];simp;omega
  have hml:ms.length≤64:=by rw[hg.ms];have:=List.length_filterMap_le (sU v.length spans) (List.range i);simp at this;omega
  have hvr:=(B.leaf i hi).2.2.2.1
  simp only[qD]at hvr
  generalize hX:spans[i]'(by omega)=X at hs
  simp only[fO]
  rw[if_pos (by simp;omega),bC hs]
  simp only[Option.bind_some]
  obtain⟨f,hf1,hf2⟩:=X1 X
  rw[hf1]
  simp only[Option.bind_some]
  cases f with
  | false =>
   simp only[Bool.not_false,if_true,Option.bind_some]
   exact .inr ⟨_,rfl,rfl⟩
  | true =>
   have hok:=hf2.1 rfl
   simp only[Bool.not_true,Bool.false_eq_true,if_false]
   have hsr:=zl hok
   rw[hsr.1]
   simp only[Option.bind_some]
   cases hR:sR X with
   | false =>
    simp only[Bool.not_false,if_true]
    exact .inr ⟨_,rfl,rfl⟩
   | true =>
    obtain⟨c,d,hc,hd,hcd⟩:=hsr.2.2.1 hR
    have lc:=mW.LF (hc ▸ hok.1)
    have ld:=mW.LF (hd ▸ hok.2)
    have hXX:X=⟨lF c,lF d⟩:=by rw[← hc,← hd]
    have hla:=hg.la
    have hlb:=hg.lb
    simp only[Bool.not_true,Bool.false_eq_true,if_false]
    rw[hp i hi]
    simp only[Option.bind_some]
    rw[mU (by simp;omega) (by decide)]
    simp only[Option.bind_some]
    rw[bC hlf]
    simp only[Option.bind_some]
    rw[mU (by simp;omega) (by decide)]
    simp only[Option.bind_some]
    rw[hg.sp,hXX,UZ hg.le (by omega) (by omega) hcd (by omega) (by omega)]
    simp only[Option.bind_some]
    refine .inl ⟨_,rfl,⟨i+1,dw (by omega),by omega,a+c,b+d,?_⟩,by simp only;rw[dw (by omega)];omega⟩
    refine⟨by rw[hg.ops,List.range_succ,List.map_append];rfl,?_,rfl,w7 hg.le hcd,by have:=RG a c;omega,by have:=RG b d;omega,fun j hj s hs' =>?_,fun hall =>?_⟩
    ·rw[hg.ms,List.range_succ,List.filterMap_append]
     congr 1
     simp only[List.filterMap_cons,List.filterMap_nil,sU,hs,Option.map_some,hXX]
    ·by_cases hji:j=i
     ·subst hji;rw[hs]at hs';cases hs';exact⟨hok,hR⟩
     ·exact hg.ok j (by omega) s hs'
    ·obtain⟨s1,s2⟩:=hg.sum fun j hj s hs'=>hall j (by omega) s hs'
     have hH:=hall i (by omega) X hs
     obtain⟨c',d',⟨e1,e2,-⟩,e3,e4⟩:=(Pw hok (by omega)).2.2.1 hH
     rw[← vc (hc.symm.trans e1)]at e3
     rw[← vc (hd.symm.trans e2)]at e4
     rw[Rr,Rat.intCast_add]
     exact⟨w7 s1 e3,w7 s2 e4⟩
 ·have:i=l.aR.length:=by omega
  subst this
  refine .inr ⟨.inl (ops,ms,c0,c1,c2,c3,c4,c5,c6,c7),?_,a,b,hg⟩
  simp only[fO]
  rw[if_neg (by simp;omega)]
theorem UU (v:ax) (l:fh) (spans:List bK) (total:Int) (h0:v.ah.length*48≤140737488351232) (h1:l.aR.length*16≤140737488351232) (h3:(Lit.int .i64 total).wf=true):fH v l spans total=some true:=by
 obtain⟨vl⟩:=v
 have hwt:=T.UG h3
 unfold fH
 rw[TS]
 simp only[Option.bind_some]
 obtain⟨b,hb,-⟩:=T.RD ⟨vl⟩ 20 (by simp only at h0 ⊢;omega)
 rw[hb]
 simp only[Option.bind_some]
 cases b with
 | false=>rfl
 | true =>
 simp only[Bool.not_true,Bool.false_eq_true,if_false]
 obtain⟨c,hc,-⟩:=ZE (l:=l) (by omega)
 rw[hc]
 simp only[Option.bind_some]
 cases c with
 | false=>rfl
 | true =>
 simp only[Bool.not_true,Bool.false_eq_true,if_false,Option.bind_some]
 by_cases hsp:spans.length=l.aR.length
 rotate_left
 ·rw[if_pos (by simp;omega)]
 rw[if_neg (by simp[hsp])]
 obtain⟨r,hr,hr2⟩:=Re (v:=vl) (l:=l) h1
 rw[hr]
 obtain⟨⟨w⟩,root,leaves,ok⟩:=r
 simp only[Option.bind_some]
 cases ok with
 | false=>rfl
 | true =>
 have hB:=hr2 rfl
 simp only at hB
 simp only[Bool.not_true,Bool.false_eq_true,if_false]
 obtain⟨pth,hp1,hp2⟩:=paths hB
 have hle:=hB.le
 have hpos:=hB.pos
 have hbt:fe 0 0=some ⟨lF ((0:Int):Rat),lF ((0:Int):Rat)⟩:=by
  unfold fe
  rw[XL (by omega)]
  rfl
 rw[hbt]
 simp only[Option.bind_some]
 obtain⟨q,hq,hq2⟩:=Rk hB hp2 hsp hle (S0:=⟨lF ((0:Int):Rat),lF ((0:Int):Rat)⟩) rfl
 simp only at hq
 rw[hq]
 simp only[Option.bind_some]
 cases q with
 | inr b=>simp only at hq2;rw[hq2]
 | inl s =>
  obtain⟨ops,ms,c0,c1,c2,c3,c4,c5,c6,c7⟩:=s
  simp only at hq2
  obtain⟨a,b,hg⟩:=hq2
  obtain⟨g1,g2⟩:=hB.XD
  simp only
  rw[g2]
  simp only[Option.bind_some]
  have hlv:leaves=(List.range l.aR.length).map fun j=>((vl.length+j:Nat):Int):=hB.leaves
  rw[hg.ops,hg.ms,hlv,W8 hB hp1 (fun j hj=>List.mem_range.1 hj) List.nodup_range (by simp;omega) (fun j hj=>hg.ok j (List.mem_range.1 hj))]
  simp only[Option.bind_some,if_true,beq_self_eq_true]
  by_cases ht:total=qC (qD l.aR l.a8 l.bu) (List.range l.aR.length)
  ·simp only[if_pos ht]
   by_cases hz:((List.range l.aR.length).filterMap (bad vl.length l.a8 spans)).length>0
   ·rw[if_pos (decide_eq_true (by omega))]
   ·rw[if_neg (by rw[decide_eq_true_eq];omega),XL (by omega)]
    simp only[Option.bind_some]
    have hnil:(List.range l.aR.length).filterMap (bad vl.length l.a8 spans)=[]:=List.eq_nil_of_length_eq_zero (by omega)
    have hall:∀j,j<l.aR.length→∀s,spans[j]? = some s→sH s (l.a8.getD j 0)=true:=by
     intro j hj s hs
     have:=List.filterMap_eq_nil_iff.1 hnil j (List.mem_range.2 hj)
     unfold bad at this
     rw[hs]at this
     simp only at this
     by_cases hH:sH s (l.a8.getD j 0)=true
     ·exact hH
     ·rw[if_neg hH]at this;cases this
    obtain⟨s1,s2⟩:=hg.sum hall
    have hvs:Rq l.a8 l.aR.length=total:=by rw[ht];rfl
    rw[hvs]at s1 s2
    have hla:=hg.la
    have hlb:=hg.lb
    rw[hg.sp,Vm hg.le (by omega) (by omega) (by omega) s1 s2]
    rfl
  ·simp only[if_neg ht]
   rw[if_pos (by simp;omega)]
end Go.Proofs.YtpkahnkoecbndaaGreatDoor.P
