/- Part of a proof, made small by a program (wip/mini.py). -/
import Derived.Test.YtpkahnkoecbndaaGreatDoorVf
namespace Go.Proofs.YtpkahnkoecbndaaGreatDoor.P
open Go.RowKit T
set_option linter.unusedSimpArgs false
set_option linter.unusedVariables false
theorem US {l:List ak} (hs:dm l) {root leaf:Nat} (hroot:root<l.length) (hn:Nr l leaf root):∃p,lD ⟨l⟩ (root:Int) (leaf:Int)=some p∧iZ l p∧p.head? = some (root:Int)∧p.getLast? = some (leaf:Int)∧p.length≤2001:=by
 have hl:=hs.1
 have hle:=hn.le
 unfold lD
 obtain⟨b,hb,hb2⟩:=T.kr ⟨l⟩
 have hbt:b=true:=hb2.2 hs
 subst hbt
 rw[hb]
 simp only[Option.bind_some,Bool.not_true,Bool.false_eq_true,if_false,has_eq]
 have d1:decide (0≤(root:Int)∧(root:Int)<(({ ag:=l } : av).ag.length:Int))=true:=decide_eq_true ⟨by omega,by simp only;omega⟩
 have d2:decide (0≤(leaf:Int)∧(leaf:Int)<(({ ag:=l } : av).ag.length:Int))=true:=decide_eq_true ⟨by omega,by simp only;omega⟩
 simp only[d1,d2,Bool.not_true,Bool.false_eq_true,if_false,Option.bind_some]
 obtain⟨out,ho,hol,hon⟩:=SQ hs (leaf:=leaf) (by omega)
 rw[ho]
 simp only[Option.bind_some]
 have hr1:out[root]? = some true:=(hon root hroot).2 hn
 rw[bz hr1]
 simp only[Option.bind_some,Bool.not_true,Bool.false_eq_true,if_false]
 obtain⟨r,hr,hp⟩:=eV (body:=fV ⟨l⟩ (leaf:Int) out) (fun s=>∃a:Nat,s.1=a∧a<l.length∧Nr l leaf a∧s.2.head? = some (root:Int)∧s.2.getLast? = some (a:Int)∧s.2.length+a≤root+1∧∀i c,s.2[i]? = some c→vq l s.2 i c) (fun s=>s.1.toNat)
  (fun q=>q.head? = some (root:Int)∧q.getLast? = some (leaf:Int)∧q.length≤2001∧∀i c,q[i]? = some c→vq l q i c) (s:=((root:Int),[(root:Int)])) ⟨root,rfl,hroot,hn,rfl,rfl,by simp;omega,fun i c hc=>by
   have hi:=(List.getElem?_eq_some_iff.1 hc).1
   simp at hi
   subst hi
   simp at hc
   subst hc
   exact⟨⟨by omega,by omega⟩,.inl rfl⟩⟩ (by have:FU=1000000000000000000000000:=rfl;simp only;omega) (by
   rintro⟨s,path⟩ ⟨a,rfl,h1,h2,h3,h4,h5,h6⟩
   dsimp only at h3 h4 h5 h6 ⊢
   by_cases he:a=leaf
   ·subst he
    refine .inr ⟨path,?_,h3,h4,by omega,h6⟩
    simp only[fV]
    rw[if_neg (by simp)]
   ·have hgt:leaf<a:=by have:=h2.le;omega
    have hx:l[a]? = some l[a]:=List.getElem?_eq_getElem h1
    have hL:l[a].aY ≠ -1:=by
     cases h2 with
     | here=>exact absurd rfl he
     | up _ c y hy hp hc hi h=>rw[hx]at hy;cases hy;exact hp
    obtain⟨⟨a0,a1⟩,b0,b1⟩:=CX hs hx hL
    obtain⟨u,hu⟩:∃u:Nat,l[a].aY=u:=⟨l[a].aY.toNat,by omega⟩
    obtain⟨v,hv⟩:∃v:Nat,l[a].aQ=v:=⟨l[a].aQ.toNat,by omega⟩
    have hnr:=(SA hx hgt hu hv).1 h2
    have hmin:(if l[a].aQ<l[a].aY then l[a].aQ else l[a].aY)=((if v<u then v else u:Nat):Int):=by rw[hu,hv];split<;>split<;>omega
    have hmax:(if l[a].aQ>l[a].aY then l[a].aQ else l[a].aY)=((if v>u then v else u:Nat):Int):=by rw[hu,hv];split<;>split<;>omega
    have go:∀c:Nat,(c=u∨c=v)→Nr l leaf c→fV ⟨l⟩ (leaf:Int) out ((a:Int),path)=some (.inl ((c:Int),path++[(c:Int)]))→(∃s',fV ⟨l⟩ (leaf:Int) out ((a:Int),path)=some (.inl s')∧(∃a:Nat,s'.1=a∧a<l.length∧Nr l leaf a∧s'.2.head? = some (root:Int)∧s'.2.getLast? = some (a:Int)∧s'.2.length+a≤root+1∧∀i c,s'.2[i]? = some c→vq l s'.2 i c)∧s'.1.toNat<(a:Int).toNat):=by
     intro c hc hnc hbody
     have hpath:path≠[]:=by intro h;rw[h]at h3;cases h3
     refine⟨_,hbody,⟨c,rfl,by omega,hnc,?_,by simp,?_,?_⟩,by simp only;omega⟩
     ·simp only;rw[List.head?_append,h3];rfl
     ·simp only[List.length_append,List.length_cons,List.length_nil];omega
     ·intro i d hd
      simp only at hd ⊢
      by_cases hip:i<path.length
      ·rw[List.getElem?_append_left hip]at hd
       exact QE hd (h6 i d hd)
      ·have hi2:=(List.getElem?_eq_some_iff.1 hd).1
       simp at hi2
       have:i=path.length:=by omega
       subst this
       simp at hd
       subst hd
       have hpos:0<path.length:=List.length_pos_iff.2 hpath
       refine⟨⟨by omega,by omega⟩,.inr ⟨(a:Int),l[a],?_,bz hx,by omega⟩⟩
       rw[List.getElem?_append_left (by omega),← List.getLast?_eq_getElem?]
       exact h4
    refine .inl ?_
    have hwl:path.length+1≤1000000:=by omega
    have hml:(if v<u then v else u:Nat)<l.length:=by split<;>omega
    have hom:out[(if v<u then v else u:Nat)]? = some (out[(if v<u then v else u:Nat)]'(by omega)):=List.getElem?_eq_getElem _
    have hbit:=hon _ hml
    rw[hom,Option.some.injEq]at hbit
    by_cases hb1:out[(if v<u then v else u:Nat)]'(by omega)=true
    ·refine go (if v<u then v else u:Nat) (by split<;>omega) (hbit.1 hb1) ?_
     simp only[fV]
     rw[if_pos (by simp;omega),bz hx]
     simp only[Option.bind_some]
     rw[hmin,bz hom]
     simp only[Option.bind_some]
     rw[if_neg (by simp[hb1]),pn (by simp;omega) (by decide)]
     rfl
    ·refine go (if v>u then v else u:Nat) (by split<;>omega) ?_ ?_
     ·have hno:¬Nr l leaf (if v<u then v else u:Nat):=fun h=>hb1 (hbit.2 h)
      by_cases hvu:v<u
      ·rw[if_pos hvu]at hno
       rw[if_neg (by omega)]
       exact hnr.elim id fun h=>absurd h hno
      ·rw[if_neg hvu]at hno
       by_cases huv:v>u
       ·rw[if_pos huv];exact hnr.elim (fun h=>absurd h hno) id
       ·have:v=u:=by omega
        subst this
        exact absurd (hnr.elim id id) hno
     ·simp only[fV]
      rw[if_pos (by simp;omega),bz hx]
      simp only[Option.bind_some]
      rw[hmin,bz hom]
      simp only[Option.bind_some]
      rw[if_pos (by simpa using hb1),hmax,pn (by simp;omega) (by decide)]
      rfl)
 rw[hr]
 refine⟨r,rfl,⟨hs,?_,hp.2.2.2⟩,hp.1,hp.2.1,hp.2.2.1⟩
 intro h
 rw[h]at hp
 cases hp.1
theorem uR.lt {v:List ak} {ts:List ByteArray} {vs bs:List Int} {w:List ak} {root:Int} {leaves:List Int} (h:uR v ts vs bs w root leaves):∃i:Nat,root=i∧i<w.length∧(∀j,j<ts.length→Nr w (v.length+j) i)∧∃x,w[i]? = some x∧x.ay=sf (ru ts vs bs) (List.range ts.length)∧x.aA=se (ru ts vs bs) (List.range ts.length):=by
 obtain⟨i,hi,hsub⟩:=h.root
 obtain⟨x,hx,e1,e2⟩:=hsub.val
 exact⟨i,hi,(List.getElem?_eq_some_iff.1 hx).1,fun j hj=>hsub.nr j (List.mem_range.2 hj),x,hx,e1,e2⟩
def oT (w:List ak) (p:List Int) (L:Nat) (ts:List ByteArray) (vs bs:List Int) (j:Nat):aC:=⟨((L+j:Nat):Int),p,ts.getD j ⟨#[]⟩,vs.getD j 0,bs.getD j 0⟩
theorem UP {v:List ak} {l:fq} {w:List ak} {root:Int} {leaves:List Int} (h:uR v l.aH l.aP l.aO w root leaves) {j:Nat} (hj:j<l.aH.length) :
  ∃p,l7 ⟨w⟩ root leaves l (j:Int)=some (oT w p v.length l.aH l.aP l.aO j)∧iZ w p∧p.head? = some root∧p.getLast? = some ((v.length+j:Nat):Int)∧p.length≤2001:=by
 obtain⟨i,hi,hlt,hnr,-⟩:=h.lt
 obtain⟨p,hp,h1,h2,h3,h4⟩:=US h.sound hlt (hnr j hj)
 refine⟨p,?_,h1,by rw[hi];exact h2,h3,h4⟩
 have g1:l.aH[j]? = some l.aH[j]:=List.getElem?_eq_getElem hj
 have g2:l.aP[j]? = some (l.aP[j]'(by rw[h.vlen];exact hj)):=List.getElem?_eq_getElem _
 have g3:l.aO[j]? = some (l.aO[j]'(by rw[h.blen];exact hj)):=List.getElem?_eq_getElem _
 unfold l7
 rw[h.leaves,bz (Sn hj)]
 simp only[Option.bind_some]
 rw[hi,hp]
 simp only[Option.bind_some]
 rw[bz g1,bz g2,bz g3]
 simp[oT,List.getD,g1,g2,g3]
theorem Ga {v:List ak} {ts:List ByteArray} {vs bs:List Int} {w:List ak} {root:Int} {leaves:List Int} (h:uR v ts vs bs w root leaves) {j:Nat} (hj:j<ts.length) {x:aC} (hx:x.cg=((v.length+j:Nat):Int)) (total blind:Int) :
  kT w root total blind x↔(iZ w x.bo∧x.bo.head? = some root∧x.bo.getLast? = some x.cg)∧total=sf (ru ts vs bs) (List.range ts.length)∧blind=se (ru ts vs bs) (List.range ts.length)∧x.bE=ts.getD j ⟨#[]⟩∧x.ay=vs.getD j 0∧x.aA=bs.getD j 0:=by
 obtain⟨i,hi,hlt,-,y,hy,e1,e2⟩:=h.lt
 have hat:=h.at_ j hj
 have hleafT:(ru ts vs bs j).aY = -1:=rfl
 constructor
 ·rintro⟨h1,h2,hw,a,b,x1,y1,h3,h4,h5,h6,h7,h8,h9,ho1,z,h10,h11,h12,h13⟩
  rw[h1]at h3;cases h3
  rw[h2]at h4;cases h4
  rw[hi,bz hy]at h5;cases h5
  rw[hx,bz hat]at h6;cases h6
  rw[hx,bz hat]at h10;cases h10
  exact⟨⟨hw,h1,h2⟩,by rw[← h7,e1],by rw[← h8,e2],h11.symm,h12.symm,h13.symm⟩
 ·rintro⟨⟨hw,h1,h2⟩,h3,h4,h5,h6,h7⟩
  refine⟨h1,h2,hw,root,x.cg,y,ru ts vs bs j,h1,h2,by rw[hi];exact bz hy,by rw[hx];exact bz hat,by rw[h3,e1],by rw[h4,e2],hleafT,h.sound,ru ts vs bs j,by rw[hx];exact bz hat,h5.symm,h6.symm,h7.symm⟩
theorem Ly {l:List Int} {n:Nat} (hl:l.length=n) (hn:n≤64) (hb:∀j,j<n→0≤l.getD j 0∧l.getD j 0≤1099511627776):ij l=some ((List.range n).map fun j=>l.getD j 0).sum:=by
 unfold ij
 have hsum:∀i,i≤n→0≤((List.range i).map fun j=>l.getD j 0).sum∧((List.range i).map fun j=>l.getD j 0).sum≤i*1099511627776:=by
  intro i hi
  have:=HP (f:=fun j=>l.getD j 0) (R:=List.range i) fun j hj=>hb j (by have:=List.mem_range.1 hj;omega)
  simpa using this
 have hloop:=Gh (body:=jd l) n (fun i=>(((List.range i).map fun j=>l.getD j 0).sum,(i:Int))) (r:=((List.range n).map fun j=>l.getD j 0).sum) (by omega) (fun i hi=>by
  have hx:l[i]? = some (l[i]'(by omega)):=List.getElem?_eq_getElem _
  have hg:l.getD i 0=l[i]'(by omega):=by simp[List.getD,hx]
  have h1:=hsum i (by omega)
  have h2:=hb i hi
  rw[hg]at h2
  simp only[jd]
  rw[if_pos (by simp;omega),bz hx]
  simp only[Option.bind_some]
  rw[wrap64 (x:=((List.range i).map fun j=>l.getD j 0).sum+l[i]'(by omega)) (by omega) (by omega),de (by omega),List.range_succ]
  simp[hx]) (by
  simp only[jd]
  rw[if_neg (by simp;omega)])
 have hloop':a8 (jd l) (0,0)=some ((List.range n).map fun j=>l.getD j 0).sum:=by
  rw[← hloop];simp
 rw[hloop']
 rfl
theorem uR.WO {v:List ak} {ts:List ByteArray} {vs bs:List Int} {w:List ak} {root:Int} {leaves:List Int} (h:uR v ts vs bs w root leaves):ij vs=some (sf (ru ts vs bs) (List.range ts.length))∧ij bs=some (se (ru ts vs bs) (List.range ts.length)):=by
 constructor
 ·rw[Ly h.vlen h.le fun j hj=>(h.leaf j hj).2.2.2.1];rfl
 ·rw[Ly h.blen h.le fun j hj=>(h.leaf j hj).2.2.2.2];rfl
theorem QA {v:List ak} {l:fq} (ht:l.aH.length*16≤140737488351232):∃r,jN ⟨v⟩ l=some r∧(r.2.2.2=true→uR v l.aH l.aP l.aO r.1.ag r.2.1 r.2.2.1):=by
 unfold jN
 obtain⟨r,hr,hr2⟩:=QR (v:=v) (ts:=l.aH) (vs:=l.aP) (bs:=l.aO) ht
 rw[hr]
 simp only[Option.bind_some]
 by_cases h0:r.2.2.2=0
 ·rw[if_pos (by simp[h0])]
  have hB:=hr2 h0
  split
  ·split
   ·exact⟨_,rfl,fun _=>hB⟩
   ·exact⟨_,rfl,fun h=>(by cases h)⟩
  ·exact⟨_,rfl,fun h=>(by cases h)⟩
 ·rw[if_neg (by simpa using h0)]
  exact⟨_,rfl,fun h=>(by cases h)⟩
theorem W8 {ts:List ByteArray} (n:Int) (hl:ts.length<4611686018427387904) (hn:0≤n∧n≤1000):∃b,q8 ts n=some b∧(b=true→(ts.length:Int)≤n):=by
 unfold q8
 obtain⟨r,hr,hp⟩:=eV (body:=re ts n) (fun s=>∃i:Nat,s=i∧i≤ts.length∧i≤1001) (fun s=>(1001-s).toNat) (fun r=>match r with | .inl _=>True | .inr b=>b=false) (s:=0) ⟨0,rfl,by omega,by omega⟩
  (by have:FU=1000000000000000000000000:=rfl;omega) (by
   rintro s ⟨i,rfl,h1,h2⟩
   unfold re
   dsimp only
   by_cases hi:i<ts.length
   ·rw[if_pos (by simp;omega)]
    simp only[Option.bind_some]
    by_cases hin:(i:Int)≤n
    ·rw[if_pos (by simp;omega)]
     simp only[bz (List.getElem?_eq_getElem hi),Option.bind_some,de (show i<4611686018427387904 by omega)]
     split
     ·split
      ·exact .inr ⟨_,rfl,rfl⟩
      ·split
       ·exact .inr ⟨_,rfl,rfl⟩
       ·exact .inl ⟨_,rfl,⟨i+1,rfl,by omega,by omega⟩,by omega⟩
     ·exact .inl ⟨_,rfl,⟨i+1,rfl,by omega,by omega⟩,by omega⟩
    ·rw[if_neg (by simp;omega)]
     exact .inr ⟨_,rfl,trivial⟩
   ·rw[if_neg (by simp;omega)]
    exact .inr ⟨_,rfl,trivial⟩)
 rw[hr]
 simp only[Option.bind_some]
 cases r with
 | inl u=>exact⟨_,rfl,fun h=>by simpa using h⟩
 | inr b=>subst hp;exact⟨_,rfl,fun h=>by cases h⟩
theorem YE {l:fq} (hl:l.aH.length<4611686018427387904):∃b,qN l=some b∧(b=true→(l.aH.length:Int)≤12):=by
 unfold qN
 obtain⟨b,hb,hb2⟩:=W8 (ts:=l.aH) 12 hl (by omega)
 rw[hb]
 simp only[Option.bind_some]
 cases b with
 | false=>exact⟨_,rfl,fun h=>(by cases h)⟩
 | true =>
  simp only[if_true]
  split
  ·exact⟨_,rfl,fun _=>hb2 rfl⟩
  ·exact⟨_,rfl,fun h=>(by cases h)⟩
theorem Sx:Sw []:=⟨by simp,fun m hm=>by cases hm⟩
theorem UL (leaf value:Int):off [] leaf value=false:=rfl
theorem yi {v:List ak} {ts:List ByteArray} {vs bs:List Int} {w:List ak} {root:Int} {leaves:List Int} (h:uR v ts vs bs w root leaves) {ops:List aC} (ho:FF ops) (total blind leaf:Int):cY ⟨w⟩ root total blind [leaf] ops []=some ((oD w root total blind ops [] leaf).toList,0):=by
 obtain⟨i,hi,hlt,-⟩:=h.lt
 rw[Sg ho Sx (by simp)]
 unfold Mo
 rw[if_pos ⟨h.sound,by omega,by omega⟩,if_pos (by rfl),if_pos (show [leaf].Nodup by simp),List.filterMap_cons]
 cases oD w root total blind ops [] leaf<;>rfl
open Classical in
theorem MY {w:List ak} {root total blind leaf:Int} {x:aC} (hx:x.cg=leaf):pc w root total blind leaf [x] []=if kT w root total blind x then -1 else 1:=by
 unfold pc
 rw[List.find?_cons_of_pos (p:=fun x:aC=>x.cg==leaf) (by simp[hx])]
 by_cases hs:kT w root total blind x
 ·simp only[hs,if_true,UL,Bool.false_eq_true,if_false]
 ·simp only[hs,if_false]
open Classical in
theorem Jh {w:List ak} {root total blind leaf:Int} {x:aC} (hx:x.cg=leaf):(oD w root total blind [x] [] leaf).toList=if kT w root total blind x then [] else [⟨leaf,1⟩]:=by
 have hr:=MY (w:=w) (root:=root) (total:=total) (blind:=blind) hx
 unfold oD
 by_cases hs:kT w root total blind x
 ·rw[if_pos hs]at hr ⊢
  rw[if_pos hr];rfl
 ·rw[if_neg hs]at hr ⊢
  rw[if_neg (by rw[hr];decide),hr];rfl
theorem PR (w:List ak) (root total blind leaf:Int):(oD w root total blind [] [] leaf).toList=[⟨leaf,0⟩]:=rfl
open Classical in
theorem Uc (v:av) (l:fq) (which:Int) (x:aC) (more:Int) (h0:v.ag.length*48≤140737488351232) (h1:l.aH.length*16≤140737488351232) (h2:(Lit.int .u8 which).wf=true)
  (h3:x.bo.length*8≤140737488351232∧(Lit.int .i64 x.ay).wf=true):fe v l which x more=some true:=by
 obtain⟨vl⟩:=v
 have hwh:0≤which∧which≤255:=by
  have h':(decide (IntKind.u8.min≤which)&&decide (which≤IntKind.u8.max))=true:=h2
  simp only[Bool.and_eq_true,decide_eq_true_eq]at h'
  exact h'
 have hxv:=T.TZ h3.2
 unfold fe
 rw[S7]
 simp only[Option.bind_some]
 obtain⟨b,hb,-⟩:=T.QT ⟨vl⟩ 20 (by simp only at h0 ⊢;omega)
 rw[hb]
 simp only[Option.bind_some]
 cases b with
 | false=>rfl
 | true =>
 simp only[Bool.not_true,Bool.false_eq_true,if_false]
 obtain⟨c,hc,-⟩:=YE (l:=l) (by omega)
 rw[hc]
 simp only[Option.bind_some]
 cases c with
 | false=>rfl
 | true =>
 simp only[Bool.not_true,Bool.false_eq_true,if_false]
 obtain⟨d,hd,-⟩:=Xa (ops:=[x]) (ms:=[]) (by simp) (by simp)
 rw[hd]
 simp only[Option.bind_some]
 cases d with
 | false=>rfl
 | true =>
 simp only[Bool.not_true,Bool.false_eq_true,if_false]
 obtain⟨r,hr,hr2⟩:=QA (v:=vl) (l:=l) h1
 rw[hr]
 obtain⟨⟨w⟩,root,leaves,ok⟩:=r
 simp only[Option.bind_some]
 cases ok with
 | false=>rfl
 | true =>
 have hB:=hr2 rfl
 simp only at hB
 simp only[Bool.not_true,Bool.false_eq_true,if_false,Option.bind_some]
 have hlv:leaves.length=l.aH.length:=by rw[hB.leaves,wY]
 have hpos:=hB.pos
 have hle:=hB.le
 rw[if_neg (by simp;intro h;rw[h]at hlv;simp at hlv;omega)]
 rw[wrap64 (x:=which) (by omega) (by omega),T.HU (by omega) (by omega)]
 simp only[Option.bind_some]
 obtain⟨i,hi⟩:∃i:Nat,which % (leaves.length:Int)=i:=⟨(which % (leaves.length:Int)).toNat,by have:=Int.emod_nonneg which (b:=(leaves.length:Int)) (by omega);omega⟩
 have hin:i<l.aH.length:=by have:=Int.emod_lt_of_pos which (b:=(leaves.length:Int)) (by omega);omega
 obtain⟨g1,g2⟩:=hB.WO
 have hlf:leaves[i]? = some ((vl.length+i:Nat):Int):=by rw[hB.leaves];exact Sn hin
 have t1:l.aH[i]? = some l.aH[i]:=List.getElem?_eq_getElem hin
 have t2:l.aP[i]? = some (l.aP[i]'(by rw[hB.vlen];exact hin)):=List.getElem?_eq_getElem _
 have t3:l.aO[i]? = some (l.aO[i]'(by rw[hB.blen];exact hin)):=List.getElem?_eq_getElem _
 have e1:l.aH.getD i ⟨#[]⟩=l.aH[i]:=by simp[List.getD,t1]
 have e2:l.aP.getD i 0=l.aP[i]'(by rw[hB.vlen];exact hin):=by simp[List.getD,t2]
 have e3:l.aO.getD i 0=l.aO[i]'(by rw[hB.blen];exact hin):=by simp[List.getD,t3]
 rw[hi,bz hlf,g1,g2,Qy,Lx (by omega)]
 simp only[Option.bind_some]
 have hlX:=hB.leaf i hin
 generalize hL:((vl.length+i:Nat):Int)=leaf at *
 have hxops:FF [aC.mk leaf x.bo x.bE x.ay x.aA]:=⟨by simp,fun y hy=>by simp at hy;subst hy;exact⟨by simp only;omega,by simp only;omega,by simp only;omega⟩⟩
 have hiff:=Ga hB hin (x:=aC.mk leaf x.bo x.bE x.ay x.aA) hL.symm (sf (ru l.aH l.aP l.aO) (List.range l.aH.length)) (se (ru l.aH l.aP l.aO) (List.range l.aH.length))
 simp only[true_and,e1,e2,e3]at hiff
 have hway:(if decide (iZ w x.bo)=true then (P.idx x.bo 0).bind fun x48=>(if (x48==root) then (P.idx x.bo (IntKind.i64.wrap ((x.bo.length:Int)-1))).bind fun x50=>some (x50==leaf) else some false) else some (decide (iZ w x.bo)))=some (decide (iZ w x.bo∧x.bo.head? = some root∧x.bo.getLast? = some leaf)):=by
  by_cases hw:iZ w x.bo
  ·obtain⟨a,b,-,-,ha,hb,-⟩:=Dc hw
   rw[if_pos (decide_eq_true hw),B3,Cb (by omega),ha,hb]
   simp only[Option.bind_some]
   by_cases q1:a=root
   ·rw[if_pos (by simp[q1])]
    by_cases q2:b=leaf
    ·simp[hw,q1,q2]
    ·simp[hw,q1,q2]
   ·rw[if_neg (by simpa using q1)]
    simp[q1]
  ·rw[if_neg (by simp[hw])]
   simp[hw]
 rw[hway]
 simp only[Option.bind_some]
 have hhon:(if decide (iZ w x.bo∧x.bo.head? = some root∧x.bo.getLast? = some leaf)=true then (P.idx l.aH (i:Int)).bind fun x42=>(if (x.bE.toList==x42.toList) then (P.idx l.aP (i:Int)).bind fun x44=>(if (x.ay==x44) then (P.idx l.aO (i:Int)).bind fun x46=>some (x.aA==x46) else some false) else some false) else some false)=some (decide (kT w root (sf (ru l.aH l.aP l.aO) (List.range l.aH.length)) (se (ru l.aH l.aP l.aO) (List.range l.aH.length)) (aC.mk leaf x.bo x.bE x.ay x.aA))):=by
  rw[decide_eq_decide.2 hiff]
  by_cases hw:iZ w x.bo∧x.bo.head? = some root∧x.bo.getLast? = some leaf
  ·rw[if_pos (decide_eq_true hw),bz t1]
   simp only[Option.bind_some,HO]
   by_cases q1:x.bE=l.aH[i]
   ·rw[if_pos (decide_eq_true q1),bz t2]
    simp only[Option.bind_some]
    by_cases q2:x.ay=l.aP[i]'(by rw[hB.vlen];exact hin)
    ·rw[if_pos (by simp[q2]),bz t3]
     simp only[Option.bind_some]
     congr 1
     by_cases q3:x.aA=l.aO[i]'(by rw[hB.blen];exact hin)
     ·rw[decide_eq_true ⟨hw,q1,q2,q3⟩];simp[q3]
     ·rw[decide_eq_false (fun h=>q3 h.2.2.2)];simp[q3]
    ·rw[if_neg (by simpa using q2),decide_eq_false (fun h=>q2 h.2.2.1)]
   ·rw[if_neg (by simp[q1]),decide_eq_false (fun h=>q1 h.2.1)]
  ·rw[if_neg (by simp[hw]),decide_eq_false (fun h=>hw h.1)]
 rw[hhon]
 simp only[Option.bind_some]
 rw[yi hB hxops,Jh rfl]
 simp only[Option.bind_some,bne_self_eq_false,Bool.false_eq_true,if_false]
 have hops0:FF []:=⟨by simp,fun y hy=>by cases hy⟩
 have tail:∀q:Bool,q=false→(if q then some false else (cY ⟨w⟩ root (sf (ru l.aH l.aP l.aO) (List.range l.aH.length)) (se (ru l.aH l.aP l.aO) (List.range l.aH.length)) [leaf] [] []).bind fun r23=>(if (r23.2 != 0) then some true else (ib r23.1 ([(bn.mk leaf 0)])).bind fun r36=>some (!r36)).bind fun s192j7=>if s192j7 then some false else if (more==sf (ru l.aH l.aP l.aO) (List.range l.aH.length)) then some true else (l7 ⟨w⟩ root leaves l (i:Int)).bind fun r27=>(cY ⟨w⟩ root more (se (ru l.aH l.aP l.aO) (List.range l.aH.length)) [leaf] ([r27]) []).bind fun r29=>if (r29.2==0) then (ib r29.1 ([(bn.mk leaf 1)])).bind fun r33=>some r33 else some false)=some true:=by
  intro q hq
  subst hq
  rw[if_neg (by simp),yi hB hops0,PR]
  simp only[Option.bind_some,bne_self_eq_false,Bool.false_eq_true,if_false]
  rw[HL (by simp)]
  simp only[Option.bind_some,decide_true,Bool.not_true,Bool.false_eq_true,if_false]
  by_cases hm:more=sf (ru l.aH l.aP l.aO) (List.range l.aH.length)
  ·rw[if_pos (by simp[hm])]
  ·rw[if_neg (by simpa using hm)]
   obtain⟨p,hp,-,-,-,hpl⟩:=UP hB hin
   rw[hp]
   simp only[Option.bind_some]
   have hoL:(oT w p vl.length l.aH l.aP l.aO i).cg=leaf:=hL
   have hv1:=hlX.2.2.2.1
   have hops1:FF [oT w p vl.length l.aH l.aP l.aO i]:=⟨by simp,fun y hy=>by
    simp at hy;subst hy
    simp only[ru]at hv1
    exact⟨by simp only[oT];omega,by simp only[oT];omega,by simp only[oT];omega⟩⟩
   rw[yi hB hops1,Jh hoL]
   have hno:¬kT w root more (se (ru l.aH l.aP l.aO) (List.range l.aH.length)) (oT w p vl.length l.aH l.aP l.aO i):=fun h=>hm ((Ga hB hin (by rw[hoL,hL]) more _).1 h).2.1
   rw[if_neg hno]
   simp only[Option.bind_some,beq_self_eq_true,if_true]
   rw[HL (by simp)]
   simp
 by_cases hS:kT w root (sf (ru l.aH l.aP l.aO) (List.range l.aH.length)) (se (ru l.aH l.aP l.aO) (List.range l.aH.length)) (aC.mk leaf x.bo x.bE x.ay x.aA)
 ·rw[if_pos hS]
  simp only[hS,decide_true,List.length_nil,Bool.not_true,Bool.false_eq_true,if_false,Option.bind_some]
  exact tail false rfl
 ·rw[if_neg hS]
  simp only[hS,decide_false,List.length_cons,List.length_nil,Bool.not_false,if_true]
  rw[HL (by simp)]
  simp only[Option.bind_some,decide_true,Bool.not_true]
  exact tail false rfl
end Go.Proofs.YtpkahnkoecbndaaGreatDoor.P
