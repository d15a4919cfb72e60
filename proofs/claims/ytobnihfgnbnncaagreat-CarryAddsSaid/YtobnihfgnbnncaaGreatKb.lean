import Derived.Test.YtobnihfgnbnncaaGreatKa
set_option linter.unusedSimpArgs false
set_option linter.unusedVariables false
set_option linter.defProp false
noncomputable section
open Go.Proofs.Tryz
namespace Go.Proofs.YtobnihfgnbnncaaGreat.Am
open Go.RowKit
section
variable {P:Program} {T:Nat->Option Ty} {N:Nat} {M:Nat->Prop} {L:kQ} {w0:World} {blk:Nat->Option (Nat×Nat)} {V:Nat->Nat->Prop} {t:Nat->D} {h:Nat->Option Row} {a:Act} {w:World} {e:Nat} {o:Oper} {Γ:Env}
def Inv.content (Q:Inv N M L w0 blk V t h a w) {d:D} {m s:Nat} {i:List D} {u:Value} (Z:0<s) (k:content h d=some (m,i)) (R:i.length=m*s) (O:RT w (Own M h blk) h blk V d u) :
  ∃(A:Option Addr) (c:Nat) (l:List Value),u=.slice A m c∧m<=c∧l.length=i.length∧(∀j x,i[j]? = some x->bu x=true∧RP w (Own M h blk) x (l.getD j undef)) ∧
   (∀B,A=some B->∀j v,l[j]? = some v->w.cell? (B.add j)=some v)∧(A=none->m=0∧c=0):=by
 cases d with
 | sl nl tight n xs =>
  simp only[Am.content,ajw,Prod.mk.injEq]at k;obtain⟨rfl,rfl⟩:=k;have G:RP w (Own M h blk) (.sl nl tight n xs) u:=O;cases G with
  | sl A c nl tight n xs l h1 h2 h3 h4 h5 h6 h7 h8 =>
   refine⟨A,c,(List.range xs.length).map l,rfl,h1,by simp,fun j x f=>⟨h8 x (ajM f),?_⟩,fun B p j v f =>?_,h4⟩
   ·have e:=(ajO.1 f).1;have:((List.range xs.length).map l).getD j undef=l j:=by simp[List.getD,e]
    rw[this];exact h7 j x f
   ·obtain⟨e,C⟩:=ajO.1 f;simp only[ajP,ajQ]at e;simp only[List.getElem_map,List.getElem_range]at C;have H:xs≠[]:=by rintro rfl;simp at e
    obtain⟨b,o,y,_,_,F⟩:=h6 H;rw[p]at y;simp only[ajw]at y;subst y;rw[sA,<- C];exact F j e
 | buf x v z q n =>
  simp only[Am.content]at k;split at k
  ·rename_i r I;split at k
   ·rename_i S;simp only[ajw,Prod.mk.injEq]at k;obtain⟨rfl,rfl⟩:=k;rcases Q.A2 I O with⟨g,o',c,cs,T,U,P,F,W,X,g7,Y⟩|⟨T,rfl,P,A,F⟩
    ·have E:((r.cells.drop q).take (n*z)).length=n*z:=by simp;omega
     rw[E]at R;refine⟨_,c,(List.range (n*z)).map (fun j=>cs.getD (g.2+(q+j)) undef),U,P,by simp;omega,fun j x f =>?_,fun B p j v f =>?_,fun p=>by cases p⟩
     ·rw[eA]at f;split at f
      ·rename_i J;have:((List.range (n*z)).map (fun j=>cs.getD (g.2+(q+j)) undef)).getD j undef=cs.getD (g.2+(q+j)) undef:=by simp[List.getD,J]
       rw[this];exact Y _ _ f
      ·cases f
     ·obtain⟨e,C⟩:=ajO.1 f;simp only[ajP,ajQ]at e;simp only[List.getElem_map,List.getElem_range]at C;simp only[ajw]at p;subst p;have hn:0<n:=by
       rcases ajD n with K|K
       ·subst K;simp at e
       ·exact K
      have:=(X (.inl (by omega))).1;subst this;rw[sA,<- C,ajG];exact a8 W (by omega)
    ·refine⟨A,0,[],F,ajo _,by simp,fun j x f=>by simp at f,fun B p j v f=>by simp at f,fun _=>⟨rfl,rfl⟩⟩
   ·cases k
  ·cases k
 | _=>simp[Am.content]at k
def appended {M':Nat->Prop} {olds news:List D} {xs us:List Value} {cur:Array Value} {b:Nat} (d:xs.length=olds.length) (g:us.length=news.length) (a:(cur.toList.drop b).take (olds.length+news.length)=xs++us)
  (h:∀j x,olds[j]? = some x->bu x=true∧RP w M' x (xs.getD j undef)) (i:∀j x,news[j]? = some x->bu x=true∧RP w M' x (us.getD j undef)) (j:Nat) (x:D) (c:(olds++news)[j]? = some x) :
  bu x=true∧RP w M' x (cur.getD (b+j) undef):=by
 have e:j<olds.length+news.length:=by
  have:=(ajO.1 c).1;simpa using this
 have k:cur.getD (b+j) undef=(xs++us).getD j undef:=by
  rw[<- a];simp only[ajW,ajN,if_pos e,ajK];simp
 rw[k]
 by_cases f:j<olds.length
 ·rw[akb f]at c;have:(xs++us).getD j undef=xs.getD j undef:=by
   simp only[ajW];rw[akb (by omega)]
  rw[this];exact h j x c
 ·rw[akd (by omega)]at c;have:(xs++us).getD j undef=us.getD (j-olds.length) undef:=by
   simp only[ajW];rw[akd (by omega),d]
  rw[this];exact i _ x c
def abC {e:Nat->Prop} {a:List D} {b:List Value} (f:b.length=a.length) (g:∀j x,a[j]? = some x->bu x=true∧RP w e x (b.getD j undef)):∀u∈b,u.oneCell'=true:=by
 intro u h;obtain⟨j,c⟩:=ajH h;have i:=(ajO.1 c).1;obtain⟨k,d⟩:=g j _ (ajA (by omega));have:b.getD j undef=u:=by simp[List.getD,c]
 rw[this]at d;exact d.rZ k
def rq (t g el:Nat) {τ:Ty} (d:P.underlying t=some (.slice el)) {φ:Ty} (e:eD P el φ) (A B:Option Addr) (n c k:Nat) (f:n<=c):(Builtin.append_ #[t,t] g #[.slice A n c,.slice B 0 k]).run P w=.ok (.slice A n c) w:=by
 have a:(Builtin.firstCells φ.size 0 (.slice B 0 k)).run P w=.ok #[] w:=by
  cases B with
  | none=>simp[Builtin.firstCells]
  | some b=>simp[Builtin.firstCells,loadCells,loadCellsFrom]
 cases A with
 | none=>simp[Builtin.append_,run_underlying d,run_sizeOf e,Builtin.lenOf,f,a]
 | some b=>simp[Builtin.append_,run_underlying d,run_sizeOf e,Builtin.lenOf,f,a,storeCells]
def HP (t y el:Nat) {φ:Ty} (I:P.underlying t=some (.slice el)) (Q:eD P el φ) (J:0<φ.size) (B:φ.zero.length=φ.size) (A:Option Addr) (n a:Nat) (e:List Value) (l:e.length=n*φ.size)
  (C:∀r,A=some r->∀j u,e[j]? = some u->w.cell? (r.add j)=some u) (R:A=none->n=0∧a=0) (b:Addr) (m c:Nat) (f:List Value) (d:f.length=m*φ.size)
  (s:∀j u,f[j]? = some u->w.cell? (b.add j)=some u) (K:a<n+m) (v:n+m<=maxLen) (L:(n+m)*φ.bytes<=140737488355328) :
  ∃k g,(Builtin.append_ #[t,t] y #[.slice A n a,.slice (some b) m c]).run P w=.ok (.slice (some ⟨w.heap.size,0,none⟩) (n+m) k) (w.drew.alloc (.cells g el))∧n+m<=k∧k<=maxLen∧k*φ.size=g.size∧g.toList.take ((n+m)*φ.size)=e++f:=by
 obtain⟨T,i,z,U,V,M,D,N,O,S⟩:=Q.get;have E:z.cells.size=φ.size:=by rw[S];simpa using B
 have h:((n+m:Nat):Int)<=9223372036854775807:=by simp only[maxLen]at v;omega
 have x:(e++f).length=(n+m)*φ.size:=by rw[akn,l,d,Nat.add_mul]
 have o:=grownCap_ge w (n+m) a el;have p:grownCap w (n+m) a el<=maxLen:=grownCap_le_maxLen w (n+m) a el v;have q:∀g:Array Value,g=e.toArray++f.toArray++Builtin.zeroCells z.cells (grownCap w (n+m) a el-(n+m))->grownCap w (n+m) a el*φ.size=g.size∧g.toList.take ((n+m)*φ.size)=e++f:=by
  intro g F;subst F;refine⟨?_,?_⟩
  ·simp only[akv,akw,size_zeroCells,E,l,d,<- Nat.add_mul];congr 1;omega
  ·simp only[akx,aky];rw[<- aky,<- x];exact List.take_left
 cases A with
 | some r =>
  have G:=run_append_grow (P:=P) w t y el i z I M O r n a e (by rw[D];exact l) (C r rfl) b m c f (by rw[D];exact d) s K h (growslice_fits K (by rw[N];exact L));obtain⟨f1,f2⟩:=q _ rfl;exact⟨_,_,G,o,p,f1,f2⟩
 | none =>
  obtain⟨rfl,rfl⟩:=R rfl;have H:e=[]:=aku (by omega);subst H;have G:=run_append_nil (P:=P) w t y el i z I M O b m c f (by rw[D];exact d) s (by omega) (by simpa using h) (by rw[N];simp only[akl]at L;omega);simp only[akl]at o p q ⊢;obtain⟨f1,f2⟩:=q _ rfl;refine⟨_,_,G,o,p,?_,?_⟩
  ·simpa using f1
  ·simpa using f2
def IY (t r el:Nat) {φ:Ty} (s:P.underlying t=some (.slice el)) (v:eD P el φ) (g q n e:Nat) (a:Array Value) (x:w.heap[g]? = some (.cells a el (0,0))) (b:Addr) (m c:Nat) (d:List Value) (l:d.length=m*φ.size)
  (o:∀j u,d[j]? = some u->w.cell? (b.add j)=some u) (y:∀u∈d,u.oneCell'=true) (f:n+m<=e) (h:q+n*φ.size+d.length<=a.size) :
  (Builtin.append_ #[t,t] r #[.slice (some ⟨g,q,none⟩) n e,.slice (some b) m c]).run P w =
   .ok (.slice (some ⟨g,q,none⟩) (n+m) e) (w.setRow g (a.toList.take (q+n*φ.size)++d++a.toList.drop (q+n*φ.size+d.length)).toArray):=by
 obtain⟨C,i,z,D,E,A,p,F,G,H⟩:=v.get;have B:=run_firstCells_some (P:=P) w i.size m b m c d (by rw[p];exact l) o;have k:=run_storeCells_at P g (q+n*i.size) el d 0 a w x (by rw[p];simpa using h) y;simp only[Nat.add_zero]at k;rw[<- p];simp[Builtin.append_,run_underlying s,sizeOf,typeInfo,A,Builtin.lenOf,f,B,sA,k]
def Ce {α:Type} (l c a:List α) (b k:Nat) (h:b+k<=l.length):((l.take (b+k)++c++a).drop b).take (k+c.length)=(l.drop b).take k++c:=by
 have d:((l.drop b).take k).length=k:=by simp;omega
 rw[aky,akz (by simp;omega),List.drop_take,akA,List.take_append,d,akA,akB (ajo _),akC (l:=c) (ajo _),akC (by rw[d];omega)]
def O5 (hT:jH P T) (U:Inv N M L w0 blk V t h a w) {c:Call} {s x:Operand} {K d:Nat} {τ:Ty} {E:cr} (ho:o.op=.call c) (hc:c.callee=.builtin .append) (av:c.args = #[s,x]) (aI:c.argTypes = #[K,K]) (hd:o.dst=some d)
  (hV:kn N V d e) (hτ:T K=some τ) (p:kH T τ h e d (ev t s) (ev t x)=some E):e9 P o a w (bl N M L w0 V t h a e o.dst E):=by
 have W:=U.ev s;have aw:=U.ev x;generalize ev t s=qs at *;generalize ev t x=qx at *;obtain⟨dd,aa,aJ⟩:=under hT hτ;have C:∀v w',(Builtin.append_ #[K,K] o.type #[a.eval s,a.eval x]).run P w=.ok v w'->(execOp a.eval o).run P w=.ok (.value v) w':=by
  intro v w' hr;simp[execOp,ho,resolve,hc,av,aI,invoke,builtin,hr]
 unfold kH at p;split at p
 ·rename_i el aU;rw[aU]at aJ;have:=hZ aJ;subst this;split at p
  ·rename_i φ m news hφ O;split at p
   ·rename_i i;have grow:∀(F:Option Nat) (A:Option Addr) (n cap:Nat) (xs:List Value) (olds:List D),(∀y,F=some y->∃r,h y=some r∧r.fz=false)->a.eval s=.slice A n cap->n<=cap->(A=none->n=0∧cap=0)->xs.length=n*φ.size->olds.length=xs.length ->
      (∀ad,A=some ad->∀j u,xs[j]? = some u->w.cell? (ad.add j)=some u)->(∀(j:Nat) x,olds[j]? = some x->bu x=true∧RP w (Own M h blk) x (xs.getD j undef))->cap<n+m->n+m<=maxLen->(n+m)*φ.bytes<=140737488355328->news.length=m*φ.size ->
      E=⟨.buf d e φ.size 0 (n+m),(match F with|some y=>[(y,none)]|none=>[])++[(d,some ⟨e,el,olds++news,false,true,false⟩)]⟩->e9 P o a w (bl N M L w0 V t h a e o.dst E):=by
     intro F A n cap xs olds aK hs bg hA ax G aV ay aW aX aY az aZ;obtain⟨B,cb,S,X,ar,ab,ae,aj,al⟩:=U.content i.1 O az aw;cases B with
     | none =>
      have:=(al rfl).1;subst this;omega
     | some b =>
      obtain⟨k,vs,H,g1,g2,g3,g4⟩:=HP (P:=P) (w:=w) K o.type el aa (hT el φ hφ) i.1 i.2 A n cap xs ax aV hA b m cb S (by omega) (aj b rfl) aW aX aY;have hb:Below w.heap.size w (w.drew.alloc (.cells vs el)):=((Below.refl _ _).drew).alloc (by simp) _;refine aN (C _ _ (by rw[hs,X];exact H)) ?_;have:=U.fresh (old:=F) (dst:=o.dst) (e:=e) (d:=d) (ty:=el) (s:=φ.size) (n:=n+m) (cells:=olds++news) (w':=w.drew.alloc (.cells vs el)) (v := .slice (some ⟨w.heap.size,0,none⟩) (n+m) k) hd hV (eH.u7 hb) aK
       (.inl ⟨(w.heap.size,0),k,vs,rfl,.inl (ajo _),by simpa using heap_alloc_new w.drew (.cells vs el),g1,g2,by simpa using g3,?_,fun j y hj =>?_⟩)
      ·subst aZ;unfold bl;cases F with
       | none=>exact this
       | some y=>exact this
      ·simp only[akl,akn,G,ax,az,<- Nat.add_mul];rw[<- g3];exact aj2 _ g1
      ·have Y:=appended (b:=0) (M':=Own M h blk) (w:=w) (olds:=olds) (news:=news) (xs:=xs) (us:=S) (cur:=vs) G.symm ab (by rw[akD,G,ax,az,<- Nat.add_mul];exact g4) ay ae j y hj;simp only[akl]at Y ⊢;refine⟨Y.1,Y.2.keep fun b k1 k2=>⟨ajr k1 hb.size,fun aA =>?_,hb.block b k1⟩⟩;rcases aA with aA|rfl
       ·exact k2 (AH aA)
       ·omega
    split at p
    ·rename_i nl tight n xs;split at p
     ·rename_i Q;obtain⟨k1,k2,k3,k4,k5⟩:=Q;split at p
      ·rename_i hm;subst hm;simp only[ajw]at p;subst p;obtain⟨A,cx,S,X,ar,ab,ae,aj,al⟩:=U.content i.1 O k5 aw;obtain⟨B,cb,an,f,I,_⟩:=U.content (d := .sl nl tight n xs) i.1 rfl k4 W;refine aN (C _ _ (by rw[f,X];exact rq (τ:=τ) K o.type el aa (hT el φ hφ) B A n cb cx I)) (bl.eG U ?_);rw[<- f];exact W
      ·rename_i hm;simp only[ajw]at p;obtain⟨B,cb,an,f,I,a1,aB,aC,aD⟩:=U.content (d := .sl nl tight n xs) i.1 rfl k4 W;have aM:cb=n:=by
        have aO:RP w (Own M h blk) (.sl nl tight n xs) (a.eval s):=W;generalize a.eval s=u at *;cases aO with
        | sl A' c' nl tight n xs bh h1 h2 h3 h4 h5 h6 h7 h8 =>
         simp only[Value.slice.injEq]at f;obtain⟨_,_,rfl⟩:=f;exact h5 k1
       subst aM;exact grow none B cb cb an xs (fun y hy=>by cases hy) f I (fun h=>(aD h)) (by omega) (by omega) aC aB (by omega) k2 k3 k5 p.symm
     ·cases p
    ·rename_i y v zz q n;split at p
     ·rename_i r aE;split at p
      ·rename_i Q;obtain⟨k1,k2,k3,k4,k5,k6,k7⟩:=Q;subst k1;simp only[ajw]at p;obtain⟨ao,bj⟩:=cM aE;have aq:Am.content h (.buf y v φ.size q n)=some (n,(r.cells.drop q).take (n*φ.size)):=by simp only[Am.content,aE,if_pos k4]
       have G:((r.cells.drop q).take (n*φ.size)).length=n*φ.size:=by simp;omega
       obtain⟨B,cb,an,f,I,a1,aB,aC,aD⟩:=U.content i.1 aq G W
       by_cases R:n+m<=cb
       ·obtain⟨A,cx,S,X,ar,ab,ae,aj,al⟩:=U.content i.1 O k7 aw;have ag:cb=0->e9 P o a w (bl N M L w0 V t h a e o.dst E):=by
         intro h0;have a6:n=0:=by omega
         have a7:m=0:=by omega
         subst a6 a7 h0;have aF:news=[]:=aku (by omega);subst p aF;refine aN (C _ _ (by rw[f,X];exact rq (τ:=τ) K o.type el aa (hT el φ hφ) B A 0 0 cx (ajo _))) ?_;have:=U.fresh (old:=some y) (dst:=o.dst) (e:=e) (d:=d) (ty:=el) (s:=φ.size) (n:=0) (cells:=[]) (w':=w) (v := .slice B 0 0) hd hV (eH.refl _ _) (fun y' ah=>by cases ah;exact⟨r,ao,k3⟩) (.inr ⟨rfl,rfl,B,rfl⟩);unfold bl;have e0:(r.cells.drop q).take (0*φ.size)++[]=[]:=by simp
         rw[e0];exact this
        rcases U.A2 aE W with⟨g,o',J,Z,g0,g1,g2,g3,g4,g5,g7,g8⟩|⟨g0,g1,g2,A',g3⟩
        ·have a8:J=cb:=by rw[g1]at f;simp at f;exact f.2
         subst a8
         by_cases ba:0<J∨q=0
         ·obtain⟨bb,bc⟩:=g5 ba;subst bb;have aG:(n+m)*φ.size<=J*φ.size:=aj2 _ R;rw[Nat.add_mul]at aG;have aP:g.2+q+n*φ.size+S.length<=Z.size:=by omega
          have aQ:((Z.toList.drop (g.2+q)).take (n*φ.size)).length=n*φ.size:=by simp;omega
          have H:∃l,(Builtin.append_ #[K,K] o.type #[a.eval s,a.eval x]).run P w=.ok (.slice (some ⟨g.1,g.2+q,none⟩) (n+m) J) (w.setRow g.1 l)∧l.size=Z.size∧(l.toList.drop (g.2+q)).take (n*φ.size+m*φ.size)=(Z.toList.drop (g.2+q)).take (n*φ.size)++S:=by
           rw[X,g1];cases A with
           | some ad =>
            refine⟨_,IY (P:=P) K o.type el aa (hT el φ hφ) g.1 (g.2+q) n J Z (by rw[<- k2];exact g4) ad m cx S (by omega) (aj ad rfl) (abC ab ae) R aP,by simp;omega,?_⟩;have:=Ce Z.toList S (Z.toList.drop (g.2+q+n*φ.size+S.length)) (g.2+q) (n*φ.size) (by simp;omega);have aR:S.length=m*φ.size:=by omega
            rw[aR]at this;rw[aR];exact this
           | none =>
            obtain⟨rfl,rfl⟩:=al rfl;have bd:S=[]:=aku (by omega);subst bd;refine⟨Z,?_,rfl,by simp⟩;rw[setRow_self w g.1 Z r.ty (0,0) g4];exact rq (τ:=τ) K o.type el aa (hT el φ hφ) _ _ n J 0 g2
          obtain⟨l,H,aS,aH⟩:=H;subst p;have au:Own M h blk g.1 := .inr ⟨y,r,g,ao,k3,g0,rfl⟩;have hheap:∀b,b≠g.1->(w.setRow g.1 l).heap[b]? = w.heap[b]?:=by
           intro b hb;simp only[World.setRow,ajx];rw[if_neg (Ne.symm hb)]
          have ai:(w.setRow g.1 l).heap.size=w.heap.size:=by simp[World.setRow]
          refine aN (C _ _ H) ?_;have:=U.fresh (old:=some y) (dst:=o.dst) (e:=e) (d:=d) (ty:=el) (s:=φ.size) (n:=n+m) (cells:=(r.cells.drop q).take (n*φ.size)++news) (w':=w.setRow g.1 l) (v := .slice (some ⟨g.1,g.2+q,none⟩) (n+m) J) hd hV
           ⟨rfl,rfl,rfl,by rw[ai];exact ajo _,fun b _ hb=>hheap b (fun he=>hb ⟨y,g,rfl,g0,he⟩)⟩ (fun y' ah=>by cases ah;exact⟨r,ao,k3⟩)
           (.inl ⟨(g.1,g.2+q),J,l,rfl,.inr ⟨y,g,rfl,g0,rfl⟩,by rw[<- k2];exact setRow_heap w g.1 Z l r.ty (0,0) g4,R,g3,by rw[aS];exact bc,by simp only[akn,G];omega,fun j z hj =>?_⟩)
          ·unfold bl;exact this
          ·have Y:=appended (b:=g.2+q) (M':=Own M h blk) (w:=w) (olds:=(r.cells.drop q).take (n*φ.size)) (news:=news) (xs:=(Z.toList.drop (g.2+q)).take (n*φ.size)) (us:=S) (cur:=l) (by rw[G,aQ]) ab (by rw[G,k7];exact aH)
            (fun j z hj=>by
             rw[eA]at hj;split at hj
             ·rename_i bf;have:=g8 _ _ hj;have he:((Z.toList.drop (g.2+q)).take (n*φ.size)).getD j undef=Z.getD (g.2+(q+j)) undef:=by
               simp only[ajW,eA,if_pos bf,ajG];simp
              rw[he];exact this
             ·cases hj) ae j z hj
           refine⟨Y.1,Y.2.keep fun b q1 q2=>⟨by rw[ai];exact q1,?_,hheap b (fun he=>q2 (he ▸ au))⟩⟩;rintro (hb|rfl)
           ·exact q2 (AH hb)
           ·exact q2 au
         ·exact ag (by omega)
        ·rw[g3]at f;simp only[Value.slice.injEq]at f;exact ag (by omega)
       ·exact grow (some y) B n cb an _ (fun y' ah=>by cases ah;exact⟨r,ao,k3⟩) f I (fun h=>(aD h)) (by omega) (by omega) aC aB (by omega) k5 k6 k7 p.symm
      ·cases p
     ·cases p
    ·cases p
   ·cases p
  ·cases p
 ·cases p
end
section
variable {P:Program} {T:Nat->Option Ty} {N:Nat} {M:Nat->Prop} {L:kQ} {w0:World} {blk:Nat->Option (Nat×Nat)} {V:Nat->Nat->Prop} {t:Nat->D} {h:Nat->Option Row} {a:Act} {w:World} {e:Nat} {o:Oper} {Γ:Env}
def RJ {s:Ds} {x:D} (a:kindOk s x=true):s.uO=false∧RI s=true:=by
 cases s<;>cases x<;>simp[kindOk]at a<;>exact⟨rfl,rfl⟩
def AL (q:jH P T) (n:Nat) {M':Nat->Prop} {us vs:List Value} : ∀(F:List Field) (o:Nat) (a d:List D) (b:Bool),(∀f∈F,f.name ≠ "_")->nI T o (F.map fun f=>(f.type,f.offset)) a=true->eqL a d=some b ->
  (∀j x,a[j]? = some x->RP w M' x (us.getD (o+j) undef)∧o+j<us.length)->(∀j y,d[j]? = some y->RP w M' y (vs.getD (o+j) undef)∧o+j<vs.length) ->
  (forIn F ((none,()):Option Bool×Unit) fun f __s =>
   if f.name ≠ "_" then do
    let __do_lift <- part f.type us.toArray f.offset
    let __do_lift_1 <- part f.type vs.toArray f.offset
    let __do_lift <- Op.equalIn (n+1) f.type __do_lift __do_lift_1
    if (!__do_lift)=true then pure (ForInStep.done (some false,())) else pure (ForInStep.yield (none,()))
   else (pure (ForInStep.yield (none,())):Sem _)).run P w=.ok (if b then (none,()) else (some false,())) w
 | [],o,a,d,b,hn,e,c,s,t=>by
  cases a with
  | nil =>
   cases d with
   | nil =>
    simp only[eqL,ajw]at c;subst c;rfl
   | cons y d=>simp[eqL]at c
  | cons x a=>simp[nI]at e
 | f::F,o,a,d,b,hn,e,c,s,t=>by
  cases a with
  | nil=>simp[nI]at e
  | cons x a =>
   cases d with
   | nil=>simp[eqL]at c
   | cons y d =>
    simp only[ajt,nI,ajV,beq_iff_eq]at e;obtain⟨⟨G,r⟩,I⟩:=e;simp only[eqL]at c;split at c
    ·rename_i J K h u;simp only[ajw]at c;subst c;split at r
     ·rename_i φ v;obtain⟨i,k⟩:=s 0 x rfl;obtain⟨l,m⟩:=t 0 y rfl;rw[ajU]at i k l m;obtain⟨H,L⟩:=RJ r;have A:(part f.type us.toArray f.offset).run P w=.ok (us.getD o undef) w:=by
       have p:us.toArray[f.offset]? = some (us.getD o undef):=by rw[G];simp[List.getD,ajA k]
       simp only[part,ajR,od (q _ _ v),H,Result.andThen_ok,ajT,if_false,p];rfl
      have B:(part f.type vs.toArray f.offset).run P w=.ok (vs.getD o undef) w:=by
       have p:vs.toArray[f.offset]? = some (vs.getD o undef):=by rw[G];simp[List.getD,ajA m]
       simp only[part,ajR,od (q _ _ v),H,Result.andThen_ok,ajT,if_false,p];rfl
      have C:=(adN q v L i l h n).2 (XF h r);have M:=AL q n F (o+1) a d K (fun g p=>hn g (by simp[p])) I u (fun j z E=>by have:=s (j+1) z E;rwa [show o+(j+1)=o+1+j by omega]at this) (fun j z E=>by have:=t (j+1) z E;rwa [show o+(j+1)=o+1+j by omega]at this);rw[List.forIn_cons];simp only[ajR];rw[if_pos (hn f (by simp))];simp only[ajR,A,Result.andThen_ok,B,C];cases J with
      | false=>rfl
      | true =>
       simp only[akE,ajT,if_false,Sem.run_pure,Result.andThen_ok,akF];exact M
     ·cases r
    ·cases c
def run_equalIn_bool (n:Nat) {a:Nat} (b:P.underlying a=some .bool) (i j:Bool):(Op.equalIn (n+1) a (.bool i) (.bool j)).run P w=.ok (i==j) w:=by
 simp[Op.equalIn,run_underlying b]
def run_equalIn_struct (n:Nat) {d:Nat} {F:Array Field} (e:P.underlying d=some (.struct F)) (g:P.stoodInHeld d=false) {us vs:List Value} {b:Bool}
  (a:(forIn F.toList ((none,()):Option Bool×Unit) fun f __s =>
   if f.name ≠ "_" then do
    let __do_lift <- part f.type us.toArray f.offset
    let __do_lift_1 <- part f.type vs.toArray f.offset
    let __do_lift <- Op.equalIn (n+1) f.type __do_lift __do_lift_1
    if (!__do_lift)=true then pure (ForInStep.done (some false,())) else pure (ForInStep.yield (none,()))
   else (pure (ForInStep.yield (none,())):Sem _)).run P w=.ok (if b then (none,()) else (some false,())) w) :
  (Op.equalIn (n+1+1) d (.agg us.toArray) (.agg vs.toArray)).run P w=.ok b w:=by
 have c:(program:Sem Program).run P w=.ok P w:=rfl;rw[Op.equalIn];simp only[ajR,run_underlying e,Result.andThen_ok,c,g,ajT,if_false];rw[<- Array.forIn_toList,a];cases b<;>rfl
def Wn (O:jH P T) (hI:Inv N M L w0 blk V t h a w) {r:Nat} {τ:Ty} (W:T r=some τ) {x y:D} {u v:Value} {b:Bool} (Q:RT w (Own M h blk) h blk V x u) (R:RT w (Own M h blk) h blk V y v) (e:eqD T τ x y=some b) :
  (Op.equal r u v).run P w=.ok b w∧(∀(p q:Operand) (g:BinOp),(eqGuard g r p q u v).run P w=.ok () w)∧(∀g,g=.eql∨g=.neq->binOp g r u v=(match g with | .eql=>(do pure (.bool (<- Op.equal r u v)):Sem Value)|_=>do pure (.bool (!(<- Op.equal r u v))))):=by
 obtain⟨d,K,E⟩:=under O W;unfold eqD at e;split at e
 ·rename_i i j;have Z:=yK Q;have hv:=yK R;subst Z hv;split at e
  ·rename_i l;rw[l]at E;have:=yU E;subst this;simp only[ajw]at e;subst e;refine⟨run_equalIn_bool 9999 K i j,fun p q g=>by cases g<;>rfl,fun g m =>?_⟩;rcases m with rfl|rfl<;>rfl
  ·cases e
 ·rename_i nl X n G;have s:RP w (Own M h blk) (.sl nl X n G) u:=Q;have z:RP w (Own M h blk) (.sl true true 0 []) v:=R;split at e
  ·rename_i el l;rw[l]at E;have:=hZ E;subst this;cases z with
   | sl A c _ _ _ _ us h1 h2 h3 h4 h5 h6 h7 h8 =>
    obtain⟨rfl,rfl⟩:=(h3 rfl).1 rfl;cases s with
    | sl B c' _ _ _ _ aa g1 g2 g3 g4 g5 g6 g7 g8 =>
     have hr:=run_equal_slice_nil (P:=P) w r el B n c' K;refine⟨?_,fun p q g=>by cases g<;>rfl,fun g m =>?_⟩
     ·rw[hr];have hB:B.isNone=b:=by
       unfold adB at e;split at e
       ·rename_i Y;simp only[ajw]at e;subst e;cases B with
        | none=>have:=(g4 rfl).1;omega
        | some _=>rfl
       ·split at e
        ·rename_i H;simp only[ajw]at e;subst e;cases I:X with
         | true=>rw[((g3 H).1 I).1];rfl
         | false =>
          cases B with
          | none=>exact absurd rfl ((g3 H).2 I)
          | some _=>rfl
        ·cases e
      rw[<- hB]
     ·rcases m with rfl|rfl<;>rfl
  ·cases e
 ·rename_i G S;have s:RP w (Own M h blk) (.agg G) u:=Q;have z:RP w (Own M h blk) (.agg S) v:=R;split at e
  ·rename_i fs l;rw[l]at E;obtain⟨F,rfl,hF⟩:=jm E;split at e
   ·rename_i k;simp only[ajV]at k;obtain⟨q1,q2,U⟩:=(O r τ W).eqs k.1;rw[K]at U;simp only at U;cases s with
    | agg G us h1 h2 h3 =>
     cases z with
     | agg S vs g1 g2 g3 =>
      have o:∀f∈F.toList,f.name ≠ "_":=by
       intro f hf;have:=Array.all_eq_true_iff_forall_mem.1 U f (by simpa using hf);simpa using this
      have C:=AL (P:=P) (w:=w) O 9998 (M':=Own M h blk) (us:=us) (vs:=vs) F.toList 0 G S b o (by rw[hF];exact k.2) e
       (fun j x J=>by rw[akl];exact⟨h2 j x J,by have:=(ajO.1 J).1;omega⟩) (fun j x J=>by rw[akl];exact⟨g2 j x J,by have:=(ajO.1 J).1;omega⟩)
      refine⟨?_,fun p q g =>?_,fun g m =>?_⟩
      ·exact run_equalIn_struct 9998 K q1 C
      ·cases g<;>first|rfl|simp[eqGuard,program,Sem.run,q2]
      ·rcases m with rfl|rfl<;>rfl
   ·cases e
  ·cases e
 ·cases e
def SR (Q:jH P T) (g:Inv N M L w0 blk V t h a w) {x y:Operand} {l:BinOp} {f E:Nat} {d:D} (m:o.op=.binOp l f x y E) (b:Fo T f l (ev t x) (ev t y)=some d):e9 P o a w (bl N M L w0 V t h a e o.dst ⟨d,[]⟩):=by
 have u:=g.ev x;have z:=g.ev y;generalize ev t x=p at *;generalize ev t y=q at *;unfold Fo at b;split at b
 ·rename_i k i F j;have A:=oG u;have B:=oG z;have C:(eqGuard l f x y (.int k i) (.int F j)).run P w=.ok () w:=by cases l<;>rfl
  split at b
  ·rename_i G;obtain⟨v,n,r⟩:=TV (P:=P) (w:=w) (M:=Own M h blk) (ty:=f) (k':=F) G b;exact aN (by simp[execOp,m,A,B,C,n]) (bl.eG g (bT r))
  ·rename_i G;split at b
   ·rename_i S;subst S;obtain⟨v,n,r⟩:=abO (P:=P) (w:=w) (M:=Own M h blk) (ty:=f) (by simpa using G) b;exact aN (by simp[execOp,m,A,B,C,n]) (bl.eG g (bT r))
   ·cases b
 ·rename_i s U;have A:=Fe u;have B:=Fe z;have C:(eqGuard l f x y (.string s) (.string U)).run P w=.ok () w:=by cases l<;>rfl
  obtain⟨v,n,r⟩:=abQ (P:=P) (w:=w) (M:=Own M h blk) (ty:=f) b;exact aN (by simp[execOp,m,A,B,C,n]) (bl.eG g (bT r))
 ·split at b
  ·rename_i τ R;split at b
   ·split at b
    ·rename_i c H;simp only[ajw]at b;subst b;obtain⟨I,J,K⟩:=Wn (P:=P) Q g R u z H;have O:=K .eql (.inl rfl);exact aN (v := .bool c) (w':=w) (by simp[execOp,m,J,O,I]) (bl.eG g (bT (.bool _)))
    ·cases b
   ·split at b
    ·rename_i c H;simp only[ajw]at b;subst b;obtain⟨I,J,K⟩:=Wn (P:=P) Q g R u z H;have O:=K .neq (.inr rfl);exact aN (v := .bool !c) (w':=w) (by simp[execOp,m,J,O,I]) (bl.eG g (bT (.bool _)))
    ·cases b
   ·cases b
  ·cases b
end
def DQ (n:Int):∀(a:List Int) (l:List MapEntry) (us:Nat->Value) (i:Nat),l.length=a.length->(∀j k,a[j]? = some k->∃e:MapEntry,l[j]? = some e∧e.key=.int .i64 k∧e.val=us j) ->
  Instr.findNow (.int .i64) (.int .i64 n) l i=some (if a.contains n then some (i+a.idxOf n,us (a.idxOf n)) else none)
 | [],[],_,_,_,_=>by simp[Instr.findNow]
 | k::a,e::l,us,i,m,h=>by
  obtain⟨r,f,g,o⟩:=h 0 k rfl;simp only[List.getElem?_cons_zero,ajw]at f;subst f;have p:=DQ n a l (fun j=>us (j+1)) (i+1) (by simpa using m) (fun j k q=>by simpa using h (j+1) k (by simpa using q))
  by_cases b:k=n
  ·subst b;simp[Instr.findNow,g,Instr.sameNow,o,akf]
  ·have c:(n==k)=false:=by simp[Ne.symm b]
   have d:(k==n)=false:=by simp[b]
   simp only[Instr.findNow,g,Instr.sameNow,if_true,c,p,akg,akh,akf,d,cond_false];grind
def XT {c:List dY} (h:c.all (fun k=>I4 k==false)=true):c=(c.map (·.1)).map fun n=>(n,none):=by
 induction c with
 | nil=>rfl
 | cons k c d =>
  simp only[List.all_cons,ajV]at h;obtain⟨a,x⟩:=k;cases x with
  | none=>grind
  | some b=>simp[I4]at h
def A7 (n:Int) (l:List Int):(l.map fun m=>((m,none):dY)).contains (n,none)=l.contains n∧(l.map fun m=>((m,none):dY)).idxOf (n,none)=l.idxOf n:=by
 induction l with
 | nil=>simp_all
 | cons m l a =>
  grind
def Pt (n:Int) (a:List dY) (l:List MapEntry) (b:Nat->Value) (d:l.length=a.length) (f:a.all (fun k=>I4 k==false)=true) (h:∀j k,a[j]? = some k->∃e:MapEntry,l[j]? = some e∧e.key=nM k∧e.val=b j) :
  Instr.findNow (.int .i64) (.int .i64 n) l 0=some (if a.contains (n,none) then some (a.idxOf (n,none),b (a.idxOf (n,none))) else none):=by
 have c:=XT f;generalize a.map (·.1)=q at c;subst c;have:=DQ n q l b 0 (by simpa using d) (fun j k g=>by
  obtain⟨e,i,m,o⟩:=h j (k,none) (by simp[g]);exact⟨e,i,m,o⟩)
 rw[(A7 n q).1,(A7 n q).2];simpa using this
def Qp (z:D) (n:dY):∀(a:List dY) (b:List D),b.length=a.length->tU z a b n=if a.contains n then b.getD (a.idxOf n) z else z
 | [],_,_=>by simp[tU]
 | k::a,v::b,f=>by
  have g:=Qp z n a b (by simpa using f)
  by_cases c:k=n
  ·subst c;simp[tU,akf]
  ·have d:(n==k)=false:=by simp[Ne.symm c]
   have e:(k==n)=false:=by simp[c]
   simp[tU,c,g,akf,d,e,Ne.symm c]
section
variable {P:Program} {T:Nat->Option Ty} {N:Nat} {M:Nat->Prop} {L:kQ} {w0:World} {blk:Nat->Option (Nat×Nat)} {V:Nat->Nat->Prop} {t:Nat->D} {h:Nat->Option Row} {a:Act} {w:World} {e:Nat} {o:Oper}
def XS {κ:Ty} (c:yb T κ=some true):∃a b α β,κ.ds=.struct [(a,0),(b,1)]∧T a=some α∧T b=some β∧α.ds=.int .i64∧β.ds=.int .i64∧κ.eqok=true:=by
 unfold yb at c;grind
def XR {κ:Ty} (a:yb T κ=some false):κ.ds=.int .i64:=by
 unfold yb at a;grind
def D0 (i:jH P T) {f:Nat} {τ φ:Ty} {b:Bool} (j:T f=some τ) (a:GR T τ=some (b,φ)):∃g h κ,P.underlying f=some (.map g h)∧T g=some κ∧yb T κ=some b∧T h=some φ:=by
 unfold GR at a;split at a
 ·rename_i k el e;split at a
  ·rename_i κ o l m;split at a
   ·rename_i p n;simp only[ajw,Prod.mk.injEq]at a;obtain⟨rfl,rfl⟩:=a;obtain⟨d,q,c⟩:=under i j;rw[e]at c;refine⟨k,el,κ,?_,l,n,m⟩;cases d<;>simp[conv]at c;simp_all
   ·cases a
  ·cases a
 ·cases a
def Inv.key (j:Inv N M L w0 blk V t h a w) {i:Operand} {n:dY} (b:XQ (Am.ev t i)=some n):a.eval i=nM n:=by
 have e:=j.ev i;generalize Am.ev t i=d at *;unfold XQ at b;split at b
 ·simp only[ajw]at b;subst b;exact oG e
 ·simp only[ajw]at b;subst b;have c:RP w (Own M h blk) (.agg _) (a.eval i):=e;generalize a.eval i=u at c;cases c with
  | agg xs k l h2 h3 =>
   match k,l with
   | [m,o],_ =>
    have f:=h2 0 _ rfl;have g:=h2 1 _ rfl;simp only[aki,akj]at f g;cases f;cases g;rfl
 ·cases b
def AP (j:jH P T) {e:Nat} {κ:Ty} (k:T e=some κ) (m:yb T κ=some true):∃(F:Array Field) (f1 f2:Field) (α β:Ty),P.underlying e=some (.struct F)∧F.toList=[f1,f2]∧f1.offset=0∧f2.offset=1∧T f1.type=some α∧T f2.type=some β∧α.ds=.int .i64∧β.ds=.int .i64∧P.stoodInHeld e=false∧f1.name ≠ "_"∧f2.name ≠ "_":=by
 obtain⟨a,b,α,β,h,r,s,t,u,n⟩:=XS m;obtain⟨d,o,l⟩:=under j k;rw[h]at l;obtain⟨F,rfl,g⟩:=jm l;obtain⟨v,w,i⟩:=(j e κ k).eqs n;rw[o]at i;simp only at i;have c:F.toList.length=2:=by simpa using congrArg List.length g
 match p:F.toList,c with
 | [f1,f2],_ =>
  rw[p]at g;simp only[ajt,aj5,ajJ,Prod.mk.injEq,and_true]at g;obtain⟨⟨rfl,x⟩,⟨rfl,y⟩⟩:=g;have z:∀f∈F.toList,f.name ≠ "_":=by
   intro f q;have:=Array.all_eq_true_iff_forall_mem.1 i f (by simpa using q);simpa using this
  grind
def Yj (f:jH P T) {g:Nat} {κ:Ty} (h:T g=some κ) (i:yb T κ=some true) (a b c d:Int):(Op.equal g (.agg #[.int .i64 a,.int .i64 b]) (.agg #[.int .i64 c,.int .i64 d])).run P w=.ok (a==c&&b==d) w:=by
 obtain⟨F,f1,f2,α,β,k,l,m,n,o,p,q,r,s,t,u⟩:=AP f h i;refine run_equalIn_struct (us:=[.int .i64 a,.int .i64 b]) (vs:=[.int .i64 c,.int .i64 d]) 9998 k s ?_;refine AL (P:=P) (w:=w) f 9998 (M':=fun _=>False) F.toList 0 [.int .i64 a,.int .i64 b] [.int .i64 c,.int .i64 d] _ ?_ ?_ ?_ ?_ ?_
 ·simp_all
 ·rw[l];simp[nI,m,n,o,p,q,r,kindOk]
 ·simp[eqL,eqC]
 ·intro j x e
  match j,e with
  | 0,e=>simp only[List.getElem?_cons_zero,ajw]at e;subst e;exact⟨.int _ _,by simp⟩
  | 1,e=>simp only[List.getElem?_cons_succ,List.getElem?_cons_zero,ajw]at e;subst e;exact⟨.int _ _,by simp⟩
  | j+2,e=>simp at e
 ·intro j x e
  match j,e with
  | 0,e=>simp only[List.getElem?_cons_zero,ajw]at e;subst e;exact⟨.int _ _,by simp⟩
  | 1,e=>simp only[List.getElem?_cons_succ,List.getElem?_cons_zero,ajw]at e;subst e;exact⟨.int _ _,by simp⟩
  | j+2,e=>simp at e
def Dd {k:dY} (h:(I4 k==true)=true):∃a b,k=(a,some b):=by
 obtain⟨a,x⟩:=k;cases x with
 | none=>simp[I4]at h
 | some b=>simp_all
def yr (p:jH P T) {q:Nat} {κ:Ty} (r:T q=some κ) (s:yb T κ=some true) {n:dY} (t:(I4 n==true)=true):∀(ks:List dY) (l:List MapEntry) (us:Nat->Value) (i:Nat),l.length=ks.length->ks.all (fun k=>I4 k==true)=true->(∀j k,ks[j]? = some k->∃e:MapEntry,l[j]? = some e∧e.key=nM k∧e.val=us j) ->
  (Instr.findAsking q (nM n) l i).run P w=.ok (if ks.contains n then some (i+ks.idxOf n,us (ks.idxOf n)) else none) w
 | [],[],_,_,_,_,_=>by simp[Instr.findAsking]
 | k::ks,e::l,us,i,v,g,h=>by
  simp only[List.all_cons,ajV]at g;obtain⟨B,u,x,y⟩:=h 0 k rfl;simp only[List.getElem?_cons_zero,ajw]at u;subst u;have z:=yr p r s t ks l (fun j=>us (j+1)) (i+1) (by simpa using v) g.2 (fun j k A=>by simpa using h (j+1) k (by simpa using A));obtain⟨a,b,rfl⟩:=Dd t;obtain⟨c,d,rfl⟩:=Dd g.1;have m:=Yj (P:=P) (w:=w) p r s a b c d;have o:(((a,some b):dY)==(c,some d))=(a==c&&b==d):=by
   grind
  have f:(((c,some d):dY)==(a,some b))=(a==c&&b==d):=by
   grind
  simp only[Instr.findAsking,nM,ajR,x,m,Result.andThen_ok,akg,akf,o,f];cases C:(a==c&&b==d) with
  | true=>simp[y]
  | false =>
   simp only[ajT,if_false,akh,cond_false];simp only[nM]at z;grind
def Nd (e:jH P T) {h:Nat} {κ:Ty} (m:T h=some κ) (n:yb T κ=some true) (a b:Int) (em:Bool):(Instr.checkKey em 10000 h (.agg #[.int .i64 a,.int .i64 b])).run P w=.ok () w:=by
 obtain⟨F,f1,f2,α,β,o,p,q,r,i,j,k,l,u,v,x⟩:=AP e m n;obtain⟨d1,f,c⟩:=under e i;obtain⟨d2,g,d⟩:=under e j;rw[k]at c;rw[l]at d;have s:d1=.int .i64:=by cases d1<;>simp[conv]at c;subst c;rfl
 have t:d2=.int .i64:=by cases d2<;>simp[conv]at d;subst d;rfl
 subst s t;have y:(part f1.type #[Value.int .i64 a,.int .i64 b] f1.offset).run P w=.ok (.int .i64 a) w:=by
  simp[part,ajR,od (e _ _ i),k,Ds.uO,q,Result.andThen]
 have z:(part f2.type #[Value.int .i64 a,.int .i64 b] f2.offset).run P w=.ok (.int .i64 b) w:=by
  simp[part,ajR,od (e _ _ j),l,Ds.uO,r,Result.andThen]
 have A:=MapKept.run_checkKey (w:=w) f (show MapKept.IsKey (.int .i64) (.int .i64 a) from rfl) em 9998;have B:=MapKept.run_checkKey (w:=w) g (show MapKept.IsKey (.int .i64) (.int .i64 b) from rfl) em 9998;rw[Instr.checkKey];simp only[ajR,run_underlying o,Result.andThen_ok];rw[<- Array.forIn_toList,p];simp_all
def RD (g:jH P T) {p:Nat} {κ:Ty} {b:Bool} (i:T p=some κ) (m:yb T κ=some b) {n:dY} {a:List dY} (f:uI b n a=true) {l:List MapEntry} {us:Nat->Value} (q:l.length=a.length) (h:∀j k,a[j]? = some k->∃e:MapEntry,l[j]? = some e∧e.key=nM k∧e.val=us j) :
  (∀em,(Instr.checkKey em 10000 p (nM n)).run P w=.ok () w)∧(Instr.findKey p (nM n) l).run P w=.ok (if a.contains n then some (a.idxOf n,us (a.idxOf n)) else none) w∧(Instr.keyThatStays (nM n) (nM n)).run P w=.ok (nM n) w:=by
 simp only[uI,ajV]at f;cases b with
 | false =>
  obtain⟨n,x⟩:=n;cases x with
  | some y=>simp[I4]at f
  | none =>
   obtain⟨d,o,r⟩:=under g i;rw[XR m]at r;have s:d=.int .i64:=by cases d<;>simp[conv]at r;subst r;rfl
   subst s;have c:MapKept.IsKey (.int .i64) (.int .i64 n):=rfl;exact⟨fun em=>MapKept.run_checkKey (w:=w) o c em 9999,MapKept.run_findKey (w:=w) o (Pt n a l us q f.2 h),MapKept.run_keyThatStays (P:=P) (w:=w) c⟩
 | true =>
  obtain⟨F,f1,f2,α,β,o,_⟩:=AP g i m;have t:=yr (P:=P) (w:=w) g i m f.1 a l us 0 q f.2 h;obtain⟨x,y,rfl⟩:=Dd f.1;refine⟨fun em=>Nd g i m x y em,?_,?_⟩
  ·rw[akl]at t;unfold Instr.findKey;simp only[ajR,run_underlying o,Result.andThen_ok];cases l with
   | nil =>
    cases a with
    | nil=>simp[Instr.findNow]
    | cons _ _=>simp at q
   | cons e l =>
    have:Instr.findNow (.struct F) (nM (x,some y)) (e::l) 0=none:=by simp[Instr.findNow,Instr.sameNow]
    simp_all
  ·simp[Instr.keyThatStays,nM,Instr.sameBits]
def zeroV (o:jH P T) {e:Nat} {φ:Ty} {z:D} (p:T e=some φ) (a:lA φ (φ.zero.map qu)=some z) (q:(φ.zero.map qu).all bu=true) (w:World) (M:Nat->Prop):∃b,(zeroValue e).run P w=.ok b w∧RP w M z b:=by
 have k:=o e φ p;obtain⟨d,i,b,s,t,l,u,v,m,f⟩:=k.get;have g:=k.agg;rw[l]at g;simp only[Option.map_some,m,ajw]at g;refine⟨b,by simp[zeroValue,typeInfo,l,m],?_⟩;have n:=fun j x h=>tv φ.zero q (w:=w) (M:=M) j x h;unfold lA at a;rw[<- g]at a;cases b with
 | agg cs =>
  simp only[Tw,if_true,ajw]at a;subst a;simp only[Value.cells]at f;subst f;refine .agg _ φ.zero (by simp) (fun j x h =>?_) (fun x y =>?_)
  ·have:=(n j x h).2;simp_all
  grind
 | _ =>
  simp only[Tw,ajT,if_false]at a;split at a
  ·rename_i d r;simp only[ajw]at a;subst a;have c:=(n 0 d (by rw[r];rfl)).2;rw[<- f]at c;simpa [Value.cells] using c
  ·cases a
def Inv.VX (B:Inv N M L w0 blk V t h a w) {m:D} {u:Value} {l:List dY} {vs:List D} (i:mapOf h m=some (l,vs)) (s:RT w (Own M h blk) h blk V m u) :
  vs.length=l.length∧∃(c:Array MapEntry) (f:Nat->Value),c.size=l.length∧((u=.map none∧c = #[])∨∃b d,u=.map (some b)∧w.heap[b]? = some (.map c d))∧(∀j k,l[j]? = some k->∃e:MapEntry,c[j]? = some e∧e.key=nM k∧e.val=f j)∧∀j x,vs[j]? = some x->RP w (Own M h blk) x (f j):=by
 cases m with
 | mp x v =>
  simp only[mapOf]at i;obtain⟨g,r,y,C,z,A,P,rfl,E,c,d,F,G,_,f,H,n⟩:=B.Qt i s;exact⟨E,c,f,G,.inr ⟨g.1,d,rfl,F⟩,H,n⟩
 | mpc o p =>
  simp only[mapOf,ajw,Prod.mk.injEq]at i;obtain⟨rfl,rfl⟩:=i;have q:RP w (Own M h blk) (.mpc o p) u:=s;cases q with
  | mpc _ _ I f y C z A =>
   refine⟨y,?_⟩;cases I with
   | none =>
    simp_all
   | some b =>
    obtain⟨Q,R,c,d,J,K,O⟩:=z b rfl;exact⟨c,f,K,.inr ⟨b,d,rfl,J⟩,O,A⟩
 | _=>simp[mapOf]at i
def Mg (B:jH P T) (m:Inv N M L w0 blk V t h a w) {c d:Nat} {τ:Ty} {E:cr} (p:o.op=.makeMap c none) (q:o.dst=some d) (r:kn N V d e) (C:T c=some τ) (b:pN T c τ e d=some E):e9 P o a w (bl N M L w0 V t h a e o.dst E):=by
 unfold pN at b;split at b
 ·split at b
  ·cases b
  rename_i g;simp only[ajw]at b;subst b;have f:=(Below.refl w.heap.size w).alloc (ajo _) (.map #[] 0);have i:=m.Fg (w':=w.alloc (.map #[] 0)) (h1:=h) (old:=none) (d:=d) (e:=e) (r0:=⟨e,c,[.mpc [] []],false,true,true⟩) (go:=some (w.heap.size,0)) f.os f.tape f.output f.size (fun k u _=>Below.heap_alloc w _ k u) (fun y z=>by cases z) rfl r
   ⟨.inl (ajo _),by
    refine .inl ?_;exact⟨[],[],rfl,rfl,fun _=>⟨#[],0,heap_alloc_new w _,rfl,MapKept.stamped_empty 0,fun _=>undef,fun j k l=>by simp at l,fun j x l=>by simp at l⟩,fun A=>absurd A g⟩⟩ rfl rfl (fun _ _ _ j x s n h=>by grind)
  refine aN (v := .map (some w.heap.size)) (w':=w.alloc (.map #[] 0)) ?_ ⟨b8 blk d (some (w.heap.size,0)),?_,?_⟩
  ·simp[execOp,p,Instr.makeMap,Result.andThen]
  ·refine i.weaken fun x v D =>?_;grind
  ·exact⟨.inr ⟨q,rfl⟩,fun _ _ _=>⟨(w.heap.size,0),ay _ _ _,rfl⟩⟩
 ·cases b
def O6 (O:jH P T) (K:Inv N M L w0 blk V t h a w) {ty:Nat} {m i:Operand} {q:Bool} {τ:Ty} {E:cr} (Q:o.op=.lookup ty m i q) (hτ:T ty=some τ) (f:je T τ h (ev t m) (ev t i) q=some E):e9 P o a w (bl N M L w0 V t h a e o.dst E):=by
 unfold je at f;split at f
 ·rename_i b φ d vs n R S hi;split at f
  ·rename_i z hz;split at f
   ·rename_i r;obtain⟨U,W⟩:=r;simp only[ajw]at f;subst f;obtain⟨kt,et,κ,s,hκ,X,hφ⟩:=D0 O hτ R;obtain⟨A,g,B,Y,C,hk,hv⟩:=K.VX S (K.ev m);have u:a.eval i=nM n:=K.key hi;obtain⟨Z,D,aa⟩:=zeroV O hφ hz W w (Own M h blk);obtain⟨F,c,_⟩:=RD (P:=P) (w:=w) O hκ X U (l:=g.toList) (us:=B) (by simpa using Y) (fun j k p=>by simp_all);have v:=F g.isEmpty;have hl:=Qp (jP z) n d vs A;have G:(execOp a.eval o).run P w=.ok (.value (if q then .tuple #[if d.contains n then B (d.idxOf n) else Z,.bool (d.contains n)] else if d.contains n then B (d.idxOf n) else Z)) w:=by
     rcases C with⟨ab,rfl⟩|⟨b,ad,H,y⟩
     ·have ae:d=[]:=by grind
      subst ae;simp only[List.contains_nil,ajT,if_false]at c ⊢;cases q<;>simp[execOp,Q,Instr.lookup,run_underlying s,ab,u,v,c,D,Result.andThen]<;>simp_all
     ·have I:=MapKept.run_getObj_map (P:=P) y;cases hc:d.contains n with
      | true =>
       rw[hc]at c;simp only[if_true]at c;cases q<;>simp[execOp,Q,Instr.lookup,run_underlying s,H,u,I,v,c,Result.andThen]
      | false =>
       rw[hc]at c;simp only[ajT,if_false]at c;cases q<;>simp[execOp,Q,Instr.lookup,run_underlying s,H,u,I,v,c,D,Result.andThen]
    have J:RP w (Own M h blk) (tU (jP z) d vs n) (if d.contains n then B (d.idxOf n) else Z):=by
     rw[hl];split
     ·grind
     ·exact aa.jP
    refine aN G (bl.eG K ?_);cases q with
    | false=>exact bT J
    | true =>
     refine bT (.tup _ [_,_] rfl fun j x p =>?_)
     match j,p with
     | 0,p=>simp_all
     | 1,p=>simp only[List.getElem?_cons_succ,List.getElem?_cons_zero,ajw]at p;subst p;exact .bool _
     | j+2,p=>simp at p
   ·cases f
  ·cases f
 ·cases f
def Inv.zy (l:Inv N M L w0 blk V t h a w) {d e:D} {f:List Nat} {u:Value} {g:Nat->Prop} (c:zy h d=some (e,f)) (k:rK M h blk f g) (i:RT w (Own M h blk) h blk V d u):RP w g e u:=by
 have m:∀b,b<w.heap.size->¬Own M h blk b->b<w.heap.size∧¬g b∧w.heap[b]? = w.heap[b]?:=fun b j h2=>⟨j,fun n=>h2 (k.le b n),rfl⟩;have one:∀d,Am.zy h d=(match Am.eL h d with|some (e,f)=>some (canon e,f)|none=>none)->Am.zy h d=some (e,f)->RT w (Own M h blk) h blk V d u->RP w g e u:=by
  intro d o c i;rw[o]at c;split at c
  ·rename_i d1 p j;simp only[ajw,Prod.mk.injEq]at c;obtain⟨rfl,rfl⟩:=c;exact (l.eL j k i).1.canon
  ·cases c
 cases d with
 | agg xs =>
  simp only[Am.zy,ajw,Prod.mk.injEq]at c;obtain⟨rfl,rfl⟩:=c;exact (RP.keep m (show RP w (Own M h blk) (.agg xs) u from i)).jP
 | _=>exact one _ rfl c i
def abI (a:List dY) (b:List D) (n:dY) (d:D) (h:b.length=a.length):(ED a b n d).length=(AJ a n).length:=by
 unfold ED AJ;split<;>simp[h]
def xC (hT:jH P T) (O:Inv N M L w0 blk V t h a w) {ty:Nat} {m i x:Operand} {τ:Ty} {E:cr} (K:o.op=.mapUpdate ty m i x∨o.op=.insert ty m i x) (hτ:T ty=some τ) (G:eM T τ h (ev t m) (ev t i) (ev t x)=some E):e9 P o a w (bl N M L w0 V t h a e o.dst E):=by
 have hm:=O.ev m;unfold eM at G;split at G
 ·rename_i b φ y v n d fr ar au hi U;rw[au]at hm;split at G
  ·rename_i r hr;split at G
   ·rename_i q vs W;split at G
    ·rename_i Q;obtain⟨av,X,aw⟩:=Q;simp only[ajw]at G;subst G;obtain⟨kt,et,κ,Y,hκ,ax,hφ⟩:=D0 hT hτ ar;have Z:a.eval i=nM n:=O.key hi;have aa:=O.freeze fr;have aG:=O.zy U (O.gP fr) (O.ev x);obtain⟨g,r',h1,h2,h3,h4,h5,ab,_⟩:=O.Qt W hm;rw[hr]at h1;simp only[ajw]at h1;subst h1;have R:aS h (kr h fr) y=some r:=by rw[Ck aw];exact hr
     have B:=aa.rowIs R h5;unfold eU at B;rw[h3]at B;rcases B with B|⟨B,_⟩;rotate_left
     ·grind
     obtain⟨aH,aI,i1,ad,ay,_⟩:=B;have ae:r.ty<900000:=by
      obtain⟨r3,z1,_,_,_,z5⟩:=GM W;simp_all
     obtain⟨A,u,p,S,ag,us,hk,hv⟩:=ay ae;rw[h4]at i1;simp only[ajJ,D.mpc.injEq,and_true]at i1;obtain⟨rfl,rfl⟩:=i1;obtain⟨ah,C,az⟩:=RD (P:=P) (w:=w) hT hκ ax av (l:=A.toList) (us:=us) (by simpa using S) (fun j k hj=>by simp_all);have ai:=ah false;have aj:=MapKept.run_getObj_map (P:=P) p;have aJ:g.1<w.heap.size:=(akm.1 p).1;have key:∃(c:Array MapEntry) (f:Nat) (I:Nat->Value),(execOp a.eval o).run P w=.ok .skip { w with heap:=w.heap.setIfInBounds g.1 (.map c f) }∧c.size=(AJ q n).length∧MapKept.Stamped c f∧(∀j k,(AJ q n)[j]? = some k->∃e:MapEntry,c[j]? = some e∧e.key=nM k∧e.val=I j)∧∀j z,(ED q vs n d)[j]? = some z->RP w (Own M (aS h (kr h fr)) blk) z (I j):=by
      cases J:q.contains n with
      | true =>
       rw[J]at C;simp only[if_true]at C;have hj:q.idxOf n<q.length:=List.idxOf_lt_length_of_mem (by simpa using J);have aA:q[q.idxOf n]? = some n:=by simp_all
       obtain⟨e0,q1,q2,q3⟩:=hk _ _ aA;have aB:(((A[q.idxOf n]?).map (·.key)).getD (nM n))=nM n:=by rw[q1];exact q2
       refine⟨A.modify (q.idxOf n) (fun e=>{ e with key:=nM n,val:=a.eval x }),u,fun j=>if j=q.idxOf n then a.eval x else us j,?_,?_,?_,fun j k F =>?_,fun j z H =>?_⟩
       ·have hset:=fun ob=>MapKept.run_setObj_map (P:=P) ob p;rcases K with K|K<;>simp[execOp,K,Instr.mapUpdate,run_underlying Y,ab,Z,aj,ai,C,aB,az,hset,Result.andThen]
       ·simp only[Array.size_modify,AJ,J,if_true];exact S
       ·exact MapKept.stamped_modify ag _ _ (fun e _=>rfl) (fun e _ he=>by simp_all)
       ·simp only[AJ,J,if_true]at F;grind
       ·simp only[ED,J,if_true]at H;grind
      | false =>
       rw[J]at C;simp only[ajT,if_false]at C;refine⟨A.push { key:=nM n,val:=a.eval x,born:=u },u+1,fun j=>if j<q.length then us j else a.eval x,?_,?_,?_,fun j k F =>?_,fun j z H =>?_⟩
       ·have hset:=fun ob=>MapKept.run_setObj_map (P:=P) ob p;rcases K with K|K<;>simp[execOp,K,Instr.mapUpdate,run_underlying Y,ab,Z,aj,ai,C,hset,Result.andThen]
       ·simp only[Array.size_push,AJ,J,ajT,if_false,akn,List.length_cons,List.length_nil];omega
       ·refine MapKept.stamped_push ag fun x hx he =>?_;obtain⟨j,hj⟩:=ajH hx;have aC:j<q.length:=by grind
        obtain⟨e1,p1,p2,_⟩:=hk j _ (ajA aC);rw[akp,p1]at hj;cases hj;have:q[j]=n:=aa2 (p2.symm.trans he);grind
       ·simp only[AJ,J,ajT,if_false]at F
        by_cases aK:j<q.length
        ·grind
        ·rw[akd (by omega)]at F;have aD:j=q.length:=by
          grind
         subst aD;simp only[akq,List.getElem?_cons_zero,ajw]at F;subst F;exact⟨_,by rw[<- S];exact Array.getElem?_push_size,rfl,by simp⟩
       ·simp only[ED,J,ajT,if_false]at H;grind
     obtain⟨c,f,I,al,an,ao,aE,aF⟩:=key;have hset:=MapKept.heap_set (o' := .map c f) p;have aL:(w.heap.setIfInBounds g.1 (.map c f)).size=w.heap.size:=by simp
     have aq:=aa.lJ (hph:=fun _ _ _ j x s n h=>by grind) (r0:=⟨r.v,r.ty,[.mpc (AJ q n) (ED q vs n d)],false,true,true⟩) (w':={ w with heap:=w.heap.setIfInBounds g.1 (.map c f) }) R X rfl rfl rfl rfl (by simp_all)
      (fun b _ hb=>hset.2 b (hb g h5)) (by
       rw[h5];refine⟨by simp[World.shape?,hset.1,p],?_⟩;refine .inl ?_;refine⟨_,_,rfl,abI q vs n d ad,fun _=>⟨c,f,hset.1,an,ao,I,aE,fun j z H=>(aF j z H).keep fun b q1 q2=>⟨by simp_all,q2,hset.2 b (fun e=>q2 (.inr ⟨y,r,g,R,X,h5,e.symm⟩))⟩⟩,fun hq=>absurd hq (Nat.not_le.2 ae)⟩) (fun hh=>by cases hh)
     refine .inr (.inl ⟨_,al,blk,?_,trivial⟩);rw[iF];exact aq.weaken fun _ _ h =>.inl h
    ·cases G
   ·cases G
  ·cases G
 ·cases G
end
section
variable {P:Program} {T:Nat->Option Ty} {N:Nat} {M:Nat->Prop} {L:kQ} {w0:World} {blk:Nat->Option (Nat×Nat)} {V:Nat->Nat->Prop} {t:Nat->D} {h:Nat->Option Row} {a:Act} {w:World} {e:Nat} {o:Oper} {Γ:Env}
def nV {α:Type} {c:Array α} {l:List α} (h:c.toList=l):c=l.toArray:=by rw[<- h]
def VY {β:Type} {f:Operand->β} {l:List Operand} {p q:β} (h:l.map f=[p,q]):∃s x,l=[s,x]∧f s=p∧f x=q:=by
 match l,h with
 | [s,x],h=>simp only[ajt,aj5,ajJ,and_true]at h;exact⟨s,x,rfl,h.1,h.2⟩
def adu {β:Type} {f:Operand->β} {l:List Operand} {p:β} (h:l.map f=[p]):∃s,l=[s]∧f s=p:=by
 match l,h with
 | [s],h=>simp only[ajt,aj5,ajJ,and_true]at h;exact⟨s,rfl,h⟩
def map_cons {β:Type} {f:Operand->β} {l:List Operand} {p:β} {r:List β} (h:l.map f=p::r):∃s a,l=s::a∧f s=p∧a.map f=r:=by
 match l,h with
 | s::a,h=>simp only[ajt,ajJ]at h;exact⟨s,a,rfl,h.1,h.2⟩
def Mc (hT:jH P T) (u:Inv N M L w0 blk V t h a w) {c:Call} {b:Builtin} {E:cr} (U:o.op=.call c) (W:c.callee=.builtin b) (hV:∀d,o.dst=some d->kn N V d e)
  (f:ez T h e o.dst b c.argTypes.toList (c.args.toList.map (ev t))=some E):e9 P o a w (bl N M L w0 V t h a e o.dst E):=by
 unfold ez at f;split at f
 ·rename_i ty ar x F g;obtain⟨s,O,rfl⟩:=adu g;have Q:=nV O;have X:=nV F;split at f
  ·rename_i ab;split at f
   ·rename_i τ n Y hn;have hp:=u.ev s;obtain⟨d,G,i⟩:=under hT Y;obtain⟨l1,l2⟩:=RT.aiH u hn ab hp;have B:∀v,(Builtin.len_ c.argTypes o.type #[a.eval s]).run P w=.ok v w->(execOp a.eval o).run P w=.ok (.value v) w:=by
     intro v Z;simp[execOp,U,resolve,W,Q,invoke,builtin,Z]
    have D:c.argTypes[0]? = some ty:=by rw[X];rfl
    split at f
    ·rename_i z C H;rw[H]at l1;obtain⟨I,J⟩:=l1 _ rfl;rw[C]at i;have:=uU i;subst this;simp only[ajw]at f;subst f;refine aN (B (.int .i64 n) ?_) (bl.eG u (bT (.int _ _)));simp[Builtin.len_,D,run_underlying G,I,goInt,J]
    ·rename_i el z1 z2 z3 z4 C H;obtain⟨A,k,I⟩:=l2 (by rw[H];intro s h;cases h);rw[C]at i;have:=hZ i;subst this;simp only[ajw]at f;subst f;refine aN (B (.int .i64 n) ?_) (bl.eG u (bT (.int _ _)));simp[Builtin.len_,D,run_underlying G,I,goInt]
    ·rename_i el z1 z2 z3 z4 z5 C H;obtain⟨A,k,I⟩:=l2 (by rw[H];intro s h;cases h);rw[C]at i;have:=hZ i;subst this;simp only[ajw]at f;subst f;refine aN (B (.int .i64 n) ?_) (bl.eG u (bT (.int _ _)));simp[Builtin.len_,D,run_underlying G,I,goInt]
    ·cases f
   ·rename_i τ Y hn;split at f
    ·rename_i k el ks au C ad;obtain⟨d,G,i⟩:=under hT Y;rw[C]at i;have ae:d=.map k el:=by
      cases d<;>simp[conv]at i;obtain⟨rfl,rfl⟩:=i;rfl
     subst ae;simp only[ajw]at f;subst f;obtain⟨ao,aq,us,J,aa,hk,hv⟩:=u.VX ad (u.ev s);have D:c.argTypes[0]? = some ty:=by rw[X];rfl
     refine aN (v := .int .i64 (ks.length:Nat)) (w':=w) ?_ (bl.eG u (bT (.int _ _)));rcases aa with⟨ag,rfl⟩|⟨b,ah,ai,R⟩
     ·have aj:ks.length=0:=by simpa using J.symm
      simp[execOp,U,resolve,W,Q,invoke,builtin,Builtin.len_,D,run_underlying G,ag,goInt,aj]
     ·have al:=MapKept.run_getObj_map (P:=P) R;simp[execOp,U,resolve,W,Q,invoke,builtin,Builtin.len_,D,run_underlying G,ai,al,goInt,J,Result.andThen]
    ·cases f
   ·cases f
  ·cases f
 ·rename_i ty av p q F g;obtain⟨s,x,O,rfl,rfl⟩:=VY g;split at f
  ·rename_i an;subst an;split at f
   ·rename_i τ d Y G;exact O5 hT u U W (nV O) (nV F) G (hV d G) Y f
   ·cases f
  ·cases f
 ·rename_i k x r g;obtain⟨s,l,O,h1,h2⟩:=map_cons g;split at f
  ·rename_i z H;simp only[ajw]at f;subst f;have I:a.eval s=.int k x:=by have:=u.ev s;rw[h1]at this;exact oG this
   have Z:=RE (P:=P) (w:=w) (M:=M) (blk:=blk) (V:=V) (h:=h) k r (l.map a.eval) x z H (by rw[<- h2];simp) (fun j d K=>by
    rw[<- h2,ajl]at K;cases S:l[j]? with
    | none=>simp[S]at K
    | some y =>
     simp only[S,Option.map_some,ajw]at K;subst K;have:(l.map a.eval).getD j undef=a.eval y:=by simp[List.getD,S]
     rw[this];exact u.ev y)
   refine aN (v := .int k z) (w':=w) ?_ (bl.eG u (bT (.int _ _)));have m:c.args.map a.eval=(Value.int k x::l.map a.eval).toArray:=by rw[nV O];simp[I]
   simp[execOp,U,resolve,W,m,invoke,builtin,Builtin.max_,Z]
  ·cases f
 ·rename_i k x r g;obtain⟨s,l,O,h1,h2⟩:=map_cons g;split at f
  ·rename_i z H;simp only[ajw]at f;subst f;have I:a.eval s=.int k x:=by have:=u.ev s;rw[h1]at this;exact oG this
   have Z:=RF (P:=P) (w:=w) (M:=M) (blk:=blk) (V:=V) (h:=h) k r (l.map a.eval) x z H (by rw[<- h2];simp) (fun j d K=>by
    rw[<- h2,ajl]at K;cases S:l[j]? with
    | none=>simp[S]at K
    | some y =>
     simp only[S,Option.map_some,ajw]at K;subst K;have:(l.map a.eval).getD j undef=a.eval y:=by simp[List.getD,S]
     rw[this];exact u.ev y)
   refine aN (v := .int k z) (w':=w) ?_ (bl.eG u (bT (.int _ _)));have m:c.args.map a.eval=(Value.int k x::l.map a.eval).toArray:=by rw[nV O];simp[I]
   simp[execOp,U,resolve,W,m,invoke,builtin,Builtin.min_,Z]
  ·cases f
 ·cases f
def Zq {h:Nat->Option Row} {d:D} {u:Value} {b:Nat->Prop} (a:tW d=true) (c:RT w b h blk V d u):RC w b h blk V d u:=by
 cases d with
 | buf _ _ _ _ _=>simp[tW]at a
 | clo _ _ _=>simp[tW]at a
 | und=>simp[tW]at a
 | skp=>simp[tW]at a
 | box1 _ _ _ _ _=>simp[tW]at a
 | _=>exact c
def Iy (d:Inv N M L w0 blk V t h a w) {f:Nat} {first caps:Array Operand} (i:o.op=.makeFunc (.func f) first caps) (g:(first.toList.map (ev t)++caps.toList.map (ev t)).all tW=true) :
  e9 P o a w (bl N M L w0 V t h a e o.dst ⟨.clo f first.size (first.toList.map (ev t)++caps.toList.map (ev t)),[]⟩):=by
 refine aN (v := .func (.func f) (first.map a.eval) (caps.map a.eval)) (w':=w) ?_ (bl.eG d ?_)
 ·simp[execOp,i,Instr.makeFunc]
 ·refine⟨first.toList.map a.eval++caps.toList.map a.eval,?_,by simp,fun j x b =>?_⟩
  ·rw[List.take_left' (by simp),List.drop_left' (by simp),<- aj8,<- aj8]
  rw[ajy]at g;have c:=g x (ajM b);rw[<- akG,ajl,ajm]at b;obtain⟨q,k,rfl⟩:=b;have:(first.toList.map a.eval++caps.toList.map a.eval).getD j undef=a.eval q:=by rw[<- akG];simp only[ajW,ajl,k];rfl
  rw[this];exact Zq c (d.ev q)
def XB (u:jH P T) (G:bV P Γ) (r:Inv N M L w0 blk V t h a w) (B:∀d,o.dst=some d->kn N V d e) (F:∀x v,V x v->x<N∨2*PK<=x) {E:cr} (g:tx T Γ e o (ev t) h=some E):e9 P o a w (bl N M L w0 V t h a e o.dst E):=by
 unfold tx at g;split at g
 ·rename_i x j;simp only[ajw]at g;subst g;exact JX r (.inl j)
 ·rename_i x j;exact aaf r j B g
 ·rename_i c x y j;split at g
  ·rename_i A;simp only[ajw]at g;subst g;exact JY (b:=true) r j A
  ·rename_i A;simp only[ajw]at g;subst g;exact JY (b:=false) r j A
  ·cases g
 ·rename_i z j;split at g
  ·rename_i τ d q s;split at g
   ·rename_i H;simp only[ajw]at g;subst g;exact SQ (hint:=Γ.hint) u r j s q (B d s) H
   ·cases g
  ·cases g
 ·rename_i z x j;split at g
  ·rename_i d Q R s A;split at g
   ·simp only[ajw]at g;subst g;exact aah r j s (B d s) A
   ·cases g
  ·cases g
 ·rename_i z p j;split at g
  ·rename_i τ q;exact ac3 u r j q g
  ·cases g
 ·rename_i z p x j;split at g
  ·rename_i τ q;exact aaq u r F j q g
  ·cases g
 ·rename_i x j;exact aan r j g
 ·rename_i z x i j;split at g
  ·rename_i τ q;exact FK u r j q g
  ·cases g
 ·rename_i z x i j;split at g
  ·rename_i τ q;exact SU u r j q g
  ·cases g
 ·rename_i z x i j;split at g
  ·rename_i τ q;exact FL u r j q g
  ·cases g
 ·rename_i z x i j;split at g
  ·rename_i τ q;exact SV u r j q g
  ·cases g
 ·rename_i z x S U W j;split at g
  ·rename_i τ q;exact SY u r j q g
  ·cases g
 ·rename_i z parts j;split at g
  ·rename_i τ q;exact aag u r j q g
  ·cases g
 ·rename_i z len parts j;split at g
  ·rename_i τ d q s;exact Eo u r j s (B d s) q g
  ·cases g
 ·rename_i z l c j;split at g
  ·rename_i τ d q s;exact Xw u r j s (B d s) q g
  ·cases g
 ·rename_i I z x y J j;split at g
  ·rename_i d s;simp only[ajw]at g;subst g;exact SR u r j s
  ·cases g
 ·rename_i I z x j;split at g
  ·rename_i d s;simp only[ajw]at g;subst g;exact Xz r j s
  ·cases g
 ·rename_i src K x j;split at g
  ·rename_i τ k n σ q O C;split at g
   ·rename_i X D;simp only[ajw]at g;subst g;exact Md u r j q O D C
   ·cases g
  ·cases g
 ·rename_i Y first caps j
  split at g
  ·split at g
   ·rename_i A;simp only[ajw]at g;subst g;exact Iy r j A
   ·cases g
  ·cases g
 ·rename_i z j;split at g
  ·rename_i τ d q s;exact Mg u r j s (B d s) q g
  ·cases g
 ·rename_i z m i Z j;split at g
  ·rename_i τ q;exact O6 u r j q g
  ·cases g
 ·rename_i z m i x j;split at g
  ·rename_i τ q;exact xC u r (.inr j) q g
  ·cases g
 ·rename_i z m i x j;split at g
  ·rename_i τ q;exact xC u r (.inl j) q g
  ·cases g
 ·rename_i x i j;split at g
  ·rename_i xs C;split at g
   ·rename_i d s;simp only[ajw]at g;subst g;exact Me r j C s
   ·cases g
  ·cases g
 ·rename_i c j;split at g
  ·rename_i f A;exact Xu G r j A B F g
  ·rename_i b A;exact Mc u r j A B g
  ·cases g
 ·cases g
end
section
variable {T:Nat->Option Ty} {h h':Nat->Option Row} {e:Nat} {o:Oper} {Γ:Env}
def dw {x v:Nat} (a:h x=h' x):live h x v=live h' x v:=by simp[live,a]
def lz {x v:Nat} (a:h x=h' x):qJ h x v=qJ h' x v:=by simp[qJ,a]
def qK {x v:Nat} (a:h x=h' x):mC h x v=mC h' x v:=by simp[mC,a]
def Qf {d:D} {x v:Nat} (a:h x=h' x):BD d h x v=BD d h' x v:=by unfold BD Ax;rw[dw a,a]
def oJ {d:D} (a:∀x∈nm d,h x=h' x):eL h d=eL h' d:=by
 cases d<;>try rfl
 rename_i x v s o n;simp only[eL];rw[dw (a x (by simp[nm,jM]))]
def Ix {d:D} (a:∀x∈nm d,h x=h' x):content h d=content h' d:=by
 cases d<;>try rfl
 rename_i x v s o n;simp only[content];rw[dw (a x (by simp[nm,jM]))]
def vO {d:D} (a:∀x∈nm d,h x=h' x):gL h d=gL h' d:=by
 cases d<;>first|rfl|(simp only[gL];rw[oJ a])
def xv {d:D} (a:∀x∈jM d,h x=h' x):bL h d=bL h' d:=by
 cases d<;>try rfl
 ·simp only[bL];rw[dw (a _ (by simp[jM]))]
 ·simp only[bL];rw[oJ (d := .buf _ _ _ _ _) a]
 ·simp only[bL];rw[oJ (d := .buf _ _ _ _ _) a]
 ·simp only[bL];rw[qK (a _ (by simp[jM]))]
 ·rename_i x v y;simp only[bL];rw[dw (a x (by simp[jM]))];have c:∀b,mC h y b=mC h' y b:=fun b=>qK (a y (by simp[jM]));simp only[c]
def wI:∀ {a:List D},(∀d∈a,∀x∈jM d,h x=h' x)->dZ h a=dZ h' a
 | [],_=>rfl
 | d::a,hx=>by
  simp only[dZ];rw[xv (hx d (by simp)),wI (fun c b=>hx c (by simp[b]))]
def xu (h:Nat->Option Row) {d:D} (c:∀f a b,d ≠ .clo f a b):cO h d=bL h d:=by cases d<;>first|rfl|simp_all
def V6 {d:D} (c:∀f a b,d ≠ .clo f a b):nm d=jM d:=by cases d<;>first|rfl|simp_all
def ZY (d:D):(∃f a b,d=.clo f a b)∨∀f a b,d ≠ .clo f a b:=by
 grind
def FA {d:D} (hx:∀x∈nm d,h x=h' x):cO h d=cO h' d:=by
 rcases ZY d with⟨f,c,e,rfl⟩|a
 ·simp only[cO];rw[wI (fun d a x b=>hx x (akH.2 ⟨d,a,b⟩))]
 ·rw[V6 a]at hx;rw[xu h a,xu h' a];exact xv hx
def kp:∀ {a:List D},(∀d∈a,∀x∈nm d,h x=h' x)->bS h a=bS h' a
 | [],_=>rfl
 | d::a,hx=>by
  simp only[bS];rw[FA (hx d (by simp)),kp (fun c b=>hx c (by simp[b]))]
def lX {fr:List Nat} (a:∀x∈fr,h x=h' x):kr h fr=kr h' fr:=by
 unfold kr;simp_all
def uT {d c:D} {b:List Nat} (a:eL h d=some (c,b)):∀x∈b,x∈nm d:=by
 cases d<;>simp only[eL,ajw,Prod.mk.injEq]at a<;>try (cases a;done)
 ·simp_all
 ·simp_all
 ·simp_all
 ·simp_all
 ·split at a
  ·split at a
   ·simp only[ajw,Prod.mk.injEq]at a;obtain⟨_,rfl⟩:=a;simp[nm,jM]
   ·cases a
  ·cases a
def uS {d : D} {c : List D} {b : List Nat} (a : gL h d = some (c, b)) : ∀ x ∈ b, x ∈ nm d := by
  cases d <;> simp only [gL] at a <;> first
    | (simp only [ajw, Prod.mk.injEq] at a; simp_all)
    | (split at a
       · rename_i e
         simp only [ajw, Prod.mk.injEq] at a;obtain ⟨_, rfl⟩ := a;exact uT e
       · cases a)
def Dy {d c:D} {b:List Nat} (a:bL h d=some (c,b)):∀x∈b,x∈jM d:=by
 have one:∀d,(∀f i e,d ≠ .clo f i e)->bL h d=(match eL h d with|some (c,b)=>some (canon c,b)|none=>none)->bL h d=some (c,b)->∀x∈b,x∈jM d:=by
  intro d j k a;rw[k]at a;split at a
  ·rename_i g;simp only[ajw,Prod.mk.injEq]at a;obtain⟨_,rfl⟩:=a;intro x l;have:=uT g x l;cases d<;>first|exact this|simp_all
  ·cases a
 cases d with
 | ptr x v o =>
  simp only[bL]at a;split at a
  ·split at a
   ·simp only[ajw,Prod.mk.injEq]at a;obtain⟨_,rfl⟩:=a;simp[jM]
   ·cases a
  ·cases a
 | agg e=>simp only[bL,ajw,Prod.mk.injEq]at a;simp_all
 | ip e=>simp only[bL,ajw,Prod.mk.injEq]at a;simp_all
 | fn f=>simp only[bL,ajw,Prod.mk.injEq]at a;simp_all
 | clo f i e=>simp[bL,eL]at a
 | box1 x v s o n =>
  simp only[bL]at a;split at a
  ·rename_i g;simp only[ajw,Prod.mk.injEq]at a;obtain⟨_,rfl⟩:=a;exact uT g
  ·cases a
 | mp x v =>
  simp only[bL]at a;split at a
  ·simp only[ajw,Prod.mk.injEq]at a;obtain⟨_,rfl⟩:=a;simp[jM]
  ·cases a
 | mpc ks vs=>simp only[bL,ajw,Prod.mk.injEq]at a;simp_all
 | pm x v y =>
  simp only[bL]at a;split at a
  ·split at a
   ·split at a
    ·split at a
     ·simp only[ajw,Prod.mk.injEq]at a;obtain⟨_,rfl⟩:=a;simp[jM]
     ·cases a
    ·cases a
   ·cases a
  ·cases a
 | _=>exact one _ (fun _ _ _ h=>by cases h) rfl a
def A5:∀ {f b:List D} {e:List Nat},dZ h f=some (b,e)->∀x∈e,x∈f.flatMap jM
 | [],b,e,a,x,c=>by
  simp only[dZ,ajw,Prod.mk.injEq]at a;simp_all
 | d::f,b,e,a,x,c=>by
  simp only[dZ]at a;split at a
  ·rename_i g;split at a
   ·rename_i i;simp only[ajw,Prod.mk.injEq]at a;obtain⟨_,rfl⟩:=a;rw[List.flatMap_cons];rcases akI.1 c with c|c
    ·exact ajB _ (Dy g x c)
    ·exact ajC _ (A5 i x c)
   ·cases a
  ·cases a
def OJ {d e:D} {b:List Nat} (a:cO h d=some (e,b)):∀x∈b,x∈nm d:=by
 rcases ZY d with⟨f,i,j,rfl⟩|c
 ·simp only[cO]at a;split at a
  ·rename_i g;simp only[ajw,Prod.mk.injEq]at a;obtain⟨_,rfl⟩:=a;exact A5 g
  ·cases a
 ·rw[V6 c];rw[xu h c]at a;exact Dy a
def jl:∀ {f b:List D} {e:List Nat},bS h f=some (b,e)->∀x∈e,∃d∈f,x∈nm d
 | [],b,e,a,x,c=>by
  simp only[bS,ajw,Prod.mk.injEq]at a;simp_all
 | d::f,b,e,a,x,c=>by
  simp only[bS]at a;split at a
  ·rename_i g;split at a
   ·rename_i i;simp only[ajw,Prod.mk.injEq]at a;obtain⟨_,rfl⟩:=a;rcases akI.1 c with c|c
    ·exact⟨d,by simp,OJ g x c⟩
    ·obtain⟨l,j,k⟩:=jl i x c;grind
   ·cases a
  ·cases a
def xO {a:Nat->Option (Nat×Nat)} : ∀ {parts:List (Nat×D)} {cells:List D},(∀p∈parts,∀x∈nm p.2,h x=h' x)->ka h a cells parts=ka h' a cells parts
 | [],_,_=>rfl
 | (i,d)::parts,cells,hx=>by
  simp only[ka];rw[vO (hx (i,d) (by simp))];have c:∀b,ka h a b parts=ka h' a b parts:=fun b=>xO (fun p e=>hx p (by simp[e]));simp only[c]
def xP {b:Nat->Option (Nat×Nat)} : ∀ {parts:List (Nat×D)} {cells c:List D} {f:List Nat},ka h b cells parts=some (c,f)->∀x∈f,∃p∈parts,x∈nm p.2
 | [],cells,c,f,a,x,e=>by
  simp only[ka,ajw,Prod.mk.injEq]at a;simp_all
 | (i,d)::parts,cells,c,f,a,x,e=>by
  simp only[ka]at a;split at a
  ·rename_i l g;split at a
   ·split at a
    ·rename_i j;simp only[ajw,Prod.mk.injEq]at a;obtain⟨_,rfl⟩:=a;rcases akI.1 e with e|e
     ·exact⟨(i,d),by simp,uS g x e⟩
     ·obtain⟨p,m,k⟩:=xP j x e;grind
    ·cases a
   ·cases a
  ·cases a
def jf {a:List Nat} {p:Nat×Option Row} (b:p∈kr h a):p.1∈a:=by
 unfold kr at b;grind
def IB {τ:Ty} {d:D} (a:∀x∈nm d,h x=h' x):fK τ h d=fK τ h' d:=by
 cases d<;>try rfl
 simp only[fK];rw[dw (a _ (by simp[nm,jM]))]
def ye {x v:Nat} (a:h x=h' x):u3 h x v=u3 h' x v:=by
 unfold u3;rw[a]
def Mk {τ:Ty} {x v y:Nat} (c:h x=h' x) (a:h y=h' y):Ac τ h x v y (u3 h x v)=Ac τ h' x v y (u3 h' x v):=by
 rw[ye c];cases u3 h' x v with
 | none=>rfl
 | some q =>
  obtain⟨r,d,s,n⟩:=q;simp only[Ac];rw[a,lX (fr:=[y]) (fun z b=>by simp only[ajI]at b;subst b;exact a)]
def Pf {τ:Ty} {d:D} (a:∀x∈nm d,h x=h' x):sM τ h d=sM τ h' d:=by
 have b:=IB (τ:=τ) a;cases d with
 | ptr x v o =>
  simp only[sM];rw[dw (a x (by simp[nm,jM]))];cases live h' x v with
  | none=>rfl
  | some r=>simp only[uq];rw[b]
 | pm x v y =>
  simp only[sM];rw[dw (a x (by simp[nm,jM])),Mk (a x (by simp[nm,jM])) (a y (by simp[nm,jM]))]
 | _=>exact b
def F3 {τ:Ty} {p d:D} (c:∀x∈nm p,h x=h' x) (hx:∀x∈nm d,h x=h' x):iK τ h p d=iK τ h' p d:=by
 cases p<;>try rfl
 simp only[iK];rw[dw (c _ (by simp[nm,jM])),vO hx];cases live h' _ _ with
 | none=>rfl
 | some r =>
  cases e:gL h' d with
  | none=>rfl
  | some q =>
   obtain⟨f,b⟩:=q;simp only;rw[lX (fr:=b) (fun x a=>hx x (uS e x a))]
def Mn {τ:Ty} {p d:D} (a:∀x∈nm p,h x=h' x) (b:∀x∈nm d,h x=h' x):iJ τ h p d=iJ τ h' p d:=by
 have c:=F3 (τ:=τ) a b;cases d with
 | box1 y e s f n =>
  cases p with
  | ptr x v o =>
   simp only[iJ];rw[dw (a _ (by simp[nm,jM]))]
  | pm x v k =>
   simp only[iJ];rw[dw (a x (by simp[nm,jM])),dw (b y (by simp[nm,jM]))]
  | _=>rfl
 | mp y' v' =>
  cases p with
  | pm x v y =>
   simp only[iJ];rw[dw (a x (by simp[nm,jM])),qK (a y (by simp[nm,jM]))]
  | _=>rfl
 | _=>exact c
def DZ {d:D} (a:∀x∈nm d,h x=h' x):mapOf h d=mapOf h' d:=by
 cases d<;>try rfl
 simp only[mapOf];rw[qK (a _ (by simp[nm,jM]))]
def Es {τ:Ty} {m i:D} {a:Bool} (b:∀x∈nm m,h x=h' x):je T τ h m i a=je T τ h' m i a:=by
 unfold je;rw[DZ b]
def Uq {d:D} (a:∀x∈nm d,h x=h' x):zy h d=zy h' d:=by
 cases d<;>first|rfl|(simp only[zy];rw[oJ a])
def W4 {d c : D} {b : List Nat} (a : zy h d = some (c, b)) : ∀ x ∈ b, x ∈ nm d := by
  cases d <;> simp only [zy] at a <;> first
    | (simp only [ajw, Prod.mk.injEq] at a; simp_all)
    | (split at a
       · rename_i e
         simp only [ajw, Prod.mk.injEq] at a;obtain ⟨_, rfl⟩ := a;exact uT e
       · cases a)
def sQ {τ:Ty} {m i d:D} (b:∀x∈nm m,h x=h' x) (hd:∀x∈nm d,h x=h' x):eM T τ h m i d=eM T τ h' m i d:=by
 unfold eM;rw[Uq hd];split
 ·rename_i _ _ y v n f g _ _ c;have a:=b y (by simp[nm,jM]);rw[a,qK a];rw[lX (fun z e=>hd z (W4 c z e))]
 ·rfl
def Mm {d:D} (a:∀x∈nm d,h x=h' x):pO h d=pO h' d:=by
 cases d<;>try rfl
 simp only[pO];rw[lz (a _ (by simp[nm,jM]))]
def F1 {τ:Ty} {i:Nat} {d:D} (a:∀x∈nm d,h x=h' x):gN T τ h i d=gN T τ h' i d:=by
 cases d<;>try rfl
 ·simp only[gN];rw[lz (a _ (by simp[nm,jM]))]
 ·simp only[gN];rw[ye (a _ (by simp[nm,jM]))]
def Ab {τ:Ty} {d i:D} (a:∀x∈nm d,h x=h' x):cU T τ h d i=cU T τ h' d i:=by
 cases d<;>cases i<;>try rfl
 ·simp only[cU];rw[dw (a _ (by simp[nm,jM]))]
 ·simp only[cU];rw[lz (a _ (by simp[nm,jM]))]
def F2 {τ:Ty} {d:D} {a b c:Option D} (e:∀x∈nm d,h x=h' x):iI T τ h d a b c=iI T τ h' d a b c:=by
 cases d<;>try rfl
 simp only[iI];rw[dw (e _ (by simp[nm,jM]))]
def FZ {τ:Ty} {parts:List (Nat×D)} (d:∀p∈parts,∀x∈nm p.2,h x=h' x):iH T τ h parts=iH T τ h' parts:=by
 unfold iH;have e:∀a cells,ka h a cells parts=ka h' a cells parts:=fun a cells=>xO d;split
 ·split
  ·rw[e];split
   ·rename_i f;rw[lX (fun x b=>by obtain⟨p,g,c⟩:=xP f x b;exact d p g x c)]
   ·rfl
  ·rfl
 ·rfl
def Mi {q:Nat->Bool} {τ:Ty} {a:Option Nat} {parts:List (Nat×D)} (b:∀p∈parts,∀x∈nm p.2,h x=h' x):sK q T τ h a parts=sK q T τ h' a parts:=by
 have c:=FZ (T:=T) (τ:=τ) b;unfold sK;split
 ·split
  ·exact c
  ·split
   ·rename_i x v s o n _;have e:alive h (.buf x v s o n)=alive h' (.buf x v s o n):=by
     simp only[alive];rw[lz (b (0,.buf x v s o n) (by simp) x (by simp[nm,jM]))]
    rw[e]
   ·rename_i x v s o n _;have e:alive h (.buf x v s o n)=alive h' (.buf x v s o n):=by
     simp only[alive];rw[lz (b (0,.box1 x v s o n) (by simp) x (by simp[nm,jM]))]
    rw[e]
   ·rw[c]
 ·exact c
def zl {τ:Ty} {d len:Nat} {parts:List (Nat×D)} (f:∀p∈parts,∀x∈nm p.2,h x=h' x):fc T τ h e d len parts=fc T τ h' e d len parts:=by
 unfold fc;have g:∀a cells,ka h a cells parts=ka h' a cells parts:=fun a cells=>xO f;split
 ·split
  ·split
   ·rw[g];split
    ·rename_i i;rw[lX (fun x b=>by obtain⟨p,j,c⟩:=xP i x b;exact f p j x c)]
    ·rfl
   ·rfl
  ·rfl
 ·rfl
def Ep {τ:Ty} {d:Nat} {s x:D} (a:∀y∈nm s,h y=h' y) (b:∀y∈nm x,h y=h' y):kH T τ h e d s x=kH T τ h' e d s x:=by
 unfold kH;rw[Ix b];cases s<;>try rfl
 simp only;rw[dw (a _ (by simp[nm,jM]))]
def N4 {d:D} (a:∀x∈nm d,h x=h' x):alive h d=alive h' d:=by
 cases d<;>try rfl
 all_goals
  simp only[alive];rw[lz (a _ (by simp[nm,jM]))]
def Cg {c:Option Nat} {b:Builtin} {f:List Nat} {a:List D} (g:∀d∈a,∀x∈nm d,h x=h' x):ez T h e c b f a=ez T h' e c b f a:=by
 unfold ez;split
 ·rw[N4 (g _ (by simp)),DZ (g _ (by simp))]
 ·split
  ·split
   ·rw[Ep (g _ (by simp)) (g _ (by simp))]
   ·rfl
  ·rfl
 ·rfl
 ·rfl
 ·rfl
def Dr {b:Option Nat} {g:Nat} {a:List D} (i:∀d∈a,∀x∈nm d,h x=h' x):xm Γ h e b g a=xm Γ h' e b g a:=by
 unfold xm;rw[kp i];split
 ·rename_i j;rw[lX (fun x c=>by obtain⟨d,k,f⟩:=jl j x c;exact i d k x f)]
 ·rfl
def xn {b:Option Nat} {g x v:Nat} {d0:D} {a:List D} (j:h x=h' x) (i:∀d∈a,∀x∈nm d,h x=h' x):sH Γ h e b g x v d0 a=sH Γ h' e b g x v d0 a:=by
 unfold sH;rw[Qf j,kp i];split
 ·split
  ·split
   ·rename_i k;rw[lX (fun x c=>by obtain⟨d,l,f⟩:=jl k x c;exact i d l x f)]
   ·rfl
  ·rfl
 ·rfl
def Ol {b:Option Nat} {p:Nat×Nat×Nat} {a:List D} (c:∀d∈a,∀x∈nm d,h x=h' x):wH h e b p a=wH h' e b p a:=by
 unfold wH;split
 ·rw[dw (c _ akJ _ (by simp[nm,jM])),dw (c _ (akK _ (akK _ akJ)) _ (by simp[nm,jM]))]
 ·rfl
def Og {p:Grow} {a:List D} (b:∀d∈a,∀x∈nm d,h x=h' x):zA h p a=zA h' p a:=by
 unfold zA;split
 ·rw[ye (b _ akJ _ (by simp[nm,jM])),b _ akJ _ (show _∈nm (D.pm _ _ _) by simp only[nm,jM];simp_all)]
 ·rfl
def IA {c:Option Nat} {f:D} {a:List D} (m:∀x∈nm f,h x=h' x) (hx:∀d∈a,∀x∈nm d,h x=h' x):jL Γ h e c f a=jL Γ h' e c f a:=by
 cases f<;>try rfl
 ·rename_i g;simp only[jL];split
  ·exact Ol hx
  split
  ·exact Og hx
  split
  ·split
   ·exact xn (hx _ akJ _ (by simp[nm,jM])) (fun d b=>hx d (akK _ b))
   ·exact xn (hx _ akJ _ (by simp[nm,jM])) (fun d b=>hx d (akK _ b))
   ·exact xn (hx _ akJ _ (by simp[nm,jM])) (fun d b=>hx d (akK _ b))
   ·rfl
  ·exact Dr hx
 ·rename_i g n i;simp only[jL];split
  ·rename_i j;rw[ajy]at j;have l:∀d∈i,∀x∈nm d,h x=h' x:=fun d b x k=>by
    have:=j d b;rw[V6 (fun f n p o=>by rw[o]at this;cases this)]at k;exact m x (akH.2 ⟨d,b,k⟩)
   refine Dr fun d b =>?_;grind
  ·rfl
def wL {b:Nat} {a:Option Nat} {x:D} (c:∀y∈nm x,h y=h' y):dE T b e a h x=dE T b e a h' x:=by
 unfold dE;split
 ·rw[dw (c _ (by simp[nm,jM])),lz (c _ (by simp[nm,jM]))]
 ·rfl
 ·rfl
def Mb {d:D} (c:∀x∈nm d,h x=h' x):sJ h d=sJ h' d:=by
 by_cases a:∀b,d ≠ .agg b
 ·rw[yR a,yR a];exact oJ c
 ·simp only[ne_eq,Classical.not_forall,Classical.not_not]at a;obtain⟨b,rfl⟩:=a;rfl
def JG {d f:D} {c:List Nat} (a:sJ h d=some (f,c)):∀x∈c,x∈nm d:=by
 by_cases b:∀e,d ≠ .agg e
 ·rw[yR b]at a;exact uT a
 ·simp only[ne_eq,Classical.not_forall,Classical.not_not]at b;obtain⟨e,rfl⟩:=b;simp only[sJ,ajw,Prod.mk.injEq]at a;simp_all
def Mh {q:Nat->Bool} {b:Nat} {a:Option Nat} {x:D} (hx:∀y∈nm x,h y=h' y):uo T q b e a h x=uo T q b e a h' x:=by
 unfold uo oL;rw[Mb hx];split
 ·rw[wL hx];split
  ·rfl
  ·split
   ·rename_i c;rw[lX fun y d=>hx y (JG c y d)]
   ·rfl
 ·exact wL hx
def XA {j : Operand -> D} (r : ∀ x ∈ iO o j, h x = h' x) : tx T Γ e o j h = tx T Γ e o j h' := by
  have key : ∀ y, y ∈ o.op.operands.toList -> (∀ a b c, o.op ≠ .pick a b c) -> (∀ a, o.op ≠ .move a) -> (∀ a b c, o.op ≠ .makeFunc a b c) -> ∀ x ∈ nm (j y), h x = h' x := by
    intro y s B C E x t;apply r x;unfold iO;grind
  unfold tx;cases u : o.op <;> (try simp only) <;> rw [u] at key <;> try rfl
  case assign x => exact Mh (key x (by simp [Op.operands]) (by simp) (by simp) (by simp))
  case box ty x => rw [vO (key x (by simp [Op.operands]) (by simp) (by simp) (by simp))]
                   split
                   · rename_i k
                     rw [lX (fun z v => key x (by simp [Op.operands]) (by simp) (by simp) (by simp) z (uS k z v))]
                   · rfl
  case load ty x => simp only [Pf (key x (by simp [Op.operands]) (by simp) (by simp) (by simp))]
  case store ty x y => simp only [Mn (key x (by simp [Op.operands]) (by simp) (by simp) (by simp)) (key y (by simp [Op.operands]) (by simp) (by simp) (by simp))]
  case nilCheck x => exact Mm (key x (by simp [Op.operands]) (by simp) (by simp) (by simp))
  case fieldAddr ty x i => simp only [F1 (key x (by simp [Op.operands]) (by simp) (by simp) (by simp))]
  case makeMap ty l => cases l <;> rfl
  case lookup ty m i ok => simp only [Es (key m (by simp [Op.operands]) (by simp) (by simp) (by simp))]
  case mapUpdate ty m i x => simp only [sQ (key m (by simp [Op.operands]) (by simp) (by simp) (by simp)) (key x (by simp [Op.operands]) (by simp) (by simp) (by simp))]
  case insert ty m i x => simp only [sQ (key m (by simp [Op.operands]) (by simp) (by simp) (by simp)) (key x (by simp [Op.operands]) (by simp) (by simp) (by simp))]
  case indexAddr ty x i => simp only [Ab (key x (by simp [Op.operands]) (by simp) (by simp) (by simp))]
  case slice ty x F G H => simp only [F2 (key x (by simp [Op.operands]) (by simp) (by simp) (by simp))]
  case build ty parts =>
    have : ∀ p ∈ parts.toList.map (fun p => (p.1, j p.2)), ∀ x ∈ nm p.2, h x = h' x := by
      intro p n x g;obtain ⟨q, w, rfl⟩ := ajn.1 n;exact key q.2 (by simp only [Op.operands, List.toList_toArray]; grind) (by simp) (by simp) (by simp) x g
    simp only [Mi this]
  case buildSlice ty len parts =>
    have : ∀ p ∈ parts.toList.map (fun p => (p.1, j p.2)), ∀ x ∈ nm p.2, h x = h' x := by
      intro p n x g;obtain ⟨q, w, rfl⟩ := ajn.1 n;exact key q.2 (by simp only [Op.operands, List.toList_toArray]; grind) (by simp) (by simp) (by simp) x g
    simp only [zl this]
  case call c =>
    have : ∀ d ∈ c.args.toList.map j, ∀ x ∈ nm d, h x = h' x := by
      intro d A x g;obtain ⟨y, s, rfl⟩ := ajn.1 A;exact key y (by simp only [Op.operands, Call.operands, akx]; simp_all) (by simp) (by simp) (by simp) x g
    cases k : c.callee with
    | value f => exact IA (key f (by simp [Op.operands, Call.operands, k]) (by simp) (by simp) (by simp)) this
    | builtin b => exact Cg this
    | invoke _ _ => rfl
def afk {j g:Operand->D} (hx:∀y∈o.op.operands.toList,j y=g y):tx T Γ e o j h=tx T Γ e o g h∧iO o j=iO o g:=by
 refine⟨?_,?_⟩
 ·unfold tx;cases v:o.op<;>(try simp only)<;>rw[v]at hx<;>try rfl
  case move x=>rw[hx x (by simp[Op.operands])]
  case assign x=>rw[hx x (by simp[Op.operands])]
  case pick a b c=>rw[hx a (by simp[Op.operands]),hx b (by simp[Op.operands]),hx c (by simp[Op.operands])]
  case box ty x=>rw[hx x (by simp[Op.operands])]
  case load ty x=>rw[hx x (by simp[Op.operands])]
  case store ty x y=>rw[hx x (by simp[Op.operands]),hx y (by simp[Op.operands])]
  case nilCheck x=>rw[hx x (by simp[Op.operands])]
  case fieldAddr ty x i=>rw[hx x (by simp[Op.operands])]
  case field ty x i=>rw[hx x (by simp[Op.operands])]
  case makeMap ty n=>cases n<;>rfl
  case lookup ty m i ok=>rw[hx m (by simp[Op.operands]),hx i (by simp[Op.operands])]
  case mapUpdate ty m i x=>rw[hx m (by simp[Op.operands]),hx i (by simp[Op.operands]),hx x (by simp[Op.operands])]
  case insert ty m i x=>rw[hx m (by simp[Op.operands]),hx i (by simp[Op.operands]),hx x (by simp[Op.operands])]
  case indexAddr ty x i=>rw[hx x (by simp[Op.operands]),hx i (by simp[Op.operands])]
  case index ty x i=>rw[hx x (by simp[Op.operands]),hx i (by simp[Op.operands])]
  case slice ty x q r t =>
   rw[hx x (by simp[Op.operands])];have w:q.map j=q.map g:=by cases q with|none=>rfl|some y=>simp only[Option.map_some];rw[hx y (by simp[Op.operands])]
   have z:r.map j=r.map g:=by cases r with|none=>rfl|some y=>simp only[Option.map_some];rw[hx y (by simp[Op.operands])]
   have A:t.map j=t.map g:=by cases t with|none=>rfl|some y=>simp only[Option.map_some];rw[hx y (by simp[Op.operands])]
   rw[w,z,A]
  case build ty parts =>
   have:parts.toList.map (fun p=>(p.1,j p.2))=parts.toList.map (fun p=>(p.1,g p.2)):=akM fun p B=>by rw[hx p.2 (by simp only[Op.operands,List.toList_toArray];grind)]
   rw[this]
  case buildSlice ty len parts =>
   have:parts.toList.map (fun p=>(p.1,j p.2))=parts.toList.map (fun p=>(p.1,g p.2)):=akM fun p B=>by rw[hx p.2 (by simp only[Op.operands,List.toList_toArray];grind)]
   rw[this]
  case makeSlice ty l c=>rw[hx l (by simp[Op.operands]),hx c (by simp[Op.operands])]
  case binOp C ty x y ty'=>rw[hx x (by simp[Op.operands]),hx y (by simp[Op.operands])]
  case unOp C ty x=>rw[hx x (by simp[Op.operands])]
  case convert s d x=>rw[hx x (by simp[Op.operands])]
  case makeFunc fn first caps =>
   have:caps.toList.map j=caps.toList.map g:=akM fun y u=>hx y (by simp only[Op.operands,akx];simp_all);have k:first.toList.map j=first.toList.map g:=akM fun y u=>hx y (by simp only[Op.operands,akx];simp_all)
   rw[this,k]
  case extract x i=>rw[hx x (by simp[Op.operands])]
  case call c =>
   have:c.args.toList.map j=c.args.toList.map g:=akM fun y u=>hx y (by simp only[Op.operands,Call.operands,akx];simp_all);cases E:c.callee with
   | value f=>simp only;rw[this,hx f (by simp[Op.operands,Call.operands,E])]
   | builtin b=>grind
   | invoke _ _=>rfl
 ·have F:o.op.operands.toList.flatMap (fun y=>nm (j y))=o.op.operands.toList.flatMap (fun y=>nm (g y)):=by
   rw[List.flatMap_def,List.flatMap_def];congr 1;simp_all
  unfold iO;grind
end
section
variable {T:Nat->Option Ty} {h h':Nat->Option Row} {e:Nat} {o:Oper} {Γ:Env}
def Er {τ:Ty} {d:Nat} {s x:D} {E:cr} (a:kH T τ h e d s x=some E):∀p∈E.hw,p.1=d∨p.1∈nm s:=by
 unfold kH at a;split at a
 ·split at a
  ·split at a
   ·split at a
    ·grind
    ·split at a
     ·split at a
      ·simp only[ajw]at a;subst a;intro p b;simp only[aju,akN,or_false]at b;rcases b with rfl|rfl
       ·exact .inr (by simp[nm,jM])
       ·exact .inl rfl
      ·cases a
     ·cases a
    ·cases a
   ·cases a
  ·cases a
 ·cases a
def Dt {f:Option Nat} {g:Nat} {c:List D} {E:cr} (a:xm Γ h e f g c=some E):∀p∈E.hw,f=some p.1∨∃d∈c,p.1∈nm d:=by
 unfold xm at a;split at a
 ·rename_i i;split at a
  ·simp only[ajw]at a;subst a;intro p b;simp only at b;split at b
   ·simp at b
   ·exact .inr (jl i _ (jf b))
  ·split at a
   ·split at a
    ·simp only[ajw]at a;subst a;intro p b;simp only[akI,ajI]at b;rcases b with b|rfl
     ·split at b
      ·simp at b
      ·exact .inr (jl i _ (jf b))
     ·exact .inl rfl
    ·cases a
   ·cases a
  ·cases a
 ·cases a
def Oh {p:Grow} {b:List D} {E:cr} (a:zA h p b=some E):∀q∈E.hw,∃d∈b,q.1∈nm d:=by
 unfold zA at a;split at a<;>try (cases a;done)
 split at a<;>try (cases a;done)
 split at a<;>try (cases a;done)
 rename_i c;obtain⟨rfl,_⟩:=c;split at a<;>try (cases a;done)
 simp only[ajw]at a;subst a;intro q e;simp only[aju,akN,or_false]at e;rcases e with rfl|rfl
 ·exact⟨_,akJ,by simp[nm,jM]⟩
 ·exact⟨_,akJ,by simp[nm,jM]⟩
def Om {c:Option Nat} {p:Nat×Nat×Nat} {b:List D} {E:cr} (a:wH h e c p b=some E):∀q∈E.hw,c=some q.1∨∃d∈b,q.1∈nm d:=by
 unfold wH at a;split at a<;>try (cases a;done)
 split at a<;>try (cases a;done)
 split at a<;>try (cases a;done)
 simp only[ajw]at a;subst a;intro q f;simp only[aju,akN,or_false]at f;rcases f with rfl|rfl|rfl
 ·exact .inr ⟨_,akK _ (akK _ akJ),by simp[nm,jM]⟩
 ·exact .inr ⟨_,akJ,by simp[nm,jM]⟩
 ·exact .inl rfl
def xo {i:Option Nat} {g x v:Nat} {d0:D} {c:List D} {E:cr} (a:sH Γ h e i g x v d0 c=some E):∀p∈E.hw,i=some p.1∨p.1=x∨∃d∈c,p.1∈nm d:=by
 unfold sH at a;split at a<;>try (cases a;done)
 split at a<;>try (cases a;done)
 split at a<;>try (cases a;done)
 rename_i f;split at a<;>try (cases a;done)
 split at a<;>try (cases a;done)
 ·simp only[ajw]at a;subst a;intro p b;simp only[akI,ajI]at b;rcases b with b|rfl
  ·exact .inr (.inr (jl f _ (jf b)))
  omega
 ·simp only[ajw]at a;subst a;intro p b;simp only[akI,ajI]at b;rcases b with b|rfl
  ·exact .inr (.inr (jl f _ (jf b)))
  omega
 ·split at a<;>try (cases a;done)
  split at a<;>try (cases a;done)
  simp only[ajw]at a;subst a;intro p b;simp only[akI,aju,akN,or_false]at b;rcases b with b|rfl|rfl
  ·exact .inr (.inr (jl f _ (jf b)))
  ·omega
  ·exact .inl rfl
def S6 {τ:Ty} {d:D} {E:cr} (a:fK τ h d=some E):E.hw=[]:=by
 cases d<;>simp only[fK]at a<;>try (cases a;done)
 all_goals grind
def aaw {τ:Ty} {d:D} {E:cr} (a:sM τ h d=some E):∀p∈E.hw,p.1∈nm d:=by
 have none_:E.hw=[]->∀p∈E.hw,p.1∈nm d:=fun c p e=>by simp_all
 have b:fK τ h d=some E->∀p∈E.hw,p.1∈nm d:=fun c=>none_ (S6 c);cases d with
 | ptr x v o =>
  simp only[sM]at a;cases b:live h x v with
  | none=>rw[b]at a;cases a
  | some r =>
   rw[b]at a;simp only[uq]at a;grind
 | pm x v y =>
  simp only[sM]at a;split at a
  ·grind
  ·unfold Ac at a;split at a
   ·split at a
    ·split at a
     ·simp only[ajw]at a;subst a;intro p e;have:=jf e;simp only[ajI]at this;rw[this];simp[nm,jM]
     ·cases a
    ·cases a
   ·cases a
 | _=>exact b a
def F4 {τ:Ty} {q d:D} {E:cr} (a:iK τ h q d=some E):∀p∈E.hw,p.1∈nm d∨p.1∈nm q:=by
 cases q<;>simp only[iK]at a<;>try (cases a;done)
 split at a
 ·split at a
  ·rename_i c;split at a
   ·simp only[ajw]at a;subst a;intro p b;rcases akI.1 b with b|b
    ·exact .inl (uS c _ (jf b))
    ·simp only[ajI]at b;subst b;exact .inr (by simp[nm,jM])
   ·cases a
  ·cases a
 ·cases a
def Mo {τ:Ty} {q d:D} {E:cr} (a:iJ τ h q d=some E):∀p∈E.hw,p.1∈nm d∨p.1∈nm q:=by
 have c:iK τ h q d=some E->∀p∈E.hw,p.1∈nm d∨p.1∈nm q:=F4;cases d with
 | box1 y e s f n =>
  cases q with
  | ptr x v o =>
   simp only[iJ]at a;split at a
   ·split at a
    ·simp only[ajw]at a;subst a;intro p b;simp only[ajI]at b;subst b;exact .inr (by simp[nm,jM])
    ·cases a
   ·cases a
  | pm x v k =>
   simp only[iJ]at a;split at a
   ·split at a
    ·simp only[ajw]at a;subst a;intro p b;simp only[aju,akN,or_false]at b;rcases b with rfl|rfl|rfl
     ·exact .inl (by simp[nm,jM])
     ·exact .inr (by simp[nm,jM])
     ·exact .inr (by simp[nm,jM])
    ·cases a
   ·cases a
  | _=>simp[iJ]at a
 | mp y' v' =>
  cases q with
  | pm x v y =>
   simp only[iJ]at a;split at a
   ·split at a
    ·simp only[ajw]at a;subst a;intro p b;simp only[ajI]at b;subst b;exact .inr (by simp[nm,jM])
    ·cases a
   ·cases a
  | _=>simp[iJ]at a
 | _=>exact c a
def Ml {τ:Ty} {m i:D} {a:Bool} {E:cr} (b:je T τ h m i a=some E):E.hw=[]:=by
 unfold je at b;grind
def sR {τ:Ty} {m i d:D} {E:cr} (a:eM T τ h m i d=some E):∀p∈E.hw,p.1∈nm d∨p.1∈nm m:=by
 unfold eM at a;split at a
 ·rename_i c;split at a
  ·split at a
   ·split at a
    ·simp only[ajw]at a;subst a;intro p b;rcases akI.1 b with b|b
     ·exact .inl (W4 c _ (jf b))
     ·simp only[ajI]at b;subst b;exact .inr (by simp[nm,jM])
    ·cases a
   ·cases a
  ·cases a
 ·cases a
def sL {τ:Ty} {parts:List (Nat×D)} {E:cr} (a:iH T τ h parts=some E):∀p∈E.hw,∃q∈parts,p.1∈nm q.2:=by
 unfold iH at a;split at a
 ·split at a
  ·split at a
   ·rename_i b;simp only[ajw]at a;subst a;intro p c;exact xP b _ (jf c)
   ·cases a
  ·cases a
 ·cases a
def Mj {q:Nat->Bool} {τ:Ty} {b:Option Nat} {parts:List (Nat×D)} {E:cr} (a:sK q T τ h b parts=some E):∀p∈E.hw,∃q∈parts,p.1∈nm q.2:=by
 unfold sK at a;split at a
 ·split at a
  ·exact sL a
  ·split at a
   ·grind
   ·grind
   ·unfold cE at a;split at a
    ·rename_i c;simp only[ajw]at a;subst a;have d:=sL c;exact d
    ·cases a
 ·exact sL a
def J1 {w:Operand->D} {E:cr} (j:tx T Γ e o w h=some E):∀p∈E.hw,p.1∈iO o w:=by
 have key:∀y,y∈o.op.operands.toList->(∀a b c,o.op ≠ .pick a b c)->(∀a,o.op ≠ .move a)->(∀a b c,o.op ≠ .makeFunc a b c)->∀x∈nm (w y),x∈iO o w:=by
  intro y I h1 P Q x R;unfold iO;grind
 have keyd:∀d,o.dst=some d->(∀a b c,o.op ≠ .pick a b c)->(∀a,o.op ≠ .move a)->(∀a b c,o.op ≠ .makeFunc a b c)->d∈iO o w:=by
  intro d u h1 P Q;unfold iO;simp_all
 have A:∀(d:D),(some ⟨d,[]⟩:Option cr)=some E->∀p∈E.hw,p.1∈iO o w:=by
  grind
 unfold tx at j;cases S:o.op<;>rw[S]at j key keyd<;>simp only at j<;>try (cases j;done)
 case move x=>exact A _ j
 case assign x =>
  have N:dE T o.type e o.dst h (w x)=some E->∀p∈E.hw,p.1∈iO o w:=by
   intro j;unfold dE at j;split at j
   ·rename_i y v s c n t;split at j
    ·rename_i u _;split at j
     ·exact A _ j
     ·simp only[ajw]at j;subst j;intro p k;simp only[aju,akN,or_false]at k;rcases k with rfl|rfl
      ·exact key x (by simp[Op.operands]) (by simp) (by simp) (by simp) _ (by rw[t];simp[nm,jM])
      simp_all
    grind
   ·split at j
    ·rename_i u _;split at j
     ·split at j
      ·simp only[ajw]at j;subst j;simp_all
      ·cases j
     ·cases j
    ·cases j
   ·exact A _ j
  unfold uo at j;split at j
  ·rename_i d u;split at j
   ·grind
   ·unfold oL at j;split at j
    ·rename_i Y Z C;simp only[ajw]at j;subst j;intro p k;exact key x (by simp[Op.operands]) (by simp) (by simp) (by simp) _ (JG C _ (jf k))
    ·cases j
  grind
 case pick a b c =>
  grind
 case alloc ty =>
  split at j
  ·rename_i u;split at j
   ·simp only[ajw]at j;subst j;simp_all
   ·cases j
  ·cases j
 case box ty x =>
  split at j
  ·rename_i u C;split at j
   ·simp only[ajw]at j;subst j;intro p k;rcases akI.1 k with k|k
    ·exact key x (by simp[Op.operands]) (by simp) (by simp) (by simp) _ (uS C _ (jf k))
    simp_all
   ·cases j
  ·cases j
 case load ty x =>
  split at j
  ·intro p k;exact key x (by simp[Op.operands]) (by simp) (by simp) (by simp) _ (aaw j p k)
  ·cases j
 case store ty x y =>
  split at j
  ·intro p k;rcases Mo j p k with r|r
   ·exact key y (by simp[Op.operands]) (by simp) (by simp) (by simp) _ r
   ·exact key x (by simp[Op.operands]) (by simp) (by simp) (by simp) _ r
  ·cases j
 case makeMap ty J =>
  cases J with
  | some _=>cases j
  | none =>
   simp only at j;split at j
   ·rename_i u;unfold pN at j;split at j
    ·split at j
     ·cases j
     simp only[ajw]at j;subst j;simp_all
    ·cases j
   ·cases j
 case lookup ty m i ok =>
  split at j
  ·intro p k;rw[Ml j]at k;simp at k
  ·cases j
 case mapUpdate ty m i x =>
  split at j
  ·intro p k;rcases sR j p k with r|r
   ·exact key x (by simp[Op.operands]) (by simp) (by simp) (by simp) _ r
   ·exact key m (by simp[Op.operands]) (by simp) (by simp) (by simp) _ r
  ·cases j
 case insert ty m i x =>
  split at j
  ·intro p k;rcases sR j p k with r|r
   ·exact key x (by simp[Op.operands]) (by simp) (by simp) (by simp) _ r
   ·exact key m (by simp[Op.operands]) (by simp) (by simp) (by simp) _ r
  ·cases j
 case nilCheck x =>
  cases t:w x<;>rw[t]at j<;>simp only[pO]at j<;>try (cases j;done)
  ·grind
  ·exact A _ j
 case fieldAddr ty x i =>
  split at j
  ·cases t:w x<;>rw[t]at j<;>simp only[gN]at j<;>try (cases j;done)
   ·grind
   ·grind
   grind
  ·cases j
 case field ty x i =>
  split at j
  ·cases t:w x<;>rw[t]at j<;>simp only[Bt]at j<;>try (cases j;done)
   grind
  ·cases j
 case indexAddr ty x i =>
  split at j
  ·cases t:w x<;>cases H:w i<;>rw[t,H]at j<;>simp only[cU]at j<;>try (cases j;done)
   all_goals
    grind
  ·cases j
 case index ty x i =>
  split at j
  ·cases t:w x<;>cases H:w i<;>rw[t,H]at j<;>simp only[mU]at j<;>try (cases j;done)
   ·grind
   grind
  ·cases j
 case slice ty x lo H mx =>
  split at j
  ·unfold iI at j;split at j
   ·grind
   ·grind
   ·grind
   ·cases j
  ·cases j
 case build ty parts =>
  split at j
  ·intro p k;obtain⟨q,K,t⟩:=Mj j p k;obtain⟨y,I,rfl⟩:=ajn.1 K;exact key y.2 (by simp only[Op.operands,List.toList_toArray];grind) (by simp) (by simp) (by simp) _ t
  ·cases j
 case buildSlice ty len parts =>
  split at j
  ·rename_i u;unfold fc at j;split at j
   ·split at j
    ·split at j
     ·split at j
      ·rename_i U;split at j
       ·simp only[ajw]at j;subst j;intro p k;rcases akI.1 k with k|k
        ·obtain⟨q,K,t⟩:=xP U _ (jf k);obtain⟨y,I,rfl⟩:=ajn.1 K;exact key y.2 (by simp only[Op.operands,List.toList_toArray];grind) (by simp) (by simp) (by simp) _ t
        simp_all
       ·cases j
      ·cases j
     ·cases j
    ·cases j
   ·cases j
  ·cases j
 case makeSlice ty l c =>
  split at j
  ·rename_i u;unfold tP at j;split at j
   ·split at j
    ·split at j
     ·simp only[ajw]at j;subst j;simp_all
     ·cases j
    ·cases j
   ·cases j
  ·cases j
 case binOp op ty x y ty' =>
  grind
 case unOp op ty x =>
  grind
 case makeFunc fn first caps =>
  grind
 case convert s d x =>
  grind
 case extract x i =>
  grind
 case call c =>
  cases C:c.callee with
  | invoke _ _=>simp_all
  | value f =>
   rw[C]at j;simp only at j;have B:∀d∈c.args.toList.map w,∀x∈nm d,x∈iO o w:=by
    intro d u x t;obtain⟨y,I,rfl⟩:=ajn.1 u;exact key y (by simp only[Op.operands,Call.operands,akx];simp_all) (by simp) (by simp) (by simp) _ t
   have z:∀d,o.dst=some d->d∈iO o w:=fun d u=>keyd d u (by simp) (by simp) (by simp);have L:∀x∈nm (w f),x∈iO o w:=key f (by simp[Op.operands,Call.operands,C]) (by simp) (by simp) (by simp);generalize c.args.toList.map w=ds at *;unfold jL at j;split at j
   ·split at j
    ·intro p k;rcases Om j p k with r|⟨d,u,t⟩
     ·exact z _ r
     grind
    split at j
    ·intro p k;obtain⟨d,u,t⟩:=Oh j p k;grind
    split at j
    ·split at j
     ·intro p k;rcases xo j p k with r|r|⟨d,u,t⟩
      ·exact z _ r
      ·exact B _ akJ _ (by rw[r];simp[nm,jM])
      grind
     ·intro p k;rcases xo j p k with r|r|⟨d,u,t⟩
      ·exact z _ r
      ·exact B _ akJ _ (by rw[r];simp[nm,jM])
      grind
     ·intro p k;rcases xo j p k with r|r|⟨d,u,t⟩
      ·exact z _ r
      ·exact B _ akJ _ (by rw[r];simp[nm,jM])
      grind
     ·cases j
    ·intro p k;rcases Dt j p k with r|⟨d,u,t⟩
     ·exact z _ r
     grind
   ·rename_i g V caps M;split at j
    ·rename_i G;rw[ajy]at G;have O:∀d∈caps,∀x∈nm d,x∈iO o w:=fun d u x t=>by
      have:=G d u;rw[V6 (fun f V xs W=>by rw[W]at this;cases this)]at t;exact L _ (by rw[M];exact akH.2 ⟨d,u,t⟩)
     intro p k;rcases Dt j p k with r|⟨d,u,t⟩
     ·exact z _ r
     grind
    ·cases j
   ·cases j
  | builtin b =>
   rw[C]at j;simp only at j;unfold ez at j;split at j
   ·grind
   ·rename_i s x F;obtain⟨X,px,hl,rfl,rfl⟩:=VY F;split at j
    ·split at j
     ·rename_i u;intro p k;rcases Er j p k with h1|h1
      ·simp_all
      ·exact key X (by simp only[Op.operands,Call.operands,akx];simp_all) (by simp) (by simp) (by simp) _ h1
     ·cases j
    ·cases j
   ·grind
   ·grind
   ·cases j
end
def fa {h h':Nat->Option Row} {k:Nat} (a:h (rt k)=h' (rt k)):EH h k=EH h' k:=by
 unfold EH;unfold rt at a;grind
def du:PK=1000000:=rfl
def gK (x o:Nat):2*PK<=NK x o:=by unfold NK;rw[du];omega
def xi {x:Nat} (o:Nat) (a:x<PK):NK x o % PK=x:=by
 unfold NK;rw[Nat.mul_add_mod];exact akc a
def E8 {x:Nat} (o:Nat) (a:x<PK):NK x o / PK-2=o:=by
 unfold NK;rw[Nat.mul_add_div (by rw[du];decide),Nat.div_eq_of_lt a];omega
def NY {k:Nat} (a:2*PK<=k):k=NK (k % PK) (k / PK-2):=by
 unfold NK;have c:2<=k / PK:=by
  rw[Nat.le_div_iff_mul_le (by rw[du];decide)];exact a
 have b:k / PK-2+2=k / PK:=by omega
 rw[b];exact (Nat.div_add_mod k PK).symm
def KI (k:Nat):k % PK<PK:=aj9 _ (by rw[du];decide)
def wQ {x o:Nat} (a:x<PK):rt (NK x o)=x:=by
 unfold rt;rw[if_neg (by have:=gK x o;omega),xi o a]
def jv {k:Nat} (a:k<2*PK):rt k=k:=if_pos a
def uP {h:Nat->Option Row} {x o:Nat} (a:x<PK):EH h (NK x o)=(h x).bind fun r=>tV r o:=by
 unfold EH;rw[if_neg (by have:=gK x o;omega),xi o a,E8 o a]
def uQ {h:Nat->Option Row} {k:Nat} (a:k<2*PK):EH h k=(h k).map (EY k):=if_pos a
def ahA (y:Nat) (r:Row):(EY y r).v=r.v∧(EY y r).ty=r.ty∧(EY y r).fz=r.fz∧(EY y r).lst=r.lst∧(EY y r).mp=r.mp:=by
 unfold EY;grind
def LeC (d a:D):Prop:=a=d∨((∃x s n,d=.ph x s n)∧a=.und)
def UF (r a:Row):Prop:=a=r∨(r.mp=true∧∃cs,a = { r with cells:=cs }∧cs.length=r.cells.length∧∀(j:Nat) d b,r.cells[j]? = some d->cs[j]? = some b->LeC d b)∨(r.mp=false∧∃k,a = { r with cells:=r.cells.take k })
def EL (h h':Nat->Option Row):Prop:=∀k a,h' k=some a->∃r,h k=some r∧UF r a
def UF.refl (r:Row):UF r r := .inl rfl
def EL.refl (h:Nat->Option Row):EL h h:=fun k a b=>⟨a,b,.refl _⟩
def LeC.trans {a b c:D} (h:LeC a b) (k:LeC b c):LeC a c:=by
 rcases h with rfl|⟨d,rfl⟩
 ·exact k
 ·rcases k with rfl|⟨⟨_,_,_,e⟩,_⟩
  ·exact .inr ⟨d,rfl⟩
  ·cases e
def UF.trans {a b c:Row} (h:UF a b) (k:UF b c):UF a c:=by
 rcases h with rfl|⟨e,l,rfl,o,p⟩|⟨e,n,rfl⟩
 ·exact k
 ·rcases k with rfl|⟨q,g,rfl,r,s⟩|⟨q,_⟩
  ·exact .inr (.inl ⟨e,l,rfl,o,p⟩)
  ·refine .inr (.inl ⟨e,g,rfl,r.trans o,fun j d t u i =>?_⟩);have f:j<l.length:=by
    grind
   exact (p j d _ u (ajA f)).trans (s j _ t (ajA f) i)
  simp_all
 ·rcases k with rfl|⟨q,_⟩|⟨_,m,rfl⟩
  ·exact .inr (.inr ⟨e,n,rfl⟩)
  ·simp_all
  ·exact .inr (.inr ⟨e,min m n,by grind⟩)
def EL.trans {a b c:Nat->Option Row} (h:EL a b) (k:EL b c):EL a c:=fun x r d=>by
 obtain⟨e,f,g⟩:=k x r d;obtain⟨i,j,l⟩:=h x e f;exact⟨i,j,l.trans g⟩
def EL.b8 {a b:Nat->Option Row} (h:EL a b) (x:Nat) (r:Option Row):EL (b8 a x r) (b8 b x r):=fun y d c=>by
 by_cases e:y=x
 ·subst e;rw[ay]at c ⊢;exact⟨d,c,.refl _⟩
 ·rw[az _ _ e]at c ⊢;exact h y d c
def EL.apply:∀(l:List (Nat×Option Row)) {a b:Nat->Option Row},EL a b->EL (aS a l) (aS b l)
 | [],_,_,h=>h
 | (x,r)::l,_,_,h=>EL.apply l (h.b8 x r)
def UF.same {r a:Row} (h:UF r a):a.v=r.v∧a.ty=r.ty∧a.fz=r.fz∧a.lst=r.lst∧a.mp=r.mp:=by
 rcases h with rfl|⟨_,b,rfl,_⟩|⟨_,k,rfl⟩<;>exact⟨rfl,rfl,rfl,rfl,rfl⟩
def UF.nil {r a:Row} (h:UF r a) (b:r.cells=[]):a.cells=[]:=by
 rcases h with rfl|⟨_,c,rfl,d,_⟩|⟨_,k,rfl⟩
 ·exact b
 ·simp_all
 ·simp[b]
def UF.cell {r c:Row} (h:UF r c) {j:Nat} {a:D} (d:c.cells[j]? = some a) (e:a ≠ .und):r.cells[j]? = some a:=by
 rcases h with rfl|⟨_,g,rfl,i,f⟩|⟨_,k,rfl⟩
 ·exact d
 ·have b:j<r.cells.length:=by
   grind
  rcases f j _ a (ajA b) d with rfl|⟨_,rfl⟩
  ·simp_all
  simp_all
 grind
def eU.le {w:World} {M:Nat->Prop} {g:Nat×Nat} {r q:Row} (h:eU w M g r) (x:UF r q):eU w M g q:=by
 rcases x with rfl|⟨m,n,rfl,s,y⟩|⟨m,k,rfl⟩
 ·exact h
 rotate_left
 ·unfold eU at h ⊢;simp only[m]at h ⊢;obtain⟨b,c,l,z⟩:=h;refine⟨b,c,by grind,fun j d t =>?_⟩;grind
 ·unfold eU at h ⊢;simp only[m]at h ⊢;rcases h with⟨u,v,c,l⟩|⟨c,b,l,z,A⟩
  ·have o:n=r.cells:=by
    rw[c]at s
    match n,s with
    | [a],_ =>
     rcases y 0 (.mpc u v) a (by rw[c];rfl) rfl with rfl|⟨⟨_,_,_,B⟩,_⟩
     ·exact c.symm
     ·cases B
   subst o;exact .inl ⟨u,v,c,l⟩
  ·have f:∀(j:Nat) (a:D),n[j]? = some a->∃d,r.cells[j]? = some d∧LeC d a:=by
    grind
   refine .inr ⟨fun a p =>?_,b,l,by simp only;omega,fun j a p =>?_⟩
   ·obtain⟨j,t⟩:=ajH p;obtain⟨d,i,e⟩:=f j a t;rcases e with rfl|⟨_,rfl⟩
    ·grind
    ·rfl
   ·obtain⟨d,i,e⟩:=f j a p;rcases e with rfl|⟨_,rfl⟩
    ·exact A j _ i
    ·trivial
section
variable {N:Nat} {M:Nat->Prop} {L:kQ} {w0:World} {blk:Nat->Option (Nat×Nat)} {V:Nat->Nat->Prop} {t:Nat->D} {h h':Nat->Option Row} {a:Act} {w:World}
def CY (d:EL h h') {b:Nat} (c:¬Own M h blk b):¬Own M h' blk b:=by
 rintro (a|⟨x,e,g,f,i,j,k⟩)
 ·exact c (.inl a)
 ·obtain⟨r,l,m⟩:=d x e f;exact c (.inr ⟨x,r,g,l,by rw[<- m.same.2.2.1];exact i,j,k⟩)
def GI (d:EL h h'):I9 w w (Own M h blk) (Own M h' blk) h h' blk blk V V:=⟨fun b a c=>⟨a,CY d c,rfl⟩,fun _ _ h=>h,fun x v _ e a c=>by
 obtain⟨r,f,g⟩:=d x e a;exact⟨⟨r,f,by rw[<- g.same.1];exact c⟩,rfl,fun _ _=>rfl⟩⟩
def Inv.le (d:Inv N M L w0 blk V t h a w) (f:EL h h'):Inv N M L w0 blk V t h' a w where
 tab:=d.tab.keep fun b A m=>⟨A,CY f m,rfl⟩
 below:=d.below
 mlt:=d.mlt
 lent:=d.lent
 pin go l:=⟨(d.pin go l).1,fun o H I=>by
  obtain⟨r,k,e⟩:=f 0 o H;exact (d.pin go l).2 r k (by rw[<- e.same.1];exact I)⟩
 defers:=d.defers
 tsz:=d.tsz
 slots i:=(d.slots i).mono (GI f)
 rows x o B:=by
  obtain⟨r,k,e⟩:=f x o B;obtain⟨A,m⟩:=d.rows x r k;refine⟨fun J=>by rw[e.same.1];exact A J,?_⟩;cases F:blk x with
  | none =>
   rw[F]at m;exact e.nil m
  | some g =>
   rw[F]at m;exact⟨m.1,(eU.le m.2 e).keep rfl rfl rfl rfl fun b p q=>⟨p,CY f q,rfl⟩⟩
 inj x y r s g g' B v l C he:=by
  obtain⟨K,k,_⟩:=f x r B;obtain⟨G,e,_⟩:=f y s v;exact d.inj x y K G g g' k e l C he
 big:=d.big
 pha y o g v hm l j x s n O:=by
  obtain⟨r,k,e⟩:=f y o v;obtain⟨P,u,p,q⟩:=d.pha y r g k (by rw[<- e.same.2.2.2.2];exact hm) l j x s n (e.cell O (by intro h;cases h));exact⟨P,u,p,q.mono fun D Q=>by
   obtain⟨G,U,_⟩:=f x D Q;simp_all⟩
 ali y o g v R E l j c S T z:=by
  obtain⟨r,k,e⟩:=f y o v;obtain⟨u,p,q⟩:=d.ali y r g k (by rw[<- e.same.2.2.1];exact R) (by rw[<- e.same.2.2.2.1];exact E) l j c S (e.cell T (by intro h;subst h;cases z)) z;exact⟨u,p,q.mono (GI f)⟩
def bl.le {e:Nat} {c:Option Nat} {E:cr} {v:Value} (f:bl N M L w0 V t h a e c E v w) (d:EL (aS h E.hw) h') :
  ∃b,Inv N M L w0 b (fun x n=>V x n∨(c=some x∧n=e)) t h' a w∧RT w (Own M h' b) h' b (fun x n=>V x n∨(c=some x∧n=e)) E.val v:=by
 obtain⟨b,g,i⟩:=f;exact⟨b,g.le d,i.mono (GI d)⟩
end
def lG {a:List D} {o:Nat} {d:D} (h:o<a.length):(putCells a o [d]).length=a.length:=kv (show o+1<=a.length from h)
def gQ {a:List D} {o:Nat} {d:D} (h:o<a.length):(putCells a o [d])[o]? = some d:=by
 rw[oc (show o+[d].length<=a.length from h)];simp
def jh {a:List D} {o j:Nat} {d:D} (h:o<a.length) (b:j≠o):(putCells a o [d])[j]? = a[j]?:=by
 rw[oc (show o+[d].length<=a.length from h)];grind
def IN:Option Row->Option Row
 | some r=>if r.mp then (match r.cells with | [.nr _ _ _ _]=>none|_=>some r) else some r
 | none=>none
def Ri (b c:Nat) (e:Bool):Option Row->D->D
 | some a,.nx n _=>if a.ty=b∧a.v=c∧a.fz=e∧a.lst=true∧a.mp=false then .nx n a.cells else .und
 | none,.nx n _ =>.und
 | _,d=>d
def HR (a s b:Nat) (e:Bool) (c:List D) (o:Nat) (r:Option Row):Option D->List D
 | some d=>[.nr a s b (putCells c o [Ri a b e r d])]
 | none=>[.nr a s b c]
def HA (o:Nat) (r:Option Row) (q:Row):Row :=
 if q.mp then
  match q.cells with
  | [.nr ty s nv cs]=>{ q with cells:=HR ty s nv q.fz cs o r (cs.drop o).head? }
  | _=>q
 else q
def BQ (h:Nat->Option Row) (k:Nat) (r:Option Row):Option Row:=@ite _ (k<2*PK) (ltB k (2*PK)) (IN r) ((h (k % PK)).map (HA (k / PK-2) r))
def mB (h:Nat->Option Row):List (Nat×Option Row)->List (Nat×Option Row)
 | []=>[]
 | (k,r)::l=>(rt k,BQ h k r)::mB (b8 h (rt k) (BQ h k r)) l
def CM {r:Option Row} {q:Row} {o:Nat} (h:IN r=some q):r=some q∧tV q o=none∧∀y,EY y q=q:=by
 unfold IN at h;split at h
 ·rename_i b;split at h
  ·rename_i a;split at h
   ·cases h
   ·rename_i c;simp only[ajw]at h;subst h;refine⟨rfl,?_,fun y =>?_⟩
    ·unfold tV;rw[if_pos a];unfold KJ;simp_all
    ·unfold EY;rw[if_pos a];have:skL y b.cells=b.cells:=by
      unfold skL;simp_all
     rw[this]
  ·rename_i a;simp only[ajw]at h;subst h;exact⟨rfl,by unfold tV;rw[if_neg a],fun y=>by unfold EY;rw[if_neg a]⟩
 ·cases h
def adH (h:Nat->Option Row) (k:Nat) (r:Option Row):EL (b8 (EH h) k r) (EH (b8 h (rt k) (BQ h k r))):=by
 intro z p a
 by_cases O:k<2*PK
 ·rw[jv O]at a;unfold BQ at a;rw[if_pos O]at a
  by_cases g:z<2*PK
  ·rw[uQ g]at a
   by_cases c:z=k
   ·subst c;rw[ay]at a ⊢;rw[ajm]at a;obtain⟨q,S,rfl⟩:=a;obtain⟨P,_,h3⟩:=CM (o:=0) S;rw[h3];exact⟨q,P,.refl _⟩
   ·rw[az _ _ c]at a ⊢;rw[<- uQ g]at a;exact⟨p,a,.refl _⟩
  ·rw[az _ _ (by omega)];unfold EH at a;rw[if_neg g]at a
   by_cases c:z % PK=k
   ·rw[c,ay]at a;rw[Option.bind_eq_some_iff]at a;obtain⟨q,S,P⟩:=a;rw[(CM (o:=z / PK-2) S).2.1]at P;cases P
   ·rw[az _ _ c]at a;exact⟨p,by unfold EH;grind,.refl _⟩
 ·have v:=NY (alF O);have b:=KI k;generalize k % PK=x at v b;generalize k / PK-2=o at v;subst v;rw[wQ b]at a;have T:BQ h (NK x o) r=(h x).map (HA o r):=by
   unfold BQ;rw[if_neg O,xi o b,E8 o b]
  rw[T]at a;cases u:h x with
  | none =>
   rw[u]at a;simp only[Option.map_none]at a;have f:EH h z=some p:=by
    rw[<- a];apply fa
    by_cases hzx:rt z=x
    ·rw[hzx,ay,u]
    ·rw[az _ _ hzx]
   by_cases c:z=NK x o
   ·subst c;rw[uP b,u]at f;cases f
   ·rw[az _ _ c];exact⟨p,f,.refl _⟩
  | some q =>
   rw[u]at a;simp only[Option.map_some]at a
   by_cases hzx:rt z=x
   rotate_left
   ·have:EH h z=some p:=by rw[<- a];exact fa (by rw[az _ _ hzx])
    refine⟨p,?_,.refl _⟩;rw[az _ _ (fun e=>hzx (by rw[e,wQ b]))];exact this
   by_cases U:q.mp=true∧∃E s F l,q.cells=[.nr E s F l]
   rotate_left
   ·have V:HA o r q=q:=by
     unfold HA;simp_all
    rw[V]at a;have f:EH h z=some p:=by
     rw[<- a];exact fa (by rw[hzx,ay,u])
    by_cases c:z=NK x o
    ·subst c;rw[uP b,u]at f;simp only[Option.bind_some]at f;unfold tV at f;split at f
     ·rename_i i;unfold KJ at f;simp_all
     ·cases f
    ·rw[az _ _ c];exact⟨p,f,.refl _⟩
   obtain⟨i,E,s,F,l,Q⟩:=U;have V:HA o r q = { q with cells:=HR E s F q.fz l o r (l.drop o).head? }:=by
    unfold HA;rw[if_pos i,Q]
   rw[V]at a;obtain⟨cs',G,W⟩:∃cs':List D,HR E s F q.fz l o r (l.drop o).head? = [.nr E s F cs']∧cs'.length=l.length∧(∀j,j≠o->cs'[j]? = l[j]?)∧∀w,cs'[o]? = some w->∃d,l[o]? = some d∧w=Ri E F q.fz r d:=by
    rw[alG];cases t:l[o]? with
    | none=>exact⟨l,rfl,rfl,fun _ _=>rfl,fun w m=>by simp_all⟩
    | some d =>
     have y:=(ajO.1 t).1;refine⟨_,rfl,lG y,fun j hj=>jh y hj,fun w m=>⟨d,rfl,?_⟩⟩;rw[gQ y]at m;simp_all
   rw[G]at a;obtain⟨H,I,J⟩:=W
   by_cases g:z<2*PK
   ·rw[jv g]at hzx;subst hzx;rw[uQ g,ay]at a;simp only[Option.map_some,ajw]at a;subst a;rw[az _ _ (by omega),uQ g,u];refine⟨EY z q,rfl,.inr (.inl ⟨by rw[(ahA z q).2.2.2.2,i],cs'.mapIdx (ue z s),?_,?_,fun j d w t m =>?_⟩)⟩
    ·unfold EY;simp only[i,if_true,skL]
    ·unfold EY;simp only[i,if_true,skL,Q,alH,H]
    ·unfold EY at t;simp only[i,if_true,skL,Q,alI,ajm]at t;rw[alI,ajm]at m;obtain⟨d0,K,rfl⟩:=t;obtain⟨d1,A,rfl⟩:=m
     by_cases L:j=o
     ·subst L;obtain⟨d2,X,rfl⟩:=J _ A;rw[K]at X;cases X;cases d0 with
      | nx n xs =>
       cases r with
       | none=>exact .inr ⟨⟨_,_,_,rfl⟩,rfl⟩
       | some Y =>
        simp only[Ri];split
        ·exact .inl rfl
        ·exact .inr ⟨⟨_,_,_,rfl⟩,rfl⟩
      | _=>cases r<;>exact .inl rfl
     ·rw[I j L,K]at A;cases A;exact .inl rfl
   ·have B:=NY (alF g);have M:z % PK=x:=by unfold rt at hzx;grind
    rw[M]at B;generalize z / PK-2=R at B;subst B;rw[uP b,ay]at a;simp only[Option.bind_some]at a;unfold tV at a;simp only[i,if_true,KJ,alG]at a
    by_cases N:R=o
    ·subst N;rw[ay];cases t:cs'[R]? with
     | none=>rw[t]at a;cases a
     | some w =>
      obtain⟨d,X,rfl⟩:=J w t;rw[t]at a;cases r with
      | none=>cases d<;>cases a
      | some Y =>
       cases d with
       | nx n xs =>
        simp only[Ri]at a;split at a
        ·rename_i C;obtain⟨rfl,rfl,h3,h4,h5⟩:=C;simp only[GY,ajw]at a;subst a;refine⟨Y,rfl,.inl ?_⟩;cases Y;simp_all
        ·cases a
       | _=>cases a
    ·have Z:NK x R≠NK x o:=by
      unfold NK;rw[du];omega
     rw[az _ _ Z,uP b,u];rw[I R N]at a;refine⟨p,?_,.refl _⟩;simp only[Option.bind_some];unfold tV;simp only[i,if_true,Q,KJ,alG];exact a
def Pu:∀(l:List (Nat×Option Row)) (h:Nat->Option Row),EL (aS (EH h) l) (EH (aS h (mB h l)))
 | [],h =>.refl _
 | (k,r)::l,h=>(EL.apply l (adH h k r)).trans (Pu l _)
def bump (a e:Nat):Option Nat:=if a<=4*e then some (4*e+1) else if a=4*e+2 then some (4*e+3) else none
def nrO (r:Row):List D->Option (Row×Nat×Nat×Nat×List D)
 | [.nr ty s nv cs]=>some (r,ty,s,nv,cs)
 | _=>none
def gW (h:Nat->Option Row) (x v:Nat):Option (Row×Nat×Nat×Nat×List D) :=
 match h x with
 | some r=>if r.v=v∧r.fz=false∧r.mp=true∧x<PK then nrO r r.cells else none
 | none=>none
def jE {h:Nat->Option Row} {x v:Nat} {r:Row} {b s c:Nat} {d:List D} (a:gW h x v=some (r,b,s,c,d)):h x=some r∧r.v=v∧r.fz=false∧r.mp=true∧x<PK∧r.cells=[.nr b s c d]:=by
 unfold gW at a;split at a
 ·rename_i f g;split at a
  ·rename_i e;obtain⟨i,j,k,l⟩:=e;unfold nrO at a;grind
  ·cases a
 ·cases a
def gm {d:D} (a:gA d=true):bu d=true∧phC d=true∧∀ {w:World} {M:Nat->Prop} {u:Value},E9 w M d u↔RP w M d u:=by
 cases d<;>first|exact⟨rfl,rfl,Iff.rfl⟩|cases a
def Um:D->D
 | .nx n xs =>.sl false false n xs
 | d=>d
def gT {h:Nat->Option Row} {x:Nat} {r:Row} {b s c:Nat} {a:List D} (d:h x=some r) (e:r.mp=true) (f:r.cells=[.nr b s c a]) (g:x<PK):EH h x=some ⟨r.v,r.ty,a.mapIdx (ue x s),r.fz,r.lst,true⟩:=by
 rw[uQ (by omega),d];simp only[Option.map_some,EY,e,if_true,f,skL]
def fI {h:Nat->Option Row} {x:Nat} {r:Row} {a s b:Nat} {c:List D} (d:h x=some r) (e:r.mp=true) (f:r.cells=[.nr a s b c]) (g:x<PK) (o:Nat):EH h (NK x o)=GY a b r.fz c[o]?:=by
 rw[uP g,d];simp only[Option.bind_some,tV,e,if_true,f,KJ,alG]
def vB {x a o b:Nat} (d:x<PK) (c:a<PK) (h:NK x o=NK a b):x=a∧o=b:=by
 unfold NK at h;rw[du]at *;omega
def Ja (w:World) (blk:Nat->Option (Nat×Nat)) (k s n:Nat) (u:Value):Prop :=
 (∃g c a b,blk k=some g∧u=.slice (some ⟨g.1,g.2,none⟩) n c∧c*s+g.2=a∧n<=c∧c<=maxLen∧w.shape? g.1=some (b,a))∨(blk k=none∧n=0∧∃A,u=.slice A 0 0)
section
variable {P:Program} {T:Nat->Option Ty} {N:Nat} {M:Nat->Prop} {L:kQ} {w0:World} {blk:Nat->Option (Nat×Nat)} {V:Nat->Nat->Prop} {t:Nat->D} {h:Nat->Option Row} {a:Act} {w:World} {e:Nat} {o:Oper} {Γ:Env}
def Inv.D3 (m:Inv N M L w0 blk V t (EH h) a w) {x:Nat} {r:Row} {n s o:Nat} {e:List D} {g:Nat×Nat} (p:h x=some r) (q:r.mp=true) (u:r.cells=[.nr n s o e]) (v:x<PK) (y:blk x=some g) :
  ∃b:Array Value,w.heap[g.1]? = some (.cells b r.ty (0,0))∧g.2+e.length<=b.size∧∀(j:Nat) d,e[j]? = some d->gA d=true->RP w (Own M (EH h) blk) d (b.getD (g.2+j) undef):=by
 have c:=m.rowIs (gT p q u v) y;unfold eU at c;simp only at c;rcases c with⟨E,F,f,_⟩|⟨f,b,z,k,A⟩
 ·exfalso;simp only at f;have B:e.length=1:=by
   have:=congrArg List.length f;simpa using this
  match e,B with
  | [d],_ =>
   simp only[List.mapIdx_cons,List.mapIdx_nil,ajJ,and_true]at f;have:=nE x s 0 d;rw[f]at this;cases this
 ·simp only[alH]at k;refine⟨b,z,k,fun j d C l =>?_⟩;have i:(e.mapIdx (ue x s))[j]? = some d:=by rw[alI,C];exact congrArg some (lK l)
  exact (gm l).2.2.1 (A j _ i)
def Inv.G0 (k:Inv N M L w0 blk V t (EH h) a w) {x:Nat} {r:Row} {l s m n o:Nat} {b p:List D} {g:Nat×Nat} (c:h x=some r) (d:r.mp=true) (e:r.cells=[.nr l s m b]) (f:x<PK) (q:blk x=some g) (i:b[o]? = some (.nx n p)) :
  ∃u,w.cell? ⟨g.1,g.2+o,none⟩=some u∧Ja w blk (NK x o) s n u:=by
 obtain⟨_,u,v,y⟩:=k.pha x _ g (gT c d e f) rfl q o (NK x o) s n (by simp only[alI,i,Option.map_some,ue]);have j:=fI c d e f o;rw[i]at j;exact⟨u,v,y _ j⟩
def adv:D->D->D
 | .nx n _,.nx _ a =>.nx n a
 | .nx _ _,_ =>.und
 | d,_=>d
def yh (b a:List D):List D:=List.zipWith adv b a
def rp {x k:Nat} (b:rt k=x):k=x∨∃o,k=NK x o:=by
 by_cases a:k<2*PK
 ·rw[jv a]at b;exact .inl b
 ·have:=NY (alF a);unfold rt at b;grind
def afA (b a:List D) (j:Nat):(yh b a)[j]? = match b[j]?,a[j]? with|some d,some c=>some (adv d c)|_,_=>none:=by
 unfold yh;grind
def TC {x:Nat} {r:Row} {z s A:Nat} {c a:List D} (J:h x=some r) (K:r.mp=true) (L:r.cells=[.nr z s A c]) (M:r.fz=false) (B:x<PK) (p:a.length=c.length)
  (F:∀(j:Nat) C e,a[j]? = some (.nx C e)->∃n E k,c[j]? = some (.nx n E)∧e=E.take k):EL (EH h) (EH (b8 h x (some ⟨r.v,r.ty,[.nr z s A (yh c a)],false,r.lst,true⟩))):=by
 have g:=afA c a;have G:(yh c a).length=c.length:=by simp[yh,p]
 have q:∀(j:Nat) d,c[j]? = some d->∃m,a[j]? = some m:=by
  grind
 have N:∀(j:Nat) m,a[j]? = some m->∃d,c[j]? = some d:=by
  grind
 generalize O:b8 h x (some ⟨r.v,r.ty,[.nr z s A (yh c a)],false,r.lst,true⟩)=hh;have t:hh x=some ⟨r.v,r.ty,[.nr z s A (yh c a)],false,r.lst,true⟩:=by rw[<- O,ay]
 have P:∀y,y≠x->hh y=h y:=fun y S=>by rw[<- O,az _ _ S]
 have T:∀ {h1 Q:Nat->Option Row},(∀y,y≠x->h1 y=Q y)->∀k,rt k≠x->EH h1 k=EH Q k:=fun U k b=>fa (U _ b);have u:∀k,rt k=x->k=x∨∃o,k=NK x o:=by
  intro k b
  by_cases v:k<2*PK
  ·rw[jv v]at b;exact .inl b
  ·have:=NY (alF v);unfold rt at b;grind
 intro k V b
 by_cases H:rt k=x
 rotate_left
 ·exact⟨V,by simp_all,.refl _⟩
 rcases u k H with rfl|⟨o,rfl⟩
 ·rw[gT t rfl rfl B]at b;simp only[ajw]at b;subst b;refine⟨_,gT J K L B,.inr (.inl ⟨rfl,(yh c a).mapIdx (ue k s),by rw[M],by simp[G],fun j d m i f =>?_⟩)⟩;simp only[alI,ajm]at i f;obtain⟨d0,w,rfl⟩:=i;obtain⟨d1,l,rfl⟩:=f;obtain⟨d2,I⟩:=q j d0 w;rw[g,w,I]at l;simp only[ajw]at l;subst l;cases d0 with
  | nx n E =>
   cases d2 with
   | nx C e=>exact .inl rfl
   | _=>exact .inr ⟨⟨_,_,_,rfl⟩,rfl⟩
  | _=>exact .inl rfl
 ·rw[fI t rfl rfl B,g]at b;cases i:c[o]? with
  | none=>rw[i]at b;cases b
  | some d =>
   obtain⟨m,f⟩:=q o d i;rw[i,f]at b;cases d with
   | nx n E =>
    cases m with
    | nx C e =>
     obtain⟨Y,W,k,R,X⟩:=F o C e f;rw[i]at R;cases R;simp only[adv,GY,ajw]at b;subst b;refine⟨_,by rw[fI J K L B,i];rfl,.inr (.inr ⟨rfl,k,by rw[X,M]⟩)⟩
    | _=>cases b
   | _=>cases b
def Inv.HR (hI:Inv N M L w0 blk V t (EH h) a w) {x:Nat} {r:Row} {q s u:Nat} {c cs':List D} (hx:h x=some r) (hm:r.mp=true) (hc:r.cells=[.nr q s u c]) (hz:r.fz=false) (C:x<PK) (v:cs'.length=c.length) {w':World}
  (Y:w'.os=w.os) (E:w'.tape=w.tape) (H:w'.output=w.output) (F:w.heap.size<=w'.heap.size) (G:∀b,b<w.heap.size->(∀g,blk x=some g->b≠g.1)->w'.heap[b]? = w.heap[b]?)
  (I:∀(j:Nat) z i,cs'[j]? = some (.nx z i)->∃n xs k,c[j]? = some (.nx n xs)∧i=xs.take k)
  (l:∀g,blk x=some g->w'.shape? g.1=w.shape? g.1∧∃f:Array Value,w'.heap[g.1]? = some (.cells f r.ty (0,0))∧g.2+c.length<=f.size∧∀(j:Nat) d,cs'[j]? = some d ->
   (gA d=true->RP w' (Own M (EH (b8 h x (some ⟨r.v,r.ty,[.nr q s u (yh c cs')],false,r.lst,true⟩))) blk) d (f.getD (g.2+j) undef))∧∀z i,d=.nx z i->Ja w blk (NK x j) s z (f.getD (g.2+j) undef)) :
  Inv N M L w0 blk V t (EH (b8 h x (some ⟨r.v,r.ty,[.nr q s u cs'],false,r.lst,true⟩))) a w':=by
 have J:∀(j:Nat),(yh c cs')[j]? = match c[j]?,cs'[j]? with|some d,some A=>some (adv d A)|_,_=>none:=by
  intro j;unfold yh;grind
 have ag:(yh c cs').length=c.length:=by simp[yh,v]
 have ah:∀(j:Nat) d,c[j]? = some d->∃A,cs'[j]? = some A:=by
  grind
 have K:∀(j:Nat) A,cs'[j]? = some A->∃d,c[j]? = some d:=by
  grind
 generalize Z:b8 h x (some ⟨r.v,r.ty,[.nr q s u (yh c cs')],false,r.lst,true⟩)=hh at l;have O:hh x=some ⟨r.v,r.ty,[.nr q s u (yh c cs')],false,r.lst,true⟩:=by rw[<- Z,ay]
 have P:∀y,y≠x->hh y=h y:=fun y W=>by rw[<- Z,az _ _ W]
 have aa:∀ {h1 h2:Nat->Option Row},(∀y,y≠x->h1 y=h2 y)->∀k,rt k≠x->EH h1 k=EH h2 k:=fun he k Q=>fa (he _ Q);have R:∀k,rt k=x->k=x∨∃o,k=NK x o:=by
  intro k Q
  by_cases S:k<2*PK
  ·rw[jv S]at Q;exact .inl Q
  ·have:=NY (alF S);unfold rt at Q;grind
 have ab:EL (EH h) (EH hh):=by rw[<- Z];exact TC hx hm hc hz C v I
 have hA:=hI.le ab;have hB:=hA.lJ (x:=x) (r:=⟨r.v,r.ty,(yh c cs').mapIdx (ue x s),false,r.lst,true⟩) (r0:=⟨r.v,r.ty,cs'.mapIdx (ue x s),false,r.lst,true⟩) (w':=w') (gT O rfl rfl C) rfl rfl Y E H F G (by
   cases hb:blk x with
   | none =>
    have:=(hI.rows x _ (gT hx hm hc C)).2;rw[hb]at this;have h1:c.mapIdx (ue x s)=[]:=this;simp_all
   | some g =>
    obtain⟨k1,f,k2,k3,k4⟩:=l g hb;refine⟨k1,.inr ⟨fun d X =>?_,f,k2,by simp_all,fun j d B =>?_⟩⟩
    ·obtain⟨j,B⟩:=ajH X;simp only[alI,ajm]at B;obtain⟨d0,m,rfl⟩:=B;exact nE _ _ _ _
    ·simp only[alI,ajm]at B;obtain⟨d0,m,rfl⟩:=B
     by_cases p:gA d0=true
     ·rw[lK p];exact (gm p).2.2.2 ((k4 j d0 m).1 p)
     ·cases d0<;>first|trivial|exact absurd rfl p) (fun h=>by cases h) (fun _ g hg j x' s' z B=>by
   obtain⟨k1,f,k2,k3,k4⟩:=l g hg;simp only[alI,ajm]at B;obtain⟨d0,m,he⟩:=B;obtain⟨ad,rfl,rfl,rfl⟩:=tr he;have ai:=(ajO.1 m).1;exact⟨⟨C,.inr rfl⟩,_,a8 k2 (by omega),fun _ _=>(k4 j _ m).2 z ad rfl⟩)
 have ae:b8 (EH hh) x (some (⟨r.v,r.ty,cs'.mapIdx (ue x s),false,r.lst,true⟩:Row))=EH (b8 h x (some ⟨r.v,r.ty,[.nr q s u cs'],false,r.lst,true⟩)):=by
  have T:b8 h x (some (⟨r.v,r.ty,[.nr q s u cs'],false,r.lst,true⟩:Row)) x=some ⟨r.v,r.ty,[.nr q s u cs'],false,r.lst,true⟩:=ay _ _ _;funext k
  by_cases hkx:rt k=x
  rotate_left
  ·rw[az _ _ (fun e=>hkx (by rw[e,jv (by omega)]))];exact aa (fun y W=>by rw[P y W,az _ _ W]) k hkx
  rcases R k hkx with rfl|⟨o,rfl⟩
  ·rw[ay,gT T rfl rfl C]
  ·rw[az _ _ (by have:=gK x o;omega),fI O rfl rfl C,fI T rfl rfl C,J];cases U:cs'[o]? with
   | none=>simp_all
   | some A =>
    obtain⟨d,X⟩:=K o A U;rw[X];cases A with
    | nx z i =>
     obtain⟨n0,aj,k,e1,_⟩:=I o z i U;rw[X]at e1;cases e1;rfl
    | _=>cases d<;>rfl
 simp_all
def Inv.ahf (f:Inv N M L w0 blk V t h a w) (S:Nat->Prop) (H:Nat) (T:∀k,S k->N<=k∧k≠0∧¬V k H) {h':Nat->Option Row} (U:∀k,S k->h' k=(h k).map fun r=>{ r with v:=H }) (W:∀k,¬S k->h' k=h k):Inv N M L w0 blk V t h' a w:=by
 have q:∀x r',h' x=some r'->∃r,h x=some r∧r' = { r with v:=r'.v }∧(¬S x->r'=r)∧(S x->r'.v=H):=by
  intro x r' z
  by_cases I:S x
  ·rw[U x I,ajm]at z;grind
  simp_all
 have d:∀ {r r':Row},r' = { r with v:=r'.v }->r'.ty=r.ty∧r'.cells=r.cells∧r'.fz=r.fz∧r'.lst=r.lst∧r'.mp=r.mp:=by
  grind
 have J:∀b,¬Own M h blk b->¬Own M h' blk b:=by
  intro b C A;rcases A with A|⟨x,r',g,z,X,m,e⟩
  ·exact C (.inl A)
  ·obtain⟨r,B,l,_⟩:=q x r' z;exact C (.inr ⟨x,r,g,B,by grind,m,e⟩)
 have D:I9 w w (Own M h blk) (Own M h' blk) h h' blk blk V V:=⟨fun b B l=>⟨B,J b l,rfl⟩,fun _ _ h=>h,fun x v P r' B l=>by
  grind⟩
 exact {
  tab:=f.tab.keep fun b B l=>⟨B,J b l,rfl⟩
  below:=f.below
  mlt:=f.mlt
  lent:=f.lent
  pin:=fun Q m=>⟨(f.pin Q m).1,fun r' Y P=>by
   obtain⟨r,o,p,R,Z⟩:=q 0 r' Y;obtain rfl:=R (fun I=>(T 0 I).2.1 rfl);exact (f.pin Q m).2 r' o P⟩
  defers:=f.defers
  tsz:=f.tsz
  slots:=fun i=>(f.slots i).mono D
  rows:=fun x r' z=>by
   obtain⟨r,o,p,R,Z⟩:=q x r' z;obtain⟨B,l⟩:=f.rows x r o;refine⟨fun hn =>?_,?_⟩
   ·grind
   ·cases C:blk x with
    | none=>rw[C]at l;exact (d p).2.1.trans l
    | some g =>
     rw[C]at l;exact⟨l.1,l.2.keep (d p).2.1 (d p).1 (d p).2.2.2.2 rfl fun b E F=>⟨E,J b F,rfl⟩⟩
  inj:=fun x y r s g g' z G m K e=>by
   obtain⟨r1,o,_⟩:=q x r z;obtain⟨r2,p,_⟩:=q y s G;exact f.inj x y r1 r2 g g' o p m K e
  big:=f.big
  pha:=fun y r' g G hm m j x s n hc=>by
   obtain⟨r,o,p,_⟩:=q y r' G;obtain⟨h0,u,E,F⟩:=f.pha y r g o (by grind) m j x s n (by grind);exact⟨h0,u,E,F.mono fun aa q3=>by
    grind⟩
  ali:=fun y r' g G X ab m j c d' hj O=>by
   obtain⟨r,o,p,_⟩:=q y r' G;obtain⟨u,E,F⟩:=f.ali y r g o (by grind) (by grind) m j c d' (by grind) O;exact⟨u,E,F.mono D⟩ }
end
def MI (τ:Ty) (x s b o:Nat) (a:List D):Option D->Option cr
 | some (.nx n xs)=>if τ.size=1∧τ.ds.uO=false then some ⟨.buf (NK x o) b s 0 n,[]⟩ else none
 | some _=>if o+τ.size<=a.length∧((a.drop o).take τ.size).all gA=true then (match lA τ ((a.drop o).take τ.size) with|some d=>some ⟨d,[]⟩|none=>none) else none
 | none=>none
def sP (τ:Ty) (h:Nat->Option Row):D->Option cr
 | .ptr x v o =>
  match gW h x v with
  | some (r,ty,s,nv,cs)=>MI τ x s nv o cs (cs.drop o).head?
  | none=>none
 | _=>none
def Nj (x:Nat) (r:Row) (b s c:Nat) (d:List D) (o n:Nat):Option D->Option cr
 | some (.nx e a)=>if n*s<=a.length then some ⟨.und,[(x,some ⟨r.v,r.ty,[.nr b s c (putCells d o [.nx n (a.take (n*s))])],false,r.lst,true⟩)]⟩ else none
 | _=>none
def C9 (x:Nat) (r:Row) (b s:Nat) (c:List D) (o y n:Nat) (q:Row):Option Nat->Option cr
 | some a=>some ⟨.und,[(y,none),(x,some ⟨r.v,r.ty,[.nr b s a (putCells c o [.nx n q.cells])],false,r.lst,true⟩)]⟩
 | none=>none
def plV:D->Option (List D)
 | .agg xs=>some xs
 | .int k n=>some [.int k n]
 | .bool b=>some [.bool b]
 | .str s=>some [.str s]
 | .sl a b n xs=>some [.sl a b n xs]
 | _=>none
def Nl (τ:Ty) (x:Nat) (r:Row) (b s c:Nat) (d:List D) (o:Nat):Option (List D)->Option cr
 | some a=>if a.length=τ.size∧a.all gA=true then some ⟨.und,[(x,some ⟨r.v,r.ty,[.nr b s c (putCells d o (a.map canon))],false,r.lst,true⟩)]⟩ else none
 | none=>none
def I2 (τ:Ty) (e:Nat) (h:Nat->Option Row) (x:Nat) (r:Row) (a s b:Nat) (c:List D) (o:Nat):D->Option cr
 | .buf y f g i n =>
  if τ.size=1∧g=s∧i=0 then
   if y=NK x o then (if f=b then Nj x r a s b c o n (c.drop o).head? else none)
   else if y<PK then
    match live h y f with
    | some q=>if q.fz=false∧q.lst=true∧q.ty=a∧q.cells.length=n*s then C9 x r a s c o y n q (bump b e) else none
    | none=>none
   else none
  else none
 | d=>Nl τ x r a s b c o (plV d)
def pP (τ:Ty) (e:Nat) (h:Nat->Option Row) (p d:D):Option cr :=
 match p with
 | .ptr x v o =>
  match gW h x v with
  | some (r,b,s,c,a)=>if o+τ.size<=a.length∧0<τ.size then I2 τ e h x r b s c a o d else none
  | none=>none
 | _=>none
section
variable {P:Program} {T:Nat->Option Ty} {N:Nat} {M:Nat->Prop} {L:kQ} {w0:World} {blk:Nat->Option (Nat×Nat)} {V:Nat->Nat->Prop} {t:Nat->D} {h:Nat->Option Row} {a:Act} {w:World} {e:Nat} {o:Oper} {Γ:Env}
def kN (N:Nat) (M:Nat->Prop) (L:kQ) (w0:World) (V:Nat->Nat->Prop) (t:Nat->D) (h:Nat->Option Row) (a:Act) (e:Nat) (c:Option Nat) (E:cr) (v:Value) (d:World):Prop :=
 ∃b,Inv N M L w0 b (fun x n=>V x n∨(c=some x∧n=e)) t (EH (aS h E.hw)) a d ∧
  RT d (Own M (EH (aS h E.hw)) b) (EH (aS h E.hw)) b (fun x n=>V x n∨(c=some x∧n=e)) E.val v
def VNr (V:Nat->Nat->Prop) (h:Nat->Option Row):Prop:=∀x r b s a c,h x=some r->r.mp=true->r.cells=[.nr b s a c]->x<PK->∀o,V (NK x o) a
def aaj (O:jH P T) (l:Inv N M L w0 blk V t (EH h) a w) (D:VNr V h) {F:Nat} {p:Operand} {τ:Ty} {E:cr} (Q:o.op=.load F p) (R:T F=some τ) (b:sP τ h (ev t p)=some E):e9 P o a w (kN N M L w0 V t h a e o.dst E):=by
 have Y:=l.ev p;generalize ev t p=q at *;unfold sP at b;split at b<;>try (cases b;done)
 rename_i x v c;split at b<;>try (cases b;done)
 rename_i r G s Z H hl;obtain⟨A,hv,hz,B,i,C⟩:=jE hl;have I:=gT A B C i;obtain⟨g,S,m⟩:=Y.2 _ I hv;rw[alG]at b;unfold MI at b;split at b
 ·rename_i n xs hn;split at b<;>try (cases b;done)
  rename_i f;obtain⟨U,J⟩:=f;simp only[ajw]at b;subst b;obtain⟨u,h1,h2⟩:=l.G0 A B C i S hn;have k:=mw (O F τ R) w g.1 (g.2+c) [u] (by simpa using U.symm) (fun j v W=>by
   grind) (fun _=>rfl)
  rw[J]at k;refine aN (v:=u) (w':=w) ?_ ?_
  ·simp[execOp,Q,Instr.loadAt,Instr.sureAddr,m,k]
  ·refine bl.eG (h:=EH h) l ⟨D x r G s Z H A B C i c,fun r' X k2 =>?_⟩;rcases h2 with⟨g',c',N',t',q1,rfl,q3,q4,q5,q6⟩|⟨q1,rfl,q3⟩
   ·grind
   simp_all
 ·rename_i d0 aa ab;split at b<;>try (cases b;done)
  rename_i f;obtain⟨U,J⟩:=f;split at b<;>try (cases b;done)
  rename_i d hd;simp only[ajw]at b;subst b;have K:At w (Own M (EH h) blk) g.1 (g.2+c) ((H.drop c).take τ.size):=by
   intro j d1 W;have y:=ajy.1 J d1 (ajM W);have z:H[c+j]? = some d1:=by
    grind
   obtain⟨ad,X,k2,k3⟩:=l.D3 A B C i S;have ae:=(ajO.1 z).1;refine⟨(gm y).1,_,?_,k3 _ _ z y⟩;rw[ajG];exact a8 X (by omega)
  exact tN O l Q R m K (by simp;omega) hd
 ·cases b
def FM (hT:jH P T) (X:Inv N M L w0 blk V t (EH h) a w) {Y y c C s Z:Nat} {p x:Operand} {τ:Ty} {r:Row} {q cs':List D} {us:List Value} {g:Nat×Nat} (ho:o.op=.store Y p x) (hτ:T Y=some τ)
  (F:h y=some r) (G:r.mp=true) (H:r.cells=[.nr C s Z q]) (hz:r.fz=false) (l:y<PK) (I:blk y=some g) (aa:a.eval p=.pointer (some ⟨g.1,g.2+c,none⟩)) (al:(a.eval x).cells.toList=us) (an:us.length=τ.size) (ao:c+τ.size<=q.length) (h1:∀u∈us,u.oneCell'=true)
  (v:cs'.length=q.length) (J:∀(j:Nat) K m,cs'[j]? = some (.nx K m)->∃n xs k,q[j]? = some (.nx n xs)∧m=xs.take k) (O:∀j,(j<c∨c+τ.size<=j)->cs'[j]? = q[j]?)
  (aq:∀(j:Nat) d,j<τ.size->cs'[c+j]? = some d->(gA d=true->RP w (Own M (EH h) blk) d (us.getD j undef))∧∀K m,d=.nx K m->Ja w blk (NK y (c+j)) s K (us.getD j undef)) :
  e9 P o a w (kN N M L w0 V t h a e o.dst ⟨.und,[(y,some ⟨r.v,r.ty,[.nr C s Z cs'],false,r.lst,true⟩)]⟩):=by
 obtain⟨f,U,k2,k3⟩:=X.D3 F G H l I;have z:=run_storeCells_at P g.1 (g.2+c) r.ty us 0 f w U (by omega) h1;rw[ajU]at z;have Q:(f.toList.take (g.2+c)++us++f.toList.drop (g.2+c+us.length)).toArray.size=f.size:=by simp;omega
 have A:∀j,j<q.length->(f.toList.take (g.2+c)++us++f.toList.drop (g.2+c+us.length)).toArray.getD (g.2+j) undef=if j<c then f.getD (g.2+j) undef else if j<c+us.length then us.getD (j-c) undef else f.getD (g.2+j) undef:=by
  intro j W;rw[uf f us (g.2+c) (g.2+j) (by omega)]
  by_cases ab:j<c
  ·simp_all
  ·rw[if_neg (by omega),if_neg ab];grind
 generalize ar:(f.toList.take (g.2+c)++us++f.toList.drop (g.2+c+us.length)).toArray=arr' at z Q A;have B:(w.setRow g.1 arr').heap[g.1]? = some (.cells arr' r.ty (0,0)):=setRow_heap w g.1 f arr' r.ty (0,0) U;have ad:(w.setRow g.1 arr').heap.size=w.heap.size:=by simp[World.setRow]
 have hheap:∀b,b≠g.1->(w.setRow g.1 arr').heap[b]? = w.heap[b]?:=by
  intro b hb;simp only[World.setRow,ajx];grind
 have R:Own M (EH h) blk g.1 := .inr ⟨y,_,g,gT F G H l,hz,I,rfl⟩;have ae:=TC F G H hz l v J;have hkeep:∀ {d:D} {u:Value},RP w (Own M (EH h) blk) d u->RP (w.setRow g.1 arr') (Own M (EH (b8 h y (some ⟨r.v,r.ty,[.nr C s Z (yh q cs')],false,r.lst,true⟩))) blk) d u:=fun hr=>hr.keep fun b q1 q2=>⟨by rw[ad];exact q1,CY ae q2,hheap b (fun e=>q2 (e ▸ R))⟩;have hS:=X.HR (cs':=cs') (w':=w.setRow g.1 arr') F G H hz l v rfl rfl rfl (by omega) (fun b _ hb=>hheap b (hb g I)) J (fun g' S=>by
  rw[I]at S;cases S;refine⟨by simp[World.shape?,B,U,Q],arr',B,by omega,fun j d W =>?_⟩;have ag:j<q.length:=by
   grind
  rw[A j ag]
  by_cases aj:c<=j∧j<c+τ.size
  ·rw[if_neg (by omega),if_pos (by omega)];obtain⟨i,rfl⟩:∃i,j=c+i:=⟨j-c,by omega⟩;rw[akA];grind
  ·have ah:(if j<c then f.getD (g.2+j) undef else if j<c+us.length then us.getD (j-c) undef else f.getD (g.2+j) undef)=f.getD (g.2+j) undef:=by
    grind
   rw[ah];rw[O j (by omega)]at W;refine⟨fun hd=>hkeep (k3 j d W hd),fun K m he =>?_⟩;subst he;obtain⟨u,q1,q2⟩:=X.G0 F G H l I W;rw[a8 U (by omega)]at q1;simp_all)
 refine .inr (.inl ⟨w.setRow g.1 arr',?_,blk,?_,trivial⟩)
 ·have ai:(a.eval x).cells.size=τ.size:=by grind
  have E:(storeCells ⟨g.1,g.2+c,none⟩ (a.eval x).cells.toList 0).run P w=.ok () (w.setRow g.1 arr'):=by simp_all
  simp[execOp,ho,Instr.storeAt,Instr.sureAddr,aa,storeVar,run_sizeOf (hT Y τ hτ),ai,E]
 ·exact hS.weaken fun _ _ h =>.inl h
def BU {g:Nat×Nat} {a arr':Array Value} {c:Nat} (d:w.heap[g.1]? = some (.cells a c (0,0))):(w.setRow g.1 arr').heap[g.1]? = some (.cells arr' c (0,0))∧(w.setRow g.1 arr').heap.size=w.heap.size∧∀b,b≠g.1->(w.setRow g.1 arr').heap[b]? = w.heap[b]?:=by
 refine⟨setRow_heap w g.1 a arr' c (0,0) d,by simp[World.setRow],fun b e =>?_⟩;simp only[World.setRow,ajx];grind
def Inv.aiU (C:Inv N M L w0 blk V t (EH h) a w) {y c p s G:Nat} {r:Row} {o:List D} (x:h y=some r) (z:r.mp=true) (A:r.cells=[.nr p s G o]) (H:r.fz=false) (i:y<PK) (l:c<o.length) :
  Inv N M L w0 blk V t (EH (b8 h y (some ⟨r.v,r.ty,[.nr p s G (putCells o c [.und])],false,r.lst,true⟩))) a w:=by
 have e:∀(j:Nat) d,(putCells o c [.und])[j]? = some d->d=.und∨o[j]? = some d:=by
  intro j d m
  by_cases q:j=c
  ·subst q;rw[gQ l]at m;simp_all
  ·rw[jh l q]at m;exact .inr m
 have v:∀(j:Nat) B f,(putCells o c [.und])[j]? = some (.nx B f)->∃n I k,o[j]? = some (.nx n I)∧f=I.take k:=by
  intro j B f m;rcases e j _ m with h|h
  ·cases h
  ·exact⟨B,f,f.length,h,by simp⟩
 refine C.HR x z A H i (lG l) rfl rfl rfl (ajo _) (fun _ _ _=>rfl) v (fun g J =>?_);obtain⟨E,K,Q,R⟩:=C.D3 x z A i J;refine⟨rfl,E,K,Q,fun j d m=>⟨fun O =>?_,fun B f S =>?_⟩⟩
 ·rcases e j d m with h|h
  ·subst h;cases O
  ·exact (R j d h O).keep fun b F P=>⟨F,CY (TC x z A H i (lG l) v) P,rfl⟩
 ·subst S;rcases e j _ m with h|h
  ·cases h
  ·obtain⟨u,F,P⟩:=C.G0 x z A i J h;have T:=(ajO.1 h).1;rw[a8 K (by omega)]at F;simp_all
def O7 (hT:jH P T) (hI:Inv N M L w0 blk V t (EH h) a w) {ty y c E s nv F m n:Nat} {p x:Operand} {τ:Ty} {r q:Row} {H:List D} {K:Value} {g:Nat×Nat} (ho:o.op=.store ty p x) (hτ:T ty=some τ) (c1:τ.size=1)
  (hx:h y=some r) (hm:r.mp=true) (hc:r.cells=[.nr E s nv H]) (Z:r.fz=false) (f:y<PK) (hg:blk y=some g) (aD:a.eval p=.pointer (some ⟨g.1,g.2+c,none⟩)) (i:c<H.length)
  (ao:h m=some q) (aq:m<PK) (aE:q.fz=false) (aO:q.lst=true) (ah:q.mp=false) (aP:q.ty=E) (hu:(a.eval x).cells = #[K]) (aM:K.oneCell'=true) (ar:Ja w blk m s n K) (hV:∀o,¬V (NK y o) F) :
  e9 P o a w (kN N M L w0 V t h a e o.dst ⟨.und,[(m,none),(y,some ⟨r.v,r.ty,[.nr E s F (putCells H c [.nx n q.cells])],false,r.lst,true⟩)]⟩):=by
 have aQ:=du;have aN:=hI.big;have S:m≠y:=by
  grind
 have hK:∀o,NK y o≠y∧NK y o≠m∧2*PK<=NK y o:=fun o=>by have:=gK y o;omega
 obtain⟨B,k1,k2,k3⟩:=hI.D3 hx hm hc f hg;have U:=run_storeCells_at P g.1 (g.2+c) r.ty [K] 0 B w k1 (by simp;omega) (fun v hv=>by
  simp_all)
 rw[ajU]at U;have au:(B.toList.take (g.2+c)++[K]++B.toList.drop (g.2+c+[K].length)).toArray.size=B.size:=by simp;omega
 have I:∀j,j<H.length->(B.toList.take (g.2+c)++[K]++B.toList.drop (g.2+c+[K].length)).toArray.getD (g.2+j) undef=if j=c then K else B.getD (g.2+j) undef:=by
  intro j R;rw[uf B [K] (g.2+c) (g.2+j) (by simp;omega)];grind
 generalize aR:(B.toList.take (g.2+c)++[K]++B.toList.drop (g.2+c+[K].length)).toArray=arr' at U au I;obtain⟨J,aF,hheap⟩:=BU (g:=g) (arr':=arr') k1;have hA:=hI.aiU hx hm hc Z f i;have hB:=hA.ahf (fun k=>∃o,k=NK y o) F (fun k hk=>by
  grind) (h':=EH (b8 h y (some ⟨r.v,r.ty,[.nr E s F (putCells H c [.und])],false,r.lst,true⟩))) (fun k hk=>by
  obtain⟨o,rfl⟩:=hk;rw[fI (ay _ _ _) rfl rfl f,fI (ay _ _ _) rfl rfl f];cases (putCells H c [D.und])[o]? with
  | none=>rfl
  | some d=>cases d<;>rfl) (fun k hk=>by
  by_cases hky:rt k=y
  ·rcases rp hky with rfl|h
   ·rw[gT (ay _ _ _) rfl rfl f,gT (ay _ _ _) rfl rfl f]
   simp_all
  ·exact fa (by rw[az _ _ hky,az _ _ hky]))
 generalize av:b8 h y (some (⟨r.v,r.ty,[.nr E s F (putCells H c [.und])],false,r.lst,true⟩:Row))=h2 at hB;have ai:h2 y=some ⟨r.v,r.ty,[.nr E s F (putCells H c [.und])],false,r.lst,true⟩:=by rw[<- av,ay]
 have W:∀z,z≠y->h2 z=h z:=fun z Z=>by rw[<- av,az _ _ Z]
 have aj:EH h2 m=some q:=by
  rw[uQ (by omega),W _ S,ao];simp only[Option.map_some,EY,ah];rfl
 have X:=(hB.rows m q aj).2;have aG:∀b,Own M (forget (EH h2) (some m)) blk b->Own M (EH h2) blk b:=fun b O=>by
  rcases O with O|⟨z,r',g',Z,aH,aI,aJ⟩
  ·exact .inl O
  ·simp only[forget]at Z
   by_cases aw:z=m
   ·subst aw;rw[ay]at Z;cases Z
   ·rw[az _ _ aw]at Z;exact .inr ⟨z,r',g',Z,aH,aI,aJ⟩
 have hC:=hB.Zz (w':=w) (h1:=forget (EH h2) (some m)) (old:=some m) (d:=NK y c) (r0:=⟨F,E,q.cells,false,true,false⟩) (go:=blk m) rfl rfl rfl (ajo _) (fun _ _ _=>rfl) (fun y' C=>by simp_all) rfl (by have:=hK c;omega) (by have:=hK c;omega) (hV c)
  (fun y' r' j s' n' C aK Y=>by
   simp only[forget]at C
   by_cases ad:y'=m
   ·subst ad;rw[ay]at C;cases C
   rw[az _ _ ad]at C;have ae:=(hB.rows y' r' C).2;cases O:blk y' with
   | none =>
    rw[O]at ae;rw[show r'.cells=[] from ae]at Y;cases Y
   | some g' =>
    obtain⟨⟨q1,q2⟩,_⟩:=hB.pha y' r' g' C aK O j _ s' n' Y;rcases q2 with q2|q2
    ·have:=hK c;omega
    ·obtain⟨rfl,rfl⟩:=vB f q1 q2;rw[gT ai rfl rfl f]at C;simp only[ajw]at C;subst C;simp only[alI,gQ i,Option.map_some,ajw]at Y;cases Y) (by
  cases O:blk m with
  | none=>rw[O]at X;exact X
  | some g' =>
   obtain⟨ag,m1,m2,m3⟩:=hB.GL aj O ah;refine⟨.inr ⟨m,g',rfl,O,rfl⟩,ag,by simp_all,m2,fun j d R=>⟨(m3 j d R).1,(m3 j d R).2.keep fun b q1 q2=>⟨q1,?_,rfl⟩⟩⟩;rintro (hn|rfl)
   ·simp_all
   ·exact q2 (.inr ⟨m,q,g',aj,aE,O,rfl⟩)) rfl
 generalize al:b8 (forget (EH h2) (some m)) (NK y c) (some (⟨F,E,q.cells,false,true,false⟩:Row))=ax at hC;have aa:ax y=some ⟨r.v,r.ty,(putCells H c [.und]).mapIdx (ue y s),false,r.lst,true⟩:=by
  rw[<- al,az _ _ (Ne.symm (hK c).1)];simp only[forget];rw[az _ _ (Ne.symm S)];exact gT ai rfl rfl f
 have Q:b8 blk (NK y c) (blk m) y=some g:=by rw[az _ _ (Ne.symm (hK c).1),hg]
 have aL:(putCells H c [D.nx n q.cells]).length=H.length:=lG i;have hD:=hC.lJ (r0:=⟨r.v,r.ty,(putCells H c [.nx n q.cells]).mapIdx (ue y s),false,r.lst,true⟩) (w':=w.setRow g.1 arr') aa rfl rfl rfl rfl rfl (by omega) (fun b _ O=>hheap b (O g Q)) (by
  rw[Q];refine⟨by simp[World.shape?,J,k1,au],?_⟩;have an:=hC.rowIs aa Q;unfold eU at an ⊢;simp only at an ⊢;rcases an with⟨ks,vs,m1,_⟩|⟨m1,ag,m2,m3,m4⟩
  ·exfalso;have:=congrArg List.length m1;simp only[alH,lG i,List.length_singleton]at this;have h0:c=0:=by omega
   subst h0;have aA:=congrArg (fun l:List D=>l[0]?) m1;simp only[alI,gQ i,Option.map_some,List.getElem?_cons_zero,ajw]at aA;cases aA
  ·rw[k1]at m2;simp only[ajw,Obj.cells.injEq]at m2;obtain⟨rfl,-⟩:=m2;refine .inr ⟨fun d hd =>?_,arr',J,by simp_all,fun j d R =>?_⟩
   ·obtain⟨j,R⟩:=ajH hd;simp only[alI,ajm]at R;obtain⟨d0,A,rfl⟩:=R;exact nE _ _ _ _
   ·simp only[alI,ajm]at R;obtain⟨d0,A,rfl⟩:=R;have ab:j<H.length:=by
     grind
    rw[I j ab]
    by_cases G:j=c
    ·subst G;rw[gQ i]at A;cases A;trivial
    ·rw[if_neg G];rw[jh i G]at A;have:=m4 j (ue y s j d0) (by rw[alI,jh i G,A];rfl);exact this.keep fun b q1 q2=>⟨by rw[aF];exact q1,q2,hheap b (fun e=>q2 (.inr ⟨y,_,g,aa,rfl,Q,e.symm⟩))⟩) (fun h=>by cases h) (fun _ g' aB j x' s' n' R=>by
  rw[Q]at aB;cases aB;simp only[alI,ajm]at R;obtain⟨d0,A,he⟩:=R;have ab:j<H.length:=by
   grind
  by_cases G:j=c
  ·subst G;rw[gQ i]at A;simp only[ajw]at A;subst A;simp only[ue,D.ph.injEq]at he;obtain⟨rfl,rfl,rfl⟩:=he;refine⟨⟨f,.inr rfl⟩,K,by rw[a8 J (by omega),I j ab,if_pos rfl],fun r' _ =>?_⟩;rw[ay];exact ar
  ·rw[jh i G]at A;obtain⟨q1,u,q2,q3⟩:=hC.pha y _ g aa rfl Q j x' s' n' (by rw[alI,jh i G,A,<- he];rfl);refine⟨q1,u,?_,q3⟩;rw[a8 k1 (by omega)]at q2;rw[a8 J (by omega),I j ab,if_neg G,q2])
 have aC:b8 ax y (some (⟨r.v,r.ty,(putCells H c [.nx n q.cells]).mapIdx (ue y s),false,r.lst,true⟩:Row))=EH (aS h [(m,none),(y,some ⟨r.v,r.ty,[.nr E s F (putCells H c [.nx n q.cells])],false,r.lst,true⟩)]):=by
  simp only[aS];funext k
  by_cases hky:rt k=y
  ·rcases rp hky with rfl|⟨o',rfl⟩
   ·rw[ay,gT (ay _ _ _) rfl rfl f]
   ·rw[az _ _ (hK o').1,fI (ay _ _ _) rfl rfl f,<- al]
    by_cases hoc:o'=c
    ·subst hoc;rw[ay,gQ i];rfl
    ·rw[az _ _ (fun e=>hoc (vB f f e).2)];simp only[forget];rw[az _ _ (hK o').2.1,fI ai rfl rfl f,jh i hoc,jh i hoc]
  ·rw[az _ _ (fun e=>hky (by rw[e,jv (by omega)])),<- al,az _ _ (fun e=>hky (by rw[e,wQ f]))];simp only[forget]
   by_cases hk1:rt k=m
   ·rcases rp hk1 with rfl|⟨o',rfl⟩
    ·rw[ay,uQ (by omega),az _ _ S,ay];rfl
    ·rw[az _ _ (by have:=gK m o';omega),uP aq,uP aq,W _ S,ao,az _ _ S,ay];simp only[Option.bind_some,Option.bind_none,tV,ah];rfl
   ·rw[az _ _ (fun e=>hk1 (by rw[e,jv (by omega)]))];exact fa (by rw[W _ hky,az _ _ hky,az _ _ hk1])
 refine .inr (.inl ⟨w.setRow g.1 arr',?_,b8 blk (NK y c) (blk m),?_,trivial⟩)
 ·simp[execOp,ho,Instr.storeAt,Instr.sureAddr,aD,storeVar,run_sizeOf (hT ty τ hτ),c1,hu,U]
 ·show Inv _ _ _ _ _ _ _ (EH (aS h _)) _ _;rw[<- aC];exact hD.weaken fun _ _ h =>.inl h
def acN (V:Nat->Nat->Prop) (h:Nat->Option Row) (e:Nat):Prop:=∀x r c s b d a,h x=some r->r.mp=true->r.cells=[.nr c s b d]->x<PK->bump b e=some a->∀o,¬V (NK x o) a
def afJ {g:Nat->Prop} {d:D} {e:List D} {u:Value} (c:plV d=some e) (r:e.all gA=true) (i:RT w g h blk V d u):u.cells.toList.length=e.length∧∀(j:Nat) x,e[j]? = some x->gA x=true∧RP w g (canon x) (u.cells.toList.getD j undef):=by
 have l:∀x∈e,gA x=true:=ajy.1 r;have one:∀(d0:D),e=[d0]->RP w g d0 u->u.cells.toList.length=e.length∧∀(j:Nat) x,e[j]? = some x->gA x=true∧RP w g (canon x) (u.cells.toList.getD j undef):=by
  intro d0 t m;subst t;have o:=l d0 (by simp);have v:=m.cells (gm o).1;rw[v];refine⟨rfl,fun j x f =>?_⟩;cases j with
  | zero=>simp only[List.getElem?_cons_zero,ajw]at f;subst f;exact⟨o,m.canon⟩
  | succ j=>simp at f
 cases d with
 | agg xs =>
  simp only[plV,ajw]at c;subst c;have p:RP w g (.agg xs) u:=i;cases p with
  | agg xs us h1 h2 h3 =>
   have q:(Value.agg us.toArray).cells.toList=us:=by simp[Value.cells]
   rw[q];exact⟨h1,fun j x f=>⟨l x (ajM f),(h2 j x f).canon⟩⟩
 | int k n=>simp only[plV,ajw]at c;exact one _ c.symm i
 | bool b=>simp only[plV,ajw]at c;exact one _ c.symm i
 | str s=>simp only[plV,ajw]at c;exact one _ c.symm i
 | sl a b n xs=>simp only[plV,ajw]at c;exact one _ c.symm i
 | _=>cases c
def aao (hT:jH P T) (W:Inv N M L w0 blk V t (EH h) a w) (ai:acN V h e) {ty:Nat} {p x:Operand} {τ:Ty} {E:cr} (ho:o.op=.store ty p x) (hτ:T ty=some τ) (b:pP τ e h (ev t p) (ev t x)=some E):e9 P o a w (kN N M L w0 V t h a e o.dst E):=by
 have hp:=W.ev p;have hq:=W.ev x;generalize ev t p=pd at *;generalize ev t x=d at *;unfold pP at b;split at b<;>try (cases b;done)
 rename_i y v c;split at b<;>try (cases b;done)
 rename_i r H s nv cs hl;obtain⟨O,hv,hz,Q,C,R⟩:=jE hl;have aj:=gT O Q R C;obtain⟨g,hg,I⟩:=hp.2 _ aj hv;split at b<;>try (cases b;done)
 rename_i f;obtain⟨X,aA⟩:=f;have J:Nl τ y r H s nv cs c (plV d)=some E->e9 P o a w (kN N M L w0 V t h a e o.dst E):=by
  intro b;unfold Nl at b;split at b<;>try (cases b;done)
  rename_i Y al;split at b<;>try (cases b;done)
  rename_i f;obtain⟨d1,d2⟩:=f;simp only[ajw]at b;subst b;obtain⟨u1,u2⟩:=afJ al d2 hq;have aC:(Y.map canon).length=τ.size:=by simp_all
  have m:c+(Y.map canon).length<=cs.length:=by omega
  refine FM hT W ho hτ O Q R hz C hg I rfl (u1.trans d1) X (fun u hu =>?_) (kv m) (fun j S i l =>?_) (fun j l =>?_) (fun j d0 l D =>?_)
  ·obtain⟨j,l⟩:=ajH hu;have aD:=(ajO.1 l).1;obtain⟨Z,q2⟩:=u2 j _ (ajA (by omega));have e1:(a.eval x).cells.toList.getD j undef=u:=by simp_all
   rw[e1]at q2;exact q2.rZ (by rw[oY];exact (gm Z).1)
  ·rw[oc m]at l;split at l
   ·exact⟨S,i,i.length,l,by simp⟩
   ·split at l
    ·rw[ajl,ajm]at l;obtain⟨x0,h1,h2⟩:=l;have:=(u2 _ x0 h1).1;cases x0<;>first|(cases h2;done)|(cases this;done)
    ·exact⟨S,i,i.length,l,by simp⟩
  ·rw[oc m];grind
  ·rw[oc m,if_neg (by omega),if_pos (by omega),akA,ajl,ajm]at D;obtain⟨x0,h1,rfl⟩:=D;obtain⟨Z,q2⟩:=u2 j x0 h1;refine⟨fun _=>q2,fun S i he =>?_⟩;cases x0<;>first|(cases he;done)|(cases Z;done)
 unfold I2 at b;split at b
 ·rename_i z vz s' oz n;split at b<;>try (cases b;done)
  rename_i f;obtain⟨c1,rfl,rfl⟩:=f;have aa:∀ {k:Nat} {q:Row},EH h z=some q->q.v=vz->Ja w blk z s' n (a.eval x):=by
   intro k q an ao;rcases hq.2 q an ao with⟨g',o',Y,N',t',k0,U,k2,k3,k4,k5⟩|⟨k0,U,A,k2⟩
   ·obtain⟨k6,k7⟩:=k2 (.inr rfl);rw[ajU]at k6;subst k6;exact .inl ⟨g',Y,N',t',k0,U,k7,k3,k4,k5⟩
   ·exact .inr ⟨k0,U,A,k2⟩
  have ab:∀ {B:Ja w blk z s' n (a.eval x)},(a.eval x).cells = #[a.eval x]∧(a.eval x).oneCell'=true:=by
   intro B;rcases B with⟨g',Y,N',t',k0,U,_⟩|⟨k0,U,A,k2⟩
   ·rw[U];exact⟨rfl,rfl⟩
   ·rw[k2];exact⟨rfl,rfl⟩
  split at b
  ·rename_i aq;subst aq;split at b<;>try (cases b;done)
   rename_i ar;subst ar;rw[alG]at b;unfold Nj at b;split at b<;>try (cases b;done)
   rename_i n0 xs hn;split at b<;>try (cases b;done)
   rename_i aB;simp only[ajw]at b;subst b;have au:EH h (NK y c)=some ⟨vz,H,xs,r.fz,true,false⟩:=by rw[fI O Q R C,hn];rfl
   have hH:=aa (k:=0) au rfl;obtain⟨K,G⟩:=ab (B:=hH);have F:=(ajO.1 hn).1;refine FM hT W ho hτ O Q R hz C hg I (us:=[a.eval x]) (by rw[K]) (by simpa using c1.symm) X (fun u hu=>by simp_all) (lG F) (fun j S i l =>?_) (fun j l=>jh F (by omega)) (fun j d0 l D =>?_)
   ·by_cases ad:j=c
    ·subst ad;rw[gQ F]at l;grind
    ·rw[jh F ad]at l;exact⟨S,i,i.length,l,by simp⟩
   ·obtain rfl:j=0:=by omega
    rw[ajU,gQ F]at D;simp only[ajw]at D;subst D;refine⟨fun hd=>(by cases hd),fun S i he =>?_⟩;simp_all
  ·split at b<;>try (cases b;done)
   rename_i av;split at b<;>try (cases b;done)
   rename_i q ae;split at b<;>try (cases b;done)
   rename_i aw;obtain⟨Z,q2,q3,q4⟩:=aw;obtain⟨ag,ax⟩:=cM ae;have ah:=js ae;unfold C9 at b;split at b<;>try (cases b;done)
   rename_i ay hb;simp only[ajw]at b;subst b;have az:EH h z=some q:=by
    rw[uQ (by omega),ag];simp only[Option.map_some,EY,ah];rfl
   have hH:=aa (k:=0) az ax;obtain⟨K,G⟩:=ab (B:=hH);exact O7 hT W ho hτ c1 O Q R hz C hg I (by omega) ag av Z q2 ah q3 K G hH (ai y r H s' nv cs ay O Q R C hb)
 ·exact J b
end
def aby:Option D->Bool
 | some (.sl true true 0 [])=>true
 | _=>false
def pk (φ:Ty) (f:Nat):List D:=putCells ((φ.zero.map qu).map canon) f [.nx 0 []]
def rn (T:Nat->Option Ty) (τ:Ty) (e d a s f:Nat) (l c:D):Option cr :=
 match τ.ds with
 | .slice el =>
  match T el,s8 l,s8 c with
  | some φ,some l,some c =>
   if l<=c∧c<=maxLen∧c*φ.bytes<=140737488355328∧0<φ.size∧(φ.zero.map qu).all gA=true∧φ.zero.length=φ.size∧d<PK∧aby ((φ.zero.map qu).drop f).head? = true then
    some ⟨.buf d e φ.size 0 l,[(d,some ⟨e,el,[.nr a s (4*e+2) (p7 l (pk φ f))],false,true,true⟩)]⟩
   else none
  | _,_,_=>none
 | _=>none
def mkA (τ:Ty) (b e d a s f:Nat):Option cr :=
 if 0<τ.size∧(τ.zero.map qu).all gA=true∧τ.zero.length=τ.size∧d<PK∧aby ((τ.zero.map qu).drop f).head? = true then
  some ⟨.ptr d e 0,[(d,some ⟨e,b,[.nr a s (4*e+2) (pk τ f)],false,false,true⟩)]⟩
 else none
def iX (T:Nat->Option Ty) (Γ:Env) (e:Nat) (o:Oper) (g:Operand->D):Option cr :=
 match o.op with
 | .makeSlice b l c =>
  match o.dst with
  | some d =>
   match Γ.nst d with
   | some (a,s,f)=>match T b with|some τ=>rn T τ e d a s f (g l) (g c)|none=>none
   | none=>none
  | none=>none
 | .alloc b =>
  match o.dst with
  | some d =>
   match Γ.nst d with
   | some (a,s,f)=>match T b with|some τ=>mkA τ b e d a s f|none=>none
   | none=>none
  | none=>none
 | _=>none
section
variable {P:Program} {T:Nat->Option Ty} {N:Nat} {M:Nat->Prop} {L:kQ} {w0:World} {blk:Nat->Option (Nat×Nat)} {V:Nat->Nat->Prop} {t:Nat->D} {h:Nat->Option Row} {a:Act} {w:World} {e:Nat} {o:Oper} {Γ:Env}
def Inv.addEmpty (l:Inv N M L w0 blk V t h a w) (S:Nat->Prop) (Z Q:Nat) (hS:∀k,S k->N<=k∧k≠0∧¬V k Q∧h k=none) {h':Nat->Option Row} {blk':Nat->Option (Nat×Nat)} (he:∀k,S k->h' k=some ⟨Q,Z,[],false,true,false⟩∧blk' k=none) (F:∀k,¬S k->h' k=h k∧blk' k=blk k)
  (R:∀y r g,h y=some r->r.mp=true->blk y=some g->∀j x s n:Nat,r.cells[j]? = some (D.ph x s n)->S x->∃u,w.cell? ⟨g.1,g.2+j,none⟩=some u∧n=0∧∃A,u=.slice A 0 0):Inv N M L w0 blk' V t h' a w:=by
 have q:∀x d,h' x=some d->(S x∧d=⟨Q,Z,[],false,true,false⟩∧blk' x=none)∨(¬S x∧h x=some d∧blk' x=blk x):=by
  grind
 have T:∀b,¬Own M h blk b->¬Own M h' blk' b:=by
  intro b G z;rcases z with z|⟨x,d,g,H,U,m,e⟩
  ·exact G (.inl z)
  ·rcases q x d H with⟨_,_,f⟩|⟨_,o,f⟩
   ·simp_all
   ·exact G (.inr ⟨x,d,g,o,U,f ▸ m,e⟩)
 have I:I9 w w (Own M h blk) (Own M h' blk') h h' blk blk' V V:=⟨fun b C p=>⟨C,T b p,rfl⟩,fun _ _ h=>h,fun x v hv d C p=>by
  grind⟩
 exact {
  tab:=l.tab.keep fun b C p=>⟨C,T b p,rfl⟩
  below:=l.below
  mlt:=l.mlt
  lent:=l.lent
  pin:=fun go m=>⟨(l.pin go m).1,fun d hr hv=>by
   rcases q 0 d hr with⟨k1,_⟩|⟨_,o,f⟩
   ·grind
   ·rw[f];exact (l.pin go m).2 d o hv⟩
  defers:=l.defers
  tsz:=l.tsz
  slots:=fun i=>(l.slots i).mono I
  rows:=fun x d H=>by
   rcases q x d H with⟨k1,rfl,f⟩|⟨_,o,f⟩
   ·rw[f];exact⟨fun hn=>by grind,rfl⟩
   ·obtain⟨C,p⟩:=l.rows x d o;rw[f];refine⟨C,?_⟩;cases G:blk x with
    | none=>rw[G]at p;exact p
    | some g =>
     rw[G]at p;exact⟨p.1,p.2.keep rfl rfl rfl rfl fun b E B=>⟨E,T b B,rfl⟩⟩
  inj:=fun x y r s g g' H J m W e=>by
   rcases q x r H with⟨_,_,f⟩|⟨_,o,f⟩
   ·simp_all
   rcases q y s J with⟨_,_,O⟩|⟨_,B,O⟩
   ·simp_all
   exact l.inj x y r s g g' o B (f ▸ m) (O ▸ W) e
  big:=l.big
  pha:=fun y d g J hm m j x s n hc=>by
   rcases q y d J with⟨_,rfl,f⟩|⟨_,o,f⟩
   ·simp_all
   rw[f]at m;obtain⟨h0,u,E,B⟩:=l.pha y d g o hm m j x s n hc;refine⟨h0,u,E,?_⟩
   by_cases P:S x
   ·obtain⟨u',p1,p2,p3⟩:=R y d g o hm m j x s n hc P;rw[E]at p1;cases p1;exact fun K _ =>.inr ⟨(he x P).2,p2,p3⟩
   ·exact fun K O=>by
     rw[(F x P).2];exact B K ((F x P).1 ▸ O)
  ali:=fun y d g J U X m j c d' hj Y=>by
   rcases q y d J with⟨_,rfl,f⟩|⟨_,o,f⟩
   ·simp_all
   rw[f]at m;obtain⟨u,E,B⟩:=l.ali y d g o U X m j c d' hj Y;exact⟨u,E,B.mono I⟩ }
def Bi (d:Nat) (c:d<PK):EL (EH h) (EH (b8 h d none)):=by
 intro k e a
 by_cases b:rt k=d
 ·rcases rp b with rfl|⟨o,rfl⟩
  ·rw[uQ (by omega),ay]at a;cases a
  ·rw[uP c,ay]at a;cases a
 ·exact⟨e,by rw[<- a];exact fa (az _ _ b).symm,.refl _⟩
def V9 {v:Value} (h:qu v=.sl true true 0 []):v=.slice none 0 0:=by
 unfold qu at h;grind
open Classical in
def aam (hT:jH P T) (hI:Inv N M L w0 blk V t (EH h) a w) {ty d Y s f:Nat} {l c:Operand} {τ:Ty} {E:cr} (ho:o.op=.makeSlice ty l c) (hd:o.dst=some d) (hV:kn N V d e) (aC:∀o,¬V (NK d o) (4*e+2)) (hτ:T ty=some τ)
  (K:rn T τ e d Y s f (ev t l) (ev t c)=some E):e9 P o a w (kN N M L w0 V t h a e o.dst E):=by
 have an:=hI.ev l;have ao:=hI.ev c;have aB:=hI.big;have aD:=du;obtain⟨dd,C,hc⟩:=under hT hτ;unfold rn at K;split at K<;>try (cases K;done)
 rename_i el aq;rw[aq]at hc;have:=hZ hc;subst this;split at K<;>try (cases K;done)
 rename_i φ n k hφ hn I;split at K<;>try (cases K;done)
 rename_i Z;obtain⟨c1,c2,c3,c4,c5,c6,q,c8⟩:=Z;simp only[ajw]at K;subst K;obtain⟨q1,hl⟩:=y5 hn an;obtain⟨q2,ar⟩:=y5 I ao;obtain⟨d',i,z,g1,g2,g3,g4,g5,g6,g7⟩:=(hT el φ hφ).get;have hb:(i.bytes:Int)*(k:Int)<=281474976710656:=by
  grind
 have ag:(k:Int)<=9223372036854775807:=by
  simp only[maxLen]at c2;omega
 have F:=run_make (P:=P) w ty el i z C g3 g6 q1 q2 n k (by omega) (by omega) hb ag;simp only[Int.toNat_natCast]at F;have aE:(φ.zero.map qu).length=φ.size:=by simp_all
 have hf:f<φ.size:=by
  rw[alG]at c8;rcases aj1 f φ.size with aa|aF
  ·exact aa
  ·rw[alJ (by omega)]at c8;cases c8
 have ah:(φ.zero.map qu)[f]? = some (.sl true true 0 []):=by
  rw[alG]at c8;unfold aby at c8;grind
 have ai:(pk φ f).length=φ.size:=by
  unfold pk;rw[lG (by simp;omega)];simp[c6]
 have U:∀(m:Nat) (x:D),(pk φ f)[m]? = some x->(m=f∧x=.nx 0 [])∨(m≠f∧∃y,(φ.zero.map qu)[m]? = some y∧x=canon y):=by
  intro m x hm;unfold pk at hm
  by_cases aj:m=f
  ·subst aj;rw[gQ (by simp;omega)]at hm;simp_all
  ·rw[jh (by simp;omega) aj,ajl,ajm]at hm;grind
 generalize al:madeCells z.cells (k*i.size)=vs at F;have au:vs.size=k*φ.size:=by rw[<- al];simp[madeCells,g4]
 have W:∀j,j<k*φ.size->vs.getD j undef=φ.zero.toArray.getD (j % φ.size) undef:=by
  intro j p;rw[<- al,g7,g4,<- c6];have:=yC φ.zero k j (by rw[c6];exact p);simpa [madeCells,List.getD] using this
 have ab:∀(j:Nat) (x:D),(p7 n (pk φ f))[j]? = some x->j<n*φ.size∧(pk φ f)[j % φ.size]? = some x:=by
  intro j x p;have:=EU _ _ _ _ p
  rwa [ai]at this
 have aG:n*φ.size<=k*φ.size:=aj2 _ c1;have X:∀(M':Nat->Prop) (w':World) (j:Nat) (x:D),(p7 n (pk φ f))[j]? = some x->gA x=true->RP w' M' x (vs.getD j undef):=by
  intro M' w' j x p av;obtain⟨r1,r2⟩:=ab j x p;rw[W j (by omega)];rcases U _ x r2 with⟨_,rfl⟩|⟨_,y,h1,rfl⟩
  ·cases av
  ·exact (tv (w:=w') (M:=M') φ.zero (ajy.2 fun y hy=>(gm (ajy.1 c5 y hy)).1) _ y h1).2.canon
 have G:∀(j:Nat) (n':Nat) (H:List D),(p7 n (pk φ f))[j]? = some (.nx n' H)->n'=0∧H=[]∧vs.getD j undef=.slice none 0 0:=by
  intro j n' H p;obtain⟨r1,r2⟩:=ab j _ p;rcases U _ _ r2 with⟨hm,O⟩|⟨_,y,h1,O⟩
  ·simp only[D.nx.injEq]at O;refine⟨O.1,O.2,?_⟩;rw[W j (by omega),hm];rw[ajl,ajm]at ah;obtain⟨v,v1,v2⟩:=ah;simp only[ajs,List.getElem?_toArray,v1,Option.getD_some];exact V9 v2
  ·have:=ajy.1 c5 y (ajM h1);cases y<;>first|(cases O;done)|(cases this;done)
 generalize aw:p7 n (pk φ f)=cs at ab X G;have aH:cs.length=n*φ.size:=by rw[<- aw,tT,ai]
 have hA:=hI.le (Bi (h:=h) d q);have hold:∀b,b<w.heap.size->(w.alloc (.cells vs el)).heap[b]? = w.heap[b]?:=fun b hb=>Below.heap_alloc w _ b hb;have Q:=(Below.refl w.heap.size w).alloc (ajo _) (.cells vs el);have B:=heap_alloc_new w (.cells vs el);have ad:∀o,EH (b8 h d none) (NK d o)=none:=fun o=>by rw[uP q,ay];rfl
 have ae:∀o,NK d o≠d:=fun o=>by have:=gK d o;omega
 have hB:=hA.Fg (w':=w.alloc (.cells vs el)) (h1:=EH (b8 h d none)) (old:=none) (d:=d) (e:=e) (r0:=⟨e,el,cs.mapIdx (ue d s),false,true,true⟩) (go:=some (w.heap.size,0)) Q.os Q.tape Q.output Q.size (fun k I _=>hold k I) (fun y hy=>by cases hy) rfl hV
  ⟨.inl (ajo _),.inr ⟨fun x hx=>by
   obtain⟨j,p⟩:=ajH hx;simp only[alI,ajm]at p;obtain⟨d0,A,rfl⟩:=p;exact nE _ _ _ _,vs,B,by grind,fun j x p=>by
   simp only[alI,ajm]at p;obtain⟨d0,A,rfl⟩:=p;rw[akl]
   by_cases C:gA d0=true
   ·rw[lK C];exact (gm C).2.2.2 (X _ _ j d0 A C)
   ·cases d0<;>first|trivial|exact absurd rfl C⟩⟩ rfl rfl (fun _ g hg j x s' n' p=>by
   cases hg;simp only[alI,ajm]at p;obtain⟨d0,A,O⟩:=p;obtain⟨H,rfl,rfl,rfl⟩:=tr O;have aa:=(ajO.1 A).1;refine⟨⟨q,.inr rfl⟩,_,a8 B (by omega),fun r hr =>?_⟩;rw[az _ _ (ae j),ad]at hr;cases hr)
 obtain⟨S,hS⟩:∃S:Nat->Prop,∀k,S k↔∃o H,k=NK d o∧cs[o]? = some (.nx 0 H):=⟨_,fun _=>Iff.rfl⟩;have hC:=hB.addEmpty S Y (4*e+2) (h':=EH (b8 h d (some ⟨e,el,[.nr Y s (4*e+2) cs],false,true,true⟩))) (blk':=fun k=>if S k then none else b8 blk d (some (w.heap.size,0)) k) (fun k I=>by
   obtain⟨J,H,rfl,R⟩:=(hS k).1 I;have:=gK d J;refine⟨by omega,by omega,?_,by rw[az _ _ (ae J),ad]⟩;grind) (fun k I=>by
   refine⟨?_,by rw[if_pos I]⟩;obtain⟨J,H,rfl,R⟩:=(hS k).1 I;rw[fI (ay _ _ _) rfl rfl q,R];obtain⟨_,rfl,_⟩:=G J 0 H R;rfl) (fun k I=>by
   refine⟨?_,by rw[if_neg I]⟩
   by_cases hkd:rt k=d
   ·rcases rp hkd with rfl|⟨J,rfl⟩
    ·rw[ay,gT (ay _ _ _) rfl rfl q]
    ·rw[az _ _ (ae J),ad,fI (ay _ _ _) rfl rfl q];cases aI:cs[J]? with
     | none=>rfl
     | some d0 =>
      cases d0 with
      | nx n' H =>
       grind
      | _=>rfl
   ·rw[az _ _ (fun e=>hkd (by rw[e,jv (by omega)]))];exact fa (by rw[az _ _ hkd,az _ _ hkd])) (fun y r g hy hm hg j x s' n' p hs=>by
   obtain⟨J,H,rfl,R⟩:=(hS _).1 hs;obtain⟨⟨p1,p2⟩,u,p3,_⟩:=hB.pha y r g hy hm hg j _ s' n' p;rcases p2 with p2|p2
   ·have:=gK d J;omega
   obtain⟨rfl,rfl⟩:=vB q p1 p2;rw[ay]at hy hg;cases hy;cases hg;simp only[alI,ajm]at p;obtain⟨d0,A,O⟩:=p;obtain⟨ax,rfl,_,rfl⟩:=tr O;obtain⟨k1,_,k3⟩:=G J n' ax A;have aa:=(ajO.1 A).1;refine⟨_,a8 B (by omega),k1,none,?_⟩;grind)
 have aA:¬S d:=fun hs=>by
  grind
 refine aN (v := .slice (some ⟨w.heap.size,0,none⟩) n k) (w':=w.alloc (.cells vs el)) ?_ ⟨fun k=>if S k then none else b8 blk d (some (w.heap.size,0)) k,?_,?_⟩
 ·simp[execOp,ho,hl,ar,F]
 ·refine hC.weaken fun x v hx =>?_;grind
 ·exact vC (g:=(w.heap.size,0)) (.inr ⟨hd,rfl⟩) (by rw[if_neg aA,ay]) B c1 c2 (by rw[au];simp)
end
section
variable {P:Program} {T:Nat->Option Ty} {N:Nat} {M:Nat->Prop} {L:kQ} {w0:World} {blk:Nat->Option (Nat×Nat)} {V:Nat->Nat->Prop} {t:Nat->D} {h:Nat->Option Row} {a:Act} {w:World} {e:Nat} {o:Oper} {Γ:Env}
def Inv.aeZ (l:Inv N M L w0 blk V t h a w) (S:Nat->Prop) {w':World} {h':Nat->Option Row} {blk':Nat->Option (Nat×Nat)} {V':Nat->Nat->Prop} (hVV:∀x v,V x v->V' x v)
  (ah:w'.os=w.os) (Q:w'.tape=w.tape) (Y:w'.output=w.output) (R:w.heap.size<=w'.heap.size)
  (hblock:∀k,k<w.heap.size->(∀x r g,S x->h x=some r->blk x=some g->k≠g.1)->w'.heap[k]? = w.heap[k]?)
  (Z:∀x r,S x->h x=some r->r.fz=false)
  (B:∀x,¬S x->h' x=h x∧blk' x=blk x)
  (T:∀x r,S x->h' x=some r->r.fz=false∧(x<N->V' x r.v)∧(match blk' x with
   | some g=>(w.heap.size<=g.1∨∃y s F,S y∧h y=some s∧blk y=some F∧g.1=F.1)∧eU w' (Own M h' blk') g r
   | none=>r.cells=[]))
  (aa:∀x y r s g I,S x->S y->h' x=some r->h' y=some s->blk' x=some g->blk' y=some I->g.1=I.1->x=y)
  (U:∀x r,S x->V x r.v->h' x=some r->(∃r0,h x=some r0∧r0.v=r.v)∧blk' x=blk x∧∀g,blk x=some g->w'.shape? g.1=w.shape? g.1)
  (ab:∀y r g,S y->h' y=some r->r.mp=true->blk' y=some g->∀j x s n:Nat,r.cells[j]? = some (D.ph x s n)->Sz y j x∧∃u,w'.cell? ⟨g.1,g.2+j,none⟩=some u∧PhR w' h' blk' x s n u)
  (ai:∀y r (j x s n:Nat),¬S y->h y=some r->r.mp=true->r.cells[j]? = some (D.ph x s n)->¬S x) :
  Inv N M L w0 blk' V' t h' a w':=by
 have hother:∀x r g,¬S x->h x=some r->blk x=some g->w'.heap[g.1]? = w.heap[g.1]?:=fun x r g hs f d=>hblock _ (l.lt f d) (fun y r' I A aj m e=>hs (by rw[l.inj x y r r' g I f aj d m e];exact A));have W:∀b,b<w.heap.size->¬Own M h blk b->w'.heap[b]? = w.heap[b]?:=fun b hb hn=>hblock b hb fun x r g hs f d H=>hn (.inr ⟨x,r,g,f,Z x r hs f,d,H.symm⟩);have J:∀x r g,h' x=some r->blk' x=some g->w.heap.size<=g.1∨∃y s F,h y=some s∧blk y=some F∧g.1=F.1∧(S y↔S x)∧(s.fz=false∨s=r)∧(S x∨y=x):=by
  intro x r g f d
  by_cases hs:S x
  ·have:=(T x r hs f).2.2;rw[d]at this;rcases this.1 with k|⟨y,s,F,k1,o,C,P⟩
   ·exact .inl k
   ·exact .inr ⟨y,s,F,o,C,P,⟨fun _=>hs,fun _=>k1⟩,.inl (Z y s k1 o),.inl hs⟩
  ·obtain⟨k1,o⟩:=B x hs;exact .inr ⟨x,r,g,by rw[<- k1];exact f,by rw[<- o];exact d,rfl,Iff.rfl,.inr rfl,.inr rfl⟩
 have ad:∀b,b<w.heap.size->¬Own M h blk b->¬Own M h' blk' b:=by
  intro b hb hn X;rcases X with X|⟨x,r,g,f,hz,d,H⟩
  ·exact hn (.inl X)
  ·rcases J x r g f d with k|⟨y,s,F,k1,o,C,_,P,_⟩
   ·omega
   ·exact hn (.inr ⟨y,s,F,k1,P.elim id (fun e=>by rw[e];exact hz),o,by rw[<- C,H]⟩)
 have hk:∀b,b<w.heap.size->¬Own M h blk b->b<w'.heap.size∧¬Own M h' blk' b∧w'.heap[b]? = w.heap[b]?:=fun b h1 h2=>⟨by omega,ad b h1 h2,W b h1 h2⟩;have ae:∀x v,V x v->∀r',h' x=some r'->r'.v=v->(∃r,h x=some r∧r.v=v)∧blk' x=blk x∧∀g,blk x=some g->w'.shape? g.1=w.shape? g.1:=by
  intro x v hv r' f hr
  by_cases hs:S x
  ·subst hr;exact U x r' hs hv f
  ·obtain⟨k1,o⟩:=B x hs;rw[k1]at f;exact⟨⟨r',f,hr⟩,o,fun g d=>de (hother x r' g hs f d)⟩
 have ag:I9 w w' (Own M h blk) (Own M h' blk') h h' blk blk' V V':=⟨hk,hVV,ae⟩;exact {
  tab:=l.tab.keep hk
  below:=l.below.trans (L':=fun k=>∃x r g,S x∧h x=some r∧blk x=some g∧k=g.1) ⟨ah,Q,Y,R,fun k al hn=>hblock k al (fun x r g hs f d H=>hn ⟨x,r,g,hs,f,d,H⟩)⟩ (fun k ⟨x,r,g,hs,f,d,H⟩ ao=>by
   rcases l.base f d with hb|hb
   ·omega
   ·rw[H];exact hb)
  mlt:=l.mlt
  lent:=l.lent
  pin:=fun p hp=>⟨hVV _ _ (l.pin p hp).1,fun r hr hv=>by
   obtain⟨⟨r0,k1,o⟩,C,P⟩:=ae 0 0 (l.pin p hp).1 r hr hv;obtain⟨O,K⟩:=(l.pin p hp).2 r0 k1 o;exact⟨C.trans O,fun g d=>(P g (O.trans d)).trans (K g d)⟩⟩
  defers:=l.defers
  tsz:=l.tsz
  slots:=fun i=>(l.slots i).mono ag
  rows:=fun x r f=>by
   by_cases hs:S x
   ·obtain⟨k1,o,C⟩:=T x r hs f;refine⟨o,?_⟩;cases d:blk' x with
    | none=>rw[d]at C;exact C
    | some g =>
     rw[d]at C;refine⟨?_,C.2⟩;rcases C.1 with q|⟨y,s,F,_,K,q3,q4⟩
     ·exact .inl (ajq l.below.size q)
     ·rw[q4];exact l.base K q3
   ·obtain⟨k1,o⟩:=B x hs;rw[k1]at f;rw[o];exact⟨fun hn=>hVV _ _ ((l.rows x r f).1 hn),(l.rows x r f).2.keep (fun g d=>hother x r g hs f d) hk⟩
  inj:=fun x y r s g I f A d m H=>by
   by_cases E:S x
   ·by_cases G:S y
    ·exact aa x y r s g I E G f A d m H
    ·exfalso;obtain⟨k1,o⟩:=B y G;rw[k1]at A;rw[o]at m;rcases J x r g f d with k|⟨z,s0,F,O,K,q3,q4,_⟩
     ·have:=l.lt A m;omega
     ·have:=l.inj z y s0 s F I O A K m (q3.symm.trans H);subst this;exact G (q4.2 E)
   ·obtain⟨k1,o⟩:=B x E;rw[k1]at f;rw[o]at d
    by_cases G:S y
    ·exfalso;rcases J y s I A m with k|⟨z,s0,F,O,K,q3,q4,_⟩
     ·have:=l.lt f d;omega
     ·have:=l.inj z x s0 r F g O f K d (q3.symm.trans H.symm);subst this;exact E (q4.2 G)
    ·obtain⟨C,P⟩:=B y G;rw[C]at A;rw[P]at m;exact l.inj x y r s g I f A d m H
  big:=l.big
  pha:=fun y r g A hm d j x s n hc=>by
   by_cases hs:S y
   ·exact ab y r g hs A hm d j x s n hc
   ·obtain⟨k1,o⟩:=B y hs;rw[k1]at A;rw[o]at d;obtain⟨h0,u,O,K⟩:=l.pha y r g A hm d j x s n hc;have E:=ai y r j x s n hs A hm hc;obtain⟨C,P⟩:=B x E;exact⟨h0,u,(ajk (a:=⟨g.1,g.2+j,none⟩) (hother y r g hs A d)).trans O,K.mono fun r' g1=>by
     rw[C]at g1;exact⟨⟨r',g1⟩,P,fun I m=>de (hother x r' I E g1 m)⟩⟩
  ali:=fun y r g A hz hl d j c d' hj an=>by
   by_cases hs:S y
   ·rw[(T y r hs A).1]at hz;cases hz
   ·obtain⟨k1,o⟩:=B y hs;rw[k1]at A;rw[o]at d;obtain⟨u,O,K⟩:=l.ali y r g A hz hl d j c d' hj an;exact⟨u,(ajk (a:=⟨g.1,g.2+j,none⟩) (hother y r g hs A d)).trans O,K.mono ag⟩ }
def Uz {h:Nat->Option Row} {k:Nat} (a:h (rt k)=none):EH h k=none:=by
 have:=fa (h:=h) (h':=fun _=>none) (k:=k) a;rw[this];unfold EH;split<;>rfl
def fB {h:Nat->Option Row} {x k:Nat} {r c:Row} {e s f:Nat} {d:List D} (g:h x=some r) (i:r.mp=true) (j:r.cells=[.nr e s f d]) (l:x<PK) (m:rt k=x) (a:EH h k=some c) :
  (k=x∧c=⟨r.v,r.ty,d.mapIdx (ue x s),r.fz,r.lst,true⟩)∨∃o n b,k=NK x o∧d[o]? = some (.nx n b)∧c=⟨f,e,b,r.fz,true,false⟩:=by
 rcases rp m with rfl|⟨o,rfl⟩
 ·rw[gT g i j l]at a;exact .inl ⟨rfl,by simpa using a.symm⟩
 ·rw[fI g i j l]at a;unfold GY at a;split at a
  ·rename_i n b p;exact .inr ⟨o,n,b,rfl,p,by simpa using a.symm⟩
  ·cases a
def BR {x:Nat} (a:x<PK):rt x=x:=jv (by have:=du;omega)
def adM {r c:Row} {k:Nat} (a:EH (oB r) k=some c):rt k=0:=by
 by_cases b:rt k=0
 ·exact b
 ·rw[Uz (by unfold oB;rw[if_neg b])]at a;cases a
def pG:0<PK:=by rw[du];decide
def kl {k b t s c:Nat} {a:List D} {d:Row} (e:EH (oB (jt b t s c a)) k=some d) :
  (k=0∧d=⟨0,b,a.mapIdx (ue 0 s),false,true,true⟩)∨∃o n f,k=NK 0 o∧a[o]? = some (.nx n f)∧d=⟨c,t,f,false,true,false⟩ :=
 fB (r:=jt b t s c a) rfl rfl rfl pG (adM e) e
def yo {a t s c:Nat} {b:List D} : EH (oB (jt a t s c b)) 0=some ⟨0,a,b.mapIdx (ue 0 s),false,true,true⟩ :=
 gT (r:=jt a t s c b) rfl rfl rfl pG
def wk {c t s a o n:Nat} {b d:List D} (e:b[o]? = some (.nx n d)):EH (oB (jt c t s a b)) (NK 0 o)=some ⟨a,t,d,false,true,false⟩:=by
 rw[fI (r:=jt c t s a b) rfl rfl rfl pG,e];rfl
def X1 (x k:Nat):Nat:=@ite _ (k<2*PK) (ltB k (2*PK)) x (NK x (k / PK-2))
def uJ (x:Nat):X1 x 0=x:=if_pos (by have:=du;omega)
def rT (x o:Nat):X1 x (NK 0 o)=NK x o:=by
 unfold X1;rw[if_neg (by have:=gK 0 o;omega),E8 o pG]
def tC (blk:Nat->Option (Nat×Nat)) (x k:Nat):Option (Nat×Nat):=blk (X1 x k)
def InX (blk:Nat->Option (Nat×Nat)) (h:Nat->Option Row) (x b:Nat):Prop:=∃k r g,rt k=x∧EH h k=some r∧blk k=some g∧g.1=b
def LX {h:Nat->Option Row} {x:Nat} {r:Row} {m s q:Nat} {p:List D} (e:h x=some r) (f:r.mp=true) (i:r.cells=[.nr m s q p]) (c:x<PK) (b:Nat):yJ (tC blk x) (EH (oB (jt r.ty m s 0 p))) b↔InX blk h x b:=by
 constructor
 ·rintro⟨k,t,g,j,a,d⟩;rcases kl j with⟨rfl,_⟩|⟨o,n,u,rfl,l,_⟩
  ·rw[tC,uJ]at a;exact⟨x,_,g,BR c,gT e f i c,a,d⟩
  ·rw[tC,rT]at a;exact⟨NK x o,_,g,wQ c,by rw[fI e f i c,l];rfl,a,d⟩
 ·rintro⟨k,t,g,v,j,a,d⟩;rcases fB e f i c v j with⟨rfl,_⟩|⟨o,n,u,rfl,l,_⟩
  ·exact⟨0,_,g,yo,by rw[tC,uJ];exact a,d⟩
  ·exact⟨NK 0 o,_,g,wk l,by rw[tC,rT];exact a,d⟩
def Inv.afy (F:Inv N M L w0 blk V t (EH h) a w) {x:Nat} {r:Row} {H s W:Nat} {z:List D} (A:h x=some r) (B:r.mp=true) (C:r.cells=[.nr H s W z]) (hz:r.fz=false) (m:x<PK) {Q:Nat->Prop} (X:∀b,Q b->Own M (EH h) blk b) :
  Jb w Q (tC blk x) (EH (oB (jt r.ty H s 0 z))) where
 rows k r' p:=by
  rcases kl p with⟨rfl,rfl⟩|⟨o,n,I,rfl,G,rfl⟩
  ·rw[tC,uJ];cases c:blk x with
   | none =>
    have:=(F.rows x _ (gT A B C m)).2;rw[c]at this;have h1:z.mapIdx (ue x s)=[]:=this;have h2:z.length=0:=by
     have:=congrArg List.length h1;simpa using this
    show z.mapIdx (ue 0 s)=[];rw[aku h2];rfl
   | some g =>
    obtain⟨q,v,y,E⟩:=F.D3 A B C m c;refine .inr ⟨fun d hd =>?_,q,v,by simpa using y,fun j d e =>?_⟩
    ·obtain⟨j,e⟩:=ajH hd;simp only[alI,ajm]at e;obtain⟨d0,f,rfl⟩:=e;exact nE _ _ _ _
    ·simp only[alI,ajm]at e;obtain⟨d0,f,rfl⟩:=e
     by_cases i:gA d0=true
     ·rw[lK i];exact (gm i).2.2.2 ((E j d0 f i).less X)
     ·cases d0<;>first|trivial|exact absurd rfl i
  ·rw[tC,rT];have hq:EH h (NK x o)=some ⟨W,H,I,r.fz,true,false⟩:=by rw[fI A B C m,G];rfl
   have:=(F.rows _ _ hq).2;cases c:blk (NK x o) with
   | none=>rw[c]at this;exact this
   | some g =>
    rw[c]at this;obtain⟨q,v,y,E⟩:=this.2;exact⟨q,v,y,fun j d e=>⟨(E j d e).1,(E j d e).2.less X⟩⟩
 inj k l K Y g g' p O c P R:=by
  have key:∀ {k:Nat} {K:Row} {g:Nat×Nat},EH (oB (jt r.ty H s 0 z)) k=some K->tC blk x k=some g->∃Y,EH h (X1 x k)=some Y∧blk (X1 x k)=some g:=by
   intro k K g p c;rcases kl p with⟨rfl,_⟩|⟨o,n,I,rfl,G,_⟩
   ·exact⟨_,by rw[uJ];exact gT A B C m,c⟩
   ·exact⟨_,by rw[rT,fI A B C m,G];rfl,c⟩
  obtain⟨q1,v,y⟩:=key p c;obtain⟨q2,E,k4⟩:=key O P;have J:=F.inj _ _ _ _ _ _ v E y k4 R;rcases kl p with⟨rfl,_⟩|⟨o,n,I,rfl,G,_⟩
  ·rcases kl O with⟨rfl,_⟩|⟨Z,n',S,rfl,T,_⟩
   ·rfl
   ·rw[uJ,rT]at J;have:=gK x Z;have:=du;omega
  ·rcases kl O with⟨rfl,_⟩|⟨Z,n',S,rfl,T,_⟩
   ·rw[uJ,rT]at J;have:=gK x o;have:=du;omega
   ·rw[rT,rT]at J;rw[(vB m m J).2]
 pha k r' g p U c j x' s' n e:=by
  rcases kl p with⟨rfl,rfl⟩|⟨o,n,I,rfl,G,rfl⟩;rotate_left
  ·cases U
  rw[tC,uJ]at c;simp only[alI,ajm]at e;obtain⟨d0,f,R⟩:=e;obtain⟨aa,rfl,rfl,rfl⟩:=tr R;obtain⟨u,v,y⟩:=F.G0 A B C m c f;refine⟨⟨pG,.inr rfl⟩,u,v,fun _ _ =>?_⟩;unfold tC;rw[rT];exact y
def Iv (x k:Nat):Nat:=if k=x then 0 else NK 0 (k / PK-2)
def xl (x:Nat):Iv x x=0:=if_pos rfl
def nz {x:Nat} (a:x<PK) (o:Nat):Iv x (NK x o)=NK 0 o:=by
 unfold Iv;rw[if_neg (by have:=gK x o;have:=du;omega),E8 o a]
def q8 (blk a:Nat->Option (Nat×Nat)) (x k:Nat):Option (Nat×Nat):=if rt k=x then a (Iv x k) else blk k
def Inv.back (Z:Inv N M L w0 blk V t (EH h) a w) {x:Nat} {r:Row} {Q s nv I:Nat} {cs f:List D} {S:Nat×Nat} (hx:h x=some r) (hm:r.mp=true) (hc:r.cells=[.nr Q s nv cs]) (hz:r.fz=false) (v:x<PK)
  (hV:∀o,¬V (NK x o) I) (ag:blk x=some S) {w':World} {c:Nat->Option (Nat×Nat)} {M':Nat->Prop} {h1:Nat->Option Row} (ao:h1=EH (oB (jt r.ty Q s 0 f))) (ah:∀b,M' b↔Own M (EH h) blk b∧¬InX blk h x b)
  (hb:eH (InX blk h x) w w') (h0:c 0=some S) (aq:w'.shape? S.1=w.shape? S.1) (ai:∀b,yJ c h1 b->w.heap.size<=b∨InX blk h x b) (hR:Jb w' (fun b=>M' b∨yJ c h1 b) c h1) :
  Inv N M L w0 (q8 blk c x) V t (EH (b8 h x (some ⟨r.v,r.ty,[.nr Q s I f],false,r.lst,true⟩))) a w'∧∀b,Own M (EH (b8 h x (some ⟨r.v,r.ty,[.nr Q s I f],false,r.lst,true⟩))) (q8 blk c x) b->M' b∨yJ c h1 b:=by
 generalize aj:b8 h x (some (⟨r.v,r.ty,[.nr Q s I f],false,r.lst,true⟩:Row))=h2;have z:h2 x=some ⟨r.v,r.ty,[.nr Q s I f],false,r.lst,true⟩:=by rw[<- aj,ay]
 have X:∀k,rt k≠x->EH h2 k=EH h k:=fun k e=>fa (by rw[<- aj,az _ _ e]);have Y:∀k,rt k≠x->q8 blk c x k=blk k:=fun k e=>if_neg e;have T:q8 blk c x x=c 0:=by unfold q8;rw[if_pos (BR v),xl]
 have aa:∀o,q8 blk c x (NK x o)=c (NK 0 o):=fun o=>by unfold q8;rw[if_pos (wQ v),nz v]
 subst ao;have B:∀k r',rt k=x->EH h2 k=some r'->∃G,EH (oB (jt r.ty Q s 0 f)) (Iv x k)=some G∧q8 blk c x k=c (Iv x k):=by
  intro k r' e p;have hq:q8 blk c x k=c (Iv x k):=if_pos e;rcases fB z rfl rfl v e p with⟨rfl,_⟩|⟨o,n,xs,rfl,ho,_⟩
  ·rw[xl]at hq ⊢;exact⟨_,yo,hq⟩
  ·rw[nz v]at hq ⊢;exact⟨_,wk ho,hq⟩
 have J:∀b,Own M (EH h2) (q8 blk c x) b->M' b∨yJ c (EH (oB (jt r.ty Q s 0 f))) b:=by
  intro b U;rcases U with U|⟨k,r',g,e,ar,m,p⟩
  ·refine .inl ((ah b).2 ⟨.inl U,?_⟩);rintro⟨k,r',g,_,F,H,q3⟩;exact Z.notM F H (by rw[q3];exact U)
  ·by_cases W:rt k=x
   ·obtain⟨G,F,H⟩:=B k r' W e;exact .inr ⟨_,G,g,F,by rw[<- H];exact m,p⟩
   ·rw[X k W]at e;rw[Y k W]at m;refine .inl ((ah b).2 ⟨.inr ⟨k,r',g,e,ar,m,p⟩,?_⟩);rintro⟨l,s',g',q0,F,H,q3⟩;have:=Z.inj k l r' s' g g' e F m H (p.trans q3.symm);subst this;exact W q0
 refine⟨?_,J⟩;have al:∀k r',rt k=x->EH h k=some r'->r'.fz=false:=by
  intro k r' e p;rcases fB hx hm hc v e p with⟨_,rfl⟩|⟨o,n,xs,_,_,rfl⟩<;>exact hz
 refine Z.aeZ (fun k=>rt k=x) (fun _ _ h=>h) hb.os hb.tape hb.output hb.size (fun k e hn=>hb.block k e ?_) al (fun k e=>⟨X k e,Y k e⟩) ?_ ?_ ?_ ?_ ?_
 ·rintro⟨l,r',g,q0,F,H,q3⟩;exact hn l r' g q0 F H q3.symm
 ·intro k r' e p;have C:∀g,q8 blk c x k=some g->w.heap.size<=g.1∨∃y s S,rt y=x∧EH h y=some s∧blk y=some S∧g.1=S.1:=by
   intro g m;obtain⟨G,F,H⟩:=B k r' e p;rcases ai g.1 ⟨_,G,g,F,by rw[<- H];exact m,rfl⟩ with q|⟨y,s',g',p0,p1,p2,p3⟩
   ·exact .inl q
   ·exact .inr ⟨y,s',g',p0,p1,p2,p3.symm⟩
  have an:∀ {g:Nat×Nat} {G:Row},G.mp=false->eU w' (fun b=>M' b∨yJ c (EH (oB (jt r.ty Q s 0 f))) b) g G->eU w' (Own M (EH h2) (q8 blk c x)) g G:=by
   intro g G au hr;unfold eU at hr ⊢;rw[au]at hr ⊢;obtain⟨K,R,k2,k3⟩:=hr;exact⟨K,R,k2,fun j d A=>⟨(k3 j d A).1,(k3 j d A).2.less J⟩⟩
  rcases fB z rfl rfl v e p with⟨rfl,rfl⟩|⟨o,n,xs,rfl,ho,rfl⟩
  ·refine⟨rfl,fun hn=>by have:=(Z.rows k _ (gT hx hm hc v)).1 hn;exact this,?_⟩;rw[T,h0];refine⟨C S (T.trans h0),?_⟩;have i:=hR.rows 0 _ yo;rw[h0]at i;have i:eU w' (fun b=>M' b∨yJ c (EH (oB (jt r.ty Q s 0 f))) b) S ⟨0,r.ty,f.mapIdx (ue 0 s),false,true,true⟩:=i;unfold eU at i ⊢;simp only at i ⊢;rcases i with⟨ks,vs,R,_⟩|⟨_,K,k2,k3,k4⟩
   ·exfalso;simp only at R;have hl:f.length=1:=by
     have:=congrArg List.length R;simpa using this
    match f,hl with
    | [d],_ =>
     simp only[List.mapIdx_cons,List.mapIdx_nil,ajJ,and_true]at R;have:=nE 0 s 0 d;rw[R]at this;cases this
   ·refine .inr ⟨fun d hd =>?_,K,k2,by simpa using k3,fun j d A =>?_⟩
    ·obtain⟨j,A⟩:=ajH hd;simp only[alI,ajm]at A;obtain⟨d0,O,rfl⟩:=A;exact nE _ _ _ _
    ·simp only[alI,ajm]at A;obtain⟨d0,O,rfl⟩:=A
     by_cases P:gA d0=true
     ·rw[lK P];have av:(f.mapIdx (ue 0 s))[j]? = some d0:=by rw[alI,O];exact congrArg some (lK P)
      exact (gm P).2.2.2 (((gm P).2.2.1 (k4 j _ av)).less J)
     ·cases d0<;>first|trivial|exact absurd rfl P
  ·refine⟨rfl,fun hn=>by have:=gK x o;have:=Z.big;have:=du;omega,?_⟩;have i:=hR.rows _ _ (wk ho);rw[aa];cases m:c (NK 0 o) with
   | none=>rw[m]at i;exact i
   | some g =>
    rw[m]at i;refine⟨C g ((aa o).trans m),an rfl ?_⟩;obtain⟨K,R,k2,k3⟩:=i;exact⟨K,R,k2,k3⟩
 ·intro k l G r2 g g' e hl p ab m aw ax;obtain⟨F,p1,p2⟩:=B k G e p;obtain⟨H,p3,p4⟩:=B l r2 hl ab;have e1:=hR.inj _ _ _ _ g g' p1 p3 (by rw[<- p2];exact m) (by rw[<- p4];exact aw) ax;rcases fB z rfl rfl v e p with⟨rfl,_⟩|⟨o,n,xs,rfl,ho,_⟩
  ·rcases fB z rfl rfl v hl ab with⟨rfl,_⟩|⟨o',n',aA,rfl,aB,_⟩
   ·rfl
   ·rw[xl,nz v]at e1;have:=gK 0 o';have:=du;omega
  ·rcases fB z rfl rfl v hl ab with⟨rfl,_⟩|⟨o',n',aA,rfl,aB,_⟩
   ·rw[xl,nz v]at e1;have:=gK 0 o;have:=du;omega
   ·rw[nz v,nz v]at e1;rw[(vB pG pG e1).2]
 ·intro k r' e hv p;rcases fB z rfl rfl v e p with⟨rfl,rfl⟩|⟨o,n,xs,rfl,ho,rfl⟩
  ·refine⟨⟨_,gT hx hm hc v,rfl⟩,by rw[T,h0,ag],fun g m =>?_⟩;rw[ag]at m;cases m;exact aq
  ·exact absurd hv (hV o)
 ·intro k r' g e p ad m j x' s' n A;rcases fB z rfl rfl v e p with⟨rfl,rfl⟩|⟨o,n',xs,rfl,ho,rfl⟩;rotate_left
  ·cases ad
  simp only[alI,ajm]at A;obtain⟨d0,O,aC⟩:=A;obtain⟨aD,rfl,rfl,rfl⟩:=tr aC;rw[T]at m;obtain⟨_,u,R,k2⟩:=hR.pha 0 _ g yo rfl m j (NK 0 j) s' n (by simp only[alI,O,Option.map_some,ue]);refine⟨⟨v,.inr rfl⟩,u,R,fun _ _ =>?_⟩;have:=k2 _ (wk O);rw[aa];exact this
 ·intro y r' j x' s' n hy p ad A ae;have E:=(Z.rows y r' p).2;cases m:blk y with
  | none =>
   rw[m]at E;have E:r'.cells=[]:=E;rw[E]at A;cases A
  | some g =>
   obtain⟨F,H⟩:=(Z.pha y r' g p ad m j x' s' n A).1;rcases H with rfl|rfl
   ·have:rt (PK+y)=PK+y:=jv (by omega);rw[this]at ae;omega
   ·rw[wQ F]at ae;rw[BR F]at hy;exact hy ae
end
section
variable {P:Program} {T:Nat->Option Ty} {N:Nat} {M:Nat->Prop} {L:kQ} {w0:World} {blk:Nat->Option (Nat×Nat)} {V:Nat->Nat->Prop} {t:Nat->D} {h:Nat->Option Row} {a:Act} {w:World} {e:Nat} {o:Oper} {Γ:Env}
def Inv.afs (hI:Inv N M L w0 blk V t (EH h) a w) {x:Nat} {r:Row} {I s q n j:Nat} {o p:List D} (O:h x=some r) (P:r.mp=true) (Q:r.cells=[.nr I s q o]) (hz:r.fz=false) (B:x<PK) (hj:o[j]? = some (.nx n p)) (hn:p.length=n*s) :
  Inv N M L w0 blk V t (EH (b8 h x (some ⟨r.v,r.ty,[.nr I s q (o.set j (.sl false false n p))],false,r.lst,true⟩))) a w∧∀b,Own M (EH (b8 h x (some ⟨r.v,r.ty,[.nr I s q (o.set j (.sl false false n p))],false,r.lst,true⟩))) blk b->Own M (EH h) blk b:=by
 have aa:j<o.length:=(ajO.1 hj).1;obtain⟨g,R⟩:∃g,blk x=some g:=by
  cases R:blk x with
  | some g=>exact⟨g,rfl⟩
  | none =>
   have:=(hI.rows x _ (gT O P Q B)).2;rw[R]at this;have Y:o.mapIdx (ue x s)=[]:=this;have h2:o.length=0:=by
    have:=congrArg List.length Y;simpa using this
   omega
 have hK:EH h (NK x j)=some ⟨q,I,p,false,true,false⟩:=by rw[fI O P Q B,hj,hz];rfl
 obtain⟨u,ab,ai⟩:=hI.G0 O P Q B R hj;obtain⟨S,ad,aj,al⟩:=hI.D3 O P Q B R;have an:=hI.freeze [NK x j];have ao:RP w (Own M (aS (EH h) (kr (EH h) [NK x j])) blk) (.sl false false n p) u:=by
  have hW:=hI.weaken (V':=fun y v=>V y v∨(y=NK x j∧v=q)) (fun _ _ h =>.inl h);have aq:RT w (Own M (EH h) blk) (EH h) blk (fun y v=>V y v∨(y=NK x j∧v=q)) (.buf (NK x j) q s 0 n) u:=by
   refine⟨.inr ⟨rfl,rfl⟩,fun Z av aw =>?_⟩;rcases ai with⟨g1,c,N',ar,k1,k2,k3,k4,k5,k6⟩|⟨k1,k2,k3⟩
   ·exact .inl ⟨g1,g1.2,c,N',ar,k1,k2,fun _=>⟨by omega,k3⟩,k4,k5,k6⟩
   ·exact .inr ⟨k1,k2,k3⟩
  have hl:live (EH h) (NK x j) q=some ⟨q,I,p,false,true,false⟩:=by
   unfold live;rw[hK];simp
  have au:Am.cO (EH h) (.buf (NK x j) q s 0 n)=some (.sl false false n p,[NK x j]):=by
   simp only[Am.cO,Am.bL,Am.eL,hl,akl,akD];rw[if_pos (by rw[hn];exact ajo _),<- hn,alj];rfl
  exact hW.cO au (hW.gP [NK x j]) aq
 generalize z:b8 (EH h) (NK x j) none=Y;have C:b8 (aS (EH h) (kr (EH h) [NK x j])) (NK x j) none=Y:=by
  rw[<- z];funext k
  by_cases f:k=NK x j
  ·rw[f,ay,ay]
  ·rw[az _ _ f,az _ _ f,Cj];rw[if_neg (by simpa using f)]
 have T:=an.drop (NK x j);rw[C]at T;have U:∀b,Own M Y blk b->Own M (aS (EH h) (kr (EH h) [NK x j])) blk b:=by
  rintro b (W|⟨k,Z,X,f,E,l,J⟩)
  ·exact .inl W
  ·refine .inr ⟨k,Z,X,?_,E,l,J⟩;rw[<- C]at f
   by_cases m:k=NK x j
   ·rw[m,ay]at f;cases f
   ·rwa [az _ _ m]at f
 have ae:Y x=some ⟨r.v,r.ty,o.mapIdx (ue x s),r.fz,r.lst,true⟩:=by
  rw[<- z,az _ _ (by have:=gK x j;have:=du;omega)];exact gT O P Q B
 have ag:∀(i:Nat) d,(o.set j (.sl false false n p))[i]? = some d->(i=j∧d=.sl false false n p)∨(i≠j∧o[i]? = some d):=by
  intro i d A
  by_cases hji:i=j
  ·subst hji;rw[List.getElem?_set_self aa]at A;exact .inl ⟨rfl,by simpa using A.symm⟩
  ·rw[List.getElem?_set_ne (fun e=>hji e.symm)]at A;exact .inr ⟨hji,A⟩
 have hB:=T.lJ (x:=x) (r:=⟨r.v,r.ty,o.mapIdx (ue x s),r.fz,r.lst,true⟩) (r0:=⟨r.v,r.ty,(o.set j (.sl false false n p)).mapIdx (ue x s),false,r.lst,true⟩) (w':=w) ae hz rfl rfl rfl rfl (ajo _) (fun _ _ _=>rfl) (by
   rw[R];refine⟨rfl,.inr ⟨fun d hd =>?_,S,ad,by simp only[alH,alg];exact aj,fun i d A =>?_⟩⟩
   ·obtain⟨i,A⟩:=ajH hd;simp only[alI,ajm]at A;obtain⟨d0,G,rfl⟩:=A;exact nE _ _ _ _
   ·simp only[alI,ajm]at A;obtain⟨d0,G,rfl⟩:=A;rcases ag i d0 G with⟨rfl,rfl⟩|⟨hij,F⟩
    ·have e1:S.getD (g.2+i) undef=u:=by
      have:=a8 ad (show g.2+i<S.size by omega);rw[this]at ab;simpa using ab
     rw[e1];exact ao.less U
    ·by_cases H:gA d0=true
     ·rw[lK H];refine (gm H).2.2.2 ((al i d0 F H).less fun b W =>?_);rcases W with W|⟨k,Z,X,f,E,l,J⟩
      ·exact .inl W
      ·refine .inr ⟨k,Z,X,?_,E,l,J⟩;rw[<- z]at f
       by_cases m:k=NK x j
       ·rw[m,ay]at f;cases f
       ·rwa [az _ _ m]at f
     ·cases d0<;>first|trivial|exact absurd rfl H) (fun h=>by cases h) (fun _ X l i x' s' n' A=>by
   rw[R]at l;cases l;simp only[alI,ajm]at A;obtain⟨d0,G,J⟩:=A;obtain⟨ax,rfl,rfl,rfl⟩:=tr J;rcases ag i _ G with⟨rfl,F⟩|⟨hij,F⟩
   ·cases F
   ·exact T.pha x _ g ae rfl R i (NK x i) s' n' (by simp only[alI,F,Option.map_some,ue]))
 have K:b8 Y x (some (⟨r.v,r.ty,(o.set j (.sl false false n p)).mapIdx (ue x s),false,r.lst,true⟩:Row))=EH (b8 h x (some ⟨r.v,r.ty,[.nr I s q (o.set j (.sl false false n p))],false,r.lst,true⟩)):=by
  have ah:b8 h x (some (⟨r.v,r.ty,[.nr I s q (o.set j (.sl false false n p))],false,r.lst,true⟩:Row)) x=some ⟨r.v,r.ty,[.nr I s q (o.set j (.sl false false n p))],false,r.lst,true⟩:=ay _ _ _;funext k
  by_cases hkx:rt k=x
  rotate_left
  ·rw[az _ _ (fun e=>hkx (by rw[e,jv (by have:=du;omega)])),<- z,az _ _ (fun e=>hkx (by rw[e,wQ B]))];exact fa (by rw[az _ _ hkx])
  rcases rp hkx with rfl|⟨i,rfl⟩
  ·rw[ay,gT ah rfl rfl B]
  ·rw[az _ _ (by have:=gK x i;have:=du;omega),fI ah rfl rfl B,<- z]
   by_cases hij:i=j
   ·rw[hij,ay,List.getElem?_set_self aa];rfl
   ·rw[az _ _ (fun e=>hij (vB B B e).2),fI O P Q B,List.getElem?_set_ne (fun e=>hij e.symm),hz]
 rw[K]at hB;refine⟨hB,?_⟩;rintro b (W|⟨k,Z,X,f,E,l,J⟩)
 ·exact .inl W
 ·rw[<- K]at f
  by_cases hkx:k=x
  ·subst hkx;exact .inr ⟨k,_,X,gT O P Q B,hz,l,J⟩
  ·rw[az _ _ hkx,<- z]at f
   by_cases m:k=NK x j
   ·rw[m,ay]at f;cases f
   ·rw[az _ _ m]at f;exact .inr ⟨k,Z,X,f,E,l,J⟩
end
def AD (s:Nat):D->Bool
 | .nx n xs=>xs.length==n*s
 | d=>gA d
def pj (k o:Nat) (a:List D):List D:=a.mapIdx fun i d=>if o<=i∧i<o+k then Um d else d
section
variable {P:Program} {T:Nat->Option Ty} {N:Nat} {M:Nat->Prop} {L:kQ} {w0:World} {blk:Nat->Option (Nat×Nat)} {V:Nat->Nat->Prop} {t:Nat->D} {h:Nat->Option Row} {a:Act} {w:World} {e:Nat} {o:Oper} {Γ:Env}
def LP (o:Nat) (a:List D):pj 0 o a=a:=by
 unfold pj;apply alk;intro i;rw[alI];cases a[i]? with
 | none=>rfl
 | some d=>simp only[Option.map_some];rw[if_neg (by omega)]
def wC (k o:Nat) (a:List D) (i:Nat):(pj k o a)[i]? = (a[i]?).map fun d=>if o<=i∧i<o+k then Um d else d:=by
 unfold pj;rw[alI]
def Inv.afu (H:Inv N M L w0 blk V t (EH h) a w) {x:Nat} {r:Row} {z s A o:Nat} {c:List D} (I:h x=some r) (B:r.mp=true) (C:r.cells=[.nr z s A c]) (E:r.fz=false) (J:x<PK):∀k:Nat,((c.drop o).take k).all (AD s)=true ->
  Inv N M L w0 blk V t (EH (b8 h x (some ⟨r.v,r.ty,[.nr z s A (pj k o c)],false,r.lst,true⟩))) a w∧∀b,Own M (EH (b8 h x (some ⟨r.v,r.ty,[.nr z s A (pj k o c)],false,r.lst,true⟩))) blk b->Own M (EH h) blk b
 | 0,_=>by
  have:b8 h x (some (⟨r.v,r.ty,[.nr z s A (pj 0 o c)],false,r.lst,true⟩:Row))=h:=by
   funext k
   by_cases K:k=x
   ·rw[K,ay,LP,I];cases r;simp only at B C E;rw[B,C,E]
   ·rw[az _ _ K]
  rw[this];exact⟨H,fun _ h=>h⟩
 | k+1,f=>by
  have m:((c.drop o).take k).all (AD s)=true:=by
   rw[ajy]at f ⊢;intro d S;obtain⟨i,l⟩:=ajH S;refine f d (ajM (i:=i) ?_);rw[ajN]at l ⊢;split at l
   ·rw[if_pos (by omega)];exact l
   ·cases l
  obtain⟨O,h2⟩:=H.afu I B C E J k m;have p:(∀n j,c[o+k]?≠some (.nx n j))->pj (k+1) o c=pj k o c:=by
   intro T;apply alk;intro i;rw[wC,wC];cases q:c[i]? with
   | none=>rfl
   | some d =>
    simp only[Option.map_some,ajw]
    by_cases hik:i=o+k
    ·subst hik;rw[if_pos (by omega),if_neg (by omega)];cases d<;>first|rfl|exact absurd q (T _ _)
    ·by_cases g:o<=i∧i<o+k
     ·rw[if_pos g,if_pos (by omega)]
     ·rw[if_neg g,if_neg (by omega)]
  by_cases hnx:∃n j,c[o+k]? = some (.nx n j)
  rotate_left
  ·rw[p fun n j h=>hnx ⟨n,j,h⟩];exact⟨O,h2⟩
  obtain⟨n,j,hnx⟩:=hnx;have u:j.length=n*s:=by
   have:=ajy.1 f (.nx n j) (ajM (i:=k) (by rw[ajN,if_pos (by omega),ajK];exact hnx));simpa [AD] using this
  have v:pj (k+1) o c=(pj k o c).set (o+k) (.sl false false n j):=by
   have F:=(ajO.1 hnx).1;apply alk;intro i;rw[wC]
   by_cases hik:i=o+k
   ·subst hik;rw[List.getElem?_set_self (by simpa [pj] using F),hnx];simp only[Option.map_some];rw[if_pos (by omega)];rfl
   ·rw[List.getElem?_set_ne (fun e=>hik e.symm),wC];cases q:c[i]? with
    | none=>rfl
    | some d =>
     simp only[Option.map_some,ajw]
     by_cases g:o<=i∧i<o+k
     ·rw[if_pos g,if_pos (by omega)]
     ·rw[if_neg g,if_neg (by omega)]
  have U:(pj k o c)[o+k]? = some (.nx n j):=by
   rw[wC,hnx];simp only[Option.map_some];rw[if_neg (by omega)]
  obtain⟨P,Q⟩:=O.afs (x:=x) (ay _ _ _) rfl rfl rfl J U u;have y:∀(R G:Option Row),b8 (b8 h x R) x G=b8 h x G:=by
   intro R G;funext i
   by_cases l:i=x
   ·rw[l,ay,ay]
   ·rw[az _ _ l,az _ _ l,az _ _ l]
  rw[y,<- v]at P Q;exact⟨P,fun b W=>h2 b (Q b W)⟩
def Ma (x:Nat) (r:Row) (c s o k:Nat):Option Nat->Option (D×List D)->Option cr
 | some b,some (d,a)=>if ((a.drop o).take k).all (AD s)=true then some ⟨d,[(x,some ⟨r.v,r.ty,[.nr c s b (pj k o a)],false,r.lst,true⟩)]⟩ else none
 | _,_=>none
def Fx (e x:Nat) (r:Row) (a s b:Nat) (c:List D) (o:Nat):Option (Nat×(Nat->Nat->Nat->Nat->List D->List D->Option (D×List D)))->Option (List D×List Nat)->Option cr
 | some p,some (ajj,[])=>Ma x r a s o p.1 (bump b e) (p.2 r.ty a s o c ajj)
 | _,_=>none
def uR (Γ:Env) (e:Nat) (h:Nat->Option Row) (g:Nat):List D->Option cr
 | .ptr x v o::rest =>
  match gW h x v with
  | some (r,ty,s,nv,cs)=>Fx e x r ty s nv cs o (Γ.nx.lnd g) (bS (EH h) rest)
  | none=>none
 | _=>none
def vN {g:Nat} {j:List D} {E:cr} (a:uR Γ e h g j=some E):∃x v o b r k s m n p f i d c,j=.ptr x v o::b∧gW h x v=some (r,k,s,m,n)∧Γ.nx.lnd g=some p∧bS (EH h) b=some (f,[])∧bump m e=some i∧p.2 r.ty k s o n f=some (d,c) ∧
  ((c.drop o).take p.1).all (AD s)=true∧E=⟨d,[(x,some ⟨r.v,r.ty,[.nr k s i (pj p.1 o c)],false,r.lst,true⟩)]⟩:=by
 unfold uR at a;split at a<;>try (cases a;done)
 rename_i x v o b;split at a<;>try (cases a;done)
 rename_i r k s m n t;unfold Fx at a;split at a<;>try (cases a;done)
 rename_i p f u q;unfold Ma at a;split at a<;>try (cases a;done)
 rename_i i d c w y;split at a<;>try (cases a;done)
 rename_i l;exact⟨x,v,o,b,r,k,s,m,n,p,f,i,d,c,rfl,t,u,q,w,y,l,by simpa using a.symm⟩
def ZW (hΓ:bV P Γ) (hI:Inv N M L w0 blk V t (EH h) a w) (S:acN V h e) {g:Nat} {dst:Option Nat} {m:List D} {c:Array Value} {E:cr} (hE:uR Γ e h g m=some E) (F:c.size=m.length)
  (hr:∀(j:Nat) d,m[j]? = some d->RT w (Own M (EH h) blk) (EH h) blk V d (c.getD j undef)):eZ P g∧Calls P g c w fun e' w'=>∃v,e'=.returned v∧kN N M L w0 V t h a e dst E v w':=by
 obtain⟨x,v,o,z,r,T,s,nv,U,p,W,X,d,al,rfl,hl,hp,Y,hb,hs,G,rfl⟩:=vN hE;obtain⟨A,hv,Z,B,f,C⟩:=jE hl;obtain⟨aa,n⟩:=hΓ.lnd g p hp;refine⟨aa,?_⟩;have h0:=hr 0 _ rfl;have ab:=gT A B C f;obtain⟨g0,H,ad⟩:=h0.2 _ ab hv;have ae:c = #[.pointer (some ⟨g0.1,g0.2+o,none⟩)]++c.extract 1 c.size:=by
  have h1:0<c.size:=by rw[F];simp
  rw[<- ad];apply aks
  ·simp;omega
  ·intro i h1 h2;cases i with
   | zero=>simp[akr h1]
   | succ i=>simp[akt];congr 1;omega
 have I:(c.extract 1 c.size).size=z.length:=by simp at F ⊢;omega
 have ag:∀(j:Nat) d,z[j]? = some d->RT w (Own M (EH h) blk) (EH h) blk V d ((c.extract 1 c.size).getD j undef):=by
  intro j d hj;have:=hr (j+1) d (by simpa using hj);have e1:(c.extract 1 c.size).getD j undef=c.getD (j+1) undef:=by
   simp only[ajs];congr 1;rw[Array.getElem?_extract];split
   ·congr 1;omega
   ·rename_i Q;rw[Array.getElem?_eq_none (by omega)]
  rw[e1];exact this
 obtain⟨M',q⟩:∃M':Nat->Prop,∀b,M' b↔Own M (EH h) blk b∧¬InX blk h x b:=⟨_,fun _=>Iff.rfl⟩;have hInX:∀b,InX blk h x b->Own M (EH h) blk b:=by
  rintro b ⟨k,r',g',q0,q1,q2,q3⟩;refine .inr ⟨k,r',g',q1,?_,q2,q3⟩;rcases fB A B C f q0 q1 with⟨_,rfl⟩|⟨_,_,_,_,_,rfl⟩<;>exact Z
 have y:=LX (blk:=blk) A B C f;have hQ:∀b,(M' b∨yJ (tC blk x) (EH (oB (jt r.ty T s 0 U))) b)->Own M (EH h) blk b:=fun b hb=>hb.elim (fun hb=>((q b).1 hb).1) (fun hb=>hInX b ((y b).1 hb));have l:=hI.Fj Y ⟨fun b h=>h,fun x A=>by cases A⟩ I ag;have hA:AV w (fun b=>M' b∨yJ (tC blk x) (EH (oB (jt r.ty T s 0 U))) b) W (c.extract 1 c.size):=⟨l.1,fun j d hj=>(l.2 j d hj).less hQ,fun b hb=>(l.tab b hb).less hQ⟩;rw[ae];refine (n _ _ _ _ _ _ _ _ hs w M' (tC blk x) _ _ g0 _ rfl rfl (fun b hb=>hI.AI ((q b).1 hb).1) (fun b hb ah=>((q b).1 ah).2 ((y b).1 hb)) (by rw[tC,uJ];exact H) (hI.afy A B C Z f hQ) hA).mono fun e' w' hg =>?_;obtain⟨u,J,he,hbey,q0,ai,K,qR,aj⟩:=hg;refine⟨u,he,q8 blk J x,?_⟩;obtain⟨k1,k2⟩:=hI.back A B C Z f (S x r T s nv U X A B C f hb) H rfl q ⟨hbey.os,hbey.tape,hbey.output,hbey.size,fun k hk hn=>hbey.block k hk fun Q=>hn ((y k).1 Q)⟩ q0 ai (fun b hb=>(K b hb).imp id fun Q=>(y b).1 Q) qR;obtain⟨k3,k4⟩:=k1.afu (x:=x) (o:=o) (ay _ _ _) rfl rfl rfl f p.1 G;have O:∀(r1 r2:Option Row),b8 (b8 h x r1) x r2=b8 h x r2:=by
  intro r1 r2;funext i
  by_cases R:i=x
  ·rw[R,ay,ay]
  ·rw[az _ _ R,az _ _ R,az _ _ R]
 rw[O]at k3 k4;exact⟨k3.weaken fun _ _ h =>.inl h,bT (aj.less fun b hb=>k2 b (k4 b hb))⟩
end
def Sp:D->D->Option D
 | .nx _ _,.sl true true 0 []=>some (.nx 0 [])
 | .nx _ _,_=>none
 | _,d=>if gA d=true then some (canon d) else none
def vg:List D->List D->Option (List D)
 | [],[]=>some []
 | c::a,x::b =>
  match Sp c x,vg a b with
  | some y,some d=>some (y::d)
  | _,_=>none
 | _,_=>none
def stZ (x:Nat) (r:Row) (b s:Nat):Option Nat->Option (List D)->Option cr
 | some a,some cs'=>some ⟨.und,[(x,some ⟨r.v,r.ty,[.nr b s a cs'],false,r.lst,true⟩)]⟩
 | _,_=>none
def T4 (n e x:Nat) (r:Row) (b s c:Nat) (d:List D):D->Option cr
 | .agg a=>if a.length=n then stZ x r b s (bump c e) (vg d a) else none
 | _=>none
def sS (τ:Ty) (e:Nat) (h:Nat->Option Row) (p d:D):Option cr :=
 match p with
 | .ptr x v o =>
  match gW h x v with
  | some (r,b,s,c,a)=>if r.lst=false∧o=0∧a.length=τ.size then T4 τ.size e x r b s c a d else none
  | none=>none
 | _=>none
def Tx (x:Nat) (r:Row) (a s b:Nat) (c:List D):Option D->Option cr
 | some d=>some ⟨d,[(x,some ⟨r.v,r.ty,[.nr a s b c],false,r.lst,true⟩)]⟩
 | none=>none
def sO (τ:Ty) (h:Nat->Option Row):D->Option cr
 | .ptr x v o =>
  match gW h x v with
  | some (r,b,s,c,a)=>if r.lst=false∧o=0∧a.length=τ.size∧1<τ.size∧a.all (AD s)=true then Tx x r b s c (pj τ.size 0 a) (lA τ (a.map Um)) else none
  | none=>none
 | _=>none
def orE:Option cr->Option cr->Option cr
 | some E,_=>some E
 | none,y=>y
def xJ (τ:Ty) (h:Nat->Option Row) (p:D):Option cr:=orE (sO τ h p) (sP τ h p)
def xL (τ:Ty) (e:Nat) (h:Nat->Option Row) (p d:D):Option cr:=orE (sS τ e h p d) (pP τ e h p d)
def Sq:∀ {a xs ys:List D},vg a xs=some ys->ys.length=a.length∧xs.length=a.length∧∀(j:Nat) c x,a[j]? = some c->xs[j]? = some x->∃y,ys[j]? = some y∧Sp c x=some y
 | [],[],ys,h=>by simp only[vg,ajw]at h;subst h;exact⟨rfl,rfl,fun j c x b=>by simp at b⟩
 | c::a,x::xs,ys,h=>by
  simp only[vg]at h;split at h
  ·rename_i y e f g;simp only[ajw]at h;subst h;obtain⟨i,k,l⟩:=Sq g;refine⟨by simp[i],by simp[k],fun j m n b d =>?_⟩;cases j with
   | zero =>
    simp only[List.getElem?_cons_zero,ajw]at b d ⊢;subst b d;exact⟨y,rfl,f⟩
   | succ j=>exact l j m n (by simpa using b) (by simpa using d)
  ·cases h
 | [],x::xs,ys,h=>by simp[vg]at h
 | c::a,[],ys,h=>by simp[vg]at h
def Il {c x y:D} (h:Sp c x=some y):(x=.sl true true 0 []∧y=.nx 0 [])∨(gA x=true∧y=canon x):=by
 unfold Sp at h;split at h
 ·simp only[ajw]at h;exact .inl ⟨rfl,h.symm⟩
 ·cases h
 ·split at h
  ·rename_i a;simp only[ajw]at h;exact .inr ⟨a,h.symm⟩
  ·cases h
section
variable {P:Program} {T:Nat->Option Ty} {N:Nat} {M:Nat->Prop} {L:kQ} {w0:World} {blk:Nat->Option (Nat×Nat)} {V:Nat->Nat->Prop} {t:Nat->D} {h:Nat->Option Row} {a:Act} {w:World} {e:Nat} {o:Oper} {Γ:Env}
def aar (x:Nat):EL (EH h) (fun k=>if rt k=x∧k≠x then none else EH h k):=by
 intro k b a;simp only at a;split at a
 ·cases a
 ·exact⟨b,a,.refl _⟩
open Classical in
def aap (hT:jH P T) (hI:Inv N M L w0 blk V t (EH h) a w) (aE:acN V h e) {ty:Nat} {p x:Operand} {τ:Ty} {E:cr} (ho:o.op=.store ty p x) (hτ:T ty=some τ) (C:sS τ e h (ev t p) (ev t x)=some E):e9 P o a w (kN N M L w0 V t h a e o.dst E):=by
 have hp:=hI.ev p;have hq:=hI.ev x;have aQ:=hI.big;have aR:=du;generalize ev t p=pd at *;generalize ev t x=d at *;unfold sS at C;split at C<;>try (cases C;done)
 rename_i y v c0;split at C<;>try (cases C;done)
 rename_i r K s nv cs hl;obtain⟨hx,hv,hz,hm,z,hc⟩:=jE hl;have ad:=gT hx hm hc z;obtain⟨g,hg,ao⟩:=hp.2 _ ad hv;split at C<;>try (cases C;done)
 rename_i ae;obtain⟨_,rfl,aS⟩:=ae;unfold T4 at C;split at C<;>try (cases C;done)
 rename_i n;split at C<;>try (cases C;done)
 rename_i aF;unfold stZ at C;split at C<;>try (cases C;done)
 rename_i O F hb aG;simp only[ajw]at C;subst C;obtain⟨z1,z2,z3⟩:=Sq aG;have aq:RP w (Own M (EH h) blk) (.agg n) (a.eval x):=hq;obtain⟨m,aH,aI,ar⟩:∃m:List Value,a.eval x=.agg m.toArray∧m.length=n.length∧∀j x,n[j]? = some x->RP w (Own M (EH h) blk) x (m.getD j undef):=by
  generalize a.eval x=u at aq;cases aq with
  | agg n m h1 h2 h3=>exact⟨m,rfl,h1,h2⟩
 have aJ:∀(j:Nat) x,n[j]? = some x->gA x=true:=by
  intro j x f;have Z:=(ajO.1 f).1;obtain⟨y',_,k2⟩:=z3 j _ x (ajA (by omega)) f;rcases Il k2 with⟨rfl,_⟩|⟨k3,_⟩
  ·rfl
  ·exact k3
 have au:∀u∈m,u.oneCell'=true:=by
  intro u hu;obtain⟨j,f⟩:=ajH hu;have Z:=(ajO.1 f).1;have Q:=ajA (l:=n) (i:=j) (by omega);have:=ar j _ Q;have Y:m.getD j undef=u:=by simp[List.getD,f]
  rw[Y]at this;exact this.rZ (gm (aJ j _ Q)).1
 obtain⟨B,k1,k2,k3⟩:=hI.D3 hx hm hc z hg;have R:=run_storeCells_at P g.1 (g.2+0) r.ty m 0 B w k1 (by omega) au;rw[ajU]at R;have av:(B.toList.take g.2++m++B.toList.drop (g.2+m.length)).toArray.size=B.size:=by simp;omega
 have U:∀j,j<cs.length->(B.toList.take g.2++m++B.toList.drop (g.2+m.length)).toArray.getD (g.2+j) undef=m.getD j undef:=by
  intro j f;have:=uf B m g.2 (g.2+j) (by omega);rw[this,if_neg (by omega),if_pos (by omega)];congr 1;omega
 generalize aU:(B.toList.take g.2++m++B.toList.drop (g.2+m.length)).toArray=arr' at R av U;obtain⟨H,aw,hheap⟩:=BU (g:=g) (arr':=arr') k1;have ax:Own M (EH h) blk g.1 := .inr ⟨y,_,g,ad,hz,hg,rfl⟩;have hK:∀o,NK y o≠y∧2*PK<=NK y o:=fun o=>by have:=gK y o;omega
 have ag:=aar (h:=h) y;have hA:=hI.le ag;generalize ah:(fun k=>if rt k=y∧k≠y then none else EH h k)=h1 at hA ag;have aK:h1 y=some ⟨r.v,r.ty,cs.mapIdx (ue y s),r.fz,r.lst,true⟩:=by
  rw[<- ah];simp only[ne_eq,not_true_eq_false,and_false,if_false];exact ad
 have ai:∀o,h1 (NK y o)=none:=fun o=>by
  rw[<- ah];simp only;rw[if_pos ⟨wQ z,(hK o).1⟩]
 have aA:∀k,rt k≠y->h1 k=EH h k:=fun k hk=>by
  rw[<- ah];simp only;rw[if_neg (fun hh=>hk hh.1)]
 have ab:∀(j:Nat) d,F[j]? = some d->(d=.nx 0 []∧m.getD j undef=.slice none 0 0)∨(gA d=true∧RP w (Own M (EH h) blk) d (m.getD j undef)):=by
  intro j d f;have Z:=(ajO.1 f).1;have Q:=ajA (l:=n) (i:=j) (by omega);obtain⟨y',q1,q2⟩:=z3 j _ _ (ajA (by omega)) Q;rw[f]at q1;cases q1;have hr:=ar j _ Q;rcases Il q2 with⟨Y,rfl⟩|⟨Y,rfl⟩
  ·refine .inl ⟨rfl,?_⟩;rw[Y]at hr;generalize m.getD j undef=u at hr;cases hr with
   | sl A c _ _ _ _ aV g1 g2 g3 g4 g5 g6 g7 g8 =>
    obtain⟨rfl,rfl⟩:=(g3 rfl).1 rfl;rfl
  ·refine .inr ⟨?_,hr.canon⟩;generalize n[j]=q at Y;cases q<;>first|rfl|cases Y
 have aj:∀ {d:D} {u:Value},RP w (Own M (EH h) blk) d u->RP (w.setRow g.1 arr') (Own M h1 blk) d u:=fun hr=>hr.keep fun b q1 q2=>⟨by rw[aw];exact q1,CY ag q2,hheap b (fun e=>q2 (e ▸ ax))⟩;have hB:=hA.lJ (x:=y) (r0:=⟨r.v,r.ty,F.mapIdx (ue y s),false,r.lst,true⟩) (w':=w.setRow g.1 arr') aK hz rfl rfl rfl rfl (by rw[aw];exact ajo _) (fun b _ hb=>hheap b (hb g hg)) (by
  rw[hg];refine⟨by simp[World.shape?,H,k1,av],.inr ⟨fun d hd =>?_,arr',H,by simp only[alH];omega,fun j d f =>?_⟩⟩
  ·obtain⟨j,f⟩:=ajH hd;simp only[alI,ajm]at f;obtain⟨d0,_,rfl⟩:=f;exact nE _ _ _ _
  ·simp only[alI,ajm]at f;obtain⟨d0,G,rfl⟩:=f;have Z:=(ajO.1 G).1;rw[U j (by omega)];rcases ab j d0 G with⟨rfl,_⟩|⟨q1,q2⟩
   ·trivial
   ·rw[lK q1];exact (gm q1).2.2.2 (aj q2)) (fun hh=>by cases hh) (fun _ g' aB j x' s' n' f=>by
  rw[hg]at aB;cases aB;simp only[alI,ajm]at f;obtain⟨d0,G,he⟩:=f;obtain⟨aW,rfl,rfl,rfl⟩:=tr he;have Z:=(ajO.1 G).1;exact⟨⟨z,.inr rfl⟩,_,a8 H (by omega),fun r1 aC=>by rw[ai]at aC;cases aC⟩)
 obtain⟨S,hS⟩:∃S:Nat->Prop,∀k,S k↔∃o n,k=NK y o∧F[o]? = some (.nx 0 n):=⟨_,fun _=>Iff.rfl⟩;have W:∀(j n':Nat) (n:List D),F[j]? = some (.nx n' n)->n'=0∧n=[]∧m.getD j undef=.slice none 0 0:=by
  intro j n' n f;rcases ab j _ f with⟨Y,e2⟩|⟨Y,_⟩
  ·cases Y;exact⟨rfl,rfl,e2⟩
  ·cases Y
 have al:b8 h y (some (⟨r.v,r.ty,[.nr K s O F],false,r.lst,true⟩:Row)) y=some ⟨r.v,r.ty,[.nr K s O F],false,r.lst,true⟩:=ay _ _ _;have hC:=hB.addEmpty S K O (h':=EH (b8 h y (some ⟨r.v,r.ty,[.nr K s O F],false,r.lst,true⟩))) (blk':=fun k=>if S k then none else blk k) (fun k hk=>by
   obtain⟨I,n,rfl,aa⟩:=(hS k).1 hk;have:=hK I;exact⟨by omega,by omega,aE y r K s nv cs O hx hm hc z hb I,by rw[az _ _ (hK I).1,ai]⟩) (fun k hk=>by
   refine⟨?_,by rw[if_pos hk]⟩;obtain⟨I,n,rfl,aa⟩:=(hS k).1 hk;rw[fI al rfl rfl z,aa];obtain⟨_,rfl,_⟩:=W I 0 n aa;rfl) (fun k hk=>by
   refine⟨?_,by rw[if_neg hk]⟩
   by_cases hkd:rt k=y
   ·rcases rp hkd with rfl|⟨I,rfl⟩
    ·rw[ay,gT al rfl rfl z]
    ·rw[az _ _ (hK I).1,ai,fI al rfl rfl z];cases aD:F[I]? with
     | none=>rfl
     | some d0 =>
      cases d0 with
      | nx n' n =>
       obtain⟨rfl,_,_⟩:=W I n' n aD;exact absurd ((hS _).2 ⟨I,n,rfl,aD⟩) hk
      | _=>rfl
   ·rw[az _ _ (fun e=>hkd (by rw[e,jv (by omega)])),aA k hkd];exact fa (by rw[az _ _ hkd])) (fun y1 r1 g1 hy aL an j x' s' n' f hs=>by
   obtain⟨I,n,rfl,aa⟩:=(hS _).1 hs;obtain⟨⟨p1,p2⟩,u,p3,_⟩:=hB.pha y1 r1 g1 hy aL an j _ s' n' f;rcases p2 with p2|p2
   ·have:=gK y I;omega
   obtain⟨rfl,rfl⟩:=vB z p1 p2;rw[ay]at hy;rw[hg]at an;cases hy;cases an;simp only[alI,ajm]at f;obtain⟨d0,G,he⟩:=f;obtain⟨aM,rfl,_,rfl⟩:=tr he;obtain⟨aN,_,aO⟩:=W I n' aM G;have aX:=(ajO.1 G).1;refine⟨_,a8 H (by omega),aN,none,?_⟩;rw[U I (by omega)];exact aO)
 refine .inr (.inl ⟨w.setRow g.1 arr',?_,fun k=>if S k then none else blk k,?_,trivial⟩)
 ·have J:(a.eval x).cells.toList=m:=by rw[aH];rfl
  have aP:(a.eval x).cells.size=τ.size:=by rw[<- aF,<- aI,<- J];simp
  have X:(storeCells ⟨g.1,g.2+0,none⟩ (a.eval x).cells.toList 0).run P w=.ok () (w.setRow g.1 arr'):=by rw[J];exact R
  rw[ajU]at X ao;simp[execOp,ho,Instr.storeAt,Instr.sureAddr,ao,storeVar,run_sizeOf (hT ty τ hτ),aP,X]
 ·exact hC.weaken fun _ _ h =>.inl h
open Classical in
def aal (hT:jH P T) (hI:Inv N M L w0 blk V t (EH h) a w) {B d W s f:Nat} {τ:Ty} {E:cr} (ho:o.op=.alloc B) (hd:o.dst=some d) (hV:kn N V d e) (ag:∀o,¬V (NK d o) (4*e+2)) (hτ:T B=some τ)
  (hE:mkA τ B e d W s f=some E):e9 P o a w (kN N M L w0 V t h a e o.dst E):=by
 have aq:=hI.big;have ar:=du;unfold mkA at hE;split at hE<;>try (cases hE;done)
 rename_i X;obtain⟨c4,c5,c6,l,Y⟩:=X;simp only[ajw]at hE;subst hE;obtain⟨z,ah,ai⟩:=kL (hT B τ hτ) w;have au:(τ.zero.map qu).length=τ.size:=by rw[ajP,c6]
 have hf:f<τ.size:=by
  rw[alG]at Y;rcases aj1 f τ.size with Z|av
  ·exact Z
  ·rw[alJ (by omega)]at Y;cases Y
 have ad:(τ.zero.map qu)[f]? = some (.sl true true 0 []):=by
  rw[alG]at Y;unfold aby at Y;split at Y
  ·assumption
  ·cases Y
 have aj:(pk τ f).length=τ.size:=by
  unfold pk;rw[lG (by simp;omega)];simp[c6]
 have C:∀(m:Nat) (x:D),(pk τ f)[m]? = some x->(m=f∧x=.nx 0 [])∨(m≠f∧∃y,(τ.zero.map qu)[m]? = some y∧x=canon y):=by
  intro m x I;unfold pk at I
  by_cases aa:m=f
  ·subst aa;rw[gQ (by simp;omega)]at I;exact .inl ⟨rfl,by simpa using I.symm⟩
  ·rw[jh (by simp;omega) aa,ajl,ajm]at I;obtain⟨y,h1,h2⟩:=I;exact .inr ⟨aa,y,h1,h2.symm⟩
 obtain⟨F,J⟩:∃F:Array Value,F=τ.zero.toArray:=⟨_,rfl⟩;have aw:F.size=τ.size:=by rw[J];simpa using c6
 have U:∀(M':Nat->Prop) (w':World) (j:Nat) (x:D),(pk τ f)[j]? = some x->gA x=true->RP w' M' x (F.getD j undef):=by
  intro M' w' j x c al;rw[J];rcases C _ x c with⟨_,rfl⟩|⟨_,y,h1,rfl⟩
  ·cases al
  ·exact (tv (w:=w') (M:=M') τ.zero (ajy.2 fun y hy=>(gm (ajy.1 c5 y hy)).1) _ y h1).2.canon
 have p:∀(j:Nat) (n':Nat) (q:List D),(pk τ f)[j]? = some (.nx n' q)->n'=0∧q=[]∧F.getD j undef=.slice none 0 0:=by
  intro j n' q c;rcases C _ _ c with⟨I,A⟩|⟨_,y,h1,A⟩
  ·simp only[D.nx.injEq]at A;refine⟨A.1,A.2,?_⟩;rw[J,I];rw[ajl,ajm]at ad;obtain⟨v,v1,v2⟩:=ad;simp only[ajs,List.getElem?_toArray,v1,Option.getD_some];exact V9 v2
  ·have:=ajy.1 c5 y (ajM h1);cases y<;>first|(cases A;done)|(cases this;done)
 generalize pk τ f=cs at aj C U p;have hA:=hI.le (Bi (h:=h) d l);have hold:∀b,b<w.heap.size->(w.alloc (.cells F B)).heap[b]? = w.heap[b]?:=fun b hb=>Below.heap_alloc w _ b hb;have K:=(Below.refl w.heap.size w).alloc (ajo _) (.cells F B);have G:=heap_alloc_new w (.cells F B);have ab:∀o,EH (b8 h d none) (NK d o)=none:=fun o=>by rw[uP l,ay];rfl
 have H:∀o,NK d o≠d:=fun o=>by have:=gK d o;omega
 have hB:=hA.Fg (w':=w.alloc (.cells F B)) (h1:=EH (b8 h d none)) (old:=none) (d:=d) (e:=e) (r0:=⟨e,B,cs.mapIdx (ue d s),false,false,true⟩) (go:=some (w.heap.size,0)) K.os K.tape K.output K.size (fun k O _=>hold k O) (fun y hy=>by cases hy) rfl hV
  ⟨.inl (ajo _),.inr ⟨fun x hx=>by
   obtain⟨j,c⟩:=ajH hx;simp only[alI,ajm]at c;obtain⟨d0,n,rfl⟩:=c;exact nE _ _ _ _,F,G,by simp only[alH];omega,fun j x c=>by
   simp only[alI,ajm]at c;obtain⟨d0,n,rfl⟩:=c;rw[akl]
   by_cases Q:gA d0=true
   ·rw[lK Q];exact (gm Q).2.2.2 (U _ _ j d0 n Q)
   ·cases d0<;>first|trivial|exact absurd rfl Q⟩⟩ rfl rfl (fun _ g hg j x s' n' c=>by
   cases hg;simp only[alI,ajm]at c;obtain⟨d0,n,A⟩:=c;obtain⟨q,rfl,rfl,rfl⟩:=tr A;have Z:=(ajO.1 n).1;refine⟨⟨l,.inr rfl⟩,_,a8 G (by omega),fun r hr =>?_⟩;rw[az _ _ (H j),ab]at hr;cases hr)
 obtain⟨S,hS⟩:∃S:Nat->Prop,∀k,S k↔∃o q,k=NK d o∧cs[o]? = some (.nx 0 q):=⟨_,fun _=>Iff.rfl⟩;have hC:=hB.addEmpty S W (4*e+2) (h':=EH (b8 h d (some ⟨e,B,[.nr W s (4*e+2) cs],false,false,true⟩))) (blk':=fun k=>if S k then none else b8 blk d (some (w.heap.size,0)) k) (fun k O=>by
   obtain⟨i,q,rfl,R⟩:=(hS k).1 O;have:=gK d i;refine⟨by omega,by omega,?_,by rw[az _ _ (H i),ab]⟩;rintro (hv|⟨A,_⟩)
   ·exact ag i hv
   ·exact H i A) (fun k O=>by
   refine⟨?_,by rw[if_pos O]⟩;obtain⟨i,q,rfl,R⟩:=(hS k).1 O;rw[fI (ay _ _ _) rfl rfl l,R];obtain⟨_,rfl,_⟩:=p i 0 q R;rfl) (fun k O=>by
   refine⟨?_,by rw[if_neg O]⟩
   by_cases hkd:rt k=d
   ·rcases rp hkd with rfl|⟨i,rfl⟩
    ·rw[ay,gT (ay _ _ _) rfl rfl l]
    ·rw[az _ _ (H i),ab,fI (ay _ _ _) rfl rfl l];cases ae:cs[i]? with
     | none=>rfl
     | some d0 =>
      cases d0 with
      | nx n' q =>
       obtain⟨rfl,_,_⟩:=p i n' q ae;exact absurd ((hS _).2 ⟨i,q,rfl,ae⟩) O
      | _=>rfl
   ·rw[az _ _ (fun e=>hkd (by rw[e,jv (by omega)]))];exact fa (by rw[az _ _ hkd,az _ _ hkd])) (fun y r g hy I hg j x s' n' c hs=>by
   obtain⟨i,q,rfl,R⟩:=(hS _).1 hs;obtain⟨⟨p1,p2⟩,u,p3,_⟩:=hB.pha y r g hy I hg j _ s' n' c;rcases p2 with p2|p2
   ·have:=gK d i;omega
   obtain⟨rfl,rfl⟩:=vB l p1 p2;rw[ay]at hy hg;cases hy;cases hg;simp only[alI,ajm]at c;obtain⟨d0,n,A⟩:=c;obtain⟨an,rfl,_,rfl⟩:=tr A;obtain⟨k1,_,k3⟩:=p i n' an n;have Z:=(ajO.1 n).1;refine⟨_,a8 G (by omega),k1,none,?_⟩;rw[akl];exact k3)
 have ao:¬S d:=fun hs=>by
  obtain⟨i,_,A,_⟩:=(hS d).1 hs;exact H i A.symm
 refine aN (v := .pointer (some ⟨w.heap.size,0,none⟩)) (w':=w.alloc (.cells F B)) ?_ ⟨fun k=>if S k then none else b8 blk d (some (w.heap.size,0)) k,?_,?_⟩
 ·rw[J];simp[execOp,ho,Instr.alloc,ah,newVar,newRow,ai]
 ·refine hC.weaken fun x v hx =>?_;rcases hx with hx|⟨rfl,rfl⟩
  ·exact .inl hx
  ·exact .inr ⟨hd,rfl⟩
 ·exact⟨.inr ⟨hd,rfl⟩,fun r hr hv=>⟨(w.heap.size,0),by simp only;rw[if_neg ao,ay],rfl⟩⟩
def aai (R:jH P T) (F:Inv N M L w0 blk V t (EH h) a w) {G:Nat} {p:Operand} {τ:Ty} {E:cr} (S:o.op=.load G p) (U:T G=some τ) (b:sO τ h (ev t p)=some E):e9 P o a w (kN N M L w0 V t h a e o.dst E):=by
 have W:=F.ev p;generalize X:ev t p=q at *;unfold sO at b;split at b<;>try (cases b;done)
 rename_i x v c;split at b<;>try (cases b;done)
 rename_i r f s y i Y;obtain⟨H,Z,hz,I,k,J⟩:=jE Y;have z:=gT H I J k;obtain⟨g,hg,A⟩:=W.2 _ z Z;split at b<;>try (cases b;done)
 rename_i l;obtain⟨_,rfl,c1,_,K⟩:=l;unfold Tx at b;split at b<;>try (cases b;done)
 rename_i d hd;simp only[ajw]at b;subst b;obtain⟨O,_⟩:=F.afu (o:=0) H I J hz k τ.size (by rw[akD,akC (by omega)];exact K);have B:b8 h x (some (⟨r.v,r.ty,[.nr f s y (pj τ.size 0 i)],false,r.lst,true⟩:Row)) x=some ⟨r.v,r.ty,[.nr f s y (pj τ.size 0 i)],false,r.lst,true⟩:=ay _ _ _;have aa:(pj τ.size 0 i).length=i.length:=by simp[pj]
 have C:At w (Own M (EH (b8 h x (some ⟨r.v,r.ty,[.nr f s y (pj τ.size 0 i)],false,r.lst,true⟩))) blk) g.1 (g.2+0) (i.map Um):=by
  intro j d1 Q;rw[ajl,ajm]at Q;obtain⟨d0,m,rfl⟩:=Q;have D:=ajy.1 K d0 (ajM m);have ab:=(ajO.1 m).1;have n:gA (Um d0)=true:=by
   cases d0<;>first|rfl|exact D
  have u:(pj τ.size 0 i)[0+j]? = some (Um d0):=by
   rw[akl,wC,m];simp only[Option.map_some];rw[if_pos (by omega)]
  obtain⟨ad,k1,k2,k3⟩:=O.D3 B rfl rfl k hg;have ae:=(ajO.1 u).1;refine⟨(gm n).1,_,?_,k3 _ _ u n⟩;rw[ajG];exact a8 k1 (by omega)
 have:=tN (e:=e) (o:=o) R O S U A C (by rw[ajP];exact c1) hd;exact this
end
def L9 (e d:Nat):Option (Nat×Nat×Nat×Nat×Nat×List D)->Option cr
 | some (a,t,s,S,n,b)=>if d<PK then some ⟨.buf d e S 0 n,[(d,some ⟨e,a,[.nr t s (4*e+2) b],false,true,true⟩)]⟩ else none
 | none=>none
def Jw (p:List D->Option (Nat×Nat×Nat×Nat×Nat×List D)) (e d:Nat):Option (List D×List Nat)->Option cr
 | some (ajj,[])=>L9 e d (p ajj)
 | _=>none
def z7 {p:List D->Option (Nat×Nat×Nat×Nat×Nat×List D)} {e d:Nat} {c:Option (List D×List Nat)} {E:cr} (a:Jw p e d c=some E):∃b f t s S n g,c=some (b,[])∧p b=some (f,t,s,S,n,g)∧d<PK∧E=⟨.buf d e S 0 n,[(d,some ⟨e,f,[.nr t s (4*e+2) g],false,true,true⟩)]⟩:=by
 unfold Jw at a;split at a<;>try (cases a;done)
 rename_i b;unfold L9 at a;split at a<;>try (cases a;done)
 rename_i f t s S n g h;split at a<;>try (cases a;done)
 rename_i i;exact⟨b,f,t,s,S,n,g,rfl,h,i,by simpa using a.symm⟩
section
variable {P:Program} {T:Nat->Option Ty} {N:Nat} {M:Nat->Prop} {L:kQ} {w0:World} {blk:Nat->Option (Nat×Nat)} {V:Nat->Nat->Prop} {t:Nat->D} {h:Nat->Option Row} {a:Act} {w:World} {e:Nat} {o:Oper} {Γ:Env}
def ZU (hΓ:bV P Γ) (hI:Inv N M L w0 blk V t (EH h) a w) {g d:Nat} {an:Option Nat} {p:List D->Option (Nat×Nat×Nat×Nat×Nat×List D)} {J:List D} {vs:Array Value} {E:cr} (hd:an=some d) (hV:kn N V d e) (au:∀o',¬V (NK d o') (4*e+2)) (hp:Γ.nx.res g=some p)
  (hE:Jw p e d (bS (EH h) J)=some E) (av:vs.size=J.length) (hr:∀(j:Nat) d,J[j]? = some d->RT w (Own M (EH h) blk) (EH h) blk V d (vs.getD j undef)):eZ P g∧Calls P g vs w fun e' w'=>∃v,e'=.returned v∧kN N M L w0 V t h a e an E v w':=by
 obtain⟨aK,Y,ti,s,S,n,C,aw,hs,f,rfl⟩:=z7 hE;obtain⟨ax,U⟩:=hΓ.res g p hp;refine⟨ax,?_⟩;have ad:=hI.Fj aw ⟨fun b h=>h,fun x hx=>by cases hx⟩ av hr;refine (U _ _ _ _ _ _ _ hs w (Own M (EH h) blk) _ vs rfl (fun b hb=>hI.AI hb) ad).mono fun e' w' r =>?_;obtain⟨u,c,q,hbel,ao,hR,hu⟩:=r;refine⟨u,q,q8 blk c d,?_⟩;have hA:=hI.le (Bi (h:=h) d f);generalize ae:b8 h d (some (⟨e,Y,[.nr ti s (4*e+2) C],false,true,true⟩:Row))=R;have aA:aS h [(d,some (⟨e,Y,[.nr ti s (4*e+2) C],false,true,true⟩:Row))]=R:=by rw[<- ae];rfl
 rw[aA];have A:R d=some ⟨e,Y,[.nr ti s (4*e+2) C],false,true,true⟩:=by rw[<- ae,ay]
 have aB:∀k,rt k=d->EH (b8 h d none) k=none:=fun k i=>Uz (by rw[i,ay]);have Z:∀k,rt k≠d->EH R k=EH (b8 h d none) k:=fun k i=>fa (by rw[<- ae,az _ _ i,az _ _ i]);have aa:∀k,rt k≠d->q8 blk c d k=blk k:=fun k i=>if_neg i;have W:q8 blk c d d=c 0:=by unfold q8;rw[if_pos (BR f),xl]
 have ag:∀o,q8 blk c d (NK d o)=c (NK 0 o):=fun o=>by unfold q8;rw[if_pos (wQ f),nz f]
 have F:∀k z,rt k=d->EH R k=some z->∃I,EH (oB (jt Y ti s 0 C)) (Iv d k)=some I∧q8 blk c d k=c (Iv d k):=by
  intro k z i q;have hq:q8 blk c d k=c (Iv d k):=if_pos i;rcases fB A rfl rfl f i q with⟨rfl,_⟩|⟨o,n,xs,rfl,ho,_⟩
  ·rw[xl]at hq ⊢;exact⟨_,yo,hq⟩
  ·rw[nz f]at hq ⊢;exact⟨_,wk ho,hq⟩
 have ab:∀b,Own M (EH R) (q8 blk c d) b->Own M (EH h) blk b∨yJ c (EH (oB (jt Y ti s 0 C))) b:=by
  intro b ah;rcases ah with ah|⟨k,z,g,i,aC,r,q⟩
  ·exact .inl (.inl ah)
  ·by_cases X:rt k=d
   ·obtain⟨I,q1,q2⟩:=F k z X i;exact .inr ⟨_,I,g,q1,by rw[<- q2];exact r,q⟩
   ·rw[Z k X]at i;rw[aa k X]at r;refine .inl (.inr ⟨k,z,g,?_,aC,r,q⟩);rw[<- i];exact fa (by rw[az _ _ X])
 have aq:∀ {g:Nat×Nat} {I:Row},I.mp=false->eU w' (fun b=>Own M (EH h) blk b∨yJ c (EH (oB (jt Y ti s 0 C))) b) g I->eU w' (Own M (EH R) (q8 blk c d)) g I:=by
  intro g I aD hr;unfold eU at hr ⊢;rw[aD]at hr ⊢;obtain⟨K,T,k2,k3⟩:=hr;exact⟨K,T,k2,fun j d B=>⟨(k3 j d B).1,(k3 j d B).2.less ab⟩⟩
 have G:∀k z,rt k=d->EH R k=some z->∀g,q8 blk c d k=some g->w.heap.size<=g.1:=by
  intro k z i q g r;obtain⟨I,q1,q2⟩:=F k z i q;exact ao g.1 ⟨_,I,g,q1,by rw[<- q2];exact r,rfl⟩
 have ar:Inv N M L w0 (q8 blk c d) (fun y v=>V y v∨(y=d∧v=e)) t (EH R) a w':=by
  refine hA.aeZ (fun k=>rt k=d) (fun _ _ h =>.inl h) hbel.os hbel.tape hbel.output hbel.size (fun k i _=>hbel.block k i) (fun k z i q=>by rw[aB k i]at q;cases q) (fun k i=>⟨Z k i,aa k i⟩) ?_ ?_ ?_ ?_ ?_
  ·intro k z i q;rcases fB A rfl rfl f i q with⟨rfl,rfl⟩|⟨o,n,xs,rfl,ho,rfl⟩
   ·refine⟨rfl,fun hn =>.inr ⟨rfl,rfl⟩,?_⟩;rw[W];have m:=hR.rows 0 _ yo;cases r:c 0 with
    | none =>
     rw[r]at m;have h1:C.mapIdx (ue 0 s)=[]:=m;have R:C.length=0:=by
      have:=congrArg List.length h1;simpa using this
     show C.mapIdx (ue k s)=[];rw[aku R];rfl
    | some g0 =>
     rw[r]at m;have m:eU w' (fun b=>Own M (EH h) blk b∨yJ c (EH (oB (jt Y ti s 0 C))) b) g0 ⟨0,Y,C.mapIdx (ue 0 s),false,true,true⟩:=m;refine⟨.inl (G k _ i q g0 (W.trans r)),?_⟩;unfold eU at m ⊢;simp only at m ⊢;rcases m with⟨ks,vs,T,_⟩|⟨_,K,k2,k3,k4⟩
     ·exfalso;simp only at T;have hl:C.length=1:=by
       have:=congrArg List.length T;simpa using this
      match C,hl with
      | [d],_ =>
       simp only[List.mapIdx_cons,List.mapIdx_nil,ajJ,and_true]at T;have:=nE 0 s 0 d;rw[T]at this;cases this
     ·refine .inr ⟨fun d hd =>?_,K,k2,by simpa using k3,fun j d B =>?_⟩
      ·obtain⟨j,B⟩:=ajH hd;simp only[alI,ajm]at B;obtain⟨d0,O,rfl⟩:=B;exact nE _ _ _ _
      ·simp only[alI,ajm]at B;obtain⟨d0,O,rfl⟩:=B
       by_cases Q:gA d0=true
       ·rw[lK Q];have aE:(C.mapIdx (ue 0 s))[j]? = some d0:=by rw[alI,O];exact congrArg some (lK Q)
        exact (gm Q).2.2.2 (((gm Q).2.2.1 (k4 j _ aE)).less ab)
       ·cases d0<;>first|trivial|exact absurd rfl Q
   ·refine⟨rfl,fun hn=>by have:=gK d o;have:=hI.big;have:=du;omega,?_⟩;have m:=hR.rows _ _ (wk ho);rw[ag];cases r:c (NK 0 o) with
    | none=>rw[r]at m;exact m
    | some g =>
     rw[r]at m;refine⟨.inl (G _ _ i q g ((ag o).trans r)),aq rfl ?_⟩;obtain⟨K,T,k2,k3⟩:=m;exact⟨K,T,k2,k3⟩
  ·intro k l I r2 g g' i hl q ai r aF aG;obtain⟨q1,p1,p2⟩:=F k I i q;obtain⟨q2,p3,p4⟩:=F l r2 hl ai;have e1:=hR.inj _ _ _ _ g g' p1 p3 (by rw[<- p2];exact r) (by rw[<- p4];exact aF) aG;rcases fB A rfl rfl f i q with⟨rfl,_⟩|⟨o,n,xs,rfl,ho,_⟩
   ·rcases fB A rfl rfl f hl ai with⟨rfl,_⟩|⟨o',n',aH,rfl,aI,_⟩
    ·rfl
    ·rw[xl,nz f]at e1;have:=gK 0 o';have:=du;omega
   ·rcases fB A rfl rfl f hl ai with⟨rfl,_⟩|⟨o',n',aH,rfl,aI,_⟩
    ·rw[xl,nz f]at e1;have:=gK 0 o;have:=du;omega
    ·rw[nz f,nz f]at e1;rw[(vB pG pG e1).2]
  ·intro k z i hv q;rcases fB A rfl rfl f i q with⟨rfl,rfl⟩|⟨o,n,xs,rfl,ho,rfl⟩
   ·exact absurd hv hV.no
   ·exact absurd hv (au o)
  ·intro k z g i q aj r j x' s' n B;rcases fB A rfl rfl f i q with⟨rfl,rfl⟩|⟨o,n',xs,rfl,ho,rfl⟩;rotate_left
   ·cases aj
   simp only[alI,ajm]at B;obtain⟨d0,O,aJ⟩:=B;obtain⟨aL,rfl,rfl,rfl⟩:=tr aJ;rw[W]at r;obtain⟨_,u,T,k2⟩:=hR.pha 0 _ g yo rfl r j (NK 0 j) s' n (by simp only[alI,O,Option.map_some,ue]);refine⟨⟨f,.inr rfl⟩,u,T,fun _ _ =>?_⟩;have:=k2 _ (wk O);rw[ag];exact this
  ·intro y z j x' s' n hy q aj B al;have H:=(hA.rows y z q).2;cases r:blk y with
   | none =>
    rw[r]at H;have H:z.cells=[]:=H;rw[H]at B;cases B
   | some g =>
    obtain⟨q1,q2⟩:=(hA.pha y z g q aj r j x' s' n B).1;rcases q2 with rfl|rfl
    ·have:rt (PK+y)=PK+y:=jv (by omega);rw[this]at al;omega
    ·rw[wQ q1]at al;rw[BR q1]at hy;exact hy al
 refine⟨ar.weaken fun x v hx =>?_,.inr ⟨hd,rfl⟩,fun z _ _ =>?_⟩
 ·rcases hx with hx|⟨rfl,rfl⟩
  ·exact .inl hx
  ·exact .inr ⟨hd,rfl⟩
 ·rw[W];exact hu.2 ⟨0,0,[],false,false,false⟩ rfl rfl
def FJ (z:Inv N M L w0 blk V t h a w) {c:Call} {f:Operand} {g:Nat} (B:o.op=.call c) (C:c.callee=.value f) (D:ev t f=.fn g) {Φ:Value->World->Prop}
  (E:∀n:Array Value,n.size=(c.args.toList.map (ev t)).length->(∀(j:Nat) d,(c.args.toList.map (ev t))[j]? = some d->RT w (Own M h blk) h blk V d (n.getD j undef))->eZ P g∧Calls P g n w fun F G=>∃v,F=.returned v∧Φ v G):e9 P o a w Φ:=by
 have k:=z.ev f;have e:∀(j:Nat) d,(c.args.toList.map (ev t))[j]? = some d->RT w (Own M h blk) h blk V d ((c.args.map a.eval).getD j undef):=by
  intro j d m;rw[ajl]at m;cases p:c.args.toList[j]? with
  | none=>simp[p]at m
  | some x =>
   simp only[p,Option.map_some,ajw]at m;subst m;have:(c.args.map a.eval).getD j undef=a.eval x:=by
    have q:c.args[j]? = some x:=by simpa using p
    simp[q]
   rw[this];exact z.ev x
 have r:(c.args.map a.eval).size=(c.args.toList.map (ev t)).length:=by simp
 rw[D]at k;have l:a.eval f=.func (.func g) #[] #[]:=by
  have s:RP w (Own M h blk) (.fn g) (a.eval f):=k;generalize a.eval f=u at *;cases s;rfl
 obtain⟨⟨A,y,i,b⟩,H⟩:=E _ r e;have I:¬A.name = "runtime.NumGoroutine":=by simpa using i
 have J:¬A.body=none:=by
  intro K;rw[K]at b;cases b
 exact .inr (.inr ⟨g,#[]++c.args.map a.eval++#[],by simp[execOp,B,resolve,C,l,Deferred.ofValue,invoke,callFunc,program,Sem.run,y,I,J],by simpa using H⟩)
end
def jA (a:Operand->D):Op->Option (D×List D)
 | .call c=>match c.callee with | .value f=>some (a f,c.args.toList.map a)|_=>none
 | _=>none
def qB {b:Operand->D} {d:Op} {q:D} {a:List D} (e:jA b d=some (q,a)):∃c f,d=.call c∧c.callee=.value f∧q=b f∧a=c.args.toList.map b:=by
 unfold jA at e;grind
def DN (Γ:Env) (e:Nat) (h:Nat->Option Row):Option (D×List D)->Option cr
 | some (.fn g,args)=>uR Γ e h g args
 | _=>none
def F0 (e d:Nat) (h:Nat->Option Row) (a:List D):Option (List D->Option (Nat×Nat×Nat×Nat×Nat×List D))->Option cr
 | some p=>Jw p e d (bS (EH h) a)
 | none=>none
def qE (Γ:Env) (e:Nat) (h:Nat->Option Row):Option Nat->Option (D×List D)->Option cr
 | some d,some (.fn g,args)=>F0 e d h args (Γ.nx.res g)
 | _,_=>none
def xK (T:Nat->Option Ty) (Γ:Env) (e:Nat) (o:Oper) (a:Operand->D) (h:Nat->Option Row):Option cr :=
 match o.op with
 | .load b p=>match T b with|some τ=>xJ τ h (a p)|none=>none
 | .store b p x=>match T b with|some τ=>xL τ e h (a p) (a x)|none=>none
 | .call c=>DN Γ e h (jA a (.call c))
 | _=>none
def or2 (h:Nat->Option Row):Option cr->Option cr->Option cr
 | some ⟨v,hw⟩,_=>some ⟨v,mB h hw⟩
 | none,y=>y
def rR (T:Nat->Option Ty) (Γ:Env) (e:Nat) (o:Oper) (a:Operand->D) (h:Nat->Option Row):Option cr :=
 match iX T Γ e o a with
 | some E=>some E
 | none =>
  match qE Γ e h o.dst (jA a o.op) with
  | some E=>some E
  | none=>or2 h (tx T Γ e o a (EH h)) (xK T Γ e o a h)
def cW (o:Oper) (a:Operand->D):List Nat:=(iO o a).map rt
def VE (N e:Nat) (done:List Nat) (h:Nat->Option Row) (x v:Nat):Prop:=(x<N∧(v<e∨(v=e∧x∈done))) ∨
 (2*PK<=x∧v<=4*e+3∧(x % PK∉done->v<=4*e+1)∧∀r b s a c,h (x % PK)=some r->r.mp=true->r.cells=[.nr b s a c]->v<=a)
def Is (e:Nat) (done:List Nat) (h:Nat->Option Row):Prop:=∀x r a s nv b,h x=some r->r.mp=true->r.cells=[.nr a s nv b]->x<PK->nv<=4*e+3∧(x∉done->nv<=4*e+1)
def jj (e:Nat) (h h':Nat->Option Row):Prop:=∀x r' b f a c,h' x=some r'->r'.mp=true->r'.cells=[.nr b f a c]->x<PK->∃r g s d i,h x=some r∧r.mp=true∧r.cells=[.nr g s d i]∧(a=d∨bump d e=some a)
def jj.refl (e:Nat) (h:Nat->Option Row):jj e h h:=fun x r a s b c d f g _=>⟨r,a,s,b,c,d,f,g,.inl rfl⟩
def L7 {b e a:Nat} (h:bump b e=some a):b<a∧(a=4*e+1∨(b=4*e+2∧a=4*e+3)):=by
 unfold bump at h;grind
def Is.step {e:Nat} {done a:List Nat} {h h':Nat->Option Row} (i:Is e done h) (j:jj e h h') (y:∀x,x∈done->x∈a):Is e a h':=by
 intro x k b l c d m n o g;obtain⟨r,p,s,q,t,u,v,w,f⟩:=j x k b l c d m n o g;obtain⟨z,A⟩:=i x r p s q t u v w g;rcases f with rfl|f
 ·grind
 ·obtain⟨B,C⟩:=L7 f;grind
def VE.step {N e:Nat} {done a:List Nat} {h h':Nat->Option Row} (m:jj e h h') (l:∀x,x∈done->x∈a) {x v:Nat} (n:VE N e done h x v):VE N e a h' x v:=by
 rcases n with⟨b,c⟩|⟨b,c,h3,o⟩
 ·exact .inl ⟨b,c.imp id fun⟨d,f⟩=>⟨d,l x f⟩⟩
 ·refine .inr ⟨b,c,fun hn=>h3 fun h=>hn (l _ h),fun p g q i j t u w =>?_⟩;obtain⟨r,y,s,z,A,d,f,B,k⟩:=m _ p g q i j t u w (KI _);have:=o r y s z A d f B;rcases k with rfl|k
  ·exact this
  ·have:=(L7 k).1;omega
def Is.agR {N e:Nat} {done:List Nat} {h:Nat->Option Row} (c:Is e done h):VNr (VE N e done h) h:=by
 intro x r d s f g b i j a o;obtain⟨k,l⟩:=c x r d s f g b i j a;refine .inr ⟨gK x o,k,by rw[xi o a];exact l,fun t m u n p q v w =>?_⟩;rw[xi o a,b]at q;simp_all
def Is.new {N e:Nat} {done:List Nat} {h:Nat->Option Row} (p:Is e done h) (q:N<=PK):acN (VE N e done h) h e:=by
 intro x r b s c d f g i j k a o l;have m:=gK x o;have:=du;rcases l with⟨t,_⟩|⟨_,_,_,n⟩
 ·omega
 ·have u:=n r b s c d (by rw[xi o k];exact g) i j;have v:=(L7 a).1;omega
def Pw (e:Nat):∀(l:List (Nat×Option Row)) (h:Nat->Option Row),jj e h (aS h (mB h l))
 | [],h =>.refl e h
 | (k,r)::l,h=>by
  intro x p d t f g u v w y;obtain⟨G,z,H,A,B,a,I,n,J⟩:=Pw e l (b8 h (rt k) (BQ h k r)) x p d t f g u v w y
  by_cases b:x=rt k
  rotate_left
  ·rw[az _ _ b]at a;grind
  ·rw[b,ay]at a;unfold BQ at a;split at a
   ·exfalso;obtain⟨_,K,_⟩:=CM (o:=0) a;unfold IN at a;simp_all
   ·rename_i i;have C:rt k=k % PK:=by unfold rt;rw[if_neg i]
    rw[ajm]at a;obtain⟨q,L,c⟩:=a;unfold HA at c;split at c
    ·rename_i j;split at c
     ·rename_i D s E F m;subst c;simp only at n;refine⟨q,D,s,E,F,by simp_all,j,m,?_⟩;unfold HR at n;grind
     grind
    simp_all
section
variable {P:Program} {T:Nat->Option Ty} {N:Nat} {M:Nat->Prop} {L:kQ} {w0:World} {blk:Nat->Option (Nat×Nat)} {t:Nat->D} {h h':Nat->Option Row} {a:Act} {w:World} {e:Nat} {o:Oper} {Γ:Env} {done:List Nat}
def jj.set {x:Nat} {r g:Row} {j s c a d k:Nat} {l f:List D} (u:h x=some r) (v:r.mp=true) (w:r.cells=[.nr j s c l]) (m:g.cells=[.nr d k a f]) (z:a=c∨bump c e=some a):jj e h (b8 h x (some g)):=by
 intro y A n B o p i q t C
 by_cases b:y=x
 ·subst b;rw[ay]at i;grind
 ·rw[az _ _ b]at i;grind
def jj.drop {y:Nat} (g:jj e (b8 h y none) h'):jj e h h':=by
 intro x i b j c d l m n o;obtain⟨r,p,s,q,t,f,k⟩:=g x i b j c d l m n o
 by_cases a:x=y
 ·subst a;rw[ay]at f;cases f
 ·rw[az _ _ a]at f;grind
def J0 {τ:Ty} {d:D} {E:cr} (a:sP τ h d=some E):E.hw=[]:=by
 unfold sP at a;split at a<;>try (cases a;done)
 split at a<;>try (cases a;done)
 unfold MI at a;grind
def S5 {τ:Ty} {d:D} {E:cr} (a:sO τ h d=some E):jj e h (aS h E.hw):=by
 unfold sO at a;split at a<;>try (cases a;done)
 split at a<;>try (cases a;done)
 rename_i r j s k l b;obtain⟨c,m,n,f,g,i⟩:=jE b;split at a<;>try (cases a;done)
 unfold Tx at a;split at a<;>try (cases a;done)
 cases a;exact jj.set c f i rfl (.inl rfl)
def S9 {τ:Ty} {p d:D} {E:cr} (a:sS τ e h p d=some E):jj e h (aS h E.hw):=by
 unfold sS at a;split at a<;>try (cases a;done)
 split at a<;>try (cases a;done)
 rename_i r m s n o b;obtain⟨c,q,t,f,g,i⟩:=jE b;split at a<;>try (cases a;done)
 unfold T4 at a;split at a<;>try (cases a;done)
 split at a<;>try (cases a;done)
 unfold stZ at a;split at a<;>try (cases a;done)
 rename_i j k l _;cases a;exact jj.set c f i rfl (.inr l)
def S8 {τ:Ty} {p d:D} {E:cr} (a:pP τ e h p d=some E):jj e h (aS h E.hw):=by
 unfold pP at a;split at a<;>try (cases a;done)
 rename_i l B m;split at a<;>try (cases a;done)
 rename_i r n s o t u;obtain⟨g,C,F,i,v,j⟩:=jE u;split at a<;>try (cases a;done)
 have b:∀ {k:Option (List D)},Nl τ l r n s o t m k=some E->jj e h (aS h E.hw):=by
  intro k a;unfold Nl at a;split at a<;>try (cases a;done)
  split at a<;>try (cases a;done)
  cases a;exact jj.set g i j rfl (.inl rfl)
 unfold I2 at a;split at a
 ·rename_i w G H I J;split at a<;>try (cases a;done)
  split at a
  ·split at a<;>try (cases a;done)
   unfold Nj at a;split at a<;>try (cases a;done)
   split at a<;>try (cases a;done)
   cases a;exact jj.set g i j rfl (.inl rfl)
  ·split at a<;>try (cases a;done)
   split at a<;>try (cases a;done)
   rename_i q c;split at a<;>try (cases a;done)
   unfold C9 at a;split at a<;>try (cases a;done)
   rename_i x z;cases a;obtain⟨f,A⟩:=cM c;refine jj.drop (y:=w) ?_;exact jj.set (by
    rw[az]
    ·exact g
    ·rintro rfl;rw[g]at f;cases f;have:=js c;simp_all) i j rfl (.inr z)
 ·exact b a
structure vx (N:Nat) (M:Nat->Prop) (L:kQ) (w0:World) (blk:Nat->Option (Nat×Nat)) (e:Nat) (done:List Nat) (t:Nat->D) (h:Nat->Option Row) (a:Act) (w:World):Prop where
 inv:Inv N M L w0 blk (VE N e done h) t (EH h) a w
 nv:Is e done h
def E4 (N:Nat) (M:Nat->Prop) (L:kQ) (w0:World) (t:Nat->D) (h:Nat->Option Row) (a:Act) (e:Nat) (done:List Nat) (E:cr) (v:Value) (c:World):Prop :=
 ∃b,vx N M L w0 b e done t (aS h E.hw) a c∧RT c (Own M (EH (aS h E.hw)) b) (EH (aS h E.hw)) b (VE N e done (aS h E.hw)) E.val v
def S4 (hT:jH P T) (hΓ:bV P Γ) (m:vx N M L w0 blk e done t h a w) (hd:∀d:Nat,o.dst=some d->d∉done∧d<N) {E:cr} (j:rR T Γ e o (ev t) h=some E):e9 P o a w (E4 N M L w0 t h a e (o.dst.toList++done) E):=by
 have B:=m.inv.big;have au:=du;have hV:∀d:Nat,o.dst=some d->kn N (VE N e done h) d e:=by
  intro d an;obtain⟨R,F⟩:=hd d an;replace F:(d:Nat)<N:=F;refine⟨fun hv =>?_,F⟩;rcases hv with⟨_,hv|⟨_,hv⟩⟩|⟨hv,_⟩
  ·omega
  ·exact R hv
  ·omega
 have hP:∀x v,VE N e done h x v->x<N∨2*PK<=x:=fun x v hv=>hv.imp (fun h=>h.1) (fun h=>h.1);have C:∀x,x∈done->x∈o.dst.toList++done:=fun x S=>ajC _ S;have fin:jj e h (aS h E.hw)->∀ {v:Value} {y:World},kN N M L w0 (VE N e done h) t h a e o.dst E v y->E4 N M L w0 t h a e (o.dst.toList++done) E v y:=by
  intro Z v y k;obtain⟨G,H,I⟩:=k;have J:∀x n,VE N e done h x n∨(o.dst=some x∧n=e)->VE N e (o.dst.toList++done) (aS h E.hw) x n:=by
   rintro x n (hv|⟨S,rfl⟩)
   ·exact hv.step Z C
   ·exact .inl ⟨(hd x S).2,.inr ⟨rfl,ajB _ (by rw[S];simp)⟩⟩
  refine⟨G,⟨H.weaken J,m.nv.step Z C⟩,I.mono ⟨fun _ H I=>⟨H,I,rfl⟩,J,fun _ _ _ r' H I=>⟨⟨r',H,I⟩,rfl,fun _ _=>rfl⟩⟩⟩
 have fin2:∀ {E0:cr} {d:Nat} {r0:Row} {z s:Nat} {U:List D},o.dst=some d->E0.hw=[(d,some r0)]->r0.mp=true->r0.cells=[.nr z s (4*e+2) U]->∀ {v:Value} {y:World},kN N M L w0 (VE N e done h) t h a e o.dst E0 v y->E4 N M L w0 t h a e (o.dst.toList++done) E0 v y:=by
  intro E0 d r0 z s U i K V q v y k;obtain⟨G,H,I⟩:=k;obtain⟨W,X⟩:=hd d i;have ae:aS h E0.hw=b8 h d (some r0):=by rw[K];rfl
  have J:∀x n,VE N e done h x n∨(o.dst=some x∧n=e)->VE N e (o.dst.toList++done) (aS h E0.hw) x n:=by
   rintro x n (hv|⟨S,rfl⟩)
   ·rcases hv with⟨R,F⟩|⟨R,F,q3,q4⟩
    ·exact .inl ⟨R,F.imp id fun⟨p1,p2⟩=>⟨p1,C _ p2⟩⟩
    ·refine .inr ⟨R,F,fun hn=>q3 fun h=>hn (C _ h),fun r' ag s1 ah ai k1 k2 k3 =>?_⟩;rw[ae]at k1
     by_cases O:x % PK=d
     ·rw[O,ay]at k1;grind
     ·rw[az _ _ O]at k1;grind
   ·exact .inl ⟨(hd x S).2,.inr ⟨rfl,ajB _ (by rw[S];simp)⟩⟩
  refine⟨G,⟨H.weaken J,?_⟩,I.mono ⟨fun _ H I=>⟨H,I,rfl⟩,J,fun _ _ _ r' H I=>⟨⟨r',H,I⟩,rfl,fun _ _=>rfl⟩⟩⟩;intro x r' ag s1 ah ai k1 k2 k3 hp;rw[ae]at k1
  by_cases O:x=d
  ·subst O;rw[ay]at k1;simp_all
  ·rw[az _ _ O]at k1;obtain⟨p1,p2⟩:=m.nv x r' ag s1 ah ai k1 k2 k3 hp;simp_all
 have aj:∀d:Nat,o.dst=some d->∀o',¬VE N e done h (NK d o') (4*e+2):=by
  intro d i o' hv;obtain⟨W,X⟩:=hd d i;have ao:(d:Nat)<PK:=ajr X B;rcases hv with⟨hv,_⟩|⟨_,_,hv,_⟩
  ·omega
  ·have:=hv (by rw[xi o' ao];exact W);omega
 unfold rR at j;split at j
 ·rename_i E0 b;simp only[ajw]at j;subst j;unfold iX at b;split at b<;>try (cases b;done)
  rotate_left
  ·rename_i ty Q;split at b<;>try (cases b;done)
   rename_i d i;split at b<;>try (cases b;done)
   rename_i z s f hn;split at b<;>try (cases b;done)
   rename_i τ Y;obtain⟨W,X⟩:=hd d i;have k:=aal hT m.inv Q i (hV d i) (aj d i) Y b;obtain⟨r0,K,V,q⟩:∃r0:Row,E0.hw=[(d,some r0)]∧r0.mp=true∧∃cs,r0.cells=[.nr z s (4*e+2) cs]:=by
    unfold mkA at b;split at b<;>try (cases b;done)
    cases b;simp_all
   obtain⟨U,q⟩:=q;exact k.mono fun v y k=>fin2 i K V q k
  rename_i ty l c Q;split at b<;>try (cases b;done)
  rename_i d i;split at b<;>try (cases b;done)
  rename_i z s f hn;split at b<;>try (cases b;done)
  rename_i τ Y;obtain⟨W,X⟩:=hd d i;have k:=aam hT m.inv Q i (hV d i) (fun o' hv=>by
   simp_all) Y b
  obtain⟨r0,K,V,q⟩:∃r0:Row,E0.hw=[(d,some r0)]∧r0.mp=true∧∃cs,r0.cells=[.nr z s (4*e+2) cs]:=by
   unfold rn at b;split at b<;>try (cases b;done)
   split at b<;>try (cases b;done)
   split at b<;>try (cases b;done)
   cases b;simp_all
  obtain⟨U,q⟩:=q;exact k.mono fun v y k=>fin2 i K V q k
 split at j
 ·rename_i E0 u;simp only[ajw]at j;subst j;unfold qE at u;split at u<;>try (cases u;done)
  rename_i d g al i aa;obtain⟨c,f,ab,ad,hq,A⟩:=qB aa;unfold F0 at u;split at u<;>try (cases u;done)
  rename_i p hp;obtain⟨_,z,ti,s',S',n',aq,_,_,_,av⟩:=z7 u;subst A;have k:=FJ m.inv ab ad hq.symm (fun vs R F=>ZU hΓ m.inv i (hV d i) (aj d i) hp u R F);refine k.mono fun v y k =>?_;grind
 ·unfold or2 at j;split at j
  ·rename_i v0 hw he;simp only[ajw]at j;subst j;have k:=XB hT hΓ m.inv hV hP he;exact k.mono fun v y k=>fin (Pw e hw h) (k.le (Pu hw h))
  ·unfold xK at j;split at j
   ·rename_i ty p Q;split at j<;>try (cases j;done)
    rename_i τ Y;unfold xJ orE at j;split at j
    ·rename_i E0 hF;simp only[ajw]at j;subst j;exact (aai hT m.inv Q Y hF).mono fun v y k=>fin (S5 hF) k
    ·exact (aaj hT m.inv m.nv.agR Q Y j).mono fun v y k=>fin (by rw[J0 j];exact .refl e h) k
   ·rename_i ty p x Q;split at j<;>try (cases j;done)
    rename_i τ Y;unfold xL orE at j;split at j
    ·rename_i E0 hF;simp only[ajw]at j;subst j;exact (aap hT m.inv (m.nv.new B) Q Y hF).mono fun v y k=>fin (S9 hF) k
    ·exact (aao hT m.inv (m.nv.new B) Q Y j).mono fun v y k=>fin (S8 j) k
   ·rename_i c Q;unfold DN at j;split at j<;>try (cases j;done)
    rename_i g al aa;obtain⟨c',f,ab,ad,hq,A⟩:=qB aa;cases ab;subst A;refine (FJ m.inv Q ad hq.symm (fun vs R F=>ZW hΓ m.inv (m.nv.new B) (dst:=o.dst) j R F)).mono fun v y k=>fin ?_ k;obtain⟨x,v,o',ar,r,ty,s,nv,cs,p,aw,ax,d,aq,_,hl,_,_,hb,_,_,rfl⟩:=vN j;obtain⟨S,_,_,hm,_,hc⟩:=jE hl;exact jj.set S hm hc rfl (.inr hb)
   ·cases j
end
end Go.Proofs.YtobnihfgnbnncaaGreat.Am
