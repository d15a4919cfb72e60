import Derived.Test.YtobnihfgnbnncaaGreatIa
set_option linter.unusedSimpArgs false
set_option linter.unusedVariables false
set_option linter.defProp false
noncomputable section
open Go.Proofs.Tryz
namespace Go.Proofs.YtobnihfgnbnncaaGreat.Am
open Go.RowKit
section
variable {P:Program} {T:Nat->Option Ty} {N:Nat} {M:Nat->Prop} {L:lG} {w0:World} {blk:Nat->Option (Nat×Nat)} {V:Nat->Nat->Prop} {t:Nat->D} {h:Nat->Option Row} {a:Act} {w:World} {e:Nat} {o:Oper} {Γ:Env}
def Inv.content (O:Inv N M L w0 blk V t h a w) {d:D} {m s:Nat} {e:List D} {u:Value} (W:0<s) (f:content h d=some (m,e)) (P:e.length=m*s) (J:RT w (Own M h blk) h blk V d u) :
  ∃(A:Option Addr) (c:Nat) (y:List Value),u=.slice A m c∧m<=c∧y.length=e.length∧(∀j x,e[j]? = some x->bE x=true∧RP w (Own M h blk) x (y.getD j undef)) ∧
   (∀B,A=some B->∀j v,y[j]? = some v->w.cell? (B.add j)=some v)∧(A=none->m=0∧c=0):=by
 cases d with
 | sl nl tight n xs =>
  simp only[Am.content,alz,Prod.mk.injEq]at f;obtain⟨rfl,rfl⟩:=f;have G:RP w (Own M h blk) (.sl nl tight n xs) u:=J;cases G with
  | sl A c nl tight n xs y h1 h2 h3 h4 h5 h6 h7 h8 =>
   refine⟨A,c,(List.range xs.length).map y,rfl,h1,by simp,fun j x i=>⟨h8 x (alR i),?_⟩,fun B l j v i =>?_,h4⟩
   ·grind
   ·obtain⟨k,C⟩:=alT.1 i;simp only[alU,alV]at k;simp only[List.getElem_map,List.getElem_range]at C;have H:xs≠[]:=by grind
    obtain⟨b,o,p,_,_,F⟩:=h6 H;rw[l]at p;simp only[alz]at p;subst p;rw[tO,<- C];exact F j k
 | buf x v z q n =>
  simp only[Am.content]at f;split at f
  ·rename_i r I;split at f
   ·rename_i Q;simp only[alz,Prod.mk.injEq]at f;obtain⟨rfl,rfl⟩:=f;rcases O.Ck I J with⟨g,X,c,cs,R,S,K,F,T,U,Y,Z⟩|⟨R,rfl,K,A,F⟩
    ·have E:((r.cells.drop q).take (n*z)).length=n*z:=by simp;omega
     rw[E]at P;refine⟨_,c,(List.range (n*z)).map (fun j=>cs.getD (g.2+(q+j)) undef),S,K,by simp;omega,fun j x i =>?_,fun B l j v i =>?_,fun l=>by cases l⟩
     ·grind
     ·obtain⟨k,C⟩:=alT.1 i;simp only[alU,alV]at k;simp only[List.getElem_map,List.getElem_range]at C;simp only[alz]at l;subst l;have hn:0<n:=by
       grind
      have:=(U (.inl (by omega))).1;subst this;rw[tO,<- C,alK];exact bm T (by omega)
    ·refine⟨A,0,[],F,alq _,by simp,fun j x i=>by simp at i,fun B l j v i=>by simp at i,fun _=>⟨rfl,rfl⟩⟩
   ·cases f
  ·cases f
 | _=>simp[Am.content]at f
def appended {M':Nat->Prop} {olds news:List D} {xs us:List Value} {cur:Array Value} {b:Nat} (d:xs.length=olds.length) (e:us.length=news.length) (a:(cur.toList.drop b).take (olds.length+news.length)=xs++us)
  (f:∀j x,olds[j]? = some x->bE x=true∧RP w M' x (xs.getD j undef)) (g:∀j x,news[j]? = some x->bE x=true∧RP w M' x (us.getD j undef)) (j:Nat) (x:D) (h:(olds++news)[j]? = some x) :
  bE x=true∧RP w M' x (cur.getD (b+j) undef):=by
 have c:j<olds.length+news.length:=by
  grind
 have i:cur.getD (b+j) undef=(xs++us).getD j undef:=by
  rw[<- a];simp only[al2,alS,if_pos c,alP];simp
 grind
def adx {d:Nat->Prop} {a:List D} {b:List Value} (e:b.length=a.length) (f:∀j x,a[j]? = some x->bE x=true∧RP w d x (b.getD j undef)):∀u∈b,u.oneCell'=true:=by
 intro u g;obtain⟨j,h⟩:=alL g;have i:=(alT.1 h).1;obtain⟨k,c⟩:=f j _ (alE (by omega));have:b.getD j undef=u:=by simp_all
 rw[this]at c;exact c.tw k
def sP (t g el:Nat) {τ:Ty} (d:P.underlying t=some (.slice el)) {φ:Ty} (e:eS P el φ) (A B:Option Addr) (n c k:Nat) (f:n<=c):(Builtin.append_ #[t,t] g #[.slice A n c,.slice B 0 k]).run P w=.ok (.slice A n c) w:=by
 have a:(Builtin.firstCells φ.size 0 (.slice B 0 k)).run P w=.ok #[] w:=by
  cases B with
  | none=>simp[Builtin.firstCells]
  | some b=>simp[Builtin.firstCells,loadCells,loadCellsFrom]
 cases A with
 | none=>simp[Builtin.append_,run_underlying d,run_sizeOf e,Builtin.lenOf,f,a]
 | some b=>simp[Builtin.append_,run_underlying d,run_sizeOf e,Builtin.lenOf,f,a,storeCells]
def Jq (t r el:Nat) {φ:Ty} (C:P.underlying t=some (.slice el)) (I:eS P el φ) (D:0<φ.size) (J:φ.zero.length=φ.size) (A:Option Addr) (n a:Nat) (d:List Value) (l:d.length=n*φ.size)
  (s:∀o,A=some o->∀j u,d[j]? = some u->w.cell? (o.add j)=some u) (K:A=none->n=0∧a=0) (b:Addr) (m c:Nat) (e:List Value) (h:e.length=m*φ.size)
  (p:∀j u,e[j]? = some u->w.cell? (b.add j)=some u) (E:a<n+m) (q:n+m<=maxLen) (L:(n+m)*φ.bytes<=140737488355328) :
  ∃k f,(Builtin.append_ #[t,t] r #[.slice A n a,.slice (some b) m c]).run P w=.ok (.slice (some ⟨w.heap.size,0,none⟩) (n+m) k) (w.drew.alloc (.cells f el))∧n+m<=k∧k<=maxLen∧k*φ.size=f.size∧f.toList.take ((n+m)*φ.size)=d++e:=by
 obtain⟨S,i,z,T,U,F,v,M,G,V⟩:=I.get;have x:z.cells.size=φ.size:=by simp_all
 have g:((n+m:Nat):Int)<=9223372036854775807:=by simp only[maxLen]at q;omega
 have H:(d++e).length=(n+m)*φ.size:=by grind
 have N:=grownCap_ge w (n+m) a el;have O:grownCap w (n+m) a el<=maxLen:=grownCap_le_maxLen w (n+m) a el q;have Q:∀f:Array Value,f=d.toArray++e.toArray++Builtin.zeroCells z.cells (grownCap w (n+m) a el-(n+m))->grownCap w (n+m) a el*φ.size=f.size∧f.toList.take ((n+m)*φ.size)=d++e:=by
  intro f y;subst y;refine⟨?_,?_⟩
  ·simp only[Array.size_append,amB,size_zeroCells,x,l,h,<- Nat.add_mul];congr 1;omega
  grind
 cases A with
 | some o =>
  have R:=run_append_grow (P:=P) w t r el i z C F G o n a d (by rw[v];exact l) (s o rfl) b m c e (by rw[v];exact h) p E g (growslice_fits E (by rw[M];exact L));grind
 | none =>
  obtain⟨rfl,rfl⟩:=K rfl;have B:d=[]:=amA (by omega);subst B;have R:=run_append_nil (P:=P) w t r el i z C F G b m c e (by rw[v];exact h) p (by omega) (by simpa using g) (by grind);grind
def Kx (t r el:Nat) {φ:Ty} (s:P.underlying t=some (.slice el)) (v:eS P el φ) (g q n e:Nat) (a:Array Value) (x:w.heap[g]? = some (.cells a el (0,0))) (b:Addr) (m c:Nat) (d:List Value) (k:d.length=m*φ.size)
  (l:∀j u,d[j]? = some u->w.cell? (b.add j)=some u) (y:∀u∈d,u.oneCell'=true) (f:n+m<=e) (o:q+n*φ.size+d.length<=a.size) :
  (Builtin.append_ #[t,t] r #[.slice (some ⟨g,q,none⟩) n e,.slice (some b) m c]).run P w =
   .ok (.slice (some ⟨g,q,none⟩) (n+m) e) (w.setRow g (a.toList.take (q+n*φ.size)++d++a.toList.drop (q+n*φ.size+d.length)).toArray):=by
 obtain⟨C,i,z,D,E,A,p,F,G,H⟩:=v.get;have B:=run_firstCells_some (P:=P) w i.size m b m c d (by rw[p];exact k) l;have h:=run_storeCells_at P g (q+n*i.size) el d 0 a w x (by simp_all) y;simp only[Nat.add_zero]at h;rw[<- p];simp[Builtin.append_,run_underlying s,sizeOf,typeInfo,A,Builtin.lenOf,f,B,tO,h]
def DG {α:Type} (l c a:List α) (b k:Nat) (h:b+k<=l.length):((l.take (b+k)++c++a).drop b).take (k+c.length)=(l.drop b).take k++c:=by
 have d:((l.drop b).take k).length=k:=by simp;omega
 grind
def QN (hT:ke P T) (Q:Inv N M L w0 blk V t h a w) {c:Call} {s x:Operand} {I d:Nat} {τ:Ty} {E:cH} (ho:o.op=.call c) (hc:c.callee=.builtin .append) (ao:c.args = #[s,x]) (aC:c.argTypes = #[I,I]) (hd:o.dst=some d)
  (hV:kZ N V d e) (hτ:T I=some τ) (l:lx T τ h e d (ev t s) (ev t x)=some E):fm P o a w (bA N M L w0 V t h a e o.dst E):=by
 have Z:=Q.ev s;have aq:=Q.ev x;generalize ev t s=qs at *;generalize ev t x=qx at *;obtain⟨dd,aa,aD⟩:=under hT hτ;have p:∀v w',(Builtin.append_ #[I,I] o.type #[a.eval s,a.eval x]).run P w=.ok v w'->(execOp a.eval o).run P w=.ok (.value v) w':=by
  intro v w' hr;simp[execOp,ho,resolve,hc,ao,aC,invoke,builtin,hr]
 unfold lx at l;split at l
 ·rename_i el aN;rw[aN]at aD;have:=iA aD;subst this;split at l
  ·rename_i φ m news hφ J;split at l
   ·rename_i f;have grow:∀(C:Option Nat) (A:Option Addr) (n cap:Nat) (xs:List Value) (olds:List D),(∀y,C=some y->∃r,h y=some r∧r.fz=false)->a.eval s=.slice A n cap->n<=cap->(A=none->n=0∧cap=0)->xs.length=n*φ.size->olds.length=xs.length ->
      (∀ad,A=some ad->∀j u,xs[j]? = some u->w.cell? (ad.add j)=some u)->(∀(j:Nat) x,olds[j]? = some x->bE x=true∧RP w (Own M h blk) x (xs.getD j undef))->cap<n+m->n+m<=maxLen->(n+m)*φ.bytes<=140737488355328->news.length=m*φ.size ->
      E=⟨.buf d e φ.size 0 (n+m),(match C with|some y=>[(y,none)]|none=>[])++[(d,some ⟨e,el,olds++news,false,true,false⟩)]⟩->fm P o a w (bA N M L w0 V t h a e o.dst E):=by
     intro C A n cap xs olds aE hs bd hA aF ab aO ar aQ aR aS aG aT;obtain⟨B,Y,R,S,al,ae,ag,ai,au⟩:=Q.content f.1 J aG aq;cases B with
     | none =>
      grind
     | some b =>
      obtain⟨k,vs,F,g1,g2,g3,g4⟩:=Jq (P:=P) (w:=w) I o.type el aa (hT el φ hφ) f.1 f.2 A n cap xs aF aO hA b m Y R (by omega) (ai b rfl) aQ aR aS;have hb:Below w.heap.size w (w.drew.alloc (.cells vs el)):=((Below.refl _ _).drew).alloc (by simp) _;refine aP (p _ _ (by rw[hs,S];exact F)) ?_;have:=Q.fresh (old:=C) (dst:=o.dst) (e:=e) (d:=d) (ty:=el) (s:=φ.size) (n:=n+m) (cells:=olds++news) (w':=w.drew.alloc (.cells vs el)) (v := .slice (some ⟨w.heap.size,0,none⟩) (n+m) k) hd hV (eV.wF hb) aE
       (.inl ⟨(w.heap.size,0),k,vs,rfl,.inl (alq _),by simpa using heap_alloc_new w.drew (.cells vs el),g1,g2,by simpa using g3,?_,fun j y hj =>?_⟩)
      ·subst aT;unfold bA;cases C with
       | none=>exact this
       | some y=>exact this
      ·simp only[amr,amu,ab,aF,aG,<- Nat.add_mul];rw[<- g3];exact al8 _ g1
      ·have U:=appended (b:=0) (M':=Own M h blk) (w:=w) (olds:=olds) (news:=news) (xs:=xs) (us:=R) (cur:=vs) ab.symm ae (by grind) ar ag j y hj;simp only[amr]at U ⊢;refine⟨U.1,U.2.keep fun b k1 k2=>⟨alu k1 hb.size,fun av =>?_,hb.block b k1⟩⟩;rcases av with av|rfl
       ·exact k2 (BV av)
       ·omega
    split at l
    ·rename_i nl tight n xs;split at l
     ·rename_i K;obtain⟨k1,k2,k3,k4,k5⟩:=K;split at l
      ·rename_i hm;subst hm;simp only[alz]at l;subst l;obtain⟨A,cx,R,S,al,ae,ag,ai,au⟩:=Q.content f.1 J k5 aq;obtain⟨B,Y,aj,W,G,_⟩:=Q.content (d := .sl nl tight n xs) f.1 rfl k4 Z;refine aP (p _ _ (by rw[W,S];exact sP (τ:=τ) I o.type el aa (hT el φ hφ) B A n Y cx G)) (bA.eU Q ?_);simp_all
      ·rename_i hm;simp only[alz]at l;obtain⟨B,Y,aj,W,G,aU,aw,ax,ay⟩:=Q.content (d := .sl nl tight n xs) f.1 rfl k4 Z;have aI:Y=n:=by
        have aJ:RP w (Own M h blk) (.sl nl tight n xs) (a.eval s):=Z;generalize a.eval s=u at *;cases aJ with
        | sl A' c' nl tight n xs bg h1 h2 h3 h4 h5 h6 h7 h8 =>
         grind
       subst aI;exact grow none B Y Y aj xs (fun y hy=>by cases hy) W G (fun h=>(ay h)) (by omega) (by omega) ax aw (by omega) k2 k3 k5 l.symm
     ·cases l
    ·rename_i y v zz q n;split at l
     ·rename_i r az;split at l
      ·rename_i K;obtain⟨k1,k2,k3,k4,k5,k6,k7⟩:=K;subst k1;simp only[alz]at l;obtain⟨aV,bh⟩:=cX az;have ak:Am.content h (.buf y v φ.size q n)=some (n,(r.cells.drop q).take (n*φ.size)):=by simp only[Am.content,az,if_pos k4]
       have ab:((r.cells.drop q).take (n*φ.size)).length=n*φ.size:=by simp;omega
       obtain⟨B,Y,aj,W,G,aU,aw,ax,ay⟩:=Q.content f.1 ak ab Z
       by_cases O:n+m<=Y
       ·obtain⟨A,cx,R,S,al,ae,ag,ai,au⟩:=Q.content f.1 J k7 aq;have aW:Y=0->fm P o a w (bA N M L w0 V t h a e o.dst E):=by
         intro h0;have aX:n=0:=by omega
         have aY:m=0:=by omega
         subst aX aY h0;have aA:news=[]:=amA (by omega);subst l aA;refine aP (p _ _ (by rw[W,S];exact sP (τ:=τ) I o.type el aa (hT el φ hφ) B A 0 0 cx (alq _))) ?_;have:=Q.fresh (old:=some y) (dst:=o.dst) (e:=e) (d:=d) (ty:=el) (s:=φ.size) (n:=0) (cells:=[]) (w':=w) (v := .slice B 0 0) hd hV (eV.refl _ _) (fun y' aK=>by grind) (.inr ⟨rfl,rfl,B,rfl⟩);unfold bA;have e0:(r.cells.drop q).take (0*φ.size)++[]=[]:=by simp
         rw[e0];exact this
        rcases Q.Ck az Z with⟨g,o',H,X,g0,g1,g2,g3,g4,g5,g7,g8⟩|⟨g0,g1,g2,A',g3⟩
        ·have aZ:H=Y:=by grind
         subst aZ
         by_cases a1:0<H∨q=0
         ·obtain⟨a6,bj⟩:=g5 a1;subst a6;have aB:(n+m)*φ.size<=H*φ.size:=al8 _ O;rw[Nat.add_mul]at aB;have aL:g.2+q+n*φ.size+R.length<=X.size:=by omega
          have aM:((X.toList.drop (g.2+q)).take (n*φ.size)).length=n*φ.size:=by simp;omega
          have F:∃i,(Builtin.append_ #[I,I] o.type #[a.eval s,a.eval x]).run P w=.ok (.slice (some ⟨g.1,g.2+q,none⟩) (n+m) H) (w.setRow g.1 i)∧i.size=X.size∧(i.toList.drop (g.2+q)).take (n*φ.size+m*φ.size)=(X.toList.drop (g.2+q)).take (n*φ.size)++R:=by
           rw[S,g1];cases A with
           | some ad =>
            refine⟨_,Kx (P:=P) I o.type el aa (hT el φ hφ) g.1 (g.2+q) n H X (by grind) ad m cx R (by omega) (ai ad rfl) (adx ae ag) O aL,by simp;omega,?_⟩;have:=DG X.toList R (X.toList.drop (g.2+q+n*φ.size+R.length)) (g.2+q) (n*φ.size) (by simp;omega);grind
           | none =>
            obtain⟨rfl,rfl⟩:=au rfl;have a7:R=[]:=amA (by omega);subst a7;refine⟨X,?_,rfl,by simp⟩;rw[setRow_self w g.1 X r.ty (0,0) g4];exact sP (τ:=τ) I o.type el aa (hT el φ hφ) _ _ n H 0 g2
          obtain⟨i,F,bc,a8⟩:=F;subst l;have an:Own M h blk g.1 := .inr ⟨y,r,g,aV,k3,g0,rfl⟩;have hheap:∀b,b≠g.1->(w.setRow g.1 i).heap[b]? = w.heap[b]?:=by
           intro b hb;simp only[World.setRow,alA];grind
          have ba:(w.setRow g.1 i).heap.size=w.heap.size:=by simp[World.setRow]
          refine aP (p _ _ F) ?_;have:=Q.fresh (old:=some y) (dst:=o.dst) (e:=e) (d:=d) (ty:=el) (s:=φ.size) (n:=n+m) (cells:=(r.cells.drop q).take (n*φ.size)++news) (w':=w.setRow g.1 i) (v := .slice (some ⟨g.1,g.2+q,none⟩) (n+m) H) hd hV
           ⟨rfl,rfl,rfl,by omega,fun b _ hb=>hheap b (fun he=>hb ⟨y,g,rfl,g0,he⟩)⟩ (fun y' aK=>by grind)
           (.inl ⟨(g.1,g.2+q),H,i,rfl,.inr ⟨y,g,rfl,g0,rfl⟩,by rw[<- k2];exact setRow_heap w g.1 X i r.ty (0,0) g4,O,g3,by omega,by grind,fun j z hj =>?_⟩)
          ·unfold bA;exact this
          ·have U:=appended (b:=g.2+q) (M':=Own M h blk) (w:=w) (olds:=(r.cells.drop q).take (n*φ.size)) (news:=news) (xs:=(X.toList.drop (g.2+q)).take (n*φ.size)) (us:=R) (cur:=i) (by rw[ab,aM]) ae (by grind)
            (fun j z hj=>by
             rw[kQ]at hj;split at hj
             ·rename_i bb;have:=g8 _ _ hj;have he:((X.toList.drop (g.2+q)).take (n*φ.size)).getD j undef=X.getD (g.2+(q+j)) undef:=by
               simp only[al2,kQ,if_pos bb,alK];simp
              rw[he];exact this
             ·cases hj) ag j z hj
           refine⟨U.1,U.2.keep fun b q1 q2=>⟨by omega,?_,hheap b (fun he=>q2 (he ▸ an))⟩⟩;rintro (hb|rfl)
           ·exact q2 (BV hb)
           ·exact q2 an
         grind
        grind
       ·exact grow (some y) B n Y aj _ (fun y' aK=>by grind) W G (fun h=>(ay h)) (by omega) (by omega) ax aw (by omega) k5 k6 k7 l.symm
      ·cases l
     ·cases l
    ·cases l
   ·cases l
  ·cases l
 ·cases l
end
section
variable {P:Program} {T:Nat->Option Ty} {N:Nat} {M:Nat->Prop} {L:lG} {w0:World} {blk:Nat->Option (Nat×Nat)} {V:Nat->Nat->Prop} {t:Nat->D} {h:Nat->Option Row} {a:Act} {w:World} {e:Nat} {o:Oper} {Γ:Env}
def Tw {s:Ds} {x:D} (a:kindOk s x=true):s.we=false∧Tv s=true:=by
 cases s<;>cases x<;>simp[kindOk]at a<;>exact⟨rfl,rfl⟩
def BZ (q:ke P T) (n:Nat) {M':Nat->Prop} {us vs:List Value} : ∀(F:List Field) (o:Nat) (a d:List D) (b:Bool),(∀f∈F,f.name ≠ "_")->oG T o (F.map fun f=>(f.type,f.offset)) a=true->eqL a d=some b ->
  (∀j x,a[j]? = some x->RP w M' x (us.getD (o+j) undef)∧o+j<us.length)->(∀j y,d[j]? = some y->RP w M' y (vs.getD (o+j) undef)∧o+j<vs.length) ->
  (forIn F ((none,()):Option Bool×Unit) fun f __s =>
   if f.name ≠ "_" then do
    let __do_lift <- part f.type us.toArray f.offset
    let __do_lift_1 <- part f.type vs.toArray f.offset
    let __do_lift <- Op.equalIn (n+1) f.type __do_lift __do_lift_1
    if (!__do_lift)=true then pure (ForInStep.done (some false,())) else pure (ForInStep.yield (none,()))
   else (pure (ForInStep.yield (none,())):Sem _)).run P w=.ok (if b then (none,()) else (some false,())) w
 | [],o,a,d,b,hn,e,c,s,t=>by
  cases a with
  | nil =>
   cases d with
   | nil =>
    simp only[eqL,alz]at c;subst c;rfl
   | cons y d=>simp[eqL]at c
  | cons x a=>simp[oG]at e
 | f::F,o,a,d,b,hn,e,c,s,t=>by
  cases a with
  | nil=>simp[oG]at e
  | cons x a =>
   cases d with
   | nil=>simp[eqL]at c
   | cons y d =>
    simp only[alw,oG,al0,beq_iff_eq]at e;obtain⟨⟨G,r⟩,I⟩:=e;simp only[eqL]at c;split at c
    ·rename_i J K h u;simp only[alz]at c;subst c;split at r
     ·rename_i φ v;obtain⟨i,k⟩:=s 0 x rfl;obtain⟨l,m⟩:=t 0 y rfl;rw[alZ]at i k l m;obtain⟨H,L⟩:=Tw r;have A:(part f.type us.toArray f.offset).run P w=.ok (us.getD o undef) w:=by
       have p:us.toArray[f.offset]? = some (us.getD o undef):=by rw[G];simp[List.getD,alE k]
       simp only[part,alW,pg (q _ _ v),H,Result.andThen_ok,alY,if_false,p];rfl
      have B:(part f.type vs.toArray f.offset).run P w=.ok (vs.getD o undef) w:=by
       have p:vs.toArray[f.offset]? = some (vs.getD o undef):=by rw[G];simp[List.getD,alE m]
       simp only[part,alW,pg (q _ _ v),H,Result.andThen_ok,alY,if_false,p];rfl
      have C:=(afL q v L i l h n).2 (ZB h r);have M:=BZ q n F (o+1) a d K (fun g p=>hn g (by simp[p])) I u (fun j z E=>by have:=s (j+1) z E;rwa [show o+(j+1)=o+1+j by omega]at this) (fun j z E=>by have:=t (j+1) z E;rwa [show o+(j+1)=o+1+j by omega]at this);rw[List.forIn_cons];simp only[alW];rw[if_pos (hn f (by simp))];simp only[alW,A,Result.andThen_ok,B,C];cases J with
      | false=>rfl
      | true =>
       simp only[amC,alY,if_false,Sem.run_pure,Result.andThen_ok,amD];exact M
     ·cases r
    ·cases c
def run_equalIn_bool (n:Nat) {a:Nat} (b:P.underlying a=some .bool) (i j:Bool):(Op.equalIn (n+1) a (.bool i) (.bool j)).run P w=.ok (i==j) w:=by
 simp[Op.equalIn,run_underlying b]
def run_equalIn_struct (n:Nat) {d:Nat} {F:Array Field} (e:P.underlying d=some (.struct F)) (g:P.stoodInHeld d=false) {us vs:List Value} {b:Bool}
  (a:(forIn F.toList ((none,()):Option Bool×Unit) fun f __s =>
   if f.name ≠ "_" then do
    let __do_lift <- part f.type us.toArray f.offset
    let __do_lift_1 <- part f.type vs.toArray f.offset
    let __do_lift <- Op.equalIn (n+1) f.type __do_lift __do_lift_1
    if (!__do_lift)=true then pure (ForInStep.done (some false,())) else pure (ForInStep.yield (none,()))
   else (pure (ForInStep.yield (none,())):Sem _)).run P w=.ok (if b then (none,()) else (some false,())) w) :
  (Op.equalIn (n+1+1) d (.agg us.toArray) (.agg vs.toArray)).run P w=.ok b w:=by
 have c:(program:Sem Program).run P w=.ok P w:=rfl;rw[Op.equalIn];simp only[alW,run_underlying e,Result.andThen_ok,c,g,alY,if_false];rw[<- Array.forIn_toList,a];cases b<;>rfl
def Yd (O:ke P T) (hI:Inv N M L w0 blk V t h a w) {r:Nat} {τ:Ty} (W:T r=some τ) {x y:D} {u v:Value} {b:Bool} (Q:RT w (Own M h blk) h blk V x u) (R:RT w (Own M h blk) h blk V y v) (e:eqD T τ x y=some b) :
  (Op.equal r u v).run P w=.ok b w∧(∀(p q:Operand) (g:BinOp),(eqGuard g r p q u v).run P w=.ok () w)∧(∀g,g=.eql∨g=.neq->binOp g r u v=(match g with | .eql=>(do pure (.bool (<- Op.equal r u v)):Sem Value)|_=>do pure (.bool (!(<- Op.equal r u v))))):=by
 obtain⟨d,K,E⟩:=under O W;unfold eqD at e;split at e
 ·rename_i i j;have Z:=zY Q;have hv:=zY R;subst Z hv;split at e
  ·rename_i l;rw[l]at E;have:=Ae E;subst this;simp only[alz]at e;subst e;refine⟨run_equalIn_bool 9999 K i j,fun p q g=>by cases g<;>rfl,fun g m =>?_⟩;rcases m with rfl|rfl<;>rfl
  ·cases e
 ·rename_i nl X n G;have s:RP w (Own M h blk) (.sl nl X n G) u:=Q;have z:RP w (Own M h blk) (.sl true true 0 []) v:=R;split at e
  ·rename_i el l;rw[l]at E;have:=iA E;subst this;cases z with
   | sl A c _ _ _ _ us h1 h2 h3 h4 h5 h6 h7 h8 =>
    obtain⟨rfl,rfl⟩:=(h3 rfl).1 rfl;cases s with
    | sl B c' _ _ _ _ aa g1 g2 g3 g4 g5 g6 g7 g8 =>
     have hr:=run_equal_slice_nil (P:=P) w r el B n c' K;refine⟨?_,fun p q g=>by cases g<;>rfl,fun g m =>?_⟩
     ·rw[hr];have hB:B.isNone=b:=by
       unfold afA at e;split at e
       ·rename_i Y;simp only[alz]at e;subst e;cases B with
        | none=>have:=(g4 rfl).1;omega
        | some _=>rfl
       ·split at e
        ·rename_i H;simp only[alz]at e;subst e;cases I:X with
         | true=>rw[((g3 H).1 I).1];rfl
         | false =>
          cases B with
          | none=>exact absurd rfl ((g3 H).2 I)
          | some _=>rfl
        ·cases e
      rw[<- hB]
     ·rcases m with rfl|rfl<;>rfl
  ·cases e
 ·rename_i G S;have s:RP w (Own M h blk) (.agg G) u:=Q;have z:RP w (Own M h blk) (.agg S) v:=R;split at e
  ·rename_i fs l;rw[l]at E;obtain⟨F,rfl,hF⟩:=jM E;split at e
   ·rename_i k;simp only[al0]at k;obtain⟨q1,q2,U⟩:=(O r τ W).eqs k.1;rw[K]at U;simp only at U;cases s with
    | agg G us h1 h2 h3 =>
     cases z with
     | agg S vs g1 g2 g3 =>
      have o:∀f∈F.toList,f.name ≠ "_":=by
       intro f hf;have:=Array.all_eq_true_iff_forall_mem.1 U f (by simpa using hf);simpa using this
      have C:=BZ (P:=P) (w:=w) O 9998 (M':=Own M h blk) (us:=us) (vs:=vs) F.toList 0 G S b o (by rw[hF];exact k.2) e
       (fun j x J=>by rw[amr];exact⟨h2 j x J,by have:=(alT.1 J).1;omega⟩) (fun j x J=>by rw[amr];exact⟨g2 j x J,by have:=(alT.1 J).1;omega⟩)
      refine⟨?_,fun p q g =>?_,fun g m =>?_⟩
      ·exact run_equalIn_struct 9998 K q1 C
      ·cases g<;>first|rfl|simp[eqGuard,program,Sem.run,q2]
      ·rcases m with rfl|rfl<;>rfl
   ·cases e
  ·cases e
 ·cases e
def UC (Q:ke P T) (g:Inv N M L w0 blk V t h a w) {x y:Operand} {l:BinOp} {f E:Nat} {d:D} (m:o.op=.binOp l f x y E) (b:GX T f l (ev t x) (ev t y)=some d):fm P o a w (bA N M L w0 V t h a e o.dst ⟨d,[]⟩):=by
 have u:=g.ev x;have z:=g.ev y;generalize ev t x=p at *;generalize ev t y=q at *;unfold GX at b;split at b
 ·rename_i k i F j;have A:=pI u;have B:=pI z;have C:(eqGuard l f x y (.int k i) (.int F j)).run P w=.ok () w:=by cases l<;>rfl
  split at b
  ·rename_i G;obtain⟨v,n,r⟩:=VC (P:=P) (w:=w) (M:=Own M h blk) (ty:=f) (k':=F) G b;exact aP (by simp[execOp,m,A,B,C,n]) (bA.eU g (ca r))
  ·rename_i G;split at b
   ·rename_i S;subst S;obtain⟨v,n,r⟩:=adI (P:=P) (w:=w) (M:=Own M h blk) (ty:=f) (by simpa using G) b;exact aP (by simp[execOp,m,A,B,C,n]) (bA.eU g (ca r))
   ·cases b
 ·rename_i s U;have A:=GN u;have B:=GN z;have C:(eqGuard l f x y (.string s) (.string U)).run P w=.ok () w:=by cases l<;>rfl
  obtain⟨v,n,r⟩:=adK (P:=P) (w:=w) (M:=Own M h blk) (ty:=f) b;exact aP (by simp[execOp,m,A,B,C,n]) (bA.eU g (ca r))
 ·split at b
  ·rename_i τ R;split at b
   ·split at b
    ·rename_i c H;simp only[alz]at b;subst b;obtain⟨I,J,K⟩:=Yd (P:=P) Q g R u z H;have O:=K .eql (.inl rfl);exact aP (v := .bool c) (w':=w) (by simp[execOp,m,J,O,I]) (bA.eU g (ca (.bool _)))
    ·cases b
   ·split at b
    ·rename_i c H;simp only[alz]at b;subst b;obtain⟨I,J,K⟩:=Yd (P:=P) Q g R u z H;have O:=K .neq (.inr rfl);exact aP (v := .bool !c) (w':=w) (by simp[execOp,m,J,O,I]) (bA.eU g (ca (.bool _)))
    ·cases b
   ·cases b
  ·cases b
end
def Fl (n:Int):∀(a:List Int) (l:List MapEntry) (us:Nat->Value) (i:Nat),l.length=a.length->(∀j k,a[j]? = some k->∃e:MapEntry,l[j]? = some e∧e.key=.int .i64 k∧e.val=us j) ->
  Instr.findNow (.int .i64) (.int .i64 n) l i=some (if a.contains n then some (i+a.idxOf n,us (a.idxOf n)) else none)
 | [],[],_,_,_,_=>by simp[Instr.findNow]
 | k::a,e::l,us,i,m,h=>by
  obtain⟨r,f,g,o⟩:=h 0 k rfl;simp only[List.getElem?_cons_zero,alz]at f;subst f;have p:=Fl n a l (fun j=>us (j+1)) (i+1) (by simpa using m) (fun j k q=>by simpa using h (j+1) k (by simpa using q))
  by_cases b:k=n
  ·subst b;simp[Instr.findNow,g,Instr.sameNow,o,aml]
  ·have c:(n==k)=false:=by simp[Ne.symm b]
   have d:(k==n)=false:=by simp[b]
   simp only[Instr.findNow,g,Instr.sameNow,if_true,c,p,amm,amn,aml,d,cond_false];grind
def ZT {c:List eB} (h:c.all (fun k=>KD k==false)=true):c=(c.map (·.1)).map fun n=>(n,none):=by
 induction c with
 | nil=>rfl
 | cons k c d =>
  simp only[List.all_cons,al0]at h;obtain⟨a,x⟩:=k;cases x with
  | none=>grind
  | some b=>simp[KD]at h
def Cq (n:Int) (l:List Int):(l.map fun m=>((m,none):eB)).contains (n,none)=l.contains n∧(l.map fun m=>((m,none):eB)).idxOf (n,none)=l.idxOf n:=by
 induction l with
 | nil=>simp_all
 | cons m l a =>
  grind
def Q9 (n:Int) (a:List eB) (l:List MapEntry) (b:Nat->Value) (d:l.length=a.length) (f:a.all (fun k=>KD k==false)=true) (h:∀j k,a[j]? = some k->∃e:MapEntry,l[j]? = some e∧e.key=oL k∧e.val=b j) :
  Instr.findNow (.int .i64) (.int .i64 n) l 0=some (if a.contains (n,none) then some (a.idxOf (n,none),b (a.idxOf (n,none))) else none):=by
 have c:=ZT f;generalize a.map (·.1)=q at c;subst c;have:=Fl n q l b 0 (by simpa using d) (fun j k g=>by
  obtain⟨e,i,m,o⟩:=h j (k,none) (by simp[g]);exact⟨e,i,m,o⟩)
 rw[(Cq n q).1,(Cq n q).2];simpa using this
def Sb (z:D) (n:eB):∀(a:List eB) (b:List D),b.length=a.length->vf z a b n=if a.contains n then b.getD (a.idxOf n) z else z
 | [],_,_=>by simp[vf]
 | k::a,v::b,f=>by
  have g:=Sb z n a b (by simpa using f)
  by_cases c:k=n
  ·subst c;simp[vf,aml]
  ·have d:(n==k)=false:=by simp[Ne.symm c]
   have e:(k==n)=false:=by simp[c]
   simp[vf,c,g,aml,d,e,Ne.symm c]
section
variable {P:Program} {T:Nat->Option Ty} {N:Nat} {M:Nat->Prop} {L:lG} {w0:World} {blk:Nat->Option (Nat×Nat)} {V:Nat->Nat->Prop} {t:Nat->D} {h:Nat->Option Row} {a:Act} {w:World} {e:Nat} {o:Oper}
def ZS {κ:Ty} (c:zo T κ=some true):∃a b α β,κ.ds=.struct [(a,0),(b,1)]∧T a=some α∧T b=some β∧α.ds=.int .i64∧β.ds=.int .i64∧κ.eqok=true:=by
 unfold zo at c;grind
def ZR {κ:Ty} (a:zo T κ=some false):κ.ds=.int .i64:=by
 unfold zo at a;grind
def Fx (i:ke P T) {f:Nat} {τ φ:Ty} {b:Bool} (j:T f=some τ) (a:Iw T τ=some (b,φ)):∃g h κ,P.underlying f=some (.map g h)∧T g=some κ∧zo T κ=some b∧T h=some φ:=by
 unfold Iw at a;split at a
 ·rename_i k el e;split at a
  ·rename_i κ o l m;split at a
   ·rename_i p n;simp only[alz,Prod.mk.injEq]at a;obtain⟨rfl,rfl⟩:=a;obtain⟨d,q,c⟩:=under i j;rw[e]at c;refine⟨k,el,κ,?_,l,n,m⟩;cases d<;>simp[conv]at c;simp_all
   ·cases a
  ·cases a
 ·cases a
def Inv.key (j:Inv N M L w0 blk V t h a w) {i:Operand} {n:eB} (b:ZQ (Am.ev t i)=some n):a.eval i=oL n:=by
 have e:=j.ev i;generalize Am.ev t i=d at *;unfold ZQ at b;split at b
 ·simp only[alz]at b;subst b;exact pI e
 ·simp only[alz]at b;subst b;have c:RP w (Own M h blk) (.agg _) (a.eval i):=e;generalize a.eval i=u at c;cases c with
  | agg xs k l h2 h3 =>
   match k,l with
   | [m,o],_ =>
    have f:=h2 0 _ rfl;have g:=h2 1 _ rfl;simp only[amo,amp]at f g;cases f;cases g;rfl
 ·cases b
def B3 (j:ke P T) {e:Nat} {κ:Ty} (k:T e=some κ) (m:zo T κ=some true):∃(F:Array Field) (f1 f2:Field) (α β:Ty),P.underlying e=some (.struct F)∧F.toList=[f1,f2]∧f1.offset=0∧f2.offset=1∧T f1.type=some α∧T f2.type=some β∧α.ds=.int .i64∧β.ds=.int .i64∧P.stoodInHeld e=false∧f1.name ≠ "_"∧f2.name ≠ "_":=by
 obtain⟨a,b,α,β,h,r,s,t,u,n⟩:=ZS m;obtain⟨d,o,l⟩:=under j k;rw[h]at l;obtain⟨F,rfl,g⟩:=jM l;obtain⟨v,w,i⟩:=(j e κ k).eqs n;rw[o]at i;simp only at i;have c:F.toList.length=2:=by simpa using congrArg List.length g
 match p:F.toList,c with
 | [f1,f2],_ =>
  rw[p]at g;simp only[alw,amb,alO,Prod.mk.injEq,and_true]at g;obtain⟨⟨rfl,x⟩,⟨rfl,y⟩⟩:=g;have z:∀f∈F.toList,f.name ≠ "_":=by
   intro f q;have:=Array.all_eq_true_iff_forall_mem.1 i f (by simpa using q);simpa using this
  grind
def aao (f:ke P T) {g:Nat} {κ:Ty} (h:T g=some κ) (i:zo T κ=some true) (a b c d:Int):(Op.equal g (.agg #[.int .i64 a,.int .i64 b]) (.agg #[.int .i64 c,.int .i64 d])).run P w=.ok (a==c&&b==d) w:=by
 obtain⟨F,f1,f2,α,β,k,l,m,n,o,p,q,r,s,t,u⟩:=B3 f h i;refine run_equalIn_struct (us:=[.int .i64 a,.int .i64 b]) (vs:=[.int .i64 c,.int .i64 d]) 9998 k s ?_;refine BZ (P:=P) (w:=w) f 9998 (M':=fun _=>False) F.toList 0 [.int .i64 a,.int .i64 b] [.int .i64 c,.int .i64 d] _ ?_ ?_ ?_ ?_ ?_
 ·simp_all
 ·rw[l];simp[oG,m,n,o,p,q,r,kindOk]
 ·simp[eqL,eqC]
 ·intro j x e
  match j,e with
  | 0,e=>simp only[List.getElem?_cons_zero,alz]at e;subst e;exact⟨.int _ _,by simp⟩
  | 1,e=>simp only[List.getElem?_cons_succ,List.getElem?_cons_zero,alz]at e;subst e;exact⟨.int _ _,by simp⟩
  | j+2,e=>simp at e
 ·intro j x e
  match j,e with
  | 0,e=>simp only[List.getElem?_cons_zero,alz]at e;subst e;exact⟨.int _ _,by simp⟩
  | 1,e=>simp only[List.getElem?_cons_succ,List.getElem?_cons_zero,alz]at e;subst e;exact⟨.int _ _,by simp⟩
  | j+2,e=>simp at e
def EI {k:eB} (h:(KD k==true)=true):∃a b,k=(a,some b):=by
 obtain⟨a,x⟩:=k;cases x with
 | none=>simp[KD]at h
 | some b=>simp_all
def zI (p:ke P T) {q:Nat} {κ:Ty} (r:T q=some κ) (s:zo T κ=some true) {n:eB} (t:(KD n==true)=true):∀(ks:List eB) (l:List MapEntry) (us:Nat->Value) (i:Nat),l.length=ks.length->ks.all (fun k=>KD k==true)=true->(∀j k,ks[j]? = some k->∃e:MapEntry,l[j]? = some e∧e.key=oL k∧e.val=us j) ->
  (Instr.findAsking q (oL n) l i).run P w=.ok (if ks.contains n then some (i+ks.idxOf n,us (ks.idxOf n)) else none) w
 | [],[],_,_,_,_,_=>by simp[Instr.findAsking]
 | k::ks,e::l,us,i,v,g,h=>by
  simp only[List.all_cons,al0]at g;obtain⟨B,u,x,y⟩:=h 0 k rfl;simp only[List.getElem?_cons_zero,alz]at u;subst u;have z:=zI p r s t ks l (fun j=>us (j+1)) (i+1) (by simpa using v) g.2 (fun j k A=>by simpa using h (j+1) k (by simpa using A));obtain⟨a,b,rfl⟩:=EI t;obtain⟨c,d,rfl⟩:=EI g.1;have m:=aao (P:=P) (w:=w) p r s a b c d;have o:(((a,some b):eB)==(c,some d))=(a==c&&b==d):=by
   grind
  have f:(((c,some d):eB)==(a,some b))=(a==c&&b==d):=by
   grind
  simp only[Instr.findAsking,oL,alW,x,m,Result.andThen_ok,amm,aml,o,f];cases C:(a==c&&b==d) with
  | true=>simp[y]
  | false =>
   simp only[alY,if_false,amn,cond_false];simp only[oL]at z;grind
def O5 (e:ke P T) {h:Nat} {κ:Ty} (m:T h=some κ) (n:zo T κ=some true) (a b:Int) (em:Bool):(Instr.checkKey em 10000 h (.agg #[.int .i64 a,.int .i64 b])).run P w=.ok () w:=by
 obtain⟨F,f1,f2,α,β,o,p,q,r,i,j,k,l,u,v,x⟩:=B3 e m n;obtain⟨d1,f,c⟩:=under e i;obtain⟨d2,g,d⟩:=under e j;rw[k]at c;rw[l]at d;have s:d1=.int .i64:=by cases d1<;>simp[conv]at c;subst c;rfl
 have t:d2=.int .i64:=by cases d2<;>simp[conv]at d;subst d;rfl
 subst s t;have y:(part f1.type #[Value.int .i64 a,.int .i64 b] f1.offset).run P w=.ok (.int .i64 a) w:=by
  simp[part,alW,pg (e _ _ i),k,Ds.we,q,Result.andThen]
 have z:(part f2.type #[Value.int .i64 a,.int .i64 b] f2.offset).run P w=.ok (.int .i64 b) w:=by
  simp[part,alW,pg (e _ _ j),l,Ds.we,r,Result.andThen]
 have A:=MapKept.run_checkKey (w:=w) f (show MapKept.IsKey (.int .i64) (.int .i64 a) from rfl) em 9998;have B:=MapKept.run_checkKey (w:=w) g (show MapKept.IsKey (.int .i64) (.int .i64 b) from rfl) em 9998;rw[Instr.checkKey];simp only[alW,run_underlying o,Result.andThen_ok];rw[<- Array.forIn_toList,p];simp_all
def Tq (g:ke P T) {p:Nat} {κ:Ty} {b:Bool} (i:T p=some κ) (m:zo T κ=some b) {n:eB} {a:List eB} (f:vX b n a=true) {l:List MapEntry} {us:Nat->Value} (q:l.length=a.length) (h:∀j k,a[j]? = some k->∃e:MapEntry,l[j]? = some e∧e.key=oL k∧e.val=us j) :
  (∀em,(Instr.checkKey em 10000 p (oL n)).run P w=.ok () w)∧(Instr.findKey p (oL n) l).run P w=.ok (if a.contains n then some (a.idxOf n,us (a.idxOf n)) else none) w∧(Instr.keyThatStays (oL n) (oL n)).run P w=.ok (oL n) w:=by
 simp only[vX,al0]at f;cases b with
 | false =>
  obtain⟨n,x⟩:=n;cases x with
  | some y=>simp[KD]at f
  | none =>
   obtain⟨d,o,r⟩:=under g i;rw[ZR m]at r;have s:d=.int .i64:=by cases d<;>simp[conv]at r;subst r;rfl
   subst s;have c:MapKept.IsKey (.int .i64) (.int .i64 n):=rfl;exact⟨fun em=>MapKept.run_checkKey (w:=w) o c em 9999,MapKept.run_findKey (w:=w) o (Q9 n a l us q f.2 h),MapKept.run_keyThatStays (P:=P) (w:=w) c⟩
 | true =>
  obtain⟨F,f1,f2,α,β,o,_⟩:=B3 g i m;have t:=zI (P:=P) (w:=w) g i m f.1 a l us 0 q f.2 h;obtain⟨x,y,rfl⟩:=EI f.1;refine⟨fun em=>O5 g i m x y em,?_,?_⟩
  ·rw[amr]at t;unfold Instr.findKey;simp only[alW,run_underlying o,Result.andThen_ok];cases l with
   | nil =>
    cases a with
    | nil=>simp[Instr.findNow]
    | cons _ _=>simp at q
   | cons e l =>
    have:Instr.findNow (.struct F) (oL (x,some y)) (e::l) 0=none:=by simp[Instr.findNow,Instr.sameNow]
    simp_all
  ·simp[Instr.keyThatStays,oL,Instr.sameBits]
def zeroV (o:ke P T) {e:Nat} {φ:Ty} {z:D} (p:T e=some φ) (a:mf φ (φ.zero.map rH)=some z) (q:(φ.zero.map rH).all bE=true) (w:World) (M:Nat->Prop):∃b,(zeroValue e).run P w=.ok b w∧RP w M z b:=by
 have k:=o e φ p;obtain⟨d,i,b,s,t,l,u,v,m,f⟩:=k.get;have g:=k.agg;rw[l]at g;simp only[Option.map_some,m,alz]at g;refine⟨b,by simp[zeroValue,typeInfo,l,m],?_⟩;have n:=fun j x h=>uM φ.zero q (w:=w) (M:=M) j x h;unfold mf at a;rw[<- g]at a;cases b with
 | agg cs =>
  simp only[Ve,if_true,alz]at a;subst a;simp only[Value.cells]at f;subst f;refine .agg _ φ.zero (by simp) (fun j x h =>?_) (fun x y =>?_)
  ·have:=(n j x h).2;simp_all
  grind
 | _ =>
  simp only[Ve,alY,if_false]at a;split at a
  ·rename_i d r;simp only[alz]at a;subst a;have c:=(n 0 d (by rw[r];rfl)).2;rw[<- f]at c;simpa [Value.cells] using c
  ·cases a
def Inv.XM (B:Inv N M L w0 blk V t h a w) {m:D} {u:Value} {l:List eB} {vs:List D} (i:mapOf h m=some (l,vs)) (s:RT w (Own M h blk) h blk V m u) :
  vs.length=l.length∧∃(c:Array MapEntry) (f:Nat->Value),c.size=l.length∧((u=.map none∧c = #[])∨∃b d,u=.map (some b)∧w.heap[b]? = some (.map c d))∧(∀j k,l[j]? = some k->∃e:MapEntry,c[j]? = some e∧e.key=oL k∧e.val=f j)∧∀j x,vs[j]? = some x->RP w (Own M h blk) x (f j):=by
 cases m with
 | mp x v =>
  simp only[mapOf]at i;obtain⟨g,r,y,C,z,A,P,rfl,E,c,d,F,G,_,f,H,n⟩:=B.Sf i s;exact⟨E,c,f,G,.inr ⟨g.1,d,rfl,F⟩,H,n⟩
 | mpc o p =>
  simp only[mapOf,alz,Prod.mk.injEq]at i;obtain⟨rfl,rfl⟩:=i;have q:RP w (Own M h blk) (.mpc o p) u:=s;cases q with
  | mpc _ _ I f y C z A =>
   refine⟨y,?_⟩;cases I with
   | none =>
    simp_all
   | some b =>
    obtain⟨Q,R,c,d,J,K,O⟩:=z b rfl;exact⟨c,f,K,.inr ⟨b,d,rfl,J⟩,O,A⟩
 | _=>simp[mapOf]at i
def N2 (B:ke P T) (m:Inv N M L w0 blk V t h a w) {c d:Nat} {τ:Ty} {E:cH} (p:o.op=.makeMap c none) (q:o.dst=some d) (r:kZ N V d e) (C:T c=some τ) (b:qL T c τ e d=some E):fm P o a w (bA N M L w0 V t h a e o.dst E):=by
 unfold qL at b;split at b
 ·split at b
  ·cases b
  rename_i g;simp only[alz]at b;subst b;have f:=(Below.refl w.heap.size w).alloc (alq _) (.map #[] 0);have i:=m.GP (w':=w.alloc (.map #[] 0)) (h1:=h) (old:=none) (d:=d) (e:=e) (r0:=⟨e,c,[.mpc [] []],false,true,true⟩) (go:=some (w.heap.size,0)) f.os f.tape f.output f.size (fun k u _=>Below.heap_alloc w _ k u) (fun y z=>by cases z) rfl r
   ⟨.inl (alq _),by
    refine .inl ?_;exact⟨[],[],rfl,rfl,fun _=>⟨#[],0,heap_alloc_new w _,rfl,MapKept.stamped_empty 0,fun _=>undef,fun j k l=>by simp at l,fun j x l=>by simp at l⟩,fun A=>absurd A g⟩⟩ rfl rfl (fun _ _ _ j x s n h=>by grind)
  refine aP (v := .map (some w.heap.size)) (w':=w.alloc (.map #[] 0)) ?_ ⟨cq blk d (some (w.heap.size,0)),?_,?_⟩
  ·simp[execOp,p,Instr.makeMap,Result.andThen]
  ·refine i.weaken fun x v D =>?_;grind
  ·exact⟨.inr ⟨q,rfl⟩,fun _ _ _=>⟨(w.heap.size,0),ay _ _ _,rfl⟩⟩
 ·cases b
def QO (O:ke P T) (K:Inv N M L w0 blk V t h a w) {ty:Nat} {m i:Operand} {q:Bool} {τ:Ty} {E:cH} (Q:o.op=.lookup ty m i q) (hτ:T ty=some τ) (f:jE T τ h (ev t m) (ev t i) q=some E):fm P o a w (bA N M L w0 V t h a e o.dst E):=by
 unfold jE at f;split at f
 ·rename_i b φ d vs n R S hi;split at f
  ·rename_i z hz;split at f
   ·rename_i r;obtain⟨U,W⟩:=r;simp only[alz]at f;subst f;obtain⟨kt,et,κ,s,hκ,X,hφ⟩:=Fx O hτ R;obtain⟨A,g,B,Y,C,hk,hv⟩:=K.XM S (K.ev m);have u:a.eval i=oL n:=K.key hi;obtain⟨Z,D,aa⟩:=zeroV O hφ hz W w (Own M h blk);obtain⟨F,c,_⟩:=Tq (P:=P) (w:=w) O hκ X U (l:=g.toList) (us:=B) (by simpa using Y) (fun j k p=>by simp_all);have v:=F g.isEmpty;have hl:=Sb (kp z) n d vs A;have G:(execOp a.eval o).run P w=.ok (.value (if q then .tuple #[if d.contains n then B (d.idxOf n) else Z,.bool (d.contains n)] else if d.contains n then B (d.idxOf n) else Z)) w:=by
     rcases C with⟨ab,rfl⟩|⟨b,ad,H,y⟩
     ·have ae:d=[]:=by grind
      subst ae;simp only[List.contains_nil,alY,if_false]at c ⊢;cases q<;>simp[execOp,Q,Instr.lookup,run_underlying s,ab,u,v,c,D,Result.andThen]<;>simp_all
     ·have I:=MapKept.run_getObj_map (P:=P) y;cases hc:d.contains n with
      | true =>
       rw[hc]at c;simp only[if_true]at c;cases q<;>simp[execOp,Q,Instr.lookup,run_underlying s,H,u,I,v,c,Result.andThen]
      | false =>
       rw[hc]at c;simp only[alY,if_false]at c;cases q<;>simp[execOp,Q,Instr.lookup,run_underlying s,H,u,I,v,c,D,Result.andThen]
    have J:RP w (Own M h blk) (vf (kp z) d vs n) (if d.contains n then B (d.idxOf n) else Z):=by
     rw[hl];split
     ·grind
     ·exact aa.kp
    refine aP G (bA.eU K ?_);cases q with
    | false=>exact ca J
    | true =>
     refine ca (.tup _ [_,_] rfl fun j x p =>?_)
     match j,p with
     | 0,p=>simp_all
     | 1,p=>simp only[List.getElem?_cons_succ,List.getElem?_cons_zero,alz]at p;subst p;exact .bool _
     | j+2,p=>simp at p
   ·cases f
  ·cases f
 ·cases f
def Inv.AN (l:Inv N M L w0 blk V t h a w) {d e:D} {f:List Nat} {u:Value} {g:Nat->Prop} (c:AN h d=some (e,f)) (k:s6 M h blk f g) (i:RT w (Own M h blk) h blk V d u):RP w g e u:=by
 have m:∀b,b<w.heap.size->¬Own M h blk b->b<w.heap.size∧¬g b∧w.heap[b]? = w.heap[b]?:=fun b j h2=>⟨j,fun n=>h2 (k.le b n),rfl⟩;have one:∀d,Am.AN h d=(match Am.eY h d with|some (e,f)=>some (canon e,f)|none=>none)->Am.AN h d=some (e,f)->RT w (Own M h blk) h blk V d u->RP w g e u:=by
  intro d o c i;rw[o]at c;split at c
  ·rename_i d1 p j;simp only[alz,Prod.mk.injEq]at c;obtain⟨rfl,rfl⟩:=c;exact (l.eY j k i).1.canon
  ·cases c
 cases d with
 | agg xs =>
  simp only[Am.AN,alz,Prod.mk.injEq]at c;obtain⟨rfl,rfl⟩:=c;exact (RP.keep m (show RP w (Own M h blk) (.agg xs) u from i)).kp
 | _=>exact one _ rfl c i
def adD (a:List eB) (b:List D) (n:eB) (d:D) (h:b.length=a.length):(Gb a b n d).length=(BX a n).length:=by
 unfold Gb BX;split<;>simp[h]
def yW (hT:ke P T) (O:Inv N M L w0 blk V t h a w) {ty:Nat} {m i x:Operand} {τ:Ty} {E:cH} (K:o.op=.mapUpdate ty m i x∨o.op=.insert ty m i x) (hτ:T ty=some τ) (G:eZ T τ h (ev t m) (ev t i) (ev t x)=some E):fm P o a w (bA N M L w0 V t h a e o.dst E):=by
 have hm:=O.ev m;unfold eZ at G;split at G
 ·rename_i b φ y v n d fr ar au hi U;rw[au]at hm;split at G
  ·rename_i r hr;split at G
   ·rename_i q vs W;split at G
    ·rename_i Q;obtain⟨av,X,aw⟩:=Q;simp only[alz]at G;subst G;obtain⟨kt,et,κ,Y,hκ,ax,hφ⟩:=Fx hT hτ ar;have Z:a.eval i=oL n:=O.key hi;have aa:=O.freeze fr;have aG:=O.AN U (O.ic fr) (O.ev x);obtain⟨g,r',h1,h2,h3,h4,h5,ab,_⟩:=O.Sf W hm;rw[hr]at h1;simp only[alz]at h1;subst h1;have R:aZ h (lh h fr) y=some r:=by rw[DN aw];exact hr
     have B:=aa.rowIs R h5;unfold fh at B;rw[h3]at B;rcases B with B|⟨B,_⟩;rotate_left
     ·grind
     obtain⟨aH,aI,i1,ad,ay,_⟩:=B;have ae:r.ty<900000:=by
      obtain⟨r3,z1,_,_,_,z5⟩:=Ir W;simp_all
     obtain⟨A,u,p,S,ag,us,hk,hv⟩:=ay ae;rw[h4]at i1;simp only[alO,D.mpc.injEq,and_true]at i1;obtain⟨rfl,rfl⟩:=i1;obtain⟨ai,C,az⟩:=Tq (P:=P) (w:=w) hT hκ ax av (l:=A.toList) (us:=us) (by simpa using S) (fun j k hj=>by simp_all);have aj:=ai false;have ak:=MapKept.run_getObj_map (P:=P) p;have aJ:g.1<w.heap.size:=(ams.1 p).1;have key:∃(c:Array MapEntry) (f:Nat) (I:Nat->Value),(execOp a.eval o).run P w=.ok .skip { w with heap:=w.heap.setIfInBounds g.1 (.map c f) }∧c.size=(BX q n).length∧MapKept.Stamped c f∧(∀j k,(BX q n)[j]? = some k->∃e:MapEntry,c[j]? = some e∧e.key=oL k∧e.val=I j)∧∀j z,(Gb q vs n d)[j]? = some z->RP w (Own M (aZ h (lh h fr)) blk) z (I j):=by
      cases J:q.contains n with
      | true =>
       rw[J]at C;simp only[if_true]at C;have hj:q.idxOf n<q.length:=List.idxOf_lt_length_of_mem (by simpa using J);have aA:q[q.idxOf n]? = some n:=by simp_all
       obtain⟨e0,q1,q2,q3⟩:=hk _ _ aA;have aB:(((A[q.idxOf n]?).map (·.key)).getD (oL n))=oL n:=by rw[q1];exact q2
       refine⟨A.modify (q.idxOf n) (fun e=>{ e with key:=oL n,val:=a.eval x }),u,fun j=>if j=q.idxOf n then a.eval x else us j,?_,?_,?_,fun j k F =>?_,fun j z H =>?_⟩
       ·have hset:=fun ob=>MapKept.run_setObj_map (P:=P) ob p;rcases K with K|K<;>simp[execOp,K,Instr.mapUpdate,run_underlying Y,ab,Z,ak,aj,C,aB,az,hset,Result.andThen]
       ·simp only[Array.size_modify,BX,J,if_true];exact S
       ·exact MapKept.stamped_modify ag _ _ (fun e _=>rfl) (fun e _ he=>by simp_all)
       ·simp only[BX,J,if_true]at F;grind
       ·simp only[Gb,J,if_true]at H;grind
      | false =>
       rw[J]at C;simp only[alY,if_false]at C;refine⟨A.push { key:=oL n,val:=a.eval x,born:=u },u+1,fun j=>if j<q.length then us j else a.eval x,?_,?_,?_,fun j k F =>?_,fun j z H =>?_⟩
       ·have hset:=fun ob=>MapKept.run_setObj_map (P:=P) ob p;rcases K with K|K<;>simp[execOp,K,Instr.mapUpdate,run_underlying Y,ab,Z,ak,aj,C,hset,Result.andThen]
       ·simp only[Array.size_push,BX,J,alY,if_false,amu,List.length_cons,List.length_nil];omega
       ·refine MapKept.stamped_push ag fun x hx he =>?_;obtain⟨j,hj⟩:=alL hx;have aC:j<q.length:=by grind
        obtain⟨e1,p1,p2,_⟩:=hk j _ (alE aC);rw[amw,p1]at hj;cases hj;have:q[j]=n:=acW (p2.symm.trans he);grind
       ·simp only[BX,J,alY,if_false]at F
        by_cases aK:j<q.length
        ·grind
        ·rw[amj (by omega)]at F;have aD:j=q.length:=by
          grind
         subst aD;simp only[amx,List.getElem?_cons_zero,alz]at F;subst F;exact⟨_,by rw[<- S];exact Array.getElem?_push_size,rfl,by simp⟩
       ·simp only[Gb,J,alY,if_false]at H;grind
     obtain⟨c,f,I,al,an,ao,aE,aF⟩:=key;have hset:=MapKept.heap_set (o' := .map c f) p;have aL:(w.heap.setIfInBounds g.1 (.map c f)).size=w.heap.size:=by simp
     have aq:=aa.mn (hph:=fun _ _ _ j x s n h=>by grind) (r0:=⟨r.v,r.ty,[.mpc (BX q n) (Gb q vs n d)],false,true,true⟩) (w':={ w with heap:=w.heap.setIfInBounds g.1 (.map c f) }) R X rfl rfl rfl rfl (by simp_all)
      (fun b _ hb=>hset.2 b (hb g h5)) (by
       rw[h5];refine⟨by simp[World.shape?,hset.1,p],?_⟩;refine .inl ?_;refine⟨_,_,rfl,adD q vs n d ad,fun _=>⟨c,f,hset.1,an,ao,I,aE,fun j z H=>(aF j z H).keep fun b q1 q2=>⟨by simp_all,q2,hset.2 b (fun e=>q2 (.inr ⟨y,r,g,R,X,h5,e.symm⟩))⟩⟩,fun hq=>absurd hq (Nat.not_le.2 ae)⟩) (fun hh=>by cases hh)
     refine .inr (.inl ⟨_,al,blk,?_,trivial⟩);rw[jc];exact aq.weaken fun _ _ h =>.inl h
    ·cases G
   ·cases G
  ·cases G
 ·cases G
end
section
variable {P:Program} {T:Nat->Option Ty} {N:Nat} {M:Nat->Prop} {L:lG} {w0:World} {blk:Nat->Option (Nat×Nat)} {V:Nat->Nat->Prop} {t:Nat->D} {h:Nat->Option Row} {a:Act} {w:World} {e:Nat} {o:Oper} {Γ:Env}
def oW {α:Type} {c:Array α} {l:List α} (h:c.toList=l):c=l.toArray:=by rw[<- h]
def XN {β:Type} {f:Operand->β} {l:List Operand} {p q:β} (h:l.map f=[p,q]):∃s x,l=[s,x]∧f s=p∧f x=q:=by
 match l,h with
 | [s,x],h=>simp only[alw,amb,alO,and_true]at h;exact⟨s,x,rfl,h.1,h.2⟩
def aft {β:Type} {f:Operand->β} {l:List Operand} {p:β} (h:l.map f=[p]):∃s,l=[s]∧f s=p:=by
 match l,h with
 | [s],h=>simp only[alw,amb,alO,and_true]at h;exact⟨s,rfl,h⟩
def map_cons {β:Type} {f:Operand->β} {l:List Operand} {p:β} {r:List β} (h:l.map f=p::r):∃s a,l=s::a∧f s=p∧a.map f=r:=by
 match l,h with
 | s::a,h=>simp only[alw,alO]at h;exact⟨s,a,rfl,h.1,h.2⟩
def NY (hT:ke P T) (u:Inv N M L w0 blk V t h a w) {c:Call} {b:Builtin} {E:cH} (U:o.op=.call c) (W:c.callee=.builtin b) (hV:∀d,o.dst=some d->kZ N V d e)
  (f:fF T h e o.dst b c.argTypes.toList (c.args.toList.map (ev t))=some E):fm P o a w (bA N M L w0 V t h a e o.dst E):=by
 unfold fF at f;split at f
 ·rename_i ty ar x F g;obtain⟨s,O,rfl⟩:=aft g;have Q:=oW O;have X:=oW F;split at f
  ·rename_i ab;split at f
   ·rename_i τ n Y hn;have hp:=u.ev s;obtain⟨d,G,i⟩:=under hT Y;obtain⟨l1,l2⟩:=RT.akF u hn ab hp;have B:∀v,(Builtin.len_ c.argTypes o.type #[a.eval s]).run P w=.ok v w->(execOp a.eval o).run P w=.ok (.value v) w:=by
     intro v Z;simp[execOp,U,resolve,W,Q,invoke,builtin,Z]
    have D:c.argTypes[0]? = some ty:=by rw[X];rfl
    split at f
    ·rename_i z C H;rw[H]at l1;obtain⟨I,J⟩:=l1 _ rfl;rw[C]at i;have:=wv i;subst this;simp only[alz]at f;subst f;refine aP (B (.int .i64 n) ?_) (bA.eU u (ca (.int _ _)));simp[Builtin.len_,D,run_underlying G,I,goInt,J]
    ·rename_i el z1 z2 z3 z4 C H;obtain⟨A,k,I⟩:=l2 (by rw[H];intro s h;cases h);rw[C]at i;have:=iA i;subst this;simp only[alz]at f;subst f;refine aP (B (.int .i64 n) ?_) (bA.eU u (ca (.int _ _)));simp[Builtin.len_,D,run_underlying G,I,goInt]
    ·rename_i el z1 z2 z3 z4 z5 C H;obtain⟨A,k,I⟩:=l2 (by rw[H];intro s h;cases h);rw[C]at i;have:=iA i;subst this;simp only[alz]at f;subst f;refine aP (B (.int .i64 n) ?_) (bA.eU u (ca (.int _ _)));simp[Builtin.len_,D,run_underlying G,I,goInt]
    ·cases f
   ·rename_i τ Y hn;split at f
    ·rename_i k el ks au C ad;obtain⟨d,G,i⟩:=under hT Y;rw[C]at i;have ae:d=.map k el:=by
      cases d<;>simp[conv]at i;obtain⟨rfl,rfl⟩:=i;rfl
     subst ae;simp only[alz]at f;subst f;obtain⟨ao,aq,us,J,aa,hk,hv⟩:=u.XM ad (u.ev s);have D:c.argTypes[0]? = some ty:=by rw[X];rfl
     refine aP (v := .int .i64 (ks.length:Nat)) (w':=w) ?_ (bA.eU u (ca (.int _ _)));rcases aa with⟨ag,rfl⟩|⟨b,ai,aj,R⟩
     ·have ak:ks.length=0:=by simpa using J.symm
      simp[execOp,U,resolve,W,Q,invoke,builtin,Builtin.len_,D,run_underlying G,ag,goInt,ak]
     ·have al:=MapKept.run_getObj_map (P:=P) R;simp[execOp,U,resolve,W,Q,invoke,builtin,Builtin.len_,D,run_underlying G,aj,al,goInt,J,Result.andThen]
    ·cases f
   ·cases f
  ·cases f
 ·rename_i ty av p q F g;obtain⟨s,x,O,rfl,rfl⟩:=XN g;split at f
  ·rename_i an;subst an;split at f
   ·rename_i τ d Y G;exact QN hT u U W (oW O) (oW F) G (hV d G) Y f
   ·cases f
  ·cases f
 ·rename_i k x r g;obtain⟨s,l,O,h1,h2⟩:=map_cons g;split at f
  ·rename_i z H;simp only[alz]at f;subst f;have I:a.eval s=.int k x:=by have:=u.ev s;rw[h1]at this;exact pI this
   have Z:=Tr (P:=P) (w:=w) (M:=M) (blk:=blk) (V:=V) (h:=h) k r (l.map a.eval) x z H (by rw[<- h2];simp) (fun j d K=>by
    rw[<- h2,aln]at K;cases S:l[j]? with
    | none=>simp[S]at K
    | some y =>
     simp only[S,Option.map_some,alz]at K;subst K;have:(l.map a.eval).getD j undef=a.eval y:=by simp[List.getD,S]
     rw[this];exact u.ev y)
   refine aP (v := .int k z) (w':=w) ?_ (bA.eU u (ca (.int _ _)));have m:c.args.map a.eval=(Value.int k x::l.map a.eval).toArray:=by rw[oW O];simp[I]
   simp[execOp,U,resolve,W,m,invoke,builtin,Builtin.max_,Z]
  ·cases f
 ·rename_i k x r g;obtain⟨s,l,O,h1,h2⟩:=map_cons g;split at f
  ·rename_i z H;simp only[alz]at f;subst f;have I:a.eval s=.int k x:=by have:=u.ev s;rw[h1]at this;exact pI this
   have Z:=Ts (P:=P) (w:=w) (M:=M) (blk:=blk) (V:=V) (h:=h) k r (l.map a.eval) x z H (by rw[<- h2];simp) (fun j d K=>by
    rw[<- h2,aln]at K;cases S:l[j]? with
    | none=>simp[S]at K
    | some y =>
     simp only[S,Option.map_some,alz]at K;subst K;have:(l.map a.eval).getD j undef=a.eval y:=by simp[List.getD,S]
     rw[this];exact u.ev y)
   refine aP (v := .int k z) (w':=w) ?_ (bA.eU u (ca (.int _ _)));have m:c.args.map a.eval=(Value.int k x::l.map a.eval).toArray:=by rw[oW O];simp[I]
   simp[execOp,U,resolve,W,m,invoke,builtin,Builtin.min_,Z]
  ·cases f
 ·cases f
def abd {h:Nat->Option Row} {d:D} {u:Value} {b:Nat->Prop} (a:vl d=true) (c:RT w b h blk V d u):RC w b h blk V d u:=by
 cases d with
 | buf _ _ _ _ _=>simp[vl]at a
 | clo _ _ _=>simp[vl]at a
 | und=>simp[vl]at a
 | skp=>simp[vl]at a
 | box1 _ _ _ _ _=>simp[vl]at a
 | _=>exact c
def J3 (d:Inv N M L w0 blk V t h a w) {f:Nat} {first caps:Array Operand} (i:o.op=.makeFunc (.func f) first caps) (g:(first.toList.map (ev t)++caps.toList.map (ev t)).all vl=true) :
  fm P o a w (bA N M L w0 V t h a e o.dst ⟨.clo f first.size (first.toList.map (ev t)++caps.toList.map (ev t)),[]⟩):=by
 refine aP (v := .func (.func f) (first.map a.eval) (caps.map a.eval)) (w':=w) ?_ (bA.eU d ?_)
 ·simp[execOp,i,Instr.makeFunc]
 ·refine⟨first.toList.map a.eval++caps.toList.map a.eval,?_,by simp,fun j x b =>?_⟩
  ·rw[List.take_left' (by simp),List.drop_left' (by simp),<- ame,<- ame]
  rw[alB]at g;have c:=g x (alR b);rw[<- amE,aln,alo]at b;obtain⟨q,k,rfl⟩:=b;have:(first.toList.map a.eval++caps.toList.map a.eval).getD j undef=a.eval q:=by rw[<- amE];simp only[al2,aln,k];rfl
  rw[this];exact abd c (d.ev q)
def Zx (u:ke P T) (G:bV P Γ) (r:Inv N M L w0 blk V t h a w) (B:∀d,o.dst=some d->kZ N V d e) (F:∀x v,V x v->x<N∨2*PK<=x) {E:cH} (g:uO T Γ e o (ev t) h=some E):fm P o a w (bA N M L w0 V t h a e o.dst E):=by
 unfold uO at g;split at g
 ·rename_i x j;simp only[alz]at g;subst g;exact LH r (.inl j)
 ·rename_i x j;exact ab5 r j B g
 ·rename_i c x y j;split at g
  ·rename_i A;simp only[alz]at g;subst g;exact LI (b:=true) r j A
  ·rename_i A;simp only[alz]at g;subst g;exact LI (b:=false) r j A
  ·cases g
 ·rename_i z j;split at g
  ·rename_i τ d q s;split at g
   ·rename_i H;simp only[alz]at g;subst g;exact UB (hint:=Γ.hint) u r j s q (B d s) H
   ·cases g
  ·cases g
 ·rename_i z x j;split at g
  ·rename_i d Q R s A;split at g
   ·simp only[alz]at g;subst g;exact ab7 r j s (B d s) A
   ·cases g
  ·cases g
 ·rename_i z p j;split at g
  ·rename_i τ q;exact ae2 u r j q g
  ·cases g
 ·rename_i z p x j;split at g
  ·rename_i τ q;exact ach u r F j q g
  ·cases g
 ·rename_i x j;exact ace r j g
 ·rename_i z x i j;split at g
  ·rename_i τ q;exact Hi u r j q g
  ·cases g
 ·rename_i z x i j;split at g
  ·rename_i τ q;exact UE u r j q g
  ·cases g
 ·rename_i z x i j;split at g
  ·rename_i τ q;exact Hj u r j q g
  ·cases g
 ·rename_i z x i j;split at g
  ·rename_i τ q;exact UF u r j q g
  ·cases g
 ·rename_i z x S U W j;split at g
  ·rename_i τ q;exact UH u r j q g
  ·cases g
 ·rename_i z parts j;split at g
  ·rename_i τ q;exact ab6 u r j q g
  ·cases g
 ·rename_i z len parts j;split at g
  ·rename_i τ d q s;exact FW u r j s (B d s) q g
  ·cases g
 ·rename_i z l c j;split at g
  ·rename_i τ d q s;exact Zr u r j s (B d s) q g
  ·cases g
 ·rename_i I z x y J j;split at g
  ·rename_i d s;simp only[alz]at g;subst g;exact UC u r j s
  ·cases g
 ·rename_i I z x j;split at g
  ·rename_i d s;simp only[alz]at g;subst g;exact Zu r j s
  ·cases g
 ·rename_i src K x j;split at g
  ·rename_i τ k n σ q O C;split at g
   ·rename_i X D;simp only[alz]at g;subst g;exact NZ u r j q O D C
   ·cases g
  ·cases g
 ·rename_i Y first caps j
  split at g
  ·split at g
   ·rename_i A;simp only[alz]at g;subst g;exact J3 r j A
   ·cases g
  ·cases g
 ·rename_i z j;split at g
  ·rename_i τ d q s;exact N2 u r j s (B d s) q g
  ·cases g
 ·rename_i z m i Z j;split at g
  ·rename_i τ q;exact QO u r j q g
  ·cases g
 ·rename_i z m i x j;split at g
  ·rename_i τ q;exact yW u r (.inr j) q g
  ·cases g
 ·rename_i z m i x j;split at g
  ·rename_i τ q;exact yW u r (.inl j) q g
  ·cases g
 ·rename_i x i j;split at g
  ·rename_i xs C;split at g
   ·rename_i d s;simp only[alz]at g;subst g;exact N0 r j C s
   ·cases g
  ·cases g
 ·rename_i c j;split at g
  ·rename_i f A;exact Zp G r j A B F g
  ·rename_i b A;exact NY u r j A B g
  ·cases g
 ·cases g
end
section
variable {T:Nat->Option Ty} {h h':Nat->Option Row} {e:Nat} {o:Oper} {Γ:Env}
def dI {x v:Nat} (a:h x=h' x):live h x v=live h' x v:=by simp[live,a]
def me {x v:Nat} (a:h x=h' x):rY h x v=rY h' x v:=by simp[rY,a]
def rZ {x v:Nat} (a:h x=h' x):ny h x v=ny h' x v:=by simp[ny,a]
def R1 {d:D} {x v:Nat} (a:h x=h' x):CW d h x v=CW d h' x v:=by unfold CW BL;rw[dI a,a]
def pM {d:D} (a:∀x∈nm d,h x=h' x):eY h d=eY h' d:=by
 cases d<;>try rfl
 rename_i x v s o n;simp only[eY];rw[dI (a x (by simp[nm,kj]))]
def J2 {d:D} (a:∀x∈nm d,h x=h' x):content h d=content h' d:=by
 cases d<;>try rfl
 rename_i x v s o n;simp only[content];rw[dI (a x (by simp[nm,kj]))]
def xk {d:D} (a:∀x∈nm d,h x=h' x):gY h d=gY h' d:=by
 cases d<;>first|rfl|(simp only[gY];rw[pM a])
def yP {d:D} (a:∀x∈kj d,h x=h' x):bX h d=bX h' d:=by
 cases d<;>try rfl
 ·simp only[bX];rw[dI (a _ (by simp[kj]))]
 ·simp only[bX];rw[pM (d := .buf _ _ _ _ _) a]
 ·simp only[bX];rw[pM (d := .buf _ _ _ _ _) a]
 ·simp only[bX];rw[rZ (a _ (by simp[kj]))]
 ·rename_i x v y;simp only[bX];rw[dI (a x (by simp[kj]))];have c:∀b,ny h y b=ny h' y b:=fun b=>rZ (a y (by simp[kj]));simp only[c]
def xY:∀ {a:List D},(∀d∈a,∀x∈kj d,h x=h' x)->eC h a=eC h' a
 | [],_=>rfl
 | d::a,hx=>by
  simp only[eC];rw[yP (hx d (by simp)),xY (fun c b=>hx c (by simp[b]))]
def yO (h:Nat->Option Row) {d:D} (c:∀f a b,d ≠ .clo f a b):cZ h d=bX h d:=by cases d<;>first|rfl|simp_all
def XV {d:D} (c:∀f a b,d ≠ .clo f a b):nm d=kj d:=by cases d<;>first|rfl|simp_all
def abO (d:D):(∃f a b,d=.clo f a b)∨∀f a b,d ≠ .clo f a b:=by
 grind
def G8 {d:D} (hx:∀x∈nm d,h x=h' x):cZ h d=cZ h' d:=by
 rcases abO d with⟨f,c,e,rfl⟩|a
 ·simp only[cZ];rw[xY (fun d a x b=>hx x (amF.2 ⟨d,a,b⟩))]
 ·rw[XV a]at hx;rw[yO h a,yO h' a];exact yP hx
def lf:∀ {a:List D},(∀d∈a,∀x∈nm d,h x=h' x)->b9 h a=b9 h' a
 | [],_=>rfl
 | d::a,hx=>by
  simp only[b9];rw[G8 (hx d (by simp)),lf (fun c b=>hx c (by simp[b]))]
def mI {fr:List Nat} (a:∀x∈fr,h x=h' x):lh h fr=lh h' fr:=by
 unfold lh;simp_all
def wq {d c:D} {b:List Nat} (a:eY h d=some (c,b)):∀x∈b,x∈nm d:=by
 cases d<;>simp only[eY,alz,Prod.mk.injEq]at a<;>try (cases a;done)
 ·simp_all
 ·simp_all
 ·simp_all
 ·simp_all
 ·split at a
  ·split at a
   ·simp only[alz,Prod.mk.injEq]at a;obtain⟨_,rfl⟩:=a;simp[nm,kj]
   ·cases a
  ·cases a
def wo {d : D} {c : List D} {b : List Nat} (a : gY h d = some (c, b)) : ∀ x ∈ b, x ∈ nm d := by
  cases d <;> simp only [gY] at a <;> first
    | (simp only [alz, Prod.mk.injEq] at a; simp_all)
    | (split at a
       · rename_i e
         simp only [alz, Prod.mk.injEq] at a;obtain ⟨_, rfl⟩ := a;exact wq e
       · cases a)
def E2 {d c:D} {b:List Nat} (a:bX h d=some (c,b)):∀x∈b,x∈kj d:=by
 have one:∀d,(∀f i e,d ≠ .clo f i e)->bX h d=(match eY h d with|some (c,b)=>some (canon c,b)|none=>none)->bX h d=some (c,b)->∀x∈b,x∈kj d:=by
  intro d j k a;rw[k]at a;split at a
  ·rename_i g;simp only[alz,Prod.mk.injEq]at a;obtain⟨_,rfl⟩:=a;intro x l;have:=wq g x l;cases d<;>first|exact this|simp_all
  ·cases a
 cases d with
 | ptr x v o =>
  simp only[bX]at a;split at a
  ·split at a
   ·simp only[alz,Prod.mk.injEq]at a;obtain⟨_,rfl⟩:=a;simp[kj]
   ·cases a
  ·cases a
 | agg e=>simp only[bX,alz,Prod.mk.injEq]at a;simp_all
 | ip e=>simp only[bX,alz,Prod.mk.injEq]at a;simp_all
 | fn f=>simp only[bX,alz,Prod.mk.injEq]at a;simp_all
 | clo f i e=>simp[bX,eY]at a
 | box1 x v s o n =>
  simp only[bX]at a;split at a
  ·rename_i g;simp only[alz,Prod.mk.injEq]at a;obtain⟨_,rfl⟩:=a;exact wq g
  ·cases a
 | mp x v =>
  simp only[bX]at a;split at a
  ·simp only[alz,Prod.mk.injEq]at a;obtain⟨_,rfl⟩:=a;simp[kj]
  ·cases a
 | mpc ks vs=>simp only[bX,alz,Prod.mk.injEq]at a;simp_all
 | pm x v y =>
  simp only[bX]at a;split at a
  ·split at a
   ·split at a
    ·split at a
     ·simp only[alz,Prod.mk.injEq]at a;obtain⟨_,rfl⟩:=a;simp[kj]
     ·cases a
    ·cases a
   ·cases a
  ·cases a
 | _=>exact one _ (fun _ _ _ h=>by cases h) rfl a
def Co:∀ {f b:List D} {e:List Nat},eC h f=some (b,e)->∀x∈e,x∈f.flatMap kj
 | [],b,e,a,x,c=>by
  simp only[eC,alz,Prod.mk.injEq]at a;simp_all
 | d::f,b,e,a,x,c=>by
  simp only[eC]at a;split at a
  ·rename_i g;split at a
   ·rename_i i;simp only[alz,Prod.mk.injEq]at a;obtain⟨_,rfl⟩:=a;rw[List.flatMap_cons];rcases amG.1 c with c|c
    ·exact alF _ (E2 g x c)
    ·exact alG _ (Co i x c)
   ·cases a
  ·cases a
def Qr {d e:D} {b:List Nat} (a:cZ h d=some (e,b)):∀x∈b,x∈nm d:=by
 rcases abO d with⟨f,i,j,rfl⟩|c
 ·simp only[cZ]at a;split at a
  ·rename_i g;simp only[alz,Prod.mk.injEq]at a;obtain⟨_,rfl⟩:=a;exact Co g
  ·cases a
 ·rw[XV c];rw[yO h c]at a;exact E2 a
def jL:∀ {f b:List D} {e:List Nat},b9 h f=some (b,e)->∀x∈e,∃d∈f,x∈nm d
 | [],b,e,a,x,c=>by
  simp only[b9,alz,Prod.mk.injEq]at a;simp_all
 | d::f,b,e,a,x,c=>by
  simp only[b9]at a;split at a
  ·rename_i g;split at a
   ·rename_i i;simp only[alz,Prod.mk.injEq]at a;obtain⟨_,rfl⟩:=a;rcases amG.1 c with c|c
    ·exact⟨d,by simp,Qr g x c⟩
    ·obtain⟨l,j,k⟩:=jL i x c;grind
   ·cases a
  ·cases a
def za {a:Nat->Option (Nat×Nat)} : ∀ {parts:List (Nat×D)} {cells:List D},(∀p∈parts,∀x∈nm p.2,h x=h' x)->kK h a cells parts=kK h' a cells parts
 | [],_,_=>rfl
 | (i,d)::parts,cells,hx=>by
  simp only[kK];rw[xk (hx (i,d) (by simp))];have c:∀b,kK h a b parts=kK h' a b parts:=fun b=>za (fun p e=>hx p (by simp[e]));simp only[c]
def zb {b:Nat->Option (Nat×Nat)} : ∀ {parts:List (Nat×D)} {cells c:List D} {f:List Nat},kK h b cells parts=some (c,f)->∀x∈f,∃p∈parts,x∈nm p.2
 | [],cells,c,f,a,x,e=>by
  simp only[kK,alz,Prod.mk.injEq]at a;simp_all
 | (i,d)::parts,cells,c,f,a,x,e=>by
  simp only[kK]at a;split at a
  ·rename_i l g;split at a
   ·split at a
    ·rename_i j;simp only[alz,Prod.mk.injEq]at a;obtain⟨_,rfl⟩:=a;rcases amG.1 e with e|e
     ·exact⟨(i,d),by simp,wo g x e⟩
     ·obtain⟨p,m,k⟩:=zb j x e;grind
    ·cases a
   ·cases a
  ·cases a
def jF {a:List Nat} {p:Nat×Option Row} (b:p∈lh h a):p.1∈a:=by
 unfold lh at b;grind
def J6 {τ:Ty} {d:D} (a:∀x∈nm d,h x=h' x):fW τ h d=fW τ h' d:=by
 cases d<;>try rfl
 simp only[fW];rw[dI (a _ (by simp[nm,kj]))]
def zq {x v:Nat} (a:h x=h' x):wB h x v=wB h' x v:=by
 unfold wB;rw[a]
def N7 {τ:Ty} {x v y:Nat} (c:h x=h' x) (a:h y=h' y):Bm τ h x v y (wB h x v)=Bm τ h' x v y (wB h' x v):=by
 rw[zq c];cases wB h' x v with
 | none=>rfl
 | some q =>
  obtain⟨r,d,s,n⟩:=q;simp only[Bm];rw[a,mI (fr:=[y]) (fun z b=>by simp only[alM]at b;subst b;exact a)]
def QW {τ:Ty} {d:D} (a:∀x∈nm d,h x=h' x):tY τ h d=tY τ h' d:=by
 have b:=J6 (τ:=τ) a;cases d with
 | ptr x v o =>
  simp only[tY];rw[dI (a x (by simp[nm,kj]))];cases live h' x v with
  | none=>rfl
  | some r=>simp only[vG];rw[b]
 | pm x v y =>
  simp only[tY];rw[dI (a x (by simp[nm,kj])),N7 (a x (by simp[nm,kj])) (a y (by simp[nm,kj]))]
 | _=>exact b
def HA {τ:Ty} {p d:D} (c:∀x∈nm p,h x=h' x) (hx:∀x∈nm d,h x=h' x):ji τ h p d=ji τ h' p d:=by
 cases p<;>try rfl
 simp only[ji];rw[dI (c _ (by simp[nm,kj])),xk hx];cases live h' _ _ with
 | none=>rfl
 | some r =>
  cases e:gY h' d with
  | none=>rfl
  | some q =>
   obtain⟨f,b⟩:=q;simp only;rw[mI (fr:=b) (fun x a=>hx x (wo e x a))]
def Oa {τ:Ty} {p d:D} (a:∀x∈nm p,h x=h' x) (b:∀x∈nm d,h x=h' x):jh τ h p d=jh τ h' p d:=by
 have c:=HA (τ:=τ) a b;cases d with
 | box1 y e s f n =>
  cases p with
  | ptr x v o =>
   simp only[jh];rw[dI (a _ (by simp[nm,kj]))]
  | pm x v k =>
   simp only[jh];rw[dI (a x (by simp[nm,kj])),dI (b y (by simp[nm,kj]))]
  | _=>rfl
 | mp y' v' =>
  cases p with
  | pm x v y =>
   simp only[jh];rw[dI (a x (by simp[nm,kj])),rZ (a y (by simp[nm,kj]))]
  | _=>rfl
 | _=>exact c
def Fw {d:D} (a:∀x∈nm d,h x=h' x):mapOf h d=mapOf h' d:=by
 cases d<;>try rfl
 simp only[mapOf];rw[rZ (a _ (by simp[nm,kj]))]
def FZ {τ:Ty} {m i:D} {a:Bool} (b:∀x∈nm m,h x=h' x):jE T τ h m i a=jE T τ h' m i a:=by
 unfold jE;rw[Fw b]
def V8 {d:D} (a:∀x∈nm d,h x=h' x):AN h d=AN h' d:=by
 cases d<;>first|rfl|(simp only[AN];rw[pM a])
def YM {d c : D} {b : List Nat} (a : AN h d = some (c, b)) : ∀ x ∈ b, x ∈ nm d := by
  cases d <;> simp only [AN] at a <;> first
    | (simp only [alz, Prod.mk.injEq] at a; simp_all)
    | (split at a
       · rename_i e
         simp only [alz, Prod.mk.injEq] at a;obtain ⟨_, rfl⟩ := a;exact wq e
       · cases a)
def ub {τ:Ty} {m i d:D} (b:∀x∈nm m,h x=h' x) (hd:∀x∈nm d,h x=h' x):eZ T τ h m i d=eZ T τ h' m i d:=by
 unfold eZ;rw[V8 hd];split
 ·rename_i _ _ y v n f g _ _ c;have a:=b y (by simp[nm,kj]);rw[a,rZ a];rw[mI (fun z e=>hd z (YM c z e))]
 ·rfl
def N9 {d:D} (a:∀x∈nm d,h x=h' x):qM h d=qM h' d:=by
 cases d<;>try rfl
 simp only[qM];rw[me (a _ (by simp[nm,kj]))]
def Hy {τ:Ty} {i:Nat} {d:D} (a:∀x∈nm d,h x=h' x):ia T τ h i d=ia T τ h' i d:=by
 cases d<;>try rfl
 ·simp only[ia];rw[me (a _ (by simp[nm,kj]))]
 ·simp only[ia];rw[zq (a _ (by simp[nm,kj]))]
def Bl {τ:Ty} {d i:D} (a:∀x∈nm d,h x=h' x):df T τ h d i=df T τ h' d i:=by
 cases d<;>cases i<;>try rfl
 ·simp only[df];rw[dI (a _ (by simp[nm,kj]))]
 ·simp only[df];rw[me (a _ (by simp[nm,kj]))]
def Hz {τ:Ty} {d:D} {a b c:Option D} (e:∀x∈nm d,h x=h' x):jg T τ h d a b c=jg T τ h' d a b c:=by
 cases d<;>try rfl
 simp only[jg];rw[dI (e _ (by simp[nm,kj]))]
def Hv {τ:Ty} {parts:List (Nat×D)} (d:∀p∈parts,∀x∈nm p.2,h x=h' x):jf T τ h parts=jf T τ h' parts:=by
 unfold jf;have e:∀a cells,kK h a cells parts=kK h' a cells parts:=fun a cells=>za d;split
 ·split
  ·rw[e];split
   ·rename_i f;rw[mI (fun x b=>by obtain⟨p,g,c⟩:=zb f x b;exact d p g x c)]
   ·rfl
  ·rfl
 ·rfl
def N5 {q:Nat->Bool} {τ:Ty} {a:Option Nat} {parts:List (Nat×D)} (b:∀p∈parts,∀x∈nm p.2,h x=h' x):tW q T τ h a parts=tW q T τ h' a parts:=by
 have c:=Hv (T:=T) (τ:=τ) b;unfold tW;split
 ·split
  ·exact c
  ·split
   ·rename_i x v s o n _;have e:alive h (.buf x v s o n)=alive h' (.buf x v s o n):=by
     simp only[alive];rw[me (b (0,.buf x v s o n) (by simp) x (by simp[nm,kj]))]
    rw[e]
   ·rename_i x v s o n _;have e:alive h (.buf x v s o n)=alive h' (.buf x v s o n):=by
     simp only[alive];rw[me (b (0,.box1 x v s o n) (by simp) x (by simp[nm,kj]))]
    rw[e]
   ·rw[c]
 ·exact c
def AA {τ:Ty} {d len:Nat} {parts:List (Nat×D)} (f:∀p∈parts,∀x∈nm p.2,h x=h' x):fu T τ h e d len parts=fu T τ h' e d len parts:=by
 unfold fu;have g:∀a cells,kK h a cells parts=kK h' a cells parts:=fun a cells=>za f;split
 ·split
  ·split
   ·rw[g];split
    ·rename_i i;rw[mI (fun x b=>by obtain⟨p,j,c⟩:=zb i x b;exact f p j x c)]
    ·rfl
   ·rfl
  ·rfl
 ·rfl
def FX {τ:Ty} {d:Nat} {s x:D} (a:∀y∈nm s,h y=h' y) (b:∀y∈nm x,h y=h' y):lx T τ h e d s x=lx T τ h' e d s x:=by
 unfold lx;rw[J2 b];cases s<;>try rfl
 simp only;rw[dI (a _ (by simp[nm,kj]))]
def PR {d:D} (a:∀x∈nm d,h x=h' x):alive h d=alive h' d:=by
 cases d<;>try rfl
 all_goals
  simp only[alive];rw[me (a _ (by simp[nm,kj]))]
def DJ {c:Option Nat} {b:Builtin} {f:List Nat} {a:List D} (g:∀d∈a,∀x∈nm d,h x=h' x):fF T h e c b f a=fF T h' e c b f a:=by
 unfold fF;split
 ·rw[PR (g _ (by simp)),Fw (g _ (by simp))]
 ·split
  ·split
   ·rw[FX (g _ (by simp)) (g _ (by simp))]
   ·rfl
  ·rfl
 ·rfl
 ·rfl
 ·rfl
def EU {b:Option Nat} {g:Nat} {a:List D} (i:∀d∈a,∀x∈nm d,h x=h' x):yI Γ h e b g a=yI Γ h' e b g a:=by
 unfold yI;rw[lf i];split
 ·rename_i j;rw[mI (fun x c=>by obtain⟨d,k,f⟩:=jL j x c;exact i d k x f)]
 ·rfl
def yJ {b:Option Nat} {g x v:Nat} {d0:D} {a:List D} (j:h x=h' x) (i:∀d∈a,∀x∈nm d,h x=h' x):tT Γ h e b g x v d0 a=tT Γ h' e b g x v d0 a:=by
 unfold tT;rw[R1 j,lf i];split
 ·split
  ·split
   ·rename_i k;rw[mI (fun x c=>by obtain⟨d,l,f⟩:=jL k x c;exact i d l x f)]
   ·rfl
  ·rfl
 ·rfl
def P8 {b:Option Nat} {p:Nat×Nat×Nat} {a:List D} (c:∀d∈a,∀x∈nm d,h x=h' x):xX h e b p a=xX h' e b p a:=by
 unfold xX;split
 ·rw[dI (c _ amH _ (by simp[nm,kj])),dI (c _ (amI _ (amI _ amH)) _ (by simp[nm,kj]))]
 ·rfl
def P4 {p:Grow} {a:List D} (b:∀d∈a,∀x∈nm d,h x=h' x):AO h p a=AO h' p a:=by
 unfold AO;split
 ·rw[zq (b _ amH _ (by simp[nm,kj])),b _ amH _ (show _∈nm (D.pm _ _ _) by simp only[nm,kj];simp_all)]
 ·rfl
def J5 {c:Option Nat} {f:D} {a:List D} (m:∀x∈nm f,h x=h' x) (hx:∀d∈a,∀x∈nm d,h x=h' x):ki Γ h e c f a=ki Γ h' e c f a:=by
 cases f<;>try rfl
 ·rename_i g;simp only[ki];split
  ·exact P8 hx
  split
  ·exact P4 hx
  split
  ·split
   ·exact yJ (hx _ amH _ (by simp[nm,kj])) (fun d b=>hx d (amI _ b))
   ·exact yJ (hx _ amH _ (by simp[nm,kj])) (fun d b=>hx d (amI _ b))
   ·exact yJ (hx _ amH _ (by simp[nm,kj])) (fun d b=>hx d (amI _ b))
   ·rfl
  ·exact EU hx
 ·rename_i g n i;simp only[ki];split
  ·rename_i j;rw[alB]at j;have l:∀d∈i,∀x∈nm d,h x=h' x:=fun d b x k=>by
    have:=j d b;rw[XV (fun f n p o=>by rw[o]at this;cases this)]at k;exact m x (amF.2 ⟨d,b,k⟩)
   refine EU fun d b =>?_;grind
  ·rfl
def x4 {b:Nat} {a:Option Nat} {x:D} (c:∀y∈nm x,h y=h' y):dH T b e a h x=dH T b e a h' x:=by
 unfold dH;split
 ·rw[dI (c _ (by simp[nm,kj])),me (c _ (by simp[nm,kj]))]
 ·rfl
 ·rfl
def NX {d:D} (c:∀x∈nm d,h x=h' x):tU h d=tU h' d:=by
 by_cases a:∀b,d ≠ .agg b
 ·rw[Ab a,Ab a];exact pM c
 ·simp only[ne_eq,Classical.not_forall,Classical.not_not]at a;obtain⟨b,rfl⟩:=a;rfl
def Li {d f:D} {c:List Nat} (a:tU h d=some (f,c)):∀x∈c,x∈nm d:=by
 by_cases b:∀e,d ≠ .agg e
 ·rw[Ab b]at a;exact wq a
 ·simp only[ne_eq,Classical.not_forall,Classical.not_not]at b;obtain⟨e,rfl⟩:=b;simp only[tU,alz,Prod.mk.injEq]at a;simp_all
def N4 {q:Nat->Bool} {b:Nat} {a:Option Nat} {x:D} (hx:∀y∈nm x,h y=h' y):vF T q b e a h x=vF T q b e a h' x:=by
 unfold vF pO;rw[NX hx];split
 ·rw[x4 hx];split
  ·rfl
  ·split
   ·rename_i c;rw[mI fun y d=>hx y (Li c y d)]
   ·rfl
 ·exact x4 hx
def Zw {j : Operand -> D} (r : ∀ x ∈ jm o j, h x = h' x) : uO T Γ e o j h = uO T Γ e o j h' := by
  have key : ∀ y, y ∈ o.op.operands.toList -> (∀ a b c, o.op ≠ .pick a b c) -> (∀ a, o.op ≠ .move a) -> (∀ a b c, o.op ≠ .makeFunc a b c) -> ∀ x ∈ nm (j y), h x = h' x := by
    intro y s B C E x t;apply r x;unfold jm;grind
  unfold uO;cases u : o.op <;> (try simp only) <;> rw [u] at key <;> try rfl
  case assign x => exact N4 (key x (by simp [Op.operands]) (by simp) (by simp) (by simp))
  case box ty x => rw [xk (key x (by simp [Op.operands]) (by simp) (by simp) (by simp))]
                   split
                   · rename_i k
                     rw [mI (fun z v => key x (by simp [Op.operands]) (by simp) (by simp) (by simp) z (wo k z v))]
                   · rfl
  case load ty x => simp only [QW (key x (by simp [Op.operands]) (by simp) (by simp) (by simp))]
  case store ty x y => simp only [Oa (key x (by simp [Op.operands]) (by simp) (by simp) (by simp)) (key y (by simp [Op.operands]) (by simp) (by simp) (by simp))]
  case nilCheck x => exact N9 (key x (by simp [Op.operands]) (by simp) (by simp) (by simp))
  case fieldAddr ty x i => simp only [Hy (key x (by simp [Op.operands]) (by simp) (by simp) (by simp))]
  case makeMap ty l => cases l <;> rfl
  case lookup ty m i ok => simp only [FZ (key m (by simp [Op.operands]) (by simp) (by simp) (by simp))]
  case mapUpdate ty m i x => simp only [ub (key m (by simp [Op.operands]) (by simp) (by simp) (by simp)) (key x (by simp [Op.operands]) (by simp) (by simp) (by simp))]
  case insert ty m i x => simp only [ub (key m (by simp [Op.operands]) (by simp) (by simp) (by simp)) (key x (by simp [Op.operands]) (by simp) (by simp) (by simp))]
  case indexAddr ty x i => simp only [Bl (key x (by simp [Op.operands]) (by simp) (by simp) (by simp))]
  case slice ty x F G H => simp only [Hz (key x (by simp [Op.operands]) (by simp) (by simp) (by simp))]
  case build ty parts =>
    have : ∀ p ∈ parts.toList.map (fun p => (p.1, j p.2)), ∀ x ∈ nm p.2, h x = h' x := by
      intro p n x g;obtain ⟨q, w, rfl⟩ := alp.1 n;exact key q.2 (by simp only [Op.operands, List.toList_toArray]; grind) (by simp) (by simp) (by simp) x g
    simp only [N5 this]
  case buildSlice ty len parts =>
    have : ∀ p ∈ parts.toList.map (fun p => (p.1, j p.2)), ∀ x ∈ nm p.2, h x = h' x := by
      intro p n x g;obtain ⟨q, w, rfl⟩ := alp.1 n;exact key q.2 (by simp only [Op.operands, List.toList_toArray]; grind) (by simp) (by simp) (by simp) x g
    simp only [AA this]
  case call c =>
    have : ∀ d ∈ c.args.toList.map j, ∀ x ∈ nm d, h x = h' x := by
      intro d A x g;obtain ⟨y, s, rfl⟩ := alp.1 A;exact key y (by simp only [Op.operands, Call.operands, amK]; simp_all) (by simp) (by simp) (by simp) x g
    cases k : c.callee with
    | value f => exact J5 (key f (by simp [Op.operands, Call.operands, k]) (by simp) (by simp) (by simp)) this
    | builtin b => exact DJ this
    | invoke _ _ => rfl
def ahn {j g:Operand->D} (hx:∀y∈o.op.operands.toList,j y=g y):uO T Γ e o j h=uO T Γ e o g h∧jm o j=jm o g:=by
 refine⟨?_,?_⟩
 ·unfold uO;cases v:o.op<;>(try simp only)<;>rw[v]at hx<;>try rfl
  case move x=>rw[hx x (by simp[Op.operands])]
  case assign x=>rw[hx x (by simp[Op.operands])]
  case pick a b c=>rw[hx a (by simp[Op.operands]),hx b (by simp[Op.operands]),hx c (by simp[Op.operands])]
  case box ty x=>rw[hx x (by simp[Op.operands])]
  case load ty x=>rw[hx x (by simp[Op.operands])]
  case store ty x y=>rw[hx x (by simp[Op.operands]),hx y (by simp[Op.operands])]
  case nilCheck x=>rw[hx x (by simp[Op.operands])]
  case fieldAddr ty x i=>rw[hx x (by simp[Op.operands])]
  case field ty x i=>rw[hx x (by simp[Op.operands])]
  case makeMap ty n=>cases n<;>rfl
  case lookup ty m i ok=>rw[hx m (by simp[Op.operands]),hx i (by simp[Op.operands])]
  case mapUpdate ty m i x=>rw[hx m (by simp[Op.operands]),hx i (by simp[Op.operands]),hx x (by simp[Op.operands])]
  case insert ty m i x=>rw[hx m (by simp[Op.operands]),hx i (by simp[Op.operands]),hx x (by simp[Op.operands])]
  case indexAddr ty x i=>rw[hx x (by simp[Op.operands]),hx i (by simp[Op.operands])]
  case index ty x i=>rw[hx x (by simp[Op.operands]),hx i (by simp[Op.operands])]
  case slice ty x q r t =>
   rw[hx x (by simp[Op.operands])];have w:q.map j=q.map g:=by cases q with|none=>rfl|some y=>simp only[Option.map_some];rw[hx y (by simp[Op.operands])]
   have z:r.map j=r.map g:=by cases r with|none=>rfl|some y=>simp only[Option.map_some];rw[hx y (by simp[Op.operands])]
   have A:t.map j=t.map g:=by cases t with|none=>rfl|some y=>simp only[Option.map_some];rw[hx y (by simp[Op.operands])]
   rw[w,z,A]
  case build ty parts =>
   have:parts.toList.map (fun p=>(p.1,j p.2))=parts.toList.map (fun p=>(p.1,g p.2)):=amL fun p B=>by rw[hx p.2 (by simp only[Op.operands,List.toList_toArray];grind)]
   rw[this]
  case buildSlice ty len parts =>
   have:parts.toList.map (fun p=>(p.1,j p.2))=parts.toList.map (fun p=>(p.1,g p.2)):=amL fun p B=>by rw[hx p.2 (by simp only[Op.operands,List.toList_toArray];grind)]
   rw[this]
  case makeSlice ty l c=>rw[hx l (by simp[Op.operands]),hx c (by simp[Op.operands])]
  case binOp C ty x y ty'=>rw[hx x (by simp[Op.operands]),hx y (by simp[Op.operands])]
  case unOp C ty x=>rw[hx x (by simp[Op.operands])]
  case convert s d x=>rw[hx x (by simp[Op.operands])]
  case makeFunc fn first caps =>
   have:caps.toList.map j=caps.toList.map g:=amL fun y u=>hx y (by simp only[Op.operands,amK];simp_all);have k:first.toList.map j=first.toList.map g:=amL fun y u=>hx y (by simp only[Op.operands,amK];simp_all)
   rw[this,k]
  case extract x i=>rw[hx x (by simp[Op.operands])]
  case call c =>
   have:c.args.toList.map j=c.args.toList.map g:=amL fun y u=>hx y (by simp only[Op.operands,Call.operands,amK];simp_all);cases E:c.callee with
   | value f=>simp only;rw[this,hx f (by simp[Op.operands,Call.operands,E])]
   | builtin b=>grind
   | invoke _ _=>rfl
 ·have F:o.op.operands.toList.flatMap (fun y=>nm (j y))=o.op.operands.toList.flatMap (fun y=>nm (g y)):=by
   rw[List.flatMap_def,List.flatMap_def];congr 1;simp_all
  unfold jm;grind
end
section
variable {T:Nat->Option Ty} {h h':Nat->Option Row} {e:Nat} {o:Oper} {Γ:Env}
def FY {τ:Ty} {d:Nat} {s x:D} {E:cH} (a:lx T τ h e d s x=some E):∀p∈E.hw,p.1=d∨p.1∈nm s:=by
 unfold lx at a;split at a
 ·split at a
  ·split at a
   ·split at a
    ·grind
    ·split at a
     ·split at a
      ·simp only[alz]at a;subst a;intro p b;simp only[alx,amM,or_false]at b;rcases b with rfl|rfl
       ·exact .inr (by simp[nm,kj])
       ·exact .inl rfl
      ·cases a
     ·cases a
    ·cases a
   ·cases a
  ·cases a
 ·cases a
def EV {f:Option Nat} {g:Nat} {c:List D} {E:cH} (a:yI Γ h e f g c=some E):∀p∈E.hw,f=some p.1∨∃d∈c,p.1∈nm d:=by
 unfold yI at a;split at a
 ·rename_i i;split at a
  ·simp only[alz]at a;subst a;intro p b;simp only at b;split at b
   ·simp at b
   ·exact .inr (jL i _ (jF b))
  ·split at a
   ·split at a
    ·simp only[alz]at a;subst a;intro p b;simp only[amG,alM]at b;rcases b with b|rfl
     ·split at b
      ·simp at b
      ·exact .inr (jL i _ (jF b))
     ·exact .inl rfl
    ·cases a
   ·cases a
  ·cases a
 ·cases a
def P5 {p:Grow} {b:List D} {E:cH} (a:AO h p b=some E):∀q∈E.hw,∃d∈b,q.1∈nm d:=by
 unfold AO at a;split at a<;>try (cases a;done)
 split at a<;>try (cases a;done)
 split at a<;>try (cases a;done)
 rename_i c;obtain⟨rfl,_⟩:=c;split at a<;>try (cases a;done)
 simp only[alz]at a;subst a;intro q e;simp only[alx,amM,or_false]at e;rcases e with rfl|rfl
 ·exact⟨_,amH,by simp[nm,kj]⟩
 ·exact⟨_,amH,by simp[nm,kj]⟩
def P9 {c:Option Nat} {p:Nat×Nat×Nat} {b:List D} {E:cH} (a:xX h e c p b=some E):∀q∈E.hw,c=some q.1∨∃d∈b,q.1∈nm d:=by
 unfold xX at a;split at a<;>try (cases a;done)
 split at a<;>try (cases a;done)
 split at a<;>try (cases a;done)
 simp only[alz]at a;subst a;intro q f;simp only[alx,amM,or_false]at f;rcases f with rfl|rfl|rfl
 ·exact .inr ⟨_,amI _ (amI _ amH),by simp[nm,kj]⟩
 ·exact .inr ⟨_,amH,by simp[nm,kj]⟩
 ·exact .inl rfl
def yK {i:Option Nat} {g x v:Nat} {d0:D} {c:List D} {E:cH} (a:tT Γ h e i g x v d0 c=some E):∀p∈E.hw,i=some p.1∨p.1=x∨∃d∈c,p.1∈nm d:=by
 unfold tT at a;split at a<;>try (cases a;done)
 split at a<;>try (cases a;done)
 split at a<;>try (cases a;done)
 rename_i f;split at a<;>try (cases a;done)
 split at a<;>try (cases a;done)
 ·simp only[alz]at a;subst a;intro p b;simp only[amG,alM]at b;rcases b with b|rfl
  ·exact .inr (.inr (jL f _ (jF b)))
  omega
 ·simp only[alz]at a;subst a;intro p b;simp only[amG,alM]at b;rcases b with b|rfl
  ·exact .inr (.inr (jL f _ (jF b)))
  omega
 ·split at a<;>try (cases a;done)
  split at a<;>try (cases a;done)
  simp only[alz]at a;subst a;intro p b;simp only[amG,alx,amM,or_false]at b;rcases b with b|rfl|rfl
  ·exact .inr (.inr (jL f _ (jF b)))
  ·omega
  ·exact .inl rfl
def UP {τ:Ty} {d:D} {E:cH} (a:fW τ h d=some E):E.hw=[]:=by
 cases d<;>simp only[fW]at a<;>try (cases a;done)
 all_goals grind
def acp {τ:Ty} {d:D} {E:cH} (a:tY τ h d=some E):∀p∈E.hw,p.1∈nm d:=by
 have none_:E.hw=[]->∀p∈E.hw,p.1∈nm d:=fun c p e=>by simp_all
 have b:fW τ h d=some E->∀p∈E.hw,p.1∈nm d:=fun c=>none_ (UP c);cases d with
 | ptr x v o =>
  simp only[tY]at a;cases b:live h x v with
  | none=>rw[b]at a;cases a
  | some r =>
   rw[b]at a;simp only[vG]at a;grind
 | pm x v y =>
  simp only[tY]at a;split at a
  ·grind
  ·unfold Bm at a;split at a
   ·split at a
    ·split at a
     ·simp only[alz]at a;subst a;intro p e;have:=jF e;simp only[alM]at this;rw[this];simp[nm,kj]
     ·cases a
    ·cases a
   ·cases a
 | _=>exact b a
def HB {τ:Ty} {q d:D} {E:cH} (a:ji τ h q d=some E):∀p∈E.hw,p.1∈nm d∨p.1∈nm q:=by
 cases q<;>simp only[ji]at a<;>try (cases a;done)
 split at a
 ·split at a
  ·rename_i c;split at a
   ·simp only[alz]at a;subst a;intro p b;rcases amG.1 b with b|b
    ·exact .inl (wo c _ (jF b))
    ·simp only[alM]at b;subst b;exact .inr (by simp[nm,kj])
   ·cases a
  ·cases a
 ·cases a
def Ob {τ:Ty} {q d:D} {E:cH} (a:jh τ h q d=some E):∀p∈E.hw,p.1∈nm d∨p.1∈nm q:=by
 have c:ji τ h q d=some E->∀p∈E.hw,p.1∈nm d∨p.1∈nm q:=HB;cases d with
 | box1 y e s f n =>
  cases q with
  | ptr x v o =>
   simp only[jh]at a;split at a
   ·split at a
    ·simp only[alz]at a;subst a;intro p b;simp only[alM]at b;subst b;exact .inr (by simp[nm,kj])
    ·cases a
   ·cases a
  | pm x v k =>
   simp only[jh]at a;split at a
   ·split at a
    ·simp only[alz]at a;subst a;intro p b;simp only[alx,amM,or_false]at b;rcases b with rfl|rfl|rfl
     ·exact .inl (by simp[nm,kj])
     ·exact .inr (by simp[nm,kj])
     ·exact .inr (by simp[nm,kj])
    ·cases a
   ·cases a
  | _=>simp[jh]at a
 | mp y' v' =>
  cases q with
  | pm x v y =>
   simp only[jh]at a;split at a
   ·split at a
    ·simp only[alz]at a;subst a;intro p b;simp only[alM]at b;subst b;exact .inr (by simp[nm,kj])
    ·cases a
   ·cases a
  | _=>simp[jh]at a
 | _=>exact c a
def N8 {τ:Ty} {m i:D} {a:Bool} {E:cH} (b:jE T τ h m i a=some E):E.hw=[]:=by
 unfold jE at b;grind
def uc {τ:Ty} {m i d:D} {E:cH} (a:eZ T τ h m i d=some E):∀p∈E.hw,p.1∈nm d∨p.1∈nm m:=by
 unfold eZ at a;split at a
 ·rename_i c;split at a
  ·split at a
   ·split at a
    ·simp only[alz]at a;subst a;intro p b;rcases amG.1 b with b|b
     ·exact .inl (YM c _ (jF b))
     ·simp only[alM]at b;subst b;exact .inr (by simp[nm,kj])
    ·cases a
   ·cases a
  ·cases a
 ·cases a
def tX {τ:Ty} {parts:List (Nat×D)} {E:cH} (a:jf T τ h parts=some E):∀p∈E.hw,∃q∈parts,p.1∈nm q.2:=by
 unfold jf at a;split at a
 ·split at a
  ·split at a
   ·rename_i b;simp only[alz]at a;subst a;intro p c;exact zb b _ (jF c)
   ·cases a
  ·cases a
 ·cases a
def N6 {q:Nat->Bool} {τ:Ty} {b:Option Nat} {parts:List (Nat×D)} {E:cH} (a:tW q T τ h b parts=some E):∀p∈E.hw,∃q∈parts,p.1∈nm q.2:=by
 unfold tW at a;split at a
 ·split at a
  ·exact tX a
  ·split at a
   ·grind
   ·grind
   ·unfold cE at a;split at a
    ·rename_i c;simp only[alz]at a;subst a;have d:=tX c;exact d
    ·cases a
 ·exact tX a
def LN {w:Operand->D} {E:cH} (j:uO T Γ e o w h=some E):∀p∈E.hw,p.1∈jm o w:=by
 have key:∀y,y∈o.op.operands.toList->(∀a b c,o.op ≠ .pick a b c)->(∀a,o.op ≠ .move a)->(∀a b c,o.op ≠ .makeFunc a b c)->∀x∈nm (w y),x∈jm o w:=by
  intro y I h1 P Q x R;unfold jm;grind
 have keyd:∀d,o.dst=some d->(∀a b c,o.op ≠ .pick a b c)->(∀a,o.op ≠ .move a)->(∀a b c,o.op ≠ .makeFunc a b c)->d∈jm o w:=by
  intro d u h1 P Q;unfold jm;simp_all
 have A:∀(d:D),(some ⟨d,[]⟩:Option cH)=some E->∀p∈E.hw,p.1∈jm o w:=by
  grind
 unfold uO at j;cases S:o.op<;>rw[S]at j key keyd<;>simp only at j<;>try (cases j;done)
 case move x=>exact A _ j
 case assign x =>
  have N:dH T o.type e o.dst h (w x)=some E->∀p∈E.hw,p.1∈jm o w:=by
   intro j;unfold dH at j;split at j
   ·rename_i y v s c n t;split at j
    ·rename_i u _;split at j
     ·exact A _ j
     ·simp only[alz]at j;subst j;intro p k;simp only[alx,amM,or_false]at k;rcases k with rfl|rfl
      ·exact key x (by simp[Op.operands]) (by simp) (by simp) (by simp) _ (by rw[t];simp[nm,kj])
      simp_all
    grind
   ·split at j
    ·rename_i u _;split at j
     ·split at j
      ·simp only[alz]at j;subst j;simp_all
      ·cases j
     ·cases j
    ·cases j
   ·exact A _ j
  unfold vF at j;split at j
  ·rename_i d u;split at j
   ·grind
   ·unfold pO at j;split at j
    ·rename_i Y Z C;simp only[alz]at j;subst j;intro p k;exact key x (by simp[Op.operands]) (by simp) (by simp) (by simp) _ (Li C _ (jF k))
    ·cases j
  grind
 case pick a b c =>
  grind
 case alloc ty =>
  split at j
  ·rename_i u;split at j
   ·simp only[alz]at j;subst j;simp_all
   ·cases j
  ·cases j
 case box ty x =>
  split at j
  ·rename_i u C;split at j
   ·simp only[alz]at j;subst j;intro p k;rcases amG.1 k with k|k
    ·exact key x (by simp[Op.operands]) (by simp) (by simp) (by simp) _ (wo C _ (jF k))
    simp_all
   ·cases j
  ·cases j
 case load ty x =>
  split at j
  ·intro p k;exact key x (by simp[Op.operands]) (by simp) (by simp) (by simp) _ (acp j p k)
  ·cases j
 case store ty x y =>
  split at j
  ·intro p k;rcases Ob j p k with r|r
   ·exact key y (by simp[Op.operands]) (by simp) (by simp) (by simp) _ r
   ·exact key x (by simp[Op.operands]) (by simp) (by simp) (by simp) _ r
  ·cases j
 case makeMap ty J =>
  cases J with
  | some _=>cases j
  | none =>
   simp only at j;split at j
   ·rename_i u;unfold qL at j;split at j
    ·split at j
     ·cases j
     simp only[alz]at j;subst j;simp_all
    ·cases j
   ·cases j
 case lookup ty m i ok =>
  split at j
  ·intro p k;rw[N8 j]at k;simp at k
  ·cases j
 case mapUpdate ty m i x =>
  split at j
  ·intro p k;rcases uc j p k with r|r
   ·exact key x (by simp[Op.operands]) (by simp) (by simp) (by simp) _ r
   ·exact key m (by simp[Op.operands]) (by simp) (by simp) (by simp) _ r
  ·cases j
 case insert ty m i x =>
  split at j
  ·intro p k;rcases uc j p k with r|r
   ·exact key x (by simp[Op.operands]) (by simp) (by simp) (by simp) _ r
   ·exact key m (by simp[Op.operands]) (by simp) (by simp) (by simp) _ r
  ·cases j
 case nilCheck x =>
  cases t:w x<;>rw[t]at j<;>simp only[qM]at j<;>try (cases j;done)
  ·grind
  ·exact A _ j
 case fieldAddr ty x i =>
  split at j
  ·cases t:w x<;>rw[t]at j<;>simp only[ia]at j<;>try (cases j;done)
   ·grind
   ·grind
   grind
  ·cases j
 case field ty x i =>
  split at j
  ·cases t:w x<;>rw[t]at j<;>simp only[CI]at j<;>try (cases j;done)
   grind
  ·cases j
 case indexAddr ty x i =>
  split at j
  ·cases t:w x<;>cases H:w i<;>rw[t,H]at j<;>simp only[df]at j<;>try (cases j;done)
   all_goals
    grind
  ·cases j
 case index ty x i =>
  split at j
  ·cases t:w x<;>cases H:w i<;>rw[t,H]at j<;>simp only[nR]at j<;>try (cases j;done)
   ·grind
   grind
  ·cases j
 case slice ty x lo H mx =>
  split at j
  ·unfold jg at j;split at j
   ·grind
   ·grind
   ·grind
   ·cases j
  ·cases j
 case build ty parts =>
  split at j
  ·intro p k;obtain⟨q,K,t⟩:=N6 j p k;obtain⟨y,I,rfl⟩:=alp.1 K;exact key y.2 (by simp only[Op.operands,List.toList_toArray];grind) (by simp) (by simp) (by simp) _ t
  ·cases j
 case buildSlice ty len parts =>
  split at j
  ·rename_i u;unfold fu at j;split at j
   ·split at j
    ·split at j
     ·split at j
      ·rename_i U;split at j
       ·simp only[alz]at j;subst j;intro p k;rcases amG.1 k with k|k
        ·obtain⟨q,K,t⟩:=zb U _ (jF k);obtain⟨y,I,rfl⟩:=alp.1 K;exact key y.2 (by simp only[Op.operands,List.toList_toArray];grind) (by simp) (by simp) (by simp) _ t
        simp_all
       ·cases j
      ·cases j
     ·cases j
    ·cases j
   ·cases j
  ·cases j
 case makeSlice ty l c =>
  split at j
  ·rename_i u;unfold u9 at j;split at j
   ·split at j
    ·split at j
     ·simp only[alz]at j;subst j;simp_all
     ·cases j
    ·cases j
   ·cases j
  ·cases j
 case binOp op ty x y ty' =>
  grind
 case unOp op ty x =>
  grind
 case makeFunc fn first caps =>
  grind
 case convert s d x =>
  grind
 case extract x i =>
  grind
 case call c =>
  cases C:c.callee with
  | invoke _ _=>simp_all
  | value f =>
   rw[C]at j;simp only at j;have B:∀d∈c.args.toList.map w,∀x∈nm d,x∈jm o w:=by
    intro d u x t;obtain⟨y,I,rfl⟩:=alp.1 u;exact key y (by simp only[Op.operands,Call.operands,amK];simp_all) (by simp) (by simp) (by simp) _ t
   have z:∀d,o.dst=some d->d∈jm o w:=fun d u=>keyd d u (by simp) (by simp) (by simp);have L:∀x∈nm (w f),x∈jm o w:=key f (by simp[Op.operands,Call.operands,C]) (by simp) (by simp) (by simp);generalize c.args.toList.map w=ds at *;unfold ki at j;split at j
   ·split at j
    ·intro p k;rcases P9 j p k with r|⟨d,u,t⟩
     ·exact z _ r
     grind
    split at j
    ·intro p k;obtain⟨d,u,t⟩:=P5 j p k;grind
    split at j
    ·split at j
     ·intro p k;rcases yK j p k with r|r|⟨d,u,t⟩
      ·exact z _ r
      ·exact B _ amH _ (by rw[r];simp[nm,kj])
      grind
     ·intro p k;rcases yK j p k with r|r|⟨d,u,t⟩
      ·exact z _ r
      ·exact B _ amH _ (by rw[r];simp[nm,kj])
      grind
     ·intro p k;rcases yK j p k with r|r|⟨d,u,t⟩
      ·exact z _ r
      ·exact B _ amH _ (by rw[r];simp[nm,kj])
      grind
     ·cases j
    ·intro p k;rcases EV j p k with r|⟨d,u,t⟩
     ·exact z _ r
     grind
   ·rename_i g V caps M;split at j
    ·rename_i G;rw[alB]at G;have O:∀d∈caps,∀x∈nm d,x∈jm o w:=fun d u x t=>by
      have:=G d u;rw[XV (fun f V xs W=>by rw[W]at this;cases this)]at t;exact L _ (by rw[M];exact amF.2 ⟨d,u,t⟩)
     intro p k;rcases EV j p k with r|⟨d,u,t⟩
     ·exact z _ r
     grind
    ·cases j
   ·cases j
  | builtin b =>
   rw[C]at j;simp only at j;unfold fF at j;split at j
   ·grind
   ·rename_i s x F;obtain⟨X,px,hl,rfl,rfl⟩:=XN F;split at j
    ·split at j
     ·rename_i u;intro p k;rcases FY j p k with h1|h1
      ·simp_all
      ·exact key X (by simp only[Op.operands,Call.operands,amK];simp_all) (by simp) (by simp) (by simp) _ h1
     ·cases j
    ·cases j
   ·grind
   ·grind
   ·cases j
end
def fp {h h':Nat->Option Row} {k:Nat} (a:h (rt k)=h' (rt k)):EH h k=EH h' k:=by
 unfold EH;unfold rt at a;grind
def gh:PK=1000000:=rfl
def jv (x o:Nat):2*PK<=NK x o:=by unfold NK;rw[gh];omega
def yD {x:Nat} (o:Nat) (a:x<PK):NK x o % PK=x:=by
 unfold NK;rw[Nat.mul_add_mod];exact ami a
def GH {x:Nat} (o:Nat) (a:x<PK):NK x o / PK-2=o:=by
 unfold NK;rw[Nat.mul_add_div (by rw[gh];decide),Nat.div_eq_of_lt a];omega
def PM {k:Nat} (a:2*PK<=k):k=NK (k % PK) (k / PK-2):=by
 unfold NK;have c:2<=k / PK:=by
  rw[Nat.le_div_iff_mul_le (by rw[gh];decide)];exact a
 have b:k / PK-2+2=k / PK:=by omega
 rw[b];exact (Nat.div_add_mod k PK).symm
def Mu (k:Nat):k % PK<PK:=amf _ (by rw[gh];decide)
def ye {x o:Nat} (a:x<PK):rt (NK x o)=x:=by
 unfold rt;rw[if_neg (by have:=jv x o;omega),yD o a]
def jU {k:Nat} (a:k<2*PK):rt k=k:=if_pos a
def wg {h:Nat->Option Row} {x o:Nat} (a:x<PK):EH h (NK x o)=(h x).bind fun r=>vk r o:=by
 unfold EH;rw[if_neg (by have:=jv x o;omega),yD o a,GH o a]
def wh {h:Nat->Option Row} {k:Nat} (a:k<2*PK):EH h k=(h k).map (Gs k):=if_pos a
def ajz (y:Nat) (r:Row):(Gs y r).v=r.v∧(Gs y r).ty=r.ty∧(Gs y r).fz=r.fz∧(Gs y r).lst=r.lst∧(Gs y r).mp=r.mp:=by
 unfold Gs;grind
def LeC (d a:D):Prop:=a=d∨((∃x s n,d=.ph x s n)∧a=.und)
def Wo (r a:Row):Prop:=a=r∨(r.mp=true∧∃cs,a = { r with cells:=cs }∧cs.length=r.cells.length∧∀(j:Nat) d b,r.cells[j]? = some d->cs[j]? = some b->LeC d b)∨(r.mp=false∧∃k,a = { r with cells:=r.cells.take k })
def Gj (h h':Nat->Option Row):Prop:=∀k a,h' k=some a->∃r,h k=some r∧Wo r a
def Wo.refl (r:Row):Wo r r := .inl rfl
def Gj.refl (h:Nat->Option Row):Gj h h:=fun k a b=>⟨a,b,.refl _⟩
def LeC.trans {a b c:D} (h:LeC a b) (k:LeC b c):LeC a c:=by
 rcases h with rfl|⟨d,rfl⟩
 ·exact k
 ·rcases k with rfl|⟨⟨_,_,_,e⟩,_⟩
  ·exact .inr ⟨d,rfl⟩
  ·cases e
def Wo.trans {a b c:Row} (h:Wo a b) (k:Wo b c):Wo a c:=by
 rcases h with rfl|⟨e,l,rfl,o,p⟩|⟨e,n,rfl⟩
 ·exact k
 ·rcases k with rfl|⟨q,g,rfl,r,s⟩|⟨q,_⟩
  ·exact .inr (.inl ⟨e,l,rfl,o,p⟩)
  ·refine .inr (.inl ⟨e,g,rfl,r.trans o,fun j d t u i =>?_⟩);have f:j<l.length:=by
    grind
   exact (p j d _ u (alE f)).trans (s j _ t (alE f) i)
  simp_all
 ·rcases k with rfl|⟨q,_⟩|⟨_,m,rfl⟩
  ·exact .inr (.inr ⟨e,n,rfl⟩)
  ·simp_all
  ·exact .inr (.inr ⟨e,min m n,by grind⟩)
def Gj.trans {a b c:Nat->Option Row} (h:Gj a b) (k:Gj b c):Gj a c:=fun x r d=>by
 obtain⟨e,f,g⟩:=k x r d;obtain⟨i,j,l⟩:=h x e f;exact⟨i,j,l.trans g⟩
def Gj.cq {a b:Nat->Option Row} (h:Gj a b) (x:Nat) (r:Option Row):Gj (cq a x r) (cq b x r):=fun y d c=>by
 by_cases e:y=x
 ·subst e;rw[ay]at c ⊢;exact⟨d,c,.refl _⟩
 ·rw[aD _ _ e]at c ⊢;exact h y d c
def Gj.apply:∀(l:List (Nat×Option Row)) {a b:Nat->Option Row},Gj a b->Gj (aZ a l) (aZ b l)
 | [],_,_,h=>h
 | (x,r)::l,_,_,h=>Gj.apply l (h.cq x r)
def Wo.same {r a:Row} (h:Wo r a):a.v=r.v∧a.ty=r.ty∧a.fz=r.fz∧a.lst=r.lst∧a.mp=r.mp:=by
 rcases h with rfl|⟨_,b,rfl,_⟩|⟨_,k,rfl⟩<;>exact⟨rfl,rfl,rfl,rfl,rfl⟩
def Wo.nil {r a:Row} (h:Wo r a) (b:r.cells=[]):a.cells=[]:=by
 rcases h with rfl|⟨_,c,rfl,d,_⟩|⟨_,k,rfl⟩
 ·exact b
 ·simp_all
 ·simp[b]
def Wo.cell {r c:Row} (h:Wo r c) {j:Nat} {a:D} (d:c.cells[j]? = some a) (e:a ≠ .und):r.cells[j]? = some a:=by
 rcases h with rfl|⟨_,g,rfl,i,f⟩|⟨_,k,rfl⟩
 ·exact d
 ·have b:j<r.cells.length:=by
   grind
  rcases f j _ a (alE b) d with rfl|⟨_,rfl⟩
  ·simp_all
  simp_all
 grind
def fh.le {w:World} {M:Nat->Prop} {g:Nat×Nat} {r q:Row} (h:fh w M g r) (x:Wo r q):fh w M g q:=by
 rcases x with rfl|⟨m,n,rfl,s,y⟩|⟨m,k,rfl⟩
 ·exact h
 rotate_left
 ·unfold fh at h ⊢;simp only[m]at h ⊢;obtain⟨b,c,l,z⟩:=h;refine⟨b,c,by grind,fun j d t =>?_⟩;grind
 ·unfold fh at h ⊢;simp only[m]at h ⊢;rcases h with⟨u,v,c,l⟩|⟨c,b,l,z,A⟩
  ·have o:n=r.cells:=by
    rw[c]at s
    match n,s with
    | [a],_ =>
     rcases y 0 (.mpc u v) a (by rw[c];rfl) rfl with rfl|⟨⟨_,_,_,B⟩,_⟩
     ·exact c.symm
     ·cases B
   subst o;exact .inl ⟨u,v,c,l⟩
  ·have f:∀(j:Nat) (a:D),n[j]? = some a->∃d,r.cells[j]? = some d∧LeC d a:=by
    grind
   refine .inr ⟨fun a p =>?_,b,l,by simp only;omega,fun j a p =>?_⟩
   ·obtain⟨j,t⟩:=alL p;obtain⟨d,i,e⟩:=f j a t;rcases e with rfl|⟨_,rfl⟩
    ·grind
    ·rfl
   ·obtain⟨d,i,e⟩:=f j a p;rcases e with rfl|⟨_,rfl⟩
    ·exact A j _ i
    ·trivial
section
variable {N:Nat} {M:Nat->Prop} {L:lG} {w0:World} {blk:Nat->Option (Nat×Nat)} {V:Nat->Nat->Prop} {t:Nat->D} {h h':Nat->Option Row} {a:Act} {w:World}
def Eo (d:Gj h h') {b:Nat} (c:¬Own M h blk b):¬Own M h' blk b:=by
 rintro (a|⟨x,e,g,f,i,j,k⟩)
 ·exact c (.inl a)
 ·obtain⟨r,l,m⟩:=d x e f;exact c (.inr ⟨x,r,g,l,by rw[<- m.same.2.2.1];exact i,j,k⟩)
def Il (d:Gj h h'):KI w w (Own M h blk) (Own M h' blk) h h' blk blk V V:=⟨fun b a c=>⟨a,Eo d c,rfl⟩,fun _ _ h=>h,fun x v _ e a c=>by
 obtain⟨r,f,g⟩:=d x e a;exact⟨⟨r,f,by rw[<- g.same.1];exact c⟩,rfl,fun _ _=>rfl⟩⟩
def Inv.le (d:Inv N M L w0 blk V t h a w) (f:Gj h h'):Inv N M L w0 blk V t h' a w where
 tab:=d.tab.keep fun b A m=>⟨A,Eo f m,rfl⟩
 below:=d.below
 mlt:=d.mlt
 cc:=d.cc
 pin go l:=⟨(d.pin go l).1,fun o H I=>by
  obtain⟨r,k,e⟩:=f 0 o H;exact (d.pin go l).2 r k (by rw[<- e.same.1];exact I)⟩
 defers:=d.defers
 tsz:=d.tsz
 slots i:=(d.slots i).mono (Il f)
 rows x o B:=by
  obtain⟨r,k,e⟩:=f x o B;obtain⟨A,m⟩:=d.rows x r k;refine⟨fun J=>by rw[e.same.1];exact A J,?_⟩;cases F:blk x with
  | none =>
   rw[F]at m;exact e.nil m
  | some g =>
   rw[F]at m;exact⟨m.1,(fh.le m.2 e).keep rfl rfl rfl rfl fun b p q=>⟨p,Eo f q,rfl⟩⟩
 inj x y r s g g' B v l C he:=by
  obtain⟨K,k,_⟩:=f x r B;obtain⟨G,e,_⟩:=f y s v;exact d.inj x y K G g g' k e l C he
 big:=d.big
 pha y o g v hm l j x s n O:=by
  obtain⟨r,k,e⟩:=f y o v;obtain⟨P,u,p,q⟩:=d.pha y r g k (by rw[<- e.same.2.2.2.2];exact hm) l j x s n (e.cell O (by intro h;cases h));exact⟨P,u,p,q.mono fun D Q=>by
   obtain⟨G,U,_⟩:=f x D Q;simp_all⟩
 ali y o g v R E l j c S T z:=by
  obtain⟨r,k,e⟩:=f y o v;obtain⟨u,p,q⟩:=d.ali y r g k (by rw[<- e.same.2.2.1];exact R) (by rw[<- e.same.2.2.2.1];exact E) l j c S (e.cell T (by intro h;subst h;cases z)) z;exact⟨u,p,q.mono (Il f)⟩
def bA.le {e:Nat} {c:Option Nat} {E:cH} {v:Value} (f:bA N M L w0 V t h a e c E v w) (d:Gj (aZ h E.hw) h') :
  ∃b,Inv N M L w0 b (fun x n=>V x n∨(c=some x∧n=e)) t h' a w∧RT w (Own M h' b) h' b (fun x n=>V x n∨(c=some x∧n=e)) E.val v:=by
 obtain⟨b,g,i⟩:=f;exact⟨b,g.le d,i.mono (Il d)⟩
end
def mm {a:List D} {o:Nat} {d:D} (h:o<a.length):(putCells a o [d]).length=a.length:=lk (show o+1<=a.length from h)
def ie {a:List D} {o:Nat} {d:D} (h:o<a.length):(putCells a o [d])[o]? = some d:=by
 rw[pe (show o+[d].length<=a.length from h)];simp
def jH {a:List D} {o j:Nat} {d:D} (h:o<a.length) (b:j≠o):(putCells a o [d])[j]? = a[j]?:=by
 rw[pe (show o+[d].length<=a.length from h)];grind
def Kl:Option Row->Option Row
 | some r=>if r.mp then (match r.cells with | [.nr _ _ _ _]=>none|_=>some r) else some r
 | none=>none
def S4 (b c:Nat) (e:Bool):Option Row->D->D
 | some a,.nx n _=>if a.ty=b∧a.v=c∧a.fz=e∧a.lst=true∧a.mp=false then .nx n a.cells else .und
 | none,.nx n _ =>.und
 | _,d=>d
def Js (a s b:Nat) (e:Bool) (c:List D) (o:Nat) (r:Option Row):Option D->List D
 | some d=>[.nr a s b (putCells c o [S4 a b e r d])]
 | none=>[.nr a s b c]
def Jb (o:Nat) (r:Option Row) (q:Row):Row :=
 if q.mp then
  match q.cells with
  | [.nr ty s nv cs]=>{ q with cells:=Js ty s nv q.fz cs o r (cs.drop o).head? }
  | _=>q
 else q
def Da (h:Nat->Option Row) (k:Nat) (r:Option Row):Option Row:=@ite _ (k<2*PK) (ltB k (2*PK)) (Kl r) ((h (k % PK)).map (Jb (k / PK-2) r))
def nw (h:Nat->Option Row):List (Nat×Option Row)->List (Nat×Option Row)
 | []=>[]
 | (k,r)::l=>(rt k,Da h k r)::nw (cq h (rt k) (Da h k r)) l
def Ee {r:Option Row} {q:Row} {o:Nat} (h:Kl r=some q):r=some q∧vk q o=none∧∀y,Gs y q=q:=by
 unfold Kl at h;split at h
 ·rename_i b;split at h
  ·rename_i a;split at h
   ·cases h
   ·rename_i c;simp only[alz]at h;subst h;refine⟨rfl,?_,fun y =>?_⟩
    ·unfold vk;rw[if_pos a];unfold Mv;simp_all
    ·unfold Gs;rw[if_pos a];have:skL y b.cells=b.cells:=by
      unfold skL;simp_all
     rw[this]
  ·rename_i a;simp only[alz]at h;subst h;exact⟨rfl,by unfold vk;rw[if_neg a],fun y=>by unfold Gs;rw[if_neg a]⟩
 ·cases h
def afE (h:Nat->Option Row) (k:Nat) (r:Option Row):Gj (cq (EH h) k r) (EH (cq h (rt k) (Da h k r))):=by
 intro z p a
 by_cases O:k<2*PK
 ·rw[jU O]at a;unfold Da at a;rw[if_pos O]at a
  by_cases g:z<2*PK
  ·rw[wh g]at a
   by_cases c:z=k
   ·subst c;rw[ay]at a ⊢;rw[alo]at a;obtain⟨q,S,rfl⟩:=a;obtain⟨P,_,h3⟩:=Ee (o:=0) S;rw[h3];exact⟨q,P,.refl _⟩
   ·rw[aD _ _ c]at a ⊢;rw[<- wh g]at a;exact⟨p,a,.refl _⟩
  ·rw[aD _ _ (by omega)];unfold EH at a;rw[if_neg g]at a
   by_cases c:z % PK=k
   ·rw[c,ay]at a;rw[Option.bind_eq_some_iff]at a;obtain⟨q,S,P⟩:=a;rw[(Ee (o:=z / PK-2) S).2.1]at P;cases P
   ·rw[aD _ _ c]at a;exact⟨p,by unfold EH;grind,.refl _⟩
 ·have v:=PM (anI O);have b:=Mu k;generalize k % PK=x at v b;generalize k / PK-2=o at v;subst v;rw[ye b]at a;have T:Da h (NK x o) r=(h x).map (Jb o r):=by
   unfold Da;rw[if_neg O,yD o b,GH o b]
  rw[T]at a;cases u:h x with
  | none =>
   rw[u]at a;simp only[Option.map_none]at a;have f:EH h z=some p:=by
    rw[<- a];apply fp
    by_cases hzx:rt z=x
    ·rw[hzx,ay,u]
    ·rw[aD _ _ hzx]
   by_cases c:z=NK x o
   ·subst c;rw[wg b,u]at f;cases f
   ·rw[aD _ _ c];exact⟨p,f,.refl _⟩
  | some q =>
   rw[u]at a;simp only[Option.map_some]at a
   by_cases hzx:rt z=x
   rotate_left
   ·have:EH h z=some p:=by rw[<- a];exact fp (by rw[aD _ _ hzx])
    refine⟨p,?_,.refl _⟩;rw[aD _ _ (fun e=>hzx (by rw[e,ye b]))];exact this
   by_cases U:q.mp=true∧∃E s F l,q.cells=[.nr E s F l]
   rotate_left
   ·have V:Jb o r q=q:=by
     unfold Jb;simp_all
    rw[V]at a;have f:EH h z=some p:=by
     rw[<- a];exact fp (by rw[hzx,ay,u])
    by_cases c:z=NK x o
    ·subst c;rw[wg b,u]at f;simp only[Option.bind_some]at f;unfold vk at f;split at f
     ·rename_i i;unfold Mv at f;simp_all
     ·cases f
    ·rw[aD _ _ c];exact⟨p,f,.refl _⟩
   obtain⟨i,E,s,F,l,Q⟩:=U;have V:Jb o r q = { q with cells:=Js E s F q.fz l o r (l.drop o).head? }:=by
    unfold Jb;rw[if_pos i,Q]
   rw[V]at a;obtain⟨cs',G,W⟩:∃cs':List D,Js E s F q.fz l o r (l.drop o).head? = [.nr E s F cs']∧cs'.length=l.length∧(∀j,j≠o->cs'[j]? = l[j]?)∧∀w,cs'[o]? = some w->∃d,l[o]? = some d∧w=S4 E F q.fz r d:=by
    rw[anJ];cases t:l[o]? with
    | none=>exact⟨l,rfl,rfl,fun _ _=>rfl,fun w m=>by simp_all⟩
    | some d =>
     have y:=(alT.1 t).1;refine⟨_,rfl,mm y,fun j hj=>jH y hj,fun w m=>⟨d,rfl,?_⟩⟩;rw[ie y]at m;simp_all
   rw[G]at a;obtain⟨H,I,J⟩:=W
   by_cases g:z<2*PK
   ·rw[jU g]at hzx;subst hzx;rw[wh g,ay]at a;simp only[Option.map_some,alz]at a;subst a;rw[aD _ _ (by omega),wh g,u];refine⟨Gs z q,rfl,.inr (.inl ⟨by rw[(ajz z q).2.2.2.2,i],cs'.mapIdx (wO z s),?_,?_,fun j d w t m =>?_⟩)⟩
    ·unfold Gs;simp only[i,if_true,skL]
    ·unfold Gs;simp only[i,if_true,skL,Q,List.length_mapIdx,H]
    ·unfold Gs at t;simp only[i,if_true,skL,Q,anK,alo]at t;rw[anK,alo]at m;obtain⟨d0,K,rfl⟩:=t;obtain⟨d1,A,rfl⟩:=m
     by_cases L:j=o
     ·subst L;obtain⟨d2,X,rfl⟩:=J _ A;rw[K]at X;cases X;cases d0 with
      | nx n xs =>
       cases r with
       | none=>exact .inr ⟨⟨_,_,_,rfl⟩,rfl⟩
       | some Y =>
        simp only[S4];split
        ·exact .inl rfl
        ·exact .inr ⟨⟨_,_,_,rfl⟩,rfl⟩
      | _=>cases r<;>exact .inl rfl
     ·rw[I j L,K]at A;cases A;exact .inl rfl
   ·have B:=PM (anI g);have M:z % PK=x:=by unfold rt at hzx;grind
    rw[M]at B;generalize z / PK-2=R at B;subst B;rw[wg b,ay]at a;simp only[Option.bind_some]at a;unfold vk at a;simp only[i,if_true,Mv,anJ]at a
    by_cases N:R=o
    ·subst N;rw[ay];cases t:cs'[R]? with
     | none=>rw[t]at a;cases a
     | some w =>
      obtain⟨d,X,rfl⟩:=J w t;rw[t]at a;cases r with
      | none=>cases d<;>cases a
      | some Y =>
       cases d with
       | nx n xs =>
        simp only[S4]at a;split at a
        ·rename_i C;obtain⟨rfl,rfl,h3,h4,h5⟩:=C;simp only[IB,alz]at a;subst a;refine⟨Y,rfl,.inl ?_⟩;cases Y;simp_all
        ·cases a
       | _=>cases a
    ·have Z:NK x R≠NK x o:=by
      unfold NK;rw[gh];omega
     rw[aD _ _ Z,wg b,u];rw[I R N]at a;refine⟨p,?_,.refl _⟩;simp only[Option.bind_some];unfold vk;simp only[i,if_true,Q,Mv,anJ];exact a
def Ra:∀(l:List (Nat×Option Row)) (h:Nat->Option Row),Gj (aZ (EH h) l) (EH (aZ h (nw h l)))
 | [],h =>.refl _
 | (k,r)::l,h=>(Gj.apply l (afE h k r)).trans (Ra l _)
def bump (a e:Nat):Option Nat:=if a<=4*e then some (4*e+1) else if a=4*e+2 then some (4*e+3) else none
def nrO (r:Row):List D->Option (Row×Nat×Nat×Nat×List D)
 | [.nr ty s nv cs]=>some (r,ty,s,nv,cs)
 | _=>none
def iu (h:Nat->Option Row) (x v:Nat):Option (Row×Nat×Nat×Nat×List D) :=
 match h x with
 | some r=>if r.v=v∧r.fz=false∧r.mp=true∧x<PK then nrO r r.cells else none
 | none=>none
def j9 {h:Nat->Option Row} {x v:Nat} {r:Row} {b s c:Nat} {d:List D} (a:iu h x v=some (r,b,s,c,d)):h x=some r∧r.v=v∧r.fz=false∧r.mp=true∧x<PK∧r.cells=[.nr b s c d]:=by
 unfold iu at a;split at a
 ·rename_i f g;split at a
  ·rename_i e;obtain⟨i,j,k,l⟩:=e;unfold nrO at a;grind
  ·cases a
 ·cases a
def gF {d:D} (a:gN d=true):bE d=true∧phC d=true∧∀ {w:World} {M:Nat->Prop} {u:Value},GJ w M d u↔RP w M d u:=by
 cases d<;>first|exact⟨rfl,rfl,Iff.rfl⟩|cases a
def V4:D->D
 | .nx n xs =>.sl false false n xs
 | d=>d
def il {h:Nat->Option Row} {x:Nat} {r:Row} {b s c:Nat} {a:List D} (d:h x=some r) (e:r.mp=true) (f:r.cells=[.nr b s c a]) (g:x<PK):EH h x=some ⟨r.v,r.ty,a.mapIdx (wO x s),r.fz,r.lst,true⟩:=by
 rw[wh (by omega),d];simp only[Option.map_some,Gs,e,if_true,f,skL]
def fU {h:Nat->Option Row} {x:Nat} {r:Row} {a s b:Nat} {c:List D} (d:h x=some r) (e:r.mp=true) (f:r.cells=[.nr a s b c]) (g:x<PK) (o:Nat):EH h (NK x o)=IB a b r.fz c[o]?:=by
 rw[wg g,d];simp only[Option.bind_some,vk,e,if_true,f,Mv,anJ]
def w8 {x a o b:Nat} (d:x<PK) (c:a<PK) (h:NK x o=NK a b):x=a∧o=b:=by
 unfold NK at h;rw[gh]at *;omega
def KK (w:World) (blk:Nat->Option (Nat×Nat)) (k s n:Nat) (u:Value):Prop :=
 (∃g c a b,blk k=some g∧u=.slice (some ⟨g.1,g.2,none⟩) n c∧c*s+g.2=a∧n<=c∧c<=maxLen∧w.shape? g.1=some (b,a))∨(blk k=none∧n=0∧∃A,u=.slice A 0 0)
section
variable {P:Program} {T:Nat->Option Ty} {N:Nat} {M:Nat->Prop} {L:lG} {w0:World} {blk:Nat->Option (Nat×Nat)} {V:Nat->Nat->Prop} {t:Nat->D} {h:Nat->Option Row} {a:Act} {w:World} {e:Nat} {o:Oper} {Γ:Env}
def Inv.FA (m:Inv N M L w0 blk V t (EH h) a w) {x:Nat} {r:Row} {n s o:Nat} {e:List D} {g:Nat×Nat} (p:h x=some r) (q:r.mp=true) (u:r.cells=[.nr n s o e]) (v:x<PK) (y:blk x=some g) :
  ∃b:Array Value,w.heap[g.1]? = some (.cells b r.ty (0,0))∧g.2+e.length<=b.size∧∀(j:Nat) d,e[j]? = some d->gN d=true->RP w (Own M (EH h) blk) d (b.getD (g.2+j) undef):=by
 have c:=m.rowIs (il p q u v) y;unfold fh at c;simp only at c;rcases c with⟨E,F,f,_⟩|⟨f,b,z,k,A⟩
 ·exfalso;simp only at f;have B:e.length=1:=by
   have:=congrArg List.length f;simpa using this
  match e,B with
  | [d],_ =>
   simp only[List.mapIdx_cons,List.mapIdx_nil,alO,and_true]at f;have:=oA x s 0 d;rw[f]at this;cases this
 ·simp only[List.length_mapIdx]at k;refine⟨b,z,k,fun j d C l =>?_⟩;have i:(e.mapIdx (wO x s))[j]? = some d:=by rw[anK,C];exact congrArg some (mo l)
  exact (gF l).2.2.1 (A j _ i)
def Inv.IE (k:Inv N M L w0 blk V t (EH h) a w) {x:Nat} {r:Row} {l s m n o:Nat} {b p:List D} {g:Nat×Nat} (c:h x=some r) (d:r.mp=true) (e:r.cells=[.nr l s m b]) (f:x<PK) (q:blk x=some g) (i:b[o]? = some (.nx n p)) :
  ∃u,w.cell? ⟨g.1,g.2+o,none⟩=some u∧KK w blk (NK x o) s n u:=by
 obtain⟨_,u,v,y⟩:=k.pha x _ g (il c d e f) rfl q o (NK x o) s n (by simp only[anK,i,Option.map_some,wO]);have j:=fU c d e f o;rw[i]at j;exact⟨u,v,y _ j⟩
def afu:D->D->D
 | .nx n _,.nx _ a =>.nx n a
 | .nx _ _,_ =>.und
 | d,_=>d
def zu (b a:List D):List D:=List.zipWith afu b a
def sO {x k:Nat} (b:rt k=x):k=x∨∃o,k=NK x o:=by
 by_cases a:k<2*PK
 ·rw[jU a]at b;exact .inl b
 ·have:=PM (anI a);unfold rt at b;grind
def ahB (b a:List D) (j:Nat):(zu b a)[j]? = match b[j]?,a[j]? with|some d,some c=>some (afu d c)|_,_=>none:=by
 unfold zu;grind
def Vj {x:Nat} {r:Row} {z s A:Nat} {c a:List D} (J:h x=some r) (K:r.mp=true) (L:r.cells=[.nr z s A c]) (M:r.fz=false) (B:x<PK) (p:a.length=c.length)
  (F:∀(j:Nat) C e,a[j]? = some (.nx C e)->∃n E k,c[j]? = some (.nx n E)∧e=E.take k):Gj (EH h) (EH (cq h x (some ⟨r.v,r.ty,[.nr z s A (zu c a)],false,r.lst,true⟩))):=by
 have g:=ahB c a;have G:(zu c a).length=c.length:=by simp[zu,p]
 have q:∀(j:Nat) d,c[j]? = some d->∃m,a[j]? = some m:=by
  grind
 have N:∀(j:Nat) m,a[j]? = some m->∃d,c[j]? = some d:=by
  grind
 generalize O:cq h x (some ⟨r.v,r.ty,[.nr z s A (zu c a)],false,r.lst,true⟩)=hh;have t:hh x=some ⟨r.v,r.ty,[.nr z s A (zu c a)],false,r.lst,true⟩:=by rw[<- O,ay]
 have P:∀y,y≠x->hh y=h y:=fun y S=>by rw[<- O,aD _ _ S]
 have T:∀ {h1 Q:Nat->Option Row},(∀y,y≠x->h1 y=Q y)->∀k,rt k≠x->EH h1 k=EH Q k:=fun U k b=>fp (U _ b);have u:∀k,rt k=x->k=x∨∃o,k=NK x o:=by
  intro k b
  by_cases v:k<2*PK
  ·rw[jU v]at b;exact .inl b
  ·have:=PM (anI v);unfold rt at b;grind
 intro k V b
 by_cases H:rt k=x
 rotate_left
 ·exact⟨V,by simp_all,.refl _⟩
 rcases u k H with rfl|⟨o,rfl⟩
 ·rw[il t rfl rfl B]at b;simp only[alz]at b;subst b;refine⟨_,il J K L B,.inr (.inl ⟨rfl,(zu c a).mapIdx (wO k s),by rw[M],by simp[G],fun j d m i f =>?_⟩)⟩;simp only[anK,alo]at i f;obtain⟨d0,w,rfl⟩:=i;obtain⟨d1,l,rfl⟩:=f;obtain⟨d2,I⟩:=q j d0 w;rw[g,w,I]at l;simp only[alz]at l;subst l;cases d0 with
  | nx n E =>
   cases d2 with
   | nx C e=>exact .inl rfl
   | _=>exact .inr ⟨⟨_,_,_,rfl⟩,rfl⟩
  | _=>exact .inl rfl
 ·rw[fU t rfl rfl B,g]at b;cases i:c[o]? with
  | none=>rw[i]at b;cases b
  | some d =>
   obtain⟨m,f⟩:=q o d i;rw[i,f]at b;cases d with
   | nx n E =>
    cases m with
    | nx C e =>
     obtain⟨Y,W,k,R,X⟩:=F o C e f;rw[i]at R;cases R;simp only[afu,IB,alz]at b;subst b;refine⟨_,by rw[fU J K L B,i];rfl,.inr (.inr ⟨rfl,k,by rw[X,M]⟩)⟩
    | _=>cases b
   | _=>cases b
def Inv.Js (hI:Inv N M L w0 blk V t (EH h) a w) {x:Nat} {r:Row} {q s u:Nat} {c cs':List D} (hx:h x=some r) (hm:r.mp=true) (hc:r.cells=[.nr q s u c]) (hz:r.fz=false) (C:x<PK) (v:cs'.length=c.length) {w':World}
  (Y:w'.os=w.os) (E:w'.tape=w.tape) (H:w'.output=w.output) (F:w.heap.size<=w'.heap.size) (G:∀b,b<w.heap.size->(∀g,blk x=some g->b≠g.1)->w'.heap[b]? = w.heap[b]?)
  (I:∀(j:Nat) z i,cs'[j]? = some (.nx z i)->∃n xs k,c[j]? = some (.nx n xs)∧i=xs.take k)
  (l:∀g,blk x=some g->w'.shape? g.1=w.shape? g.1∧∃f:Array Value,w'.heap[g.1]? = some (.cells f r.ty (0,0))∧g.2+c.length<=f.size∧∀(j:Nat) d,cs'[j]? = some d ->
   (gN d=true->RP w' (Own M (EH (cq h x (some ⟨r.v,r.ty,[.nr q s u (zu c cs')],false,r.lst,true⟩))) blk) d (f.getD (g.2+j) undef))∧∀z i,d=.nx z i->KK w blk (NK x j) s z (f.getD (g.2+j) undef)) :
  Inv N M L w0 blk V t (EH (cq h x (some ⟨r.v,r.ty,[.nr q s u cs'],false,r.lst,true⟩))) a w':=by
 have J:∀(j:Nat),(zu c cs')[j]? = match c[j]?,cs'[j]? with|some d,some A=>some (afu d A)|_,_=>none:=by
  intro j;unfold zu;grind
 have ag:(zu c cs').length=c.length:=by simp[zu,v]
 have ai:∀(j:Nat) d,c[j]? = some d->∃A,cs'[j]? = some A:=by
  grind
 have K:∀(j:Nat) A,cs'[j]? = some A->∃d,c[j]? = some d:=by
  grind
 generalize Z:cq h x (some ⟨r.v,r.ty,[.nr q s u (zu c cs')],false,r.lst,true⟩)=hh at l;have O:hh x=some ⟨r.v,r.ty,[.nr q s u (zu c cs')],false,r.lst,true⟩:=by rw[<- Z,ay]
 have P:∀y,y≠x->hh y=h y:=fun y W=>by rw[<- Z,aD _ _ W]
 have aa:∀ {h1 h2:Nat->Option Row},(∀y,y≠x->h1 y=h2 y)->∀k,rt k≠x->EH h1 k=EH h2 k:=fun he k Q=>fp (he _ Q);have R:∀k,rt k=x->k=x∨∃o,k=NK x o:=by
  intro k Q
  by_cases S:k<2*PK
  ·rw[jU S]at Q;exact .inl Q
  ·have:=PM (anI S);unfold rt at Q;grind
 have ab:Gj (EH h) (EH hh):=by rw[<- Z];exact Vj hx hm hc hz C v I
 have hA:=hI.le ab;have hB:=hA.mn (x:=x) (r:=⟨r.v,r.ty,(zu c cs').mapIdx (wO x s),false,r.lst,true⟩) (r0:=⟨r.v,r.ty,cs'.mapIdx (wO x s),false,r.lst,true⟩) (w':=w') (il O rfl rfl C) rfl rfl Y E H F G (by
   cases hb:blk x with
   | none =>
    have:=(hI.rows x _ (il hx hm hc C)).2;rw[hb]at this;have h1:c.mapIdx (wO x s)=[]:=this;simp_all
   | some g =>
    obtain⟨k1,f,k2,k3,k4⟩:=l g hb;refine⟨k1,.inr ⟨fun d X =>?_,f,k2,by simp_all,fun j d B =>?_⟩⟩
    ·obtain⟨j,B⟩:=alL X;simp only[anK,alo]at B;obtain⟨d0,m,rfl⟩:=B;exact oA _ _ _ _
    ·simp only[anK,alo]at B;obtain⟨d0,m,rfl⟩:=B
     by_cases p:gN d0=true
     ·rw[mo p];exact (gF p).2.2.2 ((k4 j d0 m).1 p)
     ·cases d0<;>first|trivial|exact absurd rfl p) (fun h=>by cases h) (fun _ g hg j x' s' z B=>by
   obtain⟨k1,f,k2,k3,k4⟩:=l g hg;simp only[anK,alo]at B;obtain⟨d0,m,he⟩:=B;obtain⟨ad,rfl,rfl,rfl⟩:=uK he;have aj:=(alT.1 m).1;exact⟨⟨C,.inr rfl⟩,_,bm k2 (by omega),fun _ _=>(k4 j _ m).2 z ad rfl⟩)
 have ae:cq (EH hh) x (some (⟨r.v,r.ty,cs'.mapIdx (wO x s),false,r.lst,true⟩:Row))=EH (cq h x (some ⟨r.v,r.ty,[.nr q s u cs'],false,r.lst,true⟩)):=by
  have T:cq h x (some (⟨r.v,r.ty,[.nr q s u cs'],false,r.lst,true⟩:Row)) x=some ⟨r.v,r.ty,[.nr q s u cs'],false,r.lst,true⟩:=ay _ _ _;funext k
  by_cases hkx:rt k=x
  rotate_left
  ·rw[aD _ _ (fun e=>hkx (by rw[e,jU (by omega)]))];exact aa (fun y W=>by rw[P y W,aD _ _ W]) k hkx
  rcases R k hkx with rfl|⟨o,rfl⟩
  ·rw[ay,il T rfl rfl C]
  ·rw[aD _ _ (by have:=jv x o;omega),fU O rfl rfl C,fU T rfl rfl C,J];cases U:cs'[o]? with
   | none=>simp_all
   | some A =>
    obtain⟨d,X⟩:=K o A U;rw[X];cases A with
    | nx z i =>
     obtain⟨n0,ak,k,e1,_⟩:=I o z i U;rw[X]at e1;cases e1;rfl
    | _=>cases d<;>rfl
 simp_all
def Inv.aje (f:Inv N M L w0 blk V t h a w) (S:Nat->Prop) (H:Nat) (T:∀k,S k->N<=k∧k≠0∧¬V k H) {h':Nat->Option Row} (U:∀k,S k->h' k=(h k).map fun r=>{ r with v:=H }) (W:∀k,¬S k->h' k=h k):Inv N M L w0 blk V t h' a w:=by
 have q:∀x r',h' x=some r'->∃r,h x=some r∧r' = { r with v:=r'.v }∧(¬S x->r'=r)∧(S x->r'.v=H):=by
  intro x r' z
  by_cases I:S x
  ·rw[U x I,alo]at z;grind
  simp_all
 have d:∀ {r r':Row},r' = { r with v:=r'.v }->r'.ty=r.ty∧r'.cells=r.cells∧r'.fz=r.fz∧r'.lst=r.lst∧r'.mp=r.mp:=by
  grind
 have J:∀b,¬Own M h blk b->¬Own M h' blk b:=by
  intro b C A;rcases A with A|⟨x,r',g,z,X,m,e⟩
  ·exact C (.inl A)
  ·obtain⟨r,B,l,_⟩:=q x r' z;exact C (.inr ⟨x,r,g,B,by grind,m,e⟩)
 have D:KI w w (Own M h blk) (Own M h' blk) h h' blk blk V V:=⟨fun b B l=>⟨B,J b l,rfl⟩,fun _ _ h=>h,fun x v P r' B l=>by
  grind⟩
 exact {
  tab:=f.tab.keep fun b B l=>⟨B,J b l,rfl⟩
  below:=f.below
  mlt:=f.mlt
  cc:=f.cc
  pin:=fun Q m=>⟨(f.pin Q m).1,fun r' Y P=>by
   obtain⟨r,o,p,R,Z⟩:=q 0 r' Y;obtain rfl:=R (fun I=>(T 0 I).2.1 rfl);exact (f.pin Q m).2 r' o P⟩
  defers:=f.defers
  tsz:=f.tsz
  slots:=fun i=>(f.slots i).mono D
  rows:=fun x r' z=>by
   obtain⟨r,o,p,R,Z⟩:=q x r' z;obtain⟨B,l⟩:=f.rows x r o;refine⟨fun hn =>?_,?_⟩
   ·grind
   ·cases C:blk x with
    | none=>rw[C]at l;exact (d p).2.1.trans l
    | some g =>
     rw[C]at l;exact⟨l.1,l.2.keep (d p).2.1 (d p).1 (d p).2.2.2.2 rfl fun b E F=>⟨E,J b F,rfl⟩⟩
  inj:=fun x y r s g g' z G m K e=>by
   obtain⟨r1,o,_⟩:=q x r z;obtain⟨r2,p,_⟩:=q y s G;exact f.inj x y r1 r2 g g' o p m K e
  big:=f.big
  pha:=fun y r' g G hm m j x s n hc=>by
   obtain⟨r,o,p,_⟩:=q y r' G;obtain⟨h0,u,E,F⟩:=f.pha y r g o (by grind) m j x s n (by grind);exact⟨h0,u,E,F.mono fun aa q3=>by
    grind⟩
  ali:=fun y r' g G X ab m j c d' hj O=>by
   obtain⟨r,o,p,_⟩:=q y r' G;obtain⟨u,E,F⟩:=f.ali y r g o (by grind) (by grind) m j c d' (by grind) O;exact⟨u,E,F.mono D⟩ }
end
def OC (τ:Ty) (x s b o:Nat) (a:List D):Option D->Option cH
 | some (.nx n xs)=>if τ.size=1∧τ.ds.we=false then some ⟨.buf (NK x o) b s 0 n,[]⟩ else none
 | some _=>if o+τ.size<=a.length∧((a.drop o).take τ.size).all gN=true then (match mf τ ((a.drop o).take τ.size) with|some d=>some ⟨d,[]⟩|none=>none) else none
 | none=>none
def ua (τ:Ty) (h:Nat->Option Row):D->Option cH
 | .ptr x v o =>
  match iu h x v with
  | some (r,ty,s,nv,cs)=>OC τ x s nv o cs (cs.drop o).head?
  | none=>none
 | _=>none
def Pb (x:Nat) (r:Row) (b s c:Nat) (d:List D) (o n:Nat):Option D->Option cH
 | some (.nx e a)=>if n*s<=a.length then some ⟨.und,[(x,some ⟨r.v,r.ty,[.nr b s c (putCells d o [.nx n (a.take (n*s))])],false,r.lst,true⟩)]⟩ else none
 | _=>none
def EC (x:Nat) (r:Row) (b s:Nat) (c:List D) (o y n:Nat) (q:Row):Option Nat->Option cH
 | some a=>some ⟨.und,[(y,none),(x,some ⟨r.v,r.ty,[.nr b s a (putCells c o [.nx n q.cells])],false,r.lst,true⟩)]⟩
 | none=>none
def plV:D->Option (List D)
 | .agg xs=>some xs
 | .int k n=>some [.int k n]
 | .bool b=>some [.bool b]
 | .str s=>some [.str s]
 | .sl a b n xs=>some [.sl a b n xs]
 | _=>none
def Pd (τ:Ty) (x:Nat) (r:Row) (b s c:Nat) (d:List D) (o:Nat):Option (List D)->Option cH
 | some a=>if a.length=τ.size∧a.all gN=true then some ⟨.und,[(x,some ⟨r.v,r.ty,[.nr b s c (putCells d o (a.map canon))],false,r.lst,true⟩)]⟩ else none
 | none=>none
def KB (τ:Ty) (e:Nat) (h:Nat->Option Row) (x:Nat) (r:Row) (a s b:Nat) (c:List D) (o:Nat):D->Option cH
 | .buf y f g i n =>
  if τ.size=1∧g=s∧i=0 then
   if y=NK x o then (if f=b then Pb x r a s b c o n (c.drop o).head? else none)
   else if y<PK then
    match live h y f with
    | some q=>if q.fz=false∧q.lst=true∧q.ty=a∧q.cells.length=n*s then EC x r a s c o y n q (bump b e) else none
    | none=>none
   else none
  else none
 | d=>Pd τ x r a s b c o (plV d)
def qN (τ:Ty) (e:Nat) (h:Nat->Option Row) (p d:D):Option cH :=
 match p with
 | .ptr x v o =>
  match iu h x v with
  | some (r,b,s,c,a)=>if o+τ.size<=a.length∧0<τ.size then KB τ e h x r b s c a o d else none
  | none=>none
 | _=>none
section
variable {P:Program} {T:Nat->Option Ty} {N:Nat} {M:Nat->Prop} {L:lG} {w0:World} {blk:Nat->Option (Nat×Nat)} {V:Nat->Nat->Prop} {t:Nat->D} {h:Nat->Option Row} {a:Act} {w:World} {e:Nat} {o:Oper} {Γ:Env}
def lD (N:Nat) (M:Nat->Prop) (L:lG) (w0:World) (V:Nat->Nat->Prop) (t:Nat->D) (h:Nat->Option Row) (a:Act) (e:Nat) (c:Option Nat) (E:cH) (v:Value) (d:World):Prop :=
 ∃b,Inv N M L w0 b (fun x n=>V x n∨(c=some x∧n=e)) t (EH (aZ h E.hw)) a d ∧
  RT d (Own M (EH (aZ h E.hw)) b) (EH (aZ h E.hw)) b (fun x n=>V x n∨(c=some x∧n=e)) E.val v
def VNr (V:Nat->Nat->Prop) (h:Nat->Option Row):Prop:=∀x r b s a c,h x=some r->r.mp=true->r.cells=[.nr b s a c]->x<PK->∀o,V (NK x o) a
def ab9 (O:ke P T) (l:Inv N M L w0 blk V t (EH h) a w) (D:VNr V h) {F:Nat} {p:Operand} {τ:Ty} {E:cH} (Q:o.op=.load F p) (R:T F=some τ) (b:ua τ h (ev t p)=some E):fm P o a w (lD N M L w0 V t h a e o.dst E):=by
 have Y:=l.ev p;generalize ev t p=q at *;unfold ua at b;split at b<;>try (cases b;done)
 rename_i x v c;split at b<;>try (cases b;done)
 rename_i r G s Z H hl;obtain⟨A,hv,hz,B,i,C⟩:=j9 hl;have I:=il A B C i;obtain⟨g,S,m⟩:=Y.2 _ I hv;rw[anJ]at b;unfold OC at b;split at b
 ·rename_i n xs hn;split at b<;>try (cases b;done)
  rename_i f;obtain⟨U,J⟩:=f;simp only[alz]at b;subst b;obtain⟨u,h1,h2⟩:=l.IE A B C i S hn;have k:=nd (O F τ R) w g.1 (g.2+c) [u] (by simpa using U.symm) (fun j v W=>by
   grind) (fun _=>rfl)
  rw[J]at k;refine aP (v:=u) (w':=w) ?_ ?_
  ·simp[execOp,Q,Instr.loadAt,Instr.sureAddr,m,k]
  ·refine bA.eU (h:=EH h) l ⟨D x r G s Z H A B C i c,fun r' X k2 =>?_⟩;rcases h2 with⟨g',c',N',t',q1,rfl,q3,q4,q5,q6⟩|⟨q1,rfl,q3⟩
   ·grind
   simp_all
 ·rename_i d0 aa ab;split at b<;>try (cases b;done)
  rename_i f;obtain⟨U,J⟩:=f;split at b<;>try (cases b;done)
  rename_i d hd;simp only[alz]at b;subst b;have K:At w (Own M (EH h) blk) g.1 (g.2+c) ((H.drop c).take τ.size):=by
   intro j d1 W;have y:=alB.1 J d1 (alR W);have z:H[c+j]? = some d1:=by
    grind
   obtain⟨ad,X,k2,k3⟩:=l.FA A B C i S;have ae:=(alT.1 z).1;refine⟨(gF y).1,_,?_,k3 _ _ z y⟩;rw[alK];exact bm X (by omega)
  exact u6 O l Q R m K (by simp;omega) hd
 ·cases b
def Hk (hT:ke P T) (X:Inv N M L w0 blk V t (EH h) a w) {Y y c C s Z:Nat} {p x:Operand} {τ:Ty} {r:Row} {q cs':List D} {us:List Value} {g:Nat×Nat} (ho:o.op=.store Y p x) (hτ:T Y=some τ)
  (F:h y=some r) (G:r.mp=true) (H:r.cells=[.nr C s Z q]) (hz:r.fz=false) (l:y<PK) (I:blk y=some g) (aa:a.eval p=.pointer (some ⟨g.1,g.2+c,none⟩)) (al:(a.eval x).cells.toList=us) (an:us.length=τ.size) (ao:c+τ.size<=q.length) (h1:∀u∈us,u.oneCell'=true)
  (v:cs'.length=q.length) (J:∀(j:Nat) K m,cs'[j]? = some (.nx K m)->∃n xs k,q[j]? = some (.nx n xs)∧m=xs.take k) (O:∀j,(j<c∨c+τ.size<=j)->cs'[j]? = q[j]?)
  (aq:∀(j:Nat) d,j<τ.size->cs'[c+j]? = some d->(gN d=true->RP w (Own M (EH h) blk) d (us.getD j undef))∧∀K m,d=.nx K m->KK w blk (NK y (c+j)) s K (us.getD j undef)) :
  fm P o a w (lD N M L w0 V t h a e o.dst ⟨.und,[(y,some ⟨r.v,r.ty,[.nr C s Z cs'],false,r.lst,true⟩)]⟩):=by
 obtain⟨f,U,k2,k3⟩:=X.FA F G H l I;have z:=run_storeCells_at P g.1 (g.2+c) r.ty us 0 f w U (by omega) h1;rw[alZ]at z;have Q:(f.toList.take (g.2+c)++us++f.toList.drop (g.2+c+us.length)).toArray.size=f.size:=by simp;omega
 have A:∀j,j<q.length->(f.toList.take (g.2+c)++us++f.toList.drop (g.2+c+us.length)).toArray.getD (g.2+j) undef=if j<c then f.getD (g.2+j) undef else if j<c+us.length then us.getD (j-c) undef else f.getD (g.2+j) undef:=by
  intro j W;rw[vx f us (g.2+c) (g.2+j) (by omega)]
  by_cases ab:j<c
  ·simp_all
  ·rw[if_neg (by omega),if_neg ab];grind
 generalize ar:(f.toList.take (g.2+c)++us++f.toList.drop (g.2+c+us.length)).toArray=arr' at z Q A;have B:(w.setRow g.1 arr').heap[g.1]? = some (.cells arr' r.ty (0,0)):=setRow_heap w g.1 f arr' r.ty (0,0) U;have ad:(w.setRow g.1 arr').heap.size=w.heap.size:=by simp[World.setRow]
 have hheap:∀b,b≠g.1->(w.setRow g.1 arr').heap[b]? = w.heap[b]?:=by
  intro b hb;simp only[World.setRow,alA];grind
 have R:Own M (EH h) blk g.1 := .inr ⟨y,_,g,il F G H l,hz,I,rfl⟩;have ae:=Vj F G H hz l v J;have hkeep:∀ {d:D} {u:Value},RP w (Own M (EH h) blk) d u->RP (w.setRow g.1 arr') (Own M (EH (cq h y (some ⟨r.v,r.ty,[.nr C s Z (zu q cs')],false,r.lst,true⟩))) blk) d u:=fun hr=>hr.keep fun b q1 q2=>⟨by rw[ad];exact q1,Eo ae q2,hheap b (fun e=>q2 (e ▸ R))⟩;have hS:=X.Js (cs':=cs') (w':=w.setRow g.1 arr') F G H hz l v rfl rfl rfl (by omega) (fun b _ hb=>hheap b (hb g I)) J (fun g' S=>by
  rw[I]at S;cases S;refine⟨by simp[World.shape?,B,U,Q],arr',B,by omega,fun j d W =>?_⟩;have ag:j<q.length:=by
   grind
  rw[A j ag]
  by_cases ak:c<=j∧j<c+τ.size
  ·rw[if_neg (by omega),if_pos (by omega)];obtain⟨i,rfl⟩:∃i,j=c+i:=⟨j-c,by omega⟩;rw[anf];grind
  ·have ai:(if j<c then f.getD (g.2+j) undef else if j<c+us.length then us.getD (j-c) undef else f.getD (g.2+j) undef)=f.getD (g.2+j) undef:=by
    grind
   rw[ai];rw[O j (by omega)]at W;refine⟨fun hd=>hkeep (k3 j d W hd),fun K m he =>?_⟩;subst he;obtain⟨u,q1,q2⟩:=X.IE F G H l I W;rw[bm U (by omega)]at q1;simp_all)
 refine .inr (.inl ⟨w.setRow g.1 arr',?_,blk,?_,trivial⟩)
 ·have aj:(a.eval x).cells.size=τ.size:=by grind
  have E:(storeCells ⟨g.1,g.2+c,none⟩ (a.eval x).cells.toList 0).run P w=.ok () (w.setRow g.1 arr'):=by simp_all
  simp[execOp,ho,Instr.storeAt,Instr.sureAddr,aa,storeVar,run_sizeOf (hT Y τ hτ),aj,E]
 ·exact hS.weaken fun _ _ h =>.inl h
def Dh {g:Nat×Nat} {a arr':Array Value} {c:Nat} (d:w.heap[g.1]? = some (.cells a c (0,0))):(w.setRow g.1 arr').heap[g.1]? = some (.cells arr' c (0,0))∧(w.setRow g.1 arr').heap.size=w.heap.size∧∀b,b≠g.1->(w.setRow g.1 arr').heap[b]? = w.heap[b]?:=by
 refine⟨setRow_heap w g.1 a arr' c (0,0) d,by simp[World.setRow],fun b e =>?_⟩;simp only[World.setRow,alA];grind
def Inv.akS (C:Inv N M L w0 blk V t (EH h) a w) {y c p s G:Nat} {r:Row} {o:List D} (x:h y=some r) (z:r.mp=true) (A:r.cells=[.nr p s G o]) (H:r.fz=false) (i:y<PK) (l:c<o.length) :
  Inv N M L w0 blk V t (EH (cq h y (some ⟨r.v,r.ty,[.nr p s G (putCells o c [.und])],false,r.lst,true⟩))) a w:=by
 have e:∀(j:Nat) d,(putCells o c [.und])[j]? = some d->d=.und∨o[j]? = some d:=by
  intro j d m
  by_cases q:j=c
  ·subst q;rw[ie l]at m;simp_all
  ·rw[jH l q]at m;exact .inr m
 have v:∀(j:Nat) B f,(putCells o c [.und])[j]? = some (.nx B f)->∃n I k,o[j]? = some (.nx n I)∧f=I.take k:=by
  intro j B f m;rcases e j _ m with h|h
  ·cases h
  ·exact⟨B,f,f.length,h,by simp⟩
 refine C.Js x z A H i (mm l) rfl rfl rfl (alq _) (fun _ _ _=>rfl) v (fun g J =>?_);obtain⟨E,K,Q,R⟩:=C.FA x z A i J;refine⟨rfl,E,K,Q,fun j d m=>⟨fun O =>?_,fun B f S =>?_⟩⟩
 ·rcases e j d m with h|h
  ·subst h;cases O
  ·exact (R j d h O).keep fun b F P=>⟨F,Eo (Vj x z A H i (mm l) v) P,rfl⟩
 ·subst S;rcases e j _ m with h|h
  ·cases h
  ·obtain⟨u,F,P⟩:=C.IE x z A i J h;have T:=(alT.1 h).1;rw[bm K (by omega)]at F;simp_all
def QP (hT:ke P T) (hI:Inv N M L w0 blk V t (EH h) a w) {ty y c E s nv F m n:Nat} {p x:Operand} {τ:Ty} {r q:Row} {H:List D} {K:Value} {g:Nat×Nat} (ho:o.op=.store ty p x) (hτ:T ty=some τ) (c1:τ.size=1)
  (hx:h y=some r) (hm:r.mp=true) (hc:r.cells=[.nr E s nv H]) (Z:r.fz=false) (f:y<PK) (hg:blk y=some g) (aC:a.eval p=.pointer (some ⟨g.1,g.2+c,none⟩)) (i:c<H.length)
  (ao:h m=some q) (aq:m<PK) (aE:q.fz=false) (aO:q.lst=true) (ai:q.mp=false) (aP:q.ty=E) (hu:(a.eval x).cells = #[K]) (aM:K.oneCell'=true) (ar:KK w blk m s n K) (hV:∀o,¬V (NK y o) F) :
  fm P o a w (lD N M L w0 V t h a e o.dst ⟨.und,[(m,none),(y,some ⟨r.v,r.ty,[.nr E s F (putCells H c [.nx n q.cells])],false,r.lst,true⟩)]⟩):=by
 have aQ:=gh;have aN:=hI.big;have S:m≠y:=by
  grind
 have hK:∀o,NK y o≠y∧NK y o≠m∧2*PK<=NK y o:=fun o=>by have:=jv y o;omega
 obtain⟨B,k1,k2,k3⟩:=hI.FA hx hm hc f hg;have U:=run_storeCells_at P g.1 (g.2+c) r.ty [K] 0 B w k1 (by simp;omega) (fun v hv=>by
  simp_all)
 rw[alZ]at U;have au:(B.toList.take (g.2+c)++[K]++B.toList.drop (g.2+c+[K].length)).toArray.size=B.size:=by simp;omega
 have I:∀j,j<H.length->(B.toList.take (g.2+c)++[K]++B.toList.drop (g.2+c+[K].length)).toArray.getD (g.2+j) undef=if j=c then K else B.getD (g.2+j) undef:=by
  intro j R;rw[vx B [K] (g.2+c) (g.2+j) (by simp;omega)];grind
 generalize aR:(B.toList.take (g.2+c)++[K]++B.toList.drop (g.2+c+[K].length)).toArray=arr' at U au I;obtain⟨J,aF,hheap⟩:=Dh (g:=g) (arr':=arr') k1;have hA:=hI.akS hx hm hc Z f i;have hB:=hA.aje (fun k=>∃o,k=NK y o) F (fun k hk=>by
  grind) (h':=EH (cq h y (some ⟨r.v,r.ty,[.nr E s F (putCells H c [.und])],false,r.lst,true⟩))) (fun k hk=>by
  obtain⟨o,rfl⟩:=hk;rw[fU (ay _ _ _) rfl rfl f,fU (ay _ _ _) rfl rfl f];cases (putCells H c [D.und])[o]? with
  | none=>rfl
  | some d=>cases d<;>rfl) (fun k hk=>by
  by_cases hky:rt k=y
  ·rcases sO hky with rfl|h
   ·rw[il (ay _ _ _) rfl rfl f,il (ay _ _ _) rfl rfl f]
   simp_all
  ·exact fp (by rw[aD _ _ hky,aD _ _ hky]))
 generalize av:cq h y (some (⟨r.v,r.ty,[.nr E s F (putCells H c [.und])],false,r.lst,true⟩:Row))=h2 at hB;have aj:h2 y=some ⟨r.v,r.ty,[.nr E s F (putCells H c [.und])],false,r.lst,true⟩:=by rw[<- av,ay]
 have W:∀z,z≠y->h2 z=h z:=fun z Z=>by rw[<- av,aD _ _ Z]
 have ak:EH h2 m=some q:=by
  rw[wh (by omega),W _ S,ao];simp only[Option.map_some,Gs,ai];rfl
 have X:=(hB.rows m q ak).2;have aG:∀b,Own M (forget (EH h2) (some m)) blk b->Own M (EH h2) blk b:=fun b O=>by
  rcases O with O|⟨z,r',g',Z,aH,aI,aJ⟩
  ·exact .inl O
  ·simp only[forget]at Z
   by_cases aw:z=m
   ·subst aw;rw[ay]at Z;cases Z
   ·rw[aD _ _ aw]at Z;exact .inr ⟨z,r',g',Z,aH,aI,aJ⟩
 have hC:=hB.abn (w':=w) (h1:=forget (EH h2) (some m)) (old:=some m) (d:=NK y c) (r0:=⟨F,E,q.cells,false,true,false⟩) (go:=blk m) rfl rfl rfl (alq _) (fun _ _ _=>rfl) (fun y' C=>by simp_all) rfl (by have:=hK c;omega) (by have:=hK c;omega) (hV c)
  (fun y' r' j s' n' C aK Y=>by
   simp only[forget]at C
   by_cases ad:y'=m
   ·subst ad;rw[ay]at C;cases C
   rw[aD _ _ ad]at C;have ae:=(hB.rows y' r' C).2;cases O:blk y' with
   | none =>
    rw[O]at ae;rw[show r'.cells=[] from ae]at Y;cases Y
   | some g' =>
    obtain⟨⟨q1,q2⟩,_⟩:=hB.pha y' r' g' C aK O j _ s' n' Y;rcases q2 with q2|q2
    ·have:=hK c;omega
    ·obtain⟨rfl,rfl⟩:=w8 f q1 q2;rw[il aj rfl rfl f]at C;simp only[alz]at C;subst C;simp only[anK,ie i,Option.map_some,alz]at Y;cases Y) (by
  cases O:blk m with
  | none=>rw[O]at X;exact X
  | some g' =>
   obtain⟨ag,m1,m2,m3⟩:=hB.Iq ak O ai;refine⟨.inr ⟨m,g',rfl,O,rfl⟩,ag,by simp_all,m2,fun j d R=>⟨(m3 j d R).1,(m3 j d R).2.keep fun b q1 q2=>⟨q1,?_,rfl⟩⟩⟩;rintro (hn|rfl)
   ·simp_all
   ·exact q2 (.inr ⟨m,q,g',ak,aE,O,rfl⟩)) rfl
 generalize al:cq (forget (EH h2) (some m)) (NK y c) (some (⟨F,E,q.cells,false,true,false⟩:Row))=ax at hC;have aa:ax y=some ⟨r.v,r.ty,(putCells H c [.und]).mapIdx (wO y s),false,r.lst,true⟩:=by
  rw[<- al,aD _ _ (Ne.symm (hK c).1)];simp only[forget];rw[aD _ _ (Ne.symm S)];exact il aj rfl rfl f
 have Q:cq blk (NK y c) (blk m) y=some g:=by rw[aD _ _ (Ne.symm (hK c).1),hg]
 have aL:(putCells H c [D.nx n q.cells]).length=H.length:=mm i;have hD:=hC.mn (r0:=⟨r.v,r.ty,(putCells H c [.nx n q.cells]).mapIdx (wO y s),false,r.lst,true⟩) (w':=w.setRow g.1 arr') aa rfl rfl rfl rfl rfl (by omega) (fun b _ O=>hheap b (O g Q)) (by
  rw[Q];refine⟨by simp[World.shape?,J,k1,au],?_⟩;have an:=hC.rowIs aa Q;unfold fh at an ⊢;simp only at an ⊢;rcases an with⟨ks,vs,m1,_⟩|⟨m1,ag,m2,m3,m4⟩
  ·exfalso;have:=congrArg List.length m1;simp only[List.length_mapIdx,mm i,List.length_singleton]at this;have h0:c=0:=by omega
   subst h0;have az:=congrArg (fun l:List D=>l[0]?) m1;simp only[anK,ie i,Option.map_some,List.getElem?_cons_zero,alz]at az;cases az
  ·rw[k1]at m2;simp only[alz,Obj.cells.injEq]at m2;obtain⟨rfl,-⟩:=m2;refine .inr ⟨fun d hd =>?_,arr',J,by simp_all,fun j d R =>?_⟩
   ·obtain⟨j,R⟩:=alL hd;simp only[anK,alo]at R;obtain⟨d0,A,rfl⟩:=R;exact oA _ _ _ _
   ·simp only[anK,alo]at R;obtain⟨d0,A,rfl⟩:=R;have ab:j<H.length:=by
     grind
    rw[I j ab]
    by_cases G:j=c
    ·subst G;rw[ie i]at A;cases A;trivial
    ·rw[if_neg G];rw[jH i G]at A;have:=m4 j (wO y s j d0) (by rw[anK,jH i G,A];rfl);exact this.keep fun b q1 q2=>⟨by rw[aF];exact q1,q2,hheap b (fun e=>q2 (.inr ⟨y,_,g,aa,rfl,Q,e.symm⟩))⟩) (fun h=>by cases h) (fun _ g' aA j x' s' n' R=>by
  rw[Q]at aA;cases aA;simp only[anK,alo]at R;obtain⟨d0,A,he⟩:=R;have ab:j<H.length:=by
   grind
  by_cases G:j=c
  ·subst G;rw[ie i]at A;simp only[alz]at A;subst A;simp only[wO,D.ph.injEq]at he;obtain⟨rfl,rfl,rfl⟩:=he;refine⟨⟨f,.inr rfl⟩,K,by rw[bm J (by omega),I j ab,if_pos rfl],fun r' _ =>?_⟩;rw[ay];exact ar
  ·rw[jH i G]at A;obtain⟨q1,u,q2,q3⟩:=hC.pha y _ g aa rfl Q j x' s' n' (by rw[anK,jH i G,A,<- he];rfl);refine⟨q1,u,?_,q3⟩;rw[bm k1 (by omega)]at q2;rw[bm J (by omega),I j ab,if_neg G,q2])
 have aB:cq ax y (some (⟨r.v,r.ty,(putCells H c [.nx n q.cells]).mapIdx (wO y s),false,r.lst,true⟩:Row))=EH (aZ h [(m,none),(y,some ⟨r.v,r.ty,[.nr E s F (putCells H c [.nx n q.cells])],false,r.lst,true⟩)]):=by
  simp only[aZ];funext k
  by_cases hky:rt k=y
  ·rcases sO hky with rfl|⟨o',rfl⟩
   ·rw[ay,il (ay _ _ _) rfl rfl f]
   ·rw[aD _ _ (hK o').1,fU (ay _ _ _) rfl rfl f,<- al]
    by_cases hoc:o'=c
    ·subst hoc;rw[ay,ie i];rfl
    ·rw[aD _ _ (fun e=>hoc (w8 f f e).2)];simp only[forget];rw[aD _ _ (hK o').2.1,fU aj rfl rfl f,jH i hoc,jH i hoc]
  ·rw[aD _ _ (fun e=>hky (by rw[e,jU (by omega)])),<- al,aD _ _ (fun e=>hky (by rw[e,ye f]))];simp only[forget]
   by_cases hk1:rt k=m
   ·rcases sO hk1 with rfl|⟨o',rfl⟩
    ·rw[ay,wh (by omega),aD _ _ S,ay];rfl
    ·rw[aD _ _ (by have:=jv m o';omega),wg aq,wg aq,W _ S,ao,aD _ _ S,ay];simp only[Option.bind_some,Option.bind_none,vk,ai];rfl
   ·rw[aD _ _ (fun e=>hk1 (by rw[e,jU (by omega)]))];exact fp (by rw[W _ hky,aD _ _ hky,aD _ _ hk1])
 refine .inr (.inl ⟨w.setRow g.1 arr',?_,cq blk (NK y c) (blk m),?_,trivial⟩)
 ·simp[execOp,ho,Instr.storeAt,Instr.sureAddr,aC,storeVar,run_sizeOf (hT ty τ hτ),c1,hu,U]
 ·show Inv _ _ _ _ _ _ _ (EH (aZ h _)) _ _;rw[<- aB];exact hD.weaken fun _ _ h =>.inl h
def aeL (V:Nat->Nat->Prop) (h:Nat->Option Row) (e:Nat):Prop:=∀x r c s b d a,h x=some r->r.mp=true->r.cells=[.nr c s b d]->x<PK->bump b e=some a->∀o,¬V (NK x o) a
def ahM {g:Nat->Prop} {d:D} {e:List D} {u:Value} (c:plV d=some e) (r:e.all gN=true) (i:RT w g h blk V d u):u.cells.toList.length=e.length∧∀(j:Nat) x,e[j]? = some x->gN x=true∧RP w g (canon x) (u.cells.toList.getD j undef):=by
 have l:∀x∈e,gN x=true:=alB.1 r;have one:∀(d0:D),e=[d0]->RP w g d0 u->u.cells.toList.length=e.length∧∀(j:Nat) x,e[j]? = some x->gN x=true∧RP w g (canon x) (u.cells.toList.getD j undef):=by
  intro d0 t m;subst t;have o:=l d0 (by simp);have v:=m.cells (gF o).1;rw[v];refine⟨rfl,fun j x f =>?_⟩;cases j with
  | zero=>simp only[List.getElem?_cons_zero,alz]at f;subst f;exact⟨o,m.canon⟩
  | succ j=>simp at f
 cases d with
 | agg xs =>
  simp only[plV,alz]at c;subst c;have p:RP w g (.agg xs) u:=i;cases p with
  | agg xs us h1 h2 h3 =>
   have q:(Value.agg us.toArray).cells.toList=us:=by simp[Value.cells]
   rw[q];exact⟨h1,fun j x f=>⟨l x (alR f),(h2 j x f).canon⟩⟩
 | int k n=>simp only[plV,alz]at c;exact one _ c.symm i
 | bool b=>simp only[plV,alz]at c;exact one _ c.symm i
 | str s=>simp only[plV,alz]at c;exact one _ c.symm i
 | sl a b n xs=>simp only[plV,alz]at c;exact one _ c.symm i
 | _=>cases c
def acf (hT:ke P T) (W:Inv N M L w0 blk V t (EH h) a w) (aj:aeL V h e) {ty:Nat} {p x:Operand} {τ:Ty} {E:cH} (ho:o.op=.store ty p x) (hτ:T ty=some τ) (b:qN τ e h (ev t p) (ev t x)=some E):fm P o a w (lD N M L w0 V t h a e o.dst E):=by
 have hp:=W.ev p;have hq:=W.ev x;generalize ev t p=pd at *;generalize ev t x=d at *;unfold qN at b;split at b<;>try (cases b;done)
 rename_i y v c;split at b<;>try (cases b;done)
 rename_i r H s nv cs hl;obtain⟨O,hv,hz,Q,C,R⟩:=j9 hl;have ak:=il O Q R C;obtain⟨g,hg,I⟩:=hp.2 _ ak hv;split at b<;>try (cases b;done)
 rename_i f;obtain⟨X,aA⟩:=f;have J:Pd τ y r H s nv cs c (plV d)=some E->fm P o a w (lD N M L w0 V t h a e o.dst E):=by
  intro b;unfold Pd at b;split at b<;>try (cases b;done)
  rename_i Y al;split at b<;>try (cases b;done)
  rename_i f;obtain⟨d1,d2⟩:=f;simp only[alz]at b;subst b;obtain⟨u1,u2⟩:=ahM al d2 hq;have aC:(Y.map canon).length=τ.size:=by simp_all
  have m:c+(Y.map canon).length<=cs.length:=by omega
  refine Hk hT W ho hτ O Q R hz C hg I rfl (u1.trans d1) X (fun u hu =>?_) (lk m) (fun j S i l =>?_) (fun j l =>?_) (fun j d0 l D =>?_)
  ·obtain⟨j,l⟩:=alL hu;have aD:=(alT.1 l).1;obtain⟨Z,q2⟩:=u2 j _ (alE (by omega));have e1:(a.eval x).cells.toList.getD j undef=u:=by simp_all
   rw[e1]at q2;exact q2.tw (by rw[p8];exact (gF Z).1)
  ·rw[pe m]at l;split at l
   ·exact⟨S,i,i.length,l,by simp⟩
   ·split at l
    ·rw[aln,alo]at l;obtain⟨x0,h1,h2⟩:=l;have:=(u2 _ x0 h1).1;cases x0<;>first|(cases h2;done)|(cases this;done)
    ·exact⟨S,i,i.length,l,by simp⟩
  ·rw[pe m];grind
  ·rw[pe m,if_neg (by omega),if_pos (by omega),anf,aln,alo]at D;obtain⟨x0,h1,rfl⟩:=D;obtain⟨Z,q2⟩:=u2 j x0 h1;refine⟨fun _=>q2,fun S i he =>?_⟩;cases x0<;>first|(cases he;done)|(cases Z;done)
 unfold KB at b;split at b
 ·rename_i z vz s' oz n;split at b<;>try (cases b;done)
  rename_i f;obtain⟨c1,rfl,rfl⟩:=f;have aa:∀ {k:Nat} {q:Row},EH h z=some q->q.v=vz->KK w blk z s' n (a.eval x):=by
   intro k q an ao;rcases hq.2 q an ao with⟨g',o',Y,N',t',k0,U,k2,k3,k4,k5⟩|⟨k0,U,A,k2⟩
   ·obtain⟨k6,k7⟩:=k2 (.inr rfl);rw[alZ]at k6;subst k6;exact .inl ⟨g',Y,N',t',k0,U,k7,k3,k4,k5⟩
   ·exact .inr ⟨k0,U,A,k2⟩
  have ab:∀ {B:KK w blk z s' n (a.eval x)},(a.eval x).cells = #[a.eval x]∧(a.eval x).oneCell'=true:=by
   intro B;rcases B with⟨g',Y,N',t',k0,U,_⟩|⟨k0,U,A,k2⟩
   ·rw[U];exact⟨rfl,rfl⟩
   ·rw[k2];exact⟨rfl,rfl⟩
  split at b
  ·rename_i aq;subst aq;split at b<;>try (cases b;done)
   rename_i ar;subst ar;rw[anJ]at b;unfold Pb at b;split at b<;>try (cases b;done)
   rename_i n0 xs hn;split at b<;>try (cases b;done)
   rename_i aB;simp only[alz]at b;subst b;have au:EH h (NK y c)=some ⟨vz,H,xs,r.fz,true,false⟩:=by rw[fU O Q R C,hn];rfl
   have hH:=aa (k:=0) au rfl;obtain⟨K,G⟩:=ab (B:=hH);have F:=(alT.1 hn).1;refine Hk hT W ho hτ O Q R hz C hg I (us:=[a.eval x]) (by rw[K]) (by simpa using c1.symm) X (fun u hu=>by simp_all) (mm F) (fun j S i l =>?_) (fun j l=>jH F (by omega)) (fun j d0 l D =>?_)
   ·by_cases ad:j=c
    ·subst ad;rw[ie F]at l;grind
    ·rw[jH F ad]at l;exact⟨S,i,i.length,l,by simp⟩
   ·obtain rfl:j=0:=by omega
    rw[alZ,ie F]at D;simp only[alz]at D;subst D;refine⟨fun hd=>(by cases hd),fun S i he =>?_⟩;simp_all
  ·split at b<;>try (cases b;done)
   rename_i av;split at b<;>try (cases b;done)
   rename_i q ae;split at b<;>try (cases b;done)
   rename_i aw;obtain⟨Z,q2,q3,q4⟩:=aw;obtain⟨ag,ax⟩:=cX ae;have ai:=jR ae;unfold EC at b;split at b<;>try (cases b;done)
   rename_i ay hb;simp only[alz]at b;subst b;have az:EH h z=some q:=by
    rw[wh (by omega),ag];simp only[Option.map_some,Gs,ai];rfl
   have hH:=aa (k:=0) az ax;obtain⟨K,G⟩:=ab (B:=hH);exact QP hT W ho hτ c1 O Q R hz C hg I (by omega) ag av Z q2 ai q3 K G hH (aj y r H s' nv cs ay O Q R C hb)
 ·exact J b
end
def adt:Option D->Bool
 | some (.sl true true 0 [])=>true
 | _=>false
def qq (φ:Ty) (f:Nat):List D:=putCells ((φ.zero.map rH).map canon) f [.nx 0 []]
def sM (T:Nat->Option Ty) (τ:Ty) (e d a s f:Nat) (l c:D):Option cH :=
 match τ.ds with
 | .slice el =>
  match T el,ur l,ur c with
  | some φ,some l,some c =>
   if l<=c∧c<=maxLen∧c*φ.bytes<=140737488355328∧0<φ.size∧(φ.zero.map rH).all gN=true∧φ.zero.length=φ.size∧d<PK∧adt ((φ.zero.map rH).drop f).head? = true then
    some ⟨.buf d e φ.size 0 l,[(d,some ⟨e,el,[.nr a s (4*e+2) (rf l (qq φ f))],false,true,true⟩)]⟩
   else none
  | _,_,_=>none
 | _=>none
def mkA (τ:Ty) (b e d a s f:Nat):Option cH :=
 if 0<τ.size∧(τ.zero.map rH).all gN=true∧τ.zero.length=τ.size∧d<PK∧adt ((τ.zero.map rH).drop f).head? = true then
  some ⟨.ptr d e 0,[(d,some ⟨e,b,[.nr a s (4*e+2) (qq τ f)],false,false,true⟩)]⟩
 else none
def jy (T:Nat->Option Ty) (Γ:Env) (e:Nat) (o:Oper) (g:Operand->D):Option cH :=
 match o.op with
 | .makeSlice b l c =>
  match o.dst with
  | some d =>
   match Γ.nst d with
   | some (a,s,f)=>match T b with|some τ=>sM T τ e d a s f (g l) (g c)|none=>none
   | none=>none
  | none=>none
 | .alloc b =>
  match o.dst with
  | some d =>
   match Γ.nst d with
   | some (a,s,f)=>match T b with|some τ=>mkA τ b e d a s f|none=>none
   | none=>none
  | none=>none
 | _=>none
section
variable {P:Program} {T:Nat->Option Ty} {N:Nat} {M:Nat->Prop} {L:lG} {w0:World} {blk:Nat->Option (Nat×Nat)} {V:Nat->Nat->Prop} {t:Nat->D} {h:Nat->Option Row} {a:Act} {w:World} {e:Nat} {o:Oper} {Γ:Env}
def Inv.addEmpty (l:Inv N M L w0 blk V t h a w) (S:Nat->Prop) (Z Q:Nat) (hS:∀k,S k->N<=k∧k≠0∧¬V k Q∧h k=none) {h':Nat->Option Row} {blk':Nat->Option (Nat×Nat)} (he:∀k,S k->h' k=some ⟨Q,Z,[],false,true,false⟩∧blk' k=none) (F:∀k,¬S k->h' k=h k∧blk' k=blk k)
  (R:∀y r g,h y=some r->r.mp=true->blk y=some g->∀j x s n:Nat,r.cells[j]? = some (D.ph x s n)->S x->∃u,w.cell? ⟨g.1,g.2+j,none⟩=some u∧n=0∧∃A,u=.slice A 0 0):Inv N M L w0 blk' V t h' a w:=by
 have q:∀x d,h' x=some d->(S x∧d=⟨Q,Z,[],false,true,false⟩∧blk' x=none)∨(¬S x∧h x=some d∧blk' x=blk x):=by
  grind
 have T:∀b,¬Own M h blk b->¬Own M h' blk' b:=by
  intro b G z;rcases z with z|⟨x,d,g,H,U,m,e⟩
  ·exact G (.inl z)
  ·rcases q x d H with⟨_,_,f⟩|⟨_,o,f⟩
   ·simp_all
   ·exact G (.inr ⟨x,d,g,o,U,f ▸ m,e⟩)
 have I:KI w w (Own M h blk) (Own M h' blk') h h' blk blk' V V:=⟨fun b C p=>⟨C,T b p,rfl⟩,fun _ _ h=>h,fun x v hv d C p=>by
  grind⟩
 exact {
  tab:=l.tab.keep fun b C p=>⟨C,T b p,rfl⟩
  below:=l.below
  mlt:=l.mlt
  cc:=l.cc
  pin:=fun go m=>⟨(l.pin go m).1,fun d hr hv=>by
   rcases q 0 d hr with⟨k1,_⟩|⟨_,o,f⟩
   ·grind
   ·rw[f];exact (l.pin go m).2 d o hv⟩
  defers:=l.defers
  tsz:=l.tsz
  slots:=fun i=>(l.slots i).mono I
  rows:=fun x d H=>by
   rcases q x d H with⟨k1,rfl,f⟩|⟨_,o,f⟩
   ·rw[f];exact⟨fun hn=>by grind,rfl⟩
   ·obtain⟨C,p⟩:=l.rows x d o;rw[f];refine⟨C,?_⟩;cases G:blk x with
    | none=>rw[G]at p;exact p
    | some g =>
     rw[G]at p;exact⟨p.1,p.2.keep rfl rfl rfl rfl fun b E B=>⟨E,T b B,rfl⟩⟩
  inj:=fun x y r s g g' H J m W e=>by
   rcases q x r H with⟨_,_,f⟩|⟨_,o,f⟩
   ·simp_all
   rcases q y s J with⟨_,_,O⟩|⟨_,B,O⟩
   ·simp_all
   exact l.inj x y r s g g' o B (f ▸ m) (O ▸ W) e
  big:=l.big
  pha:=fun y d g J hm m j x s n hc=>by
   rcases q y d J with⟨_,rfl,f⟩|⟨_,o,f⟩
   ·simp_all
   rw[f]at m;obtain⟨h0,u,E,B⟩:=l.pha y d g o hm m j x s n hc;refine⟨h0,u,E,?_⟩
   by_cases P:S x
   ·obtain⟨u',p1,p2,p3⟩:=R y d g o hm m j x s n hc P;rw[E]at p1;cases p1;exact fun K _ =>.inr ⟨(he x P).2,p2,p3⟩
   ·exact fun K O=>by
     rw[(F x P).2];exact B K ((F x P).1 ▸ O)
  ali:=fun y d g J U X m j c d' hj Y=>by
   rcases q y d J with⟨_,rfl,f⟩|⟨_,o,f⟩
   ·simp_all
   rw[f]at m;obtain⟨u,E,B⟩:=l.ali y d g o U X m j c d' hj Y;exact⟨u,E,B.mono I⟩ }
def Cz (d:Nat) (c:d<PK):Gj (EH h) (EH (cq h d none)):=by
 intro k e a
 by_cases b:rt k=d
 ·rcases sO b with rfl|⟨o,rfl⟩
  ·rw[wh (by omega),ay]at a;cases a
  ·rw[wg c,ay]at a;cases a
 ·exact⟨e,by rw[<- a];exact fp (aD _ _ b).symm,.refl _⟩
def XY {v:Value} (h:rH v=.sl true true 0 []):v=.slice none 0 0:=by
 unfold rH at h;grind
open Classical in
def acd (hT:ke P T) (hI:Inv N M L w0 blk V t (EH h) a w) {ty d Y s f:Nat} {l c:Operand} {τ:Ty} {E:cH} (ho:o.op=.makeSlice ty l c) (hd:o.dst=some d) (hV:kZ N V d e) (aB:∀o,¬V (NK d o) (4*e+2)) (hτ:T ty=some τ)
  (K:sM T τ e d Y s f (ev t l) (ev t c)=some E):fm P o a w (lD N M L w0 V t h a e o.dst E):=by
 have an:=hI.ev l;have ao:=hI.ev c;have aA:=hI.big;have aC:=gh;obtain⟨dd,C,hc⟩:=under hT hτ;unfold sM at K;split at K<;>try (cases K;done)
 rename_i el aq;rw[aq]at hc;have:=iA hc;subst this;split at K<;>try (cases K;done)
 rename_i φ n k hφ hn I;split at K<;>try (cases K;done)
 rename_i Z;obtain⟨c1,c2,c3,c4,c5,c6,q,c8⟩:=Z;simp only[alz]at K;subst K;obtain⟨q1,hl⟩:=Ak hn an;obtain⟨q2,ar⟩:=Ak I ao;obtain⟨d',i,z,g1,g2,g3,g4,g5,g6,g7⟩:=(hT el φ hφ).get;have hb:(i.bytes:Int)*(k:Int)<=281474976710656:=by
  grind
 have ag:(k:Int)<=9223372036854775807:=by
  simp only[maxLen]at c2;omega
 have F:=run_make (P:=P) w ty el i z C g3 g6 q1 q2 n k (by omega) (by omega) hb ag;simp only[Int.toNat_natCast]at F;have aE:(φ.zero.map rH).length=φ.size:=by simp_all
 have hf:f<φ.size:=by
  rw[anJ]at c8;rcases al7 f φ.size with aa|aF
  ·exact aa
  ·rw[anL (by omega)]at c8;cases c8
 have ai:(φ.zero.map rH)[f]? = some (.sl true true 0 []):=by
  rw[anJ]at c8;unfold adt at c8;grind
 have aj:(qq φ f).length=φ.size:=by
  unfold qq;rw[mm (by simp;omega)];simp[c6]
 have U:∀(m:Nat) (x:D),(qq φ f)[m]? = some x->(m=f∧x=.nx 0 [])∨(m≠f∧∃y,(φ.zero.map rH)[m]? = some y∧x=canon y):=by
  intro m x hm;unfold qq at hm
  by_cases ak:m=f
  ·subst ak;rw[ie (by simp;omega)]at hm;simp_all
  ·rw[jH (by simp;omega) ak,aln,alo]at hm;grind
 generalize al:madeCells z.cells (k*i.size)=vs at F;have au:vs.size=k*φ.size:=by rw[<- al];simp[madeCells,g4]
 have W:∀j,j<k*φ.size->vs.getD j undef=φ.zero.toArray.getD (j % φ.size) undef:=by
  intro j p;rw[<- al,g7,g4,<- c6];have:=zS φ.zero k j (by rw[c6];exact p);simpa [madeCells,List.getD] using this
 have ab:∀(j:Nat) (x:D),(rf n (qq φ f))[j]? = some x->j<n*φ.size∧(qq φ f)[j % φ.size]? = some x:=by
  intro j x p;have:=Gp _ _ _ _ p
  rwa [aj]at this
 have aG:n*φ.size<=k*φ.size:=al8 _ c1;have X:∀(M':Nat->Prop) (w':World) (j:Nat) (x:D),(rf n (qq φ f))[j]? = some x->gN x=true->RP w' M' x (vs.getD j undef):=by
  intro M' w' j x p av;obtain⟨r1,r2⟩:=ab j x p;rw[W j (by omega)];rcases U _ x r2 with⟨_,rfl⟩|⟨_,y,h1,rfl⟩
  ·cases av
  ·exact (uM (w:=w') (M:=M') φ.zero (alB.2 fun y hy=>(gF (alB.1 c5 y hy)).1) _ y h1).2.canon
 have G:∀(j:Nat) (n':Nat) (H:List D),(rf n (qq φ f))[j]? = some (.nx n' H)->n'=0∧H=[]∧vs.getD j undef=.slice none 0 0:=by
  intro j n' H p;obtain⟨r1,r2⟩:=ab j _ p;rcases U _ _ r2 with⟨hm,O⟩|⟨_,y,h1,O⟩
  ·simp only[D.nx.injEq]at O;refine⟨O.1,O.2,?_⟩;rw[W j (by omega),hm];rw[aln,alo]at ai;obtain⟨v,v1,v2⟩:=ai;simp only[alv,List.getElem?_toArray,v1,Option.getD_some];exact XY v2
  ·have:=alB.1 c5 y (alR h1);cases y<;>first|(cases O;done)|(cases this;done)
 generalize aw:rf n (qq φ f)=cs at ab X G;have aH:cs.length=n*φ.size:=by rw[<- aw,ve,aj]
 have hA:=hI.le (Cz (h:=h) d q);have hold:∀b,b<w.heap.size->(w.alloc (.cells vs el)).heap[b]? = w.heap[b]?:=fun b hb=>Below.heap_alloc w _ b hb;have Q:=(Below.refl w.heap.size w).alloc (alq _) (.cells vs el);have B:=heap_alloc_new w (.cells vs el);have ad:∀o,EH (cq h d none) (NK d o)=none:=fun o=>by rw[wg q,ay];rfl
 have ae:∀o,NK d o≠d:=fun o=>by have:=jv d o;omega
 have hB:=hA.GP (w':=w.alloc (.cells vs el)) (h1:=EH (cq h d none)) (old:=none) (d:=d) (e:=e) (r0:=⟨e,el,cs.mapIdx (wO d s),false,true,true⟩) (go:=some (w.heap.size,0)) Q.os Q.tape Q.output Q.size (fun k I _=>hold k I) (fun y hy=>by cases hy) rfl hV
  ⟨.inl (alq _),.inr ⟨fun x hx=>by
   obtain⟨j,p⟩:=alL hx;simp only[anK,alo]at p;obtain⟨d0,A,rfl⟩:=p;exact oA _ _ _ _,vs,B,by grind,fun j x p=>by
   simp only[anK,alo]at p;obtain⟨d0,A,rfl⟩:=p;rw[amr]
   by_cases C:gN d0=true
   ·rw[mo C];exact (gF C).2.2.2 (X _ _ j d0 A C)
   ·cases d0<;>first|trivial|exact absurd rfl C⟩⟩ rfl rfl (fun _ g hg j x s' n' p=>by
   cases hg;simp only[anK,alo]at p;obtain⟨d0,A,O⟩:=p;obtain⟨H,rfl,rfl,rfl⟩:=uK O;have aa:=(alT.1 A).1;refine⟨⟨q,.inr rfl⟩,_,bm B (by omega),fun r hr =>?_⟩;rw[aD _ _ (ae j),ad]at hr;cases hr)
 obtain⟨S,hS⟩:∃S:Nat->Prop,∀k,S k↔∃o H,k=NK d o∧cs[o]? = some (.nx 0 H):=⟨_,fun _=>Iff.rfl⟩;have hC:=hB.addEmpty S Y (4*e+2) (h':=EH (cq h d (some ⟨e,el,[.nr Y s (4*e+2) cs],false,true,true⟩))) (blk':=fun k=>if S k then none else cq blk d (some (w.heap.size,0)) k) (fun k I=>by
   obtain⟨J,H,rfl,R⟩:=(hS k).1 I;have:=jv d J;refine⟨by omega,by omega,?_,by rw[aD _ _ (ae J),ad]⟩;grind) (fun k I=>by
   refine⟨?_,by rw[if_pos I]⟩;obtain⟨J,H,rfl,R⟩:=(hS k).1 I;rw[fU (ay _ _ _) rfl rfl q,R];obtain⟨_,rfl,_⟩:=G J 0 H R;rfl) (fun k I=>by
   refine⟨?_,by rw[if_neg I]⟩
   by_cases hkd:rt k=d
   ·rcases sO hkd with rfl|⟨J,rfl⟩
    ·rw[ay,il (ay _ _ _) rfl rfl q]
    ·rw[aD _ _ (ae J),ad,fU (ay _ _ _) rfl rfl q];cases aI:cs[J]? with
     | none=>rfl
     | some d0 =>
      cases d0 with
      | nx n' H =>
       grind
      | _=>rfl
   ·rw[aD _ _ (fun e=>hkd (by rw[e,jU (by omega)]))];exact fp (by rw[aD _ _ hkd,aD _ _ hkd])) (fun y r g hy hm hg j x s' n' p hs=>by
   obtain⟨J,H,rfl,R⟩:=(hS _).1 hs;obtain⟨⟨p1,p2⟩,u,p3,_⟩:=hB.pha y r g hy hm hg j _ s' n' p;rcases p2 with p2|p2
   ·have:=jv d J;omega
   obtain⟨rfl,rfl⟩:=w8 q p1 p2;rw[ay]at hy hg;cases hy;cases hg;simp only[anK,alo]at p;obtain⟨d0,A,O⟩:=p;obtain⟨ax,rfl,_,rfl⟩:=uK O;obtain⟨k1,_,k3⟩:=G J n' ax A;have aa:=(alT.1 A).1;refine⟨_,bm B (by omega),k1,none,?_⟩;grind)
 have az:¬S d:=fun hs=>by
  grind
 refine aP (v := .slice (some ⟨w.heap.size,0,none⟩) n k) (w':=w.alloc (.cells vs el)) ?_ ⟨fun k=>if S k then none else cq blk d (some (w.heap.size,0)) k,?_,?_⟩
 ·simp[execOp,ho,hl,ar,F]
 ·refine hC.weaken fun x v hx =>?_;grind
 ·exact w9 (g:=(w.heap.size,0)) (.inr ⟨hd,rfl⟩) (by rw[if_neg az,ay]) B c1 c2 (by rw[au];simp)
end
section
variable {P:Program} {T:Nat->Option Ty} {N:Nat} {M:Nat->Prop} {L:lG} {w0:World} {blk:Nat->Option (Nat×Nat)} {V:Nat->Nat->Prop} {t:Nat->D} {h:Nat->Option Row} {a:Act} {w:World} {e:Nat} {o:Oper} {Γ:Env}
def Inv.ag0 (l:Inv N M L w0 blk V t h a w) (S:Nat->Prop) {w':World} {h':Nat->Option Row} {blk':Nat->Option (Nat×Nat)} {V':Nat->Nat->Prop} (hVV:∀x v,V x v->V' x v)
  (ab:w'.os=w.os) (P:w'.tape=w.tape) (X:w'.output=w.output) (Q:w.heap.size<=w'.heap.size)
  (hblock:∀k,k<w.heap.size->(∀x r g,S x->h x=some r->blk x=some g->k≠g.1)->w'.heap[k]? = w.heap[k]?)
  (ad:∀x r,S x->h x=some r->r.fz=false)
  (o:∀x,¬S x->h' x=h x∧blk' x=blk x)
  (ae:∀x r,S x->h' x=some r->r.fz=false∧(x<N->V' x r.v)∧(match blk' x with
   | some g=>(w.heap.size<=g.1∨∃y s E,S y∧h y=some s∧blk y=some E∧g.1=E.1)∧fh w' (Own M h' blk') g r
   | none=>r.cells=[]))
  (an:∀x y r s g H,S x->S y->h' x=some r->h' y=some s->blk' x=some g->blk' y=some H->g.1=H.1->x=y)
  (ag:∀x r,S x->V x r.v->h' x=some r->(∃r0,h x=some r0∧r0.v=r.v)∧blk' x=blk x∧∀g,blk x=some g->w'.shape? g.1=w.shape? g.1)
  (ao:∀y r g,S y->h' y=some r->r.mp=true->blk' y=some g->∀j x s n:Nat,r.cells[j]? = some (D.ph x s n)->Um y j x∧∃u,w'.cell? ⟨g.1,g.2+j,none⟩=some u∧PhR w' h' blk' x s n u)
  (ai:∀y r (j x s n:Nat),¬S y->h y=some r->r.mp=true->r.cells[j]? = some (D.ph x s n)->¬S x) :
  Inv N M L w0 blk' V' t h' a w':=by
 have hother:∀x r g,¬S x->h x=some r->blk x=some g->w'.heap[g.1]? = w.heap[g.1]?:=fun x r g hs f d=>hblock _ (l.lt f d) (fun y r' H A aj m e=>hs (by rw[l.inj x y r r' g H f aj d m e];exact A));have R:∀b,b<w.heap.size->¬Own M h blk b->w'.heap[b]? = w.heap[b]?:=fun b hb hn=>hblock b hb fun x r g hs f d I=>hn (.inr ⟨x,r,g,f,ad x r hs f,d,I.symm⟩);have G:∀x r g,h' x=some r->blk' x=some g->w.heap.size<=g.1∨∃y s E,h y=some s∧blk y=some E∧g.1=E.1∧(S y↔S x)∧(s.fz=false∨s=r)∧(S x∨y=x):=by
  intro x r g f d
  by_cases hs:S x
  ·grind
  grind
 have Y:∀b,b<w.heap.size->¬Own M h blk b->¬Own M h' blk' b:=by
  intro b hb hn T;rcases T with T|⟨x,r,g,f,hz,d,I⟩
  ·exact hn (.inl T)
  ·rcases G x r g f d with k|⟨y,s,E,C,B,F,_,W,_⟩
   ·omega
   ·exact hn (.inr ⟨y,s,E,C,W.elim id (fun e=>by rw[e];exact hz),B,by rw[<- F,I]⟩)
 have hk:∀b,b<w.heap.size->¬Own M h blk b->b<w'.heap.size∧¬Own M h' blk' b∧w'.heap[b]? = w.heap[b]?:=fun b h1 h2=>⟨by omega,Y b h1 h2,R b h1 h2⟩;have Z:∀x v,V x v->∀r',h' x=some r'->r'.v=v->(∃r,h x=some r∧r.v=v)∧blk' x=blk x∧∀g,blk x=some g->w'.shape? g.1=w.shape? g.1:=by
  intro x v hv r' f hr
  by_cases hs:S x
  ·grind
  ·obtain⟨C,B⟩:=o x hs;rw[C]at f;exact⟨⟨r',f,hr⟩,B,fun g d=>du (hother x r' g hs f d)⟩
 have aa:KI w w' (Own M h blk) (Own M h' blk') h h' blk blk' V V':=⟨hk,hVV,Z⟩;exact {
  tab:=l.tab.keep hk
  below:=l.below.trans (L':=fun k=>∃x r g,S x∧h x=some r∧blk x=some g∧k=g.1) ⟨ab,P,X,Q,fun k ak hn=>hblock k ak (fun x r g hs f d I=>hn ⟨x,r,g,hs,f,d,I⟩)⟩ (fun k ⟨x,r,g,hs,f,d,I⟩ aq=>by
   rcases l.base f d with hb|hb
   ·omega
   grind)
  mlt:=l.mlt
  cc:=l.cc
  pin:=fun p hp=>⟨hVV _ _ (l.pin p hp).1,fun r hr hv=>by
   obtain⟨⟨r0,C,B⟩,F,W⟩:=Z 0 0 (l.pin p hp).1 r hr hv;obtain⟨O,J⟩:=(l.pin p hp).2 r0 C B;grind⟩
  defers:=l.defers
  tsz:=l.tsz
  slots:=fun i=>(l.slots i).mono aa
  rows:=fun x r f=>by
   by_cases hs:S x
   ·obtain⟨C,B,F⟩:=ae x r hs f;refine⟨B,?_⟩;cases d:blk' x with
    | none=>rw[d]at F;exact F
    | some g =>
     rw[d]at F;refine⟨?_,F.2⟩;rcases F.1 with q|⟨y,s,E,_,J,q3,q4⟩
     ·exact .inl (als l.below.size q)
     ·rw[q4];exact l.base J q3
   ·obtain⟨C,B⟩:=o x hs;rw[C]at f;rw[B];exact⟨fun hn=>hVV _ _ ((l.rows x r f).1 hn),(l.rows x r f).2.keep (fun g d=>hother x r g hs f d) hk⟩
  inj:=fun x y r s g H f A d m I=>by
   by_cases K:S x
   ·by_cases U:S y
    ·grind
    ·exfalso;obtain⟨C,B⟩:=o y U;rw[C]at A;rw[B]at m;rcases G x r g f d with k|⟨z,s0,E,O,J,q3,q4,_⟩
     ·have:=l.lt A m;omega
     ·have:=l.inj z y s0 s E H O A J m (q3.symm.trans I);grind
   ·obtain⟨C,B⟩:=o x K;rw[C]at f;rw[B]at d
    by_cases U:S y
    ·exfalso;rcases G y s H A m with k|⟨z,s0,E,O,J,q3,q4,_⟩
     ·have:=l.lt f d;omega
     ·have:=l.inj z x s0 r E g O f J d (q3.symm.trans I.symm);grind
    ·obtain⟨F,W⟩:=o y U;rw[F]at A;rw[W]at m;exact l.inj x y r s g H f A d m I
  big:=l.big
  pha:=fun y r g A hm d j x s n hc=>by
   by_cases hs:S y
   ·grind
   ·obtain⟨C,B⟩:=o y hs;rw[C]at A;rw[B]at d;obtain⟨h0,u,O,J⟩:=l.pha y r g A hm d j x s n hc;have K:=ai y r j x s n hs A hm hc;obtain⟨F,W⟩:=o x K;exact⟨h0,u,(alk (a:=⟨g.1,g.2+j,none⟩) (hother y r g hs A d)).trans O,J.mono fun r' g1=>by
     rw[F]at g1;exact⟨⟨r',g1⟩,W,fun H m=>du (hother x r' H K g1 m)⟩⟩
  ali:=fun y r g A hz hl d j c d' hj al=>by
   by_cases hs:S y
   ·grind
   ·obtain⟨C,B⟩:=o y hs;rw[C]at A;rw[B]at d;obtain⟨u,O,J⟩:=l.ali y r g A hz hl d j c d' hj al;exact⟨u,(alk (a:=⟨g.1,g.2+j,none⟩) (hother y r g hs A d)).trans O,J.mono aa⟩ }
def Wh {h:Nat->Option Row} {k:Nat} (a:h (rt k)=none):EH h k=none:=by
 have:=fp (h:=h) (h':=fun _=>none) (k:=k) a;rw[this];unfold EH;split<;>rfl
def fM {h:Nat->Option Row} {x k:Nat} {r a:Row} {d s e:Nat} {b:List D} (f:h x=some r) (g:r.mp=true) (i:r.cells=[.nr d s e b]) (j:x<PK) (m:rt k=x) (c:EH h k=some a) :
  (k=x∧a=⟨r.v,r.ty,b.mapIdx (wO x s),r.fz,r.lst,true⟩)∨∃o n l,k=NK x o∧b[o]? = some (.nx n l)∧a=⟨e,d,l,r.fz,true,false⟩:=by
 rcases sO m with rfl|⟨o,rfl⟩
 ·rw[il f g i j]at c;simp_all
 ·rw[fU f g i j]at c;unfold IB at c;grind
def Dd {x:Nat} (a:x<PK):rt x=x:=jU (by omega)
def afK {r c:Row} {k:Nat} (a:EH (pz r) k=some c):rt k=0:=by
 by_cases b:rt k=0
 ·exact b
 ·rw[Wh (by unfold pz;rw[if_neg b])]at a;cases a
def qG:0<PK:=by rw[gh];decide
def kW {k b t s c:Nat} {a:List D} {d:Row} (e:EH (pz (jS b t s c a)) k=some d) :
  (k=0∧d=⟨0,b,a.mapIdx (wO 0 s),false,true,true⟩)∨∃o n f,k=NK 0 o∧a[o]? = some (.nx n f)∧d=⟨c,t,f,false,true,false⟩ :=
 fM (r:=jS b t s c a) rfl rfl rfl qG (afK e) e
def zG {a t s c:Nat} {b:List D} : EH (pz (jS a t s c b)) 0=some ⟨0,a,b.mapIdx (wO 0 s),false,true,true⟩ :=
 il (r:=jS a t s c b) rfl rfl rfl qG
def xH {c t s a o n:Nat} {b d:List D} (e:b[o]? = some (.nx n d)):EH (pz (jS c t s a b)) (NK 0 o)=some ⟨a,t,d,false,true,false⟩:=by
 rw[fU (r:=jS c t s a b) rfl rfl rfl qG,e];rfl
def Z1 (x k:Nat):Nat:=@ite _ (k<2*PK) (ltB k (2*PK)) x (NK x (k / PK-2))
def vY (x:Nat):Z1 x 0=x:=if_pos (by have:=gh;omega)
def tq (x o:Nat):Z1 x (NK 0 o)=NK x o:=by
 unfold Z1;rw[if_neg (by have:=jv 0 o;omega),GH o qG]
def uP (blk:Nat->Option (Nat×Nat)) (x k:Nat):Option (Nat×Nat):=blk (Z1 x k)
def InX (blk:Nat->Option (Nat×Nat)) (h:Nat->Option Row) (x b:Nat):Prop:=∃k r g,rt k=x∧EH h k=some r∧blk k=some g∧g.1=b
def NI {h:Nat->Option Row} {x:Nat} {r:Row} {m s q:Nat} {p:List D} (e:h x=some r) (f:r.mp=true) (i:r.cells=[.nr m s q p]) (c:x<PK) (b:Nat):zX (uP blk x) (EH (pz (jS r.ty m s 0 p))) b↔InX blk h x b:=by
 constructor
 ·rintro⟨k,t,g,j,a,d⟩;rcases kW j with⟨rfl,_⟩|⟨o,n,u,rfl,l,_⟩
  ·rw[uP,vY]at a;exact⟨x,_,g,Dd c,il e f i c,a,d⟩
  ·rw[uP,tq]at a;exact⟨NK x o,_,g,ye c,by rw[fU e f i c,l];rfl,a,d⟩
 ·rintro⟨k,t,g,v,j,a,d⟩;rcases fM e f i c v j with⟨rfl,_⟩|⟨o,n,u,rfl,l,_⟩
  ·exact⟨0,_,g,zG,by rw[uP,vY];exact a,d⟩
  ·exact⟨NK 0 o,_,g,xH l,by rw[uP,tq];exact a,d⟩
def Inv.ahz (E:Inv N M L w0 blk V t (EH h) a w) {x:Nat} {r:Row} {G s W:Nat} {H:List D} (z:h x=some r) (A:r.mp=true) (B:r.cells=[.nr G s W H]) (hz:r.fz=false) (m:x<PK) {Q:Nat->Prop} (X:∀b,Q b->Own M (EH h) blk b) :
  KL w Q (uP blk x) (EH (pz (jS r.ty G s 0 H))) where
 rows k r' p:=by
  rcases kW p with⟨rfl,rfl⟩|⟨o,n,I,rfl,F,rfl⟩
  ·rw[uP,vY];cases c:blk x with
   | none =>
    have:=(E.rows x _ (il z A B m)).2;rw[c]at this;have h1:H.mapIdx (wO x s)=[]:=this;simp_all
   | some g =>
    obtain⟨q,v,y,C⟩:=E.FA z A B m c;refine .inr ⟨fun d hd =>?_,q,v,by simpa using y,fun j d e =>?_⟩
    ·obtain⟨j,e⟩:=alL hd;simp only[anK,alo]at e;obtain⟨d0,f,rfl⟩:=e;exact oA _ _ _ _
    ·simp only[anK,alo]at e;obtain⟨d0,f,rfl⟩:=e
     by_cases i:gN d0=true
     ·rw[mo i];exact (gF i).2.2.2 ((C j d0 f i).less X)
     ·cases d0<;>first|trivial|exact absurd rfl i
  ·rw[uP,tq];have hq:EH h (NK x o)=some ⟨W,G,I,r.fz,true,false⟩:=by rw[fU z A B m,F];rfl
   have:=(E.rows _ _ hq).2;cases c:blk (NK x o) with
   | none=>rw[c]at this;exact this
   | some g =>
    rw[c]at this;obtain⟨q,v,y,C⟩:=this.2;exact⟨q,v,y,fun j d e=>⟨(C j d e).1,(C j d e).2.less X⟩⟩
 inj k l K Y g g' p O c P R:=by
  have key:∀ {k:Nat} {K:Row} {g:Nat×Nat},EH (pz (jS r.ty G s 0 H)) k=some K->uP blk x k=some g->∃Y,EH h (Z1 x k)=some Y∧blk (Z1 x k)=some g:=by
   intro k K g p c;rcases kW p with⟨rfl,_⟩|⟨o,n,I,rfl,F,_⟩
   ·exact⟨_,by rw[vY];exact il z A B m,c⟩
   ·exact⟨_,by rw[tq,fU z A B m,F];rfl,c⟩
  obtain⟨q1,v,y⟩:=key p c;obtain⟨q2,C,k4⟩:=key O P;have J:=E.inj _ _ _ _ _ _ v C y k4 R;rcases kW p with⟨rfl,_⟩|⟨o,n,I,rfl,F,_⟩
  ·rcases kW O with⟨rfl,_⟩|⟨Z,n',S,rfl,T,_⟩
   ·rfl
   ·rw[vY,tq]at J;have:=jv x Z;omega
  ·rcases kW O with⟨rfl,_⟩|⟨Z,n',S,rfl,T,_⟩
   ·rw[vY,tq]at J;have:=jv x o;omega
   ·rw[tq,tq]at J;rw[(w8 m m J).2]
 pha k r' g p U c j x' s' n e:=by
  rcases kW p with⟨rfl,rfl⟩|⟨o,n,I,rfl,F,rfl⟩;rotate_left
  ·cases U
  rw[uP,vY]at c;simp only[anK,alo]at e;obtain⟨d0,f,R⟩:=e;obtain⟨aa,rfl,rfl,rfl⟩:=uK R;obtain⟨u,v,y⟩:=E.IE z A B m c f;refine⟨⟨qG,.inr rfl⟩,u,v,fun _ _ =>?_⟩;unfold uP;rw[tq];exact y
def J0 (x k:Nat):Nat:=if k=x then 0 else NK 0 (k / PK-2)
def yG (x:Nat):J0 x x=0:=if_pos rfl
def og {x:Nat} (a:x<PK) (o:Nat):J0 x (NK x o)=NK 0 o:=by
 unfold J0;rw[if_neg (by have:=jv x o;omega),GH o a]
def sD (blk a:Nat->Option (Nat×Nat)) (x k:Nat):Option (Nat×Nat):=if rt k=x then a (J0 x k) else blk k
def Inv.back (Y:Inv N M L w0 blk V t (EH h) a w) {x:Nat} {r:Row} {P s nv G:Nat} {cs f:List D} {R:Nat×Nat} (hx:h x=some r) (hm:r.mp=true) (hc:r.cells=[.nr P s nv cs]) (hz:r.fz=false) (m:x<PK)
  (hV:∀o,¬V (NK x o) G) (ao:blk x=some R) {Z:World} {c:Nat->Option (Nat×Nat)} {M':Nat->Prop} {h1:Nat->Option Row} (aq:h1=EH (pz (jS r.ty P s 0 f))) (ae:∀b,M' b↔Own M (EH h) blk b∧¬InX blk h x b)
  (hb:eV (InX blk h x) w Z) (h0:c 0=some R) (aB:Z.shape? R.1=w.shape? R.1) (ag:∀b,zX c h1 b->w.heap.size<=b∨InX blk h x b) (hR:KL Z (fun b=>M' b∨zX c h1 b) c h1) :
  Inv N M L w0 (sD blk c x) V t (EH (cq h x (some ⟨r.v,r.ty,[.nr P s G f],false,r.lst,true⟩))) a Z∧∀b,Own M (EH (cq h x (some ⟨r.v,r.ty,[.nr P s G f],false,r.lst,true⟩))) (sD blk c x) b->M' b∨zX c h1 b:=by
 generalize ai:cq h x (some (⟨r.v,r.ty,[.nr P s G f],false,r.lst,true⟩:Row))=h2;have v:h2 x=some ⟨r.v,r.ty,[.nr P s G f],false,r.lst,true⟩:=by rw[<- ai,ay]
 have W:∀k,rt k≠x->EH h2 k=EH h k:=fun k e=>fp (by rw[<- ai,aD _ _ e]);have X:∀k,rt k≠x->sD blk c x k=blk k:=fun k e=>if_neg e;have S:sD blk c x x=c 0:=by unfold sD;rw[if_pos (Dd m),yG]
 have aj:∀o,sD blk c x (NK x o)=c (NK 0 o):=fun o=>by unfold sD;rw[if_pos (ye m),og m]
 subst aq;have A:∀k r',rt k=x->EH h2 k=some r'->∃E,EH (pz (jS r.ty P s 0 f)) (J0 x k)=some E∧sD blk c x k=c (J0 x k):=by
  intro k r' e i;have hq:sD blk c x k=c (J0 x k):=if_pos e;rcases fM v rfl rfl m e i with⟨rfl,_⟩|⟨o,n,xs,rfl,ho,_⟩
  ·rw[yG]at hq ⊢;exact⟨_,zG,hq⟩
  ·rw[og m]at hq ⊢;exact⟨_,xH ho,hq⟩
 have H:∀b,Own M (EH h2) (sD blk c x) b->M' b∨zX c (EH (pz (jS r.ty P s 0 f))) b:=by
  intro b T;rcases T with T|⟨k,r',g,e,ar,z,i⟩
  ·refine .inl ((ae b).2 ⟨.inl T,?_⟩);rintro⟨k,r',g,_,F,U,q3⟩;exact Y.notM F U (by rw[q3];exact T)
  ·by_cases aa:rt k=x
   ·obtain⟨E,F,U⟩:=A k r' aa e;exact .inr ⟨_,E,g,F,by simp_all,i⟩
   ·rw[W k aa]at e;rw[X k aa]at z;refine .inl ((ae b).2 ⟨.inr ⟨k,r',g,e,ar,z,i⟩,?_⟩);rintro⟨l,s',g',q0,F,U,q3⟩;have:=Y.inj k l r' s' g g' e F z U (i.trans q3.symm);simp_all
 refine⟨?_,H⟩;have ak:∀k r',rt k=x->EH h k=some r'->r'.fz=false:=by
  intro k r' e i;rcases fM hx hm hc m e i with⟨_,rfl⟩|⟨o,n,xs,_,_,rfl⟩<;>exact hz
 refine Y.ag0 (fun k=>rt k=x) (fun _ _ h=>h) hb.os hb.tape hb.output hb.size (fun k e hn=>hb.block k e ?_) ak (fun k e=>⟨W k e,X k e⟩) ?_ ?_ ?_ ?_ ?_
 ·rintro⟨l,r',g,q0,F,U,q3⟩;grind
 ·intro k r' e i;have B:∀g,sD blk c x k=some g->w.heap.size<=g.1∨∃y s R,rt y=x∧EH h y=some s∧blk y=some R∧g.1=R.1:=by
   intro g z;obtain⟨E,F,U⟩:=A k r' e i;rcases ag g.1 ⟨_,E,g,F,by simp_all,rfl⟩ with q|⟨y,s',g',p0,p1,p2,p3⟩
   ·exact .inl q
   grind
  have al:∀ {g:Nat×Nat} {E:Row},E.mp=false->fh Z (fun b=>M' b∨zX c (EH (pz (jS r.ty P s 0 f))) b) g E->fh Z (Own M (EH h2) (sD blk c x)) g E:=by
   intro g E au hr;unfold fh at hr ⊢;rw[au]at hr ⊢;obtain⟨I,Q,k2,k3⟩:=hr;exact⟨I,Q,k2,fun j d C=>⟨(k3 j d C).1,(k3 j d C).2.less H⟩⟩
  rcases fM v rfl rfl m e i with⟨rfl,rfl⟩|⟨o,n,xs,rfl,ho,rfl⟩
  ·refine⟨rfl,fun hn=>by have:=(Y.rows k _ (il hx hm hc m)).1 hn;exact this,?_⟩;rw[S,h0];refine⟨B R (S.trans h0),?_⟩;have p:=hR.rows 0 _ zG;rw[h0]at p;have p:fh Z (fun b=>M' b∨zX c (EH (pz (jS r.ty P s 0 f))) b) R ⟨0,r.ty,f.mapIdx (wO 0 s),false,true,true⟩:=p;unfold fh at p ⊢;simp only at p ⊢;rcases p with⟨ks,vs,Q,_⟩|⟨_,I,k2,k3,k4⟩
   ·exfalso;simp only at Q;have hl:f.length=1:=by
     have:=congrArg List.length Q;simpa using this
    match f,hl with
    | [d],_ =>
     simp only[List.mapIdx_cons,List.mapIdx_nil,alO,and_true]at Q;have:=oA 0 s 0 d;rw[Q]at this;cases this
   ·refine .inr ⟨fun d hd =>?_,I,k2,by simpa using k3,fun j d C =>?_⟩
    ·obtain⟨j,C⟩:=alL hd;simp only[anK,alo]at C;obtain⟨d0,J,rfl⟩:=C;exact oA _ _ _ _
    ·simp only[anK,alo]at C;obtain⟨d0,J,rfl⟩:=C
     by_cases K:gN d0=true
     ·rw[mo K];have av:(f.mapIdx (wO 0 s))[j]? = some d0:=by rw[anK,J];exact congrArg some (mo K)
      exact (gF K).2.2.2 (((gF K).2.2.1 (k4 j _ av)).less H)
     ·cases d0<;>first|trivial|exact absurd rfl K
  ·refine⟨rfl,fun hn=>by have:=jv x o;have:=Y.big;omega,?_⟩;have p:=hR.rows _ _ (xH ho);rw[aj];cases z:c (NK 0 o) with
   | none=>simp_all
   | some g =>
    rw[z]at p;refine⟨B g ((aj o).trans z),al rfl ?_⟩;obtain⟨I,Q,k2,k3⟩:=p;exact⟨I,Q,k2,k3⟩
 ·intro k l E r2 g g' e hl i ab z aC aw;obtain⟨F,p1,p2⟩:=A k E e i;obtain⟨U,p3,p4⟩:=A l r2 hl ab;have e1:=hR.inj _ _ _ _ g g' p1 p3 (by simp_all) (by simp_all) aw;rcases fM v rfl rfl m e i with⟨rfl,_⟩|⟨o,n,xs,rfl,ho,_⟩
  ·rcases fM v rfl rfl m hl ab with⟨rfl,_⟩|⟨o',n',ax,rfl,az,_⟩
   ·rfl
   ·rw[yG,og m]at e1;have:=jv 0 o';omega
  ·rcases fM v rfl rfl m hl ab with⟨rfl,_⟩|⟨o',n',ax,rfl,az,_⟩
   ·rw[yG,og m]at e1;have:=jv 0 o;omega
   ·rw[og m,og m]at e1;rw[(w8 qG qG e1).2]
 ·intro k r' e hv i;rcases fM v rfl rfl m e i with⟨rfl,rfl⟩|⟨o,n,xs,rfl,ho,rfl⟩
  ·refine⟨⟨_,il hx hm hc m,rfl⟩,by rw[S,h0,ao],fun g z =>?_⟩;simp_all
  simp_all
 ·intro k r' g e i ad z j x' s' n C;rcases fM v rfl rfl m e i with⟨rfl,rfl⟩|⟨o,n',xs,rfl,ho,rfl⟩;rotate_left
  ·cases ad
  simp only[anK,alo]at C;obtain⟨d0,J,aA⟩:=C;obtain⟨aE,rfl,rfl,rfl⟩:=uK aA;rw[S]at z;obtain⟨_,u,Q,k2⟩:=hR.pha 0 _ g zG rfl z j (NK 0 j) s' n (by simp only[anK,J,Option.map_some,wO]);refine⟨⟨m,.inr rfl⟩,u,Q,fun _ _ =>?_⟩;have:=k2 _ (xH J);simp_all
 ·intro y r' j x' s' n hy i ad C an;have O:=(Y.rows y r' i).2;cases z:blk y with
  | none =>
   rw[z]at O;have O:r'.cells=[]:=O;simp_all
  | some g =>
   obtain⟨F,U⟩:=(Y.pha y r' g i ad z j x' s' n C).1;rcases U with rfl|rfl
   ·have:rt (PK+y)=PK+y:=jU (by omega);omega
   ·rw[ye F]at an;rw[Dd F]at hy;exact hy an
end
section
variable {P:Program} {T:Nat->Option Ty} {N:Nat} {M:Nat->Prop} {L:lG} {w0:World} {blk:Nat->Option (Nat×Nat)} {V:Nat->Nat->Prop} {t:Nat->D} {h:Nat->Option Row} {a:Act} {w:World} {e:Nat} {o:Oper} {Γ:Env}
def Inv.ahu (Z:Inv N M L w0 blk V t (EH h) a w) {x:Nat} {r:Row} {H s q n j:Nat} {o p:List D} (O:h x=some r) (P:r.mp=true) (Q:r.cells=[.nr H s q o]) (hz:r.fz=false) (A:x<PK) (hj:o[j]? = some (.nx n p)) (hn:p.length=n*s) :
  Inv N M L w0 blk V t (EH (cq h x (some ⟨r.v,r.ty,[.nr H s q (o.set j (.sl false false n p))],false,r.lst,true⟩))) a w∧∀b,Own M (EH (cq h x (some ⟨r.v,r.ty,[.nr H s q (o.set j (.sl false false n p))],false,r.lst,true⟩))) blk b->Own M (EH h) blk b:=by
 have ag:j<o.length:=(alT.1 hj).1;obtain⟨g,R⟩:∃g,blk x=some g:=by
  cases R:blk x with
  | some g=>exact⟨g,rfl⟩
  | none =>
   have:=(Z.rows x _ (il O P Q A)).2;rw[R]at this;have h1:o.mapIdx (wO x s)=[]:=this;simp_all
 have hK:EH h (NK x j)=some ⟨q,H,p,false,true,false⟩:=by rw[fU O P Q A,hj,hz];rfl
 obtain⟨u,aq,ai⟩:=Z.IE O P Q A R hj;obtain⟨S,aa,ar,aj⟩:=Z.FA O P Q A R;have ak:=Z.freeze [NK x j];have al:RP w (Own M (aZ (EH h) (lh (EH h) [NK x j])) blk) (.sl false false n p) u:=by
  have hW:=Z.weaken (V':=fun y v=>V y v∨(y=NK x j∧v=q)) (fun _ _ h =>.inl h);have an:RT w (Own M (EH h) blk) (EH h) blk (fun y v=>V y v∨(y=NK x j∧v=q)) (.buf (NK x j) q s 0 n) u:=by
   refine⟨.inr ⟨rfl,rfl⟩,fun Y au av =>?_⟩;rcases ai with⟨g1,c,N',aw,k1,k2,k3,k4,k5,k6⟩|⟨k1,k2,k3⟩
   ·grind
   simp_all
  have hl:live (EH h) (NK x j) q=some ⟨q,H,p,false,true,false⟩:=by
   unfold live;rw[hK];simp
  have ao:Am.cZ (EH h) (.buf (NK x j) q s 0 n)=some (.sl false false n p,[NK x j]):=by
   simp only[Am.cZ,Am.bX,Am.eY,hl,amr,am3];rw[if_pos (by omega),<- hn,ano];rfl
  exact hW.cZ ao (hW.ic [NK x j]) an
 generalize z:cq (EH h) (NK x j) none=h1;have B:cq (aZ (EH h) (lh (EH h) [NK x j])) (NK x j) none=h1:=by
  rw[<- z];funext k
  by_cases f:k=NK x j
  ·rw[f,ay,ay]
  ·rw[aD _ _ f,aD _ _ f,DM];simp_all
 have T:=ak.drop (NK x j);rw[B]at T;have U:∀b,Own M h1 blk b->Own M (aZ (EH h) (lh (EH h) [NK x j])) blk b:=by
  rintro b (W|⟨k,Y,X,f,C,l,I⟩)
  ·exact .inl W
  ·refine .inr ⟨k,Y,X,?_,C,l,I⟩;rw[<- B]at f
   by_cases m:k=NK x j
   ·rw[m,ay]at f;cases f
   ·rwa [aD _ _ m]at f
 have ab:h1 x=some ⟨r.v,r.ty,o.mapIdx (wO x s),r.fz,r.lst,true⟩:=by
  rw[<- z,aD _ _ (by have:=jv x j;omega)];exact il O P Q A
 have ad:∀(i:Nat) d,(o.set j (.sl false false n p))[i]? = some d->(i=j∧d=.sl false false n p)∨(i≠j∧o[i]? = some d):=by
  grind
 have hB:=T.mn (x:=x) (r:=⟨r.v,r.ty,o.mapIdx (wO x s),r.fz,r.lst,true⟩) (r0:=⟨r.v,r.ty,(o.set j (.sl false false n p)).mapIdx (wO x s),false,r.lst,true⟩) (w':=w) ab hz rfl rfl rfl rfl (alq _) (fun _ _ _=>rfl) (by
   rw[R];refine⟨rfl,.inr ⟨fun d hd =>?_,S,aa,by simp_all,fun i d J =>?_⟩⟩
   ·obtain⟨i,J⟩:=alL hd;simp only[anK,alo]at J;obtain⟨d0,E,rfl⟩:=J;exact oA _ _ _ _
   ·simp only[anK,alo]at J;obtain⟨d0,E,rfl⟩:=J;rcases ad i d0 E with⟨rfl,rfl⟩|⟨hij,F⟩
    ·have e1:S.getD (g.2+i) undef=u:=by
      have:=bm aa (show g.2+i<S.size by omega);simp_all
     rw[e1];exact al.less U
    ·by_cases G:gN d0=true
     ·rw[mo G];refine (gF G).2.2.2 ((aj i d0 F G).less fun b W =>?_);rcases W with W|⟨k,Y,X,f,C,l,I⟩
      ·exact .inl W
      ·refine .inr ⟨k,Y,X,?_,C,l,I⟩;rw[<- z]at f
       by_cases m:k=NK x j
       ·rw[m,ay]at f;cases f
       ·rwa [aD _ _ m]at f
     ·cases d0<;>first|trivial|exact absurd rfl G) (fun h=>by cases h) (fun _ X l i x' s' n' J=>by
   rw[R]at l;cases l;simp only[anK,alo]at J;obtain⟨d0,E,I⟩:=J;obtain⟨ax,rfl,rfl,rfl⟩:=uK I;rcases ad i _ E with⟨rfl,F⟩|⟨hij,F⟩
   ·cases F
   ·exact T.pha x _ g ab rfl R i (NK x i) s' n' (by simp_all))
 have K:cq h1 x (some (⟨r.v,r.ty,(o.set j (.sl false false n p)).mapIdx (wO x s),false,r.lst,true⟩:Row))=EH (cq h x (some ⟨r.v,r.ty,[.nr H s q (o.set j (.sl false false n p))],false,r.lst,true⟩)):=by
  have ae:cq h x (some (⟨r.v,r.ty,[.nr H s q (o.set j (.sl false false n p))],false,r.lst,true⟩:Row)) x=some ⟨r.v,r.ty,[.nr H s q (o.set j (.sl false false n p))],false,r.lst,true⟩:=ay _ _ _;funext k
  by_cases hkx:rt k=x
  rotate_left
  ·rw[aD _ _ (fun e=>hkx (by rw[e,jU (by omega)])),<- z,aD _ _ (fun e=>hkx (by rw[e,ye A]))];exact fp (by rw[aD _ _ hkx])
  rcases sO hkx with rfl|⟨i,rfl⟩
  ·rw[ay,il ae rfl rfl A]
  ·rw[aD _ _ (by have:=jv x i;omega),fU ae rfl rfl A,<- z]
   by_cases hij:i=j
   ·rw[hij,ay,List.getElem?_set_self ag];rfl
   ·rw[aD _ _ (fun e=>hij (w8 A A e).2),fU O P Q A,List.getElem?_set_ne (fun e=>hij e.symm),hz]
 rw[K]at hB;refine⟨hB,?_⟩;rintro b (W|⟨k,Y,X,f,C,l,I⟩)
 ·exact .inl W
 ·rw[<- K]at f
  by_cases hkx:k=x
  ·subst hkx;exact .inr ⟨k,_,X,il O P Q A,hz,l,I⟩
  ·rw[aD _ _ hkx,<- z]at f
   by_cases m:k=NK x j
   ·rw[m,ay]at f;cases f
   ·rw[aD _ _ m]at f;exact .inr ⟨k,Y,X,f,C,l,I⟩
end
def BQ (s:Nat):D->Bool
 | .nx n xs=>xs.length==n*s
 | d=>gN d
def qp (k o:Nat) (a:List D):List D:=a.mapIdx fun i d=>if o<=i∧i<o+k then V4 d else d
section
variable {P:Program} {T:Nat->Option Ty} {N:Nat} {M:Nat->Prop} {L:lG} {w0:World} {blk:Nat->Option (Nat×Nat)} {V:Nat->Nat->Prop} {t:Nat->D} {h:Nat->Option Row} {a:Act} {w:World} {e:Nat} {o:Oper} {Γ:Env}
def NC (o:Nat) (a:List D):qp 0 o a=a:=by
 unfold qp;apply anp;grind
def xS (k o:Nat) (a:List D) (i:Nat):(qp k o a)[i]? = (a[i]?).map fun d=>if o<=i∧i<o+k then V4 d else d:=by
 unfold qp;simp_all
def Inv.ahw (H:Inv N M L w0 blk V t (EH h) a w) {x:Nat} {r:Row} {p s q o:Nat} {c:List D} (A:h x=some r) (I:r.mp=true) (J:r.cells=[.nr p s q c]) (K:r.fz=false) (B:x<PK):∀k:Nat,((c.drop o).take k).all (BQ s)=true ->
  Inv N M L w0 blk V t (EH (cq h x (some ⟨r.v,r.ty,[.nr p s q (qp k o c)],false,r.lst,true⟩))) a w∧∀b,Own M (EH (cq h x (some ⟨r.v,r.ty,[.nr p s q (qp k o c)],false,r.lst,true⟩))) blk b->Own M (EH h) blk b
 | 0,_=>by
  have:cq h x (some (⟨r.v,r.ty,[.nr p s q (qp 0 o c)],false,r.lst,true⟩:Row))=h:=by
   funext k
   by_cases C:k=x
   ·rw[C,ay,NC,A];cases r;simp_all
   ·rw[aD _ _ C]
  simp_all
 | k+1,l=>by
  have j:((c.drop o).take k).all (BQ s)=true:=by
   grind
  obtain⟨O,R⟩:=H.ahw A I J K B k j;have v:(∀n g,c[o+k]?≠some (.nx n g))->qp (k+1) o c=qp k o c:=by
   intro S;apply anp;intro i;rw[xS,xS];cases P:c[i]? with
   | none=>rfl
   | some d =>
    simp only[Option.map_some,alz]
    by_cases hik:i=o+k
    ·subst hik;rw[if_pos (by omega),if_neg (by omega)];cases d<;>first|rfl|simp_all
    grind
  by_cases f:∃n g,c[o+k]? = some (.nx n g)
  rotate_left
  ·simp_all
  obtain⟨n,g,f⟩:=f;have m:g.length=n*s:=by
   have:=alB.1 l (.nx n g) (alR (i:=k) (by simp_all));simpa [BQ] using this
  have E:qp (k+1) o c=(qp k o c).set (o+k) (.sl false false n g):=by
   have y:=(alT.1 f).1;apply anp;intro i;rw[xS]
   by_cases hik:i=o+k
   ·subst hik;rw[List.getElem?_set_self (by simpa [qp] using y),f];simp only[Option.map_some];rw[if_pos (by omega)];rfl
   ·rw[List.getElem?_set_ne (fun e=>hik e.symm),xS];grind
  have Q:(qp k o c)[o+k]? = some (.nx n g):=by
   rw[xS,f];simp_all
  obtain⟨T,U⟩:=O.ahu (x:=x) (ay _ _ _) rfl rfl rfl B Q m;have F:∀(G z:Option Row),cq (cq h x G) x z=cq h x z:=by
   intro G z;funext i
   by_cases u:i=x
   ·rw[u,ay,ay]
   ·rw[aD _ _ u,aD _ _ u,aD _ _ u]
  simp_all
def NW (x:Nat) (r:Row) (c s o k:Nat):Option Nat->Option (D×List D)->Option cH
 | some b,some (d,a)=>if ((a.drop o).take k).all (BQ s)=true then some ⟨d,[(x,some ⟨r.v,r.ty,[.nr c s b (qp k o a)],false,r.lst,true⟩)]⟩ else none
 | _,_=>none
def G5 (e x:Nat) (r:Row) (a s b:Nat) (c:List D) (o:Nat):Option (Nat×(Nat->Nat->Nat->Nat->List D->List D->Option (D×List D)))->Option (List D×List Nat)->Option cH
 | some p,some (alj,[])=>NW x r a s o p.1 (bump b e) (p.2 r.ty a s o c alj)
 | _,_=>none
def wm (Γ:Env) (e:Nat) (h:Nat->Option Row) (g:Nat):List D->Option cH
 | .ptr x v o::rest =>
  match iu h x v with
  | some (r,ty,s,nv,cs)=>G5 e x r ty s nv cs o (Γ.nx.lnd g) (b9 (EH h) rest)
  | none=>none
 | _=>none
def xj {g:Nat} {c:List D} {E:cH} (b:wm Γ e h g c=some E):∃x v o a r k s l m p f j d i,c=.ptr x v o::a∧iu h x v=some (r,k,s,l,m)∧Γ.nx.lnd g=some p∧b9 (EH h) a=some (f,[])∧bump l e=some j∧p.2 r.ty k s o m f=some (d,i) ∧
  ((i.drop o).take p.1).all (BQ s)=true∧E=⟨d,[(x,some ⟨r.v,r.ty,[.nr k s j (qp p.1 o i)],false,r.lst,true⟩)]⟩:=by
 unfold wm at b;split at b<;>try (cases b;done)
 rename_i x v o a;split at b<;>try (cases b;done)
 rename_i r k s l m q;unfold G5 at b;split at b<;>try (cases b;done)
 rename_i p f t n;unfold NW at b;grind
def abK (hΓ:bV P Γ) (hI:Inv N M L w0 blk V t (EH h) a w) (R:aeL V h e) {g:Nat} {dst:Option Nat} {m:List D} {c:Array Value} {E:cH} (hE:wm Γ e h g m=some E) (F:c.size=m.length)
  (hr:∀(j:Nat) d,m[j]? = some d->RT w (Own M (EH h) blk) (EH h) blk V d (c.getD j undef)):fl P g∧Calls P g c w fun e' w'=>∃v,e'=.returned v∧lD N M L w0 V t h a e dst E v w':=by
 obtain⟨x,v,o,z,r,S,s,nv,T,p,U,W,d,ak,rfl,hl,hp,X,hb,hs,G,rfl⟩:=xj hE;obtain⟨A,hv,Y,B,f,C⟩:=j9 hl;obtain⟨Z,n⟩:=hΓ.lnd g p hp;refine⟨Z,?_⟩;have h0:=hr 0 _ rfl;have aa:=il A B C f;obtain⟨g0,H,ab⟩:=h0.2 _ aa hv;have ad:c = #[.pointer (some ⟨g0.1,g0.2+o,none⟩)]++c.extract 1 c.size:=by
  have h1:0<c.size:=by rw[F];simp
  rw[<- ab];apply amz
  ·simp;omega
  ·intro i h1 h2;cases i with
   | zero=>simp_all
   | succ i=>grind
 have I:(c.extract 1 c.size).size=z.length:=by simp at F ⊢;omega
 have ae:∀(j:Nat) d,z[j]? = some d->RT w (Own M (EH h) blk) (EH h) blk V d ((c.extract 1 c.size).getD j undef):=by
  intro j d hj;have:=hr (j+1) d (by simpa using hj);have e1:(c.extract 1 c.size).getD j undef=c.getD (j+1) undef:=by
   simp only[alv];grind
  rw[e1];exact this
 obtain⟨M',q⟩:∃M':Nat->Prop,∀b,M' b↔Own M (EH h) blk b∧¬InX blk h x b:=⟨_,fun _=>Iff.rfl⟩;have hInX:∀b,InX blk h x b->Own M (EH h) blk b:=by
  rintro b ⟨k,r',g',q0,q1,q2,q3⟩;refine .inr ⟨k,r',g',q1,?_,q2,q3⟩;rcases fM A B C f q0 q1 with⟨_,rfl⟩|⟨_,_,_,_,_,rfl⟩<;>exact Y
 have y:=NI (blk:=blk) A B C f;have hQ:∀b,(M' b∨zX (uP blk x) (EH (pz (jS r.ty S s 0 T))) b)->Own M (EH h) blk b:=fun b hb=>hb.elim (fun hb=>((q b).1 hb).1) (fun hb=>hInX b ((y b).1 hb));have l:=hI.GS X ⟨fun b h=>h,fun x A=>by cases A⟩ I ae;have hA:Cb w (fun b=>M' b∨zX (uP blk x) (EH (pz (jS r.ty S s 0 T))) b) U (c.extract 1 c.size):=⟨l.1,fun j d hj=>(l.2 j d hj).less hQ,fun b hb=>(l.tab b hb).less hQ⟩;rw[ad];refine (n _ _ _ _ _ _ _ _ hs w M' (uP blk x) _ _ g0 _ rfl rfl (fun b hb=>hI.BW ((q b).1 hb).1) (fun b hb ag=>((q b).1 ag).2 ((y b).1 hb)) (by rw[uP,vY];exact H) (hI.ahz A B C Y f hQ) hA).mono fun e' w' hg =>?_;obtain⟨u,J,he,hbey,q0,ai,K,qR,aj⟩:=hg;refine⟨u,he,sD blk J x,?_⟩;obtain⟨k1,k2⟩:=hI.back A B C Y f (R x r S s nv T W A B C f hb) H rfl q ⟨hbey.os,hbey.tape,hbey.output,hbey.size,fun k hk hn=>hbey.block k hk fun hh=>hn ((y k).1 hh)⟩ q0 ai (fun b hb=>(K b hb).imp id fun hh=>(y b).1 hh) qR;obtain⟨k3,k4⟩:=k1.ahw (x:=x) (o:=o) (ay _ _ _) rfl rfl rfl f p.1 G;have O:∀(r1 r2:Option Row),cq (cq h x r1) x r2=cq h x r2:=by
  intro r1 r2;funext i
  by_cases Q:i=x
  ·rw[Q,ay,ay]
  ·rw[aD _ _ Q,aD _ _ Q,aD _ _ Q]
 rw[O]at k3 k4;exact⟨k3.weaken fun _ _ h =>.inl h,ca (aj.less fun b hb=>k2 b (k4 b hb))⟩
end
def Ue:D->D->Option D
 | .nx _ _,.sl true true 0 []=>some (.nx 0 [])
 | .nx _ _,_=>none
 | _,d=>if gN d=true then some (canon d) else none
def wN:List D->List D->Option (List D)
 | [],[]=>some []
 | c::a,x::b =>
  match Ue c x,wN a b with
  | some y,some d=>some (y::d)
  | _,_=>none
 | _,_=>none
def stZ (x:Nat) (r:Row) (b s:Nat):Option Nat->Option (List D)->Option cH
 | some a,some cs'=>some ⟨.und,[(x,some ⟨r.v,r.ty,[.nr b s a cs'],false,r.lst,true⟩)]⟩
 | _,_=>none
def VM (n e x:Nat) (r:Row) (b s c:Nat) (d:List D):D->Option cH
 | .agg a=>if a.length=n then stZ x r b s (bump c e) (wN d a) else none
 | _=>none
def ud (τ:Ty) (e:Nat) (h:Nat->Option Row) (p d:D):Option cH :=
 match p with
 | .ptr x v o =>
  match iu h x v with
  | some (r,b,s,c,a)=>if r.lst=false∧o=0∧a.length=τ.size then VM τ.size e x r b s c a d else none
  | none=>none
 | _=>none
def Vf (x:Nat) (r:Row) (a s b:Nat) (c:List D):Option D->Option cH
 | some d=>some ⟨d,[(x,some ⟨r.v,r.ty,[.nr a s b c],false,r.lst,true⟩)]⟩
 | none=>none
def tZ (τ:Ty) (h:Nat->Option Row):D->Option cH
 | .ptr x v o =>
  match iu h x v with
  | some (r,b,s,c,a)=>if r.lst=false∧o=0∧a.length=τ.size∧1<τ.size∧a.all (BQ s)=true then Vf x r b s c (qp τ.size 0 a) (mf τ (a.map V4)) else none
  | none=>none
 | _=>none
def orE:Option cH->Option cH->Option cH
 | some E,_=>some E
 | none,y=>y
def y5 (τ:Ty) (h:Nat->Option Row) (p:D):Option cH:=orE (tZ τ h p) (ua τ h p)
def y7 (τ:Ty) (e:Nat) (h:Nat->Option Row) (p d:D):Option cH:=orE (ud τ e h p d) (qN τ e h p d)
def Uf:∀ {a xs ys:List D},wN a xs=some ys->ys.length=a.length∧xs.length=a.length∧∀(j:Nat) c x,a[j]? = some c->xs[j]? = some x->∃y,ys[j]? = some y∧Ue c x=some y
 | [],[],ys,h=>by simp only[wN,alz]at h;simp_all
 | c::a,x::xs,ys,h=>by
  simp only[wN]at h;split at h
  ·rename_i y b e d;simp only[alz]at h;subst h;obtain⟨f,g,i⟩:=Uf d;grind
  ·cases h
 | [],x::xs,ys,h=>by simp[wN]at h
 | c::a,[],ys,h=>by simp[wN]at h
def JT {c x y:D} (h:Ue c x=some y):(x=.sl true true 0 []∧y=.nx 0 [])∨(gN x=true∧y=canon x):=by
 unfold Ue at h;grind
section
variable {P:Program} {T:Nat->Option Ty} {N:Nat} {M:Nat->Prop} {L:lG} {w0:World} {blk:Nat->Option (Nat×Nat)} {V:Nat->Nat->Prop} {t:Nat->D} {h:Nat->Option Row} {a:Act} {w:World} {e:Nat} {o:Oper} {Γ:Env}
def acj (x:Nat):Gj (EH h) (fun k=>if rt k=x∧k≠x then none else EH h k):=by
 intro k b a;simp only at a;split at a
 ·cases a
 ·exact⟨b,a,.refl _⟩
open Classical in
def acg (hT:ke P T) (hI:Inv N M L w0 blk V t (EH h) a w) (az:aeL V h e) {ty:Nat} {p x:Operand} {τ:Ty} {E:cH} (ho:o.op=.store ty p x) (hτ:T ty=some τ) (C:ud τ e h (ev t p) (ev t x)=some E):fm P o a w (lD N M L w0 V t h a e o.dst E):=by
 have hp:=hI.ev p;have hq:=hI.ev x;have aL:=hI.big;have aM:=gh;generalize ev t p=pd at *;generalize ev t x=d at *;unfold ud at C;split at C<;>try (cases C;done)
 rename_i y v c0;split at C<;>try (cases C;done)
 rename_i r I s nv cs hl;obtain⟨hx,hv,hz,hm,n,hc⟩:=j9 hl;have aj:=il hx hm hc n;obtain⟨g,hg,ak⟩:=hp.2 _ aj hv;split at C<;>try (cases C;done)
 rename_i ab;obtain⟨_,rfl,aN⟩:=ab;unfold VM at C;split at C<;>try (cases C;done)
 rename_i z;split at C<;>try (cases C;done)
 rename_i aO;unfold stZ at C;split at C<;>try (cases C;done)
 rename_i J F hb aA;simp only[alz]at C;subst C;obtain⟨z1,z2,z3⟩:=Uf aA;have al:RP w (Own M (EH h) blk) (.agg z) (a.eval x):=hq;obtain⟨m,aB,aP,an⟩:∃m:List Value,a.eval x=.agg m.toArray∧m.length=z.length∧∀j x,z[j]? = some x->RP w (Own M (EH h) blk) x (m.getD j undef):=by
  generalize a.eval x=u at al;cases al with
  | agg z m h1 h2 h3=>simp_all
 have aC:∀(j:Nat) x,z[j]? = some x->gN x=true:=by
  intro j x f;have R:=(alT.1 f).1;obtain⟨y',_,k2⟩:=z3 j _ x (alE (by omega)) f;rcases JT k2 with⟨rfl,_⟩|⟨k3,_⟩
  ·rfl
  ·exact k3
 have ao:∀u∈m,u.oneCell'=true:=by
  intro u hu;obtain⟨j,f⟩:=alL hu;have R:=(alT.1 f).1;have K:=alE (l:=z) (i:=j) (by omega);have:=an j _ K;have U:m.getD j undef=u:=by simp_all
  rw[U]at this;exact this.tw (gF (aC j _ K)).1
 obtain⟨B,k1,k2,k3⟩:=hI.FA hx hm hc n hg;have X:=run_storeCells_at P g.1 (g.2+0) r.ty m 0 B w k1 (by omega) ao;rw[alZ]at X;have aq:(B.toList.take g.2++m++B.toList.drop (g.2+m.length)).toArray.size=B.size:=by simp;omega
 have Y:∀j,j<cs.length->(B.toList.take g.2++m++B.toList.drop (g.2+m.length)).toArray.getD (g.2+j) undef=m.getD j undef:=by
  intro j f;have:=vx B m g.2 (g.2+j) (by omega);grind
 generalize aQ:(B.toList.take g.2++m++B.toList.drop (g.2+m.length)).toArray=arr' at X aq Y;obtain⟨H,aE,hheap⟩:=Dh (g:=g) (arr':=arr') k1;have ar:Own M (EH h) blk g.1 := .inr ⟨y,_,g,aj,hz,hg,rfl⟩;have hK:∀o,NK y o≠y∧2*PK<=NK y o:=fun o=>by have:=jv y o;omega
 have ad:=acj (h:=h) y;have hA:=hI.le ad;generalize aF:(fun k=>if rt k=y∧k≠y then none else EH h k)=h1 at hA ad;have aG:h1 y=some ⟨r.v,r.ty,cs.mapIdx (wO y s),r.fz,r.lst,true⟩:=by
  grind
 have au:∀o,h1 (NK y o)=none:=fun o=>by
  rw[<- aF];simp only;rw[if_pos ⟨ye n,(hK o).1⟩]
 have av:∀k,rt k≠y->h1 k=EH h k:=fun k hk=>by
  grind
 have Z:∀(j:Nat) d,F[j]? = some d->(d=.nx 0 []∧m.getD j undef=.slice none 0 0)∨(gN d=true∧RP w (Own M (EH h) blk) d (m.getD j undef)):=by
  intro j d f;have R:=(alT.1 f).1;have K:=alE (l:=z) (i:=j) (by omega);obtain⟨y',q1,q2⟩:=z3 j _ _ (alE (by omega)) K;rw[f]at q1;cases q1;have hr:=an j _ K;rcases JT q2 with⟨U,rfl⟩|⟨U,rfl⟩
  ·refine .inl ⟨rfl,?_⟩;rw[U]at hr;generalize m.getD j undef=u at hr;cases hr with
   | sl A c _ _ _ _ aR g1 g2 g3 g4 g5 g6 g7 g8 =>
    simp_all
  ·refine .inr ⟨?_,hr.canon⟩;generalize z[j]=q at U;cases q<;>first|rfl|cases U
 have ae:∀ {d:D} {u:Value},RP w (Own M (EH h) blk) d u->RP (w.setRow g.1 arr') (Own M h1 blk) d u:=fun hr=>hr.keep fun b q1 q2=>⟨by rw[aE];exact q1,Eo ad q2,hheap b (fun e=>q2 (e ▸ ar))⟩;have hB:=hA.mn (x:=y) (r0:=⟨r.v,r.ty,F.mapIdx (wO y s),false,r.lst,true⟩) (w':=w.setRow g.1 arr') aG hz rfl rfl rfl rfl (by omega) (fun b _ hb=>hheap b (hb g hg)) (by
  rw[hg];refine⟨by simp[World.shape?,H,k1,aq],.inr ⟨fun d hd =>?_,arr',H,by simp_all,fun j d f =>?_⟩⟩
  ·obtain⟨j,f⟩:=alL hd;simp only[anK,alo]at f;obtain⟨d0,_,rfl⟩:=f;exact oA _ _ _ _
  ·simp only[anK,alo]at f;obtain⟨d0,G,rfl⟩:=f;have R:=(alT.1 G).1;rw[Y j (by omega)];rcases Z j d0 G with⟨rfl,_⟩|⟨q1,q2⟩
   ·trivial
   ·rw[mo q1];exact (gF q1).2.2.2 (ae q2)) (fun hh=>by cases hh) (fun _ g' aw j x' s' n' f=>by
  rw[hg]at aw;cases aw;simp only[anK,alo]at f;obtain⟨d0,G,he⟩:=f;obtain⟨aS,rfl,rfl,rfl⟩:=uK he;have R:=(alT.1 G).1;exact⟨⟨n,.inr rfl⟩,_,bm H (by omega),fun r1 aT=>by simp_all⟩)
 obtain⟨S,hS⟩:∃S:Nat->Prop,∀k,S k↔∃o z,k=NK y o∧F[o]? = some (.nx 0 z):=⟨_,fun _=>Iff.rfl⟩;have aa:∀(j n':Nat) (z:List D),F[j]? = some (.nx n' z)->n'=0∧z=[]∧m.getD j undef=.slice none 0 0:=by
  intro j n' z f;rcases Z j _ f with⟨U,e2⟩|⟨U,_⟩
  ·simp_all
  ·cases U
 have ag:cq h y (some (⟨r.v,r.ty,[.nr I s J F],false,r.lst,true⟩:Row)) y=some ⟨r.v,r.ty,[.nr I s J F],false,r.lst,true⟩:=ay _ _ _;have hC:=hB.addEmpty S I J (h':=EH (cq h y (some ⟨r.v,r.ty,[.nr I s J F],false,r.lst,true⟩))) (blk':=fun k=>if S k then none else blk k) (fun k hk=>by
   obtain⟨Q,z,rfl,W⟩:=(hS k).1 hk;have:=hK Q;exact⟨by omega,by omega,az y r I s nv cs J hx hm hc n hb Q,by rw[aD _ _ (hK Q).1,au]⟩) (fun k hk=>by
   refine⟨?_,by rw[if_pos hk]⟩;obtain⟨Q,z,rfl,W⟩:=(hS k).1 hk;rw[fU ag rfl rfl n,W];obtain⟨_,rfl,_⟩:=aa Q 0 z W;rfl) (fun k hk=>by
   refine⟨?_,by rw[if_neg hk]⟩
   by_cases hkd:rt k=y
   ·rcases sO hkd with rfl|⟨Q,rfl⟩
    ·rw[ay,il ag rfl rfl n]
    ·rw[aD _ _ (hK Q).1,au,fU ag rfl rfl n];cases aU:F[Q]? with
     | none=>rfl
     | some d0 =>
      cases d0 with
      | nx n' z =>
       grind
      | _=>rfl
   ·rw[aD _ _ (fun e=>hkd (by rw[e,jU (by omega)])),av k hkd];exact fp (by rw[aD _ _ hkd])) (fun y1 r1 g1 hy aH ai j x' s' n' f hs=>by
   obtain⟨Q,z,rfl,W⟩:=(hS _).1 hs;obtain⟨⟨p1,p2⟩,u,p3,_⟩:=hB.pha y1 r1 g1 hy aH ai j _ s' n' f;rcases p2 with p2|p2
   ·grind
   obtain⟨rfl,rfl⟩:=w8 n p1 p2;rw[ay]at hy;rw[hg]at ai;cases hy;cases ai;simp only[anK,alo]at f;obtain⟨d0,G,he⟩:=f;obtain⟨aI,rfl,_,rfl⟩:=uK he;obtain⟨aJ,_,aV⟩:=aa Q n' aI G;have aW:=(alT.1 G).1;refine⟨_,bm H (by omega),aJ,none,?_⟩;grind)
 refine .inr (.inl ⟨w.setRow g.1 arr',?_,fun k=>if S k then none else blk k,?_,trivial⟩)
 ·have ax:(a.eval x).cells.toList=m:=by rw[aB];rfl
  have aK:(a.eval x).cells.size=τ.size:=by grind
  have O:(storeCells ⟨g.1,g.2+0,none⟩ (a.eval x).cells.toList 0).run P w=.ok () (w.setRow g.1 arr'):=by grind
  rw[alZ]at O ak;simp[execOp,ho,Instr.storeAt,Instr.sureAddr,ak,storeVar,run_sizeOf (hT ty τ hτ),aK,O]
 ·exact hC.weaken fun _ _ h =>.inl h
open Classical in
def acb (hT:ke P T) (hI:Inv N M L w0 blk V t (EH h) a w) {n d Q s f:Nat} {τ:Ty} {E:cH} (ho:o.op=.alloc n) (hd:o.dst=some d) (hV:kZ N V d e) (ao:∀o,¬V (NK d o) (4*e+2)) (hτ:T n=some τ)
  (hE:mkA τ n e d Q s f=some E):fm P o a w (lD N M L w0 V t h a e o.dst E):=by
 have an:=hI.big;have aq:=gh;unfold mkA at hE;split at hE<;>try (cases hE;done)
 rename_i R;obtain⟨c4,c5,c6,i,c8⟩:=R;simp only[alz]at hE;subst hE;obtain⟨z,ae,ag⟩:=lB (hT n τ hτ) w;have ar:(τ.zero.map rH).length=τ.size:=by simp_all
 have hf:f<τ.size:=by
  rw[anJ]at c8;rcases al7 f τ.size with U|au
  ·exact U
  ·rw[anL (by omega)]at c8;cases c8
 have ab:(τ.zero.map rH)[f]? = some (.sl true true 0 []):=by
  rw[anJ]at c8;unfold adt at c8;grind
 have ai:(qq τ f).length=τ.size:=by
  unfold qq;rw[mm (by simp;omega)];simp[c6]
 have p:∀(m:Nat) (x:D),(qq τ f)[m]? = some x->(m=f∧x=.nx 0 [])∨(m≠f∧∃y,(τ.zero.map rH)[m]? = some y∧x=canon y):=by
  intro m x W;unfold qq at W
  by_cases ad:m=f
  ·subst ad;rw[ie (by simp;omega)]at W;simp_all
  ·rw[jH (by simp;omega) ad,aln,alo]at W;grind
 obtain⟨q,X⟩:∃q:Array Value,q=τ.zero.toArray:=⟨_,rfl⟩;have av:q.size=τ.size:=by simp_all
 have K:∀(M':Nat->Prop) (w':World) (j:Nat) (x:D),(qq τ f)[j]? = some x->gN x=true->RP w' M' x (q.getD j undef):=by
  intro M' w' j x c aj;rw[X];rcases p _ x c with⟨_,rfl⟩|⟨_,y,h1,rfl⟩
  ·cases aj
  ·exact (uM (w:=w') (M:=M') τ.zero (alB.2 fun y Y=>(gF (alB.1 c5 y Y)).1) _ y h1).2.canon
 have A:∀(j:Nat) (n':Nat) (B:List D),(qq τ f)[j]? = some (.nx n' B)->n'=0∧B=[]∧q.getD j undef=.slice none 0 0:=by
  intro j n' B c;rcases p _ _ c with⟨W,G⟩|⟨_,y,h1,G⟩
  ·simp only[D.nx.injEq]at G;refine⟨G.1,G.2,?_⟩;rw[X,W];rw[aln,alo]at ab;obtain⟨v,v1,v2⟩:=ab;simp only[alv,List.getElem?_toArray,v1,Option.getD_some];exact XY v2
  ·have:=alB.1 c5 y (alR h1);cases y<;>first|(cases G;done)|(cases this;done)
 generalize qq τ f=cs at ai p K A;have hA:=hI.le (Cz (h:=h) d i);have hold:∀b,b<w.heap.size->(w.alloc (.cells q n)).heap[b]? = w.heap[b]?:=fun b hb=>Below.heap_alloc w _ b hb;have H:=(Below.refl w.heap.size w).alloc (alq _) (.cells q n);have C:=heap_alloc_new w (.cells q n);have Z:∀o,EH (cq h d none) (NK d o)=none:=fun o=>by rw[wg i,ay];rfl
 have aa:∀o,NK d o≠d:=fun o=>by have:=jv d o;omega
 have hB:=hA.GP (w':=w.alloc (.cells q n)) (h1:=EH (cq h d none)) (old:=none) (d:=d) (e:=e) (r0:=⟨e,n,cs.mapIdx (wO d s),false,false,true⟩) (go:=some (w.heap.size,0)) H.os H.tape H.output H.size (fun k O _=>hold k O) (fun y Y=>by cases Y) rfl hV
  ⟨.inl (alq _),.inr ⟨fun x hx=>by
   obtain⟨j,c⟩:=alL hx;simp only[anK,alo]at c;obtain⟨d0,l,rfl⟩:=c;exact oA _ _ _ _,q,C,by grind,fun j x c=>by
   simp only[anK,alo]at c;obtain⟨d0,l,rfl⟩:=c;rw[amr]
   by_cases I:gN d0=true
   ·rw[mo I];exact (gF I).2.2.2 (K _ _ j d0 l I)
   ·cases d0<;>first|trivial|exact absurd rfl I⟩⟩ rfl rfl (fun _ g hg j x s' n' c=>by
   cases hg;simp only[anK,alo]at c;obtain⟨d0,l,G⟩:=c;obtain⟨B,rfl,rfl,rfl⟩:=uK G;have U:=(alT.1 l).1;refine⟨⟨i,.inr rfl⟩,_,bm C (by omega),fun r hr =>?_⟩;rw[aD _ _ (aa j),Z]at hr;cases hr)
 obtain⟨S,hS⟩:∃S:Nat->Prop,∀k,S k↔∃o B,k=NK d o∧cs[o]? = some (.nx 0 B):=⟨_,fun _=>Iff.rfl⟩;have hC:=hB.addEmpty S Q (4*e+2) (h':=EH (cq h d (some ⟨e,n,[.nr Q s (4*e+2) cs],false,false,true⟩))) (blk':=fun k=>if S k then none else cq blk d (some (w.heap.size,0)) k) (fun k O=>by
   obtain⟨F,B,rfl,J⟩:=(hS k).1 O;have:=jv d F;refine⟨by omega,by omega,?_,by rw[aD _ _ (aa F),Z]⟩;grind) (fun k O=>by
   refine⟨?_,by rw[if_pos O]⟩;obtain⟨F,B,rfl,J⟩:=(hS k).1 O;rw[fU (ay _ _ _) rfl rfl i,J];obtain⟨_,rfl,_⟩:=A F 0 B J;rfl) (fun k O=>by
   refine⟨?_,by rw[if_neg O]⟩
   by_cases hkd:rt k=d
   ·rcases sO hkd with rfl|⟨F,rfl⟩
    ·rw[ay,il (ay _ _ _) rfl rfl i]
    ·rw[aD _ _ (aa F),Z,fU (ay _ _ _) rfl rfl i];cases aw:cs[F]? with
     | none=>rfl
     | some d0 =>
      cases d0 with
      | nx n' B =>
       grind
      | _=>rfl
   ·rw[aD _ _ (fun e=>hkd (by rw[e,jU (by omega)]))];exact fp (by rw[aD _ _ hkd,aD _ _ hkd])) (fun y r g Y W hg j x s' n' c hs=>by
   obtain⟨F,B,rfl,J⟩:=(hS _).1 hs;obtain⟨⟨p1,p2⟩,u,p3,_⟩:=hB.pha y r g Y W hg j _ s' n' c;rcases p2 with p2|p2
   ·have:=jv d F;omega
   obtain⟨rfl,rfl⟩:=w8 i p1 p2;rw[ay]at Y hg;cases Y;cases hg;simp only[anK,alo]at c;obtain⟨d0,l,G⟩:=c;obtain⟨ak,rfl,_,rfl⟩:=uK G;obtain⟨k1,_,k3⟩:=A F n' ak l;have U:=(alT.1 l).1;refine⟨_,bm C (by omega),k1,none,?_⟩;grind)
 have al:¬S d:=fun hs=>by
  grind
 refine aP (v := .pointer (some ⟨w.heap.size,0,none⟩)) (w':=w.alloc (.cells q n)) ?_ ⟨fun k=>if S k then none else cq blk d (some (w.heap.size,0)) k,?_,?_⟩
 ·rw[X];simp[execOp,ho,Instr.alloc,ae,newVar,newRow,ag]
 ·refine hC.weaken fun x v hx =>?_;grind
 ·exact⟨.inr ⟨hd,rfl⟩,fun r hr hv=>⟨(w.heap.size,0),by simp only;rw[if_neg al,ay],rfl⟩⟩
def ab8 (Q:ke P T) (F:Inv N M L w0 blk V t (EH h) a w) {G:Nat} {p:Operand} {τ:Ty} {E:cH} (R:o.op=.load G p) (S:T G=some τ) (b:tZ τ h (ev t p)=some E):fm P o a w (lD N M L w0 V t h a e o.dst E):=by
 have U:=F.ev p;generalize W:ev t p=q at *;unfold tZ at b;split at b<;>try (cases b;done)
 rename_i x v c;split at b<;>try (cases b;done)
 rename_i r f s y i X;obtain⟨H,Y,Z,I,k,J⟩:=j9 X;have z:=il H I J k;obtain⟨g,hg,A⟩:=U.2 _ z Y;split at b<;>try (cases b;done)
 rename_i l;obtain⟨_,rfl,c1,_,c2⟩:=l;unfold Vf at b;split at b<;>try (cases b;done)
 rename_i d hd;simp only[alz]at b;subst b;obtain⟨K,_⟩:=F.ahw (o:=0) H I J Z k τ.size (by grind);have B:cq h x (some (⟨r.v,r.ty,[.nr f s y (qp τ.size 0 i)],false,r.lst,true⟩:Row)) x=some ⟨r.v,r.ty,[.nr f s y (qp τ.size 0 i)],false,r.lst,true⟩:=ay _ _ _;have aa:(qp τ.size 0 i).length=i.length:=by simp[qp]
 have C:At w (Own M (EH (cq h x (some ⟨r.v,r.ty,[.nr f s y (qp τ.size 0 i)],false,r.lst,true⟩))) blk) g.1 (g.2+0) (i.map V4):=by
  intro j d1 O;rw[aln,alo]at O;obtain⟨d0,m,rfl⟩:=O;have D:=alB.1 c2 d0 (alR m);have ab:=(alT.1 m).1;have n:gN (V4 d0)=true:=by
   cases d0<;>first|rfl|exact D
  have u:(qp τ.size 0 i)[0+j]? = some (V4 d0):=by
   rw[amr,xS,m];simp_all
  obtain⟨ad,k1,k2,k3⟩:=K.FA B rfl rfl k hg;have ae:=(alT.1 u).1;refine⟨(gF n).1,_,?_,k3 _ _ u n⟩;rw[alK];exact bm k1 (by omega)
 have:=u6 (e:=e) (o:=o) Q K R S A C (by simp_all) hd;exact this
end
def NV (e d:Nat):Option (Nat×Nat×Nat×Nat×Nat×List D)->Option cH
 | some (a,t,s,S,n,b)=>if d<PK then some ⟨.buf d e S 0 n,[(d,some ⟨e,a,[.nr t s (4*e+2) b],false,true,true⟩)]⟩ else none
 | none=>none
def K9 (p:List D->Option (Nat×Nat×Nat×Nat×Nat×List D)) (e d:Nat):Option (List D×List Nat)->Option cH
 | some (alj,[])=>NV e d (p alj)
 | _=>none
def Bg {p:List D->Option (Nat×Nat×Nat×Nat×Nat×List D)} {e d:Nat} {c:Option (List D×List Nat)} {E:cH} (b:K9 p e d c=some E):∃a f t s S n g,c=some (a,[])∧p a=some (f,t,s,S,n,g)∧d<PK∧E=⟨.buf d e S 0 n,[(d,some ⟨e,f,[.nr t s (4*e+2) g],false,true,true⟩)]⟩:=by
 unfold K9 at b;split at b<;>try (cases b;done)
 rename_i a;unfold NV at b;grind
section
variable {P:Program} {T:Nat->Option Ty} {N:Nat} {M:Nat->Prop} {L:lG} {w0:World} {blk:Nat->Option (Nat×Nat)} {V:Nat->Nat->Prop} {t:Nat->D} {h:Nat->Option Row} {a:Act} {w:World} {e:Nat} {o:Oper} {Γ:Env}
def abI (hΓ:bV P Γ) (hI:Inv N M L w0 blk V t (EH h) a w) {g d:Nat} {aj:Option Nat} {p:List D->Option (Nat×Nat×Nat×Nat×Nat×List D)} {H:List D} {vs:Array Value} {E:cH} (hd:aj=some d) (hV:kZ N V d e) (aG:∀o',¬V (NK d o') (4*e+2)) (hp:Γ.nx.res g=some p)
  (hE:K9 p e d (b9 (EH h) H)=some E) (ar:vs.size=H.length) (hr:∀(j:Nat) d,H[j]? = some d->RT w (Own M (EH h) blk) (EH h) blk V d (vs.getD j undef)):fl P g∧Calls P g vs w fun e' w'=>∃v,e'=.returned v∧lD N M L w0 V t h a e aj E v w':=by
 obtain⟨aH,X,ti,s,S,n,I,au,hs,f,rfl⟩:=Bg hE;obtain⟨av,T⟩:=hΓ.res g p hp;refine⟨av,?_⟩;have ab:=hI.GS au ⟨fun b h=>h,fun x hx=>by cases hx⟩ ar hr;refine (T _ _ _ _ _ _ _ hs w (Own M (EH h) blk) _ vs rfl (fun b hb=>hI.BW hb) ab).mono fun e' w' r =>?_;obtain⟨u,c,m,hbel,ak,hR,hu⟩:=r;refine⟨u,m,sD blk c d,?_⟩;have hA:=hI.le (Cz (h:=h) d f);generalize ad:cq h d (some (⟨e,X,[.nr ti s (4*e+2) I],false,true,true⟩:Row))=h2;have aw:aZ h [(d,some (⟨e,X,[.nr ti s (4*e+2) I],false,true,true⟩:Row))]=h2:=by rw[<- ad];rfl
 rw[aw];have A:h2 d=some ⟨e,X,[.nr ti s (4*e+2) I],false,true,true⟩:=by rw[<- ad,ay]
 have aI:∀k,rt k=d->EH (cq h d none) k=none:=fun k i=>Wh (by rw[i,ay]);have Y:∀k,rt k≠d->EH h2 k=EH (cq h d none) k:=fun k i=>fp (by rw[<- ad,aD _ _ i,aD _ _ i]);have Z:∀k,rt k≠d->sD blk c d k=blk k:=fun k i=>if_neg i;have U:sD blk c d d=c 0:=by unfold sD;rw[if_pos (Dd f),yG]
 have al:∀o,sD blk c d (NK d o)=c (NK 0 o):=fun o=>by unfold sD;rw[if_pos (ye f),og f]
 have B:∀k z,rt k=d->EH h2 k=some z->∃G,EH (pz (jS X ti s 0 I)) (J0 d k)=some G∧sD blk c d k=c (J0 d k):=by
  intro k z i m;have hq:sD blk c d k=c (J0 d k):=if_pos i;rcases fM A rfl rfl f i m with⟨rfl,_⟩|⟨o,n,xs,rfl,ho,_⟩
  ·rw[yG]at hq ⊢;exact⟨_,zG,hq⟩
  ·rw[og f]at hq ⊢;exact⟨_,xH ho,hq⟩
 have aa:∀b,Own M (EH h2) (sD blk c d) b->Own M (EH h) blk b∨zX c (EH (pz (jS X ti s 0 I))) b:=by
  intro b ae;rcases ae with ae|⟨k,z,g,i,ax,r,m⟩
  ·exact .inl (.inl ae)
  ·by_cases W:rt k=d
   ·obtain⟨G,q1,q2⟩:=B k z W i;exact .inr ⟨_,G,g,q1,by simp_all,m⟩
   ·rw[Y k W]at i;rw[Z k W]at r;refine .inl (.inr ⟨k,z,g,?_,ax,r,m⟩);rw[<- i];exact fp (by rw[aD _ _ W])
 have an:∀ {g:Nat×Nat} {G:Row},G.mp=false->fh w' (fun b=>Own M (EH h) blk b∨zX c (EH (pz (jS X ti s 0 I))) b) g G->fh w' (Own M (EH h2) (sD blk c d)) g G:=by
  intro g G az hr;unfold fh at hr ⊢;rw[az]at hr ⊢;obtain⟨J,R,k2,k3⟩:=hr;exact⟨J,R,k2,fun j d F=>⟨(k3 j d F).1,(k3 j d F).2.less aa⟩⟩
 have C:∀k z,rt k=d->EH h2 k=some z->∀g,sD blk c d k=some g->w.heap.size<=g.1:=by
  intro k z i m g r;obtain⟨G,q1,q2⟩:=B k z i m;exact ak g.1 ⟨_,G,g,q1,by simp_all,rfl⟩
 have ao:Inv N M L w0 (sD blk c d) (fun y v=>V y v∨(y=d∧v=e)) t (EH h2) a w':=by
  refine hA.ag0 (fun k=>rt k=d) (fun _ _ h =>.inl h) hbel.os hbel.tape hbel.output hbel.size (fun k i _=>hbel.block k i) (fun k z i m=>by simp_all) (fun k i=>⟨Y k i,Z k i⟩) ?_ ?_ ?_ ?_ ?_
  ·intro k z i m;rcases fM A rfl rfl f i m with⟨rfl,rfl⟩|⟨o,n,xs,rfl,ho,rfl⟩
   ·refine⟨rfl,fun hn =>.inr ⟨rfl,rfl⟩,?_⟩;rw[U];have q:=hR.rows 0 _ zG;cases r:c 0 with
    | none =>
     simp_all
    | some g0 =>
     rw[r]at q;have q:fh w' (fun b=>Own M (EH h) blk b∨zX c (EH (pz (jS X ti s 0 I))) b) g0 ⟨0,X,I.mapIdx (wO 0 s),false,true,true⟩:=q;refine⟨.inl (C k _ i m g0 (U.trans r)),?_⟩;unfold fh at q ⊢;simp only at q ⊢;rcases q with⟨ks,vs,R,_⟩|⟨_,J,k2,k3,k4⟩
     ·exfalso;simp only at R;have hl:I.length=1:=by
       have:=congrArg List.length R;simpa using this
      match I,hl with
      | [d],_ =>
       simp only[List.mapIdx_cons,List.mapIdx_nil,alO,and_true]at R;have:=oA 0 s 0 d;rw[R]at this;cases this
     ·refine .inr ⟨fun d hd =>?_,J,k2,by simpa using k3,fun j d F =>?_⟩
      ·obtain⟨j,F⟩:=alL hd;simp only[anK,alo]at F;obtain⟨d0,K,rfl⟩:=F;exact oA _ _ _ _
      ·simp only[anK,alo]at F;obtain⟨d0,K,rfl⟩:=F
       by_cases O:gN d0=true
       ·rw[mo O];have aA:(I.mapIdx (wO 0 s))[j]? = some d0:=by rw[anK,K];exact congrArg some (mo O)
        exact (gF O).2.2.2 (((gF O).2.2.1 (k4 j _ aA)).less aa)
       ·cases d0<;>first|trivial|exact absurd rfl O
   ·refine⟨rfl,fun hn=>by have:=jv d o;have:=hI.big;omega,?_⟩;have q:=hR.rows _ _ (xH ho);rw[al];cases r:c (NK 0 o) with
    | none=>simp_all
    | some g =>
     rw[r]at q;refine⟨.inl (C _ _ i m g ((al o).trans r)),an rfl ?_⟩;obtain⟨J,R,k2,k3⟩:=q;exact⟨J,R,k2,k3⟩
  ·intro k l G r2 g g' i hl m ag r aJ aB;obtain⟨q1,p1,p2⟩:=B k G i m;obtain⟨q2,p3,p4⟩:=B l r2 hl ag;have e1:=hR.inj _ _ _ _ g g' p1 p3 (by simp_all) (by simp_all) aB;rcases fM A rfl rfl f i m with⟨rfl,_⟩|⟨o,n,xs,rfl,ho,_⟩
   ·rcases fM A rfl rfl f hl ag with⟨rfl,_⟩|⟨o',n',aC,rfl,aE,_⟩
    ·rfl
    ·rw[yG,og f]at e1;have:=jv 0 o';omega
   ·rcases fM A rfl rfl f hl ag with⟨rfl,_⟩|⟨o',n',aC,rfl,aE,_⟩
    ·rw[yG,og f]at e1;have:=jv 0 o;omega
    ·rw[og f,og f]at e1;rw[(w8 qG qG e1).2]
  ·intro k z i hv m;rcases fM A rfl rfl f i m with⟨rfl,rfl⟩|⟨o,n,xs,rfl,ho,rfl⟩
   ·exact absurd hv hV.no
   simp_all
  ·intro k z g i m ai r j x' s' n F;rcases fM A rfl rfl f i m with⟨rfl,rfl⟩|⟨o,n',xs,rfl,ho,rfl⟩;rotate_left
   ·cases ai
   simp only[anK,alo]at F;obtain⟨d0,K,aF⟩:=F;obtain⟨aK,rfl,rfl,rfl⟩:=uK aF;rw[U]at r;obtain⟨_,u,R,k2⟩:=hR.pha 0 _ g zG rfl r j (NK 0 j) s' n (by simp only[anK,K,Option.map_some,wO]);refine⟨⟨f,.inr rfl⟩,u,R,fun _ _ =>?_⟩;have:=k2 _ (xH K);simp_all
  ·intro y z j x' s' n hy m ai F aq;have Q:=(hA.rows y z m).2;cases r:blk y with
   | none =>
    rw[r]at Q;have Q:z.cells=[]:=Q;simp_all
   | some g =>
    obtain⟨q1,q2⟩:=(hA.pha y z g m ai r j x' s' n F).1;rcases q2 with rfl|rfl
    ·have:rt (PK+y)=PK+y:=jU (by omega);omega
    ·rw[ye q1]at aq;rw[Dd q1]at hy;exact hy aq
 refine⟨ao.weaken fun x v hx =>?_,.inr ⟨hd,rfl⟩,fun z _ _ =>?_⟩
 ·grind
 ·rw[U];exact hu.2 ⟨0,0,[],false,false,false⟩ rfl rfl
def Hh (s:Inv N M L w0 blk V t h a w) {c:Call} {f:Operand} {g:Nat} (A:o.op=.call c) (B:c.callee=.value f) (C:ev t f=.fn g) {Φ:Value->World->Prop}
  (D:∀m:Array Value,m.size=(c.args.toList.map (ev t)).length->(∀(j:Nat) d,(c.args.toList.map (ev t))[j]? = some d->RT w (Own M h blk) h blk V d (m.getD j undef))->fl P g∧Calls P g m w fun E F=>∃v,E=.returned v∧Φ v F):fm P o a w Φ:=by
 have i:=s.ev f;have b:∀(j:Nat) d,(c.args.toList.map (ev t))[j]? = some d->RT w (Own M h blk) h blk V d ((c.args.map a.eval).getD j undef):=by
  intro j d l;rw[aln]at l;cases y:c.args.toList[j]? with
  | none=>simp[y]at l
  | some x =>
   simp only[y,Option.map_some,alz]at l;subst l;have:(c.args.map a.eval).getD j undef=a.eval x:=by
    simp_all
   rw[this];exact s.ev x
 have n:(c.args.map a.eval).size=(c.args.toList.map (ev t)).length:=by simp
 rw[C]at i;have k:a.eval f=.func (.func g) #[] #[]:=by
  have p:RP w (Own M h blk) (.fn g) (a.eval f):=i;generalize a.eval f=u at *;cases p;rfl
 obtain⟨⟨z,q,e,r⟩,G⟩:=D _ n b;have H:¬z.name = "runtime.NumGoroutine":=by simpa using e
 have I:¬z.body=none:=by
  grind
 exact .inr (.inr ⟨g,#[]++c.args.map a.eval++#[],by simp[execOp,A,resolve,B,k,Deferred.ofValue,invoke,callFunc,program,Sem.run,q,H,I],by simpa using G⟩)
end
def jZ (a:Operand->D):Op->Option (D×List D)
 | .call c=>match c.callee with | .value f=>some (a f,c.args.toList.map a)|_=>none
 | _=>none
def rN {b:Operand->D} {d:Op} {q:D} {a:List D} (e:jZ b d=some (q,a)):∃c f,d=.call c∧c.callee=.value f∧q=b f∧a=c.args.toList.map b:=by
 unfold jZ at e;grind
def Fi (Γ:Env) (e:Nat) (h:Nat->Option Row):Option (D×List D)->Option cH
 | some (.fn g,args)=>wm Γ e h g args
 | _=>none
def Hw (e d:Nat) (h:Nat->Option Row) (a:List D):Option (List D->Option (Nat×Nat×Nat×Nat×Nat×List D))->Option cH
 | some p=>K9 p e d (b9 (EH h) a)
 | none=>none
def rQ (Γ:Env) (e:Nat) (h:Nat->Option Row):Option Nat->Option (D×List D)->Option cH
 | some d,some (.fn g,args)=>Hw e d h args (Γ.nx.res g)
 | _,_=>none
def y6 (T:Nat->Option Ty) (Γ:Env) (e:Nat) (o:Oper) (a:Operand->D) (h:Nat->Option Row):Option cH :=
 match o.op with
 | .load b p=>match T b with|some τ=>y5 τ h (a p)|none=>none
 | .store b p x=>match T b with|some τ=>y7 τ e h (a p) (a x)|none=>none
 | .call c=>Fi Γ e h (jZ a (.call c))
 | _=>none
def or2 (h:Nat->Option Row):Option cH->Option cH->Option cH
 | some ⟨v,hw⟩,_=>some ⟨v,nw h hw⟩
 | none,y=>y
def tj (T:Nat->Option Ty) (Γ:Env) (e:Nat) (o:Oper) (a:Operand->D) (h:Nat->Option Row):Option cH :=
 match jy T Γ e o a with
 | some E=>some E
 | none =>
  match rQ Γ e h o.dst (jZ a o.op) with
  | some E=>some E
  | none=>or2 h (uO T Γ e o a (EH h)) (y6 T Γ e o a h)
def di (o:Oper) (a:Operand->D):List Nat:=(jm o a).map rt
def VE (N e:Nat) (done:List Nat) (h:Nat->Option Row) (x v:Nat):Prop:=(x<N∧(v<e∨(v=e∧x∈done))) ∨
 (2*PK<=x∧v<=4*e+3∧(x % PK∉done->v<=4*e+1)∧∀r b s a c,h (x % PK)=some r->r.mp=true->r.cells=[.nr b s a c]->v<=a)
def JX (e:Nat) (done:List Nat) (h:Nat->Option Row):Prop:=∀x r a s nv b,h x=some r->r.mp=true->r.cells=[.nr a s nv b]->x<PK->nv<=4*e+3∧(x∉done->nv<=4*e+1)
def jJ (e:Nat) (h h':Nat->Option Row):Prop:=∀x r' b f a c,h' x=some r'->r'.mp=true->r'.cells=[.nr b f a c]->x<PK->∃r g s d i,h x=some r∧r.mp=true∧r.cells=[.nr g s d i]∧(a=d∨bump d e=some a)
def jJ.refl (e:Nat) (h:Nat->Option Row):jJ e h h:=fun x r a s b c d f g _=>⟨r,a,s,b,c,d,f,g,.inl rfl⟩
def NT {b e a:Nat} (h:bump b e=some a):b<a∧(a=4*e+1∨(b=4*e+2∧a=4*e+3)):=by
 unfold bump at h;grind
def JX.step {e:Nat} {done a:List Nat} {h h':Nat->Option Row} (i:JX e done h) (j:jJ e h h') (y:∀x,x∈done->x∈a):JX e a h':=by
 intro x k b l c d m n o g;obtain⟨r,p,s,q,t,u,v,w,f⟩:=j x k b l c d m n o g;obtain⟨z,A⟩:=i x r p s q t u v w g;rcases f with rfl|f
 ·grind
 ·obtain⟨B,C⟩:=NT f;grind
def VE.step {N e:Nat} {done a:List Nat} {h h':Nat->Option Row} (m:jJ e h h') (l:∀x,x∈done->x∈a) {x v:Nat} (n:VE N e done h x v):VE N e a h' x v:=by
 rcases n with⟨b,c⟩|⟨b,c,h3,o⟩
 ·exact .inl ⟨b,c.imp id fun⟨d,f⟩=>⟨d,l x f⟩⟩
 ·refine .inr ⟨b,c,fun hn=>h3 fun h=>hn (l _ h),fun p g q i j t u w =>?_⟩;obtain⟨r,y,s,z,A,d,f,B,k⟩:=m _ p g q i j t u w (Mu _);have:=o r y s z A d f B;rcases k with rfl|k
  ·exact this
  ·have:=(NT k).1;omega
def JX.aiW {N e:Nat} {done:List Nat} {h:Nat->Option Row} (c:JX e done h):VNr (VE N e done h) h:=by
 intro x r d s f g b i j a o;obtain⟨k,l⟩:=c x r d s f g b i j a;refine .inr ⟨jv x o,k,by rw[yD o a];exact l,fun t m u n p q v w =>?_⟩;rw[yD o a,b]at q;simp_all
def JX.new {N e:Nat} {done:List Nat} {h:Nat->Option Row} (p:JX e done h) (q:N<=PK):aeL (VE N e done h) h e:=by
 intro x r b s c d f g i j k a o l;have m:=jv x o;have:=gh;rcases l with⟨t,_⟩|⟨_,_,_,n⟩
 ·omega
 ·have u:=n r b s c d (by rw[yD o k];exact g) i j;have v:=(NT a).1;omega
def Rc (e:Nat):∀(l:List (Nat×Option Row)) (h:Nat->Option Row),jJ e h (aZ h (nw h l))
 | [],h =>.refl e h
 | (k,r)::l,h=>by
  intro x p d t f g u v w y;obtain⟨G,z,H,A,B,a,I,n,J⟩:=Rc e l (cq h (rt k) (Da h k r)) x p d t f g u v w y
  by_cases b:x=rt k
  rotate_left
  ·rw[aD _ _ b]at a;grind
  ·rw[b,ay]at a;unfold Da at a;split at a
   ·exfalso;obtain⟨_,K,_⟩:=Ee (o:=0) a;unfold Kl at a;simp_all
   ·rename_i i;have C:rt k=k % PK:=by unfold rt;rw[if_neg i]
    rw[alo]at a;obtain⟨q,L,c⟩:=a;unfold Jb at c;split at c
    ·rename_i j;split at c
     ·rename_i D s E F m;subst c;simp only at n;refine⟨q,D,s,E,F,by simp_all,j,m,?_⟩;unfold Js at n;grind
     grind
    simp_all
section
variable {P:Program} {T:Nat->Option Ty} {N:Nat} {M:Nat->Prop} {L:lG} {w0:World} {blk:Nat->Option (Nat×Nat)} {t:Nat->D} {h h':Nat->Option Row} {a:Act} {w:World} {e:Nat} {o:Oper} {Γ:Env} {done:List Nat}
def jJ.set {x:Nat} {r g:Row} {j s c a d k:Nat} {l f:List D} (u:h x=some r) (v:r.mp=true) (w:r.cells=[.nr j s c l]) (m:g.cells=[.nr d k a f]) (z:a=c∨bump c e=some a):jJ e h (cq h x (some g)):=by
 intro y A n B o p i q t C
 by_cases b:y=x
 ·subst b;rw[ay]at i;grind
 ·rw[aD _ _ b]at i;grind
def jJ.drop {y:Nat} (g:jJ e (cq h y none) h'):jJ e h h':=by
 intro x i b j c d l m n o;obtain⟨r,p,s,q,t,f,k⟩:=g x i b j c d l m n o
 by_cases a:x=y
 ·subst a;rw[ay]at f;cases f
 ·rw[aD _ _ a]at f;grind
def LM {τ:Ty} {d:D} {E:cH} (a:ua τ h d=some E):E.hw=[]:=by
 unfold ua at a;split at a<;>try (cases a;done)
 split at a<;>try (cases a;done)
 unfold OC at a;grind
def UO {τ:Ty} {d:D} {E:cH} (a:tZ τ h d=some E):jJ e h (aZ h E.hw):=by
 unfold tZ at a;split at a<;>try (cases a;done)
 split at a<;>try (cases a;done)
 rename_i r j s k l b;obtain⟨c,m,n,f,g,i⟩:=j9 b;split at a<;>try (cases a;done)
 unfold Vf at a;split at a<;>try (cases a;done)
 cases a;exact jJ.set c f i rfl (.inl rfl)
def US {τ:Ty} {p d:D} {E:cH} (a:ud τ e h p d=some E):jJ e h (aZ h E.hw):=by
 unfold ud at a;split at a<;>try (cases a;done)
 split at a<;>try (cases a;done)
 rename_i r m s n o b;obtain⟨c,q,t,f,g,i⟩:=j9 b;split at a<;>try (cases a;done)
 unfold VM at a;split at a<;>try (cases a;done)
 split at a<;>try (cases a;done)
 unfold stZ at a;split at a<;>try (cases a;done)
 rename_i j k l _;cases a;exact jJ.set c f i rfl (.inr l)
def UR {τ:Ty} {p d:D} {E:cH} (a:qN τ e h p d=some E):jJ e h (aZ h E.hw):=by
 unfold qN at a;split at a<;>try (cases a;done)
 rename_i l B m;split at a<;>try (cases a;done)
 rename_i r n s o t u;obtain⟨g,C,F,i,v,j⟩:=j9 u;split at a<;>try (cases a;done)
 have b:∀ {k:Option (List D)},Pd τ l r n s o t m k=some E->jJ e h (aZ h E.hw):=by
  intro k a;unfold Pd at a;split at a<;>try (cases a;done)
  split at a<;>try (cases a;done)
  cases a;exact jJ.set g i j rfl (.inl rfl)
 unfold KB at a;split at a
 ·rename_i w G H I J;split at a<;>try (cases a;done)
  split at a
  ·split at a<;>try (cases a;done)
   unfold Pb at a;split at a<;>try (cases a;done)
   split at a<;>try (cases a;done)
   cases a;exact jJ.set g i j rfl (.inl rfl)
  ·split at a<;>try (cases a;done)
   split at a<;>try (cases a;done)
   rename_i q c;split at a<;>try (cases a;done)
   unfold EC at a;split at a<;>try (cases a;done)
   rename_i x z;cases a;obtain⟨f,A⟩:=cX c;refine jJ.drop (y:=w) ?_;exact jJ.set (by
    rw[aD]
    ·exact g
    ·rintro rfl;rw[g]at f;cases f;have:=jR c;simp_all) i j rfl (.inr z)
 ·exact b a
structure w7 (N:Nat) (M:Nat->Prop) (L:lG) (w0:World) (blk:Nat->Option (Nat×Nat)) (e:Nat) (done:List Nat) (t:Nat->D) (h:Nat->Option Row) (a:Act) (w:World):Prop where
 inv:Inv N M L w0 blk (VE N e done h) t (EH h) a w
 nv:JX e done h
def Gy (N:Nat) (M:Nat->Prop) (L:lG) (w0:World) (t:Nat->D) (h:Nat->Option Row) (a:Act) (e:Nat) (done:List Nat) (E:cH) (v:Value) (c:World):Prop :=
 ∃b,w7 N M L w0 b e done t (aZ h E.hw) a c∧RT c (Own M (EH (aZ h E.hw)) b) (EH (aZ h E.hw)) b (VE N e done (aZ h E.hw)) E.val v
def UN (hT:ke P T) (hΓ:bV P Γ) (m:w7 N M L w0 blk e done t h a w) (hd:∀d:Nat,o.dst=some d->d∉done∧d<N) {E:cH} (j:tj T Γ e o (ev t) h=some E):fm P o a w (Gy N M L w0 t h a e (o.dst.toList++done) E):=by
 have B:=m.inv.big;have au:=gh;have hV:∀d:Nat,o.dst=some d->kZ N (VE N e done h) d e:=by
  intro d an;obtain⟨R,F⟩:=hd d an;replace F:(d:Nat)<N:=F;refine⟨fun hv =>?_,F⟩;rcases hv with⟨_,hv|⟨_,hv⟩⟩|⟨hv,_⟩
  ·omega
  ·exact R hv
  ·omega
 have hP:∀x v,VE N e done h x v->x<N∨2*PK<=x:=fun x v hv=>hv.imp (fun h=>h.1) (fun h=>h.1);have C:∀x,x∈done->x∈o.dst.toList++done:=fun x S=>alG _ S;have fin:jJ e h (aZ h E.hw)->∀ {v:Value} {y:World},lD N M L w0 (VE N e done h) t h a e o.dst E v y->Gy N M L w0 t h a e (o.dst.toList++done) E v y:=by
  intro Z v y k;obtain⟨G,H,I⟩:=k;have J:∀x n,VE N e done h x n∨(o.dst=some x∧n=e)->VE N e (o.dst.toList++done) (aZ h E.hw) x n:=by
   rintro x n (hv|⟨S,rfl⟩)
   ·exact hv.step Z C
   ·exact .inl ⟨(hd x S).2,.inr ⟨rfl,alF _ (by rw[S];simp)⟩⟩
  refine⟨G,⟨H.weaken J,m.nv.step Z C⟩,I.mono ⟨fun _ H I=>⟨H,I,rfl⟩,J,fun _ _ _ r' H I=>⟨⟨r',H,I⟩,rfl,fun _ _=>rfl⟩⟩⟩
 have fin2:∀ {E0:cH} {d:Nat} {r0:Row} {z s:Nat} {U:List D},o.dst=some d->E0.hw=[(d,some r0)]->r0.mp=true->r0.cells=[.nr z s (4*e+2) U]->∀ {v:Value} {y:World},lD N M L w0 (VE N e done h) t h a e o.dst E0 v y->Gy N M L w0 t h a e (o.dst.toList++done) E0 v y:=by
  intro E0 d r0 z s U i K V q v y k;obtain⟨G,H,I⟩:=k;obtain⟨W,X⟩:=hd d i;have ae:aZ h E0.hw=cq h d (some r0):=by rw[K];rfl
  have J:∀x n,VE N e done h x n∨(o.dst=some x∧n=e)->VE N e (o.dst.toList++done) (aZ h E0.hw) x n:=by
   rintro x n (hv|⟨S,rfl⟩)
   ·rcases hv with⟨R,F⟩|⟨R,F,q3,q4⟩
    ·exact .inl ⟨R,F.imp id fun⟨p1,p2⟩=>⟨p1,C _ p2⟩⟩
    ·refine .inr ⟨R,F,fun hn=>q3 fun h=>hn (C _ h),fun r' ag s1 ai aj k1 k2 k3 =>?_⟩;rw[ae]at k1
     by_cases O:x % PK=d
     ·rw[O,ay]at k1;grind
     ·rw[aD _ _ O]at k1;grind
   ·exact .inl ⟨(hd x S).2,.inr ⟨rfl,alF _ (by rw[S];simp)⟩⟩
  refine⟨G,⟨H.weaken J,?_⟩,I.mono ⟨fun _ H I=>⟨H,I,rfl⟩,J,fun _ _ _ r' H I=>⟨⟨r',H,I⟩,rfl,fun _ _=>rfl⟩⟩⟩;intro x r' ag s1 ai aj k1 k2 k3 hp;rw[ae]at k1
  by_cases O:x=d
  ·subst O;rw[ay]at k1;simp_all
  ·rw[aD _ _ O]at k1;obtain⟨p1,p2⟩:=m.nv x r' ag s1 ai aj k1 k2 k3 hp;simp_all
 have ak:∀d:Nat,o.dst=some d->∀o',¬VE N e done h (NK d o') (4*e+2):=by
  intro d i o' hv;obtain⟨W,X⟩:=hd d i;have ao:(d:Nat)<PK:=alu X B;rcases hv with⟨hv,_⟩|⟨_,_,hv,_⟩
  ·omega
  ·have:=hv (by rw[yD o' ao];exact W);omega
 unfold tj at j;split at j
 ·rename_i E0 b;simp only[alz]at j;subst j;unfold jy at b;split at b<;>try (cases b;done)
  rotate_left
  ·rename_i ty Q;split at b<;>try (cases b;done)
   rename_i d i;split at b<;>try (cases b;done)
   rename_i z s f hn;split at b<;>try (cases b;done)
   rename_i τ Y;obtain⟨W,X⟩:=hd d i;have k:=acb hT m.inv Q i (hV d i) (ak d i) Y b;obtain⟨r0,K,V,q⟩:∃r0:Row,E0.hw=[(d,some r0)]∧r0.mp=true∧∃cs,r0.cells=[.nr z s (4*e+2) cs]:=by
    unfold mkA at b;split at b<;>try (cases b;done)
    cases b;simp_all
   obtain⟨U,q⟩:=q;exact k.mono fun v y k=>fin2 i K V q k
  rename_i ty l c Q;split at b<;>try (cases b;done)
  rename_i d i;split at b<;>try (cases b;done)
  rename_i z s f hn;split at b<;>try (cases b;done)
  rename_i τ Y;obtain⟨W,X⟩:=hd d i;have k:=acd hT m.inv Q i (hV d i) (fun o' hv=>by
   simp_all) Y b
  obtain⟨r0,K,V,q⟩:∃r0:Row,E0.hw=[(d,some r0)]∧r0.mp=true∧∃cs,r0.cells=[.nr z s (4*e+2) cs]:=by
   unfold sM at b;split at b<;>try (cases b;done)
   split at b<;>try (cases b;done)
   split at b<;>try (cases b;done)
   cases b;simp_all
  obtain⟨U,q⟩:=q;exact k.mono fun v y k=>fin2 i K V q k
 split at j
 ·rename_i E0 u;simp only[alz]at j;subst j;unfold rQ at u;split at u<;>try (cases u;done)
  rename_i d g al i aa;obtain⟨c,f,ab,ad,hq,A⟩:=rN aa;unfold Hw at u;split at u<;>try (cases u;done)
  rename_i p hp;obtain⟨_,z,ti,s',S',n',aq,_,_,_,av⟩:=Bg u;subst A;have k:=Hh m.inv ab ad hq.symm (fun vs R F=>abI hΓ m.inv i (hV d i) (ak d i) hp u R F);refine k.mono fun v y k =>?_;grind
 ·unfold or2 at j;split at j
  ·rename_i v0 hw he;simp only[alz]at j;subst j;have k:=Zx hT hΓ m.inv hV hP he;exact k.mono fun v y k=>fin (Rc e hw h) (k.le (Ra hw h))
  ·unfold y6 at j;split at j
   ·rename_i ty p Q;split at j<;>try (cases j;done)
    rename_i τ Y;unfold y5 orE at j;split at j
    ·rename_i E0 hF;simp only[alz]at j;subst j;exact (ab8 hT m.inv Q Y hF).mono fun v y k=>fin (UO hF) k
    ·exact (ab9 hT m.inv m.nv.aiW Q Y j).mono fun v y k=>fin (by rw[LM j];exact .refl e h) k
   ·rename_i ty p x Q;split at j<;>try (cases j;done)
    rename_i τ Y;unfold y7 orE at j;split at j
    ·rename_i E0 hF;simp only[alz]at j;subst j;exact (acg hT m.inv (m.nv.new B) Q Y hF).mono fun v y k=>fin (US hF) k
    ·exact (acf hT m.inv (m.nv.new B) Q Y j).mono fun v y k=>fin (UR j) k
   ·rename_i c Q;unfold Fi at j;split at j<;>try (cases j;done)
    rename_i g al aa;obtain⟨c',f,ab,ad,hq,A⟩:=rN aa;cases ab;subst A;refine (Hh m.inv Q ad hq.symm (fun vs R F=>abK hΓ m.inv (m.nv.new B) (dst:=o.dst) j R F)).mono fun v y k=>fin ?_ k;obtain⟨x,v,o',ar,r,ty,s,nv,cs,p,aw,ax,d,aq,_,hl,_,_,hb,_,_,rfl⟩:=xj j;obtain⟨S,_,_,hm,_,hc⟩:=j9 hl;exact jJ.set S hm hc rfl (.inr hb)
   ·cases j
end
end Go.Proofs.YtobnihfgnbnncaaGreat.Am
