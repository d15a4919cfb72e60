import Derived.Test.YtobnihfgnbnncaaGreatLa
set_option linter.unusedSimpArgs false
set_option linter.unusedVariables false
set_option linter.defProp false
noncomputable section
open Go.Proofs.Tryz
namespace Go.Proofs.YtobnihfgnbnncaaGreat.Am
open Go.RowKit
section
variable {P:Program} {T:Nat->Option Ty} {N:Nat} {M:Nat->Prop} {L:mc} {w0:World} {blk:Nat->Option (Nat×Nat)} {V:Nat->Nat->Prop} {t:Nat->D} {h:Nat->Option Row} {a:Act} {w:World} {e:Nat} {o:Oper} {Γ:Env}
def Inv.content(O:Inv N M L w0 blk V t h a w){d:D}{m s:Nat}{e:List D}{u:Value}(W:0<s)(f:content h d=some (m,e))(P:e.length=m*s)(J:RT w (Own M h blk) h blk V d u) :
  ∃(A:Option Addr)(c:Nat)(y:List Value),u=.slice A m c∧m<=c∧y.length=e.length∧(∀j x,e[j]? = some x->bH x=true∧RP w (Own M h blk) x (y.getD j undef)) ∧
   (∀B,A=some B->∀j v,y[j]? = some v->w.cell? (B.add j)=some v)∧(A=none->m=0∧c=0):=by
 cases d with
 | sl nl tight n xs =>
  simp only[Am.content,anf,Prod.mk.injEq]at f;obtain⟨rfl,rfl⟩:=f;have G:RP w (Own M h blk) (.sl nl tight n xs) u:=J;cases G with
  | sl A c nl tight n xs y h1 h2 h3 h4 h5 h6 h7 h8 =>
   refine⟨A,c,(List.range xs.length).map y,rfl,h1,by simp,fun j x i=>⟨h8 x (anv i),?_⟩,fun B l j v i =>?_,h4⟩
   ·grind
   ·obtain⟨k,C⟩:=anx.1 i;simp only[anz,anA]at k;simp only[List.getElem_map,List.getElem_range]at C;have H:xs≠[]:=by grind
    obtain⟨b,o,p,_,_,F⟩:=h6 H;rw[l]at p;simp only[anf]at p;subst p;rw[uo,<- C];exact F j k
 | buf x v z q n =>
  simp only[Am.content]at f;split at f
  ·rename_i r I;split at f
   ·rename_i Q;simp only[anf,Prod.mk.injEq]at f;obtain⟨rfl,rfl⟩:=f;rcases O.De I J with⟨g,X,c,cs,R,S,K,F,T,U,Y,Z⟩|⟨R,rfl,K,A,F⟩
    ·have E:((r.cells.drop q).take (n*z)).length=n*z:=by simp;omega
     rw[E]at P;refine⟨_,c,(List.range (n*z)).map (fun j=>cs.getD (g.2+(q+j)) undef),S,K,by simp;omega,fun j x i =>?_,fun B l j v i =>?_,fun l=>by cases l⟩
     ·grind
     ·obtain⟨k,C⟩:=anx.1 i;simp only[anz,anA]at k;simp only[List.getElem_map,List.getElem_range]at C;simp only[anf]at l;subst l;have hn:0<n:=by
       grind
      have:=(U (.inl (by omega))).1;subst this;rw[uo,<- C,anp];exact bm T (by omega)
    ·refine⟨A,0,[],F,am6 _,by simp,fun j x i=>by simp at i,fun B l j v i=>by simp at i,fun _=>⟨rfl,rfl⟩⟩
   ·cases f
  ·cases f
 | _=>simp[Am.content]at f
def appended{M':Nat->Prop}{olds news:List D}{xs us:List Value}{cur:Array Value}{b:Nat}(d:xs.length=olds.length)(e:us.length=news.length)(a:(cur.toList.drop b).take (olds.length+news.length)=xs++us)
  (f:∀j x,olds[j]? = some x->bH x=true∧RP w M' x (xs.getD j undef)) (g:∀j x,news[j]? = some x->bH x=true∧RP w M' x (us.getD j undef)) (j:Nat) (x:D) (h:(olds++news)[j]? = some x) :
  bH x=true∧RP w M' x (cur.getD (b+j) undef):=by
 have c:j<olds.length+news.length:=by
  grind
 have i:cur.getD (b+j) undef=(xs++us).getD j undef:=by
  rw[<- a];simp only[anG,anw,if_pos c,ant];simp
 grind
def aeY{d:Nat->Prop}{a:List D}{b:List Value}(e:b.length=a.length)(f:∀j x,a[j]? = some x->bH x=true∧RP w d x (b.getD j undef)):∀u∈b,u.oneCell'=true:=by
 intro u g;obtain⟨j,h⟩:=anq g;have i:=(anx.1 h).1;obtain⟨k,c⟩:=f j _ (anj (by omega));have:b.getD j undef=u:=by simp_all
 rw[this]at c;exact c.tL k
def s6(t g el:Nat){τ:Ty}(d:P.underlying t=some (.slice el)){φ:Ty}(e:eY P el φ)(A B:Option Addr)(n c k:Nat)(f:n<=c):(Builtin.append_ #[t,t] g #[.slice A n c,.slice B 0 k]).run P w=.ok (.slice A n c) w:=by
 have a:(Builtin.firstCells φ.size 0 (.slice B 0 k)).run P w=.ok #[] w:=by
  cases B with
  | none=>simp[Builtin.firstCells]
  | some b=>simp[Builtin.firstCells,loadCells,loadCellsFrom]
 cases A with
 | none=>simp[Builtin.append_,run_underlying d,run_sizeOf e,Builtin.lenOf,f,a]
 | some b=>simp[Builtin.append_,run_underlying d,run_sizeOf e,Builtin.lenOf,f,a,storeCells]
def KA(t r el:Nat){φ:Ty}(C:P.underlying t=some (.slice el))(I:eY P el φ)(D:0<φ.size)(J:φ.zero.length=φ.size)(A:Option Addr)(n a:Nat)(d:List Value)(l:d.length=n*φ.size)
  (s:∀o,A=some o->∀j u,d[j]? = some u->w.cell? (o.add j)=some u) (K:A=none->n=0∧a=0) (b:Addr) (m c:Nat) (e:List Value) (h:e.length=m*φ.size)
  (p:∀j u,e[j]? = some u->w.cell? (b.add j)=some u) (E:a<n+m) (q:n+m<=maxLen) (L:(n+m)*φ.bytes<=140737488355328) :
  ∃k f,(Builtin.append_ #[t,t] r #[.slice A n a,.slice (some b) m c]).run P w=.ok (.slice (some ⟨w.heap.size,0,none⟩) (n+m) k) (w.drew.alloc (.cells f el))∧n+m<=k∧k<=maxLen∧k*φ.size=f.size∧f.toList.take ((n+m)*φ.size)=d++e:=by
 obtain⟨S,i,z,T,U,F,v,M,G,V⟩:=I.get;have x:z.cells.size=φ.size:=by simp_all
 have g:((n+m:Nat):Int)<=9223372036854775807:=by simp only[maxLen]at q;omega
 have H:(d++e).length=(n+m)*φ.size:=by grind
 have N:=grownCap_ge w (n+m) a el;have O:grownCap w (n+m) a el<=maxLen:=grownCap_le_maxLen w (n+m) a el q;have Q:∀f:Array Value,f=d.toArray++e.toArray++Builtin.zeroCells z.cells (grownCap w (n+m) a el-(n+m))->grownCap w (n+m) a el*φ.size=f.size∧f.toList.take ((n+m)*φ.size)=d++e:=by
  intro f y;subst y;refine⟨?_,?_⟩
  ·simp only[Array.size_append,aoe,size_zeroCells,x,l,h,<- Nat.add_mul];congr 1;omega
  grind
 cases A with
 | some o =>
  have R:=run_append_grow (P:=P) w t r el i z C F G o n a d (by rw[v];exact l) (s o rfl) b m c e (by rw[v];exact h) p E g (growslice_fits E (by rw[M];exact L));grind
 | none =>
  obtain⟨rfl,rfl⟩:=K rfl;have B:d=[]:=aod (by omega);subst B;have R:=run_append_nil (P:=P) w t r el i z C F G b m c e (by rw[v];exact h) p (by omega) (by simpa using g) (by grind);grind
def LM(t r el:Nat){φ:Ty}(s:P.underlying t=some (.slice el))(v:eY P el φ)(g q n e:Nat)(a:Array Value)(x:w.heap[g]? = some (.cells a el (0,0)))(b:Addr)(m c:Nat)(d:List Value)(k:d.length=m*φ.size)
  (l:∀j u,d[j]? = some u->w.cell? (b.add j)=some u) (y:∀u∈d,u.oneCell'=true) (f:n+m<=e) (o:q+n*φ.size+d.length<=a.size) :
  (Builtin.append_ #[t,t] r #[.slice (some ⟨g,q,none⟩) n e,.slice (some b) m c]).run P w =
   .ok (.slice (some ⟨g,q,none⟩) (n+m) e) (w.setRow g (a.toList.take (q+n*φ.size)++d++a.toList.drop (q+n*φ.size+d.length)).toArray):=by
 obtain⟨C,i,z,D,E,A,p,F,G,H⟩:=v.get;have B:=run_firstCells_some (P:=P) w i.size m b m c d (by rw[p];exact k) l;have h:=run_storeCells_at P g (q+n*i.size) el d 0 a w x (by simp_all) y;simp only[Nat.add_zero]at h;rw[<- p];simp[Builtin.append_,run_underlying s,sizeOf,typeInfo,A,Builtin.lenOf,f,B,uo,h]
def Es{α:Type}(l c a:List α)(b k:Nat)(h:b+k<=l.length):((l.take (b+k)++c++a).drop b).take (k+c.length)=(l.drop b).take k++c:=by
 have d:((l.drop b).take k).length=k:=by simp;omega
 grind
def R8(hT:km P T)(Q:Inv N M L w0 blk V t h a w){c:Call}{s x:Operand}{I d:Nat}{τ:Ty}{E:cI}(ho:o.op=.call c)(hc:c.callee=.builtin .append)(ao:c.args = #[s,x])(aC:c.argTypes = #[I,I])(hd:o.dst=some d)
  (hV:lE N V d e) (hτ:T I=some τ) (l:lU T τ h e d (ev t s) (ev t x)=some E):fC P o a w (bz N M L w0 V t h a e o.dst E):=by
 have Z:=Q.ev s;have aq:=Q.ev x;generalize ev t s=qs at *;generalize ev t x=qx at *;obtain⟨dd,aa,aD⟩:=under hT hτ;have p:∀v w',(Builtin.append_ #[I,I] o.type #[a.eval s,a.eval x]).run P w=.ok v w'->(execOp a.eval o).run P w=.ok (.value v) w':=by
  intro v w' hr;simp[execOp,ho,resolve,hc,ao,aC,invoke,builtin,hr]
 unfold lU at l;split at l
 ·rename_i el aN;rw[aN]at aD;have:=iN aD;subst this;split at l
  ·rename_i φ m news hφ J;split at l
   ·rename_i f;have grow:∀(C:Option Nat)(A:Option Addr)(n cap:Nat)(xs:List Value)(olds:List D),(∀y,C=some y->∃r,h y=some r∧r.fz=false)->a.eval s=.slice A n cap->n<=cap->(A=none->n=0∧cap=0)->xs.length=n*φ.size->olds.length=xs.length ->
      (∀ad,A=some ad->∀j u,xs[j]? = some u->w.cell? (ad.add j)=some u)->(∀(j:Nat) x,olds[j]? = some x->bH x=true∧RP w (Own M h blk) x (xs.getD j undef))->cap<n+m->n+m<=maxLen->(n+m)*φ.bytes<=140737488355328->news.length=m*φ.size ->
      E=⟨.buf d e φ.size 0 (n+m),(match C with|some y=>[(y,none)]|none=>[])++[(d,some ⟨e,el,olds++news,false,true,false⟩)]⟩->fC P o a w (bz N M L w0 V t h a e o.dst E):=by
     intro C A n cap xs olds aE hs bf hA aF ab aO ar aQ aR aS aG aU;obtain⟨B,Y,R,S,ak,ae,ag,ah,au⟩:=Q.content f.1 J aG aq;cases B with
     | none =>
      grind
     | some b =>
      obtain⟨k,vs,F,g1,g2,g3,g4⟩:=KA (P:=P) (w:=w) I o.type el aa (hT el φ hφ) f.1 f.2 A n cap xs aF aO hA b m Y R (by omega) (ah b rfl) aQ aR aS;have hb:Below w.heap.size w (w.drew.alloc (.cells vs el)):=((Below.refl _ _).drew).alloc (by simp) _;refine aP (p _ _ (by rw[hs,S];exact F)) ?_;have:=Q.fresh (old:=C) (dst:=o.dst) (e:=e) (d:=d) (ty:=el) (s:=φ.size) (n:=n+m) (cells:=olds++news) (w':=w.drew.alloc (.cells vs el)) (v:=.slice (some ⟨w.heap.size,0,none⟩) (n+m) k) hd hV (fb.xi hb) aE
       (.inl ⟨(w.heap.size,0),k,vs,rfl,.inl (am6 _),by simpa using heap_alloc_new w.drew (.cells vs el),g1,g2,by simpa using g3,?_,fun j y hj =>?_⟩)
      ·subst aU;unfold bz;cases C with
       | none=>exact this
       | some y=>exact this
      ·simp only[an5,an7,ab,aF,aG,<- Nat.add_mul];rw[<- g3];exact anM _ g1
      ·have U:=appended (b:=0) (M':=Own M h blk) (w:=w) (olds:=olds) (news:=news) (xs:=xs) (us:=R) (cur:=vs) ab.symm ae (by grind) ar ag j y hj;simp only[an5]at U ⊢;refine⟨U.1,U.2.keep fun b k1 k2=>⟨am9 k1 hb.size,fun av =>?_,hb.block b k1⟩⟩;rcases av with av|rfl
       ·exact k2 (CR av)
       ·omega
    split at l
    ·rename_i nl tight n xs;split at l
     ·rename_i K;obtain⟨k1,k2,k3,k4,k5⟩:=K;split at l
      ·rename_i hm;subst hm;simp only[anf]at l;subst l;obtain⟨A,cx,R,S,ak,ae,ag,ah,au⟩:=Q.content f.1 J k5 aq;obtain⟨B,Y,ai,W,G,_⟩:=Q.content (d:=.sl nl tight n xs) f.1 rfl k4 Z;refine aP (p _ _ (by rw[W,S];exact s6 (τ:=τ) I o.type el aa (hT el φ hφ) B A n Y cx G)) (bz.fa Q ?_);simp_all
      ·rename_i hm;simp only[anf]at l;obtain⟨B,Y,ai,W,G,aV,aw,ax,ay⟩:=Q.content (d:=.sl nl tight n xs) f.1 rfl k4 Z;have aI:Y=n:=by
        have aJ:RP w (Own M h blk) (.sl nl tight n xs) (a.eval s):=Z;generalize a.eval s=u at *;cases aJ with
        | sl A' c' nl tight n xs bg h1 h2 h3 h4 h5 h6 h7 h8 =>
         grind
       subst aI;exact grow none B Y Y ai xs (fun y hy=>by cases hy) W G (fun h=>(ay h)) (by omega) (by omega) ax aw (by omega) k2 k3 k5 l.symm
     ·cases l
    ·rename_i y v zz q n;split at l
     ·rename_i r az;split at l
      ·rename_i K;obtain⟨k1,k2,k3,k4,k5,k6,k7⟩:=K;subst k1;simp only[anf]at l;obtain⟨aW,bh⟩:=da az;have aj:Am.content h (.buf y v φ.size q n)=some (n,(r.cells.drop q).take (n*φ.size)):=by simp only[Am.content,az,if_pos k4]
       have ab:((r.cells.drop q).take (n*φ.size)).length=n*φ.size:=by simp;omega
       obtain⟨B,Y,ai,W,G,aV,aw,ax,ay⟩:=Q.content f.1 aj ab Z
       by_cases O:n+m<=Y
       ·obtain⟨A,cx,R,S,ak,ae,ag,ah,au⟩:=Q.content f.1 J k7 aq;have aX:Y=0->fC P o a w (bz N M L w0 V t h a e o.dst E):=by
         intro h0;have aY:n=0:=by omega
         have aZ:m=0:=by omega
         subst aY aZ h0;have aA:news=[]:=aod (by omega);subst l aA;refine aP (p _ _ (by rw[W,S];exact s6 (τ:=τ) I o.type el aa (hT el φ hφ) B A 0 0 cx (am6 _))) ?_;have:=Q.fresh (old:=some y) (dst:=o.dst) (e:=e) (d:=d) (ty:=el) (s:=φ.size) (n:=0) (cells:=[]) (w':=w) (v:=.slice B 0 0) hd hV (fb.refl _ _) (fun y' aK=>by grind) (.inr ⟨rfl,rfl,B,rfl⟩);unfold bz;have e0:(r.cells.drop q).take (0*φ.size)++[]=[]:=by simp
         rw[e0];exact this
        rcases Q.De az Z with⟨g,o',H,X,g0,g1,g2,g3,g4,g5,g7,g8⟩|⟨g0,g1,g2,A',g3⟩
        ·have a1:H=Y:=by grind
         subst a1
         by_cases a6:0<H∨q=0
         ·obtain⟨a7,bj⟩:=g5 a6;subst a7;have aB:(n+m)*φ.size<=H*φ.size:=anM _ O;rw[Nat.add_mul]at aB;have aL:g.2+q+n*φ.size+R.length<=X.size:=by omega
          have aM:((X.toList.drop (g.2+q)).take (n*φ.size)).length=n*φ.size:=by simp;omega
          have F:∃i,(Builtin.append_ #[I,I] o.type #[a.eval s,a.eval x]).run P w=.ok (.slice (some ⟨g.1,g.2+q,none⟩) (n+m) H) (w.setRow g.1 i)∧i.size=X.size∧(i.toList.drop (g.2+q)).take (n*φ.size+m*φ.size)=(X.toList.drop (g.2+q)).take (n*φ.size)++R:=by
           rw[S,g1];cases A with
           | some ad =>
            refine⟨_,LM (P:=P) I o.type el aa (hT el φ hφ) g.1 (g.2+q) n H X (by grind) ad m cx R (by omega) (ah ad rfl) (aeY ae ag) O aL,by simp;omega,?_⟩;have:=Es X.toList R (X.toList.drop (g.2+q+n*φ.size+R.length)) (g.2+q) (n*φ.size) (by simp;omega);grind
           | none =>
            obtain⟨rfl,rfl⟩:=au rfl;have a8:R=[]:=aod (by omega);subst a8;refine⟨X,?_,rfl,by simp⟩;rw[setRow_self w g.1 X r.ty (0,0) g4];exact s6 (τ:=τ) I o.type el aa (hT el φ hφ) _ _ n H 0 g2
          obtain⟨i,F,bd,ba⟩:=F;subst l;have al:Own M h blk g.1:=.inr ⟨y,r,g,aW,k3,g0,rfl⟩;have hheap:∀b,b≠g.1->(w.setRow g.1 i).heap[b]? = w.heap[b]?:=by
           intro b hb;simp only[World.setRow,ang];grind
          have bb:(w.setRow g.1 i).heap.size=w.heap.size:=by simp[World.setRow]
          refine aP (p _ _ F) ?_;have:=Q.fresh (old:=some y) (dst:=o.dst) (e:=e) (d:=d) (ty:=el) (s:=φ.size) (n:=n+m) (cells:=(r.cells.drop q).take (n*φ.size)++news) (w':=w.setRow g.1 i) (v:=.slice (some ⟨g.1,g.2+q,none⟩) (n+m) H) hd hV
           ⟨rfl,rfl,rfl,by omega,fun b _ hb=>hheap b (fun he=>hb ⟨y,g,rfl,g0,he⟩)⟩ (fun y' aK=>by grind)
           (.inl ⟨(g.1,g.2+q),H,i,rfl,.inr ⟨y,g,rfl,g0,rfl⟩,by rw[<- k2];exact setRow_heap w g.1 X i r.ty (0,0) g4,O,g3,by omega,by grind,fun j z hj =>?_⟩)
          ·unfold bz;exact this
          ·have U:=appended (b:=g.2+q) (M':=Own M h blk) (w:=w) (olds:=(r.cells.drop q).take (n*φ.size)) (news:=news) (xs:=(X.toList.drop (g.2+q)).take (n*φ.size)) (us:=R) (cur:=i) (by rw[ab,aM]) ae (by grind)
            (fun j z hj=>by
             rw[lp]at hj;split at hj
             ·rename_i bc;have:=g8 _ _ hj;have he:((X.toList.drop (g.2+q)).take (n*φ.size)).getD j undef=X.getD (g.2+(q+j)) undef:=by
               simp only[anG,lp,if_pos bc,anp];simp
              rw[he];exact this
             ·cases hj) ag j z hj
           refine⟨U.1,U.2.keep fun b q1 q2=>⟨by omega,?_,hheap b (fun he=>q2 (he ▸ al))⟩⟩;rintro (hb|rfl)
           ·exact q2 (CR hb)
           ·exact q2 al
         grind
        grind
       ·exact grow (some y) B n Y ai _ (fun y' aK=>by grind) W G (fun h=>(ay h)) (by omega) (by omega) ax aw (by omega) k5 k6 k7 l.symm
      ·cases l
     ·cases l
    ·cases l
   ·cases l
  ·cases l
 ·cases l
end
section
variable {P:Program} {T:Nat->Option Ty} {N:Nat} {M:Nat->Prop} {L:mc} {w0:World} {blk:Nat->Option (Nat×Nat)} {V:Nat->Nat->Prop} {t:Nat->D} {h:Nat->Option Row} {a:Act} {w:World} {e:Nat} {o:Oper} {Γ:Env}
def UQ{s:Ds}{x:D}(a:kindOk s x=true):s.xt=false∧UP s=true:=by
 cases s<;>cases x<;>simp[kindOk]at a<;>exact⟨rfl,rfl⟩
def CW(m:km P T)(n:Nat){M':Nat->Prop}{us vs:List Value}:∀(F:List Field)(o:Nat)(a c:List D)(b:Bool),(∀f∈F,f.name ≠ "_")->oT T o (F.map fun f=>(f.type,f.offset)) a=true->eqL a c=some b ->
  (∀j x,a[j]? = some x->RP w M' x (us.getD (o+j) undef)∧o+j<us.length)->(∀j y,c[j]? = some y->RP w M' y (vs.getD (o+j) undef)∧o+j<vs.length) ->
  (forIn F ((none,()):Option Bool×Unit) fun f __s =>
   if f.name ≠ "_" then do
    let __do_lift <- part f.type us.toArray f.offset
    let __do_lift_1 <- part f.type vs.toArray f.offset
    let __do_lift <- Op.equalIn (n+1) f.type __do_lift __do_lift_1
    if (!__do_lift)=true then pure (ForInStep.done (some false,())) else pure (ForInStep.yield (none,()))
   else (pure (ForInStep.yield (none,())):Sem _)).run P w=.ok (if b then (none,()) else (some false,())) w
 | [],o,a,c,b,hn,e,d,q,r=>by
  cases a with
  | nil =>
   cases c with
   | nil =>
    simp only[eqL,anf]at d;simp_all
   | cons y c=>simp[eqL]at d
  | cons x a=>simp[oT]at e
 | f::F,o,a,c,b,hn,e,d,q,r=>by
  cases a with
  | nil=>simp[oT]at e
  | cons x a =>
   cases c with
   | nil=>simp[eqL]at d
   | cons y c =>
    simp only[anb,oT,anF,beq_iff_eq]at e;obtain⟨⟨L,p⟩,H⟩:=e;simp only[eqL]at d;split at d
    ·rename_i I J h s;simp only[anf]at d;subst d;split at p
     ·rename_i φ t;obtain⟨i,u⟩:=q 0 x rfl;obtain⟨k,v⟩:=r 0 y rfl;rw[anE]at i u k v;obtain⟨G,K⟩:=UQ p;have A:(part f.type us.toArray f.offset).run P w=.ok (us.getD o undef) w:=by
       have l:us.toArray[f.offset]? = some (us.getD o undef):=by simp_all
       simp only[part,anB,pG (m _ _ t),G,Result.andThen_ok,anD,if_false,l];rfl
      have B:(part f.type vs.toArray f.offset).run P w=.ok (vs.getD o undef) w:=by
       have l:vs.toArray[f.offset]? = some (vs.getD o undef):=by simp_all
       simp only[part,anB,pG (m _ _ t),G,Result.andThen_ok,anD,if_false,l];rfl
      have C:=(aha m t K i k h n).2 (aaV h p);have M:=CW m n F (o+1) a c J (fun g l=>hn g (by simp[l])) H s (fun j z E=>by have:=q (j+1) z E;rwa [show o+(j+1)=o+1+j by omega]at this) (fun j z E=>by have:=r (j+1) z E;rwa [show o+(j+1)=o+1+j by omega]at this);rw[List.forIn_cons];simp only[anB];rw[if_pos (hn f (by simp))];simp only[anB,A,Result.andThen_ok,B,C];cases I with
      | false=>rfl
      | true =>
       simp_all
     ·cases p
    ·cases d
def run_equalIn_bool(n:Nat){a:Nat}(b:P.underlying a=some .bool)(i j:Bool):(Op.equalIn (n+1) a (.bool i) (.bool j)).run P w=.ok (i==j) w:=by
 simp[Op.equalIn,run_underlying b]
def run_equalIn_struct(n:Nat){d:Nat}{F:Array Field}(e:P.underlying d=some (.struct F))(g:P.stoodInHeld d=false){us vs:List Value}{b:Bool}
  (a:(forIn F.toList ((none,()):Option Bool×Unit) fun f __s =>
   if f.name ≠ "_" then do
    let __do_lift <- part f.type us.toArray f.offset
    let __do_lift_1 <- part f.type vs.toArray f.offset
    let __do_lift <- Op.equalIn (n+1) f.type __do_lift __do_lift_1
    if (!__do_lift)=true then pure (ForInStep.done (some false,())) else pure (ForInStep.yield (none,()))
   else (pure (ForInStep.yield (none,())):Sem _)).run P w=.ok (if b then (none,()) else (some false,())) w) :
  (Op.equalIn (n+1+1) d (.agg us.toArray) (.agg vs.toArray)).run P w=.ok b w:=by
 have c:(program:Sem Program).run P w=.ok P w:=rfl;rw[Op.equalIn];simp only[anB,run_underlying e,Result.andThen_ok,c,g,anD,if_false];rw[<- Array.forIn_toList,a];cases b<;>rfl
def ZJ(I:km P T)(hI:Inv N M L w0 blk V t h a w){r:Nat}{τ:Ty}(R:T r=some τ){x y:D}{u v:Value}{b:Bool}(J:RT w (Own M h blk) h blk V x u)(K:RT w (Own M h blk) h blk V y v)(e:eqD T τ x y=some b) :
  (Op.equal r u v).run P w=.ok b w∧(∀(p q:Operand)(g:BinOp),(eqGuard g r p q u v).run P w=.ok () w)∧(∀g,g=.eql∨g=.neq->binOp g r u v=(match g with | .eql=>(do pure (.bool (<- Op.equal r u v)):Sem Value)|_=>do pure (.bool (!(<- Op.equal r u v))))):=by
 obtain⟨d,H,E⟩:=under I R;unfold eqD at e;split at e
 ·rename_i i j;have W:=A4 J;have X:=A4 K;subst W X;split at e
  ·rename_i k;rw[k]at E;have:=Bf E;subst this;simp only[anf]at e;subst e;refine⟨run_equalIn_bool 9999 H i j,fun p q g=>by cases g<;>rfl,fun g l =>?_⟩;rcases l with rfl|rfl<;>rfl
  ·cases e
 ·rename_i Y S n G;have s:RP w (Own M h blk) (.sl Y S n G) u:=J;have z:RP w (Own M h blk) (.sl true true 0 []) v:=K;split at e
  ·rename_i el k;rw[k]at E;have:=iN E;subst this;cases z with
   | sl A c _ _ _ _ us h1 h2 h3 h4 h5 h6 h7 h8 =>
    obtain⟨rfl,rfl⟩:=(h3 rfl).1 rfl;cases s with
    | sl B Z _ _ _ _ aa g1 g2 g3 g4 g5 g6 g7 g8 =>
     have hr:=run_equal_slice_nil (P:=P) w r el B n Z H;refine⟨?_,fun p q g=>by cases g<;>rfl,fun g l =>?_⟩
     ·rw[hr];have hB:B.isNone=b:=by
       unfold ag0 at e;split at e
       ·rename_i U;simp only[anf]at e;subst e;cases B with
        | none=>simp_all
        | some _=>rfl
       ·split at e
        ·rename_i ab;simp only[anf]at e;subst e;cases ad:S with
         | true=>simp_all
         | false =>
          cases B with
          | none=>simp_all
          | some _=>rfl
        ·cases e
      rw[<- hB]
     ·rcases l with rfl|rfl<;>rfl
  ·cases e
 ·rename_i G O;have s:RP w (Own M h blk) (.agg G) u:=J;have z:RP w (Own M h blk) (.agg O) v:=K;split at e
  ·rename_i fs k;rw[k]at E;obtain⟨F,rfl,hF⟩:=j0 E;split at e
   ·rename_i m;simp only[anF]at m;obtain⟨q1,q2,Q⟩:=(I r τ R).eqs m.1;rw[H]at Q;simp only at Q;cases s with
    | agg G us h1 h2 h3 =>
     cases z with
     | agg O vs g1 g2 g3 =>
      have o:∀f∈F.toList,f.name ≠ "_":=by
       intro f hf;have:=Array.all_eq_true_iff_forall_mem.1 Q f (by simpa using hf);simpa using this
      have C:=CW (P:=P) (w:=w) I 9998 (M':=Own M h blk) (us:=us) (vs:=vs) F.toList 0 G O b o (by simp_all) e
       (fun j x hj=>by grind) (fun j x hj=>by grind)
      refine⟨?_,fun p q g =>?_,fun g l =>?_⟩
      ·exact run_equalIn_struct 9998 H q1 C
      ·cases g<;>first|rfl|simp[eqGuard,program,Sem.run,q2]
      ·rcases l with rfl|rfl<;>rfl
   ·cases e
  ·cases e
 ·cases e
def VR(Q:km P T)(g:Inv N M L w0 blk V t h a w){x y:Operand}{l:BinOp}{f E:Nat}{d:D}(m:o.op=.binOp l f x y E)(b:HY T f l (ev t x) (ev t y)=some d):fC P o a w (bz N M L w0 V t h a e o.dst ⟨d,[]⟩):=by
 have u:=g.ev x;have z:=g.ev y;generalize ev t x=p at *;generalize ev t y=q at *;unfold HY at b;split at b
 ·rename_i k i F j;have A:=pV u;have B:=pV z;have C:(eqGuard l f x y (.int k i) (.int F j)).run P w=.ok () w:=by cases l<;>rfl
  split at b
  ·rename_i G;obtain⟨v,n,r⟩:=Xg (P:=P) (w:=w) (M:=Own M h blk) (ty:=f) (k':=F) G b;exact aP (by simp[execOp,m,A,B,C,n]) (bz.fa g (cd r))
  ·rename_i G;split at b
   ·rename_i S;subst S;obtain⟨v,n,r⟩:=afa (P:=P) (w:=w) (M:=Own M h blk) (ty:=f) (by simpa using G) b;exact aP (by simp[execOp,m,A,B,C,n]) (bz.fa g (cd r))
   ·cases b
 ·rename_i s U;have A:=HQ u;have B:=HQ z;have C:(eqGuard l f x y (.string s) (.string U)).run P w=.ok () w:=by cases l<;>rfl
  obtain⟨v,n,r⟩:=afc (P:=P) (w:=w) (M:=Own M h blk) (ty:=f) b;exact aP (by simp[execOp,m,A,B,C,n]) (bz.fa g (cd r))
 ·split at b
  ·rename_i τ R;split at b
   ·split at b
    ·rename_i c H;simp only[anf]at b;subst b;obtain⟨I,J,K⟩:=ZJ (P:=P) Q g R u z H;have O:=K .eql (.inl rfl);exact aP (v:=.bool c) (w':=w) (by simp[execOp,m,J,O,I]) (bz.fa g (cd (.bool _)))
    ·cases b
   ·split at b
    ·rename_i c H;simp only[anf]at b;subst b;obtain⟨I,J,K⟩:=ZJ (P:=P) Q g R u z H;have O:=K .neq (.inr rfl);exact aP (v:=.bool !c) (w':=w) (by simp[execOp,m,J,O,I]) (bz.fa g (cd (.bool _)))
    ·cases b
   ·cases b
  ·cases b
end
def Gn(n:Int):∀(a:List Int)(l:List MapEntry)(us:Nat->Value)(i:Nat),l.length=a.length->(∀j k,a[j]? = some k->∃e:MapEntry,l[j]? = some e∧e.key=.int .i64 k∧e.val=us j) ->
  Instr.findNow (.int .i64) (.int .i64 n) l i=some (if a.contains n then some (i+a.idxOf n,us (a.idxOf n)) else none)
 | [],[],_,_,_,_=>by simp[Instr.findNow]
 | k::a,e::l,us,i,g,h=>by
  obtain⟨q,d,m,r⟩:=h 0 k rfl;simp only[List.getElem?_cons_zero,anf]at d;subst d;have o:=Gn n a l (fun j=>us (j+1)) (i+1) (by simpa using g) (fun j k p=>by simpa using h (j+1) k (by simpa using p))
  by_cases f:k=n
  ·grind[Instr.findNow,Instr.sameNow]
  ·have b:(n==k)=false:=by simp[Ne.symm f]
   have c:(k==n)=false:=by simp[f]
   simp only[Instr.findNow,m,Instr.sameNow,if_true,b,o,an0,an1,anZ,c,cond_false];grind
def abg{c:List eE}(h:c.all (fun k=>LU k==false)=true):c=(c.map (·.1)).map fun n=>(n,none):=by
 induction c with
 | nil=>rfl
 | cons k c d =>
  simp only[List.all_cons,anF]at h;obtain⟨a,x⟩:=k;cases x with
  | none=>grind
  | some b=>simp[LU]at h
theorem O4(n:Int)(l:List Int):(l.map fun m=>((m,none):eE)).contains (n,none)=l.contains n∧(l.map fun m=>((m,none):eE)).idxOf (n,none)=l.idxOf n:=by
 induction l with
 | nil=>simp_all
 | cons m l a =>
  grind
def Sx(n:Int)(a:List eE)(l:List MapEntry)(b:Nat->Value)(d:l.length=a.length)(f:a.all (fun k=>LU k==false)=true)(h:∀j k,a[j]? = some k->∃e:MapEntry,l[j]? = some e∧e.key=oY k∧e.val=b j) :
  Instr.findNow (.int .i64) (.int .i64 n) l 0=some (if a.contains (n,none) then some (a.idxOf (n,none),b (a.idxOf (n,none))) else none):=by
 have c:=abg f;generalize a.map (·.1)=q at c;subst c;have:=Gn n q l b 0 (by simpa using d) (fun j k g=>by
  obtain⟨e,i,m,o⟩:=h j (k,none) (by simp[g]);exact⟨e,i,m,o⟩)
 grind[O4]
def Tz(z:D)(n:eE):∀(a:List eE)(b:List D),b.length=a.length->vP z a b n=if a.contains n then b.getD (a.idxOf n) z else z
 | [],_,_=>by simp[vP]
 | k::a,v::b,f=>by
  have g:=Tz z n a b (by simpa using f)
  by_cases c:k=n
  ·grind[vP]
  ·have d:(n==k)=false:=by simp[Ne.symm c]
   have e:(k==n)=false:=by simp[c]
   simp[vP,c,g,anZ,d,e,Ne.symm c]
section
variable {P:Program} {T:Nat->Option Ty} {N:Nat} {M:Nat->Prop} {L:mc} {w0:World} {blk:Nat->Option (Nat×Nat)} {V:Nat->Nat->Prop} {t:Nat->D} {h:Nat->Option Row} {a:Act} {w:World} {e:Nat} {o:Oper}
def abf{κ:Ty}(c:Af T κ=some true):∃a b α β,κ.ds=.struct [(a,0),(b,1)]∧T a=some α∧T b=some β∧α.ds=.int .i64∧β.ds=.int .i64∧κ.eqok=true:=by
 unfold Af at c;grind
def abe{κ:Ty}(a:Af T κ=some false):κ.ds=.int .i64:=by
 unfold Af at a;grind
def Gy(i:km P T){f:Nat}{τ φ:Ty}{b:Bool}(j:T f=some τ)(a:Jz T τ=some (b,φ)):∃g h κ,P.underlying f=some (.map g h)∧T g=some κ∧Af T κ=some b∧T h=some φ:=by
 unfold Jz at a;split at a
 ·rename_i k el e;split at a
  ·rename_i κ o l m;split at a
   ·rename_i p n;simp only[anf,Prod.mk.injEq]at a;obtain⟨rfl,rfl⟩:=a;obtain⟨d,q,c⟩:=under i j;rw[e]at c;refine⟨k,el,κ,?_,l,n,m⟩;cases d<;>simp[conv]at c;simp_all
   ·cases a
  ·cases a
 ·cases a
def Inv.key(j:Inv N M L w0 blk V t h a w){i:Operand}{n:eE}(b:abd (Am.ev t i)=some n):a.eval i=oY n:=by
 have e:=j.ev i;generalize Am.ev t i=d at *;unfold abd at b;split at b
 ·simp only[anf]at b;subst b;exact pV e
 ·simp only[anf]at b;subst b;have c:RP w (Own M h blk) (.agg _) (a.eval i):=e;generalize a.eval i=u at c;cases c with
  | agg xs k l h2 h3 =>
   match k,l with
   | [m,o],_ =>
    have f:=h2 0 _ rfl;have g:=h2 1 _ rfl;simp only[an2,an3]at f g;cases f;cases g;rfl
 ·cases b
def C2(i:km P T){e:Nat}{κ:Ty}(j:T e=some κ)(m:Af T κ=some true):∃(F:Array Field)(f1 f2:Field)(α β:Ty),P.underlying e=some (.struct F)∧F.toList=[f1,f2]∧f1.offset=0∧f2.offset=1∧T f1.type=some α∧T f2.type=some β∧α.ds=.int .i64∧β.ds=.int .i64∧P.stoodInHeld e=false∧f1.name ≠ "_"∧f2.name ≠ "_":=by
 obtain⟨a,b,α,β,h,q,r,s,t,n⟩:=abf m;obtain⟨d,o,k⟩:=under i j;rw[h]at k;obtain⟨F,rfl,g⟩:=j0 k;obtain⟨u,v,l⟩:=(i e κ j).eqs n;rw[o]at l;simp only at l;have c:F.toList.length=2:=by simpa using congrArg List.length g
 match p:F.toList,c with
 | [f1,f2],_ =>
  rw[p]at g;simp only[anb,anP,ans,Prod.mk.injEq,and_true]at g;obtain⟨⟨rfl,w⟩,⟨rfl,x⟩⟩:=g;have y:∀f∈F.toList,f.name ≠ "_":=by
   grind[Array.all_eq_true_iff_forall_mem]
  grind
def abF(f:km P T){g:Nat}{κ:Ty}(h:T g=some κ)(i:Af T κ=some true)(a b c d:Int):(Op.equal g (.agg #[.int .i64 a,.int .i64 b]) (.agg #[.int .i64 c,.int .i64 d])).run P w=.ok (a==c&&b==d) w:=by
 obtain⟨F,f1,f2,α,β,k,m,n,o,p,q,r,s,l,t,u⟩:=C2 f h i;refine run_equalIn_struct (us:=[.int .i64 a,.int .i64 b]) (vs:=[.int .i64 c,.int .i64 d]) 9998 k l ?_;refine CW (P:=P) (w:=w) f 9998 (M':=fun _=>False) F.toList 0 [.int .i64 a,.int .i64 b] [.int .i64 c,.int .i64 d] _ ?_ ?_ ?_ ?_ ?_
 ·simp_all
 ·grind[oT,kindOk]
 ·simp[eqL,eqC]
 ·intro j x e
  match j,e with
  | 0,e=>simp only[List.getElem?_cons_zero,anf]at e;subst e;exact⟨.int _ _,by simp⟩
  | 1,e=>simp only[List.getElem?_cons_succ,List.getElem?_cons_zero,anf]at e;subst e;exact⟨.int _ _,by simp⟩
  | j+2,e=>simp at e
 ·intro j x e
  match j,e with
  | 0,e=>simp only[List.getElem?_cons_zero,anf]at e;subst e;exact⟨.int _ _,by simp⟩
  | 1,e=>simp only[List.getElem?_cons_succ,List.getElem?_cons_zero,anf]at e;subst e;exact⟨.int _ _,by simp⟩
  | j+2,e=>simp at e
def FK{k:eE}(h:(LU k==true)=true):∃a b,k=(a,some b):=by
 obtain⟨a,x⟩:=k;cases x with
 | none=>simp[LU]at h
 | some b=>simp_all
def AF(p:km P T){q:Nat}{κ:Ty}(r:T q=some κ)(s:Af T κ=some true){n:eE}(t:(LU n==true)=true):∀(ks:List eE)(l:List MapEntry)(us:Nat->Value)(i:Nat),l.length=ks.length->ks.all (fun k=>LU k==true)=true->(∀j k,ks[j]? = some k->∃e:MapEntry,l[j]? = some e∧e.key=oY k∧e.val=us j) ->
  (Instr.findAsking q (oY n) l i).run P w=.ok (if ks.contains n then some (i+ks.idxOf n,us (ks.idxOf n)) else none) w
 | [],[],_,_,_,_,_=>by simp[Instr.findAsking]
 | k::ks,e::l,us,i,v,g,h=>by
  simp only[List.all_cons,anF]at g;obtain⟨B,u,x,y⟩:=h 0 k rfl;simp only[List.getElem?_cons_zero,anf]at u;subst u;have z:=AF p r s t ks l (fun j=>us (j+1)) (i+1) (by simpa using v) g.2 (fun j k A=>by simpa using h (j+1) k (by simpa using A));obtain⟨a,b,rfl⟩:=FK t;obtain⟨c,d,rfl⟩:=FK g.1;have m:=abF (P:=P) (w:=w) p r s a b c d;have o:(((a,some b):eE)==(c,some d))=(a==c&&b==d):=by
   grind
  have f:(((c,some d):eE)==(a,some b))=(a==c&&b==d):=by
   grind
  simp only[Instr.findAsking,oY,anB,x,m,Result.andThen_ok,an0,anZ,o,f];cases C:(a==c&&b==d) with
  | true=>simp[y]
  | false =>
   simp only[anD,if_false,an1,cond_false];simp only[oY]at z;grind
def Qg(e:km P T){h:Nat}{κ:Ty}(m:T h=some κ)(n:Af T κ=some true)(a b:Int)(em:Bool):(Instr.checkKey em 10000 h (.agg #[.int .i64 a,.int .i64 b])).run P w=.ok () w:=by
 obtain⟨F,f1,f2,α,β,o,p,q,r,i,j,k,l,u,v,x⟩:=C2 e m n;obtain⟨d1,f,c⟩:=under e i;obtain⟨d2,g,d⟩:=under e j;rw[k]at c;rw[l]at d;have s:d1=.int .i64:=by cases d1<;>simp[conv]at c;subst c;rfl
 have t:d2=.int .i64:=by cases d2<;>simp[conv]at d;subst d;rfl
 subst s t;have y:(part f1.type #[Value.int .i64 a,.int .i64 b] f1.offset).run P w=.ok (.int .i64 a) w:=by
  simp[part,anB,pG (e _ _ i),k,Ds.xt,q,Result.andThen]
 have z:(part f2.type #[Value.int .i64 a,.int .i64 b] f2.offset).run P w=.ok (.int .i64 b) w:=by
  simp[part,anB,pG (e _ _ j),l,Ds.xt,r,Result.andThen]
 have A:=MapKept.run_checkKey (w:=w) f (show MapKept.IsKey (.int .i64) (.int .i64 a) from rfl) em 9998;have B:=MapKept.run_checkKey (w:=w) g (show MapKept.IsKey (.int .i64) (.int .i64 b) from rfl) em 9998;rw[Instr.checkKey];simp only[anB,run_underlying o,Result.andThen_ok];rw[<- Array.forIn_toList,p];simp_all
def UK(g:km P T){p:Nat}{κ:Ty}{b:Bool}(i:T p=some κ)(m:Af T κ=some b){n:eE}{a:List eE}(f:wP b n a=true){l:List MapEntry}{us:Nat->Value}(q:l.length=a.length)(h:∀j k,a[j]? = some k->∃e:MapEntry,l[j]? = some e∧e.key=oY k∧e.val=us j) :
  (∀em,(Instr.checkKey em 10000 p (oY n)).run P w=.ok () w)∧(Instr.findKey p (oY n) l).run P w=.ok (if a.contains n then some (a.idxOf n,us (a.idxOf n)) else none) w∧(Instr.keyThatStays (oY n) (oY n)).run P w=.ok (oY n) w:=by
 simp only[wP,anF]at f;cases b with
 | false =>
  obtain⟨n,x⟩:=n;cases x with
  | some y=>simp[LU]at f
  | none =>
   obtain⟨d,o,r⟩:=under g i;rw[abe m]at r;have s:d=.int .i64:=by cases d<;>simp[conv]at r;subst r;rfl
   subst s;have c:MapKept.IsKey (.int .i64) (.int .i64 n):=rfl;exact⟨fun em=>MapKept.run_checkKey (w:=w) o c em 9999,MapKept.run_findKey (w:=w) o (Sx n a l us q f.2 h),MapKept.run_keyThatStays (P:=P) (w:=w) c⟩
 | true =>
  obtain⟨F,f1,f2,α,β,o,_⟩:=C2 g i m;have t:=AF (P:=P) (w:=w) g i m f.1 a l us 0 q f.2 h;obtain⟨x,y,rfl⟩:=FK f.1;refine⟨fun em=>Qg g i m x y em,?_,?_⟩
  ·rw[an5]at t;unfold Instr.findKey;simp only[anB,run_underlying o,Result.andThen_ok];cases l with
   | nil =>
    cases a with
    | nil=>simp[Instr.findNow]
    | cons _ _=>simp at q
   | cons e l =>
    grind[Instr.findNow,oY,Instr.sameNow]
  ·simp[Instr.keyThatStays,oY,Instr.sameBits]
def zeroV(o:km P T){e:Nat}{φ:Ty}{z:D}(p:T e=some φ)(a:mE φ (φ.zero.map sf)=some z)(q:(φ.zero.map sf).all bH=true)(w:World)(M:Nat->Prop):∃b,(zeroValue e).run P w=.ok b w∧RP w M z b:=by
 have k:=o e φ p;obtain⟨d,i,b,s,t,l,u,v,m,f⟩:=k.get;have g:=k.agg;rw[l]at g;simp only[Option.map_some,m,anf]at g;refine⟨b,by simp[zeroValue,typeInfo,l,m],?_⟩;have n:=fun j x h=>vo φ.zero q (w:=w) (M:=M) j x h;unfold mE at a;rw[<- g]at a;cases b with
 | agg cs =>
  simp only[WG,if_true,anf]at a;subst a;simp only[Value.cells]at f;subst f;refine .agg _ φ.zero (by simp) (fun j x h =>?_) (fun x y =>?_)
  ·have:=(n j x h).2;simp_all
  grind
 | _ =>
  simp only[WG,anD,if_false]at a;split at a
  ·rename_i d r;simp only[anf]at a;subst a;have c:=(n 0 d (by rw[r];rfl)).2;rw[<- f]at c;simpa [Value.cells] using c
  ·cases a
def Inv.Zl(B:Inv N M L w0 blk V t h a w){m:D}{u:Value}{l:List eE}{vs:List D}(i:mapOf h m=some (l,vs))(s:RT w (Own M h blk) h blk V m u) :
  vs.length=l.length∧∃(c:Array MapEntry)(f:Nat->Value),c.size=l.length∧((u=.map none∧c = #[])∨∃b d,u=.map (some b)∧w.heap[b]? = some (.map c d))∧(∀j k,l[j]? = some k->∃e:MapEntry,c[j]? = some e∧e.key=oY k∧e.val=f j)∧∀j x,vs[j]? = some x->RP w (Own M h blk) x (f j):=by
 cases m with
 | mp x v =>
  simp only[mapOf]at i;obtain⟨g,r,y,C,z,A,P,rfl,E,c,d,F,G,_,f,H,n⟩:=B.TD i s;exact⟨E,c,f,G,.inr ⟨g.1,d,rfl,F⟩,H,n⟩
 | mpc o p =>
  simp only[mapOf,anf,Prod.mk.injEq]at i;obtain⟨rfl,rfl⟩:=i;have q:RP w (Own M h blk) (.mpc o p) u:=s;cases q with
  | mpc _ _ I f y C z A =>
   refine⟨y,?_⟩;cases I with
   | none =>
    simp_all
   | some b =>
    obtain⟨Q,R,c,d,J,K,O⟩:=z b rfl;exact⟨c,f,K,.inr ⟨b,d,rfl,J⟩,O,A⟩
 | _=>simp[mapOf]at i
def Pb(B:km P T)(m:Inv N M L w0 blk V t h a w){c d:Nat}{τ:Ty}{E:cI}(p:o.op=.makeMap c none)(q:o.dst=some d)(r:lE N V d e)(C:T c=some τ)(b:rn T c τ e d=some E):fC P o a w (bz N M L w0 V t h a e o.dst E):=by
 unfold rn at b;split at b
 ·split at b
  ·cases b
  rename_i g;simp only[anf]at b;subst b;have f:=(Below.refl w.heap.size w).alloc (am6 _) (.map #[] 0);have i:=m.HS (w':=w.alloc (.map #[] 0)) (h1:=h) (old:=none) (d:=d) (e:=e) (r0:=⟨e,c,[.mpc [] []],false,true,true⟩) (go:=some (w.heap.size,0)) f.os f.tape f.output f.size (fun k u _=>Below.heap_alloc w _ k u) (fun y z=>by cases z) rfl r
   ⟨.inl (am6 _),by
    refine .inl ?_;exact⟨[],[],rfl,rfl,fun _=>⟨#[],0,heap_alloc_new w _,rfl,MapKept.stamped_empty 0,fun _=>undef,fun j k l=>by simp at l,fun j x l=>by simp at l⟩,fun A=>absurd A g⟩⟩ rfl rfl (fun _ _ _ j x s n h=>by grind)
  refine aP (v:=.map (some w.heap.size)) (w':=w.alloc (.map #[] 0)) ?_ ⟨cq blk d (some (w.heap.size,0)),?_,?_⟩
  ·simp[execOp,p,Instr.makeMap,Result.andThen]
  ·refine i.weaken fun x v D =>?_;grind
  ·exact⟨.inr ⟨q,rfl⟩,fun _ _ _=>⟨(w.heap.size,0),aA _ _ _,rfl⟩⟩
 ·cases b
def R9(K:km P T)(J:Inv N M L w0 blk V t h a w){ty:Nat}{m i:Operand}{s:Bool}{τ:Ty}{E:cI}(ho:o.op=.lookup ty m i s)(hτ:T ty=some τ)(f:jT T τ h (ev t m) (ev t i) s=some E):fC P o a w (bz N M L w0 V t h a e o.dst E):=by
 unfold jT at f;split at f
 ·rename_i b φ d vs n O Q hi;split at f
  ·rename_i z hz;split at f
   ·rename_i q;obtain⟨R,S⟩:=q;simp only[anf]at f;subst f;obtain⟨kt,et,κ,u,hκ,U,hφ⟩:=Gy K hτ O;obtain⟨v,g,y,W,A,hk,hv⟩:=J.Zl Q (J.ev m);have B:a.eval i=oY n:=J.key hi;obtain⟨X,Y,Z⟩:=zeroV K hφ hz S w (Own M h blk);obtain⟨C,c,_⟩:=UK (P:=P) (w:=w) K hκ U R (l:=g.toList) (us:=y) (by simpa using W) (fun j k p=>by simp_all);have D:=C g.isEmpty;have hl:=Tz (kJ z) n d vs v;have F:(execOp a.eval o).run P w=.ok (.value (if s then .tuple #[if d.contains n then y (d.idxOf n) else X,.bool (d.contains n)] else if d.contains n then y (d.idxOf n) else X)) w:=by
     rcases A with⟨ad,rfl⟩|⟨b,aa,G,r⟩
     ·have ab:d=[]:=by grind
      subst ab;simp only[List.contains_nil,anD,if_false]at c ⊢;simp_all[execOp,Instr.lookup,Result.andThen,run_underlying]
     ·have H:=MapKept.run_getObj_map (P:=P) r;cases hc:d.contains n with
      | true =>
       rw[hc]at c;simp only[if_true]at c;cases s<;>simp[execOp,ho,Instr.lookup,run_underlying u,G,B,H,D,c,Result.andThen]
      | false =>
       rw[hc]at c;simp only[anD,if_false]at c;cases s<;>simp[execOp,ho,Instr.lookup,run_underlying u,G,B,H,D,c,Y,Result.andThen]
    have I:RP w (Own M h blk) (vP (kJ z) d vs n) (if d.contains n then y (d.idxOf n) else X):=by
     rw[hl];split
     ·grind
     ·exact Z.kJ
    refine aP F (bz.fa J ?_);cases s with
    | false=>exact cd I
    | true =>
     refine cd (.tup _ [_,_] rfl fun j x p =>?_)
     match j,p with
     | 0,p=>simp_all
     | 1,p=>simp only[List.getElem?_cons_succ,List.getElem?_cons_zero,anf]at p;subst p;exact .bool _
     | j+2,p=>simp at p
   ·cases f
  ·cases f
 ·cases f
def Inv.BO(l:Inv N M L w0 blk V t h a w){d e:D}{f:List Nat}{u:Value}{g:Nat->Prop}(c:BO h d=some (e,f))(k:tu M h blk f g)(i:RT w (Own M h blk) h blk V d u):RP w g e u:=by
 have m:∀b,b<w.heap.size->¬Own M h blk b->b<w.heap.size∧¬g b∧w.heap[b]? = w.heap[b]?:=fun b j h2=>⟨j,fun n=>h2 (k.le b n),rfl⟩;have one:∀d,Am.BO h d=(match Am.eS h d with|some (e,f)=>some (canon e,f)|none=>none)->Am.BO h d=some (e,f)->RT w (Own M h blk) h blk V d u->RP w g e u:=by
  intro d o c i;rw[o]at c;split at c
  ·rename_i d1 p j;simp only[anf,Prod.mk.injEq]at c;obtain⟨rfl,rfl⟩:=c;exact (l.eS j k i).1.canon
  ·cases c
 cases d with
 | agg xs =>
  simp only[Am.BO,anf,Prod.mk.injEq]at c;obtain⟨rfl,rfl⟩:=c;exact (RP.keep m (show RP w (Own M h blk) (.agg xs) u from i)).kJ
 | _=>exact one _ rfl c i
def ae4(a:List eE)(b:List D)(n:eE)(d:D)(h:b.length=a.length):(Hg a b n d).length=(CT a n).length:=by
 grind[Hg,CT]
def zI(hT:km P T)(O:Inv N M L w0 blk V t h a w){ty:Nat}{m i x:Operand}{τ:Ty}{E:cI}(J:o.op=.mapUpdate ty m i x∨o.op=.insert ty m i x)(hτ:T ty=some τ)(G:fh T τ h (ev t m) (ev t i) (ev t x)=some E):fC P o a w (bz N M L w0 V t h a e o.dst E):=by
 have hm:=O.ev m;unfold fh at G;split at G
 ·rename_i b φ y v n d fr aq ar hi S;rw[ar]at hm;split at G
  ·rename_i r hr;split at G
   ·rename_i q vs au;split at G
    ·rename_i Q;obtain⟨av,U,aw⟩:=Q;simp only[anf]at G;subst G;obtain⟨kt,et,κ,W,hκ,ax,hφ⟩:=Gy hT hτ aq;have X:a.eval i=oY n:=O.key hi;have Y:=O.freeze fr;have aG:=O.BO S (O.iA fr) (O.ev x);obtain⟨g,r',h1,h2,h3,h4,h5,Z,_⟩:=O.TD au hm;rw[hr]at h1;simp only[anf]at h1;subst h1;have R:aW h (lJ h fr) y=some r:=by rw[EA aw];exact hr
     have B:=Y.rowIs R h5;unfold fp at B;rw[h3]at B;rcases B with B|⟨B,_⟩;rotate_left
     ·grind
     obtain⟨aH,aI,i1,aa,ay,_⟩:=B;have ab:r.ty<900000:=by
      grind[Jt]
     obtain⟨A,u,p,ad,ae,us,hk,hv⟩:=ay ab;rw[h4]at i1;simp only[ans,D.mpc.injEq,and_true]at i1;obtain⟨rfl,rfl⟩:=i1;obtain⟨ag,C,az⟩:=UK (P:=P) (w:=w) hT hκ ax av (l:=A.toList) (us:=us) (by simpa using ad) (fun j k hj=>by simp_all);have ah:=ag false;have ai:=MapKept.run_getObj_map (P:=P) p;have aJ:g.1<w.heap.size:=(an6.1 p).1;have key:∃(c:Array MapEntry)(f:Nat)(I:Nat->Value),(execOp a.eval o).run P w=.ok .skip { w with heap:=w.heap.setIfInBounds g.1 (.map c f) }∧c.size=(CT q n).length∧MapKept.Stamped c f∧(∀j k,(CT q n)[j]? = some k->∃e:MapEntry,c[j]? = some e∧e.key=oY k∧e.val=I j)∧∀j z,(Hg q vs n d)[j]? = some z->RP w (Own M (aW h (lJ h fr)) blk) z (I j):=by
      cases K:q.contains n with
      | true =>
       rw[K]at C;simp only[if_true]at C;have hj:q.idxOf n<q.length:=List.idxOf_lt_length_of_mem (by simpa using K);have aA:q[q.idxOf n]? = some n:=by simp_all
       obtain⟨e0,q1,q2,q3⟩:=hk _ _ aA;have aB:(((A[q.idxOf n]?).map (·.key)).getD (oY n))=oY n:=by rw[q1];exact q2
       refine⟨A.modify (q.idxOf n) (fun e=>{ e with key:=oY n,val:=a.eval x }),u,fun j=>if j=q.idxOf n then a.eval x else us j,?_,?_,?_,fun j k F =>?_,fun j z H =>?_⟩
       ·have hset:=fun ob=>MapKept.run_setObj_map (P:=P) ob p;rcases J with J|J<;>simp[execOp,J,Instr.mapUpdate,run_underlying W,Z,X,ai,ah,C,aB,az,hset,Result.andThen]
       ·simp_all[CT,Array.size_modify,if_true]
       ·exact MapKept.stamped_modify ae _ _ (fun e _=>rfl) (fun e _ he=>by simp_all)
       ·simp only[CT,K,if_true]at F;grind
       ·simp only[Hg,K,if_true]at H;grind
      | false =>
       rw[K]at C;simp only[anD,if_false]at C;refine⟨A.push { key:=oY n,val:=a.eval x,born:=u },u+1,fun j=>if j<q.length then us j else a.eval x,?_,?_,?_,fun j k F =>?_,fun j z H =>?_⟩
       ·have hset:=fun ob=>MapKept.run_setObj_map (P:=P) ob p;rcases J with J|J<;>simp[execOp,J,Instr.mapUpdate,run_underlying W,Z,X,ai,ah,C,hset,Result.andThen]
       ·simp only[Array.size_push,CT,K,anD,if_false,an7,List.length_cons,List.length_nil];omega
       ·refine MapKept.stamped_push ae fun x hx he =>?_;obtain⟨j,hj⟩:=anq hx;have aC:j<q.length:=by grind
        obtain⟨e1,p1,p2,_⟩:=hk j _ (anj aC);grind[ael]
       ·simp only[CT,K,anD,if_false]at F
        by_cases aK:j<q.length
        ·grind
        ·rw[anX (by omega)]at F;have aD:j=q.length:=by
          grind
         subst aD;simp only[aoa,List.getElem?_cons_zero,anf]at F;subst F;exact⟨_,by rw[<- ad];exact Array.getElem?_push_size,rfl,by simp⟩
       ·simp only[Hg,K,anD,if_false]at H;grind
     obtain⟨c,f,I,aj,ak,al,aE,aF⟩:=key;have hset:=MapKept.heap_set (o':=.map c f) p;have aL:(w.heap.setIfInBounds g.1 (.map c f)).size=w.heap.size:=by simp
     have ao:=Y.lM (hph:=fun _ _ _ j x s n h=>by grind) (r0:=⟨r.v,r.ty,[.mpc (CT q n) (Hg q vs n d)],false,true,true⟩) (w':={ w with heap:=w.heap.setIfInBounds g.1 (.map c f) }) R U rfl rfl rfl rfl (by simp_all)
      (fun b _ hb=>hset.2 b (hb g h5)) (by
       rw[h5];refine⟨by simp[World.shape?,hset.1,p],?_⟩;refine .inl ?_;refine⟨_,_,rfl,ae4 q vs n d aa,fun _=>⟨c,f,hset.1,ak,al,I,aE,fun j z H=>(aF j z H).keep fun b q1 q2=>⟨by simp_all,q2,hset.2 b (fun e=>q2 (.inr ⟨y,r,g,R,U,h5,e.symm⟩))⟩⟩,fun hq=>absurd hq (Nat.not_le.2 ab)⟩) (fun hh=>by cases hh)
     refine .inr (.inl ⟨_,aj,blk,?_,trivial⟩);rw[ju];exact ao.weaken fun _ _ h =>.inl h
    ·cases G
   ·cases G
  ·cases G
 ·cases G
end
section
variable {P:Program} {T:Nat->Option Ty} {N:Nat} {M:Nat->Prop} {L:mc} {w0:World} {blk:Nat->Option (Nat×Nat)} {V:Nat->Nat->Prop} {t:Nat->D} {h:Nat->Option Row} {a:Act} {w:World} {e:Nat} {o:Oper} {Γ:Env}
def pn{α:Type}{c:Array α}{l:List α}(h:c.toList=l):c=l.toArray:=by rw[<- h]
def Zm{β:Type}{f:Operand->β}{l:List Operand}{p q:β}(h:l.map f=[p,q]):∃s x,l=[s,x]∧f s=p∧f x=q:=by
 match l,h with
 | [s,x],h=>grind
def agS{β:Type}{f:Operand->β}{l:List Operand}{p:β}(h:l.map f=[p]):∃s,l=[s]∧f s=p:=by
 simp_all
def map_cons{β:Type}{f:Operand->β}{l:List Operand}{p:β}{r:List β}(h:l.map f=p::r):∃s a,l=s::a∧f s=p∧a.map f=r:=by
 match l,h with
 | s::a,h=>grind
def O6(hT:km P T)(u:Inv N M L w0 blk V t h a w){c:Call}{b:Builtin}{E:cI}(S:o.op=.call c)(U:c.callee=.builtin b)(hV:∀d,o.dst=some d->lE N V d e)
  (f:eT T h e o.dst b c.argTypes.toList (c.args.toList.map (ev t))=some E):fC P o a w (bz N M L w0 V t h a e o.dst E):=by
 unfold eT at f;split at f
 ·rename_i ty aq x F g;obtain⟨s,J,rfl⟩:=agS g;have K:=pn J;have W:=pn F;split at f
  ·rename_i aa;split at f
   ·rename_i τ n X hn;have hp:=u.ev s;obtain⟨d,G,i⟩:=under hT X;obtain⟨l1,l2⟩:=RT.aml u hn aa hp;have B:∀v,(Builtin.len_ c.argTypes o.type #[a.eval s]).run P w=.ok v w->(execOp a.eval o).run P w=.ok (.value v) w:=by
     intro v Y;simp[execOp,S,resolve,U,K,invoke,builtin,Y]
    have D:c.argTypes[0]? = some ty:=by rw[W];rfl
    split at f
    ·rename_i z C O;rw[O]at l1;obtain⟨H,Q⟩:=l1 _ rfl;rw[C]at i;have:=w8 i;subst this;simp only[anf]at f;subst f;refine aP (B (.int .i64 n) ?_) (bz.fa u (cd (.int _ _)));simp[Builtin.len_,D,run_underlying G,H,goInt,Q]
    ·rename_i el z1 z2 z3 z4 C O;obtain⟨A,k,H⟩:=l2 (by simp_all);rw[C]at i;have:=iN i;subst this;simp only[anf]at f;subst f;refine aP (B (.int .i64 n) ?_) (bz.fa u (cd (.int _ _)));simp[Builtin.len_,D,run_underlying G,H,goInt]
    ·rename_i el z1 z2 z3 z4 z5 C O;obtain⟨A,k,H⟩:=l2 (by simp_all);rw[C]at i;have:=iN i;subst this;simp only[anf]at f;subst f;refine aP (B (.int .i64 n) ?_) (bz.fa u (cd (.int _ _)));simp[Builtin.len_,D,run_underlying G,H,goInt]
    ·cases f
   ·rename_i τ X hn;split at f
    ·rename_i k el ks ar C ab;obtain⟨d,G,i⟩:=under hT X;rw[C]at i;have ad:d=.map k el:=by
      cases d<;>simp[conv]at i;simp_all
     subst ad;simp only[anf]at f;subst f;obtain⟨al,ao,us,Q,Z,hk,hv⟩:=u.Zl ab (u.ev s);have D:c.argTypes[0]? = some ty:=by rw[W];rfl
     refine aP (v:=.int .i64 (ks.length:Nat)) (w':=w) ?_ (bz.fa u (cd (.int _ _)));rcases Z with⟨ae,rfl⟩|⟨b,ag,ah,R⟩
     ·have ai:ks.length=0:=by simp_all
      simp[execOp,S,resolve,U,K,invoke,builtin,Builtin.len_,D,run_underlying G,ae,goInt,ai]
     ·have aj:=MapKept.run_getObj_map (P:=P) R;simp[execOp,S,resolve,U,K,invoke,builtin,Builtin.len_,D,run_underlying G,ah,aj,goInt,Q,Result.andThen]
    ·cases f
   ·cases f
  ·cases f
 ·rename_i ty au p q F g;obtain⟨s,x,J,rfl,rfl⟩:=Zm g;split at f
  ·rename_i ak;subst ak;split at f
   ·rename_i τ d X G;exact R8 hT u S U (pn J) (pn F) G (hV d G) X f
   ·cases f
  ·cases f
 ·rename_i k x r g;obtain⟨s,l,J,h1,h2⟩:=map_cons g;split at f
  ·rename_i z O;simp only[anf]at f;subst f;have H:a.eval s=.int k x:=by have:=u.ev s;rw[h1]at this;exact pV this
   have Y:=UL (P:=P) (w:=w) (M:=M) (blk:=blk) (V:=V) (h:=h) k r (l.map a.eval) x z O (by rw[<- h2];simp) (fun j d I=>by
    rw[<- h2,am3]at I;cases hx:l[j]? with
    | none=>simp[hx]at I
    | some y =>
     simp only[hx,Option.map_some,anf]at I;subst I;have:(l.map a.eval).getD j undef=a.eval y:=by simp_all
     rw[this];exact u.ev y)
   refine aP (v:=.int k z) (w':=w) ?_ (bz.fa u (cd (.int _ _)));have m:c.args.map a.eval=(Value.int k x::l.map a.eval).toArray:=by rw[pn J];simp[H]
   simp[execOp,S,resolve,U,m,invoke,builtin,Builtin.max_,Y]
  ·cases f
 ·rename_i k x r g;obtain⟨s,l,J,h1,h2⟩:=map_cons g;split at f
  ·rename_i z O;simp only[anf]at f;subst f;have H:a.eval s=.int k x:=by have:=u.ev s;rw[h1]at this;exact pV this
   have Y:=UM (P:=P) (w:=w) (M:=M) (blk:=blk) (V:=V) (h:=h) k r (l.map a.eval) x z O (by rw[<- h2];simp) (fun j d I=>by
    rw[<- h2,am3]at I;cases hx:l[j]? with
    | none=>simp[hx]at I
    | some y =>
     simp only[hx,Option.map_some,anf]at I;subst I;have:(l.map a.eval).getD j undef=a.eval y:=by simp_all
     rw[this];exact u.ev y)
   refine aP (v:=.int k z) (w':=w) ?_ (bz.fa u (cd (.int _ _)));have m:c.args.map a.eval=(Value.int k x::l.map a.eval).toArray:=by rw[pn J];simp[H]
   simp[execOp,S,resolve,U,m,invoke,builtin,Builtin.min_,Y]
  ·cases f
 ·cases f
def acE{h:Nat->Option Row}{d:D}{u:Value}{b:Nat->Prop}(a:vT d=true)(c:RT w b h blk V d u):RC w b h blk V d u:=by
 cases d with
 | buf _ _ _ _ _=>simp[vT]at a
 | clo _ _ _=>simp[vT]at a
 | und=>simp[vT]at a
 | skp=>simp[vT]at a
 | box1 _ _ _ _ _=>simp[vT]at a
 | _=>exact c
def Lh(d:Inv N M L w0 blk V t h a w){f:Nat}{first caps:Array Operand}(i:o.op=.makeFunc (.func f) first caps)(g:(first.toList.map (ev t)++caps.toList.map (ev t)).all vT=true) :
  fC P o a w (bz N M L w0 V t h a e o.dst ⟨.clo f first.size (first.toList.map (ev t)++caps.toList.map (ev t)),[]⟩):=by
 refine aP (v:=.func (.func f) (first.map a.eval) (caps.map a.eval)) (w':=w) ?_ (bz.fa d ?_)
 ·simp[execOp,i,Instr.makeFunc]
 ·refine⟨first.toList.map a.eval++caps.toList.map a.eval,?_,by simp,fun j x b =>?_⟩
  ·rw[List.take_left' (by simp),List.drop_left' (by simp),<- anS,<- anS]
  rw[anh]at g;have c:=g x (anv b);rw[<- aof,am3,am4]at b;obtain⟨q,k,rfl⟩:=b;have:(first.toList.map a.eval++caps.toList.map a.eval).getD j undef=a.eval q:=by grind
  rw[this];exact acE c (d.ev q)
def aaR(u:km P T)(G:bN P Γ)(r:Inv N M L w0 blk V t h a w)(B:∀d,o.dst=some d->lE N V d e)(F:∀x v,V x v->x<N∨2*PK<=x){E:cI}(g:vr T Γ e o (ev t) h=some E):fC P o a w (bz N M L w0 V t h a e o.dst E):=by
 unfold vr at g;split at g
 ·rename_i x j;simp only[anf]at g;subst g;exact MP r (.inl j)
 ·rename_i x j;exact adv r j B g
 ·rename_i c x y j;split at g
  ·rename_i A;simp only[anf]at g;subst g;exact MR (b:=true) r j A
  ·rename_i A;simp only[anf]at g;subst g;exact MR (b:=false) r j A
  ·cases g
 ·rename_i z j;split at g
  ·rename_i τ d q s;split at g
   ·rename_i H;simp only[anf]at g;subst g;exact VQ (hint:=Γ.hint) u r j s q (B d s) H
   ·cases g
  ·cases g
 ·rename_i z x j;split at g
  ·rename_i d Q R s A;split at g
   ·simp only[anf]at g;subst g;exact adx r j s (B d s) A
   ·cases g
  ·cases g
 ·rename_i z p j;split at g
  ·rename_i τ q;exact agt u r j q g
  ·cases g
 ·rename_i z p x j;split at g
  ·rename_i τ q;exact adG u r F j q g
  ·cases g
 ·rename_i x j;exact adD r j g
 ·rename_i z x i j;split at g
  ·rename_i τ q;exact Ip u r j q g
  ·cases g
 ·rename_i z x i j;split at g
  ·rename_i τ q;exact VT u r j q g
  ·cases g
 ·rename_i z x i j;split at g
  ·rename_i τ q;exact Iq u r j q g
  ·cases g
 ·rename_i z x i j;split at g
  ·rename_i τ q;exact VU u r j q g
  ·cases g
 ·rename_i z x S U W j;split at g
  ·rename_i τ q;exact VW u r j q g
  ·cases g
 ·rename_i z parts j;split at g
  ·rename_i τ q;exact adw u r j q g
  ·cases g
 ·rename_i z len parts j;split at g
  ·rename_i τ d q s;exact G0 u r j s (B d s) q g
  ·cases g
 ·rename_i z l c j;split at g
  ·rename_i τ d q s;exact aaM u r j s (B d s) q g
  ·cases g
 ·rename_i I z x y J j;split at g
  ·rename_i d s;simp only[anf]at g;subst g;exact VR u r j s
  ·cases g
 ·rename_i I z x j;split at g
  ·rename_i d s;simp only[anf]at g;subst g;exact aaP r j s
  ·cases g
 ·rename_i src K x j;split at g
  ·rename_i τ k n σ q O C;split at g
   ·rename_i X D;simp only[anf]at g;subst g;exact O7 u r j q O D C
   ·cases g
  ·cases g
 ·rename_i Y first caps j
  split at g
  ·split at g
   ·rename_i A;simp only[anf]at g;subst g;exact Lh r j A
   ·cases g
  ·cases g
 ·rename_i z j;split at g
  ·rename_i τ d q s;exact Pb u r j s (B d s) q g
  ·cases g
 ·rename_i z m i Z j;split at g
  ·rename_i τ q;exact R9 u r j q g
  ·cases g
 ·rename_i z m i x j;split at g
  ·rename_i τ q;exact zI u r (.inr j) q g
  ·cases g
 ·rename_i z m i x j;split at g
  ·rename_i τ q;exact zI u r (.inl j) q g
  ·cases g
 ·rename_i x i j;split at g
  ·rename_i xs C;split at g
   ·rename_i d s;simp only[anf]at g;subst g;exact O8 r j C s
   ·cases g
  ·cases g
 ·rename_i c j;split at g
  ·rename_i f A;exact aaK G r j A B F g
  ·rename_i b A;exact O6 u r j A B g
  ·cases g
 ·cases g
end
section
variable {T:Nat->Option Ty} {h h':Nat->Option Row} {e:Nat} {o:Oper} {Γ:Env}
def dM{x v:Nat}(a:h x=h' x):live h x v=live h' x v:=by simp[live,a]
def mD{x v:Nat}(a:h x=h' x):sC h x v=sC h' x v:=by simp[sC,a]
def sD{x v:Nat}(a:h x=h' x):nP h x v=nP h' x v:=by simp[nP,a]
def To{d:D}{x v:Nat}(a:h x=h' x):DO d h x v=DO d h' x v:=by unfold DO CH;rw[dM a,a]
def pZ{d:D}(a:∀x∈nm d,h x=h' x):eS h d=eS h' d:=by
 cases d<;>try rfl
 rename_i x v s o n;simp only[eS];rw[dM (a x (by simp[nm,kF]))]
def Lg{d:D}(a:∀x∈nm d,h x=h' x):content h d=content h' d:=by
 cases d<;>try rfl
 rename_i x v s o n;simp only[content];rw[dM (a x (by simp[nm,kF]))]
def xS{d:D}(a:∀x∈nm d,h x=h' x):ir h d=ir h' d:=by
 cases d<;>first|rfl|(simp only[ir];rw[pZ a])
def zy{d:D}(a:∀x∈kF d,h x=h' x):b7 h d=b7 h' d:=by
 cases d<;>try rfl
 ·simp only[b7];rw[dM (a _ (by simp[kF]))]
 ·simp only[b7];rw[pZ (d:=.buf _ _ _ _ _) a]
 ·simp only[b7];rw[pZ (d:=.buf _ _ _ _ _) a]
 ·simp only[b7];rw[sD (a _ (by simp[kF]))]
 ·rename_i x v y;simp only[b7];rw[dM (a x (by simp[kF]))];have c:∀b,nP h y b=nP h' y b:=fun b=>sD (a y (by simp[kF]));simp only[c]
def yP:∀{a:List D},(∀d∈a,∀x∈kF d,h x=h' x)->eF h a=eF h' a
 | [],_=>rfl
 | d::a,hx=>by
  simp only[eF];rw[zy (hx d (by simp)),yP (fun c b=>hx c (by simp[b]))]
def zx(h:Nat->Option Row){d:D}(c:∀f a b,d ≠ .clo f a b):cO h d=b7 h d:=by cases d<;>first|rfl|simp_all
def Zs{d:D}(c:∀f a b,d ≠ .clo f a b):nm d=kF d:=by cases d<;>first|rfl|simp_all
def adg(d:D):(∃f a b,d=.clo f a b)∨∀f a b,d ≠ .clo f a b:=by
 grind
def Ib{d:D}(hx:∀x∈nm d,h x=h' x):cO h d=cO h' d:=by
 rcases adg d with⟨f,c,e,rfl⟩|a
 ·simp only[cO];rw[yP (fun d a x b=>hx x (aog.2 ⟨d,a,b⟩))]
 ·rw[Zs a]at hx;rw[zx h a,zx h' a];exact zy hx
def lH:∀{a:List D},(∀d∈a,∀x∈nm d,h x=h' x)->cc h a=cc h' a
 | [],_=>rfl
 | d::a,hx=>by
  simp only[cc];rw[Ib (hx d (by simp)),lH (fun c b=>hx c (by simp[b]))]
def nd{fr:List Nat}(a:∀x∈fr,h x=h' x):lJ h fr=lJ h' fr:=by
 unfold lJ;simp_all
def w7{d c:D}{b:List Nat}(a:eS h d=some (c,b)):∀x∈b,x∈nm d:=by
 cases d<;>simp only[eS,anf,Prod.mk.injEq]at a<;>try (cases a;done)
 ·simp_all
 ·simp_all
 ·simp_all
 ·simp_all
 ·split at a
  ·split at a
   ·simp only[anf,Prod.mk.injEq]at a;obtain⟨_,rfl⟩:=a;simp[nm,kF]
   ·cases a
  ·cases a
theorem wZ{d:D}{c:List D}{b:List Nat}(a:ir h d = some (c, b)):∀ x ∈ b, x ∈ nm d:=by
  cases d <;> simp only [ir] at a <;> first
    | (simp only [anf, Prod.mk.injEq] at a; simp_all)
    | (split at a
       · rename_i e
         simp only [anf, Prod.mk.injEq] at a;obtain ⟨_, rfl⟩:=a;exact w7 e
       · cases a)
def F5{d c:D}{b:List Nat}(a:b7 h d=some (c,b)):∀x∈b,x∈kF d:=by
 have one:∀d,(∀f i e,d ≠ .clo f i e)->b7 h d=(match eS h d with|some (c,b)=>some (canon c,b)|none=>none)->b7 h d=some (c,b)->∀x∈b,x∈kF d:=by
  intro d j k a;rw[k]at a;split at a
  ·rename_i g;simp only[anf,Prod.mk.injEq]at a;obtain⟨_,rfl⟩:=a;intro x l;have:=w7 g x l;cases d<;>first|exact this|simp_all
  ·cases a
 cases d with
 | ptr x v o =>
  simp only[b7]at a;split at a
  ·split at a
   ·simp only[anf,Prod.mk.injEq]at a;obtain⟨_,rfl⟩:=a;simp[kF]
   ·cases a
  ·cases a
 | agg e=>simp only[b7,anf,Prod.mk.injEq]at a;simp_all
 | ip e=>simp only[b7,anf,Prod.mk.injEq]at a;simp_all
 | fn f=>simp only[b7,anf,Prod.mk.injEq]at a;simp_all
 | clo f i e=>simp[b7,eS]at a
 | box1 x v s o n =>
  simp only[b7]at a;split at a
  ·rename_i g;simp only[anf,Prod.mk.injEq]at a;obtain⟨_,rfl⟩:=a;exact w7 g
  ·cases a
 | mp x v =>
  simp only[b7]at a;split at a
  ·simp only[anf,Prod.mk.injEq]at a;obtain⟨_,rfl⟩:=a;simp[kF]
  ·cases a
 | mpc ks vs=>simp only[b7,anf,Prod.mk.injEq]at a;simp_all
 | pm x v y =>
  simp only[b7]at a;split at a
  ·split at a
   ·split at a
    ·split at a
     ·simp only[anf,Prod.mk.injEq]at a;obtain⟨_,rfl⟩:=a;simp[kF]
     ·cases a
    ·cases a
   ·cases a
  ·cases a
 | _=>exact one _ (fun _ _ _ h=>by cases h) rfl a
def Di:∀{f b:List D}{e:List Nat},eF h f=some (b,e)->∀x∈e,x∈f.flatMap kF
 | [],b,e,a,x,c=>by
  simp only[eF,anf,Prod.mk.injEq]at a;simp_all
 | d::f,b,e,a,x,c=>by
  simp only[eF]at a;split at a
  ·rename_i g;split at a
   ·rename_i i;simp only[anf,Prod.mk.injEq]at a;obtain⟨_,rfl⟩:=a;rw[List.flatMap_cons];rcases aoh.1 c with c|c
    ·exact ank _ (F5 g x c)
    ·exact anl _ (Di i x c)
   ·cases a
  ·cases a
def RH{d e:D}{b:List Nat}(a:cO h d=some (e,b)):∀x∈b,x∈nm d:=by
 rcases adg d with⟨f,i,j,rfl⟩|c
 ·simp only[cO]at a;split at a
  ·rename_i g;simp only[anf,Prod.mk.injEq]at a;obtain⟨_,rfl⟩:=a;exact Di g
  ·cases a
 ·rw[Zs c];rw[zx h c]at a;exact F5 a
def jZ:∀{f b:List D}{e:List Nat},cc h f=some (b,e)->∀x∈e,∃d∈f,x∈nm d
 | [],b,e,a,x,c=>by
  simp only[cc,anf,Prod.mk.injEq]at a;simp_all
 | d::f,b,e,a,x,c=>by
  simp only[cc]at a;split at a
  ·rename_i g;split at a
   ·rename_i i;simp only[anf,Prod.mk.injEq]at a;obtain⟨_,rfl⟩:=a;rcases aoh.1 c with c|c
    ·exact⟨d,by simp,RH g x c⟩
    ·obtain⟨l,j,k⟩:=jZ i x c;grind
   ·cases a
  ·cases a
def zR{a:Nat->Option (Nat×Nat)}:∀{parts:List (Nat×D)}{cells:List D},(∀p∈parts,∀x∈nm p.2,h x=h' x)->lf h a cells parts=lf h' a cells parts
 | [],_,_=>rfl
 | (i,d)::parts,cells,hx=>by
  simp only[lf];rw[xS (hx (i,d) (by simp))];have c:∀b,lf h a b parts=lf h' a b parts:=fun b=>zR (fun p e=>hx p (by simp[e]));simp only[c]
def zS{b:Nat->Option (Nat×Nat)}:∀{parts:List (Nat×D)}{cells c:List D}{f:List Nat},lf h b cells parts=some (c,f)->∀x∈f,∃p∈parts,x∈nm p.2
 | [],cells,c,f,a,x,e=>by
  simp only[lf,anf,Prod.mk.injEq]at a;simp_all
 | (i,d)::parts,cells,c,f,a,x,e=>by
  simp only[lf]at a;split at a
  ·rename_i l g;split at a
   ·split at a
    ·rename_i j;simp only[anf,Prod.mk.injEq]at a;obtain⟨_,rfl⟩:=a;rcases aoh.1 e with e|e
     ·exact⟨(i,d),by simp,wZ g x e⟩
     ·obtain⟨p,m,k⟩:=zS j x e;grind
    ·cases a
   ·cases a
  ·cases a
theorem jU{a:List Nat}{p:Nat×Option Row}(b:p∈lJ h a):p.1∈a:=by
 unfold lJ at b;grind
def Lk{τ:Ty}{d:D}(a:∀x∈nm d,h x=h' x):gi τ h d=gi τ h' d:=by
 cases d<;>try rfl
 simp only[gi];rw[dM (a _ (by simp[nm,kF]))]
def Ai{x v:Nat}(a:h x=h' x):xe h x v=xe h' x v:=by
 unfold xe;rw[a]
def Pf{τ:Ty}{x v y:Nat}(c:h x=h' x)(a:h y=h' y):Cj τ h x v y (xe h x v)=Cj τ h' x v y (xe h' x v):=by
 rw[Ai c];cases xe h' x v with
 | none=>rfl
 | some q =>
  obtain⟨r,d,s,n⟩:=q;simp only[Cj];rw[a,nd (fr:=[y]) (fun z b=>by simp only[anr]at b;subst b;exact a)]
def Sh{τ:Ty}{d:D}(a:∀x∈nm d,h x=h' x):uD τ h d=uD τ h' d:=by
 have b:=Lk (τ:=τ) a;cases d with
 | ptr x v o =>
  simp only[uD];rw[dM (a x (by simp[nm,kF]))];cases live h' x v with
  | none=>rfl
  | some r=>simp only[wz];rw[b]
 | pm x v y =>
  simp only[uD];rw[dM (a x (by simp[nm,kF])),Pf (a x (by simp[nm,kF])) (a y (by simp[nm,kF]))]
 | _=>exact b
def IH{τ:Ty}{p d:D}(c:∀x∈nm p,h x=h' x)(hx:∀x∈nm d,h x=h' x):jz τ h p d=jz τ h' p d:=by
 cases p<;>try rfl
 simp only[jz];rw[dM (c _ (by simp[nm,kF])),xS hx];cases live h' _ _ with
 | none=>rfl
 | some r =>
  cases e:ir h' d with
  | none=>rfl
  | some q =>
   obtain⟨f,b⟩:=q;simp only;rw[nd (fr:=b) (fun x a=>hx x (wZ e x a))]
def Pj{τ:Ty}{p d:D}(a:∀x∈nm p,h x=h' x)(b:∀x∈nm d,h x=h' x):jy τ h p d=jy τ h' p d:=by
 have c:=IH (τ:=τ) a b;cases d with
 | box1 y e s f n =>
  cases p with
  | ptr x v o =>
   simp only[jy];rw[dM (a _ (by simp[nm,kF]))]
  | pm x v k =>
   simp only[jy];rw[dM (a x (by simp[nm,kF])),dM (b y (by simp[nm,kF]))]
  | _=>rfl
 | mp y' v' =>
  cases p with
  | pm x v y =>
   simp only[jy];rw[dM (a x (by simp[nm,kF])),sD (a y (by simp[nm,kF]))]
  | _=>rfl
 | _=>exact c
def Gx{d:D}(a:∀x∈nm d,h x=h' x):mapOf h d=mapOf h' d:=by
 cases d<;>try rfl
 simp only[mapOf];rw[sD (a _ (by simp[nm,kF]))]
def G3{τ:Ty}{m i:D}{a:Bool}(b:∀x∈nm m,h x=h' x):jT T τ h m i a=jT T τ h' m i a:=by
 unfold jT;rw[Gx b]
def XH{d:D}(a:∀x∈nm d,h x=h' x):BO h d=BO h' d:=by
 cases d<;>first|rfl|(simp only[BO];rw[pZ a])
theorem aal{d c:D}{b:List Nat}(a:BO h d = some (c, b)):∀ x ∈ b, x ∈ nm d:=by
  cases d <;> simp only [BO] at a <;> first
    | (simp only [anf, Prod.mk.injEq] at a; simp_all)
    | (split at a
       · rename_i e
         simp only [anf, Prod.mk.injEq] at a;obtain ⟨_, rfl⟩:=a;exact w7 e
       · cases a)
def uG{τ:Ty}{m i d:D}(b:∀x∈nm m,h x=h' x)(hd:∀x∈nm d,h x=h' x):fh T τ h m i d=fh T τ h' m i d:=by
 unfold fh;rw[XH hd];split
 ·rename_i _ _ y v n f g _ _ c;have a:=b y (by simp[nm,kF]);rw[a,sD a];rw[nd (fun z e=>hd z (aal c z e))]
 ·rfl
def Ph{d:D}(a:∀x∈nm d,h x=h' x):rp h d=rp h' d:=by
 cases d<;>try rfl
 simp only[rp];rw[mD (a _ (by simp[nm,kF]))]
def IF{τ:Ty}{i:Nat}{d:D}(a:∀x∈nm d,h x=h' x):iw T τ h i d=iw T τ h' i d:=by
 cases d<;>try rfl
 ·simp only[iw];rw[mD (a _ (by simp[nm,kF]))]
 ·simp only[iw];rw[Ai (a _ (by simp[nm,kF]))]
def Ci{τ:Ty}{d i:D}(a:∀x∈nm d,h x=h' x):di T τ h d i=di T τ h' d i:=by
 cases d<;>cases i<;>try rfl
 ·simp only[di];rw[dM (a _ (by simp[nm,kF]))]
 ·simp only[di];rw[mD (a _ (by simp[nm,kF]))]
def IG{τ:Ty}{d:D}{a b c:Option D}(e:∀x∈nm d,h x=h' x):jx T τ h d a b c=jx T τ h' d a b c:=by
 cases d<;>try rfl
 simp only[jx];rw[dM (e _ (by simp[nm,kF]))]
def ID{τ:Ty}{parts:List (Nat×D)}(d:∀p∈parts,∀x∈nm p.2,h x=h' x):jw T τ h parts=jw T τ h' parts:=by
 unfold jw;have e:∀a cells,lf h a cells parts=lf h' a cells parts:=fun a cells=>zR d;split
 ·split
  ·rw[e];split
   ·rename_i f;rw[nd (fun x b=>by obtain⟨p,g,c⟩:=zS f x b;exact d p g x c)]
   ·rfl
  ·rfl
 ·rfl
def Pd{q:Nat->Bool}{τ:Ty}{a:Option Nat}{parts:List (Nat×D)}(b:∀p∈parts,∀x∈nm p.2,h x=h' x):uB q T τ h a parts=uB q T τ h' a parts:=by
 have c:=ID (T:=T) (τ:=τ) b;unfold uB;split
 ·split
  ·exact c
  ·split
   ·rename_i x v s o n _;have e:alive h (.buf x v s o n)=alive h' (.buf x v s o n):=by
     simp only[alive];rw[mD (b (0,.buf x v s o n) (by simp) x (by simp[nm,kF]))]
    rw[e]
   ·rename_i x v s o n _;have e:alive h (.buf x v s o n)=alive h' (.buf x v s o n):=by
     simp only[alive];rw[mD (b (0,.box1 x v s o n) (by simp) x (by simp[nm,kF]))]
    rw[e]
   ·rw[c]
 ·exact c
def BE{τ:Ty}{d len:Nat}{parts:List (Nat×D)}(f:∀p∈parts,∀x∈nm p.2,h x=h' x):fG T τ h e d len parts=fG T τ h' e d len parts:=by
 unfold fG;have g:∀a cells,lf h a cells parts=lf h' a cells parts:=fun a cells=>zR f;split
 ·split
  ·split
   ·rw[g];split
    ·rename_i i;rw[nd (fun x b=>by obtain⟨p,j,c⟩:=zS i x b;exact f p j x c)]
    ·rfl
   ·rfl
  ·rfl
 ·rfl
def G1{τ:Ty}{d:Nat}{s x:D}(a:∀y∈nm s,h y=h' y)(b:∀y∈nm x,h y=h' y):lU T τ h e d s x=lU T τ h' e d s x:=by
 unfold lU;rw[Lg b];cases s<;>try rfl
 simp only;rw[dM (a _ (by simp[nm,kF]))]
def Q6{d:D}(a:∀x∈nm d,h x=h' x):alive h d=alive h' d:=by
 cases d<;>try rfl
 all_goals
  simp only[alive];rw[mD (a _ (by simp[nm,kF]))]
def Ev{c:Option Nat}{b:Builtin}{f:List Nat}{a:List D}(g:∀d∈a,∀x∈nm d,h x=h' x):eT T h e c b f a=eT T h' e c b f a:=by
 unfold eT;split
 ·rw[Q6 (g _ (by simp)),Gx (g _ (by simp))]
 ·split
  ·split
   ·rw[G1 (g _ (by simp)) (g _ (by simp))]
   ·rfl
  ·rfl
 ·rfl
 ·rfl
 ·rfl
def FZ{b:Option Nat}{g:Nat}{a:List D}(i:∀d∈a,∀x∈nm d,h x=h' x):zt Γ h e b g a=zt Γ h' e b g a:=by
 unfold zt;rw[lH i];split
 ·rename_i j;rw[nd (fun x c=>by obtain⟨d,k,f⟩:=jZ j x c;exact i d k x f)]
 ·rfl
def zu{b:Option Nat}{g x v:Nat}{d0:D}{a:List D}(j:h x=h' x)(i:∀d∈a,∀x∈nm d,h x=h' x):uw Γ h e b g x v d0 a=uw Γ h' e b g x v d0 a:=by
 unfold uw;rw[To j,lH i];split
 ·split
  ·split
   ·rename_i k;rw[nd (fun x c=>by obtain⟨d,l,f⟩:=jZ k x c;exact i d l x f)]
   ·rfl
  ·rfl
 ·rfl
def Rm{b:Option Nat}{p:Nat×Nat×Nat}{a:List D}(c:∀d∈a,∀x∈nm d,h x=h' x):yO h e b p a=yO h' e b p a:=by
 unfold yO;split
 ·rw[dM (c _ aoi _ (by simp[nm,kF])),dM (c _ (aoj _ (aoj _ aoi)) _ (by simp[nm,kF]))]
 ·rfl
def Ri{p:Grow}{a:List D}(b:∀d∈a,∀x∈nm d,h x=h' x):BP h p a=BP h' p a:=by
 unfold BP;split
 ·rw[Ai (b _ aoi _ (by simp[nm,kF])),b _ aoi _ (show _∈nm (D.pm _ _ _) by simp only[nm,kF];simp_all)]
 ·rfl
def Lj{c:Option Nat}{f:D}{a:List D}(m:∀x∈nm f,h x=h' x)(hx:∀d∈a,∀x∈nm d,h x=h' x):kD Γ h e c f a=kD Γ h' e c f a:=by
 cases f<;>try rfl
 ·rename_i g;simp only[kD];split
  ·exact Rm hx
  split
  ·exact Ri hx
  split
  ·split
   ·exact zu (hx _ aoi _ (by simp[nm,kF])) (fun d b=>hx d (aoj _ b))
   ·exact zu (hx _ aoi _ (by simp[nm,kF])) (fun d b=>hx d (aoj _ b))
   ·exact zu (hx _ aoi _ (by simp[nm,kF])) (fun d b=>hx d (aoj _ b))
   ·rfl
  ·exact FZ hx
 ·rename_i g n i;simp only[kD];split
  ·rename_i j;rw[anh]at j;have l:∀d∈i,∀x∈nm d,h x=h' x:=fun d b x k=>by
    have:=j d b;rw[Zs (fun f n p o=>by rw[o]at this;cases this)]at k;exact m x (aog.2 ⟨d,b,k⟩)
   refine FZ fun d b =>?_;grind
  ·rfl
def yT{b:Nat}{a:Option Nat}{x:D}(c:∀y∈nm x,h y=h' y):dY T b e a h x=dY T b e a h' x:=by
 unfold dY;split
 ·rw[dM (c _ (by simp[nm,kF])),mD (c _ (by simp[nm,kF]))]
 ·rfl
 ·rfl
def O3{d:D}(c:∀x∈nm d,h x=h' x):uA h d=uA h' d:=by
 by_cases a:∀b,d ≠ .agg b
 ·rw[Bb a,Bb a];exact pZ c
 ·simp only[ne_eq,Classical.not_forall,Classical.not_not]at a;obtain⟨b,rfl⟩:=a;rfl
def Mv{d f:D}{c:List Nat}(a:uA h d=some (f,c)):∀x∈c,x∈nm d:=by
 by_cases b:∀e,d ≠ .agg e
 ·rw[Bb b]at a;exact w7 a
 ·simp only[ne_eq,Classical.not_forall,Classical.not_not]at b;obtain⟨e,rfl⟩:=b;simp only[uA,anf,Prod.mk.injEq]at a;simp_all
def Pc{q:Nat->Bool}{b:Nat}{a:Option Nat}{x:D}(hx:∀y∈nm x,h y=h' y):wy T q b e a h x=wy T q b e a h' x:=by
 unfold wy p6;rw[O3 hx];split
 ·rw[yT hx];split
  ·rfl
  ·split
   ·rename_i c;rw[nd fun y d=>hx y (Mv c y d)]
   ·rfl
 ·exact yT hx
def aaQ{j:Operand -> D}(r:∀ x ∈ jG o j, h x = h' x):vr T Γ e o j h = vr T Γ e o j h':=by
  have key:∀ y, y ∈ o.op.operands.toList -> (∀ a b c, o.op ≠ .pick a b c) -> (∀ a, o.op ≠ .move a) -> (∀ a b c, o.op ≠ .makeFunc a b c) -> ∀ x ∈ nm (j y), h x = h' x:=by
    intro y s B C E x t;apply r x;unfold jG;grind
  unfold vr;cases u:o.op <;> (try simp only) <;> rw [u] at key <;> try rfl
  case assign x => exact Pc (key x (by simp [Op.operands]) (by simp) (by simp) (by simp))
  case box ty x => rw [xS (key x (by simp [Op.operands]) (by simp) (by simp) (by simp))]
                   split
                   · rename_i k
                     rw [nd (fun z v => key x (by simp [Op.operands]) (by simp) (by simp) (by simp) z (wZ k z v))]
                   · rfl
  case load ty x => simp only [Sh (key x (by simp [Op.operands]) (by simp) (by simp) (by simp))]
  case store ty x y => simp only [Pj (key x (by simp [Op.operands]) (by simp) (by simp) (by simp)) (key y (by simp [Op.operands]) (by simp) (by simp) (by simp))]
  case nilCheck x => exact Ph (key x (by simp [Op.operands]) (by simp) (by simp) (by simp))
  case fieldAddr ty x i => simp only [IF (key x (by simp [Op.operands]) (by simp) (by simp) (by simp))]
  case makeMap ty l => cases l <;> rfl
  case lookup ty m i ok => simp only [G3 (key m (by simp [Op.operands]) (by simp) (by simp) (by simp))]
  case mapUpdate ty m i x => simp only [uG (key m (by simp [Op.operands]) (by simp) (by simp) (by simp)) (key x (by simp [Op.operands]) (by simp) (by simp) (by simp))]
  case insert ty m i x => simp only [uG (key m (by simp [Op.operands]) (by simp) (by simp) (by simp)) (key x (by simp [Op.operands]) (by simp) (by simp) (by simp))]
  case indexAddr ty x i => simp only [Ci (key x (by simp [Op.operands]) (by simp) (by simp) (by simp))]
  case slice ty x F G H => simp only [IG (key x (by simp [Op.operands]) (by simp) (by simp) (by simp))]
  case build ty parts =>
    have:∀ p ∈ parts.toList.map (fun p => (p.1, j p.2)), ∀ x ∈ nm p.2, h x = h' x:=by
      intro p n x g;obtain ⟨q, w, rfl⟩:=am5.1 n;exact key q.2 (by simp only [Op.operands, List.toList_toArray]; grind) (by simp) (by simp) (by simp) x g
    simp only [Pd this]
  case buildSlice ty len parts =>
    have:∀ p ∈ parts.toList.map (fun p => (p.1, j p.2)), ∀ x ∈ nm p.2, h x = h' x:=by
      intro p n x g;obtain ⟨q, w, rfl⟩:=am5.1 n;exact key q.2 (by simp only [Op.operands, List.toList_toArray]; grind) (by simp) (by simp) (by simp) x g
    simp only [BE this]
  case call c =>
    have:∀ d ∈ c.args.toList.map j, ∀ x ∈ nm d, h x = h' x:=by
      intro d A x g;obtain ⟨y, s, rfl⟩:=am5.1 A;exact key y (by simp only [Op.operands, Call.operands, aol]; simp_all) (by simp) (by simp) (by simp) x g
    cases k:c.callee with
    | value f => exact Lj (key f (by simp [Op.operands, Call.operands, k]) (by simp) (by simp) (by simp)) this
    | builtin b => exact Ev this
    | invoke _ _ => rfl
def aiN{j g:Operand->D}(hx:∀y∈o.op.operands.toList,j y=g y):vr T Γ e o j h=vr T Γ e o g h∧jG o j=jG o g:=by
 refine⟨?_,?_⟩
 ·unfold vr;cases v:o.op<;>(try simp only)<;>rw[v]at hx<;>try rfl
  case move x=>rw[hx x (by simp[Op.operands])]
  case assign x=>rw[hx x (by simp[Op.operands])]
  case pick a b c=>rw[hx a (by simp[Op.operands]),hx b (by simp[Op.operands]),hx c (by simp[Op.operands])]
  case box ty x=>rw[hx x (by simp[Op.operands])]
  case load ty x=>rw[hx x (by simp[Op.operands])]
  case store ty x y=>rw[hx x (by simp[Op.operands]),hx y (by simp[Op.operands])]
  case nilCheck x=>rw[hx x (by simp[Op.operands])]
  case fieldAddr ty x i=>rw[hx x (by simp[Op.operands])]
  case field ty x i=>rw[hx x (by simp[Op.operands])]
  case makeMap ty n=>cases n<;>rfl
  case lookup ty m i ok=>rw[hx m (by simp[Op.operands]),hx i (by simp[Op.operands])]
  case mapUpdate ty m i x=>rw[hx m (by simp[Op.operands]),hx i (by simp[Op.operands]),hx x (by simp[Op.operands])]
  case insert ty m i x=>rw[hx m (by simp[Op.operands]),hx i (by simp[Op.operands]),hx x (by simp[Op.operands])]
  case indexAddr ty x i=>rw[hx x (by simp[Op.operands]),hx i (by simp[Op.operands])]
  case index ty x i=>rw[hx x (by simp[Op.operands]),hx i (by simp[Op.operands])]
  case slice ty x q r t =>
   rw[hx x (by simp[Op.operands])];have w:q.map j=q.map g:=by cases q with|none=>rfl|some y=>simp only[Option.map_some];rw[hx y (by simp[Op.operands])]
   have z:r.map j=r.map g:=by cases r with|none=>rfl|some y=>simp only[Option.map_some];rw[hx y (by simp[Op.operands])]
   have A:t.map j=t.map g:=by cases t with|none=>rfl|some y=>simp only[Option.map_some];rw[hx y (by simp[Op.operands])]
   rw[w,z,A]
  case build ty parts =>
   have:parts.toList.map (fun p=>(p.1,j p.2))=parts.toList.map (fun p=>(p.1,g p.2)):=aom fun p B=>by rw[hx p.2 (by simp only[Op.operands,List.toList_toArray];grind)]
   rw[this]
  case buildSlice ty len parts =>
   have:parts.toList.map (fun p=>(p.1,j p.2))=parts.toList.map (fun p=>(p.1,g p.2)):=aom fun p B=>by rw[hx p.2 (by simp only[Op.operands,List.toList_toArray];grind)]
   rw[this]
  case makeSlice ty l c=>rw[hx l (by simp[Op.operands]),hx c (by simp[Op.operands])]
  case binOp C ty x y ty'=>rw[hx x (by simp[Op.operands]),hx y (by simp[Op.operands])]
  case unOp C ty x=>rw[hx x (by simp[Op.operands])]
  case convert s d x=>rw[hx x (by simp[Op.operands])]
  case makeFunc fn first caps =>
   have:caps.toList.map j=caps.toList.map g:=aom fun y u=>hx y (by simp only[Op.operands,aol];simp_all);have k:first.toList.map j=first.toList.map g:=aom fun y u=>hx y (by simp only[Op.operands,aol];simp_all)
   rw[this,k]
  case extract x i=>rw[hx x (by simp[Op.operands])]
  case call c =>
   have:c.args.toList.map j=c.args.toList.map g:=aom fun y u=>hx y (by simp only[Op.operands,Call.operands,aol];simp_all);cases E:c.callee with
   | value f=>simp only;rw[this,hx f (by simp[Op.operands,Call.operands,E])]
   | builtin b=>grind
   | invoke _ _=>rfl
 ·have F:o.op.operands.toList.flatMap (fun y=>nm (j y))=o.op.operands.toList.flatMap (fun y=>nm (g y)):=by
   rw[List.flatMap_def,List.flatMap_def];congr 1;simp_all
  unfold jG;grind
end
section
variable {T:Nat->Option Ty} {h h':Nat->Option Row} {e:Nat} {o:Oper} {Γ:Env}
def G2{τ:Ty}{d:Nat}{s x:D}{E:cI}(a:lU T τ h e d s x=some E):∀p∈E.hw,p.1=d∨p.1∈nm s:=by
 unfold lU at a;split at a
 ·split at a
  ·split at a
   ·split at a
    ·grind
    ·split at a
     ·split at a
      ·simp only[anf]at a;subst a;intro p b;simp only[anc,aon,or_false]at b;rcases b with rfl|rfl
       ·exact .inr (by simp[nm,kF])
       ·exact .inl rfl
      ·cases a
     ·cases a
    ·cases a
   ·cases a
  ·cases a
 ·cases a
theorem F0{f:Option Nat}{g:Nat}{c:List D}{E:cI}(a:zt Γ h e f g c=some E):∀p∈E.hw,f=some p.1∨∃d∈c,p.1∈nm d:=by
 unfold zt at a;split at a
 ·rename_i i;split at a
  ·simp only[anf]at a;subst a;intro p b;simp only at b;split at b
   ·simp at b
   ·exact .inr (jZ i _ (jU b))
  ·split at a
   ·split at a
    ·simp only[anf]at a;subst a;intro p b;simp only[aoh,anr]at b;rcases b with b|rfl
     ·split at b
      ·simp at b
      ·exact .inr (jZ i _ (jU b))
     ·exact .inl rfl
    ·cases a
   ·cases a
  ·cases a
 ·cases a
theorem Rj{p:Grow}{b:List D}{E:cI}(a:BP h p b=some E):∀q∈E.hw,∃d∈b,q.1∈nm d:=by
 unfold BP at a;split at a<;>try (cases a;done)
 split at a<;>try (cases a;done)
 split at a<;>try (cases a;done)
 rename_i c;obtain⟨rfl,_⟩:=c;split at a<;>try (cases a;done)
 simp only[anf]at a;subst a;intro q e;simp only[anc,aon,or_false]at e;rcases e with rfl|rfl
 ·grind[nm,kF,List.mem_cons_self]
 grind[nm,kF,List.mem_cons_self]
theorem Rn{c:Option Nat}{p:Nat×Nat×Nat}{b:List D}{E:cI}(a:yO h e c p b=some E):∀q∈E.hw,c=some q.1∨∃d∈b,q.1∈nm d:=by
 unfold yO at a;split at a<;>try (cases a;done)
 split at a<;>try (cases a;done)
 split at a<;>try (cases a;done)
 simp only[anf]at a;subst a;intro q f;simp only[anc,aon,or_false]at f;rcases f with rfl|rfl|rfl
 ·grind[nm,kF,List.mem_cons_of_mem,List.mem_cons_self]
 ·grind[nm,kF,List.mem_cons_self]
 ·exact .inl rfl
def zw{i:Option Nat}{g x v:Nat}{d0:D}{c:List D}{E:cI}(a:uw Γ h e i g x v d0 c=some E):∀p∈E.hw,i=some p.1∨p.1=x∨∃d∈c,p.1∈nm d:=by
 unfold uw at a;split at a<;>try (cases a;done)
 split at a<;>try (cases a;done)
 split at a<;>try (cases a;done)
 rename_i f;split at a<;>try (cases a;done)
 split at a<;>try (cases a;done)
 ·simp only[anf]at a;subst a;intro p b;simp only[aoh,anr]at b;rcases b with b|rfl
  ·exact .inr (.inr (jZ f _ (jU b)))
  omega
 ·simp only[anf]at a;subst a;intro p b;simp only[aoh,anr]at b;rcases b with b|rfl
  ·exact .inr (.inr (jZ f _ (jU b)))
  omega
 ·split at a<;>try (cases a;done)
  split at a<;>try (cases a;done)
  simp only[anf]at a;subst a;intro p b;simp only[aoh,anc,aon,or_false]at b;rcases b with b|rfl|rfl
  ·exact .inr (.inr (jZ f _ (jU b)))
  ·omega
  ·exact .inl rfl
def V4{τ:Ty}{d:D}{E:cI}(a:gi τ h d=some E):E.hw=[]:=by
 cases d<;>simp only[gi]at a<;>try (cases a;done)
 all_goals grind
def adN{τ:Ty}{d:D}{E:cI}(a:uD τ h d=some E):∀p∈E.hw,p.1∈nm d:=by
 have none_:E.hw=[]->∀p∈E.hw,p.1∈nm d:=fun b p c=>by simp_all
 have e:gi τ h d=some E->∀p∈E.hw,p.1∈nm d:=fun b=>none_ (V4 b);cases d with
 | ptr x v o =>
  grind[uD,live,wz]
 | pm x v y =>
  simp only[uD]at a;split at a
  ·grind
  ·unfold Cj at a;split at a
   ·split at a
    ·split at a
     ·simp only[anf]at a;subst a;intro p c;grind[nm,kF,jU,List.mem_singleton]
     ·cases a
    ·cases a
   ·cases a
 | _=>exact e a
def II{τ:Ty}{q d:D}{E:cI}(a:jz τ h q d=some E):∀p∈E.hw,p.1∈nm d∨p.1∈nm q:=by
 cases q<;>simp only[jz]at a<;>try (cases a;done)
 split at a
 ·split at a
  ·rename_i b;split at a
   ·simp only[anf]at a;subst a;intro p c;grind[nm,kF,wZ,jU,List.mem_singleton]
   ·cases a
  ·cases a
 ·cases a
def Pk{τ:Ty}{q d:D}{E:cI}(a:jy τ h q d=some E):∀p∈E.hw,p.1∈nm d∨p.1∈nm q:=by
 have c:jz τ h q d=some E->∀p∈E.hw,p.1∈nm d∨p.1∈nm q:=II;cases d with
 | box1 y e s f n =>
  cases q with
  | ptr x v o =>
   grind[jy,nm,kF,Option.some.injEq,List.mem_singleton]
  | pm x v k =>
   simp only[jy]at a;split at a
   ·split at a
    ·simp only[anf]at a;subst a;intro p b;simp only[anc,aon,or_false]at b;rcases b with rfl|rfl|rfl
     ·exact .inl (by simp[nm,kF])
     ·exact .inr (by simp[nm,kF])
     ·exact .inr (by simp[nm,kF])
    ·cases a
   ·cases a
  | _=>simp[jy]at a
 | mp y' v' =>
  cases q with
  | pm x v y =>
   grind[jy,nm,kF,Option.some.injEq,List.mem_singleton]
  | _=>simp[jy]at a
 | _=>exact c a
theorem Pg{τ:Ty}{m i:D}{a:Bool}{E:cI}(b:jT T τ h m i a=some E):E.hw=[]:=by
 unfold jT at b;grind
def uH{τ:Ty}{m i d:D}{E:cI}(a:fh T τ h m i d=some E):∀p∈E.hw,p.1∈nm d∨p.1∈nm m:=by
 unfold fh at a;split at a
 ·rename_i b;split at a
  ·split at a
   ·split at a
    ·simp only[anf]at a;subst a;intro p c;grind[nm,kF,aal,jU,List.mem_singleton]
    ·cases a
   ·cases a
  ·cases a
 ·cases a
def uC{τ:Ty}{parts:List (Nat×D)}{E:cI}(a:jw T τ h parts=some E):∀p∈E.hw,∃q∈parts,p.1∈nm q.2:=by
 unfold jw at a;split at a
 ·split at a
  ·split at a
   ·rename_i b;simp only[anf]at a;subst a;intro p c;exact zS b _ (jU c)
   ·cases a
  ·cases a
 ·cases a
def Pe{q:Nat->Bool}{τ:Ty}{b:Option Nat}{parts:List (Nat×D)}{E:cI}(a:uB q T τ h b parts=some E):∀p∈E.hw,∃q∈parts,p.1∈nm q.2:=by
 unfold uB at a;split at a
 ·split at a
  ·exact uC a
  ·split at a
   ·grind
   ·grind
   ·unfold cE at a;split at a
    ·rename_i c;simp only[anf]at a;subst a;have d:=uC c;exact d
    ·cases a
 ·exact uC a
def MV{r:Operand->D}{E:cI}(j:vr T Γ e o r h=some E):∀p∈E.hw,p.1∈jG o r:=by
 have key:∀y,y∈o.op.operands.toList->(∀a b c,o.op ≠ .pick a b c)->(∀a,o.op ≠ .move a)->(∀a b c,o.op ≠ .makeFunc a b c)->∀x∈nm (r y),x∈jG o r:=by
  grind[jG]
 have keyd:∀d,o.dst=some d->(∀a b c,o.op ≠ .pick a b c)->(∀a,o.op ≠ .move a)->(∀a b c,o.op ≠ .makeFunc a b c)->d∈jG o r:=by
  grind[jG]
 have u:∀(d:D),(some ⟨d,[]⟩:Option cI)=some E->∀p∈E.hw,p.1∈jG o r:=by
  grind
 unfold vr at j;cases P:o.op<;>rw[P]at j key keyd<;>simp only at j<;>try (cases j;done)
 case move x=>exact u _ j
 case assign x =>
  have M:dY T o.type e o.dst h (r x)=some E->∀p∈E.hw,p.1∈jG o r:=by
   intro j;unfold dY at j;split at j
   ·rename_i y v s c n t;split at j
    ·rename_i w _;split at j
     ·exact u _ j
     ·simp only[anf]at j;subst j;intro p k;simp only[anc,aon,or_false]at k;rcases k with rfl|rfl
      ·simp_all[Op.operands,nm,kF]
      simp_all
    grind
   ·split at j
    ·rename_i w _;split at j
     ·split at j
      ·simp only[anf]at j;subst j;simp_all
      ·cases j
     ·cases j
    ·cases j
   ·exact u _ j
  unfold wy at j;split at j
  ·rename_i d w;split at j
   ·grind
   ·unfold p6 at j;split at j
    ·rename_i U V F;simp only[anf]at j;subst j;intro p k;exact key x (by simp[Op.operands]) (by simp) (by simp) (by simp) _ (Mv F _ (jU k))
    ·cases j
  grind
 case pick a b c =>
  grind
 case alloc ty =>
  split at j
  ·rename_i w;split at j
   ·simp only[anf]at j;subst j;simp_all
   ·cases j
  ·cases j
 case box ty x =>
  split at j
  ·rename_i w F;split at j
   ·simp only[anf]at j;subst j;intro p k;rcases aoh.1 k with k|k
    ·exact key x (by simp[Op.operands]) (by simp) (by simp) (by simp) _ (wZ F _ (jU k))
    simp_all
   ·cases j
  ·cases j
 case load ty x =>
  split at j
  ·intro p k;exact key x (by simp[Op.operands]) (by simp) (by simp) (by simp) _ (adN j p k)
  ·cases j
 case store ty x y =>
  split at j
  ·intro p k;rcases Pk j p k with z|z
   ·simp_all[Op.operands]
   simp_all[Op.operands]
  ·cases j
 case makeMap ty I =>
  cases I with
  | some _=>cases j
  | none =>
   simp only at j;split at j
   ·rename_i w;unfold rn at j;split at j
    ·split at j
     ·cases j
     simp only[anf]at j;subst j;simp_all
    ·cases j
   ·cases j
 case lookup ty m i ok =>
  grind[Pg]
 case mapUpdate ty m i x =>
  split at j
  ·intro p k;rcases uH j p k with z|z
   ·simp_all[Op.operands]
   simp_all[Op.operands]
  ·cases j
 case insert ty m i x =>
  split at j
  ·intro p k;rcases uH j p k with z|z
   ·simp_all[Op.operands]
   simp_all[Op.operands]
  ·cases j
 case nilCheck x =>
  cases t:r x<;>rw[t]at j<;>simp only[rp]at j<;>try (cases j;done)
  ·grind
  ·exact u _ j
 case fieldAddr ty x i =>
  split at j
  ·cases t:r x<;>rw[t]at j<;>simp only[iw]at j<;>try (cases j;done)
   ·grind
   ·grind
   grind
  ·cases j
 case field ty x i =>
  split at j
  ·cases t:r x<;>rw[t]at j<;>simp only[DD]at j<;>try (cases j;done)
   grind
  ·cases j
 case indexAddr ty x i =>
  split at j
  ·cases t:r x<;>cases H:r i<;>rw[t,H]at j<;>simp only[di]at j<;>try (cases j;done)
   all_goals
    grind
  ·cases j
 case index ty x i =>
  split at j
  ·cases t:r x<;>cases H:r i<;>rw[t,H]at j<;>simp only[oh]at j<;>try (cases j;done)
   ·grind
   grind
  ·cases j
 case slice ty x W H X =>
  split at j
  ·unfold jx at j;split at j
   ·grind
   ·grind
   ·grind
   ·cases j
  ·cases j
 case build ty parts =>
  split at j
  ·intro p k;obtain⟨q,J,t⟩:=Pe j p k;obtain⟨y,N,rfl⟩:=am5.1 J;exact key y.2 (by simp only[Op.operands,List.toList_toArray];grind) (by simp) (by simp) (by simp) _ t
  ·cases j
 case buildSlice ty len parts =>
  split at j
  ·rename_i w;unfold fG at j;split at j
   ·split at j
    ·split at j
     ·split at j
      ·rename_i Q;split at j
       ·simp only[anf]at j;subst j;intro p k;rcases aoh.1 k with k|k
        ·obtain⟨q,J,t⟩:=zS Q _ (jU k);obtain⟨y,N,rfl⟩:=am5.1 J;exact key y.2 (by simp only[Op.operands,List.toList_toArray];grind) (by simp) (by simp) (by simp) _ t
        simp_all
       ·cases j
      ·cases j
     ·cases j
    ·cases j
   ·cases j
  ·cases j
 case makeSlice ty l c =>
  split at j
  ·rename_i w;unfold vJ at j;split at j
   ·split at j
    ·split at j
     ·simp only[anf]at j;subst j;simp_all
     ·cases j
    ·cases j
   ·cases j
  ·cases j
 case binOp op ty x y ty' =>
  grind
 case unOp op ty x =>
  grind
 case makeFunc fn first caps =>
  grind
 case convert s d x =>
  grind
 case extract x i =>
  grind
 case call c =>
  cases F:c.callee with
  | invoke _ _=>simp_all
  | value f =>
   rw[F]at j;simp only at j;have A:∀d∈c.args.toList.map r,∀x∈nm d,x∈jG o r:=by
    intro d w x t;obtain⟨y,N,rfl⟩:=am5.1 w;exact key y (by grind[Op.operands,Call.operands,Array.toList_append]) (by simp) (by simp) (by simp) _ t
   have B:∀d,o.dst=some d->d∈jG o r:=fun d w=>keyd d w (by simp) (by simp) (by simp);have K:∀x∈nm (r f),x∈jG o r:=key f (by grind[Op.operands,Call.operands]) (by simp) (by simp) (by simp);generalize c.args.toList.map r=Y at *;unfold kD at j;split at j
   ·split at j
    ·intro p k;grind[Rn]
    split at j
    ·grind[Rj]
    split at j
    ·split at j
     ·intro p k;rcases zw j p k with z|z|⟨d,w,t⟩
      ·exact B _ z
      ·exact A _ aoi _ (by rw[z];simp[nm,kF])
      grind
     ·intro p k;rcases zw j p k with z|z|⟨d,w,t⟩
      ·exact B _ z
      ·exact A _ aoi _ (by rw[z];simp[nm,kF])
      grind
     ·intro p k;rcases zw j p k with z|z|⟨d,w,t⟩
      ·exact B _ z
      ·exact A _ aoi _ (by rw[z];simp[nm,kF])
      grind
     ·cases j
    ·intro p k;grind[F0]
   ·rename_i g R caps L;split at j
    ·rename_i G;rw[anh]at G;have O:∀d∈caps,∀x∈nm d,x∈jG o r:=fun d w x t=>by
      have:=G d w;rw[Zs (fun f R Z S=>by rw[S]at this;cases this)]at t;exact K _ (by rw[L];exact aog.2 ⟨d,w,t⟩)
     intro p k;grind[F0]
    ·cases j
   ·cases j
  | builtin b =>
   rw[F]at j;simp only at j;unfold eT at j;split at j
   ·grind
   ·rename_i s x C;obtain⟨ps,px,hl,rfl,rfl⟩:=Zm C;split at j
    ·split at j
     ·rename_i w;intro p k;rcases G2 j p k with h1|h1
      ·simp_all
      simp_all[Op.operands,Call.operands,aol]
     ·cases j
    ·cases j
   ·grind
   ·grind
   ·cases j
end
theorem fD{h h':Nat->Option Row}{k:Nat}(a:h (rt k)=h' (rt k)):EH h k=EH h' k:=by
 unfold EH;unfold rt at a;grind
theorem gr:PK=1000000:=rfl
theorem jM(x o:Nat):2*PK<=NK x o:=by unfold NK;rw[gr];omega
def zn{x:Nat}(o:Nat)(a:x<PK):NK x o % PK=x:=by
 unfold NK;rw[Nat.mul_add_mod];exact anW a
def HL{x:Nat}(o:Nat)(a:x<PK):NK x o / PK-2=o:=by
 unfold NK;rw[Nat.mul_add_div (by rw[gr];decide),aph a];omega
def Q1{k:Nat}(a:2*PK<=k):k=NK (k % PK) (k / PK-2):=by
 unfold NK;have c:2<=k / PK:=by
  rw[Nat.le_div_iff_mul_le (by rw[gr];decide)];exact a
 have b:k / PK-2+2=k / PK:=by omega
 rw[b];exact (ao2 k PK).symm
def NF(k:Nat):k % PK<PK:=anT _ (by rw[gr];decide)
def yX{x o:Nat}(a:x<PK):rt (NK x o)=x:=by
 unfold rt;rw[if_neg (by have:=jM x o;omega),zn o a]
theorem kh{k:Nat}(a:k<2*PK):rt k=k:=if_pos a
def wU{h:Nat->Option Row}{x o:Nat}(a:x<PK):EH h (NK x o)=(h x).bind fun r=>vS r o:=by
 unfold EH;rw[if_neg (by have:=jM x o;omega),zn o a,HL o a]
theorem wV{h:Nat->Option Row}{k:Nat}(a:k<2*PK):EH h k=(h k).map (HA k):=if_pos a
def ak8(y:Nat)(r:Row):(HA y r).v=r.v∧(HA y r).ty=r.ty∧(HA y r).fz=r.fz∧(HA y r).lst=r.lst∧(HA y r).mp=r.mp:=by
 unfold HA;grind
def LeC(d a:D):Prop:=a=d∨((∃x s n,d=.ph x s n)∧a=.und)
def XZ(r a:Row):Prop:=a=r∨(r.mp=true∧∃cs,a = { r with cells:=cs }∧cs.length=r.cells.length∧∀(j:Nat) d b,r.cells[j]? = some d->cs[j]? = some b->LeC d b)∨(r.mp=false∧∃k,a = { r with cells:=r.cells.take k })
def Ho(h h':Nat->Option Row):Prop:=∀k a,h' k=some a->∃r,h k=some r∧XZ r a
def XZ.refl(r:Row):XZ r r:=.inl rfl
def Ho.refl(h:Nat->Option Row):Ho h h:=fun k a b=>⟨a,b,.refl _⟩
theorem LeC.trans{a b c:D}(h:LeC a b)(k:LeC b c):LeC a c:=by
 rcases h with rfl|⟨d,rfl⟩
 ·exact k
 ·rcases k with rfl|⟨⟨_,_,_,e⟩,_⟩
  ·exact .inr ⟨d,rfl⟩
  ·cases e
theorem XZ.trans{a b c:Row}(h:XZ a b)(k:XZ b c):XZ a c:=by
 rcases h with rfl|⟨e,l,rfl,o,p⟩|⟨e,n,rfl⟩
 ·exact k
 ·rcases k with rfl|⟨q,g,rfl,r,s⟩|⟨q,_⟩
  ·exact .inr (.inl ⟨e,l,rfl,o,p⟩)
  ·refine .inr (.inl ⟨e,g,rfl,r.trans o,fun j d t u i =>?_⟩);have f:j<l.length:=by
    grind
   exact (p j d _ u (anj f)).trans (s j _ t (anj f) i)
  simp_all
 ·rcases k with rfl|⟨q,_⟩|⟨_,m,rfl⟩
  ·exact .inr (.inr ⟨e,n,rfl⟩)
  ·simp_all
  ·exact .inr (.inr ⟨e,min m n,by grind⟩)
theorem Ho.trans{a b c:Nat->Option Row}(h:Ho a b)(k:Ho b c):Ho a c:=fun x r d=>by
 obtain⟨e,f,g⟩:=k x r d;obtain⟨i,j,l⟩:=h x e f;exact⟨i,j,l.trans g⟩
theorem Ho.cq{a b:Nat->Option Row}(h:Ho a b)(x:Nat)(r:Option Row):Ho (cq a x r) (cq b x r):=fun y d c=>by
 by_cases e:y=x
 ·subst e;rw[aA]at c ⊢;exact⟨d,c,.refl _⟩
 ·rw[aG _ _ e]at c ⊢;exact h y d c
def Ho.apply:∀(l:List (Nat×Option Row)){a b:Nat->Option Row},Ho a b->Ho (aW a l) (aW b l)
 | [],_,_,h=>h
 | (x,r)::l,_,_,h=>Ho.apply l (h.cq x r)
def XZ.same{r a:Row}(h:XZ r a):a.v=r.v∧a.ty=r.ty∧a.fz=r.fz∧a.lst=r.lst∧a.mp=r.mp:=by
 rcases h with rfl|⟨_,b,rfl,_⟩|⟨_,k,rfl⟩<;>exact⟨rfl,rfl,rfl,rfl,rfl⟩
def XZ.nil{r a:Row}(h:XZ r a)(b:r.cells=[]):a.cells=[]:=by
 rcases h with rfl|⟨_,c,rfl,d,_⟩|⟨_,k,rfl⟩
 ·exact b
 ·simp_all
 ·simp[b]
def XZ.cell{r c:Row}(h:XZ r c){j:Nat}{a:D}(d:c.cells[j]? = some a)(e:a ≠ .und):r.cells[j]? = some a:=by
 rcases h with rfl|⟨_,g,rfl,i,f⟩|⟨_,k,rfl⟩
 ·exact d
 ·have b:j<r.cells.length:=by
   grind
  rcases f j _ a (anj b) d with rfl|⟨_,rfl⟩
  ·simp_all
  simp_all
 grind
def fp.le{w:World}{M:Nat->Prop}{g:Nat×Nat}{r q:Row}(h:fp w M g r)(x:XZ r q):fp w M g q:=by
 rcases x with rfl|⟨m,n,rfl,s,y⟩|⟨m,k,rfl⟩
 ·exact h
 rotate_left
 ·unfold fp at h ⊢;simp only[m]at h ⊢;obtain⟨b,c,l,z⟩:=h;refine⟨b,c,by grind,fun j d t =>?_⟩;grind
 ·unfold fp at h ⊢;simp only[m]at h ⊢;rcases h with⟨u,v,c,l⟩|⟨c,b,l,z,A⟩
  ·have o:n=r.cells:=by
    rw[c]at s
    match n,s with
    | [a],_ =>
     rcases y 0 (.mpc u v) a (by rw[c];rfl) rfl with rfl|⟨⟨_,_,_,B⟩,_⟩
     ·exact c.symm
     ·cases B
   subst o;exact .inl ⟨u,v,c,l⟩
  ·have f:∀(j:Nat)(a:D),n[j]? = some a->∃d,r.cells[j]? = some d∧LeC d a:=by
    grind
   refine .inr ⟨fun a p =>?_,b,l,by simp only;omega,fun j a p =>?_⟩
   ·obtain⟨j,t⟩:=anq p;obtain⟨d,i,e⟩:=f j a t;rcases e with rfl|⟨_,rfl⟩
    ·grind
    ·rfl
   ·obtain⟨d,i,e⟩:=f j a p;rcases e with rfl|⟨_,rfl⟩
    ·exact A j _ i
    ·trivial
section
variable {N:Nat} {M:Nat->Prop} {L:mc} {w0:World} {blk:Nat->Option (Nat×Nat)} {V:Nat->Nat->Prop} {t:Nat->D} {h h':Nat->Option Row} {a:Act} {w:World}
def Fu(d:Ho h h'){b:Nat}(c:¬Own M h blk b):¬Own M h' blk b:=by
 rintro (a|⟨x,e,g,f,i,j,k⟩)
 ·exact c (.inl a)
 ·obtain⟨r,l,m⟩:=d x e f;exact c (.inr ⟨x,r,g,l,by rw[<- m.same.2.2.1];exact i,j,k⟩)
def Jo(d:Ho h h'):LZ w w (Own M h blk) (Own M h' blk) h h' blk blk V V:=⟨fun b a c=>⟨a,Fu d c,rfl⟩,fun _ _ h=>h,fun x v _ e a c=>by
 obtain⟨r,f,g⟩:=d x e a;exact⟨⟨r,f,by rw[<- g.same.1];exact c⟩,rfl,fun _ _=>rfl⟩⟩
def Inv.le(d:Inv N M L w0 blk V t h a w)(f:Ho h h'):Inv N M L w0 blk V t h' a w where
 tab:=d.tab.keep fun b A m=>⟨A,Fu f m,rfl⟩
 below:=d.below
 mlt:=d.mlt
 cg:=d.cg
 pin go l:=⟨(d.pin go l).1,fun o H I=>by
  obtain⟨r,k,e⟩:=f 0 o H;exact (d.pin go l).2 r k (by rw[<- e.same.1];exact I)⟩
 defers:=d.defers
 tsz:=d.tsz
 slots i:=(d.slots i).mono (Jo f)
 rows x o B:=by
  obtain⟨r,k,e⟩:=f x o B;obtain⟨A,m⟩:=d.rows x r k;refine⟨fun J=>by rw[e.same.1];exact A J,?_⟩;cases F:blk x with
  | none =>
   rw[F]at m;exact e.nil m
  | some g =>
   rw[F]at m;exact⟨m.1,(fp.le m.2 e).keep rfl rfl rfl rfl fun b p q=>⟨p,Fu f q,rfl⟩⟩
 inj x y r s g g' B v l C he:=by
  obtain⟨K,k,_⟩:=f x r B;obtain⟨G,e,_⟩:=f y s v;exact d.inj x y K G g g' k e l C he
 big:=d.big
 pha y o g v hm l j x s n O:=by
  obtain⟨r,k,e⟩:=f y o v;obtain⟨P,u,p,q⟩:=d.pha y r g k (by rw[<- e.same.2.2.2.2];exact hm) l j x s n (e.cell O (by intro h;cases h));exact⟨P,u,p,q.mono fun D Q=>by
   obtain⟨G,U,_⟩:=f x D Q;simp_all⟩
 ali y o g v R E l j c S T z:=by
  obtain⟨r,k,e⟩:=f y o v;obtain⟨u,p,q⟩:=d.ali y r g k (by rw[<- e.same.2.2.1];exact R) (by rw[<- e.same.2.2.2.1];exact E) l j c S (e.cell T (by intro h;subst h;cases z)) z;exact⟨u,p,q.mono (Jo f)⟩
def bz.le{e:Nat}{c:Option Nat}{E:cI}{v:Value}(f:bz N M L w0 V t h a e c E v w)(d:Ho (aW h E.hw) h') :
  ∃b,Inv N M L w0 b (fun x n=>V x n∨(c=some x∧n=e)) t h' a w∧RT w (Own M h' b) h' b (fun x n=>V x n∨(c=some x∧n=e)) E.val v:=by
 obtain⟨b,g,i⟩:=f;exact⟨b,g.le d,i.mono (Jo d)⟩
end
theorem mJ{a:List D}{o:Nat}{d:D}(h:o<a.length):(putCells a o [d]).length=a.length:=lL (show o+1<=a.length from h)
theorem iB{a:List D}{o:Nat}{d:D}(h:o<a.length):(putCells a o [d])[o]? = some d:=by
 rw[pE (show o+[d].length<=a.length from h)];simp
theorem jV{a:List D}{o j:Nat}{d:D}(h:o<a.length)(b:j≠o):(putCells a o [d])[j]? = a[j]?:=by
 rw[pE (show o+[d].length<=a.length from h)];grind
def Lx:Option Row->Option Row
 | some r=>if r.mp then (match r.cells with | [.nr _ _ _ _]=>none|_=>some r) else some r
 | none=>none
def Up(b c:Nat)(e:Bool):Option Row->D->D
 | some a,.nx n _=>if a.ty=b∧a.v=c∧a.fz=e∧a.lst=true∧a.mp=false then .nx n a.cells else .und
 | none,.nx n _ =>.und
 | _,d=>d
def KB(a s b:Nat)(e:Bool)(c:List D)(o:Nat)(r:Option Row):Option D->List D
 | some d=>[.nr a s b (putCells c o [Up a b e r d])]
 | none=>[.nr a s b c]
def Kj(o:Nat)(r:Option Row)(q:Row):Row :=
 if q.mp then
  match q.cells with
  | [.nr ty s nv cs]=>{ q with cells:=KB ty s nv q.fz cs o r (cs.drop o).head? }
  | _=>q
 else q
def D2(h:Nat->Option Row)(k:Nat)(r:Option Row):Option Row:=@ite _ (k<2*PK) (ltB k (2*PK)) (Lx r) ((h (k % PK)).map (Kj (k / PK-2) r))
def nO(h:Nat->Option Row):List (Nat×Option Row)->List (Nat×Option Row)
 | []=>[]
 | (k,r)::l=>(rt k,D2 h k r)::nO (cq h (rt k) (D2 h k r)) l
def Fj{r:Option Row}{q:Row}{o:Nat}(h:Lx r=some q):r=some q∧vS q o=none∧∀y,HA y q=q:=by
 unfold Lx at h;split at h
 ·rename_i b;split at h
  ·rename_i a;split at h
   ·cases h
   ·rename_i c;simp only[anf]at h;subst h;refine⟨rfl,?_,fun y =>?_⟩
    ·unfold vS;rw[if_pos a];unfold NG;simp_all
    ·unfold HA;rw[if_pos a];have:skL y b.cells=b.cells:=by
      unfold skL;simp_all
     rw[this]
  ·rename_i a;simp only[anf]at h;subst h;exact⟨rfl,by unfold vS;rw[if_neg a],fun y=>by unfold HA;rw[if_neg a]⟩
 ·cases h
def ag5(h:Nat->Option Row)(k:Nat)(r:Option Row):Ho (cq (EH h) k r) (EH (cq h (rt k) (D2 h k r))):=by
 intro z p a
 by_cases O:k<2*PK
 ·rw[kh O]at a;unfold D2 at a;rw[if_pos O]at a
  by_cases g:z<2*PK
  ·rw[wV g]at a
   by_cases c:z=k
   ·subst c;rw[aA]at a ⊢;rw[am4]at a;obtain⟨q,S,rfl⟩:=a;obtain⟨P,_,h3⟩:=Fj (o:=0) S;rw[h3];exact⟨q,P,.refl _⟩
   ·rw[aG _ _ c]at a ⊢;rw[<- wV g]at a;exact⟨p,a,.refl _⟩
  ·rw[aG _ _ (by omega)];unfold EH at a;rw[if_neg g]at a
   by_cases c:z % PK=k
   ·rw[c,aA]at a;rw[Option.bind_eq_some_iff]at a;obtain⟨q,S,P⟩:=a;rw[(Fj (o:=z / PK-2) S).2.1]at P;cases P
   ·rw[aG _ _ c]at a;exact⟨p,by unfold EH;grind,.refl _⟩
 ·have v:=Q1 (apt O);have b:=NF k;generalize k % PK=x at v b;generalize k / PK-2=o at v;subst v;rw[yX b]at a;have T:D2 h (NK x o) r=(h x).map (Kj o r):=by
   unfold D2;rw[if_neg O,zn o b,HL o b]
  rw[T]at a;cases u:h x with
  | none =>
   rw[u]at a;simp only[Option.map_none]at a;have f:EH h z=some p:=by
    rw[<- a];apply fD
    by_cases hzx:rt z=x
    ·rw[hzx,aA,u]
    ·rw[aG _ _ hzx]
   by_cases c:z=NK x o
   ·subst c;rw[wU b,u]at f;cases f
   ·rw[aG _ _ c];exact⟨p,f,.refl _⟩
  | some q =>
   rw[u]at a;simp only[Option.map_some]at a
   by_cases hzx:rt z=x
   rotate_left
   ·have:EH h z=some p:=by rw[<- a];exact fD (by rw[aG _ _ hzx])
    refine⟨p,?_,.refl _⟩;rw[aG _ _ (fun e=>hzx (by rw[e,yX b]))];exact this
   by_cases U:q.mp=true∧∃E s F l,q.cells=[.nr E s F l]
   rotate_left
   ·have V:Kj o r q=q:=by
     unfold Kj;simp_all
    rw[V]at a;have f:EH h z=some p:=by
     rw[<- a];exact fD (by rw[hzx,aA,u])
    by_cases c:z=NK x o
    ·subst c;rw[wU b,u]at f;simp only[Option.bind_some]at f;unfold vS at f;split at f
     ·rename_i i;unfold NG at f;simp_all
     ·cases f
    ·rw[aG _ _ c];exact⟨p,f,.refl _⟩
   obtain⟨i,E,s,F,l,Q⟩:=U;have V:Kj o r q = { q with cells:=KB E s F q.fz l o r (l.drop o).head? }:=by
    unfold Kj;rw[if_pos i,Q]
   rw[V]at a;obtain⟨cs',G,W⟩:∃cs':List D,KB E s F q.fz l o r (l.drop o).head? = [.nr E s F cs']∧cs'.length=l.length∧(∀j,j≠o->cs'[j]? = l[j]?)∧∀w,cs'[o]? = some w->∃d,l[o]? = some d∧w=Up E F q.fz r d:=by
    rw[apu];cases t:l[o]? with
    | none=>exact⟨l,rfl,rfl,fun _ _=>rfl,fun w m=>by simp_all⟩
    | some d =>
     have y:=(anx.1 t).1;refine⟨_,rfl,mJ y,fun j hj=>jV y hj,fun w m=>⟨d,rfl,?_⟩⟩;rw[iB y]at m;simp_all
   rw[G]at a;obtain⟨H,I,J⟩:=W
   by_cases g:z<2*PK
   ·rw[kh g]at hzx;subst hzx;rw[wV g,aA]at a;simp only[Option.map_some,anf]at a;subst a;rw[aG _ _ (by omega),wV g,u];refine⟨HA z q,rfl,.inr (.inl ⟨by rw[(ak8 z q).2.2.2.2,i],cs'.mapIdx (wT z s),?_,?_,fun j d w t m =>?_⟩)⟩
    ·unfold HA;simp only[i,if_true,skL]
    ·unfold HA;simp only[i,if_true,skL,Q,List.length_mapIdx,H]
    ·unfold HA at t;simp only[i,if_true,skL,Q,apv,am4]at t;rw[apv,am4]at m;obtain⟨d0,K,rfl⟩:=t;obtain⟨d1,A,rfl⟩:=m
     by_cases L:j=o
     ·subst L;obtain⟨d2,X,rfl⟩:=J _ A;rw[K]at X;cases X;cases d0 with
      | nx n xs =>
       cases r with
       | none=>exact .inr ⟨⟨_,_,_,rfl⟩,rfl⟩
       | some Y =>
        simp only[Up];split
        ·exact .inl rfl
        ·exact .inr ⟨⟨_,_,_,rfl⟩,rfl⟩
      | _=>cases r<;>exact .inl rfl
     ·rw[I j L,K]at A;cases A;exact .inl rfl
   ·have B:=Q1 (apt g);have M:z % PK=x:=by unfold rt at hzx;grind
    rw[M]at B;generalize z / PK-2=R at B;subst B;rw[wU b,aA]at a;simp only[Option.bind_some]at a;unfold vS at a;simp only[i,if_true,NG,apu]at a
    by_cases N:R=o
    ·subst N;rw[aA];cases t:cs'[R]? with
     | none=>rw[t]at a;cases a
     | some w =>
      obtain⟨d,X,rfl⟩:=J w t;rw[t]at a;cases r with
      | none=>cases d<;>cases a
      | some Y =>
       cases d with
       | nx n xs =>
        simp only[Up]at a;split at a
        ·rename_i C;obtain⟨rfl,rfl,h3,h4,h5⟩:=C;simp only[JG,anf]at a;subst a;refine⟨Y,rfl,.inl ?_⟩;cases Y;simp_all
        ·cases a
       | _=>cases a
    ·have Z:NK x R≠NK x o:=by
      unfold NK;rw[gr];omega
     rw[aG _ _ Z,wU b,u];rw[I R N]at a;refine⟨p,?_,.refl _⟩;simp only[Option.bind_some];unfold vS;simp only[i,if_true,Q,NG,apu];exact a
def Sy:∀(l:List (Nat×Option Row))(h:Nat->Option Row),Ho (aW (EH h) l) (EH (aW h (nO h l)))
 | [],h =>.refl _
 | (k,r)::l,h=>(Ho.apply l (ag5 h k r)).trans (Sy l _)
def bump(a e:Nat):Option Nat:=if a<=4*e then some (4*e+1) else if a=4*e+2 then some (4*e+3) else none
def nrO(r:Row):List D->Option (Row×Nat×Nat×Nat×List D)
 | [.nr ty s nv cs]=>some (r,ty,s,nv,cs)
 | _=>none
def jB(h:Nat->Option Row)(x v:Nat):Option (Row×Nat×Nat×Nat×List D) :=
 match h x with
 | some r=>if r.v=v∧r.fz=false∧r.mp=true∧x<PK then nrO r r.cells else none
 | none=>none
def kv{h:Nat->Option Row}{x v:Nat}{r:Row}{b s c:Nat}{d:List D}(a:jB h x v=some (r,b,s,c,d)):h x=some r∧r.v=v∧r.fz=false∧r.mp=true∧x<PK∧r.cells=[.nr b s c d]:=by
 unfold jB at a;split at a
 ·rename_i f g;split at a
  ·rename_i e;obtain⟨i,j,k,l⟩:=e;unfold nrO at a;grind
  ·cases a
 ·cases a
theorem gE{d:D}(a:gD d=true):bH d=true∧phC d=true∧∀{w:World}{M:Nat->Prop}{u:Value},HM w M d u↔RP w M d u:=by
 cases d<;>first|exact⟨rfl,rfl,Iff.rfl⟩|cases a
def C8:D->D
 | .nx n xs =>.sl false false n xs
 | d=>d
def im{h:Nat->Option Row}{x:Nat}{r:Row}{b s c:Nat}{a:List D}(d:h x=some r)(e:r.mp=true)(f:r.cells=[.nr b s c a])(g:x<PK):EH h x=some ⟨r.v,r.ty,a.mapIdx (wT x s),r.fz,r.lst,true⟩:=by
 rw[wV (by omega),d];simp_all[HA,skL,ane,if_true]
def gh{h:Nat->Option Row}{x:Nat}{r:Row}{a s b:Nat}{c:List D}(d:h x=some r)(e:r.mp=true)(f:r.cells=[.nr a s b c])(g:x<PK)(o:Nat):EH h (NK x o)=JG a b r.fz c[o]?:=by
 simp_all[vS,NG,wU,aoo,if_true,apu]
def xG{x a o b:Nat}(d:x<PK)(c:a<PK)(h:NK x o=NK a b):x=a∧o=b:=by
 grind[NK,gr]
def L0(w:World)(blk:Nat->Option (Nat×Nat))(k s n:Nat)(u:Value):Prop :=
 (∃g c a b,blk k=some g∧u=.slice (some ⟨g.1,g.2,none⟩) n c∧c*s+g.2=a∧n<=c∧c<=maxLen∧w.shape? g.1=some (b,a))∨(blk k=none∧n=0∧∃A,u=.slice A 0 0)
section
variable {P:Program} {T:Nat->Option Ty} {N:Nat} {M:Nat->Prop} {L:mc} {w0:World} {blk:Nat->Option (Nat×Nat)} {V:Nat->Nat->Prop} {t:Nat->D} {h:Nat->Option Row} {a:Act} {w:World} {e:Nat} {o:Oper} {Γ:Env}
def Inv.DV(m:Inv N M L w0 blk V t (EH h) a w){x:Nat}{r:Row}{n s o:Nat}{e:List D}{g:Nat×Nat}(p:h x=some r)(q:r.mp=true)(u:r.cells=[.nr n s o e])(v:x<PK)(y:blk x=some g) :
  ∃b:Array Value,w.heap[g.1]? = some (.cells b r.ty (0,0))∧g.2+e.length<=b.size∧∀(j:Nat) d,e[j]? = some d->gD d=true->RP w (Own M (EH h) blk) d (b.getD (g.2+j) undef):=by
 have c:=m.rowIs (im p q u v) y;unfold fp at c;simp only at c;rcases c with⟨E,F,f,_⟩|⟨f,b,z,k,A⟩
 ·exfalso;simp only at f;have B:e.length=1:=by
   have:=congrArg List.length f;simpa using this
  match e,B with
  | [d],_ =>
   simp only[List.mapIdx_cons,List.mapIdx_nil,ans,and_true]at f;have:=oO x s 0 d;rw[f]at this;cases this
 ·simp only[List.length_mapIdx]at k;refine⟨b,z,k,fun j d C l =>?_⟩;have i:(e.mapIdx (wT x s))[j]? = some d:=by rw[apv,C];exact congrArg some (mM l)
  exact (gE l).2.2.1 (A j _ i)
def Inv.JK(j:Inv N M L w0 blk V t (EH h) a w){x:Nat}{r:Row}{k s l n o:Nat}{b m:List D}{g:Nat×Nat}(c:h x=some r)(d:r.mp=true)(e:r.cells=[.nr k s l b])(f:x<PK)(p:blk x=some g)(q:b[o]? = some (.nx n m)) :
  ∃u,w.cell? ⟨g.1,g.2+o,none⟩=some u∧L0 w blk (NK x o) s n u:=by
 obtain⟨_,u,v,y⟩:=j.pha x _ g (im c d e f) rfl p o (NK x o) s n (by grind[wT]);have i:=gh c d e f o;rw[q]at i;exact⟨u,v,y _ i⟩
def agT:D->D->D
 | .nx n _,.nx _ a =>.nx n a
 | .nx _ _,_ =>.und
 | d,_=>d
def Al(b a:List D):List D:=List.zipWith agT b a
def s5{x k:Nat}(b:rt k=x):k=x∨∃o,k=NK x o:=by
 by_cases a:k<2*PK
 ·grind[kh]
 ·have:=Q1 (apt a);unfold rt at b;grind
def ai2(b a:List D)(j:Nat):(Al b a)[j]? = match b[j]?,a[j]? with|some d,some c=>some (agT d c)|_,_=>none:=by
 unfold Al;grind
theorem WL{x:Nat}{r:Row}{w s z:Nat}{c a:List D}(J:h x=some r)(K:r.mp=true)(L:r.cells=[.nr w s z c])(M:r.fz=false)(A:x<PK)(p:a.length=c.length)
  (E:∀(j:Nat) B e,a[j]? = some (.nx B e)->∃n C k,c[j]? = some (.nx n C)∧e=C.take k):Ho (EH h) (EH (cq h x (some ⟨r.v,r.ty,[.nr w s z (Al c a)],false,r.lst,true⟩))):=by
 have g:=ai2 c a;have F:(Al c a).length=c.length:=by simp[Al,p]
 have q:∀(j:Nat) d,c[j]? = some d->∃m,a[j]? = some m:=by
  grind
 have N:∀(j:Nat) m,a[j]? = some m->∃d,c[j]? = some d:=by
  grind
 generalize O:cq h x (some ⟨r.v,r.ty,[.nr w s z (Al c a)],false,r.lst,true⟩)=hh;have t:hh x=some ⟨r.v,r.ty,[.nr w s z (Al c a)],false,r.lst,true⟩:=by rw[<- O,aA]
 have P:∀y,y≠x->hh y=h y:=fun y S=>by rw[<- O,aG _ _ S]
 have T:∀{h1 Q:Nat->Option Row},(∀y,y≠x->h1 y=Q y)->∀k,rt k≠x->EH h1 k=EH Q k:=fun U k b=>fD (U _ b);have u:∀k,rt k=x->k=x∨∃o,k=NK x o:=by
  intro k b
  by_cases G:k<2*PK
  ·grind[kh]
  ·have:=Q1 (apt G);unfold rt at b;grind
 intro k V b
 by_cases H:rt k=x
 rotate_left
 ·exact⟨V,by simp_all,.refl _⟩
 rcases u k H with rfl|⟨o,rfl⟩
 ·rw[im t rfl rfl A]at b;simp only[anf]at b;subst b;refine⟨_,im J K L A,.inr (.inl ⟨rfl,(Al c a).mapIdx (wT k s),by rw[M],by simp[F],fun j d m i f =>?_⟩)⟩;simp only[apv,am4]at i f;obtain⟨d0,v,rfl⟩:=i;obtain⟨d1,l,rfl⟩:=f;obtain⟨d2,I⟩:=q j d0 v;rw[g,v,I]at l;simp only[anf]at l;subst l;cases d0 with
  | nx n C =>
   cases d2 with
   | nx B e=>exact .inl rfl
   | _=>exact .inr ⟨⟨_,_,_,rfl⟩,rfl⟩
  | _=>exact .inl rfl
 ·rw[gh t rfl rfl A,g]at b;cases i:c[o]? with
  | none=>rw[i]at b;cases b
  | some d =>
   obtain⟨m,f⟩:=q o d i;rw[i,f]at b;cases d with
   | nx n C =>
    cases m with
    | nx B e =>
     obtain⟨Y,W,k,R,X⟩:=E o B e f;rw[i]at R;cases R;simp only[agT,JG,anf]at b;subst b;refine⟨_,by rw[gh J K L A,i];rfl,.inr (.inr ⟨rfl,k,by rw[X,M]⟩)⟩
    | _=>cases b
   | _=>cases b
def Inv.KB(hI:Inv N M L w0 blk V t (EH h) a w){x:Nat}{r:Row}{p s q:Nat}{c cs':List D}(hx:h x=some r)(hm:r.mp=true)(hc:r.cells=[.nr p s q c])(hz:r.fz=false)(C:x<PK)(E:cs'.length=c.length){w':World}
  (Q:w'.os=w.os) (z:w'.tape=w.tape) (F:w'.output=w.output) (A:w.heap.size<=w'.heap.size) (B:∀b,b<w.heap.size->(∀g,blk x=some g->b≠g.1)->w'.heap[b]? = w.heap[b]?)
  (R:∀(j:Nat) u f,cs'[j]? = some (.nx u f)->∃n xs k,c[j]? = some (.nx n xs)∧f=xs.take k)
  (i:∀g,blk x=some g->w'.shape? g.1=w.shape? g.1∧∃e:Array Value,w'.heap[g.1]? = some (.cells e r.ty (0,0))∧g.2+c.length<=e.size∧∀(j:Nat) d,cs'[j]? = some d ->
   (gD d=true->RP w' (Own M (EH (cq h x (some ⟨r.v,r.ty,[.nr p s q (Al c cs')],false,r.lst,true⟩))) blk) d (e.getD (g.2+j) undef))∧∀u f,d=.nx u f->L0 w blk (NK x j) s u (e.getD (g.2+j) undef)) :
  Inv N M L w0 blk V t (EH (cq h x (some ⟨r.v,r.ty,[.nr p s q cs'],false,r.lst,true⟩))) a w':=by
 have G:∀(j:Nat),(Al c cs')[j]? = match c[j]?,cs'[j]? with|some d,some v=>some (agT d v)|_,_=>none:=by
  intro j;unfold Al;grind
 have ag:(Al c cs').length=c.length:=by simp[Al,E]
 have ah:∀(j:Nat) d,c[j]? = some d->∃v,cs'[j]? = some v:=by
  grind
 have H:∀(j:Nat) v,cs'[j]? = some v->∃d,c[j]? = some d:=by
  grind
 generalize hD:cq h x (some ⟨r.v,r.ty,[.nr p s q (Al c cs')],false,r.lst,true⟩)=hh at i;have I:hh x=some ⟨r.v,r.ty,[.nr p s q (Al c cs')],false,r.lst,true⟩:=by rw[<- hD,aA]
 have ad:∀y,y≠x->hh y=h y:=fun y hy=>by rw[<- hD,aG _ _ hy]
 have ai:∀{h1 h2:Nat->Option Row},(∀y,y≠x->h1 y=h2 y)->∀k,rt k≠x->EH h1 k=EH h2 k:=fun S k T=>fD (S _ T);have J:∀k,rt k=x->k=x∨∃o,k=NK x o:=by
  intro k T
  by_cases U:k<2*PK
  ·grind[kh]
  ·have:=Q1 (apt U);unfold rt at T;grind
 have W:Ho (EH h) (EH hh):=by grind[WL]
 have hA:=hI.le W;have hB:=hA.lM (x:=x) (r:=⟨r.v,r.ty,(Al c cs').mapIdx (wT x s),false,r.lst,true⟩) (r0:=⟨r.v,r.ty,cs'.mapIdx (wT x s),false,r.lst,true⟩) (w':=w') (im I rfl rfl C) rfl rfl Q z F A B (by
   cases hb:blk x with
   | none =>
    have:=(hI.rows x _ (im hx hm hc C)).2;rw[hb]at this;have h1:c.mapIdx (wT x s)=[]:=this;simp_all
   | some g =>
    obtain⟨k1,e,X,k3,Y⟩:=i g hb;refine⟨k1,.inr ⟨fun d Z =>?_,e,X,by simp_all,fun j d K =>?_⟩⟩
    ·grind[List.getElem?_of_mem,Option.map_eq_some_iff,oO]
    ·simp only[apv,am4]at K;obtain⟨d0,l,rfl⟩:=K
     by_cases m:gD d0=true
     ·rw[mM m];exact (gE m).2.2.2 ((Y j d0 l).1 m)
     ·cases d0<;>first|trivial|exact absurd rfl m) (fun h=>by cases h) (fun _ g hg j x' s' u K=>by
   obtain⟨k1,e,X,k3,Y⟩:=i g hg;simp only[apv,am4]at K;obtain⟨d0,l,S⟩:=K;obtain⟨aa,rfl,rfl,rfl⟩:=vg S;have aj:=(anx.1 l).1;exact⟨⟨C,.inr rfl⟩,_,bm X (by omega),fun _ _=>(Y j _ l).2 u aa rfl⟩)
 have ae:cq (EH hh) x (some (⟨r.v,r.ty,cs'.mapIdx (wT x s),false,r.lst,true⟩:Row))=EH (cq h x (some ⟨r.v,r.ty,[.nr p s q cs'],false,r.lst,true⟩)):=by
  have O:cq h x (some (⟨r.v,r.ty,[.nr p s q cs'],false,r.lst,true⟩:Row)) x=some ⟨r.v,r.ty,[.nr p s q cs'],false,r.lst,true⟩:=aA _ _ _;funext k
  by_cases ab:rt k=x
  rotate_left
  ·grind[aG,kh]
  rcases J k ab with rfl|⟨o,rfl⟩
  ·rw[aA,im O rfl rfl C]
  ·rw[aG _ _ (by have:=jM x o;omega),gh I rfl rfl C,gh O rfl rfl C,G];cases P:cs'[o]? with
   | none=>simp_all
   | some v =>
    obtain⟨d,Z⟩:=H o v P;rw[Z];cases v with
    | nx u f =>
     obtain⟨n0,ak,k,e1,_⟩:=R o u f P;rw[Z]at e1;cases e1;rfl
    | _=>cases d<;>rfl
 simp_all
def Inv.akM(f:Inv N M L w0 blk V t h a w)(S:Nat->Prop)(H:Nat)(R:∀k,S k->N<=k∧k≠0∧¬V k H){h':Nat->Option Row}(he:∀k,S k->h' k=(h k).map fun r=>{ r with v:=H })(T:∀k,¬S k->h' k=h k):Inv N M L w0 blk V t h' a w:=by
 have q:∀x r',h' x=some r'->∃r,h x=some r∧r' = { r with v:=r'.v }∧(¬S x->r'=r)∧(S x->r'.v=H):=by
  grind[Option.map_eq_some_iff]
 have d:∀{r r':Row},r' = { r with v:=r'.v }->r'.ty=r.ty∧r'.cells=r.cells∧r'.fz=r.fz∧r'.lst=r.lst∧r'.mp=r.mp:=by
  grind
 have I:∀b,¬Own M h blk b->¬Own M h' blk b:=by
  intro b B z;rcases z with z|⟨x,r',g,C,U,m,e⟩
  ·exact B (.inl z)
  ·obtain⟨r,A,l,_⟩:=q x r' C;exact B (.inr ⟨x,r,g,A,by grind,m,e⟩)
 have D:LZ w w (Own M h blk) (Own M h' blk) h h' blk blk V V:=⟨fun b A l=>⟨A,I b l,rfl⟩,fun _ _ h=>h,fun x v O r' A l=>by
  grind⟩
 exact {
  tab:=f.tab.keep fun b A l=>⟨A,I b l,rfl⟩
  below:=f.below
  mlt:=f.mlt
  cg:=f.cg
  pin:=fun P m=>⟨(f.pin P m).1,fun r' W O=>by
   obtain⟨r,o,p,Q,X⟩:=q 0 r' W;obtain rfl:=Q (fun Y=>(R 0 Y).2.1 rfl);exact (f.pin P m).2 r' o O⟩
  defers:=f.defers
  tsz:=f.tsz
  slots:=fun i=>(f.slots i).mono D
  rows:=fun x r' C=>by
   obtain⟨r,o,p,Q,X⟩:=q x r' C;obtain⟨A,l⟩:=f.rows x r o;refine⟨fun hn =>?_,?_⟩
   ·grind
   ·cases B:blk x with
    | none=>rw[B]at l;exact (d p).2.1.trans l
    | some g =>
     rw[B]at l;exact⟨l.1,l.2.keep (d p).2.1 (d p).1 (d p).2.2.2.2 rfl fun b E F=>⟨E,I b F,rfl⟩⟩
  inj:=fun x y r s g Z C G m J e=>by
   obtain⟨r1,o,_⟩:=q x r C;obtain⟨r2,p,_⟩:=q y s G;exact f.inj x y r1 r2 g Z o p m J e
  big:=f.big
  pha:=fun y r' g G hm m j x s n hc=>by
   obtain⟨r,o,p,_⟩:=q y r' G;obtain⟨h0,u,E,F⟩:=f.pha y r g o (by grind) m j x s n (by grind);exact⟨h0,u,E,F.mono fun aa q3=>by
    grind⟩
  ali:=fun y r' g G U ab m j c d' hj K=>by
   obtain⟨r,o,p,_⟩:=q y r' G;obtain⟨u,E,F⟩:=f.ali y r g o (by grind) (by grind) m j c d' (by grind) K;exact⟨u,E,F.mono D⟩ }
end
def PJ(τ:Ty)(x s b o:Nat)(a:List D):Option D->Option cI
 | some (.nx n xs)=>if τ.size=1∧τ.ds.xt=false then some ⟨.buf (NK x o) b s 0 n,[]⟩ else none
 | some _=>if o+τ.size<=a.length∧((a.drop o).take τ.size).all gD=true then (match mE τ ((a.drop o).take τ.size) with|some d=>some ⟨d,[]⟩|none=>none) else none
 | none=>none
def uF(τ:Ty)(h:Nat->Option Row):D->Option cI
 | .ptr x v o =>
  match jB h x v with
  | some (r,ty,s,nv,cs)=>PJ τ x s nv o cs (cs.drop o).head?
  | none=>none
 | _=>none
def Qo(x:Nat)(r:Row)(b s c:Nat)(d:List D)(o n:Nat):Option D->Option cI
 | some (.nx e a)=>if n*s<=a.length then some ⟨.und,[(x,some ⟨r.v,r.ty,[.nr b s c (putCells d o [.nx n (a.take (n*s))])],false,r.lst,true⟩)]⟩ else none
 | _=>none
def FG(x:Nat)(r:Row)(b s:Nat)(c:List D)(o y n:Nat)(q:Row):Option Nat->Option cI
 | some a=>some ⟨.und,[(y,none),(x,some ⟨r.v,r.ty,[.nr b s a (putCells c o [.nx n q.cells])],false,r.lst,true⟩)]⟩
 | none=>none
def plV:D->Option (List D)
 | .agg xs=>some xs
 | .int k n=>some [.int k n]
 | .bool b=>some [.bool b]
 | .str s=>some [.str s]
 | .sl a b n xs=>some [.sl a b n xs]
 | _=>none
def Qq(τ:Ty)(x:Nat)(r:Row)(b s c:Nat)(d:List D)(o:Nat):Option (List D)->Option cI
 | some a=>if a.length=τ.size∧a.all gD=true then some ⟨.und,[(x,some ⟨r.v,r.ty,[.nr b s c (putCells d o (a.map canon))],false,r.lst,true⟩)]⟩ else none
 | none=>none
def LR(τ:Ty)(e:Nat)(h:Nat->Option Row)(x:Nat)(r:Row)(a s b:Nat)(c:List D)(o:Nat):D->Option cI
 | .buf y f g i n =>
  if τ.size=1∧g=s∧i=0 then
   if y=NK x o then (if f=b then Qo x r a s b c o n (c.drop o).head? else none)
   else if y<PK then
    match live h y f with
    | some q=>if q.fz=false∧q.lst=true∧q.ty=a∧q.cells.length=n*s then FG x r a s c o y n q (bump b e) else none
    | none=>none
   else none
  else none
 | d=>Qq τ x r a s b c o (plV d)
def rq(τ:Ty)(e:Nat)(h:Nat->Option Row)(p d:D):Option cI :=
 match p with
 | .ptr x v o =>
  match jB h x v with
  | some (r,b,s,c,a)=>if o+τ.size<=a.length∧0<τ.size then LR τ e h x r b s c a o d else none
  | none=>none
 | _=>none
section
variable {P:Program} {T:Nat->Option Ty} {N:Nat} {M:Nat->Prop} {L:mc} {w0:World} {blk:Nat->Option (Nat×Nat)} {V:Nat->Nat->Prop} {t:Nat->D} {h:Nat->Option Row} {a:Act} {w:World} {e:Nat} {o:Oper} {Γ:Env}
def l7(N:Nat)(M:Nat->Prop)(L:mc)(w0:World)(V:Nat->Nat->Prop)(t:Nat->D)(h:Nat->Option Row)(a:Act)(e:Nat)(c:Option Nat)(E:cI)(v:Value)(d:World):Prop :=
 ∃b,Inv N M L w0 b (fun x n=>V x n∨(c=some x∧n=e)) t (EH (aW h E.hw)) a d ∧
  RT d (Own M (EH (aW h E.hw)) b) (EH (aW h E.hw)) b (fun x n=>V x n∨(c=some x∧n=e)) E.val v
def VNr(V:Nat->Nat->Prop)(h:Nat->Option Row):Prop:=∀x r b s a c,h x=some r->r.mp=true->r.cells=[.nr b s a c]->x<PK->∀o,V (NK x o) a
def adz(K:km P T)(k:Inv N M L w0 blk V t (EH h) a w)(A:VNr V h){B:Nat}{p:Operand}{τ:Ty}{E:cI}(U:o.op=.load B p)(O:T B=some τ)(b:uF τ h (ev t p)=some E):fC P o a w (l7 N M L w0 V t h a e o.dst E):=by
 have W:=k.ev p;generalize ev t p=q at *;unfold uF at b;split at b<;>try (cases b;done)
 rename_i x v c;split at b<;>try (cases b;done)
 rename_i r C s X D Y;obtain⟨m,Z,hz,y,i,z⟩:=kv Y;have F:=im m y z i;obtain⟨g,Q,G⟩:=W.2 _ F Z;rw[apu]at b;unfold PJ at b;split at b
 ·rename_i n xs hn;split at b<;>try (cases b;done)
  rename_i f;obtain⟨R,H⟩:=f;simp only[anf]at b;subst b;obtain⟨u,h1,h2⟩:=k.JK m y z i Q hn;have l:=nI (K B τ O) w g.1 (g.2+c) [u] (by simpa using R.symm) (fun j v S=>by
   grind) (fun _=>rfl)
  rw[H]at l;refine aP (v:=u) (w':=w) ?_ ?_
  ·simp_all[execOp,Instr.loadAt,Instr.sureAddr]
  ·refine bz.fa (h:=EH h) k ⟨A x r C s X D m y z i c,fun r' k1 k2 =>?_⟩;rcases h2 with⟨g',c',N',t',q1,rfl,q3,q4,q5,q6⟩|⟨q1,rfl,q3⟩
   ·grind
   simp_all
 ·rename_i d0 aa ab;split at b<;>try (cases b;done)
  rename_i f;obtain⟨R,H⟩:=f;split at b<;>try (cases b;done)
  rename_i d hd;simp only[anf]at b;subst b;have I:At w (Own M (EH h) blk) g.1 (g.2+c) ((D.drop c).take τ.size):=by
   intro j d1 S;have ad:=anh.1 H d1 (anv S);have J:D[c+j]? = some d1:=by
    grind
   obtain⟨ae,k1,k2,k3⟩:=k.DV m y z i Q;have ag:=(anx.1 J).1;grind[gE,Nat.add_assoc,bm]
  exact vG K k U O G I (by simp;omega) hd
 ·cases b
def Ir(hT:km P T)(X:Inv N M L w0 blk V t (EH h) a w){Y y c C s Z:Nat}{p x:Operand}{τ:Ty}{r:Row}{q cs':List D}{us:List Value}{g:Nat×Nat}(ho:o.op=.store Y p x)(hτ:T Y=some τ)
  (F:h y=some r) (G:r.mp=true) (H:r.cells=[.nr C s Z q]) (hz:r.fz=false) (l:y<PK) (I:blk y=some g) (aa:a.eval p=.pointer (some ⟨g.1,g.2+c,none⟩)) (ak:(a.eval x).cells.toList=us) (al:us.length=τ.size) (ao:c+τ.size<=q.length) (h1:∀u∈us,u.oneCell'=true)
  (v:cs'.length=q.length) (J:∀(j:Nat) K m,cs'[j]? = some (.nx K m)->∃n xs k,q[j]? = some (.nx n xs)∧m=xs.take k) (O:∀j,(j<c∨c+τ.size<=j)->cs'[j]? = q[j]?)
  (aq:∀(j:Nat) d,j<τ.size->cs'[c+j]? = some d->(gD d=true->RP w (Own M (EH h) blk) d (us.getD j undef))∧∀K m,d=.nx K m->L0 w blk (NK y (c+j)) s K (us.getD j undef)) :
  fC P o a w (l7 N M L w0 V t h a e o.dst ⟨.und,[(y,some ⟨r.v,r.ty,[.nr C s Z cs'],false,r.lst,true⟩)]⟩):=by
 obtain⟨f,U,k2,k3⟩:=X.DV F G H l I;have z:=run_storeCells_at P g.1 (g.2+c) r.ty us 0 f w U (by omega) h1;rw[anE]at z;have Q:(f.toList.take (g.2+c)++us++f.toList.drop (g.2+c+us.length)).toArray.size=f.size:=by simp;omega
 have A:∀j,j<q.length->(f.toList.take (g.2+c)++us++f.toList.drop (g.2+c+us.length)).toArray.getD (g.2+j) undef=if j<c then f.getD (g.2+j) undef else if j<c+us.length then us.getD (j-c) undef else f.getD (g.2+j) undef:=by
  intro j W;rw[wk f us (g.2+c) (g.2+j) (by omega)]
  by_cases ab:j<c
  ·simp_all
  ·rw[if_neg (by omega),if_neg ab];grind
 generalize ar:(f.toList.take (g.2+c)++us++f.toList.drop (g.2+c+us.length)).toArray=arr' at z Q A;have B:(w.setRow g.1 arr').heap[g.1]? = some (.cells arr' r.ty (0,0)):=setRow_heap w g.1 f arr' r.ty (0,0) U;have ad:(w.setRow g.1 arr').heap.size=w.heap.size:=by simp[World.setRow]
 have hheap:∀b,b≠g.1->(w.setRow g.1 arr').heap[b]? = w.heap[b]?:=by
  grind[World.setRow]
 have R:Own M (EH h) blk g.1:=.inr ⟨y,_,g,im F G H l,hz,I,rfl⟩;have ae:=WL F G H hz l v J;have hkeep:∀{d:D}{u:Value},RP w (Own M (EH h) blk) d u->RP (w.setRow g.1 arr') (Own M (EH (cq h y (some ⟨r.v,r.ty,[.nr C s Z (Al q cs')],false,r.lst,true⟩))) blk) d u:=fun hr=>hr.keep fun b q1 q2=>⟨by rw[ad];exact q1,Fu ae q2,hheap b (fun e=>q2 (e ▸ R))⟩;have hS:=X.KB (cs':=cs') (w':=w.setRow g.1 arr') F G H hz l v rfl rfl rfl (by omega) (fun b _ hb=>hheap b (hb g I)) J (fun g' S=>by
  rw[I]at S;cases S;refine⟨by simp[World.shape?,B,U,Q],arr',B,by omega,fun j d W =>?_⟩;have ag:j<q.length:=by
   grind
  rw[A j ag]
  by_cases aj:c<=j∧j<c+τ.size
  ·rw[if_neg (by omega),if_pos (by omega)];obtain⟨i,rfl⟩:∃i,j=c+i:=⟨j-c,by omega⟩;rw[aoQ];grind
  ·have ah:(if j<c then f.getD (g.2+j) undef else if j<c+us.length then us.getD (j-c) undef else f.getD (g.2+j) undef)=f.getD (g.2+j) undef:=by
    grind
   rw[ah];rw[O j (by omega)]at W;refine⟨fun hd=>hkeep (k3 j d W hd),fun K m he =>?_⟩;subst he;obtain⟨u,q1,q2⟩:=X.JK F G H l I W;rw[bm U (by omega)]at q1;simp_all)
 refine .inr (.inl ⟨w.setRow g.1 arr',?_,blk,?_,trivial⟩)
 ·have ai:(a.eval x).cells.size=τ.size:=by grind
  have E:(storeCells ⟨g.1,g.2+c,none⟩ (a.eval x).cells.toList 0).run P w=.ok () (w.setRow g.1 arr'):=by simp_all
  simp[execOp,ho,Instr.storeAt,Instr.sureAddr,aa,storeVar,run_sizeOf (hT Y τ hτ),ai,E]
 ·exact hS.weaken fun _ _ h =>.inl h
def D6{g:Nat×Nat}{a arr':Array Value}{c:Nat}(d:w.heap[g.1]? = some (.cells a c (0,0))):(w.setRow g.1 arr').heap[g.1]? = some (.cells arr' c (0,0))∧(w.setRow g.1 arr').heap.size=w.heap.size∧∀b,b≠g.1->(w.setRow g.1 arr').heap[b]? = w.heap[b]?:=by
 grind[World.setRow,setRow_heap]
def Inv.amB(B:Inv N M L w0 blk V t (EH h) a w){y c m s E:Nat}{r:Row}{l:List D}(q:h y=some r)(v:r.mp=true)(x:r.cells=[.nr m s E l])(F:r.fz=false)(i:y<PK)(o:c<l.length) :
  Inv N M L w0 blk V t (EH (cq h y (some ⟨r.v,r.ty,[.nr m s E (putCells l c [.und])],false,r.lst,true⟩))) a w:=by
 have e:∀(j:Nat) d,(putCells l c [.und])[j]? = some d->d=.und∨l[j]? = some d:=by
  grind[iB,jV]
 have p:∀(j:Nat) z f,(putCells l c [.und])[j]? = some (.nx z f)->∃n G k,l[j]? = some (.nx n G)∧f=G.take k:=by
  intro j z f A;rcases e j _ A with h|h
  ·cases h
  ·exact⟨z,f,f.length,h,by simp⟩
 refine B.KB q v x F i (mJ o) rfl rfl rfl (am6 _) (fun _ _ _=>rfl) p (fun g H =>?_);obtain⟨C,O,P,Q⟩:=B.DV q v x i H;refine⟨rfl,C,O,P,fun j d A=>⟨fun I =>?_,fun z f R =>?_⟩⟩
 ·rcases e j d A with h|h
  ·subst h;cases I
  ·exact (Q j d h I).keep fun b J K=>⟨J,Fu (WL q v x F i (mJ o) p) K,rfl⟩
 ·subst R;rcases e j _ A with h|h
  ·cases h
  ·obtain⟨u,J,K⟩:=B.JK q v x i H h;grind[List.getElem?_eq_some_iff,bm]
def Sa(hT:km P T)(hI:Inv N M L w0 blk V t (EH h) a w){ty y c B s nv C m n:Nat}{p x:Operand}{τ:Ty}{r q:Row}{G:List D}{K:Value}{g:Nat×Nat}(ho:o.op=.store ty p x)(hτ:T ty=some τ)(c1:τ.size=1)
  (hx:h y=some r) (hm:r.mp=true) (hc:r.cells=[.nr B s nv G]) (hz:r.fz=false) (f:y<PK) (hg:blk y=some g) (ax:a.eval p=.pointer (some ⟨g.1,g.2+c,none⟩)) (i:c<G.length)
  (ay:h m=some q) (ai:m<PK) (az:q.fz=false) (aO:q.lst=true) (aB:q.mp=false) (aP:q.ty=B) (hu:(a.eval x).cells = #[K]) (aM:K.oneCell'=true) (aj:L0 w blk m s n K) (hV:∀o,¬V (NK y o) C) :
  fC P o a w (l7 N M L w0 V t h a e o.dst ⟨.und,[(m,none),(y,some ⟨r.v,r.ty,[.nr B s C (putCells G c [.nx n q.cells])],false,r.lst,true⟩)]⟩):=by
 have aQ:=gr;have aN:=hI.big;have ab:m≠y:=by
  grind
 have hK:∀o,NK y o≠y∧NK y o≠m∧2*PK<=NK y o:=fun o=>by have:=jM y o;omega
 obtain⟨A,k1,k2,k3⟩:=hI.DV hx hm hc f hg;have R:=run_storeCells_at P g.1 (g.2+c) r.ty [K] 0 A w k1 (by simp;omega) (fun v hv=>by
  simp_all)
 rw[anE]at R;have ak:(A.toList.take (g.2+c)++[K]++A.toList.drop (g.2+c+[K].length)).toArray.size=A.size:=by simp;omega
 have I:∀j,j<G.length->(A.toList.take (g.2+c)++[K]++A.toList.drop (g.2+c+[K].length)).toArray.getD (g.2+j) undef=if j=c then K else A.getD (g.2+j) undef:=by
  intro j W;rw[wk A [K] (g.2+c) (g.2+j) (by simp;omega)];grind
 generalize aR:(A.toList.take (g.2+c)++[K]++A.toList.drop (g.2+c+[K].length)).toArray=arr' at R ak I;obtain⟨J,aC,hheap⟩:=D6 (g:=g) (arr':=arr') k1;have hA:=hI.amB hx hm hc hz f i;have hB:=hA.akM (fun k=>∃o,k=NK y o) C (fun k hk=>by
  grind) (h':=EH (cq h y (some ⟨r.v,r.ty,[.nr B s C (putCells G c [.und])],false,r.lst,true⟩))) (fun k hk=>by
  obtain⟨o,rfl⟩:=hk;rw[gh (aA _ _ _) rfl rfl f,gh (aA _ _ _) rfl rfl f];cases (putCells G c [D.und])[o]? with
  | none=>rfl
  | some d=>cases d<;>rfl) (fun k hk=>by
  by_cases hky:rt k=y
  ·rcases s5 hky with rfl|h
   ·rw[im (aA _ _ _) rfl rfl f,im (aA _ _ _) rfl rfl f]
   simp_all
  grind[fD,aG])
 generalize al:cq h y (some (⟨r.v,r.ty,[.nr B s C (putCells G c [.und])],false,r.lst,true⟩:Row))=h2 at hB;have ad:h2 y=some ⟨r.v,r.ty,[.nr B s C (putCells G c [.und])],false,r.lst,true⟩:=by rw[<- al,aA]
 have ao:∀z,z≠y->h2 z=h z:=fun z hz=>by rw[<- al,aG _ _ hz]
 have ae:EH h2 m=some q:=by
  grind[HA,wV]
 have S:=(hB.rows m q ae).2;have aD:∀b,Own M (forget (EH h2) (some m)) blk b->Own M (EH h2) blk b:=fun b O=>by
  rcases O with O|⟨z,r',g',hz,aE,aF,aH⟩
  ·exact .inl O
  ·simp only[forget]at hz
   by_cases aI:z=m
   ·grind[aA]
   ·rw[aG _ _ aI]at hz;exact .inr ⟨z,r',g',hz,aE,aF,aH⟩
 have hC:=hB.acP (w':=w) (h1:=forget (EH h2) (some m)) (old:=some m) (d:=NK y c) (r0:=⟨C,B,q.cells,false,true,false⟩) (go:=blk m) rfl rfl rfl (am6 _) (fun _ _ _=>rfl) (fun y' E=>by simp_all) rfl (by have:=hK c;omega) (by have:=hK c;omega) (hV c)
  (fun y' r' j s' n' E aJ U=>by
   simp only[forget]at E
   by_cases aq:y'=m
   ·grind[aA]
   rw[aG _ _ aq]at E;have Z:=(hB.rows y' r' E).2;cases O:blk y' with
   | none =>
    rw[O]at Z;rw[show r'.cells=[] from Z]at U;cases U
   | some g' =>
    obtain⟨⟨q1,q2⟩,_⟩:=hB.pha y' r' g' E aJ O j _ s' n' U;rcases q2 with q2|q2
    ·have:=hK c;omega
    ·obtain⟨rfl,rfl⟩:=xG f q1 q2;rw[im ad rfl rfl f]at E;simp only[anf]at E;subst E;simp only[apv,iB i,Option.map_some,anf]at U;cases U) (by
  cases O:blk m with
  | none=>rw[O]at S;exact S
  | some g' =>
   obtain⟨aa,m1,m2,m3⟩:=hB.Jr ae O aB;refine⟨.inr ⟨m,g',rfl,O,rfl⟩,aa,by simp_all,m2,fun j d W=>⟨(m3 j d W).1,(m3 j d W).2.keep fun b q1 q2=>⟨q1,?_,rfl⟩⟩⟩;rintro (hn|rfl)
   ·simp_all
   ·exact q2 (.inr ⟨m,q,g',ae,az,O,rfl⟩)) rfl
 generalize ag:cq (forget (EH h2) (some m)) (NK y c) (some (⟨C,B,q.cells,false,true,false⟩:Row))=ar at hC;have X:ar y=some ⟨r.v,r.ty,(putCells G c [.und]).mapIdx (wT y s),false,r.lst,true⟩:=by
  rw[<- ag,aG _ _ (Ne.symm (hK c).1)];simp only[forget];rw[aG _ _ (Ne.symm ab)];exact im ad rfl rfl f
 have Q:cq blk (NK y c) (blk m) y=some g:=by rw[aG _ _ (Ne.symm (hK c).1),hg]
 have aK:(putCells G c [D.nx n q.cells]).length=G.length:=mJ i;have hD:=hC.lM (r0:=⟨r.v,r.ty,(putCells G c [.nx n q.cells]).mapIdx (wT y s),false,r.lst,true⟩) (w':=w.setRow g.1 arr') X rfl rfl rfl rfl rfl (by omega) (fun b _ O=>hheap b (O g Q)) (by
  rw[Q];refine⟨by simp[World.shape?,J,k1,ak],?_⟩;have ah:=hC.rowIs X Q;unfold fp at ah ⊢;simp only at ah ⊢;rcases ah with⟨ks,vs,m1,_⟩|⟨m1,aa,m2,m3,m4⟩
  ·exfalso;have:=congrArg List.length m1;simp only[List.length_mapIdx,mJ i,List.length_singleton]at this;have h0:c=0:=by omega
   subst h0;have au:=congrArg (fun l:List D=>l[0]?) m1;simp only[apv,iB i,Option.map_some,List.getElem?_cons_zero,anf]at au;cases au
  ·rw[k1]at m2;simp only[anf,Obj.cells.injEq]at m2;obtain⟨rfl,-⟩:=m2;refine .inr ⟨fun d hd =>?_,arr',J,by simp_all,fun j d W =>?_⟩
   ·grind[List.getElem?_of_mem,Option.map_eq_some_iff,oO]
   ·simp only[apv,am4]at W;obtain⟨d0,F,rfl⟩:=W;have Y:j<G.length:=by
     grind
    rw[I j Y]
    by_cases H:j=c
    ·subst H;rw[iB i]at F;cases F;trivial
    ·rw[if_neg H];rw[jV i H]at F;have:=m4 j (wT y s j d0) (by grind[jV]);exact this.keep fun b q1 q2=>⟨by rw[aC];exact q1,q2,hheap b (fun e=>q2 (.inr ⟨y,_,g,X,rfl,Q,e.symm⟩))⟩) (fun h=>by cases h) (fun _ g' av j x' s' n' W=>by
  rw[Q]at av;cases av;simp only[apv,am4]at W;obtain⟨d0,F,he⟩:=W;have Y:j<G.length:=by
   grind
  by_cases H:j=c
  ·subst H;rw[iB i]at F;simp only[anf]at F;subst F;simp only[wT,D.ph.injEq]at he;obtain⟨rfl,rfl,rfl⟩:=he;refine⟨⟨f,.inr rfl⟩,K,by rw[bm J (by omega),I j Y,if_pos rfl],fun r' _ =>?_⟩;rw[aA];exact aj
  ·rw[jV i H]at F;obtain⟨q1,u,q2,q3⟩:=hC.pha y _ g X rfl Q j x' s' n' (by grind[jV]);refine⟨q1,u,?_,q3⟩;rw[bm k1 (by omega)]at q2;rw[bm J (by omega),I j Y,if_neg H,q2])
 have aw:cq ar y (some (⟨r.v,r.ty,(putCells G c [.nx n q.cells]).mapIdx (wT y s),false,r.lst,true⟩:Row))=EH (aW h [(m,none),(y,some ⟨r.v,r.ty,[.nr B s C (putCells G c [.nx n q.cells])],false,r.lst,true⟩)]):=by
  simp only[aW];funext k
  by_cases hky:rt k=y
  ·rcases s5 hky with rfl|⟨o',rfl⟩
   ·rw[aA,im (aA _ _ _) rfl rfl f]
   ·rw[aG _ _ (hK o').1,gh (aA _ _ _) rfl rfl f,<- ag]
    by_cases hoc:o'=c
    ·subst hoc;rw[aA,iB i];rfl
    ·rw[aG _ _ (fun e=>hoc (xG f f e).2)];simp only[forget];rw[aG _ _ (hK o').2.1,gh ad rfl rfl f,jV i hoc,jV i hoc]
  ·rw[aG _ _ (fun e=>hky (by rw[e,kh (by omega)])),<- ag,aG _ _ (fun e=>hky (by rw[e,yX f]))];simp only[forget]
   by_cases aL:rt k=m
   ·rcases s5 aL with rfl|⟨o',rfl⟩
    ·grind[aA,wV,aG]
    ·rw[aG _ _ (by have:=jM m o';omega),wU ai,wU ai,ao _ ab,ay,aG _ _ ab,aA];grind[vS]
   grind[aG,kh,fD]
 refine .inr (.inl ⟨w.setRow g.1 arr',?_,cq blk (NK y c) (blk m),?_,trivial⟩)
 ·simp[execOp,ho,Instr.storeAt,Instr.sureAddr,ax,storeVar,run_sizeOf (hT ty τ hτ),c1,hu,R]
 ·show Inv _ _ _ _ _ _ _ (EH (aW h _)) _ _;rw[<- aw];exact hD.weaken fun _ _ h =>.inl h
def agd(V:Nat->Nat->Prop)(h:Nat->Option Row)(e:Nat):Prop:=∀x r c s b d a,h x=some r->r.mp=true->r.cells=[.nr c s b d]->x<PK->bump b e=some a->∀o,¬V (NK x o) a
def aja{g:Nat->Prop}{d:D}{e:List D}{u:Value}(c:plV d=some e)(r:e.all gD=true)(i:RT w g h blk V d u):u.cells.toList.length=e.length∧∀(j:Nat) x,e[j]? = some x->gD x=true∧RP w g (canon x) (u.cells.toList.getD j undef):=by
 have l:∀x∈e,gD x=true:=anh.1 r;have one:∀(d0:D),e=[d0]->RP w g d0 u->u.cells.toList.length=e.length∧∀(j:Nat) x,e[j]? = some x->gD x=true∧RP w g (canon x) (u.cells.toList.getD j undef):=by
  intro d0 t m;subst t;have o:=l d0 (by simp);have v:=m.cells (gE o).1;rw[v];refine⟨rfl,fun j x f =>?_⟩;cases j with
  | zero=>simp only[List.getElem?_cons_zero,anf]at f;subst f;exact⟨o,m.canon⟩
  | succ j=>simp at f
 cases d with
 | agg xs =>
  simp only[plV,anf]at c;subst c;have p:RP w g (.agg xs) u:=i;cases p with
  | agg xs us h1 h2 h3 =>
   have q:(Value.agg us.toArray).cells.toList=us:=by simp[Value.cells]
   rw[q];exact⟨h1,fun j x f=>⟨l x (anv f),(h2 j x f).canon⟩⟩
 | int k n=>simp only[plV,anf]at c;exact one _ c.symm i
 | bool b=>simp only[plV,anf]at c;exact one _ c.symm i
 | str s=>simp only[plV,anf]at c;exact one _ c.symm i
 | sl a b n xs=>simp only[plV,anf]at c;exact one _ c.symm i
 | _=>cases c
def adE(hT:km P T)(W:Inv N M L w0 blk V t (EH h) a w)(ae:agd V h e){ty:Nat}{p x:Operand}{τ:Ty}{E:cI}(ho:o.op=.store ty p x)(hτ:T ty=some τ)(b:rq τ e h (ev t p) (ev t x)=some E):fC P o a w (l7 N M L w0 V t h a e o.dst E):=by
 have hp:=W.ev p;have hq:=W.ev x;generalize ev t p=pd at *;generalize ev t x=d at *;unfold rq at b;split at b<;>try (cases b;done)
 rename_i y v c;split at b<;>try (cases b;done)
 rename_i r H s nv cs hl;obtain⟨O,hv,hz,Q,C,R⟩:=kv hl;have ag:=im O Q R C;obtain⟨g,hg,I⟩:=hp.2 _ ag hv;split at b<;>try (cases b;done)
 rename_i f;obtain⟨X,aA⟩:=f;have J:Qq τ y r H s nv cs c (plV d)=some E->fC P o a w (l7 N M L w0 V t h a e o.dst E):=by
  intro b;unfold Qq at b;split at b<;>try (cases b;done)
  rename_i Y ah;split at b<;>try (cases b;done)
  rename_i f;obtain⟨d1,d2⟩:=f;simp only[anf]at b;subst b;obtain⟨u1,u2⟩:=aja ah d2 hq;have aC:(Y.map canon).length=τ.size:=by simp_all
  have m:c+(Y.map canon).length<=cs.length:=by omega
  refine Ir hT W ho hτ O Q R hz C hg I rfl (u1.trans d1) X (fun u hu =>?_) (lL m) (fun j S i l =>?_) (fun j l =>?_) (fun j d0 l D =>?_)
  ·obtain⟨j,l⟩:=anq hu;have aD:=(anx.1 l).1;obtain⟨q1,q2⟩:=u2 j _ (anj (by omega));have e1:(a.eval x).cells.toList.getD j undef=u:=by simp_all
   rw[e1]at q2;exact q2.tL (by grind[qq,gE])
  ·rw[pE m]at l;split at l
   ·exact⟨S,i,i.length,l,by simp⟩
   ·split at l
    ·rw[am3,am4]at l;obtain⟨Z,h1,h2⟩:=l;have:=(u2 _ Z h1).1;cases Z<;>first|(cases h2;done)|(cases this;done)
    ·exact⟨S,i,i.length,l,by simp⟩
  ·rw[pE m];grind
  ·rw[pE m,if_neg (by omega),if_pos (by omega),aoQ,am3,am4]at D;obtain⟨Z,h1,rfl⟩:=D;obtain⟨q1,q2⟩:=u2 j Z h1;refine⟨fun _=>q2,fun S i he =>?_⟩;cases Z<;>first|(cases he;done)|(cases q1;done)
 unfold LR at b;split at b
 ·rename_i z vz s' oz n;split at b<;>try (cases b;done)
  rename_i f;obtain⟨c1,rfl,rfl⟩:=f;have aa:∀{k:Nat}{q:Row},EH h z=some q->q.v=vz->L0 w blk z s' n (a.eval x):=by
   intro k q ai aj;rcases hq.2 q ai aj with⟨g',o',Y,N',t',k0,U,k2,k3,k4,k5⟩|⟨k0,U,A,k2⟩
   ·obtain⟨k6,k7⟩:=k2 (.inr rfl);rw[anE]at k6;subst k6;exact .inl ⟨g',Y,N',t',k0,U,k7,k3,k4,k5⟩
   ·exact .inr ⟨k0,U,A,k2⟩
  have ab:∀{B:L0 w blk z s' n (a.eval x)},(a.eval x).cells = #[a.eval x]∧(a.eval x).oneCell'=true:=by
   intro B;rcases B with⟨g',Y,N',t',k0,U,_⟩|⟨k0,U,A,k2⟩
   ·rw[U];exact⟨rfl,rfl⟩
   ·rw[k2];exact⟨rfl,rfl⟩
  split at b
  ·rename_i ak;subst ak;split at b<;>try (cases b;done)
   rename_i al;subst al;rw[apu]at b;unfold Qo at b;split at b<;>try (cases b;done)
   rename_i n0 xs hn;split at b<;>try (cases b;done)
   rename_i aB;simp only[anf]at b;subst b;have ao:EH h (NK y c)=some ⟨vz,H,xs,r.fz,true,false⟩:=by rw[gh O Q R C,hn];rfl
   have hH:=aa (k:=0) ao rfl;obtain⟨K,G⟩:=ab (B:=hH);have F:=(anx.1 hn).1;refine Ir hT W ho hτ O Q R hz C hg I (us:=[a.eval x]) (by rw[K]) (by simpa using c1.symm) X (fun u hu=>by simp_all) (mJ F) (fun j S i l =>?_) (fun j l=>jV F (by omega)) (fun j d0 l D =>?_)
   ·by_cases aq:j=c
    ·grind[iB]
    ·rw[jV F aq]at l;exact⟨S,i,i.length,l,by simp⟩
   ·obtain rfl:j=0:=by omega
    rw[anE,iB F]at D;simp only[anf]at D;subst D;refine⟨fun hd=>(by cases hd),fun S i he =>?_⟩;simp_all
  ·split at b<;>try (cases b;done)
   rename_i ar;split at b<;>try (cases b;done)
   rename_i q ad;split at b<;>try (cases b;done)
   rename_i au;obtain⟨q1,q2,q3,q4⟩:=au;obtain⟨av,aw⟩:=da ad;have ax:=kc ad;unfold FG at b;split at b<;>try (cases b;done)
   rename_i ay hb;simp only[anf]at b;subst b;have az:EH h z=some q:=by
    grind[HA,wV]
   have hH:=aa (k:=0) az aw;obtain⟨K,G⟩:=ab (B:=hH);exact Sa hT W ho hτ c1 O Q R hz C hg I (by omega) av ar q1 q2 ax q3 K G hH (ae y r H s' nv cs ay O Q R C hb)
 ·exact J b
end
def aeT:Option D->Bool
 | some (.sl true true 0 [])=>true
 | _=>false
def qD(φ:Ty)(f:Nat):List D:=putCells ((φ.zero.map sf).map canon) f [.nx 0 []]
def qK(T:Nat->Option Ty)(τ:Ty)(e d a s f:Nat)(l c:D):Option cI :=
 match τ.ds with
 | .slice el =>
  match T el,uW l,uW c with
  | some φ,some l,some c =>
   if l<=c∧c<=maxLen∧c*φ.bytes<=140737488355328∧0<φ.size∧(φ.zero.map sf).all gD=true∧φ.zero.length=φ.size∧d<PK∧aeT ((φ.zero.map sf).drop f).head? = true then
    some ⟨.buf d e φ.size 0 l,[(d,some ⟨e,el,[.nr a s (4*e+2) (rK l (qD φ f))],false,true,true⟩)]⟩
   else none
  | _,_,_=>none
 | _=>none
def mkA(τ:Ty)(b e d a s f:Nat):Option cI :=
 if 0<τ.size∧(τ.zero.map sf).all gD=true∧τ.zero.length=τ.size∧d<PK∧aeT ((τ.zero.map sf).drop f).head? = true then
  some ⟨.ptr d e 0,[(d,some ⟨e,b,[.nr a s (4*e+2) (qD τ f)],false,false,true⟩)]⟩
 else none
def jN(T:Nat->Option Ty)(Γ:Env)(e:Nat)(o:Oper)(g:Operand->D):Option cI :=
 match o.op with
 | .makeSlice b l c =>
  match o.dst with
  | some d =>
   match Γ.nst d with
   | some (a,s,f)=>match T b with|some τ=>qK T τ e d a s f (g l) (g c)|none=>none
   | none=>none
  | none=>none
 | .alloc b =>
  match o.dst with
  | some d =>
   match Γ.nst d with
   | some (a,s,f)=>match T b with|some τ=>mkA τ b e d a s f|none=>none
   | none=>none
  | none=>none
 | _=>none
section
variable {P:Program} {T:Nat->Option Ty} {N:Nat} {M:Nat->Prop} {L:mc} {w0:World} {blk:Nat->Option (Nat×Nat)} {V:Nat->Nat->Prop} {t:Nat->D} {h:Nat->Option Row} {a:Act} {w:World} {e:Nat} {o:Oper} {Γ:Env}
def Inv.addEmpty(l:Inv N M L w0 blk V t h a w)(S:Nat->Prop)(Z Q:Nat)(hS:∀k,S k->N<=k∧k≠0∧¬V k Q∧h k=none){h':Nat->Option Row}{blk':Nat->Option (Nat×Nat)}(he:∀k,S k->h' k=some ⟨Q,Z,[],false,true,false⟩∧blk' k=none)(F:∀k,¬S k->h' k=h k∧blk' k=blk k)
  (R:∀y r g,h y=some r->r.mp=true->blk y=some g->∀j x s n:Nat,r.cells[j]? = some (D.ph x s n)->S x->∃u,w.cell? ⟨g.1,g.2+j,none⟩=some u∧n=0∧∃A,u=.slice A 0 0):Inv N M L w0 blk' V t h' a w:=by
 have q:∀x d,h' x=some d->(S x∧d=⟨Q,Z,[],false,true,false⟩∧blk' x=none)∨(¬S x∧h x=some d∧blk' x=blk x):=by
  grind
 have T:∀b,¬Own M h blk b->¬Own M h' blk' b:=by
  intro b G z;rcases z with z|⟨x,d,g,H,U,m,e⟩
  ·exact G (.inl z)
  ·rcases q x d H with⟨_,_,f⟩|⟨_,o,f⟩
   ·simp_all
   ·exact G (.inr ⟨x,d,g,o,U,f ▸ m,e⟩)
 have I:LZ w w (Own M h blk) (Own M h' blk') h h' blk blk' V V:=⟨fun b C p=>⟨C,T b p,rfl⟩,fun _ _ h=>h,fun x v hv d C p=>by
  grind⟩
 exact {
  tab:=l.tab.keep fun b C p=>⟨C,T b p,rfl⟩
  below:=l.below
  mlt:=l.mlt
  cg:=l.cg
  pin:=fun go m=>⟨(l.pin go m).1,fun d hr hv=>by
   rcases q 0 d hr with⟨k1,_⟩|⟨_,o,f⟩
   ·grind
   ·rw[f];exact (l.pin go m).2 d o hv⟩
  defers:=l.defers
  tsz:=l.tsz
  slots:=fun i=>(l.slots i).mono I
  rows:=fun x d H=>by
   rcases q x d H with⟨k1,rfl,f⟩|⟨_,o,f⟩
   ·rw[f];exact⟨fun hn=>by grind,rfl⟩
   ·obtain⟨C,p⟩:=l.rows x d o;rw[f];refine⟨C,?_⟩;cases G:blk x with
    | none=>rw[G]at p;exact p
    | some g =>
     rw[G]at p;exact⟨p.1,p.2.keep rfl rfl rfl rfl fun b E B=>⟨E,T b B,rfl⟩⟩
  inj:=fun x y r s g g' H J m W e=>by
   rcases q x r H with⟨_,_,f⟩|⟨_,o,f⟩
   ·simp_all
   rcases q y s J with⟨_,_,O⟩|⟨_,B,O⟩
   ·simp_all
   exact l.inj x y r s g g' o B (f ▸ m) (O ▸ W) e
  big:=l.big
  pha:=fun y d g J hm m j x s n hc=>by
   rcases q y d J with⟨_,rfl,f⟩|⟨_,o,f⟩
   ·simp_all
   rw[f]at m;obtain⟨h0,u,E,B⟩:=l.pha y d g o hm m j x s n hc;refine⟨h0,u,E,?_⟩
   by_cases P:S x
   ·obtain⟨u',p1,p2,p3⟩:=R y d g o hm m j x s n hc P;rw[E]at p1;cases p1;exact fun K _ =>.inr ⟨(he x P).2,p2,p3⟩
   ·exact fun K O=>by
     rw[(F x P).2];exact B K ((F x P).1 ▸ O)
  ali:=fun y d g J U X m j c d' hj Y=>by
   rcases q y d J with⟨_,rfl,f⟩|⟨_,o,f⟩
   ·simp_all
   rw[f]at m;obtain⟨u,E,B⟩:=l.ali y d g o U X m j c d' hj Y;exact⟨u,E,B.mono I⟩ }
def Dv(d:Nat)(c:d<PK):Ho (EH h) (EH (cq h d none)):=by
 intro k e a
 by_cases b:rt k=d
 ·rcases s5 b with rfl|⟨o,rfl⟩
  ·rw[wV (by omega),aA]at a;cases a
  ·rw[wU c,aA]at a;cases a
 ·exact⟨e,by rw[<- a];exact fD (aG _ _ b).symm,.refl _⟩
def Zv{v:Value}(h:sf v=.sl true true 0 []):v=.slice none 0 0:=by
 unfold sf at h;grind
open Classical in
def adC(hT:km P T)(hI:Inv N M L w0 blk V t (EH h) a w){ty d Y s f:Nat}{l c:Operand}{τ:Ty}{E:cI}(ho:o.op=.makeSlice ty l c)(hd:o.dst=some d)(hV:lE N V d e)(aB:∀o,¬V (NK d o) (4*e+2))(hτ:T ty=some τ)
  (K:qK T τ e d Y s f (ev t l) (ev t c)=some E):fC P o a w (l7 N M L w0 V t h a e o.dst E):=by
 have al:=hI.ev l;have ao:=hI.ev c;have az:=hI.big;have aC:=gr;obtain⟨dd,C,hc⟩:=under hT hτ;unfold qK at K;split at K<;>try (cases K;done)
 rename_i el aq;rw[aq]at hc;have:=iN hc;subst this;split at K<;>try (cases K;done)
 rename_i φ n k hφ hn I;split at K<;>try (cases K;done)
 rename_i Z;obtain⟨c1,c2,c3,c4,c5,c6,q,c8⟩:=Z;simp only[anf]at K;subst K;obtain⟨q1,hl⟩:=Bl hn al;obtain⟨q2,ar⟩:=Bl I ao;obtain⟨d',i,z,g1,g2,g3,g4,g5,g6,g7⟩:=(hT el φ hφ).get;have hb:(i.bytes:Int)*(k:Int)<=281474976710656:=by
  grind
 have ag:(k:Int)<=9223372036854775807:=by
  simp only[maxLen]at c2;omega
 have F:=run_make (P:=P) w ty el i z C g3 g6 q1 q2 n k (by omega) (by omega) hb ag;simp only[Int.toNat_natCast]at F;have aD:(φ.zero.map sf).length=φ.size:=by simp_all
 have hf:f<φ.size:=by
  rw[apu]at c8;rcases anL f φ.size with aa|aE
  ·exact aa
  ·rw[List.getElem?_eq_none (by omega)]at c8;cases c8
 have ah:(φ.zero.map sf)[f]? = some (.sl true true 0 []):=by
  rw[apu]at c8;unfold aeT at c8;grind
 have ai:(qD φ f).length=φ.size:=by
  unfold qD;rw[mJ (by simp;omega)];simp[c6]
 have U:∀(m:Nat)(x:D),(qD φ f)[m]? = some x->(m=f∧x=.nx 0 [])∨(m≠f∧∃y,(φ.zero.map sf)[m]? = some y∧x=canon y):=by
  intro m x hm;unfold qD at hm
  by_cases aj:m=f
  ·subst aj;rw[iB (by simp;omega)]at hm;simp_all
  ·rw[jV (by simp;omega) aj,am3,am4]at hm;grind
 generalize ak:madeCells z.cells (k*i.size)=vs at F;have au:vs.size=k*φ.size:=by rw[<- ak];simp[madeCells,g4]
 have W:∀j,j<k*φ.size->vs.getD j undef=φ.zero.toArray.getD (j % φ.size) undef:=by
  intro j p;rw[<- ak,g7,g4,<- c6];have:=AP φ.zero k j (by rw[c6];exact p);simpa [madeCells,List.getD] using this
 have ab:∀(j:Nat)(x:D),(rK n (qD φ f))[j]? = some x->j<n*φ.size∧(qD φ f)[j % φ.size]? = some x:=by
  intro j x p;have:=Hv _ _ _ _ p
  rwa [ai]at this
 have aF:n*φ.size<=k*φ.size:=anM _ c1;have X:∀(M':Nat->Prop)(w':World)(j:Nat)(x:D),(rK n (qD φ f))[j]? = some x->gD x=true->RP w' M' x (vs.getD j undef):=by
  intro M' w' j x p av;obtain⟨r1,r2⟩:=ab j x p;rw[W j (by omega)];rcases U _ x r2 with⟨_,rfl⟩|⟨_,y,h1,rfl⟩
  ·cases av
  ·exact (vo (w:=w') (M:=M') φ.zero (anh.2 fun y hy=>(gE (anh.1 c5 y hy)).1) _ y h1).2.canon
 have G:∀(j:Nat)(n':Nat)(H:List D),(rK n (qD φ f))[j]? = some (.nx n' H)->n'=0∧H=[]∧vs.getD j undef=.slice none 0 0:=by
  intro j n' H p;obtain⟨r1,r2⟩:=ab j _ p;rcases U _ _ r2 with⟨hm,O⟩|⟨_,y,h1,O⟩
  ·simp only[D.nx.injEq]at O;refine⟨O.1,O.2,?_⟩;rw[W j (by omega),hm];rw[am3,am4]at ah;obtain⟨v,v1,v2⟩:=ah;simp only[ana,List.getElem?_toArray,v1,Option.getD_some];exact Zv v2
  ·have:=anh.1 c5 y (anv h1);cases y<;>first|(cases O;done)|(cases this;done)
 generalize aw:rK n (qD φ f)=cs at ab X G;have aH:cs.length=n*φ.size:=by rw[<- aw,vN,ai]
 have hA:=hI.le (Dv (h:=h) d q);have hold:∀b,b<w.heap.size->(w.alloc (.cells vs el)).heap[b]? = w.heap[b]?:=fun b hb=>Below.heap_alloc w _ b hb;have Q:=(Below.refl w.heap.size w).alloc (am6 _) (.cells vs el);have B:=heap_alloc_new w (.cells vs el);have ad:∀o,EH (cq h d none) (NK d o)=none:=fun o=>by rw[wU q,aA];rfl
 have ae:∀o,NK d o≠d:=fun o=>by have:=jM d o;omega
 have hB:=hA.HS (w':=w.alloc (.cells vs el)) (h1:=EH (cq h d none)) (old:=none) (d:=d) (e:=e) (r0:=⟨e,el,cs.mapIdx (wT d s),false,true,true⟩) (go:=some (w.heap.size,0)) Q.os Q.tape Q.output Q.size (fun k I _=>hold k I) (fun y hy=>by cases hy) rfl hV
  ⟨.inl (am6 _),.inr ⟨fun x hx=>by
   obtain⟨j,p⟩:=anq hx;simp only[apv,am4]at p;obtain⟨d0,A,rfl⟩:=p;exact oO _ _ _ _,vs,B,by grind,fun j x p=>by
   simp only[apv,am4]at p;obtain⟨d0,A,rfl⟩:=p;rw[an5]
   by_cases C:gD d0=true
   ·rw[mM C];exact (gE C).2.2.2 (X _ _ j d0 A C)
   ·cases d0<;>first|trivial|exact absurd rfl C⟩⟩ rfl rfl (fun _ g hg j x s' n' p=>by
   cases hg;simp only[apv,am4]at p;obtain⟨d0,A,O⟩:=p;obtain⟨H,rfl,rfl,rfl⟩:=vg O;have aa:=(anx.1 A).1;refine⟨⟨q,.inr rfl⟩,_,bm B (by omega),fun r hr =>?_⟩;rw[aG _ _ (ae j),ad]at hr;cases hr)
 obtain⟨S,hS⟩:∃S:Nat->Prop,∀k,S k↔∃o H,k=NK d o∧cs[o]? = some (.nx 0 H):=⟨_,fun _=>Iff.rfl⟩;have hC:=hB.addEmpty S Y (4*e+2) (h':=EH (cq h d (some ⟨e,el,[.nr Y s (4*e+2) cs],false,true,true⟩))) (blk':=fun k=>if S k then none else cq blk d (some (w.heap.size,0)) k) (fun k I=>by
   obtain⟨J,H,rfl,R⟩:=(hS k).1 I;have:=jM d J;refine⟨by omega,by omega,?_,by rw[aG _ _ (ae J),ad]⟩;grind) (fun k I=>by
   refine⟨?_,by rw[if_pos I]⟩;obtain⟨J,H,rfl,R⟩:=(hS k).1 I;rw[gh (aA _ _ _) rfl rfl q,R];obtain⟨_,rfl,_⟩:=G J 0 H R;rfl) (fun k I=>by
   refine⟨?_,by rw[if_neg I]⟩
   by_cases hkd:rt k=d
   ·rcases s5 hkd with rfl|⟨J,rfl⟩
    ·rw[aA,im (aA _ _ _) rfl rfl q]
    ·rw[aG _ _ (ae J),ad,gh (aA _ _ _) rfl rfl q];cases aI:cs[J]? with
     | none=>rfl
     | some d0 =>
      cases d0 with
      | nx n' H =>
       grind
      | _=>rfl
   ·rw[aG _ _ (fun e=>hkd (by rw[e,kh (by omega)]))];exact fD (by rw[aG _ _ hkd,aG _ _ hkd])) (fun y r g hy hm hg j x s' n' p hs=>by
   obtain⟨J,H,rfl,R⟩:=(hS _).1 hs;obtain⟨⟨p1,p2⟩,u,p3,_⟩:=hB.pha y r g hy hm hg j _ s' n' p;rcases p2 with p2|p2
   ·have:=jM d J;omega
   obtain⟨rfl,rfl⟩:=xG q p1 p2;rw[aA]at hy hg;cases hy;cases hg;simp only[apv,am4]at p;obtain⟨d0,A,O⟩:=p;obtain⟨ax,rfl,_,rfl⟩:=vg O;obtain⟨k1,_,k3⟩:=G J n' ax A;have aa:=(anx.1 A).1;refine⟨_,bm B (by omega),k1,none,?_⟩;grind)
 have ay:¬S d:=fun hs=>by
  grind
 refine aP (v:=.slice (some ⟨w.heap.size,0,none⟩) n k) (w':=w.alloc (.cells vs el)) ?_ ⟨fun k=>if S k then none else cq blk d (some (w.heap.size,0)) k,?_,?_⟩
 ·simp[execOp,ho,hl,ar,F]
 ·refine hC.weaken fun x v hx =>?_;grind
 ·exact xH (g:=(w.heap.size,0)) (.inr ⟨hd,rfl⟩) (by rw[if_neg ay,aA]) B c1 c2 (by rw[au];simp)
end
section
variable {P:Program} {T:Nat->Option Ty} {N:Nat} {M:Nat->Prop} {L:mc} {w0:World} {blk:Nat->Option (Nat×Nat)} {V:Nat->Nat->Prop} {t:Nat->D} {h:Nat->Option Row} {a:Act} {w:World} {e:Nat} {o:Oper} {Γ:Env}
def Inv.aiq(l:Inv N M L w0 blk V t h a w)(S:Nat->Prop){w':World}{h':Nat->Option Row}{blk':Nat->Option (Nat×Nat)}{V':Nat->Nat->Prop}(hVV:∀x v,V x v->V' x v)
  (ab:w'.os=w.os) (P:w'.tape=w.tape) (X:w'.output=w.output) (Q:w.heap.size<=w'.heap.size)
  (hblock:∀k,k<w.heap.size->(∀x r g,S x->h x=some r->blk x=some g->k≠g.1)->w'.heap[k]? = w.heap[k]?)
  (ad:∀x r,S x->h x=some r->r.fz=false)
  (o:∀x,¬S x->h' x=h x∧blk' x=blk x)
  (ae:∀x r,S x->h' x=some r->r.fz=false∧(x<N->V' x r.v)∧(match blk' x with
   | some g=>(w.heap.size<=g.1∨∃y s E,S y∧h y=some s∧blk y=some E∧g.1=E.1)∧fp w' (Own M h' blk') g r
   | none=>r.cells=[]))
  (al:∀x y r s g H,S x->S y->h' x=some r->h' y=some s->blk' x=some g->blk' y=some H->g.1=H.1->x=y)
  (ag:∀x r,S x->V x r.v->h' x=some r->(∃r0,h x=some r0∧r0.v=r.v)∧blk' x=blk x∧∀g,blk x=some g->w'.shape? g.1=w.shape? g.1)
  (ao:∀y r g,S y->h' y=some r->r.mp=true->blk' y=some g->∀j x s n:Nat,r.cells[j]? = some (D.ph x s n)->VC y j x∧∃u,w'.cell? ⟨g.1,g.2+j,none⟩=some u∧PhR w' h' blk' x s n u)
  (ah:∀y r (j x s n:Nat),¬S y->h y=some r->r.mp=true->r.cells[j]? = some (D.ph x s n)->¬S x) :
  Inv N M L w0 blk' V' t h' a w':=by
 have hother:∀x r g,¬S x->h x=some r->blk x=some g->w'.heap[g.1]? = w.heap[g.1]?:=fun x r g hs f d=>hblock _ (l.lt f d) (fun y r' H A ai m e=>hs (by rw[l.inj x y r r' g H f ai d m e];exact A));have R:∀b,b<w.heap.size->¬Own M h blk b->w'.heap[b]? = w.heap[b]?:=fun b hb hn=>hblock b hb fun x r g hs f d I=>hn (.inr ⟨x,r,g,f,ad x r hs f,d,I.symm⟩);have G:∀x r g,h' x=some r->blk' x=some g->w.heap.size<=g.1∨∃y s E,h y=some s∧blk y=some E∧g.1=E.1∧(S y↔S x)∧(s.fz=false∨s=r)∧(S x∨y=x):=by
  intro x r g f d
  by_cases hs:S x
  ·grind
  grind
 have Y:∀b,b<w.heap.size->¬Own M h blk b->¬Own M h' blk' b:=by
  intro b hb hn T;rcases T with T|⟨x,r,g,f,hz,d,I⟩
  ·exact hn (.inl T)
  ·rcases G x r g f d with k|⟨y,s,E,C,B,F,_,W,_⟩
   ·omega
   ·exact hn (.inr ⟨y,s,E,C,W.elim id (fun e=>by rw[e];exact hz),B,by rw[<- F,I]⟩)
 have hk:∀b,b<w.heap.size->¬Own M h blk b->b<w'.heap.size∧¬Own M h' blk' b∧w'.heap[b]? = w.heap[b]?:=fun b h1 h2=>⟨by omega,Y b h1 h2,R b h1 h2⟩;have Z:∀x v,V x v->∀r',h' x=some r'->r'.v=v->(∃r,h x=some r∧r.v=v)∧blk' x=blk x∧∀g,blk x=some g->w'.shape? g.1=w.shape? g.1:=by
  intro x v hv r' f hr
  by_cases hs:S x
  ·grind
  ·obtain⟨C,B⟩:=o x hs;rw[C]at f;exact⟨⟨r',f,hr⟩,B,fun g d=>dy (hother x r' g hs f d)⟩
 have aa:LZ w w' (Own M h blk) (Own M h' blk') h h' blk blk' V V':=⟨hk,hVV,Z⟩;exact {
  tab:=l.tab.keep hk
  below:=l.below.trans (L':=fun k=>∃x r g,S x∧h x=some r∧blk x=some g∧k=g.1) ⟨ab,P,X,Q,fun k aj hn=>hblock k aj (fun x r g hs f d I=>hn ⟨x,r,g,hs,f,d,I⟩)⟩ (fun k ⟨x,r,g,hs,f,d,I⟩ aq=>by
   rcases l.base f d with hb|hb
   ·omega
   grind)
  mlt:=l.mlt
  cg:=l.cg
  pin:=fun p hp=>⟨hVV _ _ (l.pin p hp).1,fun r hr hv=>by
   obtain⟨⟨r0,C,B⟩,F,W⟩:=Z 0 0 (l.pin p hp).1 r hr hv;obtain⟨O,J⟩:=(l.pin p hp).2 r0 C B;grind⟩
  defers:=l.defers
  tsz:=l.tsz
  slots:=fun i=>(l.slots i).mono aa
  rows:=fun x r f=>by
   by_cases hs:S x
   ·obtain⟨C,B,F⟩:=ae x r hs f;refine⟨B,?_⟩;cases d:blk' x with
    | none=>rw[d]at F;exact F
    | some g =>
     rw[d]at F;refine⟨?_,F.2⟩;rcases F.1 with q|⟨y,s,E,_,J,q3,q4⟩
     ·exact .inl (am8 l.below.size q)
     ·rw[q4];exact l.base J q3
   ·obtain⟨C,B⟩:=o x hs;rw[C]at f;rw[B];exact⟨fun hn=>hVV _ _ ((l.rows x r f).1 hn),(l.rows x r f).2.keep (fun g d=>hother x r g hs f d) hk⟩
  inj:=fun x y r s g H f A d m I=>by
   by_cases K:S x
   ·by_cases U:S y
    ·grind
    ·exfalso;obtain⟨C,B⟩:=o y U;rw[C]at A;rw[B]at m;rcases G x r g f d with k|⟨z,s0,E,O,J,q3,q4,_⟩
     ·have:=l.lt A m;omega
     ·have:=l.inj z y s0 s E H O A J m (q3.symm.trans I);grind
   ·obtain⟨C,B⟩:=o x K;rw[C]at f;rw[B]at d
    by_cases U:S y
    ·exfalso;rcases G y s H A m with k|⟨z,s0,E,O,J,q3,q4,_⟩
     ·have:=l.lt f d;omega
     ·have:=l.inj z x s0 r E g O f J d (q3.symm.trans I.symm);grind
    ·obtain⟨F,W⟩:=o y U;rw[F]at A;rw[W]at m;exact l.inj x y r s g H f A d m I
  big:=l.big
  pha:=fun y r g A hm d j x s n hc=>by
   by_cases hs:S y
   ·grind
   ·obtain⟨C,B⟩:=o y hs;rw[C]at A;rw[B]at d;obtain⟨h0,u,O,J⟩:=l.pha y r g A hm d j x s n hc;have K:=ah y r j x s n hs A hm hc;obtain⟨F,W⟩:=o x K;exact⟨h0,u,(am2 (a:=⟨g.1,g.2+j,none⟩) (hother y r g hs A d)).trans O,J.mono fun r' g1=>by
     rw[F]at g1;exact⟨⟨r',g1⟩,W,fun H m=>dy (hother x r' H K g1 m)⟩⟩
  ali:=fun y r g A hz hl d j c d' hj ak=>by
   by_cases hs:S y
   ·grind
   ·obtain⟨C,B⟩:=o y hs;rw[C]at A;rw[B]at d;obtain⟨u,O,J⟩:=l.ali y r g A hz hl d j c d' hj ak;exact⟨u,(am2 (a:=⟨g.1,g.2+j,none⟩) (hother y r g hs A d)).trans O,J.mono aa⟩ }
def XT{h:Nat->Option Row}{k:Nat}(a:h (rt k)=none):EH h k=none:=by
 have:=fD (h:=h) (h':=fun _=>none) (k:=k) a;rw[this];unfold EH;split<;>rfl
def fT{h:Nat->Option Row}{x k:Nat}{r a:Row}{d s e:Nat}{b:List D}(f:h x=some r)(g:r.mp=true)(i:r.cells=[.nr d s e b])(j:x<PK)(m:rt k=x)(c:EH h k=some a) :
  (k=x∧a=⟨r.v,r.ty,b.mapIdx (wT x s),r.fz,r.lst,true⟩)∨∃o n l,k=NK x o∧b[o]? = some (.nx n l)∧a=⟨e,d,l,r.fz,true,false⟩:=by
 rcases s5 m with rfl|⟨o,rfl⟩
 ·rw[im f g i j]at c;simp_all
 ·rw[gh f g i j]at c;unfold JG at c;grind
def D3{x:Nat}(a:x<PK):rt x=x:=kh (by omega)
def ag9{r c:Row}{k:Nat}(a:EH (pP r) k=some c):rt k=0:=by
 by_cases b:rt k=0
 ·exact b
 ·rw[XT (by unfold pP;rw[if_neg b])]at a;cases a
def qY:0<PK:=by rw[gr];decide
def lA{k b t s c:Nat}{a:List D}{d:Row}(e:EH (pP (kd b t s c a)) k=some d) :
  (k=0∧d=⟨0,b,a.mapIdx (wT 0 s),false,true,true⟩)∨∃o n f,k=NK 0 o∧a[o]? = some (.nx n f)∧d=⟨c,t,f,false,true,false⟩ :=
 fT (r:=kd b t s c a) rfl rfl rfl qY (ag9 e) e
def AD{a t s c:Nat}{b:List D}:EH (pP (kd a t s c b)) 0=some ⟨0,a,b.mapIdx (wT 0 s),false,true,true⟩ :=
 im (r:=kd a t s c b) rfl rfl rfl qY
def yw{c t s a o n:Nat}{b d:List D}(e:b[o]? = some (.nx n d)):EH (pP (kd c t s a b)) (NK 0 o)=some ⟨a,t,d,false,true,false⟩:=by
 rw[gh (r:=kd c t s a b) rfl rfl rfl qY,e];rfl
def abm(x k:Nat):Nat:=@ite _ (k<2*PK) (ltB k (2*PK)) x (NK x (k / PK-2))
def wQ(x:Nat):abm x 0=x:=if_pos (by have:=gr;omega)
def tG(x o:Nat):abm x (NK 0 o)=NK x o:=by
 unfold abm;rw[if_neg (by have:=jM 0 o;omega),HL o qY]
def vt(blk:Nat->Option (Nat×Nat))(x k:Nat):Option (Nat×Nat):=blk (abm x k)
def InX(blk:Nat->Option (Nat×Nat))(h:Nat->Option Row)(x b:Nat):Prop:=∃k r g,rt k=x∧EH h k=some r∧blk k=some g∧g.1=b
def OR{h:Nat->Option Row}{x:Nat}{r:Row}{m s q:Nat}{p:List D}(e:h x=some r)(f:r.mp=true)(i:r.cells=[.nr m s q p])(c:x<PK)(b:Nat):A2 (vt blk x) (EH (pP (kd r.ty m s 0 p))) b↔InX blk h x b:=by
 constructor
 ·rintro⟨k,t,g,j,a,d⟩;rcases lA j with⟨rfl,_⟩|⟨o,n,u,rfl,l,_⟩
  ·rw[vt,wQ]at a;exact⟨x,_,g,D3 c,im e f i c,a,d⟩
  ·rw[vt,tG]at a;exact⟨NK x o,_,g,yX c,by rw[gh e f i c,l];rfl,a,d⟩
 ·rintro⟨k,t,g,v,j,a,d⟩;rcases fT e f i c v j with⟨rfl,_⟩|⟨o,n,u,rfl,l,_⟩
  ·exact⟨0,_,g,AD,by rw[vt,wQ];exact a,d⟩
  ·exact⟨NK 0 o,_,g,yw l,by rw[vt,tG];exact a,d⟩
def Inv.ai0(E:Inv N M L w0 blk V t (EH h) a w){x:Nat}{r:Row}{G s W:Nat}{H:List D}(z:h x=some r)(A:r.mp=true)(B:r.cells=[.nr G s W H])(hz:r.fz=false)(m:x<PK){Q:Nat->Prop}(X:∀b,Q b->Own M (EH h) blk b) :
  L1 w Q (vt blk x) (EH (pP (kd r.ty G s 0 H))) where
 rows k r' p:=by
  rcases lA p with⟨rfl,rfl⟩|⟨o,n,I,rfl,F,rfl⟩
  ·rw[vt,wQ];cases c:blk x with
   | none =>
    have:=(E.rows x _ (im z A B m)).2;rw[c]at this;have h1:H.mapIdx (wT x s)=[]:=this;simp_all
   | some g =>
    obtain⟨q,v,y,C⟩:=E.DV z A B m c;refine .inr ⟨fun d hd =>?_,q,v,by simpa using y,fun j d e =>?_⟩
    ·obtain⟨j,e⟩:=anq hd;simp only[apv,am4]at e;obtain⟨d0,f,rfl⟩:=e;exact oO _ _ _ _
    ·simp only[apv,am4]at e;obtain⟨d0,f,rfl⟩:=e
     by_cases i:gD d0=true
     ·rw[mM i];exact (gE i).2.2.2 ((C j d0 f i).less X)
     ·cases d0<;>first|trivial|exact absurd rfl i
  ·rw[vt,tG];have hq:EH h (NK x o)=some ⟨W,G,I,r.fz,true,false⟩:=by rw[gh z A B m,F];rfl
   have:=(E.rows _ _ hq).2;cases c:blk (NK x o) with
   | none=>rw[c]at this;exact this
   | some g =>
    rw[c]at this;obtain⟨q,v,y,C⟩:=this.2;exact⟨q,v,y,fun j d e=>⟨(C j d e).1,(C j d e).2.less X⟩⟩
 inj k l K Y g g' p O c P R:=by
  have key:∀{k:Nat}{K:Row}{g:Nat×Nat},EH (pP (kd r.ty G s 0 H)) k=some K->vt blk x k=some g->∃Y,EH h (abm x k)=some Y∧blk (abm x k)=some g:=by
   intro k K g p c;rcases lA p with⟨rfl,_⟩|⟨o,n,I,rfl,F,_⟩
   ·exact⟨_,by rw[wQ];exact im z A B m,c⟩
   ·exact⟨_,by rw[tG,gh z A B m,F];rfl,c⟩
  obtain⟨q1,v,y⟩:=key p c;obtain⟨q2,C,k4⟩:=key O P;have J:=E.inj _ _ _ _ _ _ v C y k4 R;rcases lA p with⟨rfl,_⟩|⟨o,n,I,rfl,F,_⟩
  ·rcases lA O with⟨rfl,_⟩|⟨Z,n',S,rfl,T,_⟩
   ·rfl
   ·rw[wQ,tG]at J;have:=jM x Z;omega
  ·rcases lA O with⟨rfl,_⟩|⟨Z,n',S,rfl,T,_⟩
   ·rw[wQ,tG]at J;have:=jM x o;omega
   ·rw[tG,tG]at J;rw[(xG m m J).2]
 pha k r' g p U c j x' s' n e:=by
  rcases lA p with⟨rfl,rfl⟩|⟨o,n,I,rfl,F,rfl⟩;rotate_left
  ·cases U
  rw[vt,wQ]at c;simp only[apv,am4]at e;obtain⟨d0,f,R⟩:=e;obtain⟨aa,rfl,rfl,rfl⟩:=vg R;obtain⟨u,v,y⟩:=E.JK z A B m c f;refine⟨⟨qY,.inr rfl⟩,u,v,fun _ _ =>?_⟩;unfold vt;rw[tG];exact y
def Ld(x k:Nat):Nat:=if k=x then 0 else NK 0 (k / PK-2)
def zq(x:Nat):Ld x x=0:=if_pos rfl
def oJ{x:Nat}(a:x<PK)(o:Nat):Ld x (NK x o)=NK 0 o:=by
 unfold Ld;rw[if_neg (by have:=jM x o;omega),HL o a]
def sW(blk a:Nat->Option (Nat×Nat))(x k:Nat):Option (Nat×Nat):=if rt k=x then a (Ld x k) else blk k
def Inv.back(Y:Inv N M L w0 blk V t (EH h) a w){x:Nat}{r:Row}{P s nv G:Nat}{cs f:List D}{R:Nat×Nat}(hx:h x=some r)(hm:r.mp=true)(hc:r.cells=[.nr P s nv cs])(hz:r.fz=false)(m:x<PK)
  (hV:∀o,¬V (NK x o) G) (ao:blk x=some R) {Z:World} {c:Nat->Option (Nat×Nat)} {M':Nat->Prop} {h1:Nat->Option Row} (aq:h1=EH (pP (kd r.ty P s 0 f))) (ae:∀b,M' b↔Own M (EH h) blk b∧¬InX blk h x b)
  (hb:fb (InX blk h x) w Z) (h0:c 0=some R) (aB:Z.shape? R.1=w.shape? R.1) (ag:∀b,A2 c h1 b->w.heap.size<=b∨InX blk h x b) (hR:L1 Z (fun b=>M' b∨A2 c h1 b) c h1) :
  Inv N M L w0 (sW blk c x) V t (EH (cq h x (some ⟨r.v,r.ty,[.nr P s G f],false,r.lst,true⟩))) a Z∧∀b,Own M (EH (cq h x (some ⟨r.v,r.ty,[.nr P s G f],false,r.lst,true⟩))) (sW blk c x) b->M' b∨A2 c h1 b:=by
 generalize ah:cq h x (some (⟨r.v,r.ty,[.nr P s G f],false,r.lst,true⟩:Row))=h2;have v:h2 x=some ⟨r.v,r.ty,[.nr P s G f],false,r.lst,true⟩:=by rw[<- ah,aA]
 have W:∀k,rt k≠x->EH h2 k=EH h k:=fun k e=>fD (by rw[<- ah,aG _ _ e]);have X:∀k,rt k≠x->sW blk c x k=blk k:=fun k e=>if_neg e;have S:sW blk c x x=c 0:=by unfold sW;rw[if_pos (D3 m),zq]
 have ai:∀o,sW blk c x (NK x o)=c (NK 0 o):=fun o=>by unfold sW;rw[if_pos (yX m),oJ m]
 subst aq;have A:∀k r',rt k=x->EH h2 k=some r'->∃E,EH (pP (kd r.ty P s 0 f)) (Ld x k)=some E∧sW blk c x k=c (Ld x k):=by
  intro k r' e i;have hq:sW blk c x k=c (Ld x k):=if_pos e;rcases fT v rfl rfl m e i with⟨rfl,_⟩|⟨o,n,xs,rfl,ho,_⟩
  ·rw[zq]at hq ⊢;exact⟨_,AD,hq⟩
  ·rw[oJ m]at hq ⊢;exact⟨_,yw ho,hq⟩
 have H:∀b,Own M (EH h2) (sW blk c x) b->M' b∨A2 c (EH (pP (kd r.ty P s 0 f))) b:=by
  intro b T;rcases T with T|⟨k,r',g,e,ar,z,i⟩
  ·refine .inl ((ae b).2 ⟨.inl T,?_⟩);rintro⟨k,r',g,_,F,U,q3⟩;exact Y.notM F U (by rw[q3];exact T)
  ·by_cases aa:rt k=x
   ·obtain⟨E,F,U⟩:=A k r' aa e;exact .inr ⟨_,E,g,F,by simp_all,i⟩
   ·rw[W k aa]at e;rw[X k aa]at z;refine .inl ((ae b).2 ⟨.inr ⟨k,r',g,e,ar,z,i⟩,?_⟩);rintro⟨l,s',g',q0,F,U,q3⟩;have:=Y.inj k l r' s' g g' e F z U (i.trans q3.symm);simp_all
 refine⟨?_,H⟩;have aj:∀k r',rt k=x->EH h k=some r'->r'.fz=false:=by
  intro k r' e i;rcases fT hx hm hc m e i with⟨_,rfl⟩|⟨o,n,xs,_,_,rfl⟩<;>exact hz
 refine Y.aiq (fun k=>rt k=x) (fun _ _ h=>h) hb.os hb.tape hb.output hb.size (fun k e hn=>hb.block k e ?_) aj (fun k e=>⟨W k e,X k e⟩) ?_ ?_ ?_ ?_ ?_
 ·rintro⟨l,r',g,q0,F,U,q3⟩;grind
 ·intro k r' e i;have B:∀g,sW blk c x k=some g->w.heap.size<=g.1∨∃y s R,rt y=x∧EH h y=some s∧blk y=some R∧g.1=R.1:=by
   intro g z;obtain⟨E,F,U⟩:=A k r' e i;rcases ag g.1 ⟨_,E,g,F,by simp_all,rfl⟩ with q|⟨y,s',g',p0,p1,p2,p3⟩
   ·exact .inl q
   grind
  have ak:∀{g:Nat×Nat}{E:Row},E.mp=false->fp Z (fun b=>M' b∨A2 c (EH (pP (kd r.ty P s 0 f))) b) g E->fp Z (Own M (EH h2) (sW blk c x)) g E:=by
   intro g E au hr;unfold fp at hr ⊢;rw[au]at hr ⊢;obtain⟨I,Q,k2,k3⟩:=hr;exact⟨I,Q,k2,fun j d C=>⟨(k3 j d C).1,(k3 j d C).2.less H⟩⟩
  rcases fT v rfl rfl m e i with⟨rfl,rfl⟩|⟨o,n,xs,rfl,ho,rfl⟩
  ·refine⟨rfl,fun hn=>by have:=(Y.rows k _ (im hx hm hc m)).1 hn;exact this,?_⟩;rw[S,h0];refine⟨B R (S.trans h0),?_⟩;have p:=hR.rows 0 _ AD;rw[h0]at p;have p:fp Z (fun b=>M' b∨A2 c (EH (pP (kd r.ty P s 0 f))) b) R ⟨0,r.ty,f.mapIdx (wT 0 s),false,true,true⟩:=p;unfold fp at p ⊢;simp only at p ⊢;rcases p with⟨ks,vs,Q,_⟩|⟨_,I,k2,k3,k4⟩
   ·exfalso;simp only at Q;have hl:f.length=1:=by
     have:=congrArg List.length Q;simpa using this
    match f,hl with
    | [d],_ =>
     simp only[List.mapIdx_cons,List.mapIdx_nil,ans,and_true]at Q;have:=oO 0 s 0 d;rw[Q]at this;cases this
   ·refine .inr ⟨fun d hd =>?_,I,k2,by simpa using k3,fun j d C =>?_⟩
    ·obtain⟨j,C⟩:=anq hd;simp only[apv,am4]at C;obtain⟨d0,J,rfl⟩:=C;exact oO _ _ _ _
    ·simp only[apv,am4]at C;obtain⟨d0,J,rfl⟩:=C
     by_cases K:gD d0=true
     ·rw[mM K];have av:(f.mapIdx (wT 0 s))[j]? = some d0:=by rw[apv,J];exact congrArg some (mM K)
      exact (gE K).2.2.2 (((gE K).2.2.1 (k4 j _ av)).less H)
     ·cases d0<;>first|trivial|exact absurd rfl K
  ·refine⟨rfl,fun hn=>by have:=jM x o;have:=Y.big;omega,?_⟩;have p:=hR.rows _ _ (yw ho);rw[ai];cases z:c (NK 0 o) with
   | none=>simp_all
   | some g =>
    rw[z]at p;refine⟨B g ((ai o).trans z),ak rfl ?_⟩;obtain⟨I,Q,k2,k3⟩:=p;exact⟨I,Q,k2,k3⟩
 ·intro k l E r2 g g' e hl i ab z aC aw;obtain⟨F,p1,p2⟩:=A k E e i;obtain⟨U,p3,p4⟩:=A l r2 hl ab;have e1:=hR.inj _ _ _ _ g g' p1 p3 (by simp_all) (by simp_all) aw;rcases fT v rfl rfl m e i with⟨rfl,_⟩|⟨o,n,xs,rfl,ho,_⟩
  ·rcases fT v rfl rfl m hl ab with⟨rfl,_⟩|⟨o',n',ax,rfl,ay,_⟩
   ·rfl
   ·rw[zq,oJ m]at e1;have:=jM 0 o';omega
  ·rcases fT v rfl rfl m hl ab with⟨rfl,_⟩|⟨o',n',ax,rfl,ay,_⟩
   ·rw[zq,oJ m]at e1;have:=jM 0 o;omega
   ·rw[oJ m,oJ m]at e1;rw[(xG qY qY e1).2]
 ·intro k r' e hv i;rcases fT v rfl rfl m e i with⟨rfl,rfl⟩|⟨o,n,xs,rfl,ho,rfl⟩
  ·refine⟨⟨_,im hx hm hc m,rfl⟩,by rw[S,h0,ao],fun g z =>?_⟩;simp_all
  simp_all
 ·intro k r' g e i ad z j x' s' n C;rcases fT v rfl rfl m e i with⟨rfl,rfl⟩|⟨o,n',xs,rfl,ho,rfl⟩;rotate_left
  ·cases ad
  simp only[apv,am4]at C;obtain⟨d0,J,az⟩:=C;obtain⟨aD,rfl,rfl,rfl⟩:=vg az;rw[S]at z;obtain⟨_,u,Q,k2⟩:=hR.pha 0 _ g AD rfl z j (NK 0 j) s' n (by simp only[apv,J,Option.map_some,wT]);refine⟨⟨m,.inr rfl⟩,u,Q,fun _ _ =>?_⟩;have:=k2 _ (yw J);simp_all
 ·intro y r' j x' s' n hy i ad C al;have O:=(Y.rows y r' i).2;cases z:blk y with
  | none =>
   rw[z]at O;have O:r'.cells=[]:=O;simp_all
  | some g =>
   obtain⟨F,U⟩:=(Y.pha y r' g i ad z j x' s' n C).1;rcases U with rfl|rfl
   ·have:rt (PK+y)=PK+y:=kh (by omega);omega
   ·rw[yX F]at al;rw[D3 F]at hy;exact hy al
end
section
variable {P:Program} {T:Nat->Option Ty} {N:Nat} {M:Nat->Prop} {L:mc} {w0:World} {blk:Nat->Option (Nat×Nat)} {V:Nat->Nat->Prop} {t:Nat->D} {h:Nat->Option Row} {a:Act} {w:World} {e:Nat} {o:Oper} {Γ:Env}
def Inv.aiV(Z:Inv N M L w0 blk V t (EH h) a w){x:Nat}{r:Row}{H s q n j:Nat}{o p:List D}(O:h x=some r)(P:r.mp=true)(Q:r.cells=[.nr H s q o])(hz:r.fz=false)(A:x<PK)(hj:o[j]? = some (.nx n p))(hn:p.length=n*s) :
  Inv N M L w0 blk V t (EH (cq h x (some ⟨r.v,r.ty,[.nr H s q (o.set j (.sl false false n p))],false,r.lst,true⟩))) a w∧∀b,Own M (EH (cq h x (some ⟨r.v,r.ty,[.nr H s q (o.set j (.sl false false n p))],false,r.lst,true⟩))) blk b->Own M (EH h) blk b:=by
 have ag:j<o.length:=(anx.1 hj).1;obtain⟨g,R⟩:∃g,blk x=some g:=by
  cases R:blk x with
  | some g=>exact⟨g,rfl⟩
  | none =>
   have:=(Z.rows x _ (im O P Q A)).2;rw[R]at this;have h1:o.mapIdx (wT x s)=[]:=this;simp_all
 have hK:EH h (NK x j)=some ⟨q,H,p,false,true,false⟩:=by rw[gh O P Q A,hj,hz];rfl
 obtain⟨u,aq,ah⟩:=Z.JK O P Q A R hj;obtain⟨S,aa,ar,ai⟩:=Z.DV O P Q A R;have aj:=Z.freeze [NK x j];have ak:RP w (Own M (aW (EH h) (lJ (EH h) [NK x j])) blk) (.sl false false n p) u:=by
  have hW:=Z.weaken (V':=fun y v=>V y v∨(y=NK x j∧v=q)) (fun _ _ h =>.inl h);have al:RT w (Own M (EH h) blk) (EH h) blk (fun y v=>V y v∨(y=NK x j∧v=q)) (.buf (NK x j) q s 0 n) u:=by
   refine⟨.inr ⟨rfl,rfl⟩,fun Y au av =>?_⟩;rcases ah with⟨g1,c,N',aw,k1,k2,k3,k4,k5,k6⟩|⟨k1,k2,k3⟩
   ·grind
   simp_all
  have hl:live (EH h) (NK x j) q=some ⟨q,H,p,false,true,false⟩:=by
   unfold live;rw[hK];simp
  have ao:Am.cO (EH h) (.buf (NK x j) q s 0 n)=some (.sl false false n p,[NK x j]):=by
   simp only[Am.cO,Am.b7,Am.eS,hl,an5,aoE];rw[if_pos (by omega),<- hn,aoY];rfl
  exact hW.cO ao (hW.iA [NK x j]) al
 generalize z:cq (EH h) (NK x j) none=h1;have B:cq (aW (EH h) (lJ (EH h) [NK x j])) (NK x j) none=h1:=by
  rw[<- z];funext k
  by_cases f:k=NK x j
  ·rw[f,aA,aA]
  ·rw[aG _ _ f,aG _ _ f,Ez];simp_all
 have T:=aj.drop (NK x j);rw[B]at T;have U:∀b,Own M h1 blk b->Own M (aW (EH h) (lJ (EH h) [NK x j])) blk b:=by
  rintro b (W|⟨k,Y,X,f,C,l,I⟩)
  ·exact .inl W
  ·refine .inr ⟨k,Y,X,?_,C,l,I⟩;rw[<- B]at f
   by_cases m:k=NK x j
   ·rw[m,aA]at f;cases f
   ·rwa [aG _ _ m]at f
 have ab:h1 x=some ⟨r.v,r.ty,o.mapIdx (wT x s),r.fz,r.lst,true⟩:=by
  rw[<- z,aG _ _ (by have:=jM x j;omega)];exact im O P Q A
 have ad:∀(i:Nat) d,(o.set j (.sl false false n p))[i]? = some d->(i=j∧d=.sl false false n p)∨(i≠j∧o[i]? = some d):=by
  grind
 have hB:=T.lM (x:=x) (r:=⟨r.v,r.ty,o.mapIdx (wT x s),r.fz,r.lst,true⟩) (r0:=⟨r.v,r.ty,(o.set j (.sl false false n p)).mapIdx (wT x s),false,r.lst,true⟩) (w':=w) ab hz rfl rfl rfl rfl (am6 _) (fun _ _ _=>rfl) (by
   rw[R];refine⟨rfl,.inr ⟨fun d hd =>?_,S,aa,by simp_all,fun i d J =>?_⟩⟩
   ·obtain⟨i,J⟩:=anq hd;simp only[apv,am4]at J;obtain⟨d0,E,rfl⟩:=J;exact oO _ _ _ _
   ·simp only[apv,am4]at J;obtain⟨d0,E,rfl⟩:=J;rcases ad i d0 E with⟨rfl,rfl⟩|⟨hij,F⟩
    ·have e1:S.getD (g.2+i) undef=u:=by
      have:=bm aa (show g.2+i<S.size by omega);simp_all
     rw[e1];exact ak.less U
    ·by_cases G:gD d0=true
     ·rw[mM G];refine (gE G).2.2.2 ((ai i d0 F G).less fun b W =>?_);rcases W with W|⟨k,Y,X,f,C,l,I⟩
      ·exact .inl W
      ·refine .inr ⟨k,Y,X,?_,C,l,I⟩;rw[<- z]at f
       by_cases m:k=NK x j
       ·rw[m,aA]at f;cases f
       ·rwa [aG _ _ m]at f
     ·cases d0<;>first|trivial|exact absurd rfl G) (fun h=>by cases h) (fun _ X l i x' s' n' J=>by
   rw[R]at l;cases l;simp only[apv,am4]at J;obtain⟨d0,E,I⟩:=J;obtain⟨ax,rfl,rfl,rfl⟩:=vg I;rcases ad i _ E with⟨rfl,F⟩|⟨hij,F⟩
   ·cases F
   ·exact T.pha x _ g ab rfl R i (NK x i) s' n' (by simp_all))
 have K:cq h1 x (some (⟨r.v,r.ty,(o.set j (.sl false false n p)).mapIdx (wT x s),false,r.lst,true⟩:Row))=EH (cq h x (some ⟨r.v,r.ty,[.nr H s q (o.set j (.sl false false n p))],false,r.lst,true⟩)):=by
  have ae:cq h x (some (⟨r.v,r.ty,[.nr H s q (o.set j (.sl false false n p))],false,r.lst,true⟩:Row)) x=some ⟨r.v,r.ty,[.nr H s q (o.set j (.sl false false n p))],false,r.lst,true⟩:=aA _ _ _;funext k
  by_cases hkx:rt k=x
  rotate_left
  ·rw[aG _ _ (fun e=>hkx (by rw[e,kh (by omega)])),<- z,aG _ _ (fun e=>hkx (by rw[e,yX A]))];exact fD (by rw[aG _ _ hkx])
  rcases s5 hkx with rfl|⟨i,rfl⟩
  ·rw[aA,im ae rfl rfl A]
  ·rw[aG _ _ (by have:=jM x i;omega),gh ae rfl rfl A,<- z]
   by_cases hij:i=j
   ·rw[hij,aA,List.getElem?_set_self ag];rfl
   ·rw[aG _ _ (fun e=>hij (xG A A e).2),gh O P Q A,List.getElem?_set_ne (fun e=>hij e.symm),hz]
 rw[K]at hB;refine⟨hB,?_⟩;rintro b (W|⟨k,Y,X,f,C,l,I⟩)
 ·exact .inl W
 ·rw[<- K]at f
  by_cases hkx:k=x
  ·subst hkx;exact .inr ⟨k,_,X,im O P Q A,hz,l,I⟩
  ·rw[aG _ _ hkx,<- z]at f
   by_cases m:k=NK x j
   ·rw[m,aA]at f;cases f
   ·rw[aG _ _ m]at f;exact .inr ⟨k,Y,X,f,C,l,I⟩
end
def wR(s:Nat):D->Bool
 | .nx n xs=>xs.length==n*s
 | d=>gD d
def pQ(k o:Nat)(a:List D):List D:=a.mapIdx fun i d=>if o<=i∧i<o+k then C8 d else d
section
variable {P:Program} {T:Nat->Option Ty} {N:Nat} {M:Nat->Prop} {L:mc} {w0:World} {blk:Nat->Option (Nat×Nat)} {V:Nat->Nat->Prop} {t:Nat->D} {h:Nat->Option Row} {a:Act} {w:World} {e:Nat} {o:Oper} {Γ:Env}
def OM(o:Nat)(a:List D):pQ 0 o a=a:=by
 unfold pQ;apply aoZ;grind
def wq(k o:Nat)(a:List D)(i:Nat):(pQ k o a)[i]? = (a[i]?).map fun d=>if o<=i∧i<o+k then C8 d else d:=by
 unfold pQ;simp_all
def Inv.agD(H:Inv N M L w0 blk V t (EH h) a w){x:Nat}{r:Row}{p s q o:Nat}{c:List D}(A:h x=some r)(I:r.mp=true)(J:r.cells=[.nr p s q c])(K:r.fz=false)(B:x<PK):∀k:Nat,((c.drop o).take k).all (wR s)=true ->
  Inv N M L w0 blk V t (EH (cq h x (some ⟨r.v,r.ty,[.nr p s q (pQ k o c)],false,r.lst,true⟩))) a w∧∀b,Own M (EH (cq h x (some ⟨r.v,r.ty,[.nr p s q (pQ k o c)],false,r.lst,true⟩))) blk b->Own M (EH h) blk b
 | 0,_=>by
  have:cq h x (some (⟨r.v,r.ty,[.nr p s q (pQ 0 o c)],false,r.lst,true⟩:Row))=h:=by
   funext k
   by_cases C:k=x
   ·rw[C,aA,OM,A];cases r;simp_all
   ·rw[aG _ _ C]
  simp_all
 | k+1,l=>by
  have j:((c.drop o).take k).all (wR s)=true:=by
   grind
  obtain⟨O,R⟩:=H.agD A I J K B k j;have v:(∀n g,c[o+k]?≠some (.nx n g))->pQ (k+1) o c=pQ k o c:=by
   intro S;apply aoZ;intro i;rw[wq,wq];cases P:c[i]? with
   | none=>rfl
   | some d =>
    simp only[Option.map_some,anf]
    by_cases hik:i=o+k
    ·subst hik;rw[if_pos (by omega),if_neg (by omega)];cases d<;>first|rfl|simp_all
    grind
  by_cases f:∃n g,c[o+k]? = some (.nx n g)
  rotate_left
  ·simp_all
  obtain⟨n,g,f⟩:=f;have m:g.length=n*s:=by
   have:=anh.1 l (.nx n g) (anv (i:=k) (by simp_all));simpa [wR] using this
  have E:pQ (k+1) o c=(pQ k o c).set (o+k) (.sl false false n g):=by
   have y:=(anx.1 f).1;apply aoZ;intro i;rw[wq]
   by_cases hik:i=o+k
   ·subst hik;rw[List.getElem?_set_self (by simpa [pQ] using y),f];simp only[Option.map_some];rw[if_pos (by omega)];rfl
   ·rw[List.getElem?_set_ne (fun e=>hik e.symm),wq];grind
  have Q:(pQ k o c)[o+k]? = some (.nx n g):=by
   rw[wq,f];simp_all
  obtain⟨T,U⟩:=O.aiV (x:=x) (aA _ _ _) rfl rfl rfl B Q m;have F:∀(G z:Option Row),cq (cq h x G) x z=cq h x z:=by
   intro G z;funext i
   by_cases u:i=x
   ·rw[u,aA,aA]
   ·rw[aG _ _ u,aG _ _ u,aG _ _ u]
  simp_all
def O2(x:Nat)(r:Row)(c s o k:Nat):Option Nat->Option (D×List D)->Option cI
 | some b,some (d,a)=>if ((a.drop o).take k).all (wR s)=true then some ⟨d,[(x,some ⟨r.v,r.ty,[.nr c s b (pQ k o a)],false,r.lst,true⟩)]⟩ else none
 | _,_=>none
def H8(e x:Nat)(r:Row)(a s b:Nat)(c:List D)(o:Nat):Option (Nat×(Nat->Nat->Nat->Nat->List D->List D->Option (D×List D)))->Option (List D×List Nat)->Option cI
 | some p,some (am1,[])=>O2 x r a s o p.1 (bump b e) (p.2 r.ty a s o c am1)
 | _,_=>none
def wY(Γ:Env)(e:Nat)(h:Nat->Option Row)(g:Nat):List D->Option cI
 | .ptr x v o::rest =>
  match jB h x v with
  | some (r,ty,s,nv,cs)=>H8 e x r ty s nv cs o (Γ.nx.lnd g) (cc (EH h) rest)
  | none=>none
 | _=>none
def xR{g:Nat}{c:List D}{E:cI}(b:wY Γ e h g c=some E):∃x v o a r k s l m p f j d i,c=.ptr x v o::a∧jB h x v=some (r,k,s,l,m)∧Γ.nx.lnd g=some p∧cc (EH h) a=some (f,[])∧bump l e=some j∧p.2 r.ty k s o m f=some (d,i) ∧
  ((i.drop o).take p.1).all (wR s)=true∧E=⟨d,[(x,some ⟨r.v,r.ty,[.nr k s j (pQ p.1 o i)],false,r.lst,true⟩)]⟩:=by
 unfold wY at b;split at b<;>try (cases b;done)
 rename_i x v o a;split at b<;>try (cases b;done)
 rename_i r k s l m q;unfold H8 at b;split at b<;>try (cases b;done)
 rename_i p f t n;unfold O2 at b;grind
def adb(hΓ:bN P Γ)(hI:Inv N M L w0 blk V t (EH h) a w)(R:agd V h e){g:Nat}{dst:Option Nat}{m:List D}{c:Array Value}{E:cI}(hE:wY Γ e h g m=some E)(F:c.size=m.length)
  (hr:∀(j:Nat) d,m[j]? = some d->RT w (Own M (EH h) blk) (EH h) blk V d (c.getD j undef)):fB P g∧Calls P g c w fun e' w'=>∃v,e'=.returned v∧l7 N M L w0 V t h a e dst E v w':=by
 obtain⟨x,v,o,z,r,S,s,nv,T,p,U,W,d,aj,rfl,hl,hp,X,hb,hs,G,rfl⟩:=xR hE;obtain⟨A,hv,Y,B,f,C⟩:=kv hl;obtain⟨Z,n⟩:=hΓ.lnd g p hp;refine⟨Z,?_⟩;have h0:=hr 0 _ rfl;have aa:=im A B C f;obtain⟨g0,H,ab⟩:=h0.2 _ aa hv;have ad:c = #[.pointer (some ⟨g0.1,g0.2+o,none⟩)]++c.extract 1 c.size:=by
  have h1:0<c.size:=by rw[F];simp
  rw[<- ab];apply aoc
  ·simp;omega
  ·intro i h1 h2;cases i with
   | zero=>simp_all
   | succ i=>grind
 have I:(c.extract 1 c.size).size=z.length:=by simp at F ⊢;omega
 have ae:∀(j:Nat) d,z[j]? = some d->RT w (Own M (EH h) blk) (EH h) blk V d ((c.extract 1 c.size).getD j undef):=by
  intro j d hj;have:=hr (j+1) d (by simpa using hj);have e1:(c.extract 1 c.size).getD j undef=c.getD (j+1) undef:=by
   simp only[ana];grind
  rw[e1];exact this
 obtain⟨M',q⟩:∃M':Nat->Prop,∀b,M' b↔Own M (EH h) blk b∧¬InX blk h x b:=⟨_,fun _=>Iff.rfl⟩;have hInX:∀b,InX blk h x b->Own M (EH h) blk b:=by
  rintro b ⟨k,r',g',q0,q1,q2,q3⟩;refine .inr ⟨k,r',g',q1,?_,q2,q3⟩;rcases fT A B C f q0 q1 with⟨_,rfl⟩|⟨_,_,_,_,_,rfl⟩<;>exact Y
 have y:=OR (blk:=blk) A B C f;have hQ:∀b,(M' b∨A2 (vt blk x) (EH (pP (kd r.ty S s 0 T))) b)->Own M (EH h) blk b:=fun b hb=>hb.elim (fun hb=>((q b).1 hb).1) (fun hb=>hInX b ((y b).1 hb));have l:=hI.HU X ⟨fun b h=>h,fun x A=>by cases A⟩ I ae;have hA:C9 w (fun b=>M' b∨A2 (vt blk x) (EH (pP (kd r.ty S s 0 T))) b) U (c.extract 1 c.size):=⟨l.1,fun j d hj=>(l.2 j d hj).less hQ,fun b hb=>(l.tab b hb).less hQ⟩;rw[ad];refine (n _ _ _ _ _ _ _ _ hs w M' (vt blk x) _ _ g0 _ rfl rfl (fun b hb=>hI.CS ((q b).1 hb).1) (fun b hb ag=>((q b).1 ag).2 ((y b).1 hb)) (by rw[vt,wQ];exact H) (hI.ai0 A B C Y f hQ) hA).mono fun e' w' hg =>?_;obtain⟨u,J,he,hbey,q0,ah,K,qR,ai⟩:=hg;refine⟨u,he,sW blk J x,?_⟩;obtain⟨k1,k2⟩:=hI.back A B C Y f (R x r S s nv T W A B C f hb) H rfl q ⟨hbey.os,hbey.tape,hbey.output,hbey.size,fun k hk hn=>hbey.block k hk fun hh=>hn ((y k).1 hh)⟩ q0 ah (fun b hb=>(K b hb).imp id fun hh=>(y b).1 hh) qR;obtain⟨k3,k4⟩:=k1.agD (x:=x) (o:=o) (aA _ _ _) rfl rfl rfl f p.1 G;have O:∀(r1 r2:Option Row),cq (cq h x r1) x r2=cq h x r2:=by
  intro r1 r2;funext i
  by_cases Q:i=x
  ·rw[Q,aA,aA]
  ·rw[aG _ _ Q,aG _ _ Q,aG _ _ Q]
 rw[O]at k3 k4;exact⟨k3.weaken fun _ _ h =>.inl h,cd (ai.less fun b hb=>k2 b (k4 b hb))⟩
end
def Vx:D->D->Option D
 | .nx _ _,.sl true true 0 []=>some (.nx 0 [])
 | .nx _ _,_=>none
 | _,d=>if gD d=true then some (canon d) else none
def xr:List D->List D->Option (List D)
 | [],[]=>some []
 | c::a,x::b =>
  match Vx c x,xr a b with
  | some y,some d=>some (y::d)
  | _,_=>none
 | _,_=>none
def stZ(x:Nat)(r:Row)(b s:Nat):Option Nat->Option (List D)->Option cI
 | some a,some cs'=>some ⟨.und,[(x,some ⟨r.v,r.ty,[.nr b s a cs'],false,r.lst,true⟩)]⟩
 | _,_=>none
def Xm(n e x:Nat)(r:Row)(b s c:Nat)(d:List D):D->Option cI
 | .agg a=>if a.length=n then stZ x r b s (bump c e) (xr d a) else none
 | _=>none
def uI(τ:Ty)(e:Nat)(h:Nat->Option Row)(p d:D):Option cI :=
 match p with
 | .ptr x v o =>
  match jB h x v with
  | some (r,b,s,c,a)=>if r.lst=false∧o=0∧a.length=τ.size then Xm τ.size e x r b s c a d else none
  | none=>none
 | _=>none
def WH(x:Nat)(r:Row)(a s b:Nat)(c:List D):Option D->Option cI
 | some d=>some ⟨d,[(x,some ⟨r.v,r.ty,[.nr a s b c],false,r.lst,true⟩)]⟩
 | none=>none
def uE(τ:Ty)(h:Nat->Option Row):D->Option cI
 | .ptr x v o =>
  match jB h x v with
  | some (r,b,s,c,a)=>if r.lst=false∧o=0∧a.length=τ.size∧1<τ.size∧a.all (wR s)=true then WH x r b s c (pQ τ.size 0 a) (mE τ (a.map C8)) else none
  | none=>none
 | _=>none
def orE:Option cI->Option cI->Option cI
 | some E,_=>some E
 | none,y=>y
def zM(τ:Ty)(h:Nat->Option Row)(p:D):Option cI:=orE (uE τ h p) (uF τ h p)
def zO(τ:Ty)(e:Nat)(h:Nat->Option Row)(p d:D):Option cI:=orE (uI τ e h p d) (rq τ e h p d)
def Vy:∀{a xs ys:List D},xr a xs=some ys->ys.length=a.length∧xs.length=a.length∧∀(j:Nat) c x,a[j]? = some c->xs[j]? = some x->∃y,ys[j]? = some y∧Vx c x=some y
 | [],[],ys,h=>by grind[xr,Option.some.injEq]
 | c::a,x::xs,ys,h=>by
  simp only[xr]at h;split at h
  ·rename_i y b e d;simp only[anf]at h;subst h;obtain⟨f,g,i⟩:=Vy d;grind
  ·cases h
 | [],x::xs,ys,h=>by simp[xr]at h
 | c::a,[],ys,h=>by simp[xr]at h
def K4{c x y:D}(h:Vx c x=some y):(x=.sl true true 0 []∧y=.nx 0 [])∨(gD x=true∧y=canon x):=by
 unfold Vx at h;grind
section
variable {P:Program} {T:Nat->Option Ty} {N:Nat} {M:Nat->Prop} {L:mc} {w0:World} {blk:Nat->Option (Nat×Nat)} {V:Nat->Nat->Prop} {t:Nat->D} {h:Nat->Option Row} {a:Act} {w:World} {e:Nat} {o:Oper} {Γ:Env}
def adH(x:Nat):Ho (EH h) (fun k=>if rt k=x∧k≠x then none else EH h k):=by
 intro k b a;simp only at a;split at a
 ·cases a
 ·exact⟨b,a,.refl _⟩
open Classical in
def adF(hT:km P T)(hI:Inv N M L w0 blk V t (EH h) a w)(ax:agd V h e){ty:Nat}{p x:Operand}{τ:Ty}{E:cI}(ho:o.op=.store ty p x)(hτ:T ty=some τ)(B:uI τ e h (ev t p) (ev t x)=some E):fC P o a w (l7 N M L w0 V t h a e o.dst E):=by
 have hp:=hI.ev p;have hq:=hI.ev x;have aL:=hI.big;have aN:=gr;generalize ev t p=pd at *;generalize ev t x=d at *;unfold uI at B;split at B<;>try (cases B;done)
 rename_i y v c0;split at B<;>try (cases B;done)
 rename_i r I s nv cs hl;obtain⟨hx,hv,hz,hm,C,hc⟩:=kv hl;have ai:=im hx hm hc C;obtain⟨g,hg,aj⟩:=hp.2 _ ai hv;split at B<;>try (cases B;done)
 rename_i ab;obtain⟨_,rfl,aO⟩:=ab;unfold Xm at B;split at B<;>try (cases B;done)
 rename_i n;split at B<;>try (cases B;done)
 rename_i aP;unfold stZ at B;split at B<;>try (cases B;done)
 rename_i J F hb ay;simp only[anf]at B;subst B;obtain⟨z1,z2,z3⟩:=Vy ay;have ak:RP w (Own M (EH h) blk) (.agg n) (a.eval x):=hq;obtain⟨f,az,aQ,al⟩:∃f:List Value,a.eval x=.agg f.toArray∧f.length=n.length∧∀j x,n[j]? = some x->RP w (Own M (EH h) blk) x (f.getD j undef):=by
  generalize a.eval x=u at ak;cases ak with
  | agg n f h1 h2 h3=>simp_all
 have aB:∀(j:Nat) x,n[j]? = some x->gD x=true:=by
  intro j x m;have R:=(anx.1 m).1;obtain⟨y',_,k2⟩:=z3 j _ x (anj (by omega)) m;rcases K4 k2 with⟨rfl,_⟩|⟨k3,_⟩
  ·rfl
  ·exact k3
 have ao:∀u∈f,u.oneCell'=true:=by
  intro u hu;obtain⟨j,m⟩:=anq hu;have R:=(anx.1 m).1;have K:=anj (l:=n) (i:=j) (by omega);have:=al j _ K;have U:f.getD j undef=u:=by simp_all
  rw[U]at this;exact this.tL (gE (aB j _ K)).1
 obtain⟨z,k1,k2,k3⟩:=hI.DV hx hm hc C hg;have X:=run_storeCells_at P g.1 (g.2+0) r.ty f 0 z w k1 (by omega) ao;rw[anE]at X;have aq:(z.toList.take g.2++f++z.toList.drop (g.2+f.length)).toArray.size=z.size:=by simp;omega
 have Y:∀j,j<cs.length->(z.toList.take g.2++f++z.toList.drop (g.2+f.length)).toArray.getD (g.2+j) undef=f.getD j undef:=by
  intro j m;have:=wk z f g.2 (g.2+j) (by omega);grind
 generalize aR:(z.toList.take g.2++f++z.toList.drop (g.2+f.length)).toArray=arr' at X aq Y;obtain⟨H,aC,hheap⟩:=D6 (g:=g) (arr':=arr') k1;have ar:Own M (EH h) blk g.1:=.inr ⟨y,_,g,ai,hz,hg,rfl⟩;have hK:∀o,NK y o≠y∧2*PK<=NK y o:=fun o=>by have:=jM y o;omega
 have ad:=adH (h:=h) y;have hA:=hI.le ad;generalize aD:(fun k=>if rt k=y∧k≠y then none else EH h k)=h1 at hA ad;have aE:h1 y=some ⟨r.v,r.ty,cs.mapIdx (wT y s),r.fz,r.lst,true⟩:=by
  grind
 have au:∀o,h1 (NK y o)=none:=fun o=>by
  rw[<- aD];simp_all[if_pos,yX]
 have aM:∀k,rt k≠y->h1 k=EH h k:=fun k hk=>by
  grind
 have Z:∀(j:Nat) d,F[j]? = some d->(d=.nx 0 []∧f.getD j undef=.slice none 0 0)∨(gD d=true∧RP w (Own M (EH h) blk) d (f.getD j undef)):=by
  intro j d m;have R:=(anx.1 m).1;have K:=anj (l:=n) (i:=j) (by omega);obtain⟨y',q1,q2⟩:=z3 j _ _ (anj (by omega)) K;rw[m]at q1;cases q1;have hr:=al j _ K;rcases K4 q2 with⟨U,rfl⟩|⟨U,rfl⟩
  ·refine .inl ⟨rfl,?_⟩;rw[U]at hr;generalize f.getD j undef=u at hr;cases hr with
   | sl A c _ _ _ _ aS g1 g2 g3 g4 g5 g6 g7 g8 =>
    simp_all
  ·refine .inr ⟨?_,hr.canon⟩;generalize n[j]=q at U;cases q<;>first|rfl|cases U
 have ae:∀{d:D}{u:Value},RP w (Own M (EH h) blk) d u->RP (w.setRow g.1 arr') (Own M h1 blk) d u:=fun hr=>hr.keep fun b q1 q2=>⟨by rw[aC];exact q1,Fu ad q2,hheap b (fun e=>q2 (e ▸ ar))⟩;have hB:=hA.lM (x:=y) (r0:=⟨r.v,r.ty,F.mapIdx (wT y s),false,r.lst,true⟩) (w':=w.setRow g.1 arr') aE hz rfl rfl rfl rfl (by omega) (fun b _ hb=>hheap b (hb g hg)) (by
  rw[hg];refine⟨by simp[World.shape?,H,k1,aq],.inr ⟨fun d hd =>?_,arr',H,by simp_all,fun j d m =>?_⟩⟩
  ·grind[List.getElem?_of_mem,Option.map_eq_some_iff,oO]
  ·simp only[apv,am4]at m;obtain⟨d0,G,rfl⟩:=m;have R:=(anx.1 G).1;rw[Y j (by omega)];rcases Z j d0 G with⟨rfl,_⟩|⟨q1,q2⟩
   ·trivial
   ·rw[mM q1];exact (gE q1).2.2.2 (ae q2)) (fun hh=>by cases hh) (fun _ g' av j x' s' n' m=>by
  rw[hg]at av;cases av;simp only[apv,am4]at m;obtain⟨d0,G,he⟩:=m;obtain⟨aU,rfl,rfl,rfl⟩:=vg he;have R:=(anx.1 G).1;exact⟨⟨C,.inr rfl⟩,_,bm H (by omega),fun r1 aV=>by simp_all⟩)
 obtain⟨S,hS⟩:∃S:Nat->Prop,∀k,S k↔∃o n,k=NK y o∧F[o]? = some (.nx 0 n):=⟨_,fun _=>Iff.rfl⟩;have aa:∀(j n':Nat)(n:List D),F[j]? = some (.nx n' n)->n'=0∧n=[]∧f.getD j undef=.slice none 0 0:=by
  intro j n' n m;rcases Z j _ m with⟨U,e2⟩|⟨U,_⟩
  ·simp_all
  ·cases U
 have ag:cq h y (some (⟨r.v,r.ty,[.nr I s J F],false,r.lst,true⟩:Row)) y=some ⟨r.v,r.ty,[.nr I s J F],false,r.lst,true⟩:=aA _ _ _;have hC:=hB.addEmpty S I J (h':=EH (cq h y (some ⟨r.v,r.ty,[.nr I s J F],false,r.lst,true⟩))) (blk':=fun k=>if S k then none else blk k) (fun k hk=>by
   obtain⟨Q,n,rfl,W⟩:=(hS k).1 hk;have:=hK Q;exact⟨by omega,by omega,ax y r I s nv cs J hx hm hc C hb Q,by rw[aG _ _ (hK Q).1,au]⟩) (fun k hk=>by
   refine⟨?_,by rw[if_pos hk]⟩;obtain⟨Q,n,rfl,W⟩:=(hS k).1 hk;rw[gh ag rfl rfl C,W];obtain⟨_,rfl,_⟩:=aa Q 0 n W;rfl) (fun k hk=>by
   refine⟨?_,by rw[if_neg hk]⟩
   by_cases aF:rt k=y
   ·rcases s5 aF with rfl|⟨Q,rfl⟩
    ·rw[aA,im ag rfl rfl C]
    ·rw[aG _ _ (hK Q).1,au,gh ag rfl rfl C];cases aW:F[Q]? with
     | none=>rfl
     | some d0 =>
      cases d0 with
      | nx n' n =>
       grind
      | _=>rfl
   grind[aG,kh,fD]) (fun y1 r1 g1 hy aH ah j x' s' n' m hs=>by
   obtain⟨Q,n,rfl,W⟩:=(hS _).1 hs;obtain⟨⟨p1,p2⟩,u,p3,_⟩:=hB.pha y1 r1 g1 hy aH ah j _ s' n' m;rcases p2 with p2|p2
   ·grind
   obtain⟨rfl,rfl⟩:=xG C p1 p2;rw[aA]at hy;rw[hg]at ah;cases hy;cases ah;simp only[apv,am4]at m;obtain⟨d0,G,he⟩:=m;obtain⟨aI,rfl,_,rfl⟩:=vg he;obtain⟨aJ,_,aX⟩:=aa Q n' aI G;have aY:=(anx.1 G).1;refine⟨_,bm H (by omega),aJ,none,?_⟩;grind)
 refine .inr (.inl ⟨w.setRow g.1 arr',?_,fun k=>if S k then none else blk k,?_,trivial⟩)
 ·have aw:(a.eval x).cells.toList=f:=by rw[az];rfl
  have aK:(a.eval x).cells.size=τ.size:=by grind
  have O:(storeCells ⟨g.1,g.2+0,none⟩ (a.eval x).cells.toList 0).run P w=.ok () (w.setRow g.1 arr'):=by grind
  rw[anE]at O aj;simp[execOp,ho,Instr.storeAt,Instr.sureAddr,aj,storeVar,run_sizeOf (hT ty τ hτ),aK,O]
 ·exact hC.weaken fun _ _ h =>.inl h
open Classical in
def adB(hT:km P T)(hI:Inv N M L w0 blk V t (EH h) a w){l d J s f:Nat}{τ:Ty}{E:cI}(ho:o.op=.alloc l)(hd:o.dst=some d)(hV:lE N V d e)(al:∀o,¬V (NK d o) (4*e+2))(hτ:T l=some τ)
  (X:mkA τ l e d J s f=some E):fC P o a w (l7 N M L w0 V t h a e o.dst E):=by
 have ak:=hI.big;have ao:=gr;unfold mkA at X;split at X<;>try (cases X;done)
 rename_i K;obtain⟨c4,c5,c6,c,c8⟩:=K;simp only[anf]at X;subst X;obtain⟨z,aa,ab⟩:=lZ (hT l τ hτ) w;have aq:(τ.zero.map sf).length=τ.size:=by simp_all
 have hf:f<τ.size:=by
  rw[apu]at c8;rcases anL f τ.size with Y|ar
  ·exact Y
  ·rw[List.getElem?_eq_none (by omega)]at c8;cases c8
 have Z:(τ.zero.map sf)[f]? = some (.sl true true 0 []):=by
  grind[aeT,List.head?_drop]
 have ad:(qD τ f).length=τ.size:=by
  grind[qD,mJ]
 have n:∀(m:Nat)(x:D),(qD τ f)[m]? = some x->(m=f∧x=.nx 0 [])∨(m≠f∧∃y,(τ.zero.map sf)[m]? = some y∧x=canon y):=by
  grind[qD,iB,jV,Option.map_eq_some_iff]
 obtain⟨p,O⟩:∃p:Array Value,p=τ.zero.toArray:=⟨_,rfl⟩;have au:p.size=τ.size:=by simp_all
 have G:∀(M':Nat->Prop)(w':World)(j:Nat)(x:D),(qD τ f)[j]? = some x->gD x=true->RP w' M' x (p.getD j undef):=by
  intro M' w' j x i ae;rw[O];rcases n _ x i with⟨_,rfl⟩|⟨_,y,h1,rfl⟩
  ·cases ae
  ·exact (vo (w:=w') (M:=M') τ.zero (anh.2 fun y Q=>(gE (anh.1 c5 y Q)).1) _ y h1).2.canon
 have H:∀(j:Nat)(n':Nat)(q:List D),(qD τ f)[j]? = some (.nx n' q)->n'=0∧q=[]∧p.getD j undef=.slice none 0 0:=by
  intro j n' q i;rcases n _ _ i with⟨hm,A⟩|⟨_,y,h1,A⟩
  ·simp only[D.nx.injEq]at A;refine⟨A.1,A.2,?_⟩;rw[O,hm];rw[am3,am4]at Z;obtain⟨v,v1,v2⟩:=Z;simp only[ana,List.getElem?_toArray,v1,Option.getD_some];exact Zv v2
  ·have:=anh.1 c5 y (anv h1);cases y<;>first|(cases A;done)|(cases this;done)
 generalize qD τ f=cs at ad n G H;have hA:=hI.le (Dv (h:=h) d c);have hold:∀b,b<w.heap.size->(w.alloc (.cells p l)).heap[b]? = w.heap[b]?:=fun b hb=>Below.heap_alloc w _ b hb;have B:=(Below.refl w.heap.size w).alloc (am6 _) (.cells p l);have I:=heap_alloc_new w (.cells p l);have ag:∀o,EH (cq h d none) (NK d o)=none:=fun o=>by rw[wU c,aA];rfl
 have ah:∀o,NK d o≠d:=fun o=>by have:=jM d o;omega
 have hB:=hA.HS (w':=w.alloc (.cells p l)) (h1:=EH (cq h d none)) (old:=none) (d:=d) (e:=e) (r0:=⟨e,l,cs.mapIdx (wT d s),false,false,true⟩) (go:=some (w.heap.size,0)) B.os B.tape B.output B.size (fun k R _=>hold k R) (fun y Q=>by cases Q) rfl hV
  ⟨.inl (am6 _),.inr ⟨fun x hx=>by
   grind[List.getElem?_of_mem,Option.map_eq_some_iff,oO],p,I,by grind,fun j x i=>by
   simp only[apv,am4]at i;obtain⟨d0,C,rfl⟩:=i;rw[an5]
   by_cases F:gD d0=true
   ·rw[mM F];exact (gE F).2.2.2 (G _ _ j d0 C F)
   ·cases d0<;>first|trivial|exact absurd rfl F⟩⟩ rfl rfl (fun _ g hg j x s' n' i=>by
   cases hg;simp only[apv,am4]at i;obtain⟨d0,C,A⟩:=i;obtain⟨q,rfl,rfl,rfl⟩:=vg A;have Y:=(anx.1 C).1;refine⟨⟨c,.inr rfl⟩,_,bm I (by omega),fun r hr =>?_⟩;grind[aG])
 obtain⟨S,hS⟩:∃S:Nat->Prop,∀k,S k↔∃o q,k=NK d o∧cs[o]? = some (.nx 0 q):=⟨_,fun _=>Iff.rfl⟩;have hC:=hB.addEmpty S J (4*e+2) (h':=EH (cq h d (some ⟨e,l,[.nr J s (4*e+2) cs],false,false,true⟩))) (blk':=fun k=>if S k then none else cq blk d (some (w.heap.size,0)) k) (fun k R=>by
   grind[jM,aG]) (fun k R=>by
   refine⟨?_,by rw[if_pos R]⟩;obtain⟨W,q,rfl,U⟩:=(hS k).1 R;rw[gh (aA _ _ _) rfl rfl c,U];obtain⟨_,rfl,_⟩:=H W 0 q U;rfl) (fun k R=>by
   refine⟨?_,by rw[if_neg R]⟩
   by_cases ai:rt k=d
   ·rcases s5 ai with rfl|⟨W,rfl⟩
    ·rw[aA,im (aA _ _ _) rfl rfl c]
    ·rw[aG _ _ (ah W),ag,gh (aA _ _ _) rfl rfl c];cases av:cs[W]? with
     | none=>rfl
     | some d0 =>
      cases d0 with
      | nx n' q =>
       grind
      | _=>rfl
   grind[aG,kh,fD]) (fun y r g Q hm hg j x s' n' i hs=>by
   obtain⟨W,q,rfl,U⟩:=(hS _).1 hs;obtain⟨⟨p1,p2⟩,u,p3,_⟩:=hB.pha y r g Q hm hg j _ s' n' i;rcases p2 with p2|p2
   ·have:=jM d W;omega
   obtain⟨rfl,rfl⟩:=xG c p1 p2;rw[aA]at Q hg;cases Q;cases hg;simp only[apv,am4]at i;obtain⟨d0,C,A⟩:=i;obtain⟨aw,rfl,_,rfl⟩:=vg A;grind[List.getElem?_eq_some_iff,bm])
 have aj:¬S d:=fun hs=>by
  grind
 refine aP (v:=.pointer (some ⟨w.heap.size,0,none⟩)) (w':=w.alloc (.cells p l)) ?_ ⟨fun k=>if S k then none else cq blk d (some (w.heap.size,0)) k,?_,?_⟩
 ·rw[O];simp[execOp,ho,Instr.alloc,aa,newVar,newRow,ab]
 ·refine hC.weaken fun x v hx =>?_;grind
 ·exact⟨.inr ⟨hd,rfl⟩,fun r hr hv=>⟨(w.heap.size,0),by simp only;rw[if_neg aj,aA],rfl⟩⟩
def ady(K:km P T)(C:Inv N M L w0 blk V t (EH h) a w){D:Nat}{p:Operand}{τ:Ty}{E:cI}(O:o.op=.load D p)(Q:T D=some τ)(b:uE τ h (ev t p)=some E):fC P o a w (l7 N M L w0 V t h a e o.dst E):=by
 have R:=C.ev p;generalize S:ev t p=q at *;unfold uE at b;split at b<;>try (cases b;done)
 rename_i x v c;split at b<;>try (cases b;done)
 rename_i r f s n i U;obtain⟨F,W,X,G,k,H⟩:=kv U;have u:=im F G H k;obtain⟨g,Y,y⟩:=R.2 _ u W;split at b<;>try (cases b;done)
 rename_i l;obtain⟨_,rfl,c1,_,Z⟩:=l;unfold WH at b;split at b<;>try (cases b;done)
 rename_i d hd;simp only[anf]at b;subst b;obtain⟨I,_⟩:=C.agD (o:=0) F G H X k τ.size (by grind);have z:cq h x (some (⟨r.v,r.ty,[.nr f s n (pQ τ.size 0 i)],false,r.lst,true⟩:Row)) x=some ⟨r.v,r.ty,[.nr f s n (pQ τ.size 0 i)],false,r.lst,true⟩:=aA _ _ _;have aa:(pQ τ.size 0 i).length=i.length:=by simp[pQ]
 have A:At w (Own M (EH (cq h x (some ⟨r.v,r.ty,[.nr f s n (pQ τ.size 0 i)],false,r.lst,true⟩))) blk) g.1 (g.2+0) (i.map C8):=by
  intro j d1 J;rw[am3,am4]at J;obtain⟨d0,m,rfl⟩:=J;have B:=anh.1 Z d0 (anv m);have ab:=(anx.1 m).1;have ad:gD (C8 d0)=true:=by
   cases d0<;>first|rfl|exact B
  have ae:(pQ τ.size 0 i)[0+j]? = some (C8 d0):=by
   rw[an5,wq,m];simp_all
  obtain⟨ag,k1,k2,k3⟩:=I.DV z rfl rfl k Y;grind[List.getElem?_eq_some_iff,gE,Nat.add_assoc,bm]
 have:=vG (e:=e) (o:=o) K I O Q y A (by simp_all) hd;exact this
end
def O1(e d:Nat):Option (Nat×Nat×Nat×Nat×Nat×List D)->Option cI
 | some (a,t,s,S,n,b)=>if d<PK then some ⟨.buf d e S 0 n,[(d,some ⟨e,a,[.nr t s (4*e+2) b],false,true,true⟩)]⟩ else none
 | none=>none
def Mm(p:List D->Option (Nat×Nat×Nat×Nat×Nat×List D))(e d:Nat):Option (List D×List Nat)->Option cI
 | some (am1,[])=>O1 e d (p am1)
 | _=>none
def Cf{p:List D->Option (Nat×Nat×Nat×Nat×Nat×List D)}{e d:Nat}{c:Option (List D×List Nat)}{E:cI}(b:Mm p e d c=some E):∃a f t s S n g,c=some (a,[])∧p a=some (f,t,s,S,n,g)∧d<PK∧E=⟨.buf d e S 0 n,[(d,some ⟨e,f,[.nr t s (4*e+2) g],false,true,true⟩)]⟩:=by
 unfold Mm at b;split at b<;>try (cases b;done)
 rename_i a;unfold O1 at b;grind
section
variable {P:Program} {T:Nat->Option Ty} {N:Nat} {M:Nat->Prop} {L:mc} {w0:World} {blk:Nat->Option (Nat×Nat)} {V:Nat->Nat->Prop} {t:Nat->D} {h:Nat->Option Row} {a:Act} {w:World} {e:Nat} {o:Oper} {Γ:Env}
def ac9(hΓ:bN P Γ)(hI:Inv N M L w0 blk V t (EH h) a w){g d:Nat}{ai:Option Nat}{p:List D->Option (Nat×Nat×Nat×Nat×Nat×List D)}{H:List D}{vs:Array Value}{E:cI}(hd:ai=some d)(hV:lE N V d e)(aF:∀o',¬V (NK d o') (4*e+2))(hp:Γ.nx.res g=some p)
  (hE:Mm p e d (cc (EH h) H)=some E) (ar:vs.size=H.length) (hr:∀(j:Nat) d,H[j]? = some d->RT w (Own M (EH h) blk) (EH h) blk V d (vs.getD j undef)):fB P g∧Calls P g vs w fun e' w'=>∃v,e'=.returned v∧l7 N M L w0 V t h a e ai E v w':=by
 obtain⟨aH,X,ti,s,S,n,I,au,hs,f,rfl⟩:=Cf hE;obtain⟨av,T⟩:=hΓ.res g p hp;refine⟨av,?_⟩;have ab:=hI.HU au ⟨fun b h=>h,fun x hx=>by cases hx⟩ ar hr;refine (T _ _ _ _ _ _ _ hs w (Own M (EH h) blk) _ vs rfl (fun b hb=>hI.CS hb) ab).mono fun e' w' r =>?_;obtain⟨u,c,m,hbel,aj,hR,hu⟩:=r;refine⟨u,m,sW blk c d,?_⟩;have hA:=hI.le (Dv (h:=h) d f);generalize ad:cq h d (some (⟨e,X,[.nr ti s (4*e+2) I],false,true,true⟩:Row))=h2;have aw:aW h [(d,some (⟨e,X,[.nr ti s (4*e+2) I],false,true,true⟩:Row))]=h2:=by rw[<- ad];rfl
 rw[aw];have A:h2 d=some ⟨e,X,[.nr ti s (4*e+2) I],false,true,true⟩:=by rw[<- ad,aA]
 have aI:∀k,rt k=d->EH (cq h d none) k=none:=fun k i=>XT (by rw[i,aA]);have Y:∀k,rt k≠d->EH h2 k=EH (cq h d none) k:=fun k i=>fD (by rw[<- ad,aG _ _ i,aG _ _ i]);have Z:∀k,rt k≠d->sW blk c d k=blk k:=fun k i=>if_neg i;have U:sW blk c d d=c 0:=by unfold sW;rw[if_pos (D3 f),zq]
 have ak:∀o,sW blk c d (NK d o)=c (NK 0 o):=fun o=>by unfold sW;rw[if_pos (yX f),oJ f]
 have B:∀k z,rt k=d->EH h2 k=some z->∃G,EH (pP (kd X ti s 0 I)) (Ld d k)=some G∧sW blk c d k=c (Ld d k):=by
  intro k z i m;have hq:sW blk c d k=c (Ld d k):=if_pos i;rcases fT A rfl rfl f i m with⟨rfl,_⟩|⟨o,n,xs,rfl,ho,_⟩
  ·rw[zq]at hq ⊢;exact⟨_,AD,hq⟩
  ·rw[oJ f]at hq ⊢;exact⟨_,yw ho,hq⟩
 have aa:∀b,Own M (EH h2) (sW blk c d) b->Own M (EH h) blk b∨A2 c (EH (pP (kd X ti s 0 I))) b:=by
  intro b ae;rcases ae with ae|⟨k,z,g,i,ax,r,m⟩
  ·exact .inl (.inl ae)
  ·by_cases W:rt k=d
   ·obtain⟨G,q1,q2⟩:=B k z W i;exact .inr ⟨_,G,g,q1,by simp_all,m⟩
   ·rw[Y k W]at i;rw[Z k W]at r;refine .inl (.inr ⟨k,z,g,?_,ax,r,m⟩);rw[<- i];exact fD (by rw[aG _ _ W])
 have al:∀{g:Nat×Nat}{G:Row},G.mp=false->fp w' (fun b=>Own M (EH h) blk b∨A2 c (EH (pP (kd X ti s 0 I))) b) g G->fp w' (Own M (EH h2) (sW blk c d)) g G:=by
  intro g G ay hr;unfold fp at hr ⊢;rw[ay]at hr ⊢;obtain⟨J,R,k2,k3⟩:=hr;exact⟨J,R,k2,fun j d F=>⟨(k3 j d F).1,(k3 j d F).2.less aa⟩⟩
 have C:∀k z,rt k=d->EH h2 k=some z->∀g,sW blk c d k=some g->w.heap.size<=g.1:=by
  intro k z i m g r;obtain⟨G,q1,q2⟩:=B k z i m;exact aj g.1 ⟨_,G,g,q1,by simp_all,rfl⟩
 have ao:Inv N M L w0 (sW blk c d) (fun y v=>V y v∨(y=d∧v=e)) t (EH h2) a w':=by
  refine hA.aiq (fun k=>rt k=d) (fun _ _ h =>.inl h) hbel.os hbel.tape hbel.output hbel.size (fun k i _=>hbel.block k i) (fun k z i m=>by simp_all) (fun k i=>⟨Y k i,Z k i⟩) ?_ ?_ ?_ ?_ ?_
  ·intro k z i m;rcases fT A rfl rfl f i m with⟨rfl,rfl⟩|⟨o,n,xs,rfl,ho,rfl⟩
   ·refine⟨rfl,fun hn =>.inr ⟨rfl,rfl⟩,?_⟩;rw[U];have q:=hR.rows 0 _ AD;cases r:c 0 with
    | none =>
     simp_all
    | some g0 =>
     rw[r]at q;have q:fp w' (fun b=>Own M (EH h) blk b∨A2 c (EH (pP (kd X ti s 0 I))) b) g0 ⟨0,X,I.mapIdx (wT 0 s),false,true,true⟩:=q;refine⟨.inl (C k _ i m g0 (U.trans r)),?_⟩;unfold fp at q ⊢;simp only at q ⊢;rcases q with⟨ks,vs,R,_⟩|⟨_,J,k2,k3,k4⟩
     ·exfalso;simp only at R;have hl:I.length=1:=by
       have:=congrArg List.length R;simpa using this
      match I,hl with
      | [d],_ =>
       simp only[List.mapIdx_cons,List.mapIdx_nil,ans,and_true]at R;have:=oO 0 s 0 d;rw[R]at this;cases this
     ·refine .inr ⟨fun d hd =>?_,J,k2,by simpa using k3,fun j d F =>?_⟩
      ·obtain⟨j,F⟩:=anq hd;simp only[apv,am4]at F;obtain⟨d0,K,rfl⟩:=F;exact oO _ _ _ _
      ·simp only[apv,am4]at F;obtain⟨d0,K,rfl⟩:=F
       by_cases O:gD d0=true
       ·rw[mM O];have az:(I.mapIdx (wT 0 s))[j]? = some d0:=by rw[apv,K];exact congrArg some (mM O)
        exact (gE O).2.2.2 (((gE O).2.2.1 (k4 j _ az)).less aa)
       ·cases d0<;>first|trivial|exact absurd rfl O
   ·refine⟨rfl,fun hn=>by have:=jM d o;have:=hI.big;omega,?_⟩;have q:=hR.rows _ _ (yw ho);rw[ak];cases r:c (NK 0 o) with
    | none=>simp_all
    | some g =>
     rw[r]at q;refine⟨.inl (C _ _ i m g ((ak o).trans r)),al rfl ?_⟩;obtain⟨J,R,k2,k3⟩:=q;exact⟨J,R,k2,k3⟩
  ·intro k l G r2 g g' i hl m ag r aJ aB;obtain⟨q1,p1,p2⟩:=B k G i m;obtain⟨q2,p3,p4⟩:=B l r2 hl ag;have e1:=hR.inj _ _ _ _ g g' p1 p3 (by simp_all) (by simp_all) aB;rcases fT A rfl rfl f i m with⟨rfl,_⟩|⟨o,n,xs,rfl,ho,_⟩
   ·rcases fT A rfl rfl f hl ag with⟨rfl,_⟩|⟨o',n',aC,rfl,aD,_⟩
    ·rfl
    ·rw[zq,oJ f]at e1;have:=jM 0 o';omega
   ·rcases fT A rfl rfl f hl ag with⟨rfl,_⟩|⟨o',n',aC,rfl,aD,_⟩
    ·rw[zq,oJ f]at e1;have:=jM 0 o;omega
    ·rw[oJ f,oJ f]at e1;rw[(xG qY qY e1).2]
  ·intro k z i hv m;rcases fT A rfl rfl f i m with⟨rfl,rfl⟩|⟨o,n,xs,rfl,ho,rfl⟩
   ·exact absurd hv hV.no
   simp_all
  ·intro k z g i m ah r j x' s' n F;rcases fT A rfl rfl f i m with⟨rfl,rfl⟩|⟨o,n',xs,rfl,ho,rfl⟩;rotate_left
   ·cases ah
   simp only[apv,am4]at F;obtain⟨d0,K,aE⟩:=F;obtain⟨aK,rfl,rfl,rfl⟩:=vg aE;rw[U]at r;obtain⟨_,u,R,k2⟩:=hR.pha 0 _ g AD rfl r j (NK 0 j) s' n (by simp only[apv,K,Option.map_some,wT]);refine⟨⟨f,.inr rfl⟩,u,R,fun _ _ =>?_⟩;have:=k2 _ (yw K);simp_all
  ·intro y z j x' s' n hy m ah F aq;have Q:=(hA.rows y z m).2;cases r:blk y with
   | none =>
    rw[r]at Q;have Q:z.cells=[]:=Q;simp_all
   | some g =>
    obtain⟨q1,q2⟩:=(hA.pha y z g m ah r j x' s' n F).1;rcases q2 with rfl|rfl
    ·have:rt (PK+y)=PK+y:=kh (by omega);omega
    ·rw[yX q1]at aq;rw[D3 q1]at hy;exact hy aq
 refine⟨ao.weaken fun x v hx =>?_,.inr ⟨hd,rfl⟩,fun z _ _ =>?_⟩
 ·grind
 ·rw[U];exact hu.2 ⟨0,0,[],false,false,false⟩ rfl rfl
def Io(s:Inv N M L w0 blk V t h a w){c:Call}{f:Operand}{g:Nat}(A:o.op=.call c)(B:c.callee=.value f)(C:ev t f=.fn g){Φ:Value->World->Prop}
  (D:∀m:Array Value,m.size=(c.args.toList.map (ev t)).length->(∀(j:Nat) d,(c.args.toList.map (ev t))[j]? = some d->RT w (Own M h blk) h blk V d (m.getD j undef))->fB P g∧Calls P g m w fun E F=>∃v,E=.returned v∧Φ v F):fC P o a w Φ:=by
 have i:=s.ev f;have b:∀(j:Nat) d,(c.args.toList.map (ev t))[j]? = some d->RT w (Own M h blk) h blk V d ((c.args.map a.eval).getD j undef):=by
  intro j d l;rw[am3]at l;cases y:c.args.toList[j]? with
  | none=>simp[y]at l
  | some x =>
   simp only[y,Option.map_some,anf]at l;subst l;have:(c.args.map a.eval).getD j undef=a.eval x:=by
    simp_all
   rw[this];exact s.ev x
 have n:(c.args.map a.eval).size=(c.args.toList.map (ev t)).length:=by simp
 rw[C]at i;have k:a.eval f=.func (.func g) #[] #[]:=by
  have p:RP w (Own M h blk) (.fn g) (a.eval f):=i;generalize a.eval f=u at *;cases p;rfl
 obtain⟨⟨z,q,e,r⟩,G⟩:=D _ n b;have H:¬z.name = "runtime.NumGoroutine":=by simpa using e
 have I:¬z.body=none:=by
  grind
 exact .inr (.inr ⟨g,#[]++c.args.map a.eval++#[],by simp[execOp,A,resolve,B,k,Deferred.ofValue,invoke,callFunc,program,Sem.run,q,H,I],by simpa using G⟩)
end
def kr(a:Operand->D):Op->Option (D×List D)
 | .call c=>match c.callee with | .value f=>some (a f,c.args.toList.map a)|_=>none
 | _=>none
def so{b:Operand->D}{d:Op}{q:D}{a:List D}(e:kr b d=some (q,a)):∃c f,d=.call c∧c.callee=.value f∧q=b f∧a=c.args.toList.map b:=by
 unfold kr at e;grind
def Gk(Γ:Env)(e:Nat)(h:Nat->Option Row):Option (D×List D)->Option cI
 | some (.fn g,args)=>wY Γ e h g args
 | _=>none
def IE(e d:Nat)(h:Nat->Option Row)(a:List D):Option (List D->Option (Nat×Nat×Nat×Nat×Nat×List D))->Option cI
 | some p=>Mm p e d (cc (EH h) a)
 | none=>none
def su(Γ:Env)(e:Nat)(h:Nat->Option Row):Option Nat->Option (D×List D)->Option cI
 | some d,some (.fn g,args)=>IE e d h args (Γ.nx.res g)
 | _,_=>none
def zN(T:Nat->Option Ty)(Γ:Env)(e:Nat)(o:Oper)(a:Operand->D)(h:Nat->Option Row):Option cI :=
 match o.op with
 | .load b p=>match T b with|some τ=>zM τ h (a p)|none=>none
 | .store b p x=>match T b with|some τ=>zO τ e h (a p) (a x)|none=>none
 | .call c=>Gk Γ e h (kr a (.call c))
 | _=>none
def or2(h:Nat->Option Row):Option cI->Option cI->Option cI
 | some ⟨v,hw⟩,_=>some ⟨v,nO h hw⟩
 | none,y=>y
def tE(T:Nat->Option Ty)(Γ:Env)(e:Nat)(o:Oper)(a:Operand->D)(h:Nat->Option Row):Option cI :=
 match jN T Γ e o a with
 | some E=>some E
 | none =>
  match su Γ e h o.dst (kr a o.op) with
  | some E=>some E
  | none=>or2 h (vr T Γ e o a (EH h)) (zN T Γ e o a h)
def dn(o:Oper)(a:Operand->D):List Nat:=(jG o a).map rt
def VE(N e:Nat)(done:List Nat)(h:Nat->Option Row)(x v:Nat):Prop:=(x<N∧(v<e∨(v=e∧x∈done))) ∨
 (2*PK<=x∧v<=4*e+3∧(x % PK∉done->v<=4*e+1)∧∀r b s a c,h (x % PK)=some r->r.mp=true->r.cells=[.nr b s a c]->v<=a)
def La(e:Nat)(done:List Nat)(h:Nat->Option Row):Prop:=∀x r a s nv b,h x=some r->r.mp=true->r.cells=[.nr a s nv b]->x<PK->nv<=4*e+3∧(x∉done->nv<=4*e+1)
def jX(e:Nat)(h h':Nat->Option Row):Prop:=∀x r' b f a c,h' x=some r'->r'.mp=true->r'.cells=[.nr b f a c]->x<PK->∃r g s d i,h x=some r∧r.mp=true∧r.cells=[.nr g s d i]∧(a=d∨bump d e=some a)
def jX.refl(e:Nat)(h:Nat->Option Row):jX e h h:=fun x r a s b c d f g _=>⟨r,a,s,b,c,d,f,g,.inl rfl⟩
def OZ{b e a:Nat}(h:bump b e=some a):b<a∧(a=4*e+1∨(b=4*e+2∧a=4*e+3)):=by
 unfold bump at h;grind
def La.step{e:Nat}{done a:List Nat}{h h':Nat->Option Row}(i:La e done h)(j:jX e h h')(y:∀x,x∈done->x∈a):La e a h':=by
 intro x k b l c d m n o g;obtain⟨r,p,s,q,t,u,v,w,f⟩:=j x k b l c d m n o g;obtain⟨z,A⟩:=i x r p s q t u v w g;rcases f with rfl|f
 ·grind
 ·obtain⟨B,C⟩:=OZ f;grind
def VE.step{N e:Nat}{done a:List Nat}{h h':Nat->Option Row}(m:jX e h h')(l:∀x,x∈done->x∈a){x v:Nat}(n:VE N e done h x v):VE N e a h' x v:=by
 rcases n with⟨b,c⟩|⟨b,c,h3,o⟩
 ·exact .inl ⟨b,c.imp id fun⟨d,f⟩=>⟨d,l x f⟩⟩
 ·refine .inr ⟨b,c,fun hn=>h3 fun h=>hn (l _ h),fun p g q i j t u w =>?_⟩;obtain⟨r,y,s,z,A,d,f,B,k⟩:=m _ p g q i j t u w (NF _);have:=o r y s z A d f B;rcases k with rfl|k
  ·exact this
  ·have:=(OZ k).1;omega
def La.akq{N e:Nat}{done:List Nat}{h:Nat->Option Row}(c:La e done h):VNr (VE N e done h) h:=by
 intro x r d s f g b i j a o;obtain⟨k,l⟩:=c x r d s f g b i j a;refine .inr ⟨jM x o,k,by rw[zn o a];exact l,fun t m u n p q v w =>?_⟩;rw[zn o a,b]at q;simp_all
def La.new{N e:Nat}{done:List Nat}{h:Nat->Option Row}(p:La e done h)(q:N<=PK):agd (VE N e done h) h e:=by
 intro x r b s c d f g i j k a o l;have m:=jM x o;have:=gr;rcases l with⟨t,_⟩|⟨_,_,_,n⟩
 ·omega
 ·have u:=n r b s c d (by rw[zn o k];exact g) i j;have v:=(OZ a).1;omega
def SA(e:Nat):∀(l:List (Nat×Option Row))(h:Nat->Option Row),jX e h (aW h (nO h l))
 | [],h =>.refl e h
 | (k,r)::l,h=>by
  intro x p d t f g u v w y;obtain⟨G,z,H,A,B,a,I,n,J⟩:=SA e l (cq h (rt k) (D2 h k r)) x p d t f g u v w y
  by_cases b:x=rt k
  rotate_left
  ·rw[aG _ _ b]at a;grind
  ·rw[b,aA]at a;unfold D2 at a;split at a
   ·exfalso;obtain⟨_,K,_⟩:=Fj (o:=0) a;unfold Lx at a;simp_all
   ·rename_i i;have C:rt k=k % PK:=by unfold rt;rw[if_neg i]
    rw[am4]at a;obtain⟨q,L,c⟩:=a;unfold Kj at c;split at c
    ·rename_i j;split at c
     ·rename_i D s E F m;subst c;simp only at n;refine⟨q,D,s,E,F,by simp_all,j,m,?_⟩;unfold KB at n;grind
     grind
    simp_all
section
variable {P:Program} {T:Nat->Option Ty} {N:Nat} {M:Nat->Prop} {L:mc} {w0:World} {blk:Nat->Option (Nat×Nat)} {t:Nat->D} {h h':Nat->Option Row} {a:Act} {w:World} {e:Nat} {o:Oper} {Γ:Env} {done:List Nat}
def jX.set{x:Nat}{r g:Row}{j s c a d k:Nat}{l f:List D}(u:h x=some r)(v:r.mp=true)(w:r.cells=[.nr j s c l])(m:g.cells=[.nr d k a f])(z:a=c∨bump c e=some a):jX e h (cq h x (some g)):=by
 intro y A n B o p i q t C
 by_cases b:y=x
 ·subst b;rw[aA]at i;grind
 ·rw[aG _ _ b]at i;grind
def jX.drop{y:Nat}(g:jX e (cq h y none) h'):jX e h h':=by
 intro x i b j c d l m n o;obtain⟨r,p,s,q,t,f,k⟩:=g x i b j c d l m n o
 by_cases a:x=y
 ·subst a;rw[aA]at f;cases f
 ·rw[aG _ _ a]at f;grind
def MU{τ:Ty}{d:D}{E:cI}(a:uF τ h d=some E):E.hw=[]:=by
 unfold uF at a;split at a<;>try (cases a;done)
 split at a<;>try (cases a;done)
 unfold PJ at a;grind
def V3{τ:Ty}{d:D}{E:cI}(a:uE τ h d=some E):jX e h (aW h E.hw):=by
 unfold uE at a;split at a<;>try (cases a;done)
 split at a<;>try (cases a;done)
 rename_i r j s k l b;obtain⟨c,m,n,f,g,i⟩:=kv b;split at a<;>try (cases a;done)
 unfold WH at a;split at a<;>try (cases a;done)
 cases a;exact jX.set c f i rfl (.inl rfl)
def V7{τ:Ty}{p d:D}{E:cI}(a:uI τ e h p d=some E):jX e h (aW h E.hw):=by
 unfold uI at a;split at a<;>try (cases a;done)
 split at a<;>try (cases a;done)
 rename_i r m s n o b;obtain⟨c,q,t,f,g,i⟩:=kv b;split at a<;>try (cases a;done)
 unfold Xm at a;split at a<;>try (cases a;done)
 split at a<;>try (cases a;done)
 unfold stZ at a;split at a<;>try (cases a;done)
 rename_i j k l _;cases a;exact jX.set c f i rfl (.inr l)
def V6{τ:Ty}{p d:D}{E:cI}(a:rq τ e h p d=some E):jX e h (aW h E.hw):=by
 unfold rq at a;split at a<;>try (cases a;done)
 rename_i l B m;split at a<;>try (cases a;done)
 rename_i r n s o t u;obtain⟨g,C,F,i,v,j⟩:=kv u;split at a<;>try (cases a;done)
 have b:∀{k:Option (List D)},Qq τ l r n s o t m k=some E->jX e h (aW h E.hw):=by
  intro k a;unfold Qq at a;split at a<;>try (cases a;done)
  split at a<;>try (cases a;done)
  cases a;exact jX.set g i j rfl (.inl rfl)
 unfold LR at a;split at a
 ·rename_i w G H I J;split at a<;>try (cases a;done)
  split at a
  ·split at a<;>try (cases a;done)
   unfold Qo at a;split at a<;>try (cases a;done)
   split at a<;>try (cases a;done)
   cases a;exact jX.set g i j rfl (.inl rfl)
  ·split at a<;>try (cases a;done)
   split at a<;>try (cases a;done)
   rename_i q c;split at a<;>try (cases a;done)
   unfold FG at a;split at a<;>try (cases a;done)
   rename_i x z;cases a;obtain⟨f,A⟩:=da c;refine jX.drop (y:=w) ?_;exact jX.set (by
    rw[aG]
    ·exact g
    ·rintro rfl;rw[g]at f;cases f;have:=kc c;simp_all) i j rfl (.inr z)
 ·exact b a
structure xE(N:Nat)(M:Nat->Prop)(L:mc)(w0:World)(blk:Nat->Option (Nat×Nat))(e:Nat)(done:List Nat)(t:Nat->D)(h:Nat->Option Row)(a:Act)(w:World):Prop where
 inv:Inv N M L w0 blk (VE N e done h) t (EH h) a w
 nv:La e done h
def HE(N:Nat)(M:Nat->Prop)(L:mc)(w0:World)(t:Nat->D)(h:Nat->Option Row)(a:Act)(e:Nat)(done:List Nat)(E:cI)(v:Value)(c:World):Prop :=
 ∃b,xE N M L w0 b e done t (aW h E.hw) a c∧RT c (Own M (EH (aW h E.hw)) b) (EH (aW h E.hw)) b (VE N e done (aW h E.hw)) E.val v
def V2(hT:km P T)(hΓ:bN P Γ)(m:xE N M L w0 blk e done t h a w)(hd:∀d:Nat,o.dst=some d->d∉done∧d<N){E:cI}(j:tE T Γ e o (ev t) h=some E):fC P o a w (HE N M L w0 t h a e (o.dst.toList++done) E):=by
 have B:=m.inv.big;have au:=gr;have hV:∀d:Nat,o.dst=some d->lE N (VE N e done h) d e:=by
  intro d al;obtain⟨R,F⟩:=hd d al;replace F:(d:Nat)<N:=F;refine⟨fun hv =>?_,F⟩;rcases hv with⟨_,hv|⟨_,hv⟩⟩|⟨hv,_⟩
  ·omega
  ·exact R hv
  ·omega
 have hP:∀x v,VE N e done h x v->x<N∨2*PK<=x:=fun x v hv=>hv.imp (fun h=>h.1) (fun h=>h.1);have C:∀x,x∈done->x∈o.dst.toList++done:=fun x S=>anl _ S;have fin:jX e h (aW h E.hw)->∀{v:Value}{y:World},l7 N M L w0 (VE N e done h) t h a e o.dst E v y->HE N M L w0 t h a e (o.dst.toList++done) E v y:=by
  intro Z v y k;obtain⟨G,H,I⟩:=k;have J:∀x n,VE N e done h x n∨(o.dst=some x∧n=e)->VE N e (o.dst.toList++done) (aW h E.hw) x n:=by
   rintro x n (hv|⟨S,rfl⟩)
   ·exact hv.step Z C
   ·exact .inl ⟨(hd x S).2,.inr ⟨rfl,ank _ (by rw[S];simp)⟩⟩
  refine⟨G,⟨H.weaken J,m.nv.step Z C⟩,I.mono ⟨fun _ H I=>⟨H,I,rfl⟩,J,fun _ _ _ r' H I=>⟨⟨r',H,I⟩,rfl,fun _ _=>rfl⟩⟩⟩
 have fin2:∀{E0:cI}{d:Nat}{r0:Row}{z s:Nat}{U:List D},o.dst=some d->E0.hw=[(d,some r0)]->r0.mp=true->r0.cells=[.nr z s (4*e+2) U]->∀{v:Value}{y:World},l7 N M L w0 (VE N e done h) t h a e o.dst E0 v y->HE N M L w0 t h a e (o.dst.toList++done) E0 v y:=by
  intro E0 d r0 z s U i K V q v y k;obtain⟨G,H,I⟩:=k;obtain⟨W,X⟩:=hd d i;have ae:aW h E0.hw=cq h d (some r0):=by rw[K];rfl
  have J:∀x n,VE N e done h x n∨(o.dst=some x∧n=e)->VE N e (o.dst.toList++done) (aW h E0.hw) x n:=by
   rintro x n (hv|⟨S,rfl⟩)
   ·rcases hv with⟨R,F⟩|⟨R,F,q3,q4⟩
    ·exact .inl ⟨R,F.imp id fun⟨p1,p2⟩=>⟨p1,C _ p2⟩⟩
    ·refine .inr ⟨R,F,fun hn=>q3 fun h=>hn (C _ h),fun r' ag s1 ah ai k1 k2 k3 =>?_⟩;rw[ae]at k1
     by_cases O:x % PK=d
     ·rw[O,aA]at k1;grind
     ·rw[aG _ _ O]at k1;grind
   ·exact .inl ⟨(hd x S).2,.inr ⟨rfl,ank _ (by rw[S];simp)⟩⟩
  refine⟨G,⟨H.weaken J,?_⟩,I.mono ⟨fun _ H I=>⟨H,I,rfl⟩,J,fun _ _ _ r' H I=>⟨⟨r',H,I⟩,rfl,fun _ _=>rfl⟩⟩⟩;intro x r' ag s1 ah ai k1 k2 k3 hp;rw[ae]at k1
  by_cases O:x=d
  ·subst O;rw[aA]at k1;simp_all
  ·rw[aG _ _ O]at k1;obtain⟨p1,p2⟩:=m.nv x r' ag s1 ah ai k1 k2 k3 hp;simp_all
 have aj:∀d:Nat,o.dst=some d->∀o',¬VE N e done h (NK d o') (4*e+2):=by
  intro d i o' hv;obtain⟨W,X⟩:=hd d i;have ao:(d:Nat)<PK:=am9 X B;rcases hv with⟨hv,_⟩|⟨_,_,hv,_⟩
  ·omega
  ·have:=hv (by rw[zn o' ao];exact W);omega
 unfold tE at j;split at j
 ·rename_i E0 b;simp only[anf]at j;subst j;unfold jN at b;split at b<;>try (cases b;done)
  rotate_left
  ·rename_i ty Q;split at b<;>try (cases b;done)
   rename_i d i;split at b<;>try (cases b;done)
   rename_i z s f hn;split at b<;>try (cases b;done)
   rename_i τ Y;obtain⟨W,X⟩:=hd d i;have k:=adB hT m.inv Q i (hV d i) (aj d i) Y b;obtain⟨r0,K,V,q⟩:∃r0:Row,E0.hw=[(d,some r0)]∧r0.mp=true∧∃cs,r0.cells=[.nr z s (4*e+2) cs]:=by
    unfold mkA at b;split at b<;>try (cases b;done)
    cases b;simp_all
   obtain⟨U,q⟩:=q;exact k.mono fun v y k=>fin2 i K V q k
  rename_i ty l c Q;split at b<;>try (cases b;done)
  rename_i d i;split at b<;>try (cases b;done)
  rename_i z s f hn;split at b<;>try (cases b;done)
  rename_i τ Y;obtain⟨W,X⟩:=hd d i;have k:=adC hT m.inv Q i (hV d i) (fun o' hv=>by
   simp_all) Y b
  obtain⟨r0,K,V,q⟩:∃r0:Row,E0.hw=[(d,some r0)]∧r0.mp=true∧∃cs,r0.cells=[.nr z s (4*e+2) cs]:=by
   unfold qK at b;split at b<;>try (cases b;done)
   split at b<;>try (cases b;done)
   split at b<;>try (cases b;done)
   cases b;simp_all
  obtain⟨U,q⟩:=q;exact k.mono fun v y k=>fin2 i K V q k
 split at j
 ·rename_i E0 u;simp only[anf]at j;subst j;unfold su at u;split at u<;>try (cases u;done)
  rename_i d g ak i aa;obtain⟨c,f,ab,ad,hq,A⟩:=so aa;unfold IE at u;split at u<;>try (cases u;done)
  rename_i p hp;obtain⟨_,z,ti,s',S',n',aq,_,_,_,av⟩:=Cf u;subst A;have k:=Io m.inv ab ad hq.symm (fun vs R F=>ac9 hΓ m.inv i (hV d i) (aj d i) hp u R F);refine k.mono fun v y k =>?_;grind
 ·unfold or2 at j;split at j
  ·rename_i v0 hw he;simp only[anf]at j;subst j;have k:=aaR hT hΓ m.inv hV hP he;exact k.mono fun v y k=>fin (SA e hw h) (k.le (Sy hw h))
  ·unfold zN at j;split at j
   ·rename_i ty p Q;split at j<;>try (cases j;done)
    rename_i τ Y;unfold zM orE at j;split at j
    ·rename_i E0 hF;simp only[anf]at j;subst j;exact (ady hT m.inv Q Y hF).mono fun v y k=>fin (V3 hF) k
    ·exact (adz hT m.inv m.nv.akq Q Y j).mono fun v y k=>fin (by rw[MU j];exact .refl e h) k
   ·rename_i ty p x Q;split at j<;>try (cases j;done)
    rename_i τ Y;unfold zO orE at j;split at j
    ·rename_i E0 hF;simp only[anf]at j;subst j;exact (adF hT m.inv (m.nv.new B) Q Y hF).mono fun v y k=>fin (V7 hF) k
    ·exact (adE hT m.inv (m.nv.new B) Q Y j).mono fun v y k=>fin (V6 j) k
   ·rename_i c Q;unfold Gk at j;split at j<;>try (cases j;done)
    rename_i g ak aa;obtain⟨c',f,ab,ad,hq,A⟩:=so aa;cases ab;subst A;refine (Io m.inv Q ad hq.symm (fun vs R F=>adb hΓ m.inv (m.nv.new B) (dst:=o.dst) j R F)).mono fun v y k=>fin ?_ k;obtain⟨x,v,o',ar,r,ty,s,nv,cs,p,aw,ax,d,aq,_,hl,_,_,hb,_,_,rfl⟩:=xR j;obtain⟨S,_,_,hm,_,hc⟩:=kv hl;exact jX.set S hm hc rfl (.inr hb)
   ·cases j
end
section
variable {T:Nat->Option Ty} {h h':Nat->Option Row} {e:Nat} {o:Oper} {Γ:Env}
def sG{x v:Nat}(a:h x=h' x):jB h x v=jB h' x v:=by simp[jB,a]
def qf{x v:Nat}{q:Row×Nat×Nat×Nat×List D}(a:jB h x v=some q):x<PK:=by
 obtain⟨r,b,s,c,d⟩:=q;exact (kv a).2.2.2.2.1
def Gq:∀(l:List (Nat×Option Row)){h h':Nat->Option Row},(∀p∈l,h (rt p.1)=h' (rt p.1))->nO h l=nO h' l
 | [],_,_,_=>rfl
 | (k,r)::l,h,h',c=>by
  have d:h (rt k)=h' (rt k):=c (k,r) (by simp);have e:D2 h k r=D2 h' k r:=by
   unfold D2;split
   ·rfl
   ·rename_i a;have:rt k=k % PK:=by unfold rt;rw[if_neg a]
    rw[<- this,d]
  unfold nO;rw[e];congr 1;refine Gq l fun p f =>?_
  by_cases b:rt p.1=rt k
  ·rw[b,aA,aA]
  ·rw[aG _ _ b,aG _ _ b];grind
def Gr:∀(l:List (Nat×Option Row)){h:Nat->Option Row},∀p∈nO h l,∃q∈l,p.1=rt q.1
 | [],_,p,a=>by simp[nO]at a
 | (k,r)::l,h,p,a=>by
  unfold nO at a;rcases anc.1 a with rfl|a
  ·simp_all
  ·obtain⟨q,b,c⟩:=Gr l p a;grind
def abU{τ:Ty}{p d:D}{E:cI}(a:rq τ e h p d=some E):∀q∈E.hw,q.1<PK∧(q.1∈nm p∨q.1∈nm d):=by
 unfold rq at a;split at a<;>try (cases a;done)
 rename_i f k g;split at a<;>try (cases a;done)
 rename_i r n s o t u;have i:=qf u;split at a<;>try (cases a;done)
 have one:∀{l:Option Row}(q:Nat×Option Row),q∈[(f,l)]->q.1<PK∧(q.1∈nm (.ptr f k g)∨q.1∈nm d):=by
  intro l q c;simp only[anr]at c;subst c;exact⟨i,.inl (by simp[nm,kF])⟩
 have b:∀{m:Option (List D)},Qq τ f r n s o t g m=some E->∀q∈E.hw,q.1<PK∧(q.1∈nm (.ptr f k g)∨q.1∈nm d):=by
  intro m a;unfold Qq at a;grind
 unfold LR at a;split at a
 ·rename_i v w x y z;split at a<;>try (cases a;done)
  split at a
  ·split at a<;>try (cases a;done)
   unfold Qo at a;grind
  ·split at a<;>try (cases a;done)
   rename_i j;split at a<;>try (cases a;done)
   split at a<;>try (cases a;done)
   unfold FG at a;split at a<;>try (cases a;done)
   cases a;intro q c;rcases anc.1 c with rfl|c
   ·exact⟨j,.inr (by simp[nm,kF])⟩
   ·exact one q c
 ·exact b a
def abi{τ:Ty}{p:D}{E:cI}(a:uE τ h p=some E):∀q∈E.hw,q.1<PK∧q.1∈nm p:=by
 unfold uE at a;split at a<;>try (cases a;done)
 rename_i e f g;split at a<;>try (cases a;done)
 rename_i r i s j k d;have b:=qf d;split at a<;>try (cases a;done)
 unfold WH at a;split at a<;>try (cases a;done)
 cases a;intro q c;simp only[anr]at c;subst c;exact⟨b,by simp[nm,kF]⟩
def abW{τ:Ty}{p d:D}{E:cI}(a:uI τ e h p d=some E):∀q∈E.hw,q.1<PK∧(q.1∈nm p∨q.1∈nm d):=by
 unfold uI at a;split at a<;>try (cases a;done)
 rename_i g i j;split at a<;>try (cases a;done)
 rename_i r k s l m f;have b:=qf f;split at a<;>try (cases a;done)
 unfold Xm at a;split at a<;>try (cases a;done)
 split at a<;>try (cases a;done)
 unfold stZ at a;split at a<;>try (cases a;done)
 cases a;intro q c;simp only[anr]at c;subst c;exact⟨b,.inl (by simp[nm,kF])⟩
def abh{τ:Ty}{d:D}(b:∀x∈nm d,x<2*PK->h x=h' x):uE τ h d=uE τ h' d:=by
 unfold uE;split
 ·rename_i x v o
  by_cases c:x<2*PK
  ·rw[sG (b x (by simp[nm,kF]) c)]
  ·have a:∀h:Nat->Option Row,jB h x v=none:=by
    intro h;cases e:jB h x v with
    | none=>rfl
    | some q=>have:=qf e;omega
   rw[a,a]
 ·rfl
def abV{τ:Ty}{p d:D}(c:∀x∈nm p,x<2*PK->h x=h' x):uI τ e h p d=uI τ e h' p d:=by
 unfold uI;split
 ·rename_i x v o
  by_cases a:x<2*PK
  ·rw[sG (c x (by simp[nm,kF]) a)]
  ·have b:∀h:Nat->Option Row,jB h x v=none:=by
    intro h;cases f:jB h x v with
    | none=>rfl
    | some q=>have:=qf f;omega
   rw[b,b]
 ·rfl
def abj{τ:Ty}{d:D}(b:∀x∈nm d,x<2*PK->h x=h' x):uF τ h d=uF τ h' d:=by
 unfold uF;split
 ·rename_i x v o
  by_cases c:x<2*PK
  ·rw[sG (b x (by simp[nm,kF]) c)]
  ·have a:∀h:Nat->Option Row,jB h x v=none:=by
    intro h;cases e:jB h x v with
    | none=>rfl
    | some q=>have:=qf e;omega
   rw[a,a]
 ·rfl
def abT{τ:Ty}{p d:D}(f:∀x∈nm p,x<2*PK->h x=h' x)(g:∀x∈nm d,x<2*PK->h x=h' x):rq τ e h p d=rq τ e h' p d:=by
 unfold rq;split
 ·rename_i x v o
  by_cases a:x<2*PK
  rotate_left
  ·have c:∀h:Nat->Option Row,jB h x v=none:=by
    intro h;cases i:jB h x v with
    | none=>rfl
    | some q=>have:=qf i;omega
   rw[c,c]
  rw[sG (f x (by simp[nm,kF]) a)];split
  ·split
   ·unfold LR;split
    ·rename_i y j k l n
     by_cases b:y<2*PK
     ·rw[dM (g y (by simp[nm,kF]) b)]
     grind
    ·rfl
   ·rfl
  ·rfl
 ·rfl
def hZ{a:Operand->D}{x:Nat}(b:x∈jG o a):rt x∈dn o a:=am5.2 ⟨x,b,rfl⟩
def sR{d:Operand->D}{y:Operand}(e:y∈o.op.operands.toList)(f:∀a b c,o.op ≠ .pick a b c)(g:∀a,o.op ≠ .move a)(h:∀a b c,o.op ≠ .makeFunc a b c){x:Nat}(i:x∈nm (d y)):x∈jG o d:=by
 unfold jG;grind
def Mp{j:Operand->D}{q:D}{a:List D}(k:kr j o.op=some (q,a))(l:∀x∈dn o j,h x=h' x):∀d∈a,∀x∈nm d,h (rt x)=h' (rt x):=by
 obtain⟨c,f,e,g,_,b⟩:=so k;subst b;intro d m x i;obtain⟨y,n,rfl⟩:=am5.1 m;exact l _ (hZ (sR (y:=y) (by simp[e,Op.operands,Call.operands,g];simp_all) (by simp[e]) (by simp[e]) (by simp[e]) i))
def Ro{g:Nat}{a:List D}(j:∀d∈a,∀x∈nm d,h (rt x)=h' (rt x)):wY Γ e h g a=wY Γ e h' g a:=by
 unfold wY;split
 ·rename_i x v c b;have f:cc (EH h) b=cc (EH h') b:=lH fun d l x i=>fD (j d (aoj _ l) x i)
  by_cases m:x<2*PK
  ·have:=j _ aoi x (by simp[nm,kF]);rw[kh m]at this;rw[sG this,f]
  ·have k:∀h:Nat->Option Row,jB h x v=none:=by
    intro h;cases n:jB h x v with
    | none=>rfl
    | some q=>have:=qf n;omega
   rw[k,k]
 ·rfl
def Sg{a:Operand->D}(i:∀x∈dn o a,h x=h' x):su Γ e h o.dst (kr a o.op)=su Γ e h' o.dst (kr a o.op):=by
 unfold su;split
 ·rename_i d g c f j;unfold IE;split
  ·rw[lH fun d f x b=>fD (Mp j i d f x b)]
  ·rfl
 ·rfl
def V5{d:Operand->D}(j:∀x∈dn o d,h x=h' x):zN T Γ e o d h=zN T Γ e o d h':=by
 unfold zN;split
 ·rename_i l p a;split
  ·have f:∀x∈nm (d p),x<2*PK->h x=h' x:=fun x b i=>by
    have:=j _ (hZ (sR (y:=p) (by simp[a,Op.operands]) (by simp[a]) (by simp[a]) (by simp[a]) b))
    rwa [kh i]at this
   unfold zM;rw[abj f,abh f]
  ·rfl
 ·rename_i l p x a;split
  ·have f:∀x∈nm (d p),x<2*PK->h x=h' x:=fun y b i=>by
    have:=j _ (hZ (sR (y:=p) (by simp[a,Op.operands]) (by simp[a]) (by simp[a]) (by simp[a]) b))
    rwa [kh i]at this
   unfold zO;rw[abT f (fun y b i=>by
    have:=j _ (hZ (sR (y:=x) (by simp[a,Op.operands]) (by simp[a]) (by simp[a]) (by simp[a]) b))
    rwa [kh i]at this),abV f]
  ·rfl
 ·rename_i c a;unfold Gk;split
  ·rename_i g k m;exact Ro (Mp (by rw[a];exact m) j)
  ·rfl
 ·rfl
theorem V0{a:Operand->D}(hx:∀x∈dn o a,h x=h' x):tE T Γ e o a h=tE T Γ e o a h':=by
 have c:vr T Γ e o a (EH h)=vr T Γ e o a (EH h'):=aaQ fun x b=>fD (hx _ (hZ b));unfold tE;rw[c,V5 hx,Sg hx];split
 ·rfl
 split
 ·rfl
 ·cases d:vr T Γ e o a (EH h') with
  | none=>rfl
  | some E =>
   simp only[or2];rw[Gq E.hw fun p f=>hx _ (hZ (MV d p f))]
def V1{k:Operand->D}{E:cI}(b:tE T Γ e o k h=some E):∀p∈E.hw,p.1∈dn o k:=by
 unfold tE at b;split at b
 ·rename_i I a;simp only[anf]at b;subst b;unfold jN at a;split at a<;>try (cases a;done)
  rotate_left
  ·rename_i H i;split at a<;>try (cases a;done)
   rename_i d t;split at a<;>try (cases a;done)
   split at a<;>try (cases a;done)
   unfold mkA at a;split at a<;>try (cases a;done)
   rename_i u;cases a;intro p m;simp only[anr]at m;subst m;have B:d∈jG o k:=by
    unfold jG;simp_all
   have:=hZ B
   rwa [kh (by omega)]at this
  rename_i H l c i;split at a<;>try (cases a;done)
  rename_i d t;split at a<;>try (cases a;done)
  split at a<;>try (cases a;done)
  unfold qK at a;split at a<;>try (cases a;done)
  split at a<;>try (cases a;done)
  split at a<;>try (cases a;done)
  rename_i u;cases a;intro p m;simp only[anr]at m;subst m;have B:d∈jG o k:=by
   unfold jG;simp_all
  have:=hZ B
  rwa [kh (by omega)]at this
 split at b
 ·rename_i I j;simp only[anf]at b;subst b;unfold su at j;split at j<;>try (cases j;done)
  rename_i d g C t w;obtain⟨c,f,F,G,n,z⟩:=so w;unfold IE at j;split at j<;>try (cases j;done)
  obtain⟨_,_,_,_,_,_,_,_,_,O,rfl⟩:=Cf j;intro p m;simp only[anr]at m;subst m;have B:d∈jG o k:=by
   unfold jG;simp_all
  have:=hZ B
  rwa [kh (by omega)]at this
 ·unfold or2 at b;split at b
  ·rename_i v0 P Q;simp only[anf]at b;subst b;intro p m;obtain⟨q,R,S⟩:=Gr P p m;rw[S];exact hZ (MV Q q R)
  ·unfold zN at b;split at b
   ·rename_i H p i;split at b<;>try (cases b;done)
    unfold zM orE at b;split at b
    ·rename_i I J;simp only[anf]at b;subst b;intro q n;obtain⟨U,A⟩:=abi J q n;have:q.1∈jG o k:=sR (y:=p) (by simp[i,Op.operands]) (by simp[i]) (by simp[i]) (by simp[i]) A;have:=hZ this
     rwa [kh (by omega)]at this
    rw[MU b];simp_all
   ·rename_i H p x i;split at b<;>try (cases b;done)
    intro q n;have K:q.1<PK∧(q.1∈nm (k p)∨q.1∈nm (k x)):=by
     unfold zO orE at b;split at b
     ·rename_i I J;simp only[anf]at b;subst b;exact abW J q n
     ·exact abU b q n
    obtain⟨U,A⟩:=K;have:q.1∈jG o k:=by
     rcases A with A|A
     ·exact sR (y:=p) (by simp[i,Op.operands]) (by simp[i]) (by simp[i]) (by simp[i]) A
     ·exact sR (y:=x) (by simp[i,Op.operands]) (by simp[i]) (by simp[i]) (by simp[i]) A
    have:=hZ this
    rwa [kh (by omega)]at this
   ·rename_i c i;unfold Gk at b;split at b<;>try (cases b;done)
    rename_i g C w;obtain⟨c',f,F,G,n,z⟩:=so w;cases F;obtain⟨x,v,M,N,r,H,s,nv,cs,p,V,W,d,X,Y,Z,_,_,_,_,_,rfl⟩:=xR b;have aa:=qf Z;intro q n;simp only[anr]at n;subst n;obtain⟨y,hy,L⟩:∃y∈c.args.toList,k y=.ptr x v M:=by
     have:(.ptr x v M:D)∈c.args.toList.map k:=by grind
     simp_all
    have:x∈jG o k:=sR (y:=y) (by simp[i,Op.operands,Call.operands,G];simp_all) (by simp[i]) (by simp[i]) (by simp[i]) (by rw[L];simp[nm,kF]);have:=hZ this
    rwa [kh (by omega)]at this
   ·cases b
def agw{d a:Operand->D}(hx:∀y∈o.op.operands.toList,d y=a y):tE T Γ e o d h=tE T Γ e o a h∧dn o d=dn o a:=by
 obtain⟨k,m⟩:=aiN (T:=T) (Γ:=Γ) (e:=e) (h:=EH h) hx;have n:jN T Γ e o d=jN T Γ e o a:=by
  unfold jN;split
  ·rename_i g l c b;rw[hx l (by simp[b,Op.operands]),hx c (by simp[b,Op.operands])]
  ·rfl
  ·rfl
 have j:∀c,o.op=.call c->kr d (.call c)=kr a (.call c):=by
  intro c b;unfold kr;simp only;split
  ·rename_i f i;rw[hx f (by simp[b,Op.operands,Call.operands,i]),aom fun y q=>hx y (by simp[b,Op.operands,Call.operands,i];simp_all)]
  ·rfl
 have r:zN T Γ e o d h=zN T Γ e o a h:=by
  unfold zN;split
  ·rename_i g p b;rw[hx p (by simp[b,Op.operands])]
  ·rename_i g p x b;rw[hx p (by simp[b,Op.operands]),hx x (by simp[b,Op.operands])]
  ·simp_all
  ·rfl
 have s:kr d o.op=kr a o.op:=by
  by_cases t:∃c,o.op=.call c
  ·grind
  ·unfold kr;simp_all
 unfold tE dn;simp_all
end
end Go.Proofs.YtobnihfgnbnncaaGreat.Am
