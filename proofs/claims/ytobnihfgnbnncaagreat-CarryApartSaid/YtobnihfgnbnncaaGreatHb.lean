import Derived.Test.YtobnihfgnbnncaaGreatHa
set_option linter.unusedSimpArgs false
set_option linter.unusedVariables false
set_option linter.defProp false
noncomputable section
open Go.Proofs.Tryz
namespace Go.Proofs.YtobnihfgnbnncaaGreat.Am
open Go.RowKit
section
variable {P:Program} {T:Nat->Option Ty} {N:Nat} {M:Nat->Prop} {L:kz} {w0:World} {blk:Nat->Option (Nat×Nat)} {V:Nat->Nat->Prop} {t:Nat->D} {h:Nat->Option Row} {a:Act} {w:World} {e:Nat} {o:Oper} {Γ:Env}
def Inv.content(O:Inv N M L w0 blk V t h a w){d:D}{m s:Nat}{e:List D}{u:Value}(W:0<s)(f:content h d=some (m,e))(P:e.length=m*s)(J:RT w (Own M h blk) h blk V d u) :
  ∃(A:Option Addr)(c:Nat)(y:List Value),u=.slice A m c∧m<=c∧y.length=e.length∧(∀j x,e[j]? = some x->bu x=true∧RP w (Own M h blk) x (y.getD j undef)) ∧
   (∀B,A=some B->∀j v,y[j]? = some v->w.cell? (B.add j)=some v)∧(A=none->m=0∧c=0):=by
 cases d with
 | sl nl tight n xs =>
  simp only[Am.content,akq,Prod.mk.injEq]at f;obtain⟨rfl,rfl⟩:=f;have G:RP w (Own M h blk) (.sl nl tight n xs) u:=J;cases G with
  | sl A c nl tight n xs y h1 h2 h3 h4 h5 h6 h7 h8 =>
   refine⟨A,c,(List.range xs.length).map y,rfl,h1,by simp,fun j x i=>⟨h8 x (akG i),?_⟩,fun B l j v i =>?_,h4⟩
   ·grind
   ·obtain⟨k,C⟩:=akI.1 i;simp only[akJ,akK]at k;simp only[List.getElem_map,List.getElem_range]at C;have H:xs≠[]:=by grind
    obtain⟨b,o,p,_,_,F⟩:=h6 H;rw[l]at p;simp only[akq]at p;subst p;rw[sR,<- C];exact F j k
 | buf x v z q n =>
  simp only[Am.content]at f;split at f
  ·rename_i r I;split at f
   ·rename_i Q;simp only[akq,Prod.mk.injEq]at f;obtain⟨rfl,rfl⟩:=f;rcases O.Bq I J with⟨g,X,c,cs,R,S,K,F,T,U,Y,Z⟩|⟨R,rfl,K,A,F⟩
    ·have E:((r.cells.drop q).take (n*z)).length=n*z:=by simp;omega
     rw[E]at P;refine⟨_,c,(List.range (n*z)).map (fun j=>cs.getD (g.2+(q+j)) undef),S,K,by simp;omega,fun j x i =>?_,fun B l j v i =>?_,fun l=>by cases l⟩
     ·grind
     ·obtain⟨k,C⟩:=akI.1 i;simp only[akJ,akK]at k;simp only[List.getElem_map,List.getElem_range]at C;simp only[akq]at l;subst l;have hn:0<n:=by
       grind
      have:=(U (.inl (by omega))).1;subst this;rw[sR,<- C,akA];exact bf T (by omega)
    ·refine⟨A,0,[],F,aki _,by simp,fun j x i=>by simp at i,fun B l j v i=>by simp at i,fun _=>⟨rfl,rfl⟩⟩
   ·cases f
  ·cases f
 | _=>simp[Am.content]at f
def appended{M':Nat->Prop}{olds news:List D}{xs us:List Value}{cur:Array Value}{b:Nat}(d:xs.length=olds.length)(e:us.length=news.length)(a:(cur.toList.drop b).take (olds.length+news.length)=xs++us)
  (f:∀j x,olds[j]? = some x->bu x=true∧RP w M' x (xs.getD j undef)) (g:∀j x,news[j]? = some x->bu x=true∧RP w M' x (us.getD j undef)) (j:Nat) (x:D) (h:(olds++news)[j]? = some x) :
  bu x=true∧RP w M' x (cur.getD (b+j) undef):=by
 have c:j<olds.length+news.length:=by
  grind
 have i:cur.getD (b+j) undef=(xs++us).getD j undef:=by
  rw[<- a];simp only[akQ,akH,if_pos c,akE];simp
 grind
def ack{d:Nat->Prop}{a:List D}{b:List Value}(e:b.length=a.length)(f:∀j x,a[j]? = some x->bu x=true∧RP w d x (b.getD j undef)):∀u∈b,u.oneCell'=true:=by
 intro u g;obtain⟨j,h⟩:=akB g;have i:=(akI.1 h).1;obtain⟨k,c⟩:=f j _ (aku (by omega));have:b.getD j undef=u:=by simp_all
 rw[this]at c;exact c.sn k
def rH(t g el:Nat){τ:Ty}(d:P.underlying t=some (.slice el)){φ:Ty}(e:eG P el φ)(A B:Option Addr)(n c k:Nat)(f:n<=c):(Builtin.append_ #[t,t] g #[.slice A n c,.slice B 0 k]).run P w=.ok (.slice A n c) w:=by
 have a:(Builtin.firstCells φ.size 0 (.slice B 0 k)).run P w=.ok #[] w:=by
  cases B with
  | none=>simp[Builtin.firstCells]
  | some b=>simp[Builtin.firstCells,loadCells,loadCellsFrom]
 cases A with
 | none=>simp[Builtin.append_,run_underlying d,run_sizeOf e,Builtin.lenOf,f,a]
 | some b=>simp[Builtin.append_,run_underlying d,run_sizeOf e,Builtin.lenOf,f,a,storeCells]
def Iq(t r el:Nat){φ:Ty}(C:P.underlying t=some (.slice el))(I:eG P el φ)(D:0<φ.size)(J:φ.zero.length=φ.size)(A:Option Addr)(n a:Nat)(d:List Value)(l:d.length=n*φ.size)
  (s:∀o,A=some o->∀j u,d[j]? = some u->w.cell? (o.add j)=some u) (K:A=none->n=0∧a=0) (b:Addr) (m c:Nat) (e:List Value) (h:e.length=m*φ.size)
  (p:∀j u,e[j]? = some u->w.cell? (b.add j)=some u) (E:a<n+m) (q:n+m<=maxLen) (L:(n+m)*φ.bytes<=140737488355328) :
  ∃k f,(Builtin.append_ #[t,t] r #[.slice A n a,.slice (some b) m c]).run P w=.ok (.slice (some ⟨w.heap.size,0,none⟩) (n+m) k) (w.drew.alloc (.cells f el))∧n+m<=k∧k<=maxLen∧k*φ.size=f.size∧f.toList.take ((n+m)*φ.size)=d++e:=by
 obtain⟨S,i,z,T,U,F,v,M,G,V⟩:=I.get;have x:z.cells.size=φ.size:=by simp_all
 have g:((n+m:Nat):Int)<=9223372036854775807:=by simp only[maxLen]at q;omega
 have H:(d++e).length=(n+m)*φ.size:=by grind
 have N:=grownCap_ge w (n+m) a el;have O:grownCap w (n+m) a el<=maxLen:=grownCap_le_maxLen w (n+m) a el q;have Q:∀f:Array Value,f=d.toArray++e.toArray++Builtin.zeroCells z.cells (grownCap w (n+m) a el-(n+m))->grownCap w (n+m) a el*φ.size=f.size∧f.toList.take ((n+m)*φ.size)=d++e:=by
  intro f y;subst y;refine⟨?_,?_⟩
  ·simp only[Array.size_append,alr,size_zeroCells,x,l,h,<- Nat.add_mul];congr 1;omega
  grind
 cases A with
 | some o =>
  have R:=run_append_grow (P:=P) w t r el i z C F G o n a d (by rw[v];exact l) (s o rfl) b m c e (by rw[v];exact h) p E g (growslice_fits E (by rw[M];exact L));grind
 | none =>
  obtain⟨rfl,rfl⟩:=K rfl;have B:d=[]:=alq (by omega);subst B;have R:=run_append_nil (P:=P) w t r el i z C F G b m c e (by rw[v];exact h) p (by omega) (by simpa using g) (by grind);grind
def Ju(t r el:Nat){φ:Ty}(s:P.underlying t=some (.slice el))(v:eG P el φ)(g q n e:Nat)(a:Array Value)(x:w.heap[g]? = some (.cells a el (0,0)))(b:Addr)(m c:Nat)(d:List Value)(k:d.length=m*φ.size)
  (l:∀j u,d[j]? = some u->w.cell? (b.add j)=some u) (y:∀u∈d,u.oneCell'=true) (f:n+m<=e) (o:q+n*φ.size+d.length<=a.size) :
  (Builtin.append_ #[t,t] r #[.slice (some ⟨g,q,none⟩) n e,.slice (some b) m c]).run P w =
   .ok (.slice (some ⟨g,q,none⟩) (n+m) e) (w.setRow g (a.toList.take (q+n*φ.size)++d++a.toList.drop (q+n*φ.size+d.length)).toArray):=by
 obtain⟨C,i,z,D,E,A,p,F,G,H⟩:=v.get;have B:=run_firstCells_some (P:=P) w i.size m b m c d (by rw[p];exact k) l;have h:=run_storeCells_at P g (q+n*i.size) el d 0 a w x (by simp_all) y;simp only[Nat.add_zero]at h;rw[<- p];simp[Builtin.append_,run_underlying s,sizeOf,typeInfo,A,Builtin.lenOf,f,B,sR,h]
def CD{α:Type}(l c a:List α)(b k:Nat)(h:b+k<=l.length):((l.take (b+k)++c++a).drop b).take (k+c.length)=(l.drop b).take k++c:=by
 have d:((l.drop b).take k).length=k:=by simp;omega
 grind
def PC(hT:jL P T)(Q:Inv N M L w0 blk V t h a w){c:Call}{s x:Operand}{I d:Nat}{τ:Ty}{E:cv}(ho:o.op=.call c)(hc:c.callee=.builtin .append)(ao:c.args = #[s,x])(aC:c.argTypes = #[I,I])(hd:o.dst=some d)
  (hV:ky N V d e) (hτ:T I=some τ) (l:kR T τ h e d (ev t s) (ev t x)=some E):ff P o a w (bs N M L w0 V t h a e o.dst E):=by
 have Z:=Q.ev s;have aq:=Q.ev x;generalize ev t s=qs at *;generalize ev t x=qx at *;obtain⟨dd,aa,aD⟩:=under hT hτ;have p:∀v w',(Builtin.append_ #[I,I] o.type #[a.eval s,a.eval x]).run P w=.ok v w'->(execOp a.eval o).run P w=.ok (.value v) w':=by
  intro v w' hr;simp[execOp,ho,resolve,hc,ao,aC,invoke,builtin,hr]
 unfold kR at l;split at l
 ·rename_i el aN;rw[aN]at aD;have:=ib aD;subst this;split at l
  ·rename_i φ m news hφ J;split at l
   ·rename_i f;have grow:∀(C:Option Nat)(A:Option Addr)(n cap:Nat)(xs:List Value)(olds:List D),(∀y,C=some y->∃r,h y=some r∧r.fz=false)->a.eval s=.slice A n cap->n<=cap->(A=none->n=0∧cap=0)->xs.length=n*φ.size->olds.length=xs.length ->
      (∀ad,A=some ad->∀j u,xs[j]? = some u->w.cell? (ad.add j)=some u)->(∀(j:Nat) x,olds[j]? = some x->bu x=true∧RP w (Own M h blk) x (xs.getD j undef))->cap<n+m->n+m<=maxLen->(n+m)*φ.bytes<=140737488355328->news.length=m*φ.size ->
      E=⟨.buf d e φ.size 0 (n+m),(match C with|some y=>[(y,none)]|none=>[])++[(d,some ⟨e,el,olds++news,false,true,false⟩)]⟩->ff P o a w (bs N M L w0 V t h a e o.dst E):=by
     intro C A n cap xs olds aE hs bf hA aF ab aO ar aQ aR aS aG aT;obtain⟨B,Y,R,S,al,ae,ag,ah,au⟩:=Q.content f.1 J aG aq;cases B with
     | none =>
      grind
     | some b =>
      obtain⟨k,vs,F,g1,g2,g3,g4⟩:=Iq (P:=P) (w:=w) I o.type el aa (hT el φ hφ) f.1 f.2 A n cap xs aF aO hA b m Y R (by omega) (ah b rfl) aQ aR aS;have hb:Below w.heap.size w (w.drew.alloc (.cells vs el)):=((Below.refl _ _).drew).alloc (by simp) _;refine aP (p _ _ (by rw[hs,S];exact F)) ?_;have:=Q.fresh (old:=C) (dst:=o.dst) (e:=e) (d:=d) (ty:=el) (s:=φ.size) (n:=n+m) (cells:=olds++news) (w':=w.drew.alloc (.cells vs el)) (v:=.slice (some ⟨w.heap.size,0,none⟩) (n+m) k) hd hV (eM.vw hb) aE
       (.inl ⟨(w.heap.size,0),k,vs,rfl,.inl (aki _),by simpa using heap_alloc_new w.drew (.cells vs el),g1,g2,by simpa using g3,?_,fun j y hj =>?_⟩)
      ·subst aT;unfold bs;cases C with
       | none=>exact this
       | some y=>exact this
      ·simp only[alf,alh,ab,aF,aG,<- Nat.add_mul];rw[<- g3];exact akW _ g1
      ·have U:=appended (b:=0) (M':=Own M h blk) (w:=w) (olds:=olds) (news:=news) (xs:=xs) (us:=R) (cur:=vs) ab.symm ae (by grind) ar ag j y hj;simp only[alf]at U ⊢;refine⟨U.1,U.2.keep fun b k1 k2=>⟨akl k1 hb.size,fun av =>?_,hb.block b k1⟩⟩;rcases av with av|rfl
       ·exact k2 (A4 av)
       ·omega
    split at l
    ·rename_i nl tight n xs;split at l
     ·rename_i K;obtain⟨k1,k2,k3,k4,k5⟩:=K;split at l
      ·rename_i hm;subst hm;simp only[akq]at l;subst l;obtain⟨A,cx,R,S,al,ae,ag,ah,au⟩:=Q.content f.1 J k5 aq;obtain⟨B,Y,ai,W,G,_⟩:=Q.content (d:=.sl nl tight n xs) f.1 rfl k4 Z;refine aP (p _ _ (by rw[W,S];exact rH (τ:=τ) I o.type el aa (hT el φ hφ) B A n Y cx G)) (bs.eL Q ?_);simp_all
      ·rename_i hm;simp only[akq]at l;obtain⟨B,Y,ai,W,G,aV,aw,ax,ay⟩:=Q.content (d:=.sl nl tight n xs) f.1 rfl k4 Z;have aI:Y=n:=by
        have aJ:RP w (Own M h blk) (.sl nl tight n xs) (a.eval s):=Z;generalize a.eval s=u at *;cases aJ with
        | sl A' c' nl tight n xs bg h1 h2 h3 h4 h5 h6 h7 h8 =>
         grind
       subst aI;exact grow none B Y Y ai xs (fun y hy=>by cases hy) W G (fun h=>(ay h)) (by omega) (by omega) ax aw (by omega) k2 k3 k5 l.symm
     ·cases l
    ·rename_i y v zz q n;split at l
     ·rename_i r az;split at l
      ·rename_i K;obtain⟨k1,k2,k3,k4,k5,k6,k7⟩:=K;subst k1;simp only[akq]at l;obtain⟨aW,bh⟩:=cQ az;have aj:Am.content h (.buf y v φ.size q n)=some (n,(r.cells.drop q).take (n*φ.size)):=by simp only[Am.content,az,if_pos k4]
       have ab:((r.cells.drop q).take (n*φ.size)).length=n*φ.size:=by simp;omega
       obtain⟨B,Y,ai,W,G,aV,aw,ax,ay⟩:=Q.content f.1 aj ab Z
       by_cases O:n+m<=Y
       ·obtain⟨A,cx,R,S,al,ae,ag,ah,au⟩:=Q.content f.1 J k7 aq;have aX:Y=0->ff P o a w (bs N M L w0 V t h a e o.dst E):=by
         intro h0;have aY:n=0:=by omega
         have aZ:m=0:=by omega
         subst aY aZ h0;have aA:news=[]:=alq (by omega);subst l aA;refine aP (p _ _ (by rw[W,S];exact rH (τ:=τ) I o.type el aa (hT el φ hφ) B A 0 0 cx (aki _))) ?_;have:=Q.fresh (old:=some y) (dst:=o.dst) (e:=e) (d:=d) (ty:=el) (s:=φ.size) (n:=0) (cells:=[]) (w':=w) (v:=.slice B 0 0) hd hV (eM.refl _ _) (fun y' aK=>by grind) (.inr ⟨rfl,rfl,B,rfl⟩);unfold bs;have e0:(r.cells.drop q).take (0*φ.size)++[]=[]:=by simp
         rw[e0];exact this
        rcases Q.Bq az Z with⟨g,o',H,X,g0,g1,g2,g3,g4,g5,g7,g8⟩|⟨g0,g1,g2,A',g3⟩
        ·have a1:H=Y:=by grind
         subst a1
         by_cases a6:0<H∨q=0
         ·obtain⟨a7,bj⟩:=g5 a6;subst a7;have aB:(n+m)*φ.size<=H*φ.size:=akW _ O;rw[Nat.add_mul]at aB;have aL:g.2+q+n*φ.size+R.length<=X.size:=by omega
          have aM:((X.toList.drop (g.2+q)).take (n*φ.size)).length=n*φ.size:=by simp;omega
          have F:∃i,(Builtin.append_ #[I,I] o.type #[a.eval s,a.eval x]).run P w=.ok (.slice (some ⟨g.1,g.2+q,none⟩) (n+m) H) (w.setRow g.1 i)∧i.size=X.size∧(i.toList.drop (g.2+q)).take (n*φ.size+m*φ.size)=(X.toList.drop (g.2+q)).take (n*φ.size)++R:=by
           rw[S,g1];cases A with
           | some ad =>
            refine⟨_,Ju (P:=P) I o.type el aa (hT el φ hφ) g.1 (g.2+q) n H X (by grind) ad m cx R (by omega) (ah ad rfl) (ack ae ag) O aL,by simp;omega,?_⟩;have:=CD X.toList R (X.toList.drop (g.2+q+n*φ.size+R.length)) (g.2+q) (n*φ.size) (by simp;omega);grind
           | none =>
            obtain⟨rfl,rfl⟩:=au rfl;have a8:R=[]:=alq (by omega);subst a8;refine⟨X,?_,rfl,by simp⟩;rw[setRow_self w g.1 X r.ty (0,0) g4];exact rH (τ:=τ) I o.type el aa (hT el φ hφ) _ _ n H 0 g2
          obtain⟨i,F,bd,ba⟩:=F;subst l;have an:Own M h blk g.1:=.inr ⟨y,r,g,aW,k3,g0,rfl⟩;have hheap:∀b,b≠g.1->(w.setRow g.1 i).heap[b]? = w.heap[b]?:=by
           intro b hb;simp only[World.setRow,akr];grind
          have bb:(w.setRow g.1 i).heap.size=w.heap.size:=by simp[World.setRow]
          refine aP (p _ _ F) ?_;have:=Q.fresh (old:=some y) (dst:=o.dst) (e:=e) (d:=d) (ty:=el) (s:=φ.size) (n:=n+m) (cells:=(r.cells.drop q).take (n*φ.size)++news) (w':=w.setRow g.1 i) (v:=.slice (some ⟨g.1,g.2+q,none⟩) (n+m) H) hd hV
           ⟨rfl,rfl,rfl,by omega,fun b _ hb=>hheap b (fun he=>hb ⟨y,g,rfl,g0,he⟩)⟩ (fun y' aK=>by grind)
           (.inl ⟨(g.1,g.2+q),H,i,rfl,.inr ⟨y,g,rfl,g0,rfl⟩,by rw[<- k2];exact setRow_heap w g.1 X i r.ty (0,0) g4,O,g3,by omega,by grind,fun j z hj =>?_⟩)
          ·unfold bs;exact this
          ·have U:=appended (b:=g.2+q) (M':=Own M h blk) (w:=w) (olds:=(r.cells.drop q).take (n*φ.size)) (news:=news) (xs:=(X.toList.drop (g.2+q)).take (n*φ.size)) (us:=R) (cur:=i) (by rw[ab,aM]) ae (by grind)
            (fun j z hj=>by
             rw[km]at hj;split at hj
             ·rename_i bc;have:=g8 _ _ hj;have he:((X.toList.drop (g.2+q)).take (n*φ.size)).getD j undef=X.getD (g.2+(q+j)) undef:=by
               simp only[akQ,km,if_pos bc,akA];simp
              rw[he];exact this
             ·cases hj) ag j z hj
           refine⟨U.1,U.2.keep fun b q1 q2=>⟨by omega,?_,hheap b (fun he=>q2 (he ▸ an))⟩⟩;rintro (hb|rfl)
           ·exact q2 (A4 hb)
           ·exact q2 an
         grind
        grind
       ·exact grow (some y) B n Y ai _ (fun y' aK=>by grind) W G (fun h=>(ay h)) (by omega) (by omega) ax aw (by omega) k5 k6 k7 l.symm
      ·cases l
     ·cases l
    ·cases l
   ·cases l
  ·cases l
 ·cases l
end
section
variable {P:Program} {T:Nat->Option Ty} {N:Nat} {M:Nat->Prop} {L:kz} {w0:World} {blk:Nat->Option (Nat×Nat)} {V:Nat->Nat->Prop} {t:Nat->D} {h:Nat->Option Row} {a:Act} {w:World} {e:Nat} {o:Oper} {Γ:Env}
def Sl{s:Ds}{x:D}(a:kindOk s x=true):s.vp=false∧Sk s=true:=by
 cases s<;>cases x<;>simp[kindOk]at a<;>exact⟨rfl,rfl⟩
def A8(m:jL P T)(n:Nat){M':Nat->Prop}{us vs:List Value}:∀(F:List Field)(o:Nat)(a c:List D)(b:Bool),(∀f∈F,f.name ≠ "_")->nS T o (F.map fun f=>(f.type,f.offset)) a=true->eqL a c=some b ->
  (∀j x,a[j]? = some x->RP w M' x (us.getD (o+j) undef)∧o+j<us.length)->(∀j y,c[j]? = some y->RP w M' y (vs.getD (o+j) undef)∧o+j<vs.length) ->
  (forIn F ((none,()):Option Bool×Unit) fun f __s =>
   if f.name ≠ "_" then do
    let __do_lift <- part f.type us.toArray f.offset
    let __do_lift_1 <- part f.type vs.toArray f.offset
    let __do_lift <- Op.equalIn (n+1) f.type __do_lift __do_lift_1
    if (!__do_lift)=true then pure (ForInStep.done (some false,())) else pure (ForInStep.yield (none,()))
   else (pure (ForInStep.yield (none,())):Sem _)).run P w=.ok (if b then (none,()) else (some false,())) w
 | [],o,a,c,b,hn,e,d,q,r=>by
  cases a with
  | nil =>
   cases c with
   | nil =>
    simp only[eqL,akq]at d;simp_all
   | cons y c=>simp[eqL]at d
  | cons x a=>simp[nS]at e
 | f::F,o,a,c,b,hn,e,d,q,r=>by
  cases a with
  | nil=>simp[nS]at e
  | cons x a =>
   cases c with
   | nil=>simp[eqL]at d
   | cons y c =>
    simp only[akn,nS,akP,beq_iff_eq]at e;obtain⟨⟨L,p⟩,H⟩:=e;simp only[eqL]at d;split at d
    ·rename_i I J h s;simp only[akq]at d;subst d;split at p
     ·rename_i φ t;obtain⟨i,u⟩:=q 0 x rfl;obtain⟨k,v⟩:=r 0 y rfl;rw[akO]at i u k v;obtain⟨G,K⟩:=Sl p;have A:(part f.type us.toArray f.offset).run P w=.ok (us.getD o undef) w:=by
       have l:us.toArray[f.offset]? = some (us.getD o undef):=by simp_all
       simp only[part,akL,ox (m _ _ t),G,Result.andThen_ok,akN,if_false,l];rfl
      have B:(part f.type vs.toArray f.offset).run P w=.ok (vs.getD o undef) w:=by
       have l:vs.toArray[f.offset]? = some (vs.getD o undef):=by simp_all
       simp only[part,akL,ox (m _ _ t),G,Result.andThen_ok,akN,if_false,l];rfl
      have C:=(aeC m t K i k h n).2 (Yk h p);have M:=A8 m n F (o+1) a c J (fun g l=>hn g (by simp[l])) H s (fun j z E=>by have:=q (j+1) z E;rwa [show o+(j+1)=o+1+j by omega]at this) (fun j z E=>by have:=r (j+1) z E;rwa [show o+(j+1)=o+1+j by omega]at this);rw[List.forIn_cons];simp only[akL];rw[if_pos (hn f (by simp))];simp only[akL,A,Result.andThen_ok,B,C];cases I with
      | false=>rfl
      | true =>
       simp_all
     ·cases p
    ·cases d
def run_equalIn_bool(n:Nat){a:Nat}(b:P.underlying a=some .bool)(i j:Bool):(Op.equalIn (n+1) a (.bool i) (.bool j)).run P w=.ok (i==j) w:=by
 simp[Op.equalIn,run_underlying b]
def run_equalIn_struct(n:Nat){d:Nat}{F:Array Field}(e:P.underlying d=some (.struct F))(g:P.stoodInHeld d=false){us vs:List Value}{b:Bool}
  (a:(forIn F.toList ((none,()):Option Bool×Unit) fun f __s =>
   if f.name ≠ "_" then do
    let __do_lift <- part f.type us.toArray f.offset
    let __do_lift_1 <- part f.type vs.toArray f.offset
    let __do_lift <- Op.equalIn (n+1) f.type __do_lift __do_lift_1
    if (!__do_lift)=true then pure (ForInStep.done (some false,())) else pure (ForInStep.yield (none,()))
   else (pure (ForInStep.yield (none,())):Sem _)).run P w=.ok (if b then (none,()) else (some false,())) w) :
  (Op.equalIn (n+1+1) d (.agg us.toArray) (.agg vs.toArray)).run P w=.ok b w:=by
 have c:(program:Sem Program).run P w=.ok P w:=rfl;rw[Op.equalIn];simp only[akL,run_underlying e,Result.andThen_ok,c,g,akN,if_false];rw[<- Array.forIn_toList,a];cases b<;>rfl
def WY(I:jL P T)(hI:Inv N M L w0 blk V t h a w){r:Nat}{τ:Ty}(R:T r=some τ){x y:D}{u v:Value}{b:Bool}(J:RT w (Own M h blk) h blk V x u)(K:RT w (Own M h blk) h blk V y v)(e:eqD T τ x y=some b) :
  (Op.equal r u v).run P w=.ok b w∧(∀(p q:Operand)(g:BinOp),(eqGuard g r p q u v).run P w=.ok () w)∧(∀g,g=.eql∨g=.neq->binOp g r u v=(match g with | .eql=>(do pure (.bool (<- Op.equal r u v)):Sem Value)|_=>do pure (.bool (!(<- Op.equal r u v))))):=by
 obtain⟨d,H,E⟩:=under I R;unfold eqD at e;split at e
 ·rename_i i j;have W:=y7 J;have X:=y7 K;subst W X;split at e
  ·rename_i k;rw[k]at E;have:=zg E;subst this;simp only[akq]at e;subst e;refine⟨run_equalIn_bool 9999 H i j,fun p q g=>by cases g<;>rfl,fun g l =>?_⟩;rcases l with rfl|rfl<;>rfl
  ·cases e
 ·rename_i Y S n G;have s:RP w (Own M h blk) (.sl Y S n G) u:=J;have z:RP w (Own M h blk) (.sl true true 0 []) v:=K;split at e
  ·rename_i el k;rw[k]at E;have:=ib E;subst this;cases z with
   | sl A c _ _ _ _ us h1 h2 h3 h4 h5 h6 h7 h8 =>
    obtain⟨rfl,rfl⟩:=(h3 rfl).1 rfl;cases s with
    | sl B Z _ _ _ _ aa g1 g2 g3 g4 g5 g6 g7 g8 =>
     have hr:=run_equal_slice_nil (P:=P) w r el B n Z H;refine⟨?_,fun p q g=>by cases g<;>rfl,fun g l =>?_⟩
     ·rw[hr];have hB:B.isNone=b:=by
       unfold aep at e;split at e
       ·rename_i U;simp only[akq]at e;subst e;cases B with
        | none=>simp_all
        | some _=>rfl
       ·split at e
        ·rename_i ab;simp only[akq]at e;subst e;cases ad:S with
         | true=>simp_all
         | false =>
          cases B with
          | none=>simp_all
          | some _=>rfl
        ·cases e
      rw[<- hB]
     ·rcases l with rfl|rfl<;>rfl
  ·cases e
 ·rename_i G O;have s:RP w (Own M h blk) (.agg G) u:=J;have z:RP w (Own M h blk) (.agg O) v:=K;split at e
  ·rename_i fs k;rw[k]at E;obtain⟨F,rfl,hF⟩:=ju E;split at e
   ·rename_i m;simp only[akP]at m;obtain⟨q1,q2,Q⟩:=(I r τ R).eqs m.1;rw[H]at Q;simp only at Q;cases s with
    | agg G us h1 h2 h3 =>
     cases z with
     | agg O vs g1 g2 g3 =>
      have o:∀f∈F.toList,f.name ≠ "_":=by
       intro f hf;have:=Array.all_eq_true_iff_forall_mem.1 Q f (by simpa using hf);simpa using this
      have C:=A8 (P:=P) (w:=w) I 9998 (M':=Own M h blk) (us:=us) (vs:=vs) F.toList 0 G O b o (by simp_all) e
       (fun j x hj=>by grind) (fun j x hj=>by grind)
      refine⟨?_,fun p q g =>?_,fun g l =>?_⟩
      ·exact run_equalIn_struct 9998 H q1 C
      ·cases g<;>first|rfl|simp[eqGuard,program,Sem.run,q2]
      ·rcases l with rfl|rfl<;>rfl
   ·cases e
  ·cases e
 ·cases e
def Tu(Q:jL P T)(g:Inv N M L w0 blk V t h a w){x y:Operand}{l:BinOp}{f E:Nat}{d:D}(m:o.op=.binOp l f x y E)(b:FP T f l (ev t x) (ev t y)=some d):ff P o a w (bs N M L w0 V t h a e o.dst ⟨d,[]⟩):=by
 have u:=g.ev x;have z:=g.ev y;generalize ev t x=p at *;generalize ev t y=q at *;unfold FP at b;split at b
 ·rename_i k i F j;have A:=oP u;have B:=oP z;have C:(eqGuard l f x y (.int k i) (.int F j)).run P w=.ok () w:=by cases l<;>rfl
  split at b
  ·rename_i G;obtain⟨v,n,r⟩:=Uv (P:=P) (w:=w) (M:=Own M h blk) (ty:=f) (k':=F) G b;exact aP (by simp[execOp,m,A,B,C,n]) (bs.eL g (b6 r))
  ·rename_i G;split at b
   ·rename_i S;subst S;obtain⟨v,n,r⟩:=acx (P:=P) (w:=w) (M:=Own M h blk) (ty:=f) (by simpa using G) b;exact aP (by simp[execOp,m,A,B,C,n]) (bs.eL g (b6 r))
   ·cases b
 ·rename_i s U;have A:=FF u;have B:=FF z;have C:(eqGuard l f x y (.string s) (.string U)).run P w=.ok () w:=by cases l<;>rfl
  obtain⟨v,n,r⟩:=acz (P:=P) (w:=w) (M:=Own M h blk) (ty:=f) b;exact aP (by simp[execOp,m,A,B,C,n]) (bs.eL g (b6 r))
 ·split at b
  ·rename_i τ R;split at b
   ·split at b
    ·rename_i c H;simp only[akq]at b;subst b;obtain⟨I,J,K⟩:=WY (P:=P) Q g R u z H;have O:=K .eql (.inl rfl);exact aP (v:=.bool c) (w':=w) (by simp[execOp,m,J,O,I]) (bs.eL g (b6 (.bool _)))
    ·cases b
   ·split at b
    ·rename_i c H;simp only[akq]at b;subst b;obtain⟨I,J,K⟩:=WY (P:=P) Q g R u z H;have O:=K .neq (.inr rfl);exact aP (v:=.bool !c) (w':=w) (by simp[execOp,m,J,O,I]) (bs.eL g (b6 (.bool _)))
    ·cases b
   ·cases b
  ·cases b
end
def Eh(n:Int):∀(a:List Int)(l:List MapEntry)(us:Nat->Value)(i:Nat),l.length=a.length->(∀j k,a[j]? = some k->∃e:MapEntry,l[j]? = some e∧e.key=.int .i64 k∧e.val=us j) ->
  Instr.findNow (.int .i64) (.int .i64 n) l i=some (if a.contains n then some (i+a.idxOf n,us (a.idxOf n)) else none)
 | [],[],_,_,_,_=>by simp[Instr.findNow]
 | k::a,e::l,us,i,m,h=>by
  obtain⟨r,f,g,o⟩:=h 0 k rfl;simp only[List.getElem?_cons_zero,akq]at f;subst f;have p:=Eh n a l (fun j=>us (j+1)) (i+1) (by simpa using m) (fun j k q=>by simpa using h (j+1) k (by simpa using q))
  by_cases b:k=n
  ·subst b;simp[Instr.findNow,g,Instr.sameNow,o,ak9]
  ·have c:(n==k)=false:=by simp[Ne.symm b]
   have d:(k==n)=false:=by simp[b]
   simp only[Instr.findNow,g,Instr.sameNow,if_true,c,p,ala,alb,ak9,d,cond_false];grind
def YA{c:List ec}(h:c.all (fun k=>JC k==false)=true):c=(c.map (·.1)).map fun n=>(n,none):=by
 induction c with
 | nil=>rfl
 | cons k c d =>
  simp only[List.all_cons,akP]at h;obtain⟨a,x⟩:=k;cases x with
  | none=>grind
  | some b=>simp[JC]at h
theorem MK(n:Int)(l:List Int):(l.map fun m=>((m,none):ec)).contains (n,none)=l.contains n∧(l.map fun m=>((m,none):ec)).idxOf (n,none)=l.idxOf n:=by
 induction l with
 | nil=>simp_all
 | cons m l a =>
  grind
def PZ(n:Int)(a:List ec)(l:List MapEntry)(b:Nat->Value)(d:l.length=a.length)(f:a.all (fun k=>JC k==false)=true)(h:∀j k,a[j]? = some k->∃e:MapEntry,l[j]? = some e∧e.key=nW k∧e.val=b j) :
  Instr.findNow (.int .i64) (.int .i64 n) l 0=some (if a.contains (n,none) then some (a.idxOf (n,none),b (a.idxOf (n,none))) else none):=by
 have c:=YA f;generalize a.map (·.1)=q at c;subst c;have:=Eh n q l b 0 (by simpa using d) (fun j k g=>by
  obtain⟨e,i,m,o⟩:=h j (k,none) (by simp[g]);exact⟨e,i,m,o⟩)
 grind[MK]
def QV(z:D)(n:ec):∀(a:List ec)(b:List D),b.length=a.length->ur z a b n=if a.contains n then b.getD (a.idxOf n) z else z
 | [],_,_=>by simp[ur]
 | k::a,v::b,f=>by
  have g:=QV z n a b (by simpa using f)
  by_cases c:k=n
  ·grind[ur]
  ·have d:(n==k)=false:=by simp[Ne.symm c]
   have e:(k==n)=false:=by simp[c]
   simp[ur,c,g,ak9,d,e,Ne.symm c]
section
variable {P:Program} {T:Nat->Option Ty} {N:Nat} {M:Nat->Prop} {L:kz} {w0:World} {blk:Nat->Option (Nat×Nat)} {V:Nat->Nat->Prop} {t:Nat->D} {h:Nat->Option Row} {a:Act} {w:World} {e:Nat} {o:Oper}
def Yz{κ:Ty}(c:yw T κ=some true):∃a b α β,κ.ds=.struct [(a,0),(b,1)]∧T a=some α∧T b=some β∧α.ds=.int .i64∧β.ds=.int .i64∧κ.eqok=true:=by
 unfold yw at c;grind
def Yy{κ:Ty}(a:yw T κ=some false):κ.ds=.int .i64:=by
 unfold yw at a;grind
def Es(i:jL P T){f:Nat}{τ φ:Ty}{b:Bool}(j:T f=some τ)(a:Hn T τ=some (b,φ)):∃g h κ,P.underlying f=some (.map g h)∧T g=some κ∧yw T κ=some b∧T h=some φ:=by
 unfold Hn at a;split at a
 ·rename_i k el e;split at a
  ·rename_i κ o l m;split at a
   ·rename_i p n;simp only[akq,Prod.mk.injEq]at a;obtain⟨rfl,rfl⟩:=a;obtain⟨d,q,c⟩:=under i j;rw[e]at c;refine⟨k,el,κ,?_,l,n,m⟩;cases d<;>simp[conv]at c;simp_all
   ·cases a
  ·cases a
 ·cases a
def Inv.key(j:Inv N M L w0 blk V t h a w){i:Operand}{n:ec}(b:Yx (Am.ev t i)=some n):a.eval i=nW n:=by
 have e:=j.ev i;generalize Am.ev t i=d at *;unfold Yx at b;split at b
 ·simp only[akq]at b;subst b;exact oP e
 ·simp only[akq]at b;subst b;have c:RP w (Own M h blk) (.agg _) (a.eval i):=e;generalize a.eval i=u at c;cases c with
  | agg xs k l h2 h3 =>
   match k,l with
   | [m,o],_ =>
    have f:=h2 0 _ rfl;have g:=h2 1 _ rfl;simp only[alc,ald]at f g;cases f;cases g;rfl
 ·cases b
def Bc(j:jL P T){e:Nat}{κ:Ty}(k:T e=some κ)(m:yw T κ=some true):∃(F:Array Field)(f1 f2:Field)(α β:Ty),P.underlying e=some (.struct F)∧F.toList=[f1,f2]∧f1.offset=0∧f2.offset=1∧T f1.type=some α∧T f2.type=some β∧α.ds=.int .i64∧β.ds=.int .i64∧P.stoodInHeld e=false∧f1.name ≠ "_"∧f2.name ≠ "_":=by
 obtain⟨a,b,α,β,h,r,s,t,u,n⟩:=Yz m;obtain⟨d,o,l⟩:=under j k;rw[h]at l;obtain⟨F,rfl,g⟩:=ju l;obtain⟨v,w,i⟩:=(j e κ k).eqs n;rw[o]at i;simp only at i;have c:F.toList.length=2:=by simpa using congrArg List.length g
 match p:F.toList,c with
 | [f1,f2],_ =>
  rw[p]at g;simp only[akn,akZ,akD,Prod.mk.injEq,and_true]at g;obtain⟨⟨rfl,x⟩,⟨rfl,y⟩⟩:=g;have z:∀f∈F.toList,f.name ≠ "_":=by
   intro f q;have:=Array.all_eq_true_iff_forall_mem.1 i f (by simpa using q);simpa using this
  grind
def YY(f:jL P T){g:Nat}{κ:Ty}(h:T g=some κ)(i:yw T κ=some true)(a b c d:Int):(Op.equal g (.agg #[.int .i64 a,.int .i64 b]) (.agg #[.int .i64 c,.int .i64 d])).run P w=.ok (a==c&&b==d) w:=by
 obtain⟨F,f1,f2,α,β,k,l,m,n,o,p,q,r,s,t,u⟩:=Bc f h i;refine run_equalIn_struct (us:=[.int .i64 a,.int .i64 b]) (vs:=[.int .i64 c,.int .i64 d]) 9998 k s ?_;refine A8 (P:=P) (w:=w) f 9998 (M':=fun _=>False) F.toList 0 [.int .i64 a,.int .i64 b] [.int .i64 c,.int .i64 d] _ ?_ ?_ ?_ ?_ ?_
 ·simp_all
 ·rw[l];simp[nS,m,n,o,p,q,r,kindOk]
 ·simp[eqL,eqC]
 ·intro j x e
  match j,e with
  | 0,e=>simp only[List.getElem?_cons_zero,akq]at e;subst e;exact⟨.int _ _,by simp⟩
  | 1,e=>simp only[List.getElem?_cons_succ,List.getElem?_cons_zero,akq]at e;subst e;exact⟨.int _ _,by simp⟩
  | j+2,e=>simp at e
 ·intro j x e
  match j,e with
  | 0,e=>simp only[List.getElem?_cons_zero,akq]at e;subst e;exact⟨.int _ _,by simp⟩
  | 1,e=>simp only[List.getElem?_cons_succ,List.getElem?_cons_zero,akq]at e;subst e;exact⟨.int _ _,by simp⟩
  | j+2,e=>simp at e
def DE{k:ec}(h:(JC k==true)=true):∃a b,k=(a,some b):=by
 obtain⟨a,x⟩:=k;cases x with
 | none=>simp[JC]at h
 | some b=>simp_all
def yJ(p:jL P T){q:Nat}{κ:Ty}(r:T q=some κ)(s:yw T κ=some true){n:ec}(t:(JC n==true)=true):∀(ks:List ec)(l:List MapEntry)(us:Nat->Value)(i:Nat),l.length=ks.length->ks.all (fun k=>JC k==true)=true->(∀j k,ks[j]? = some k->∃e:MapEntry,l[j]? = some e∧e.key=nW k∧e.val=us j) ->
  (Instr.findAsking q (nW n) l i).run P w=.ok (if ks.contains n then some (i+ks.idxOf n,us (ks.idxOf n)) else none) w
 | [],[],_,_,_,_,_=>by simp[Instr.findAsking]
 | k::ks,e::l,us,i,v,g,h=>by
  simp only[List.all_cons,akP]at g;obtain⟨B,u,x,y⟩:=h 0 k rfl;simp only[List.getElem?_cons_zero,akq]at u;subst u;have z:=yJ p r s t ks l (fun j=>us (j+1)) (i+1) (by simpa using v) g.2 (fun j k A=>by simpa using h (j+1) k (by simpa using A));obtain⟨a,b,rfl⟩:=DE t;obtain⟨c,d,rfl⟩:=DE g.1;have m:=YY (P:=P) (w:=w) p r s a b c d;have o:(((a,some b):ec)==(c,some d))=(a==c&&b==d):=by
   grind
  have f:(((c,some d):ec)==(a,some b))=(a==c&&b==d):=by
   grind
  simp only[Instr.findAsking,nW,akL,x,m,Result.andThen_ok,ala,ak9,o,f];cases C:(a==c&&b==d) with
  | true=>simp[y]
  | false =>
   simp only[akN,if_false,alb,cond_false];simp only[nW]at z;grind
def NQ(e:jL P T){h:Nat}{κ:Ty}(m:T h=some κ)(n:yw T κ=some true)(a b:Int)(em:Bool):(Instr.checkKey em 10000 h (.agg #[.int .i64 a,.int .i64 b])).run P w=.ok () w:=by
 obtain⟨F,f1,f2,α,β,o,p,q,r,i,j,k,l,u,v,x⟩:=Bc e m n;obtain⟨d1,f,c⟩:=under e i;obtain⟨d2,g,d⟩:=under e j;rw[k]at c;rw[l]at d;have s:d1=.int .i64:=by cases d1<;>simp[conv]at c;subst c;rfl
 have t:d2=.int .i64:=by cases d2<;>simp[conv]at d;subst d;rfl
 subst s t;have y:(part f1.type #[Value.int .i64 a,.int .i64 b] f1.offset).run P w=.ok (.int .i64 a) w:=by
  simp[part,akL,ox (e _ _ i),k,Ds.vp,q,Result.andThen]
 have z:(part f2.type #[Value.int .i64 a,.int .i64 b] f2.offset).run P w=.ok (.int .i64 b) w:=by
  simp[part,akL,ox (e _ _ j),l,Ds.vp,r,Result.andThen]
 have A:=MapKept.run_checkKey (w:=w) f (show MapKept.IsKey (.int .i64) (.int .i64 a) from rfl) em 9998;have B:=MapKept.run_checkKey (w:=w) g (show MapKept.IsKey (.int .i64) (.int .i64 b) from rfl) em 9998;rw[Instr.checkKey];simp only[akL,run_underlying o,Result.andThen_ok];rw[<- Array.forIn_toList,p];simp_all
def Se(g:jL P T){p:Nat}{κ:Ty}{b:Bool}(i:T p=some κ)(m:yw T κ=some b){n:ec}{a:List ec}(f:u3 b n a=true){l:List MapEntry}{us:Nat->Value}(q:l.length=a.length)(h:∀j k,a[j]? = some k->∃e:MapEntry,l[j]? = some e∧e.key=nW k∧e.val=us j) :
  (∀em,(Instr.checkKey em 10000 p (nW n)).run P w=.ok () w)∧(Instr.findKey p (nW n) l).run P w=.ok (if a.contains n then some (a.idxOf n,us (a.idxOf n)) else none) w∧(Instr.keyThatStays (nW n) (nW n)).run P w=.ok (nW n) w:=by
 simp only[u3,akP]at f;cases b with
 | false =>
  obtain⟨n,x⟩:=n;cases x with
  | some y=>simp[JC]at f
  | none =>
   obtain⟨d,o,r⟩:=under g i;rw[Yy m]at r;have s:d=.int .i64:=by cases d<;>simp[conv]at r;subst r;rfl
   subst s;have c:MapKept.IsKey (.int .i64) (.int .i64 n):=rfl;exact⟨fun em=>MapKept.run_checkKey (w:=w) o c em 9999,MapKept.run_findKey (w:=w) o (PZ n a l us q f.2 h),MapKept.run_keyThatStays (P:=P) (w:=w) c⟩
 | true =>
  obtain⟨F,f1,f2,α,β,o,_⟩:=Bc g i m;have t:=yJ (P:=P) (w:=w) g i m f.1 a l us 0 q f.2 h;obtain⟨x,y,rfl⟩:=DE f.1;refine⟨fun em=>NQ g i m x y em,?_,?_⟩
  ·rw[alf]at t;unfold Instr.findKey;simp only[akL,run_underlying o,Result.andThen_ok];cases l with
   | nil =>
    cases a with
    | nil=>simp[Instr.findNow]
    | cons _ _=>simp at q
   | cons e l =>
    have:Instr.findNow (.struct F) (nW (x,some y)) (e::l) 0=none:=by simp[Instr.findNow,Instr.sameNow]
    simp_all
  ·simp[Instr.keyThatStays,nW,Instr.sameBits]
def zeroV(o:jL P T){e:Nat}{φ:Ty}{z:D}(p:T e=some φ)(a:lL φ (φ.zero.map qL)=some z)(q:(φ.zero.map qL).all bu=true)(w:World)(M:Nat->Prop):∃b,(zeroValue e).run P w=.ok b w∧RP w M z b:=by
 have k:=o e φ p;obtain⟨d,i,b,s,t,l,u,v,m,f⟩:=k.get;have g:=k.agg;rw[l]at g;simp only[Option.map_some,m,akq]at g;refine⟨b,by simp[zeroValue,typeInfo,l,m],?_⟩;have n:=fun j x h=>tP φ.zero q (w:=w) (M:=M) j x h;unfold lL at a;rw[<- g]at a;cases b with
 | agg cs =>
  simp only[T6,if_true,akq]at a;subst a;simp only[Value.cells]at f;subst f;refine .agg _ φ.zero (by simp) (fun j x h =>?_) (fun x y =>?_)
  ·have:=(n j x h).2;simp_all
  grind
 | _ =>
  simp only[T6,akN,if_false]at a;split at a
  ·rename_i d r;simp only[akq]at a;subst a;have c:=(n 0 d (by rw[r];rfl)).2;rw[<- f]at c;simpa [Value.cells] using c
  ·cases a
def Inv.Wz(B:Inv N M L w0 blk V t h a w){m:D}{u:Value}{l:List ec}{vs:List D}(i:mapOf h m=some (l,vs))(s:RT w (Own M h blk) h blk V m u) :
  vs.length=l.length∧∃(c:Array MapEntry)(f:Nat->Value),c.size=l.length∧((u=.map none∧c = #[])∨∃b d,u=.map (some b)∧w.heap[b]? = some (.map c d))∧(∀j k,l[j]? = some k->∃e:MapEntry,c[j]? = some e∧e.key=nW k∧e.val=f j)∧∀j x,vs[j]? = some x->RP w (Own M h blk) x (f j):=by
 cases m with
 | mp x v =>
  simp only[mapOf]at i;obtain⟨g,r,y,C,z,A,P,rfl,E,c,d,F,G,_,f,H,n⟩:=B.QZ i s;exact⟨E,c,f,G,.inr ⟨g.1,d,rfl,F⟩,H,n⟩
 | mpc o p =>
  simp only[mapOf,akq,Prod.mk.injEq]at i;obtain⟨rfl,rfl⟩:=i;have q:RP w (Own M h blk) (.mpc o p) u:=s;cases q with
  | mpc _ _ I f y C z A =>
   refine⟨y,?_⟩;cases I with
   | none =>
    simp_all
   | some b =>
    obtain⟨Q,R,c,d,J,K,O⟩:=z b rfl;exact⟨c,f,K,.inr ⟨b,d,rfl,J⟩,O,A⟩
 | _=>simp[mapOf]at i
def MP(B:jL P T)(m:Inv N M L w0 blk V t h a w){c d:Nat}{τ:Ty}{E:cv}(p:o.op=.makeMap c none)(q:o.dst=some d)(r:ky N V d e)(C:T c=some τ)(b:p7 T c τ e d=some E):ff P o a w (bs N M L w0 V t h a e o.dst E):=by
 unfold p7 at b;split at b
 ·split at b
  ·cases b
  rename_i g;simp only[akq]at b;subst b;have f:=(Below.refl w.heap.size w).alloc (aki _) (.map #[] 0);have i:=m.FI (w':=w.alloc (.map #[] 0)) (h1:=h) (old:=none) (d:=d) (e:=e) (r0:=⟨e,c,[.mpc [] []],false,true,true⟩) (go:=some (w.heap.size,0)) f.os f.tape f.output f.size (fun k u _=>Below.heap_alloc w _ k u) (fun y z=>by cases z) rfl r
   ⟨.inl (aki _),by
    refine .inl ?_;exact⟨[],[],rfl,rfl,fun _=>⟨#[],0,heap_alloc_new w _,rfl,MapKept.stamped_empty 0,fun _=>undef,fun j k l=>by simp at l,fun j x l=>by simp at l⟩,fun A=>absurd A g⟩⟩ rfl rfl (fun _ _ _ j x s n h=>by grind)
  refine aP (v:=.map (some w.heap.size)) (w':=w.alloc (.map #[] 0)) ?_ ⟨ca blk d (some (w.heap.size,0)),?_,?_⟩
  ·simp[execOp,p,Instr.makeMap,Result.andThen]
  ·refine i.weaken fun x v D =>?_;grind
  ·exact⟨.inr ⟨q,rfl⟩,fun _ _ _=>⟨(w.heap.size,0),aB _ _ _,rfl⟩⟩
 ·cases b
def PD(O:jL P T)(K:Inv N M L w0 blk V t h a w){ty:Nat}{m i:Operand}{q:Bool}{τ:Ty}{E:cv}(Q:o.op=.lookup ty m i q)(hτ:T ty=some τ)(f:jm T τ h (ev t m) (ev t i) q=some E):ff P o a w (bs N M L w0 V t h a e o.dst E):=by
 unfold jm at f;split at f
 ·rename_i b φ d vs n R S hi;split at f
  ·rename_i z hz;split at f
   ·rename_i r;obtain⟨U,W⟩:=r;simp only[akq]at f;subst f;obtain⟨kt,et,κ,s,hκ,X,hφ⟩:=Es O hτ R;obtain⟨A,g,B,Y,C,hk,hv⟩:=K.Wz S (K.ev m);have u:a.eval i=nW n:=K.key hi;obtain⟨Z,D,aa⟩:=zeroV O hφ hz W w (Own M h blk);obtain⟨F,c,_⟩:=Se (P:=P) (w:=w) O hκ X U (l:=g.toList) (us:=B) (by simpa using Y) (fun j k p=>by simp_all);have v:=F g.isEmpty;have hl:=QV (jT z) n d vs A;have G:(execOp a.eval o).run P w=.ok (.value (if q then .tuple #[if d.contains n then B (d.idxOf n) else Z,.bool (d.contains n)] else if d.contains n then B (d.idxOf n) else Z)) w:=by
     rcases C with⟨ab,rfl⟩|⟨b,ad,H,y⟩
     ·have ae:d=[]:=by grind
      subst ae;simp only[List.contains_nil,akN,if_false]at c ⊢;cases q<;>simp[execOp,Q,Instr.lookup,run_underlying s,ab,u,v,c,D,Result.andThen]<;>simp_all
     ·have I:=MapKept.run_getObj_map (P:=P) y;cases hc:d.contains n with
      | true =>
       rw[hc]at c;simp only[if_true]at c;cases q<;>simp[execOp,Q,Instr.lookup,run_underlying s,H,u,I,v,c,Result.andThen]
      | false =>
       rw[hc]at c;simp only[akN,if_false]at c;cases q<;>simp[execOp,Q,Instr.lookup,run_underlying s,H,u,I,v,c,D,Result.andThen]
    have J:RP w (Own M h blk) (ur (jT z) d vs n) (if d.contains n then B (d.idxOf n) else Z):=by
     rw[hl];split
     ·grind
     ·exact aa.jT
    refine aP G (bs.eL K ?_);cases q with
    | false=>exact b6 J
    | true =>
     refine b6 (.tup _ [_,_] rfl fun j x p =>?_)
     match j,p with
     | 0,p=>simp_all
     | 1,p=>simp only[List.getElem?_cons_succ,List.getElem?_cons_zero,akq]at p;subst p;exact .bool _
     | j+2,p=>simp at p
   ·cases f
  ·cases f
 ·cases f
def Inv.zS(l:Inv N M L w0 blk V t h a w){d e:D}{f:List Nat}{u:Value}{g:Nat->Prop}(c:zS h d=some (e,f))(k:rU M h blk f g)(i:RT w (Own M h blk) h blk V d u):RP w g e u:=by
 have m:∀b,b<w.heap.size->¬Own M h blk b->b<w.heap.size∧¬g b∧w.heap[b]? = w.heap[b]?:=fun b j h2=>⟨j,fun n=>h2 (k.le b n),rfl⟩;have one:∀d,Am.zS h d=(match Am.eP h d with|some (e,f)=>some (canon e,f)|none=>none)->Am.zS h d=some (e,f)->RT w (Own M h blk) h blk V d u->RP w g e u:=by
  intro d o c i;rw[o]at c;split at c
  ·rename_i d1 p j;simp only[akq,Prod.mk.injEq]at c;obtain⟨rfl,rfl⟩:=c;exact (l.eP j k i).1.canon
  ·cases c
 cases d with
 | agg xs =>
  simp only[Am.zS,akq,Prod.mk.injEq]at c;obtain⟨rfl,rfl⟩:=c;exact (RP.keep m (show RP w (Own M h blk) (.agg xs) u from i)).jT
 | _=>exact one _ rfl c i
def acr(a:List ec)(b:List D)(n:ec)(d:D)(h:b.length=a.length):(E9 a b n d).length=(A6 a n).length:=by
 grind[E9,A6]
def xT(hT:jL P T)(O:Inv N M L w0 blk V t h a w){ty:Nat}{m i x:Operand}{τ:Ty}{E:cv}(K:o.op=.mapUpdate ty m i x∨o.op=.insert ty m i x)(hτ:T ty=some τ)(G:eQ T τ h (ev t m) (ev t i) (ev t x)=some E):ff P o a w (bs N M L w0 V t h a e o.dst E):=by
 have hm:=O.ev m;unfold eQ at G;split at G
 ·rename_i b φ y v n d fr ar au hi U;rw[au]at hm;split at G
  ·rename_i r hr;split at G
   ·rename_i q vs W;split at G
    ·rename_i Q;obtain⟨av,X,aw⟩:=Q;simp only[akq]at G;subst G;obtain⟨kt,et,κ,Y,hκ,ax,hφ⟩:=Es hT hτ ar;have Z:a.eval i=nW n:=O.key hi;have aa:=O.freeze fr;have aG:=O.zS U (O.gU fr) (O.ev x);obtain⟨g,r',h1,h2,h3,h4,h5,ab,_⟩:=O.QZ W hm;rw[hr]at h1;simp only[akq]at h1;subst h1;have R:aW h (kE h fr) y=some r:=by rw[CM aw];exact hr
     have B:=aa.rowIs R h5;unfold eJ at B;rw[h3]at B;rcases B with B|⟨B,_⟩;rotate_left
     ·grind
     obtain⟨aH,aI,i1,ad,ay,_⟩:=B;have ae:r.ty<900000:=by
      obtain⟨r3,z1,_,_,_,z5⟩:=Hi W;simp_all
     obtain⟨A,u,p,S,ag,us,hk,hv⟩:=ay ae;rw[h4]at i1;simp only[akD,D.mpc.injEq,and_true]at i1;obtain⟨rfl,rfl⟩:=i1;obtain⟨ah,C,az⟩:=Se (P:=P) (w:=w) hT hκ ax av (l:=A.toList) (us:=us) (by simpa using S) (fun j k hj=>by simp_all);have ai:=ah false;have aj:=MapKept.run_getObj_map (P:=P) p;have aJ:g.1<w.heap.size:=(alg.1 p).1;have key:∃(c:Array MapEntry)(f:Nat)(I:Nat->Value),(execOp a.eval o).run P w=.ok .skip { w with heap:=w.heap.setIfInBounds g.1 (.map c f) }∧c.size=(A6 q n).length∧MapKept.Stamped c f∧(∀j k,(A6 q n)[j]? = some k->∃e:MapEntry,c[j]? = some e∧e.key=nW k∧e.val=I j)∧∀j z,(E9 q vs n d)[j]? = some z->RP w (Own M (aW h (kE h fr)) blk) z (I j):=by
      cases J:q.contains n with
      | true =>
       rw[J]at C;simp only[if_true]at C;have hj:q.idxOf n<q.length:=List.idxOf_lt_length_of_mem (by simpa using J);have aA:q[q.idxOf n]? = some n:=by simp_all
       obtain⟨e0,q1,q2,q3⟩:=hk _ _ aA;have aB:(((A[q.idxOf n]?).map (·.key)).getD (nW n))=nW n:=by rw[q1];exact q2
       refine⟨A.modify (q.idxOf n) (fun e=>{ e with key:=nW n,val:=a.eval x }),u,fun j=>if j=q.idxOf n then a.eval x else us j,?_,?_,?_,fun j k F =>?_,fun j z H =>?_⟩
       ·have hset:=fun ob=>MapKept.run_setObj_map (P:=P) ob p;rcases K with K|K<;>simp[execOp,K,Instr.mapUpdate,run_underlying Y,ab,Z,aj,ai,C,aB,az,hset,Result.andThen]
       ·simp only[Array.size_modify,A6,J,if_true];exact S
       ·exact MapKept.stamped_modify ag _ _ (fun e _=>rfl) (fun e _ he=>by simp_all)
       ·simp only[A6,J,if_true]at F;grind
       ·simp only[E9,J,if_true]at H;grind
      | false =>
       rw[J]at C;simp only[akN,if_false]at C;refine⟨A.push { key:=nW n,val:=a.eval x,born:=u },u+1,fun j=>if j<q.length then us j else a.eval x,?_,?_,?_,fun j k F =>?_,fun j z H =>?_⟩
       ·have hset:=fun ob=>MapKept.run_setObj_map (P:=P) ob p;rcases K with K|K<;>simp[execOp,K,Instr.mapUpdate,run_underlying Y,ab,Z,aj,ai,C,hset,Result.andThen]
       ·simp only[Array.size_push,A6,J,akN,if_false,alh,List.length_cons,List.length_nil];omega
       ·refine MapKept.stamped_push ag fun x hx he =>?_;obtain⟨j,hj⟩:=akB hx;have aC:j<q.length:=by grind
        obtain⟨e1,p1,p2,_⟩:=hk j _ (aku aC);rw[alk,p1]at hj;cases hj;have:q[j]=n:=abJ (p2.symm.trans he);grind
       ·simp only[A6,J,akN,if_false]at F
        by_cases aK:j<q.length
        ·grind
        ·rw[ak7 (by omega)]at F;have aD:j=q.length:=by
          grind
         subst aD;simp only[aln,List.getElem?_cons_zero,akq]at F;subst F;exact⟨_,by rw[<- S];exact Array.getElem?_push_size,rfl,by simp⟩
       ·simp only[E9,J,akN,if_false]at H;grind
     obtain⟨c,f,I,al,an,ao,aE,aF⟩:=key;have hset:=MapKept.heap_set (o':=.map c f) p;have aL:(w.heap.setIfInBounds g.1 (.map c f)).size=w.heap.size:=by simp
     have aq:=aa.lU (hph:=fun _ _ _ j x s n h=>by grind) (r0:=⟨r.v,r.ty,[.mpc (A6 q n) (E9 q vs n d)],false,true,true⟩) (w':={ w with heap:=w.heap.setIfInBounds g.1 (.map c f) }) R X rfl rfl rfl rfl (by simp_all)
      (fun b _ hb=>hset.2 b (hb g h5)) (by
       rw[h5];refine⟨by simp[World.shape?,hset.1,p],?_⟩;refine .inl ?_;refine⟨_,_,rfl,acr q vs n d ad,fun _=>⟨c,f,hset.1,an,ao,I,aE,fun j z H=>(aF j z H).keep fun b q1 q2=>⟨by simp_all,q2,hset.2 b (fun e=>q2 (.inr ⟨y,r,g,R,X,h5,e.symm⟩))⟩⟩,fun hq=>absurd hq (Nat.not_le.2 ae)⟩) (fun hh=>by cases hh)
     refine .inr (.inl ⟨_,al,blk,?_,trivial⟩);rw[iM];exact aq.weaken fun _ _ h =>.inl h
    ·cases G
   ·cases G
  ·cases G
 ·cases G
end
section
variable {P:Program} {T:Nat->Option Ty} {N:Nat} {M:Nat->Prop} {L:kz} {w0:World} {blk:Nat->Option (Nat×Nat)} {V:Nat->Nat->Prop} {t:Nat->D} {h:Nat->Option Row} {a:Act} {w:World} {e:Nat} {o:Oper} {Γ:Env}
def oe{α:Type}{c:Array α}{l:List α}(h:c.toList=l):c=l.toArray:=by rw[<- h]
def WA{β:Type}{f:Operand->β}{l:List Operand}{p q:β}(h:l.map f=[p,q]):∃s x,l=[s,x]∧f s=p∧f x=q:=by
 match l,h with
 | [s,x],h=>grind
def aeh{β:Type}{f:Operand->β}{l:List Operand}{p:β}(h:l.map f=[p]):∃s,l=[s]∧f s=p:=by
 simp_all
def map_cons{β:Type}{f:Operand->β}{l:List Operand}{p:β}{r:List β}(h:l.map f=p::r):∃s a,l=s::a∧f s=p∧a.map f=r:=by
 match l,h with
 | s::a,h=>grind
def ML(hT:jL P T)(u:Inv N M L w0 blk V t h a w){c:Call}{b:Builtin}{E:cv}(S:o.op=.call c)(U:c.callee=.builtin b)(hV:∀d,o.dst=some d->ky N V d e)
  (f:fw T h e o.dst b c.argTypes.toList (c.args.toList.map (ev t))=some E):ff P o a w (bs N M L w0 V t h a e o.dst E):=by
 unfold fw at f;split at f
 ·rename_i ty aq x F g;obtain⟨s,J,rfl⟩:=aeh g;have K:=oe J;have W:=oe F;split at f
  ·rename_i aa;split at f
   ·rename_i τ n X hn;have hp:=u.ev s;obtain⟨d,G,i⟩:=under hT X;obtain⟨l1,l2⟩:=RT.ajA u hn aa hp;have B:∀v,(Builtin.len_ c.argTypes o.type #[a.eval s]).run P w=.ok v w->(execOp a.eval o).run P w=.ok (.value v) w:=by
     intro v Y;simp[execOp,S,resolve,U,K,invoke,builtin,Y]
    have D:c.argTypes[0]? = some ty:=by rw[W];rfl
    split at f
    ·rename_i z C O;rw[O]at l1;obtain⟨H,Q⟩:=l1 _ rfl;rw[C]at i;have:=vf i;subst this;simp only[akq]at f;subst f;refine aP (B (.int .i64 n) ?_) (bs.eL u (b6 (.int _ _)));simp[Builtin.len_,D,run_underlying G,H,goInt,Q]
    ·rename_i el z1 z2 z3 z4 C O;obtain⟨A,k,H⟩:=l2 (by simp_all);rw[C]at i;have:=ib i;subst this;simp only[akq]at f;subst f;refine aP (B (.int .i64 n) ?_) (bs.eL u (b6 (.int _ _)));simp[Builtin.len_,D,run_underlying G,H,goInt]
    ·rename_i el z1 z2 z3 z4 z5 C O;obtain⟨A,k,H⟩:=l2 (by simp_all);rw[C]at i;have:=ib i;subst this;simp only[akq]at f;subst f;refine aP (B (.int .i64 n) ?_) (bs.eL u (b6 (.int _ _)));simp[Builtin.len_,D,run_underlying G,H,goInt]
    ·cases f
   ·rename_i τ X hn;split at f
    ·rename_i k el ks ar C ab;obtain⟨d,G,i⟩:=under hT X;rw[C]at i;have ad:d=.map k el:=by
      cases d<;>simp[conv]at i;simp_all
     subst ad;simp only[akq]at f;subst f;obtain⟨an,ao,us,Q,Z,hk,hv⟩:=u.Wz ab (u.ev s);have D:c.argTypes[0]? = some ty:=by rw[W];rfl
     refine aP (v:=.int .i64 (ks.length:Nat)) (w':=w) ?_ (bs.eL u (b6 (.int _ _)));rcases Z with⟨ae,rfl⟩|⟨b,ag,ah,R⟩
     ·have ai:ks.length=0:=by simp_all
      simp[execOp,S,resolve,U,K,invoke,builtin,Builtin.len_,D,run_underlying G,ae,goInt,ai]
     ·have aj:=MapKept.run_getObj_map (P:=P) R;simp[execOp,S,resolve,U,K,invoke,builtin,Builtin.len_,D,run_underlying G,ah,aj,goInt,Q,Result.andThen]
    ·cases f
   ·cases f
  ·cases f
 ·rename_i ty au p q F g;obtain⟨s,x,J,rfl,rfl⟩:=WA g;split at f
  ·rename_i al;subst al;split at f
   ·rename_i τ d X G;exact PC hT u S U (oe J) (oe F) G (hV d G) X f
   ·cases f
  ·cases f
 ·rename_i k x r g;obtain⟨s,l,J,h1,h2⟩:=map_cons g;split at f
  ·rename_i z O;simp only[akq]at f;subst f;have H:a.eval s=.int k x:=by have:=u.ev s;rw[h1]at this;exact oP this
   have Y:=Sf (P:=P) (w:=w) (M:=M) (blk:=blk) (V:=V) (h:=h) k r (l.map a.eval) x z O (by rw[<- h2];simp) (fun j d I=>by
    rw[<- h2,akf]at I;cases hx:l[j]? with
    | none=>simp[hx]at I
    | some y =>
     simp only[hx,Option.map_some,akq]at I;subst I;have:(l.map a.eval).getD j undef=a.eval y:=by simp_all
     rw[this];exact u.ev y)
   refine aP (v:=.int k z) (w':=w) ?_ (bs.eL u (b6 (.int _ _)));have m:c.args.map a.eval=(Value.int k x::l.map a.eval).toArray:=by rw[oe J];simp[H]
   simp[execOp,S,resolve,U,m,invoke,builtin,Builtin.max_,Y]
  ·cases f
 ·rename_i k x r g;obtain⟨s,l,J,h1,h2⟩:=map_cons g;split at f
  ·rename_i z O;simp only[akq]at f;subst f;have H:a.eval s=.int k x:=by have:=u.ev s;rw[h1]at this;exact oP this
   have Y:=Sg (P:=P) (w:=w) (M:=M) (blk:=blk) (V:=V) (h:=h) k r (l.map a.eval) x z O (by rw[<- h2];simp) (fun j d I=>by
    rw[<- h2,akf]at I;cases hx:l[j]? with
    | none=>simp[hx]at I
    | some y =>
     simp only[hx,Option.map_some,akq]at I;subst I;have:(l.map a.eval).getD j undef=a.eval y:=by simp_all
     rw[this];exact u.ev y)
   refine aP (v:=.int k z) (w':=w) ?_ (bs.eL u (b6 (.int _ _)));have m:c.args.map a.eval=(Value.int k x::l.map a.eval).toArray:=by rw[oe J];simp[H]
   simp[execOp,S,resolve,U,m,invoke,builtin,Builtin.min_,Y]
  ·cases f
 ·cases f
def Z1{h:Nat->Option Row}{d:D}{u:Value}{b:Nat->Prop}(a:uv d=true)(c:RT w b h blk V d u):RC w b h blk V d u:=by
 cases d with
 | buf _ _ _ _ _=>simp[uv]at a
 | clo _ _ _=>simp[uv]at a
 | und=>simp[uv]at a
 | skp=>simp[uv]at a
 | box1 _ _ _ _ _=>simp[uv]at a
 | _=>exact c
def I6(d:Inv N M L w0 blk V t h a w){f:Nat}{first caps:Array Operand}(i:o.op=.makeFunc (.func f) first caps)(g:(first.toList.map (ev t)++caps.toList.map (ev t)).all uv=true) :
  ff P o a w (bs N M L w0 V t h a e o.dst ⟨.clo f first.size (first.toList.map (ev t)++caps.toList.map (ev t)),[]⟩):=by
 refine aP (v:=.func (.func f) (first.map a.eval) (caps.map a.eval)) (w':=w) ?_ (bs.eL d ?_)
 ·simp[execOp,i,Instr.makeFunc]
 ·refine⟨first.toList.map a.eval++caps.toList.map a.eval,?_,by simp,fun j x b =>?_⟩
  ·rw[List.take_left' (by simp),List.drop_left' (by simp),<- ak2,<- ak2]
  rw[aks]at g;have c:=g x (akG b);rw[<- als,akf,akg]at b;obtain⟨q,k,rfl⟩:=b;have:(first.toList.map a.eval++caps.toList.map a.eval).getD j undef=a.eval q:=by grind
  rw[this];exact Z1 c (d.ev q)
def Yg(u:jL P T)(G:bU P Γ)(r:Inv N M L w0 blk V t h a w)(B:∀d,o.dst=some d->ky N V d e)(F:∀x v,V x v->x<N∨2*PK<=x){E:cv}(g:tR T Γ e o (ev t) h=some E):ff P o a w (bs N M L w0 V t h a e o.dst E):=by
 unfold tR at g;split at g
 ·rename_i x j;simp only[akq]at g;subst g;exact Kv r (.inl j)
 ·rename_i x j;exact aaR r j B g
 ·rename_i c x y j;split at g
  ·rename_i A;simp only[akq]at g;subst g;exact Kw (b:=true) r j A
  ·rename_i A;simp only[akq]at g;subst g;exact Kw (b:=false) r j A
  ·cases g
 ·rename_i z j;split at g
  ·rename_i τ d q s;split at g
   ·rename_i H;simp only[akq]at g;subst g;exact Tt (hint:=Γ.hint) u r j s q (B d s) H
   ·cases g
  ·cases g
 ·rename_i z x j;split at g
  ·rename_i d Q R s A;split at g
   ·simp only[akq]at g;subst g;exact aaT r j s (B d s) A
   ·cases g
  ·cases g
 ·rename_i z p j;split at g
  ·rename_i τ q;exact adT u r j q g
  ·cases g
 ·rename_i z p x j;split at g
  ·rename_i τ q;exact aa2 u r F j q g
  ·cases g
 ·rename_i x j;exact aaZ r j g
 ·rename_i z x i j;split at g
  ·rename_i τ q;exact Gd u r j q g
  ·cases g
 ·rename_i z x i j;split at g
  ·rename_i τ q;exact Tw u r j q g
  ·cases g
 ·rename_i z x i j;split at g
  ·rename_i τ q;exact Ge u r j q g
  ·cases g
 ·rename_i z x i j;split at g
  ·rename_i τ q;exact Tx u r j q g
  ·cases g
 ·rename_i z x S U W j;split at g
  ·rename_i τ q;exact TA u r j q g
  ·cases g
 ·rename_i z parts j;split at g
  ·rename_i τ q;exact aaS u r j q g
  ·cases g
 ·rename_i z len parts j;split at g
  ·rename_i τ d q s;exact ET u r j s (B d s) q g
  ·cases g
 ·rename_i z l c j;split at g
  ·rename_i τ d q s;exact Yb u r j s (B d s) q g
  ·cases g
 ·rename_i I z x y J j;split at g
  ·rename_i d s;simp only[akq]at g;subst g;exact Tu u r j s
  ·cases g
 ·rename_i I z x j;split at g
  ·rename_i d s;simp only[akq]at g;subst g;exact Ye r j s
  ·cases g
 ·rename_i src K x j;split at g
  ·rename_i τ k n σ q O C;split at g
   ·rename_i X D;simp only[akq]at g;subst g;exact MM u r j q O D C
   ·cases g
  ·cases g
 ·rename_i Y first caps j
  split at g
  ·split at g
   ·rename_i A;simp only[akq]at g;subst g;exact I6 r j A
   ·cases g
  ·cases g
 ·rename_i z j;split at g
  ·rename_i τ d q s;exact MP u r j s (B d s) q g
  ·cases g
 ·rename_i z m i Z j;split at g
  ·rename_i τ q;exact PD u r j q g
  ·cases g
 ·rename_i z m i x j;split at g
  ·rename_i τ q;exact xT u r (.inr j) q g
  ·cases g
 ·rename_i z m i x j;split at g
  ·rename_i τ q;exact xT u r (.inl j) q g
  ·cases g
 ·rename_i x i j;split at g
  ·rename_i xs C;split at g
   ·rename_i d s;simp only[akq]at g;subst g;exact MN r j C s
   ·cases g
  ·cases g
 ·rename_i c j;split at g
  ·rename_i f A;exact X9 G r j A B F g
  ·rename_i b A;exact ML u r j A B g
  ·cases g
 ·cases g
end
section
variable {T:Nat->Option Ty} {h h':Nat->Option Row} {e:Nat} {o:Oper} {Γ:Env}
def dy{x v:Nat}(a:h x=h' x):live h x v=live h' x v:=by simp[live,a]
def lK{x v:Nat}(a:h x=h' x):qY h x v=qY h' x v:=by simp[qY,a]
def qZ{x v:Nat}(a:h x=h' x):mN h x v=mN h' x v:=by simp[mN,a]
def QL{d:D}{x v:Nat}(a:h x=h' x):BZ d h x v=BZ d h' x v:=by unfold BZ AV;rw[dy a,a]
def oT{d:D}(a:∀x∈nm d,h x=h' x):eP h d=eP h' d:=by
 cases d<;>try rfl
 rename_i x v s o n;simp only[eP];rw[dy (a x (by simp[nm,jQ]))]
def I5{d:D}(a:∀x∈nm d,h x=h' x):content h d=content h' d:=by
 cases d<;>try rfl
 rename_i x v s o n;simp only[content];rw[dy (a x (by simp[nm,jQ]))]
def wk{d:D}(a:∀x∈nm d,h x=h' x):gD h d=gD h' d:=by
 cases d<;>first|rfl|(simp only[gD];rw[oT a])
def xM{d:D}(a:∀x∈jQ d,h x=h' x):bR h d=bR h' d:=by
 cases d<;>try rfl
 ·simp only[bR];rw[dy (a _ (by simp[jQ]))]
 ·simp only[bR];rw[oT (d:=.buf _ _ _ _ _) a]
 ·simp only[bR];rw[oT (d:=.buf _ _ _ _ _) a]
 ·simp only[bR];rw[qZ (a _ (by simp[jQ]))]
 ·rename_i x v y;simp only[bR];rw[dy (a x (by simp[jQ]))];have c:∀b,mN h y b=mN h' y b:=fun b=>qZ (a y (by simp[jQ]));simp only[c]
def xa:∀{a:List D},(∀d∈a,∀x∈jQ d,h x=h' x)->ee h a=ee h' a
 | [],_=>rfl
 | d::a,hx=>by
  simp only[ee];rw[xM (hx d (by simp)),xa (fun c b=>hx c (by simp[b]))]
def xL(h:Nat->Option Row){d:D}(c:∀f a b,d ≠ .clo f a b):cU h d=bR h d:=by cases d<;>first|rfl|simp_all
def WG{d:D}(c:∀f a b,d ≠ .clo f a b):nm d=jQ d:=by cases d<;>first|rfl|simp_all
def aaA(d:D):(∃f a b,d=.clo f a b)∨∀f a b,d ≠ .clo f a b:=by
 grind
def F3{d:D}(hx:∀x∈nm d,h x=h' x):cU h d=cU h' d:=by
 rcases aaA d with⟨f,c,e,rfl⟩|a
 ·simp only[cU];rw[xa (fun d a x b=>hx x (alu.2 ⟨d,a,b⟩))]
 ·rw[WG a]at hx;rw[xL h a,xL h' a];exact xM hx
def kD:∀{a:List D},(∀d∈a,∀x∈nm d,h x=h' x)->bZ h a=bZ h' a
 | [],_=>rfl
 | d::a,hx=>by
  simp only[bZ];rw[F3 (hx d (by simp)),kD (fun c b=>hx c (by simp[b]))]
def mg{fr:List Nat}(a:∀x∈fr,h x=h' x):kE h fr=kE h' fr:=by
 unfold kE;simp_all
def ve{d c:D}{b:List Nat}(a:eP h d=some (c,b)):∀x∈b,x∈nm d:=by
 cases d<;>simp only[eP,akq,Prod.mk.injEq]at a<;>try (cases a;done)
 ·simp_all
 ·simp_all
 ·simp_all
 ·simp_all
 ·split at a
  ·split at a
   ·simp only[akq,Prod.mk.injEq]at a;obtain⟨_,rfl⟩:=a;simp[nm,jQ]
   ·cases a
  ·cases a
theorem vd{d:D}{c:List D}{b:List Nat}(a:gD h d = some (c, b)):∀ x ∈ b, x ∈ nm d:=by
  cases d <;> simp only [gD] at a <;> first
    | (simp only [akq, Prod.mk.injEq] at a; simp_all)
    | (split at a
       · rename_i e
         simp only [akq, Prod.mk.injEq] at a;obtain ⟨_, rfl⟩:=a;exact ve e
       · cases a)
def DX{d c:D}{b:List Nat}(a:bR h d=some (c,b)):∀x∈b,x∈jQ d:=by
 have one:∀d,(∀f i e,d ≠ .clo f i e)->bR h d=(match eP h d with|some (c,b)=>some (canon c,b)|none=>none)->bR h d=some (c,b)->∀x∈b,x∈jQ d:=by
  intro d j k a;rw[k]at a;split at a
  ·rename_i g;simp only[akq,Prod.mk.injEq]at a;obtain⟨_,rfl⟩:=a;intro x l;have:=ve g x l;cases d<;>first|exact this|simp_all
  ·cases a
 cases d with
 | ptr x v o =>
  simp only[bR]at a;split at a
  ·split at a
   ·simp only[akq,Prod.mk.injEq]at a;obtain⟨_,rfl⟩:=a;simp[jQ]
   ·cases a
  ·cases a
 | agg e=>simp only[bR,akq,Prod.mk.injEq]at a;simp_all
 | ip e=>simp only[bR,akq,Prod.mk.injEq]at a;simp_all
 | fn f=>simp only[bR,akq,Prod.mk.injEq]at a;simp_all
 | clo f i e=>simp[bR,eP]at a
 | box1 x v s o n =>
  simp only[bR]at a;split at a
  ·rename_i g;simp only[akq,Prod.mk.injEq]at a;obtain⟨_,rfl⟩:=a;exact ve g
  ·cases a
 | mp x v =>
  simp only[bR]at a;split at a
  ·simp only[akq,Prod.mk.injEq]at a;obtain⟨_,rfl⟩:=a;simp[jQ]
  ·cases a
 | mpc ks vs=>simp only[bR,akq,Prod.mk.injEq]at a;simp_all
 | pm x v y =>
  simp only[bR]at a;split at a
  ·split at a
   ·split at a
    ·split at a
     ·simp only[akq,Prod.mk.injEq]at a;obtain⟨_,rfl⟩:=a;simp[jQ]
     ·cases a
    ·cases a
   ·cases a
  ·cases a
 | _=>exact one _ (fun _ _ _ h=>by cases h) rfl a
def Bu:∀{f b:List D}{e:List Nat},ee h f=some (b,e)->∀x∈e,x∈f.flatMap jQ
 | [],b,e,a,x,c=>by
  simp only[ee,akq,Prod.mk.injEq]at a;simp_all
 | d::f,b,e,a,x,c=>by
  simp only[ee]at a;split at a
  ·rename_i g;split at a
   ·rename_i i;simp only[akq,Prod.mk.injEq]at a;obtain⟨_,rfl⟩:=a;rw[List.flatMap_cons];rcases alv.1 c with c|c
    ·exact akv _ (DX g x c)
    ·exact akw _ (Bu i x c)
   ·cases a
  ·cases a
def Pe{d e:D}{b:List Nat}(a:cU h d=some (e,b)):∀x∈b,x∈nm d:=by
 rcases aaA d with⟨f,i,j,rfl⟩|c
 ·simp only[cU]at a;split at a
  ·rename_i g;simp only[akq,Prod.mk.injEq]at a;obtain⟨_,rfl⟩:=a;exact Bu g
  ·cases a
 ·rw[WG c];rw[xL h c]at a;exact DX a
def jt:∀{f b:List D}{e:List Nat},bZ h f=some (b,e)->∀x∈e,∃d∈f,x∈nm d
 | [],b,e,a,x,c=>by
  simp only[bZ,akq,Prod.mk.injEq]at a;simp_all
 | d::f,b,e,a,x,c=>by
  simp only[bZ]at a;split at a
  ·rename_i g;split at a
   ·rename_i i;simp only[akq,Prod.mk.injEq]at a;obtain⟨_,rfl⟩:=a;rcases alv.1 c with c|c
    ·exact⟨d,by simp,Pe g x c⟩
    ·obtain⟨l,j,k⟩:=jt i x c;grind
   ·cases a
  ·cases a
def yg{a:Nat->Option (Nat×Nat)}:∀{parts:List (Nat×D)}{cells:List D},(∀p∈parts,∀x∈nm p.2,h x=h' x)->kf h a cells parts=kf h' a cells parts
 | [],_,_=>rfl
 | (i,d)::parts,cells,hx=>by
  simp only[kf];rw[wk (hx (i,d) (by simp))];have c:∀b,kf h a b parts=kf h' a b parts:=fun b=>yg (fun p e=>hx p (by simp[e]));simp only[c]
def yh{b:Nat->Option (Nat×Nat)}:∀{parts:List (Nat×D)}{cells c:List D}{f:List Nat},kf h b cells parts=some (c,f)->∀x∈f,∃p∈parts,x∈nm p.2
 | [],cells,c,f,a,x,e=>by
  simp only[kf,akq,Prod.mk.injEq]at a;simp_all
 | (i,d)::parts,cells,c,f,a,x,e=>by
  simp only[kf]at a;split at a
  ·rename_i l g;split at a
   ·split at a
    ·rename_i j;simp only[akq,Prod.mk.injEq]at a;obtain⟨_,rfl⟩:=a;rcases alv.1 e with e|e
     ·exact⟨(i,d),by simp,vd g x e⟩
     ·obtain⟨p,m,k⟩:=yh j x e;grind
    ·cases a
   ·cases a
  ·cases a
theorem jo{a:List Nat}{p:Nat×Option Row}(b:p∈kE h a):p.1∈a:=by
 unfold kE at b;grind
def I9{τ:Ty}{d:D}(a:∀x∈nm d,h x=h' x):fO τ h d=fO τ h' d:=by
 cases d<;>try rfl
 simp only[fO];rw[dy (a _ (by simp[nm,jQ]))]
def yy{x v:Nat}(a:h x=h' x):vr h x v=vr h' x v:=by
 unfold vr;rw[a]
def MU{τ:Ty}{x v y:Nat}(c:h x=h' x)(a:h y=h' y):Az τ h x v y (vr h x v)=Az τ h' x v y (vr h' x v):=by
 rw[yy c];cases vr h' x v with
 | none=>rfl
 | some q =>
  obtain⟨r,d,s,n⟩:=q;simp only[Az];rw[a,mg (fr:=[y]) (fun z b=>by simp only[akC]at b;subst b;exact a)]
def PM{τ:Ty}{d:D}(a:∀x∈nm d,h x=h' x):s7 τ h d=s7 τ h' d:=by
 have b:=I9 (τ:=τ) a;cases d with
 | ptr x v o =>
  simp only[s7];rw[dy (a x (by simp[nm,jQ]))];cases live h' x v with
  | none=>rfl
  | some r=>simp only[uN];rw[b]
 | pm x v y =>
  simp only[s7];rw[dy (a x (by simp[nm,jQ])),MU (a x (by simp[nm,jQ])) (a y (by simp[nm,jQ]))]
 | _=>exact b
def Gw{τ:Ty}{p d:D}(c:∀x∈nm p,h x=h' x)(hx:∀x∈nm d,h x=h' x):ig τ h p d=ig τ h' p d:=by
 cases p<;>try rfl
 simp only[ig];rw[dy (c _ (by simp[nm,jQ])),wk hx];cases live h' _ _ with
 | none=>rfl
 | some r =>
  cases e:gD h' d with
  | none=>rfl
  | some q =>
   obtain⟨f,b⟩:=q;simp only;rw[mg (fr:=b) (fun x a=>hx x (vd e x a))]
def MX{τ:Ty}{p d:D}(a:∀x∈nm p,h x=h' x)(b:∀x∈nm d,h x=h' x):im τ h p d=im τ h' p d:=by
 have c:=Gw (τ:=τ) a b;cases d with
 | box1 y e s f n =>
  cases p with
  | ptr x v o =>
   simp only[im];rw[dy (a _ (by simp[nm,jQ]))]
  | pm x v k =>
   simp only[im];rw[dy (a x (by simp[nm,jQ])),dy (b y (by simp[nm,jQ]))]
  | _=>rfl
 | mp y' v' =>
  cases p with
  | pm x v y =>
   simp only[im];rw[dy (a x (by simp[nm,jQ])),qZ (a y (by simp[nm,jQ]))]
  | _=>rfl
 | _=>exact c
def Er{d:D}(a:∀x∈nm d,h x=h' x):mapOf h d=mapOf h' d:=by
 cases d<;>try rfl
 simp only[mapOf];rw[qZ (a _ (by simp[nm,jQ]))]
def EW{τ:Ty}{m i:D}{a:Bool}(b:∀x∈nm m,h x=h' x):jm T τ h m i a=jm T τ h' m i a:=by
 unfold jm;rw[Er b]
def U1{d:D}(a:∀x∈nm d,h x=h' x):zS h d=zS h' d:=by
 cases d<;>first|rfl|(simp only[zS];rw[oT a])
theorem XD{d c:D}{b:List Nat}(a:zS h d = some (c, b)):∀ x ∈ b, x ∈ nm d:=by
  cases d <;> simp only [zS] at a <;> first
    | (simp only [akq, Prod.mk.injEq] at a; simp_all)
    | (split at a
       · rename_i e
         simp only [akq, Prod.mk.injEq] at a;obtain ⟨_, rfl⟩:=a;exact ve e
       · cases a)
def td{τ:Ty}{m i d:D}(b:∀x∈nm m,h x=h' x)(hd:∀x∈nm d,h x=h' x):eQ T τ h m i d=eQ T τ h' m i d:=by
 unfold eQ;rw[U1 hd];split
 ·rename_i _ _ y v n f g _ _ c;have a:=b y (by simp[nm,jQ]);rw[a,qZ a];rw[mg (fun z e=>hd z (XD c z e))]
 ·rfl
def MW{d:D}(a:∀x∈nm d,h x=h' x):p8 h d=p8 h' d:=by
 cases d<;>try rfl
 simp only[p8];rw[lK (a _ (by simp[nm,jQ]))]
def Gu{τ:Ty}{i:Nat}{d:D}(a:∀x∈nm d,h x=h' x):gR T τ h i d=gR T τ h' i d:=by
 cases d<;>try rfl
 ·simp only[gR];rw[lK (a _ (by simp[nm,jQ]))]
 ·simp only[gR];rw[yy (a _ (by simp[nm,jQ]))]
def Ay{τ:Ty}{d i:D}(a:∀x∈nm d,h x=h' x):cX T τ h d i=cX T τ h' d i:=by
 cases d<;>cases i<;>try rfl
 ·simp only[cX];rw[dy (a _ (by simp[nm,jQ]))]
 ·simp only[cX];rw[lK (a _ (by simp[nm,jQ]))]
def Gv{τ:Ty}{d:D}{a b c:Option D}(e:∀x∈nm d,h x=h' x):iP T τ h d a b c=iP T τ h' d a b c:=by
 cases d<;>try rfl
 simp only[iP];rw[dy (e _ (by simp[nm,jQ]))]
def Gs{τ:Ty}{parts:List (Nat×D)}(d:∀p∈parts,∀x∈nm p.2,h x=h' x):iO T τ h parts=iO T τ h' parts:=by
 unfold iO;have e:∀a cells,kf h a cells parts=kf h' a cells parts:=fun a cells=>yg d;split
 ·split
  ·rw[e];split
   ·rename_i f;rw[mg (fun x b=>by obtain⟨p,g,c⟩:=yh f x b;exact d p g x c)]
   ·rfl
  ·rfl
 ·rfl
def MS{q:Nat->Bool}{τ:Ty}{a:Option Nat}{parts:List (Nat×D)}(b:∀p∈parts,∀x∈nm p.2,h x=h' x):s5 q T τ h a parts=s5 q T τ h' a parts:=by
 have c:=Gs (T:=T) (τ:=τ) b;unfold s5;split
 ·split
  ·exact c
  ·split
   ·rename_i x v s o n _;have e:alive h (.buf x v s o n)=alive h' (.buf x v s o n):=by
     simp only[alive];rw[lK (b (0,.buf x v s o n) (by simp) x (by simp[nm,jQ]))]
    rw[e]
   ·rename_i x v s o n _;have e:alive h (.buf x v s o n)=alive h' (.buf x v s o n):=by
     simp only[alive];rw[lK (b (0,.box1 x v s o n) (by simp) x (by simp[nm,jQ]))]
    rw[e]
   ·rw[c]
 ·exact c
def zK{τ:Ty}{d len:Nat}{parts:List (Nat×D)}(f:∀p∈parts,∀x∈nm p.2,h x=h' x):fi T τ h e d len parts=fi T τ h' e d len parts:=by
 unfold fi;have g:∀a cells,kf h a cells parts=kf h' a cells parts:=fun a cells=>yg f;split
 ·split
  ·split
   ·rw[g];split
    ·rename_i i;rw[mg (fun x b=>by obtain⟨p,j,c⟩:=yh i x b;exact f p j x c)]
    ·rfl
   ·rfl
  ·rfl
 ·rfl
def EU{τ:Ty}{d:Nat}{s x:D}(a:∀y∈nm s,h y=h' y)(b:∀y∈nm x,h y=h' y):kR T τ h e d s x=kR T τ h' e d s x:=by
 unfold kR;rw[I5 b];cases s<;>try rfl
 simp only;rw[dy (a _ (by simp[nm,jQ]))]
def OE{d:D}(a:∀x∈nm d,h x=h' x):alive h d=alive h' d:=by
 cases d<;>try rfl
 all_goals
  simp only[alive];rw[lK (a _ (by simp[nm,jQ]))]
def CG{c:Option Nat}{b:Builtin}{f:List Nat}{a:List D}(g:∀d∈a,∀x∈nm d,h x=h' x):fw T h e c b f a=fw T h' e c b f a:=by
 unfold fw;split
 ·rw[OE (g _ (by simp)),Er (g _ (by simp))]
 ·split
  ·split
   ·rw[EU (g _ (by simp)) (g _ (by simp))]
   ·rfl
  ·rfl
 ·rfl
 ·rfl
 ·rfl
def DR{b:Option Nat}{g:Nat}{a:List D}(i:∀d∈a,∀x∈nm d,h x=h' x):xE Γ h e b g a=xE Γ h' e b g a:=by
 unfold xE;rw[kD i];split
 ·rename_i j;rw[mg (fun x c=>by obtain⟨d,k,f⟩:=jt j x c;exact i d k x f)]
 ·rfl
def xF{b:Option Nat}{g x v:Nat}{d0:D}{a:List D}(j:h x=h' x)(i:∀d∈a,∀x∈nm d,h x=h' x):sX Γ h e b g x v d0 a=sX Γ h' e b g x v d0 a:=by
 unfold sX;rw[QL j,kD i];split
 ·split
  ·split
   ·rename_i k;rw[mg (fun x c=>by obtain⟨d,l,f⟩:=jt k x c;exact i d l x f)]
   ·rfl
  ·rfl
 ·rfl
def OU{b:Option Nat}{p:Nat×Nat×Nat}{a:List D}(c:∀d∈a,∀x∈nm d,h x=h' x):w9 h e b p a=w9 h' e b p a:=by
 unfold w9;split
 ·rw[dy (c _ alw _ (by simp[nm,jQ])),dy (c _ (alx _ (alx _ alw)) _ (by simp[nm,jQ]))]
 ·rfl
def OQ{p:Grow}{a:List D}(b:∀d∈a,∀x∈nm d,h x=h' x):zT h p a=zT h' p a:=by
 unfold zT;split
 ·rw[yy (b _ alw _ (by simp[nm,jQ])),b _ alw _ (show _∈nm (D.pm _ _ _) by simp only[nm,jQ];simp_all)]
 ·rfl
def I8{c:Option Nat}{f:D}{a:List D}(m:∀x∈nm f,h x=h' x)(hx:∀d∈a,∀x∈nm d,h x=h' x):jP Γ h e c f a=jP Γ h' e c f a:=by
 cases f<;>try rfl
 ·rename_i g;simp only[jP];split
  ·exact OU hx
  split
  ·exact OQ hx
  split
  ·split
   ·exact xF (hx _ alw _ (by simp[nm,jQ])) (fun d b=>hx d (alx _ b))
   ·exact xF (hx _ alw _ (by simp[nm,jQ])) (fun d b=>hx d (alx _ b))
   ·exact xF (hx _ alw _ (by simp[nm,jQ])) (fun d b=>hx d (alx _ b))
   ·rfl
  ·exact DR hx
 ·rename_i g n i;simp only[jP];split
  ·rename_i j;rw[aks]at j;have l:∀d∈i,∀x∈nm d,h x=h' x:=fun d b x k=>by
    have:=j d b;rw[WG (fun f n p o=>by rw[o]at this;cases this)]at k;exact m x (alu.2 ⟨d,b,k⟩)
   refine DR fun d b =>?_;grind
  ·rfl
def xb{b:Nat}{a:Option Nat}{x:D}(c:∀y∈nm x,h y=h' y):dH T b e a h x=dH T b e a h' x:=by
 unfold dH;split
 ·rw[dy (c _ (by simp[nm,jQ])),lK (c _ (by simp[nm,jQ]))]
 ·rfl
 ·rfl
def MJ{d:D}(c:∀x∈nm d,h x=h' x):sY h d=sY h' d:=by
 by_cases a:∀b,d ≠ .agg b
 ·rw[zd a,zd a];exact oT c
 ·simp only[ne_eq,Classical.not_forall,Classical.not_not]at a;obtain⟨b,rfl⟩:=a;rfl
def Kc{d f:D}{c:List Nat}(a:sY h d=some (f,c)):∀x∈c,x∈nm d:=by
 by_cases b:∀e,d ≠ .agg e
 ·rw[zd b]at a;exact ve a
 ·simp only[ne_eq,Classical.not_forall,Classical.not_not]at b;obtain⟨e,rfl⟩:=b;simp only[sY,akq,Prod.mk.injEq]at a;simp_all
def MR{q:Nat->Bool}{b:Nat}{a:Option Nat}{x:D}(hx:∀y∈nm x,h y=h' y):uM T q b e a h x=uM T q b e a h' x:=by
 unfold uM oV;rw[MJ hx];split
 ·rw[xb hx];split
  ·rfl
  ·split
   ·rename_i c;rw[mg fun y d=>hx y (Kc c y d)]
   ·rfl
 ·exact xb hx
def Yf{j:Operand -> D}(r:∀ x ∈ iY o j, h x = h' x):tR T Γ e o j h = tR T Γ e o j h':=by
  have key:∀ y, y ∈ o.op.operands.toList -> (∀ a b c, o.op ≠ .pick a b c) -> (∀ a, o.op ≠ .move a) -> (∀ a b c, o.op ≠ .makeFunc a b c) -> ∀ x ∈ nm (j y), h x = h' x:=by
    intro y s B C E x t;apply r x;unfold iY;grind
  unfold tR;cases u:o.op <;> (try simp only) <;> rw [u] at key <;> try rfl
  case assign x => exact MR (key x (by simp [Op.operands]) (by simp) (by simp) (by simp))
  case box ty x => rw [wk (key x (by simp [Op.operands]) (by simp) (by simp) (by simp))]
                   split
                   · rename_i k
                     rw [mg (fun z v => key x (by simp [Op.operands]) (by simp) (by simp) (by simp) z (vd k z v))]
                   · rfl
  case load ty x => simp only [PM (key x (by simp [Op.operands]) (by simp) (by simp) (by simp))]
  case store ty x y => simp only [MX (key x (by simp [Op.operands]) (by simp) (by simp) (by simp)) (key y (by simp [Op.operands]) (by simp) (by simp) (by simp))]
  case nilCheck x => exact MW (key x (by simp [Op.operands]) (by simp) (by simp) (by simp))
  case fieldAddr ty x i => simp only [Gu (key x (by simp [Op.operands]) (by simp) (by simp) (by simp))]
  case makeMap ty l => cases l <;> rfl
  case lookup ty m i ok => simp only [EW (key m (by simp [Op.operands]) (by simp) (by simp) (by simp))]
  case mapUpdate ty m i x => simp only [td (key m (by simp [Op.operands]) (by simp) (by simp) (by simp)) (key x (by simp [Op.operands]) (by simp) (by simp) (by simp))]
  case insert ty m i x => simp only [td (key m (by simp [Op.operands]) (by simp) (by simp) (by simp)) (key x (by simp [Op.operands]) (by simp) (by simp) (by simp))]
  case indexAddr ty x i => simp only [Ay (key x (by simp [Op.operands]) (by simp) (by simp) (by simp))]
  case slice ty x F G H => simp only [Gv (key x (by simp [Op.operands]) (by simp) (by simp) (by simp))]
  case build ty parts =>
    have:∀ p ∈ parts.toList.map (fun p => (p.1, j p.2)), ∀ x ∈ nm p.2, h x = h' x:=by
      intro p n x g;obtain ⟨q, w, rfl⟩:=akh.1 n;exact key q.2 (by simp only [Op.operands, List.toList_toArray]; grind) (by simp) (by simp) (by simp) x g
    simp only [MS this]
  case buildSlice ty len parts =>
    have:∀ p ∈ parts.toList.map (fun p => (p.1, j p.2)), ∀ x ∈ nm p.2, h x = h' x:=by
      intro p n x g;obtain ⟨q, w, rfl⟩:=akh.1 n;exact key q.2 (by simp only [Op.operands, List.toList_toArray]; grind) (by simp) (by simp) (by simp) x g
    simp only [zK this]
  case call c =>
    have:∀ d ∈ c.args.toList.map j, ∀ x ∈ nm d, h x = h' x:=by
      intro d A x g;obtain ⟨y, s, rfl⟩:=akh.1 A;exact key y (by simp only [Op.operands, Call.operands, alz]; simp_all) (by simp) (by simp) (by simp) x g
    cases k:c.callee with
    | value f => exact I8 (key f (by simp [Op.operands, Call.operands, k]) (by simp) (by simp) (by simp)) this
    | builtin b => exact CG this
    | invoke _ _ => rfl
def af5{j g:Operand->D}(hx:∀y∈o.op.operands.toList,j y=g y):tR T Γ e o j h=tR T Γ e o g h∧iY o j=iY o g:=by
 refine⟨?_,?_⟩
 ·unfold tR;cases v:o.op<;>(try simp only)<;>rw[v]at hx<;>try rfl
  case move x=>rw[hx x (by simp[Op.operands])]
  case assign x=>rw[hx x (by simp[Op.operands])]
  case pick a b c=>rw[hx a (by simp[Op.operands]),hx b (by simp[Op.operands]),hx c (by simp[Op.operands])]
  case box ty x=>rw[hx x (by simp[Op.operands])]
  case load ty x=>rw[hx x (by simp[Op.operands])]
  case store ty x y=>rw[hx x (by simp[Op.operands]),hx y (by simp[Op.operands])]
  case nilCheck x=>rw[hx x (by simp[Op.operands])]
  case fieldAddr ty x i=>rw[hx x (by simp[Op.operands])]
  case field ty x i=>rw[hx x (by simp[Op.operands])]
  case makeMap ty n=>cases n<;>rfl
  case lookup ty m i ok=>rw[hx m (by simp[Op.operands]),hx i (by simp[Op.operands])]
  case mapUpdate ty m i x=>rw[hx m (by simp[Op.operands]),hx i (by simp[Op.operands]),hx x (by simp[Op.operands])]
  case insert ty m i x=>rw[hx m (by simp[Op.operands]),hx i (by simp[Op.operands]),hx x (by simp[Op.operands])]
  case indexAddr ty x i=>rw[hx x (by simp[Op.operands]),hx i (by simp[Op.operands])]
  case index ty x i=>rw[hx x (by simp[Op.operands]),hx i (by simp[Op.operands])]
  case slice ty x q r t =>
   rw[hx x (by simp[Op.operands])];have w:q.map j=q.map g:=by cases q with|none=>rfl|some y=>simp only[Option.map_some];rw[hx y (by simp[Op.operands])]
   have z:r.map j=r.map g:=by cases r with|none=>rfl|some y=>simp only[Option.map_some];rw[hx y (by simp[Op.operands])]
   have A:t.map j=t.map g:=by cases t with|none=>rfl|some y=>simp only[Option.map_some];rw[hx y (by simp[Op.operands])]
   rw[w,z,A]
  case build ty parts =>
   have:parts.toList.map (fun p=>(p.1,j p.2))=parts.toList.map (fun p=>(p.1,g p.2)):=alA fun p B=>by rw[hx p.2 (by simp only[Op.operands,List.toList_toArray];grind)]
   rw[this]
  case buildSlice ty len parts =>
   have:parts.toList.map (fun p=>(p.1,j p.2))=parts.toList.map (fun p=>(p.1,g p.2)):=alA fun p B=>by rw[hx p.2 (by simp only[Op.operands,List.toList_toArray];grind)]
   rw[this]
  case makeSlice ty l c=>rw[hx l (by simp[Op.operands]),hx c (by simp[Op.operands])]
  case binOp C ty x y ty'=>rw[hx x (by simp[Op.operands]),hx y (by simp[Op.operands])]
  case unOp C ty x=>rw[hx x (by simp[Op.operands])]
  case convert s d x=>rw[hx x (by simp[Op.operands])]
  case makeFunc fn first caps =>
   have:caps.toList.map j=caps.toList.map g:=alA fun y u=>hx y (by simp only[Op.operands,alz];simp_all);have k:first.toList.map j=first.toList.map g:=alA fun y u=>hx y (by simp only[Op.operands,alz];simp_all)
   rw[this,k]
  case extract x i=>rw[hx x (by simp[Op.operands])]
  case call c =>
   have:c.args.toList.map j=c.args.toList.map g:=alA fun y u=>hx y (by simp only[Op.operands,Call.operands,alz];simp_all);cases E:c.callee with
   | value f=>simp only;rw[this,hx f (by simp[Op.operands,Call.operands,E])]
   | builtin b=>grind
   | invoke _ _=>rfl
 ·have F:o.op.operands.toList.flatMap (fun y=>nm (j y))=o.op.operands.toList.flatMap (fun y=>nm (g y)):=by
   rw[List.flatMap_def,List.flatMap_def];congr 1;simp_all
  unfold iY;grind
end
section
variable {T:Nat->Option Ty} {h h':Nat->Option Row} {e:Nat} {o:Oper} {Γ:Env}
def EV{τ:Ty}{d:Nat}{s x:D}{E:cv}(a:kR T τ h e d s x=some E):∀p∈E.hw,p.1=d∨p.1∈nm s:=by
 unfold kR at a;split at a
 ·split at a
  ·split at a
   ·split at a
    ·grind
    ·split at a
     ·split at a
      ·simp only[akq]at a;subst a;intro p b;simp only[ako,alB,or_false]at b;rcases b with rfl|rfl
       ·exact .inr (by simp[nm,jQ])
       ·exact .inl rfl
      ·cases a
     ·cases a
    ·cases a
   ·cases a
  ·cases a
 ·cases a
def DS{f:Option Nat}{g:Nat}{c:List D}{E:cv}(a:xE Γ h e f g c=some E):∀p∈E.hw,f=some p.1∨∃d∈c,p.1∈nm d:=by
 unfold xE at a;split at a
 ·rename_i i;split at a
  ·simp only[akq]at a;subst a;intro p b;simp only at b;split at b
   ·simp at b
   ·exact .inr (jt i _ (jo b))
  ·split at a
   ·split at a
    ·simp only[akq]at a;subst a;intro p b;simp only[alv,akC]at b;rcases b with b|rfl
     ·split at b
      ·simp at b
      ·exact .inr (jt i _ (jo b))
     ·exact .inl rfl
    ·cases a
   ·cases a
  ·cases a
 ·cases a
def OR{p:Grow}{b:List D}{E:cv}(a:zT h p b=some E):∀q∈E.hw,∃d∈b,q.1∈nm d:=by
 unfold zT at a;split at a<;>try (cases a;done)
 split at a<;>try (cases a;done)
 split at a<;>try (cases a;done)
 rename_i c;obtain⟨rfl,_⟩:=c;split at a<;>try (cases a;done)
 simp only[akq]at a;subst a;intro q e;simp only[ako,alB,or_false]at e;rcases e with rfl|rfl
 ·grind[nm,jQ,List.mem_cons_self]
 grind[nm,jQ,List.mem_cons_self]
def OV{c:Option Nat}{p:Nat×Nat×Nat}{b:List D}{E:cv}(a:w9 h e c p b=some E):∀q∈E.hw,c=some q.1∨∃d∈b,q.1∈nm d:=by
 unfold w9 at a;split at a<;>try (cases a;done)
 split at a<;>try (cases a;done)
 split at a<;>try (cases a;done)
 simp only[akq]at a;subst a;intro q f;simp only[ako,alB,or_false]at f;rcases f with rfl|rfl|rfl
 ·grind[nm,jQ,List.mem_cons_of_mem,List.mem_cons_self]
 ·grind[nm,jQ,List.mem_cons_self]
 ·exact .inl rfl
def xG{i:Option Nat}{g x v:Nat}{d0:D}{c:List D}{E:cv}(a:sX Γ h e i g x v d0 c=some E):∀p∈E.hw,i=some p.1∨p.1=x∨∃d∈c,p.1∈nm d:=by
 unfold sX at a;split at a<;>try (cases a;done)
 split at a<;>try (cases a;done)
 split at a<;>try (cases a;done)
 rename_i f;split at a<;>try (cases a;done)
 split at a<;>try (cases a;done)
 ·simp only[akq]at a;subst a;intro p b;simp only[alv,akC]at b;rcases b with b|rfl
  ·exact .inr (.inr (jt f _ (jo b)))
  omega
 ·simp only[akq]at a;subst a;intro p b;simp only[alv,akC]at b;rcases b with b|rfl
  ·exact .inr (.inr (jt f _ (jo b)))
  omega
 ·split at a<;>try (cases a;done)
  split at a<;>try (cases a;done)
  simp only[akq]at a;subst a;intro p b;simp only[alv,ako,alB,or_false]at b;rcases b with b|rfl|rfl
  ·exact .inr (.inr (jt f _ (jo b)))
  ·omega
  ·exact .inl rfl
def TI{τ:Ty}{d:D}{E:cv}(a:fO τ h d=some E):E.hw=[]:=by
 cases d<;>simp only[fO]at a<;>try (cases a;done)
 all_goals grind
def aa8{τ:Ty}{d:D}{E:cv}(a:s7 τ h d=some E):∀p∈E.hw,p.1∈nm d:=by
 have none_:E.hw=[]->∀p∈E.hw,p.1∈nm d:=fun c p e=>by simp_all
 have b:fO τ h d=some E->∀p∈E.hw,p.1∈nm d:=fun c=>none_ (TI c);cases d with
 | ptr x v o =>
  simp only[s7]at a;cases b:live h x v with
  | none=>rw[b]at a;cases a
  | some r =>
   rw[b]at a;simp only[uN]at a;grind
 | pm x v y =>
  simp only[s7]at a;split at a
  ·grind
  ·unfold Az at a;split at a
   ·split at a
    ·split at a
     ·simp only[akq]at a;subst a;intro p e;have:=jo e;simp only[akC]at this;rw[this];simp[nm,jQ]
     ·cases a
    ·cases a
   ·cases a
 | _=>exact b a
def Gx{τ:Ty}{q d:D}{E:cv}(a:ig τ h q d=some E):∀p∈E.hw,p.1∈nm d∨p.1∈nm q:=by
 cases q<;>simp only[ig]at a<;>try (cases a;done)
 split at a
 ·split at a
  ·rename_i b;split at a
   ·simp only[akq]at a;subst a;intro p c;grind[nm,jQ,vd,jo,List.mem_singleton]
   ·cases a
  ·cases a
 ·cases a
def MY{τ:Ty}{q d:D}{E:cv}(a:im τ h q d=some E):∀p∈E.hw,p.1∈nm d∨p.1∈nm q:=by
 have c:ig τ h q d=some E->∀p∈E.hw,p.1∈nm d∨p.1∈nm q:=Gx;cases d with
 | box1 y e s f n =>
  cases q with
  | ptr x v o =>
   grind[im,nm,jQ,Option.some.injEq,List.mem_singleton]
  | pm x v k =>
   simp only[im]at a;split at a
   ·split at a
    ·simp only[akq]at a;subst a;intro p b;simp only[ako,alB,or_false]at b;rcases b with rfl|rfl|rfl
     ·exact .inl (by simp[nm,jQ])
     ·exact .inr (by simp[nm,jQ])
     ·exact .inr (by simp[nm,jQ])
    ·cases a
   ·cases a
  | _=>simp[im]at a
 | mp y' v' =>
  cases q with
  | pm x v y =>
   grind[im,nm,jQ,Option.some.injEq,List.mem_singleton]
  | _=>simp[im]at a
 | _=>exact c a
def MV{τ:Ty}{m i:D}{a:Bool}{E:cv}(b:jm T τ h m i a=some E):E.hw=[]:=by
 unfold jm at b;grind
def te{τ:Ty}{m i d:D}{E:cv}(a:eQ T τ h m i d=some E):∀p∈E.hw,p.1∈nm d∨p.1∈nm m:=by
 unfold eQ at a;split at a
 ·rename_i b;split at a
  ·split at a
   ·split at a
    ·simp only[akq]at a;subst a;intro p c;grind[nm,jQ,XD,jo,List.mem_singleton]
    ·cases a
   ·cases a
  ·cases a
 ·cases a
def s6{τ:Ty}{parts:List (Nat×D)}{E:cv}(a:iO T τ h parts=some E):∀p∈E.hw,∃q∈parts,p.1∈nm q.2:=by
 unfold iO at a;split at a
 ·split at a
  ·split at a
   ·rename_i b;simp only[akq]at a;subst a;intro p c;exact yh b _ (jo c)
   ·cases a
  ·cases a
 ·cases a
def MT{q:Nat->Bool}{τ:Ty}{b:Option Nat}{parts:List (Nat×D)}{E:cv}(a:s5 q T τ h b parts=some E):∀p∈E.hw,∃q∈parts,p.1∈nm q.2:=by
 unfold s5 at a;split at a
 ·split at a
  ·exact s6 a
  ·split at a
   ·grind
   ·grind
   ·unfold cE at a;split at a
    ·rename_i c;simp only[akq]at a;subst a;have d:=s6 c;exact d
    ·cases a
 ·exact s6 a
def Kz{w:Operand->D}{E:cv}(j:tR T Γ e o w h=some E):∀p∈E.hw,p.1∈iY o w:=by
 have key:∀y,y∈o.op.operands.toList->(∀a b c,o.op ≠ .pick a b c)->(∀a,o.op ≠ .move a)->(∀a b c,o.op ≠ .makeFunc a b c)->∀x∈nm (w y),x∈iY o w:=by
  intro y I h1 P Q x R;unfold iY;grind
 have keyd:∀d,o.dst=some d->(∀a b c,o.op ≠ .pick a b c)->(∀a,o.op ≠ .move a)->(∀a b c,o.op ≠ .makeFunc a b c)->d∈iY o w:=by
  intro d u h1 P Q;unfold iY;simp_all
 have A:∀(d:D),(some ⟨d,[]⟩:Option cv)=some E->∀p∈E.hw,p.1∈iY o w:=by
  grind
 unfold tR at j;cases S:o.op<;>rw[S]at j key keyd<;>simp only at j<;>try (cases j;done)
 case move x=>exact A _ j
 case assign x =>
  have N:dH T o.type e o.dst h (w x)=some E->∀p∈E.hw,p.1∈iY o w:=by
   intro j;unfold dH at j;split at j
   ·rename_i y v s c n t;split at j
    ·rename_i u _;split at j
     ·exact A _ j
     ·simp only[akq]at j;subst j;intro p k;simp only[ako,alB,or_false]at k;rcases k with rfl|rfl
      ·exact key x (by simp[Op.operands]) (by simp) (by simp) (by simp) _ (by rw[t];simp[nm,jQ])
      simp_all
    grind
   ·split at j
    ·rename_i u _;split at j
     ·split at j
      ·simp only[akq]at j;subst j;simp_all
      ·cases j
     ·cases j
    ·cases j
   ·exact A _ j
  unfold uM at j;split at j
  ·rename_i d u;split at j
   ·grind
   ·unfold oV at j;split at j
    ·rename_i Y Z C;simp only[akq]at j;subst j;intro p k;exact key x (by simp[Op.operands]) (by simp) (by simp) (by simp) _ (Kc C _ (jo k))
    ·cases j
  grind
 case pick a b c =>
  grind
 case alloc ty =>
  split at j
  ·rename_i u;split at j
   ·simp only[akq]at j;subst j;simp_all
   ·cases j
  ·cases j
 case box ty x =>
  split at j
  ·rename_i u C;split at j
   ·simp only[akq]at j;subst j;intro p k;rcases alv.1 k with k|k
    ·exact key x (by simp[Op.operands]) (by simp) (by simp) (by simp) _ (vd C _ (jo k))
    simp_all
   ·cases j
  ·cases j
 case load ty x =>
  split at j
  ·intro p k;exact key x (by simp[Op.operands]) (by simp) (by simp) (by simp) _ (aa8 j p k)
  ·cases j
 case store ty x y =>
  split at j
  ·intro p k;rcases MY j p k with r|r
   ·exact key y (by simp[Op.operands]) (by simp) (by simp) (by simp) _ r
   ·exact key x (by simp[Op.operands]) (by simp) (by simp) (by simp) _ r
  ·cases j
 case makeMap ty J =>
  cases J with
  | some _=>cases j
  | none =>
   simp only at j;split at j
   ·rename_i u;unfold p7 at j;split at j
    ·split at j
     ·cases j
     simp only[akq]at j;subst j;simp_all
    ·cases j
   ·cases j
 case lookup ty m i ok =>
  split at j
  ·intro p k;rw[MV j]at k;simp at k
  ·cases j
 case mapUpdate ty m i x =>
  split at j
  ·intro p k;rcases te j p k with r|r
   ·exact key x (by simp[Op.operands]) (by simp) (by simp) (by simp) _ r
   ·exact key m (by simp[Op.operands]) (by simp) (by simp) (by simp) _ r
  ·cases j
 case insert ty m i x =>
  split at j
  ·intro p k;rcases te j p k with r|r
   ·exact key x (by simp[Op.operands]) (by simp) (by simp) (by simp) _ r
   ·exact key m (by simp[Op.operands]) (by simp) (by simp) (by simp) _ r
  ·cases j
 case nilCheck x =>
  cases t:w x<;>rw[t]at j<;>simp only[p8]at j<;>try (cases j;done)
  ·grind
  ·exact A _ j
 case fieldAddr ty x i =>
  split at j
  ·cases t:w x<;>rw[t]at j<;>simp only[gR]at j<;>try (cases j;done)
   ·grind
   ·grind
   grind
  ·cases j
 case field ty x i =>
  split at j
  ·cases t:w x<;>rw[t]at j<;>simp only[BM]at j<;>try (cases j;done)
   grind
  ·cases j
 case indexAddr ty x i =>
  split at j
  ·cases t:w x<;>cases H:w i<;>rw[t,H]at j<;>simp only[cX]at j<;>try (cases j;done)
   all_goals
    grind
  ·cases j
 case index ty x i =>
  split at j
  ·cases t:w x<;>cases H:w i<;>rw[t,H]at j<;>simp only[nh]at j<;>try (cases j;done)
   ·grind
   grind
  ·cases j
 case slice ty x lo H mx =>
  split at j
  ·unfold iP at j;split at j
   ·grind
   ·grind
   ·grind
   ·cases j
  ·cases j
 case build ty parts =>
  split at j
  ·intro p k;obtain⟨q,K,t⟩:=MT j p k;obtain⟨y,I,rfl⟩:=akh.1 K;exact key y.2 (by simp only[Op.operands,List.toList_toArray];grind) (by simp) (by simp) (by simp) _ t
  ·cases j
 case buildSlice ty len parts =>
  split at j
  ·rename_i u;unfold fi at j;split at j
   ·split at j
    ·split at j
     ·split at j
      ·rename_i U;split at j
       ·simp only[akq]at j;subst j;intro p k;rcases alv.1 k with k|k
        ·obtain⟨q,K,t⟩:=yh U _ (jo k);obtain⟨y,I,rfl⟩:=akh.1 K;exact key y.2 (by simp only[Op.operands,List.toList_toArray];grind) (by simp) (by simp) (by simp) _ t
        simp_all
       ·cases j
      ·cases j
     ·cases j
    ·cases j
   ·cases j
  ·cases j
 case makeSlice ty l c =>
  split at j
  ·rename_i u;unfold ui at j;split at j
   ·split at j
    ·split at j
     ·simp only[akq]at j;subst j;simp_all
     ·cases j
    ·cases j
   ·cases j
  ·cases j
 case binOp op ty x y ty' =>
  grind
 case unOp op ty x =>
  grind
 case makeFunc fn first caps =>
  grind
 case convert s d x =>
  grind
 case extract x i =>
  grind
 case call c =>
  cases C:c.callee with
  | invoke _ _=>simp_all
  | value f =>
   rw[C]at j;simp only at j;have B:∀d∈c.args.toList.map w,∀x∈nm d,x∈iY o w:=by
    intro d u x t;obtain⟨y,I,rfl⟩:=akh.1 u;exact key y (by simp only[Op.operands,Call.operands,alz];simp_all) (by simp) (by simp) (by simp) _ t
   have z:∀d,o.dst=some d->d∈iY o w:=fun d u=>keyd d u (by simp) (by simp) (by simp);have L:∀x∈nm (w f),x∈iY o w:=key f (by simp[Op.operands,Call.operands,C]) (by simp) (by simp) (by simp);generalize c.args.toList.map w=ds at *;unfold jP at j;split at j
   ·split at j
    ·intro p k;rcases OV j p k with r|⟨d,u,t⟩
     ·exact z _ r
     grind
    split at j
    ·intro p k;obtain⟨d,u,t⟩:=OR j p k;grind
    split at j
    ·split at j
     ·intro p k;rcases xG j p k with r|r|⟨d,u,t⟩
      ·exact z _ r
      ·exact B _ alw _ (by rw[r];simp[nm,jQ])
      grind
     ·intro p k;rcases xG j p k with r|r|⟨d,u,t⟩
      ·exact z _ r
      ·exact B _ alw _ (by rw[r];simp[nm,jQ])
      grind
     ·intro p k;rcases xG j p k with r|r|⟨d,u,t⟩
      ·exact z _ r
      ·exact B _ alw _ (by rw[r];simp[nm,jQ])
      grind
     ·cases j
    ·intro p k;rcases DS j p k with r|⟨d,u,t⟩
     ·exact z _ r
     grind
   ·rename_i g V caps M;split at j
    ·rename_i G;rw[aks]at G;have O:∀d∈caps,∀x∈nm d,x∈iY o w:=fun d u x t=>by
      have:=G d u;rw[WG (fun f V xs W=>by rw[W]at this;cases this)]at t;exact L _ (by rw[M];exact alu.2 ⟨d,u,t⟩)
     intro p k;rcases DS j p k with r|⟨d,u,t⟩
     ·exact z _ r
     grind
    ·cases j
   ·cases j
  | builtin b =>
   rw[C]at j;simp only at j;unfold fw at j;split at j
   ·grind
   ·rename_i s x F;obtain⟨X,px,hl,rfl,rfl⟩:=WA F;split at j
    ·split at j
     ·rename_i u;intro p k;rcases EV j p k with h1|h1
      ·simp_all
      ·exact key X (by simp only[Op.operands,Call.operands,alz];simp_all) (by simp) (by simp) (by simp) _ h1
     ·cases j
    ·cases j
   ·grind
   ·grind
   ·cases j
end
def eC{h h':Nat->Option Row}{k:Nat}(a:h (rt k)=h' (rt k)):EH h k=EH h' k:=by
 unfold EH;unfold rt at a;grind
theorem eD:PK=1000000:=rfl
def iz(x o:Nat):2*PK<=NK x o:=by unfold NK;rw[eD];omega
def xA{x:Nat}(o:Nat)(a:x<PK):NK x o % PK=x:=by
 unfold NK;rw[Nat.mul_add_mod];exact ak6 a
def FA{x:Nat}(o:Nat)(a:x<PK):NK x o / PK-2=o:=by
 unfold NK;rw[Nat.mul_add_div (by rw[eD];decide),Nat.div_eq_of_lt a];omega
def OB{k:Nat}(a:2*PK<=k):k=NK (k % PK) (k / PK-2):=by
 unfold NK;have c:2<=k / PK:=by
  rw[Nat.le_div_iff_mul_le (by rw[eD];decide)];exact a
 have b:k / PK-2+2=k / PK:=by omega
 rw[b];exact (Nat.div_add_mod k PK).symm
def Lj(k:Nat):k % PK<PK:=ak3 _ (by rw[eD];decide)
def xe{x o:Nat}(a:x<PK):rt (NK x o)=x:=by
 unfold rt;rw[if_neg (by have:=iz x o;omega),xA o a]
def iV{k:Nat}(a:k<2*PK):rt k=k:=if_pos a
def sH{h:Nat->Option Row}{x o:Nat}(a:x<PK):EH h (NK x o)=(h x).bind fun r=>tx r o:=by
 unfold EH;rw[if_neg (by have:=iz x o;omega),xA o a,FA o a]
def sJ{h:Nat->Option Row}{k:Nat}(a:k<2*PK):EH h k=(h k).map (Fc k):=if_pos a
def aiu(y:Nat)(r:Row):(Fc y r).v=r.v∧(Fc y r).ty=r.ty∧(Fc y r).fz=r.fz∧(Fc y r).lst=r.lst∧(Fc y r).mp=r.mp:=by
 unfold Fc;grind
def LeC(d a:D):Prop:=a=d∨((∃x s n,d=.ph x s n)∧a=.und)
def Vh(r a:Row):Prop:=a=r∨(r.mp=true∧∃cs,a = { r with cells:=cs }∧cs.length=r.cells.length∧∀(j:Nat) d b,r.cells[j]? = some d->cs[j]? = some b->LeC d b)∨(r.mp=false∧∃k,a = { r with cells:=r.cells.take k })
def Fh(h h':Nat->Option Row):Prop:=∀k a,h' k=some a->∃r,h k=some r∧Vh r a
def Vh.refl(r:Row):Vh r r:=.inl rfl
def Fh.refl(h:Nat->Option Row):Fh h h:=fun k a b=>⟨a,b,.refl _⟩
def LeC.trans{a b c:D}(h:LeC a b)(k:LeC b c):LeC a c:=by
 rcases h with rfl|⟨d,rfl⟩
 ·exact k
 ·rcases k with rfl|⟨⟨_,_,_,e⟩,_⟩
  ·exact .inr ⟨d,rfl⟩
  ·cases e
def Vh.trans{a b c:Row}(h:Vh a b)(k:Vh b c):Vh a c:=by
 rcases h with rfl|⟨e,l,rfl,o,p⟩|⟨e,n,rfl⟩
 ·exact k
 ·rcases k with rfl|⟨q,g,rfl,r,s⟩|⟨q,_⟩
  ·exact .inr (.inl ⟨e,l,rfl,o,p⟩)
  ·refine .inr (.inl ⟨e,g,rfl,r.trans o,fun j d t u i =>?_⟩);have f:j<l.length:=by
    grind
   exact (p j d _ u (aku f)).trans (s j _ t (aku f) i)
  simp_all
 ·rcases k with rfl|⟨q,_⟩|⟨_,m,rfl⟩
  ·exact .inr (.inr ⟨e,n,rfl⟩)
  ·simp_all
  ·exact .inr (.inr ⟨e,min m n,by grind⟩)
def Fh.trans{a b c:Nat->Option Row}(h:Fh a b)(k:Fh b c):Fh a c:=fun x r d=>by
 obtain⟨e,f,g⟩:=k x r d;obtain⟨i,j,l⟩:=h x e f;exact⟨i,j,l.trans g⟩
def Fh.ca{a b:Nat->Option Row}(h:Fh a b)(x:Nat)(r:Option Row):Fh (ca a x r) (ca b x r):=fun y d c=>by
 by_cases e:y=x
 ·subst e;rw[aB]at c ⊢;exact⟨d,c,.refl _⟩
 ·rw[aC _ _ e]at c ⊢;exact h y d c
def Fh.apply:∀(l:List (Nat×Option Row)){a b:Nat->Option Row},Fh a b->Fh (aW a l) (aW b l)
 | [],_,_,h=>h
 | (x,r)::l,_,_,h=>Fh.apply l (h.ca x r)
def Vh.same{r a:Row}(h:Vh r a):a.v=r.v∧a.ty=r.ty∧a.fz=r.fz∧a.lst=r.lst∧a.mp=r.mp:=by
 rcases h with rfl|⟨_,b,rfl,_⟩|⟨_,k,rfl⟩<;>exact⟨rfl,rfl,rfl,rfl,rfl⟩
def Vh.nil{r a:Row}(h:Vh r a)(b:r.cells=[]):a.cells=[]:=by
 rcases h with rfl|⟨_,c,rfl,d,_⟩|⟨_,k,rfl⟩
 ·exact b
 ·simp_all
 ·simp[b]
def Vh.cell{r c:Row}(h:Vh r c){j:Nat}{a:D}(d:c.cells[j]? = some a)(e:a ≠ .und):r.cells[j]? = some a:=by
 rcases h with rfl|⟨_,g,rfl,i,f⟩|⟨_,k,rfl⟩
 ·exact d
 ·have b:j<r.cells.length:=by
   grind
  rcases f j _ a (aku b) d with rfl|⟨_,rfl⟩
  ·simp_all
  simp_all
 grind
def eJ.le{w:World}{M:Nat->Prop}{g:Nat×Nat}{r q:Row}(h:eJ w M g r)(x:Vh r q):eJ w M g q:=by
 rcases x with rfl|⟨m,n,rfl,s,y⟩|⟨m,k,rfl⟩
 ·exact h
 rotate_left
 ·unfold eJ at h ⊢;simp only[m]at h ⊢;obtain⟨b,c,l,z⟩:=h;refine⟨b,c,by grind,fun j d t =>?_⟩;grind
 ·unfold eJ at h ⊢;simp only[m]at h ⊢;rcases h with⟨u,v,c,l⟩|⟨c,b,l,z,A⟩
  ·have o:n=r.cells:=by
    rw[c]at s
    match n,s with
    | [a],_ =>
     rcases y 0 (.mpc u v) a (by rw[c];rfl) rfl with rfl|⟨⟨_,_,_,B⟩,_⟩
     ·exact c.symm
     ·cases B
   subst o;exact .inl ⟨u,v,c,l⟩
  ·have f:∀(j:Nat)(a:D),n[j]? = some a->∃d,r.cells[j]? = some d∧LeC d a:=by
    grind
   refine .inr ⟨fun a p =>?_,b,l,by simp only;omega,fun j a p =>?_⟩
   ·obtain⟨j,t⟩:=akB p;obtain⟨d,i,e⟩:=f j a t;rcases e with rfl|⟨_,rfl⟩
    ·grind
    ·rfl
   ·obtain⟨d,i,e⟩:=f j a p;rcases e with rfl|⟨_,rfl⟩
    ·exact A j _ i
    ·trivial
section
variable {N:Nat} {M:Nat->Prop} {L:kz} {w0:World} {blk:Nat->Option (Nat×Nat)} {V:Nat->Nat->Prop} {t:Nat->D} {h h':Nat->Option Row} {a:Act} {w:World}
def Dp(d:Fh h h'){b:Nat}(c:¬Own M h blk b):¬Own M h' blk b:=by
 rintro (a|⟨x,e,g,f,i,j,k⟩)
 ·exact c (.inl a)
 ·obtain⟨r,l,m⟩:=d x e f;exact c (.inr ⟨x,r,g,l,by rw[<- m.same.2.2.1];exact i,j,k⟩)
def He(d:Fh h h'):Fz w w (Own M h blk) (Own M h' blk) h h' blk blk V V:=⟨fun b a c=>⟨a,Dp d c,rfl⟩,fun _ _ h=>h,fun x v _ e a c=>by
 obtain⟨r,f,g⟩:=d x e a;exact⟨⟨r,f,by rw[<- g.same.1];exact c⟩,rfl,fun _ _=>rfl⟩⟩
def Inv.le(d:Inv N M L w0 blk V t h a w)(f:Fh h h'):Inv N M L w0 blk V t h' a w where
 tab:=d.tab.keep fun b A m=>⟨A,Dp f m,rfl⟩
 below:=d.below
 mlt:=d.mlt
 bY:=d.bY
 pin go l:=⟨(d.pin go l).1,fun o H I=>by
  obtain⟨r,k,e⟩:=f 0 o H;exact (d.pin go l).2 r k (by rw[<- e.same.1];exact I)⟩
 defers:=d.defers
 tsz:=d.tsz
 slots i:=(d.slots i).mono (He f)
 rows x o B:=by
  obtain⟨r,k,e⟩:=f x o B;obtain⟨A,m⟩:=d.rows x r k;refine⟨fun J=>by rw[e.same.1];exact A J,?_⟩;cases F:blk x with
  | none =>
   rw[F]at m;exact e.nil m
  | some g =>
   rw[F]at m;exact⟨m.1,(eJ.le m.2 e).keep rfl rfl rfl rfl fun b p q=>⟨p,Dp f q,rfl⟩⟩
 inj x y r s g g' B v l C he:=by
  obtain⟨K,k,_⟩:=f x r B;obtain⟨G,e,_⟩:=f y s v;exact d.inj x y K G g g' k e l C he
 big:=d.big
 pha y o g v hm l j x s n O:=by
  obtain⟨r,k,e⟩:=f y o v;obtain⟨P,u,p,q⟩:=d.pha y r g k (by rw[<- e.same.2.2.2.2];exact hm) l j x s n (e.cell O (by intro h;cases h));exact⟨P,u,p,q.mono fun D Q=>by
   obtain⟨G,U,_⟩:=f x D Q;simp_all⟩
 ali y o g v R E l j c S T z:=by
  obtain⟨r,k,e⟩:=f y o v;obtain⟨u,p,q⟩:=d.ali y r g k (by rw[<- e.same.2.2.1];exact R) (by rw[<- e.same.2.2.2.1];exact E) l j c S (e.cell T (by intro h;subst h;cases z)) z;exact⟨u,p,q.mono (He f)⟩
def bs.le{e:Nat}{c:Option Nat}{E:cv}{v:Value}(f:bs N M L w0 V t h a e c E v w)(d:Fh (aW h E.hw) h') :
  ∃b,Inv N M L w0 b (fun x n=>V x n∨(c=some x∧n=e)) t h' a w∧RT w (Own M h' b) h' b (fun x n=>V x n∨(c=some x∧n=e)) E.val v:=by
 obtain⟨b,g,i⟩:=f;exact⟨b,g.le d,i.mono (He d)⟩
end
def lR{a:List D}{o:Nat}{d:D}(h:o<a.length):(putCells a o [d]).length=a.length:=kI (show o+1<=a.length from h)
def gV{a:List D}{o:Nat}{d:D}(h:o<a.length):(putCells a o [d])[o]? = some d:=by
 rw[ow (show o+[d].length<=a.length from h)];simp
def jq{a:List D}{o j:Nat}{d:D}(h:o<a.length)(b:j≠o):(putCells a o [d])[j]? = a[j]?:=by
 rw[ow (show o+[d].length<=a.length from h)];grind
def Jl:Option Row->Option Row
 | some r=>if r.mp then (match r.cells with | [.nr _ _ _ _]=>none|_=>some r) else some r
 | none=>none
def RR(b c:Nat)(e:Bool):Option Row->D->D
 | some a,.nx n _=>if a.ty=b∧a.v=c∧a.fz=e∧a.lst=true∧a.mp=false then .nx n a.cells else .und
 | none,.nx n _ =>.und
 | _,d=>d
def Ir(a s b:Nat)(e:Bool)(c:List D)(o:Nat)(r:Option Row):Option D->List D
 | some d=>[.nr a s b (putCells c o [RR a b e r d])]
 | none=>[.nr a s b c]
def H8(o:Nat)(r:Option Row)(q:Row):Row :=
 if q.mp then
  match q.cells with
  | [.nr ty s nv cs]=>{ q with cells:=Ir ty s nv q.fz cs o r (cs.drop o).head? }
  | _=>q
 else q
def Cf(h:Nat->Option Row)(k:Nat)(r:Option Row):Option Row:=@ite _ (k<2*PK) (ltB k (2*PK)) (Jl r) ((h (k % PK)).map (H8 (k / PK-2) r))
def mM(h:Nat->Option Row):List (Nat×Option Row)->List (Nat×Option Row)
 | []=>[]
 | (k,r)::l=>(rt k,Cf h k r)::mM (ca h (rt k) (Cf h k r)) l
def De{r:Option Row}{q:Row}{o:Nat}(h:Jl r=some q):r=some q∧tx q o=none∧∀y,Fc y q=q:=by
 unfold Jl at h;split at h
 ·rename_i b;split at h
  ·rename_i a;split at h
   ·cases h
   ·rename_i c;simp only[akq]at h;subst h;refine⟨rfl,?_,fun y =>?_⟩
    ·unfold tx;rw[if_pos a];unfold Lk;simp_all
    ·unfold Fc;rw[if_pos a];have:skL y b.cells=b.cells:=by
      unfold skL;simp_all
     rw[this]
  ·rename_i a;simp only[akq]at h;subst h;exact⟨rfl,by unfold tx;rw[if_neg a],fun y=>by unfold Fc;rw[if_neg a]⟩
 ·cases h
def aev(h:Nat->Option Row)(k:Nat)(r:Option Row):Fh (ca (EH h) k r) (EH (ca h (rt k) (Cf h k r))):=by
 intro z p a
 by_cases O:k<2*PK
 ·rw[iV O]at a;unfold Cf at a;rw[if_pos O]at a
  by_cases g:z<2*PK
  ·rw[sJ g]at a
   by_cases c:z=k
   ·subst c;rw[aB]at a ⊢;rw[akg]at a;obtain⟨q,S,rfl⟩:=a;obtain⟨P,_,h3⟩:=De (o:=0) S;rw[h3];exact⟨q,P,.refl _⟩
   ·rw[aC _ _ c]at a ⊢;rw[<- sJ g]at a;exact⟨p,a,.refl _⟩
  ·rw[aC _ _ (by omega)];unfold EH at a;rw[if_neg g]at a
   by_cases c:z % PK=k
   ·rw[c,aB]at a;rw[Option.bind_eq_some_iff]at a;obtain⟨q,S,P⟩:=a;rw[(De (o:=z / PK-2) S).2.1]at P;cases P
   ·rw[aC _ _ c]at a;exact⟨p,by unfold EH;grind,.refl _⟩
 ·have v:=OB (amy O);have b:=Lj k;generalize k % PK=x at v b;generalize k / PK-2=o at v;subst v;rw[xe b]at a;have T:Cf h (NK x o) r=(h x).map (H8 o r):=by
   unfold Cf;rw[if_neg O,xA o b,FA o b]
  rw[T]at a;cases u:h x with
  | none =>
   rw[u]at a;simp only[Option.map_none]at a;have f:EH h z=some p:=by
    rw[<- a];apply eC
    by_cases hzx:rt z=x
    ·rw[hzx,aB,u]
    ·rw[aC _ _ hzx]
   by_cases c:z=NK x o
   ·subst c;rw[sH b,u]at f;cases f
   ·rw[aC _ _ c];exact⟨p,f,.refl _⟩
  | some q =>
   rw[u]at a;simp only[Option.map_some]at a
   by_cases hzx:rt z=x
   rotate_left
   ·have:EH h z=some p:=by rw[<- a];exact eC (by rw[aC _ _ hzx])
    refine⟨p,?_,.refl _⟩;rw[aC _ _ (fun e=>hzx (by rw[e,xe b]))];exact this
   by_cases U:q.mp=true∧∃E s F l,q.cells=[.nr E s F l]
   rotate_left
   ·have V:H8 o r q=q:=by
     unfold H8;simp_all
    rw[V]at a;have f:EH h z=some p:=by
     rw[<- a];exact eC (by rw[hzx,aB,u])
    by_cases c:z=NK x o
    ·subst c;rw[sH b,u]at f;simp only[Option.bind_some]at f;unfold tx at f;split at f
     ·rename_i i;unfold Lk at f;simp_all
     ·cases f
    ·rw[aC _ _ c];exact⟨p,f,.refl _⟩
   obtain⟨i,E,s,F,l,Q⟩:=U;have V:H8 o r q = { q with cells:=Ir E s F q.fz l o r (l.drop o).head? }:=by
    unfold H8;rw[if_pos i,Q]
   rw[V]at a;obtain⟨cs',G,W⟩:∃cs':List D,Ir E s F q.fz l o r (l.drop o).head? = [.nr E s F cs']∧cs'.length=l.length∧(∀j,j≠o->cs'[j]? = l[j]?)∧∀w,cs'[o]? = some w->∃d,l[o]? = some d∧w=RR E F q.fz r d:=by
    rw[amz];cases t:l[o]? with
    | none=>exact⟨l,rfl,rfl,fun _ _=>rfl,fun w m=>by simp_all⟩
    | some d =>
     have y:=(akI.1 t).1;refine⟨_,rfl,lR y,fun j hj=>jq y hj,fun w m=>⟨d,rfl,?_⟩⟩;rw[gV y]at m;simp_all
   rw[G]at a;obtain⟨H,I,J⟩:=W
   by_cases g:z<2*PK
   ·rw[iV g]at hzx;subst hzx;rw[sJ g,aB]at a;simp only[Option.map_some,akq]at a;subst a;rw[aC _ _ (by omega),sJ g,u];refine⟨Fc z q,rfl,.inr (.inl ⟨by rw[(aiu z q).2.2.2.2,i],cs'.mapIdx (vB z s),?_,?_,fun j d w t m =>?_⟩)⟩
    ·unfold Fc;simp only[i,if_true,skL]
    ·unfold Fc;simp only[i,if_true,skL,Q,List.length_mapIdx,H]
    ·unfold Fc at t;simp only[i,if_true,skL,Q,amj,akg]at t;rw[amj,akg]at m;obtain⟨d0,K,rfl⟩:=t;obtain⟨d1,A,rfl⟩:=m
     by_cases L:j=o
     ·subst L;obtain⟨d2,X,rfl⟩:=J _ A;rw[K]at X;cases X;cases d0 with
      | nx n xs =>
       cases r with
       | none=>exact .inr ⟨⟨_,_,_,rfl⟩,rfl⟩
       | some Y =>
        simp only[RR];split
        ·exact .inl rfl
        ·exact .inr ⟨⟨_,_,_,rfl⟩,rfl⟩
      | _=>cases r<;>exact .inl rfl
     ·rw[I j L,K]at A;cases A;exact .inl rfl
   ·have B:=OB (amy g);have M:z % PK=x:=by unfold rt at hzx;grind
    rw[M]at B;generalize z / PK-2=R at B;subst B;rw[sH b,aB]at a;simp only[Option.bind_some]at a;unfold tx at a;simp only[i,if_true,Lk,amz]at a
    by_cases N:R=o
    ·subst N;rw[aB];cases t:cs'[R]? with
     | none=>rw[t]at a;cases a
     | some w =>
      obtain⟨d,X,rfl⟩:=J w t;rw[t]at a;cases r with
      | none=>cases d<;>cases a
      | some Y =>
       cases d with
       | nx n xs =>
        simp only[RR]at a;split at a
        ·rename_i C;obtain⟨rfl,rfl,h3,h4,h5⟩:=C;simp only[Et,akq]at a;subst a;refine⟨Y,rfl,.inl ?_⟩;cases Y;simp_all
        ·cases a
       | _=>cases a
    ·have Z:NK x R≠NK x o:=by
      unfold NK;rw[eD];omega
     rw[aC _ _ Z,sH b,u];rw[I R N]at a;refine⟨p,?_,.refl _⟩;simp only[Option.bind_some];unfold tx;simp only[i,if_true,Q,Lk,amz];exact a
def P0:∀(l:List (Nat×Option Row))(h:Nat->Option Row),Fh (aW (EH h) l) (EH (aW h (mM h l)))
 | [],h =>.refl _
 | (k,r)::l,h=>(Fh.apply l (aev h k r)).trans (P0 l _)
def bump(a e:Nat):Option Nat:=if a<=4*e then some (4*e+1) else if a=4*e+2 then some (4*e+3) else none
def nrO(r:Row):List D->Option (Row×Nat×Nat×Nat×List D)
 | [.nr ty s nv cs]=>some (r,ty,s,nv,cs)
 | _=>none
def iT(h:Nat->Option Row)(x v:Nat):Option (Row×Nat×Nat×Nat×List D) :=
 match h x with
 | some r=>if r.v=v∧r.fz=false∧r.mp=true∧x<PK then nrO r r.cells else none
 | none=>none
def jI{h:Nat->Option Row}{x v:Nat}{r:Row}{b s c:Nat}{d:List D}(a:iT h x v=some (r,b,s,c,d)):h x=some r∧r.v=v∧r.fz=false∧r.mp=true∧x<PK∧r.cells=[.nr b s c d]:=by
 unfold iT at a;split at a
 ·rename_i f g;split at a
  ·rename_i e;obtain⟨i,j,k,l⟩:=e;unfold nrO at a;grind
  ·cases a
 ·cases a
def eV{d:D}(a:eZ d=true):bu d=true∧phC d=true∧∀{w:World}{M:Nat->Prop}{u:Value},FB w M d u↔RP w M d u:=by
 cases d<;>first|exact⟨rfl,rfl,Iff.rfl⟩|cases a
def UX:D->D
 | .nx n xs =>.sl false false n xs
 | d=>d
def gH{h:Nat->Option Row}{x:Nat}{r:Row}{b s c:Nat}{a:List D}(d:h x=some r)(e:r.mp=true)(f:r.cells=[.nr b s c a])(g:x<PK):EH h x=some ⟨r.v,r.ty,a.mapIdx (vB x s),r.fz,r.lst,true⟩:=by
 rw[sJ (by omega),d];simp only[Option.map_some,Fc,e,if_true,f,skL]
def eY{h:Nat->Option Row}{x:Nat}{r:Row}{a s b:Nat}{c:List D}(d:h x=some r)(e:r.mp=true)(f:r.cells=[.nr a s b c])(g:x<PK)(o:Nat):EH h (NK x o)=Et a b r.fz c[o]?:=by
 simp_all[tx,Lk,sH,alC,if_true,amz]
def vV{x a o b:Nat}(d:x<PK)(c:a<PK)(h:NK x o=NK a b):x=a∧o=b:=by
 grind[NK,eD]
def JG(w:World)(blk:Nat->Option (Nat×Nat))(k s n:Nat)(u:Value):Prop :=
 (∃g c a b,blk k=some g∧u=.slice (some ⟨g.1,g.2,none⟩) n c∧c*s+g.2=a∧n<=c∧c<=maxLen∧w.shape? g.1=some (b,a))∨(blk k=none∧n=0∧∃A,u=.slice A 0 0)
section
variable {P:Program} {T:Nat->Option Ty} {N:Nat} {M:Nat->Prop} {L:kz} {w0:World} {blk:Nat->Option (Nat×Nat)} {V:Nat->Nat->Prop} {t:Nat->D} {h:Nat->Option Row} {a:Act} {w:World} {e:Nat} {o:Oper} {Γ:Env}
def Inv.Ev(m:Inv N M L w0 blk V t (EH h) a w){x:Nat}{r:Row}{n s o:Nat}{e:List D}{g:Nat×Nat}(p:h x=some r)(q:r.mp=true)(u:r.cells=[.nr n s o e])(v:x<PK)(y:blk x=some g) :
  ∃b:Array Value,w.heap[g.1]? = some (.cells b r.ty (0,0))∧g.2+e.length<=b.size∧∀(j:Nat) d,e[j]? = some d->eZ d=true->RP w (Own M (EH h) blk) d (b.getD (g.2+j) undef):=by
 have c:=m.rowIs (gH p q u v) y;unfold eJ at c;simp only at c;rcases c with⟨E,F,f,_⟩|⟨f,b,z,k,A⟩
 ·exfalso;simp only at f;have B:e.length=1:=by
   have:=congrArg List.length f;simpa using this
  match e,B with
  | [d],_ =>
   simp only[List.mapIdx_cons,List.mapIdx_nil,akD,and_true]at f;have:=nO x s 0 d;rw[f]at this;cases this
 ·simp only[List.length_mapIdx]at k;refine⟨b,z,k,fun j d C l =>?_⟩;have i:(e.mapIdx (vB x s))[j]? = some d:=by rw[amj,C];exact congrArg some (kK l)
  exact (eV l).2.2.1 (A j _ i)
def Inv.Hw(j:Inv N M L w0 blk V t (EH h) a w){x:Nat}{r:Row}{k s l n o:Nat}{b m:List D}{g:Nat×Nat}(c:h x=some r)(d:r.mp=true)(e:r.cells=[.nr k s l b])(f:x<PK)(p:blk x=some g)(q:b[o]? = some (.nx n m)) :
  ∃u,w.cell? ⟨g.1,g.2+o,none⟩=some u∧JG w blk (NK x o) s n u:=by
 obtain⟨_,u,v,y⟩:=j.pha x _ g (gH c d e f) rfl p o (NK x o) s n (by grind[vB]);have i:=eY c d e f o;rw[q]at i;exact⟨u,v,y _ i⟩
def aei:D->D->D
 | .nx n _,.nx _ a =>.nx n a
 | .nx _ _,_ =>.und
 | d,_=>d
def yB(b a:List D):List D:=List.zipWith aei b a
def pB{x k:Nat}(b:rt k=x):k=x∨∃o,k=NK x o:=by
 by_cases a:k<2*PK
 ·rw[iV a]at b;exact .inl b
 ·have:=OB (amy a);unfold rt at b;grind
def agl(b a:List D)(j:Nat):(yB b a)[j]? = match b[j]?,a[j]? with|some d,some c=>some (aei d c)|_,_=>none:=by
 unfold yB;grind
def Ub{x:Nat}{r:Row}{z s A:Nat}{c a:List D}(J:h x=some r)(K:r.mp=true)(L:r.cells=[.nr z s A c])(M:r.fz=false)(B:x<PK)(p:a.length=c.length)
  (F:∀(j:Nat) C e,a[j]? = some (.nx C e)->∃n E k,c[j]? = some (.nx n E)∧e=E.take k):Fh (EH h) (EH (ca h x (some ⟨r.v,r.ty,[.nr z s A (yB c a)],false,r.lst,true⟩))):=by
 have g:=agl c a;have G:(yB c a).length=c.length:=by simp[yB,p]
 have q:∀(j:Nat) d,c[j]? = some d->∃m,a[j]? = some m:=by
  grind
 have N:∀(j:Nat) m,a[j]? = some m->∃d,c[j]? = some d:=by
  grind
 generalize O:ca h x (some ⟨r.v,r.ty,[.nr z s A (yB c a)],false,r.lst,true⟩)=hh;have t:hh x=some ⟨r.v,r.ty,[.nr z s A (yB c a)],false,r.lst,true⟩:=by rw[<- O,aB]
 have P:∀y,y≠x->hh y=h y:=fun y S=>by rw[<- O,aC _ _ S]
 have T:∀{h1 Q:Nat->Option Row},(∀y,y≠x->h1 y=Q y)->∀k,rt k≠x->EH h1 k=EH Q k:=fun U k b=>eC (U _ b);have u:∀k,rt k=x->k=x∨∃o,k=NK x o:=by
  intro k b
  by_cases v:k<2*PK
  ·rw[iV v]at b;exact .inl b
  ·have:=OB (amy v);unfold rt at b;grind
 intro k V b
 by_cases H:rt k=x
 rotate_left
 ·exact⟨V,by simp_all,.refl _⟩
 rcases u k H with rfl|⟨o,rfl⟩
 ·rw[gH t rfl rfl B]at b;simp only[akq]at b;subst b;refine⟨_,gH J K L B,.inr (.inl ⟨rfl,(yB c a).mapIdx (vB k s),by rw[M],by simp[G],fun j d m i f =>?_⟩)⟩;simp only[amj,akg]at i f;obtain⟨d0,w,rfl⟩:=i;obtain⟨d1,l,rfl⟩:=f;obtain⟨d2,I⟩:=q j d0 w;rw[g,w,I]at l;simp only[akq]at l;subst l;cases d0 with
  | nx n E =>
   cases d2 with
   | nx C e=>exact .inl rfl
   | _=>exact .inr ⟨⟨_,_,_,rfl⟩,rfl⟩
  | _=>exact .inl rfl
 ·rw[eY t rfl rfl B,g]at b;cases i:c[o]? with
  | none=>rw[i]at b;cases b
  | some d =>
   obtain⟨m,f⟩:=q o d i;rw[i,f]at b;cases d with
   | nx n E =>
    cases m with
    | nx C e =>
     obtain⟨Y,W,k,R,X⟩:=F o C e f;rw[i]at R;cases R;simp only[aei,Et,akq]at b;subst b;refine⟨_,by rw[eY J K L B,i];rfl,.inr (.inr ⟨rfl,k,by rw[X,M]⟩)⟩
    | _=>cases b
   | _=>cases b
def Inv.Ir(hI:Inv N M L w0 blk V t (EH h) a w){x:Nat}{r:Row}{q s u:Nat}{c cs':List D}(hx:h x=some r)(hm:r.mp=true)(hc:r.cells=[.nr q s u c])(hz:r.fz=false)(C:x<PK)(v:cs'.length=c.length){w':World}
  (Y:w'.os=w.os) (E:w'.tape=w.tape) (H:w'.output=w.output) (F:w.heap.size<=w'.heap.size) (G:∀b,b<w.heap.size->(∀g,blk x=some g->b≠g.1)->w'.heap[b]? = w.heap[b]?)
  (I:∀(j:Nat) z i,cs'[j]? = some (.nx z i)->∃n xs k,c[j]? = some (.nx n xs)∧i=xs.take k)
  (l:∀g,blk x=some g->w'.shape? g.1=w.shape? g.1∧∃f:Array Value,w'.heap[g.1]? = some (.cells f r.ty (0,0))∧g.2+c.length<=f.size∧∀(j:Nat) d,cs'[j]? = some d ->
   (eZ d=true->RP w' (Own M (EH (ca h x (some ⟨r.v,r.ty,[.nr q s u (yB c cs')],false,r.lst,true⟩))) blk) d (f.getD (g.2+j) undef))∧∀z i,d=.nx z i->JG w blk (NK x j) s z (f.getD (g.2+j) undef)) :
  Inv N M L w0 blk V t (EH (ca h x (some ⟨r.v,r.ty,[.nr q s u cs'],false,r.lst,true⟩))) a w':=by
 have J:∀(j:Nat),(yB c cs')[j]? = match c[j]?,cs'[j]? with|some d,some A=>some (aei d A)|_,_=>none:=by
  intro j;unfold yB;grind
 have ag:(yB c cs').length=c.length:=by simp[yB,v]
 have ah:∀(j:Nat) d,c[j]? = some d->∃A,cs'[j]? = some A:=by
  grind
 have K:∀(j:Nat) A,cs'[j]? = some A->∃d,c[j]? = some d:=by
  grind
 generalize Z:ca h x (some ⟨r.v,r.ty,[.nr q s u (yB c cs')],false,r.lst,true⟩)=hh at l;have O:hh x=some ⟨r.v,r.ty,[.nr q s u (yB c cs')],false,r.lst,true⟩:=by rw[<- Z,aB]
 have P:∀y,y≠x->hh y=h y:=fun y W=>by rw[<- Z,aC _ _ W]
 have aa:∀{h1 h2:Nat->Option Row},(∀y,y≠x->h1 y=h2 y)->∀k,rt k≠x->EH h1 k=EH h2 k:=fun he k Q=>eC (he _ Q);have R:∀k,rt k=x->k=x∨∃o,k=NK x o:=by
  intro k Q
  by_cases S:k<2*PK
  ·rw[iV S]at Q;exact .inl Q
  ·have:=OB (amy S);unfold rt at Q;grind
 have ab:Fh (EH h) (EH hh):=by rw[<- Z];exact Ub hx hm hc hz C v I
 have hA:=hI.le ab;have hB:=hA.lU (x:=x) (r:=⟨r.v,r.ty,(yB c cs').mapIdx (vB x s),false,r.lst,true⟩) (r0:=⟨r.v,r.ty,cs'.mapIdx (vB x s),false,r.lst,true⟩) (w':=w') (gH O rfl rfl C) rfl rfl Y E H F G (by
   cases hb:blk x with
   | none =>
    have:=(hI.rows x _ (gH hx hm hc C)).2;rw[hb]at this;have h1:c.mapIdx (vB x s)=[]:=this;simp_all
   | some g =>
    obtain⟨k1,f,k2,k3,k4⟩:=l g hb;refine⟨k1,.inr ⟨fun d X =>?_,f,k2,by simp_all,fun j d B =>?_⟩⟩
    ·obtain⟨j,B⟩:=akB X;simp only[amj,akg]at B;obtain⟨d0,m,rfl⟩:=B;exact nO _ _ _ _
    ·simp only[amj,akg]at B;obtain⟨d0,m,rfl⟩:=B
     by_cases p:eZ d0=true
     ·rw[kK p];exact (eV p).2.2.2 ((k4 j d0 m).1 p)
     ·cases d0<;>first|trivial|exact absurd rfl p) (fun h=>by cases h) (fun _ g hg j x' s' z B=>by
   obtain⟨k1,f,k2,k3,k4⟩:=l g hg;simp only[amj,akg]at B;obtain⟨d0,m,he⟩:=B;obtain⟨ad,rfl,rfl,rfl⟩:=tO he;have ai:=(akI.1 m).1;exact⟨⟨C,.inr rfl⟩,_,bf k2 (by omega),fun _ _=>(k4 j _ m).2 z ad rfl⟩)
 have ae:ca (EH hh) x (some (⟨r.v,r.ty,cs'.mapIdx (vB x s),false,r.lst,true⟩:Row))=EH (ca h x (some ⟨r.v,r.ty,[.nr q s u cs'],false,r.lst,true⟩)):=by
  have T:ca h x (some (⟨r.v,r.ty,[.nr q s u cs'],false,r.lst,true⟩:Row)) x=some ⟨r.v,r.ty,[.nr q s u cs'],false,r.lst,true⟩:=aB _ _ _;funext k
  by_cases hkx:rt k=x
  rotate_left
  ·rw[aC _ _ (fun e=>hkx (by rw[e,iV (by omega)]))];exact aa (fun y W=>by rw[P y W,aC _ _ W]) k hkx
  rcases R k hkx with rfl|⟨o,rfl⟩
  ·rw[aB,gH T rfl rfl C]
  ·rw[aC _ _ (by have:=iz x o;omega),eY O rfl rfl C,eY T rfl rfl C,J];cases U:cs'[o]? with
   | none=>simp_all
   | some A =>
    obtain⟨d,X⟩:=K o A U;rw[X];cases A with
    | nx z i =>
     obtain⟨n0,aj,k,e1,_⟩:=I o z i U;rw[X]at e1;cases e1;rfl
    | _=>cases d<;>rfl
 simp_all
def Inv.ah7(f:Inv N M L w0 blk V t h a w)(S:Nat->Prop)(H:Nat)(T:∀k,S k->N<=k∧k≠0∧¬V k H){h':Nat->Option Row}(U:∀k,S k->h' k=(h k).map fun r=>{ r with v:=H })(W:∀k,¬S k->h' k=h k):Inv N M L w0 blk V t h' a w:=by
 have q:∀x r',h' x=some r'->∃r,h x=some r∧r' = { r with v:=r'.v }∧(¬S x->r'=r)∧(S x->r'.v=H):=by
  intro x r' z
  by_cases I:S x
  ·rw[U x I,akg]at z;grind
  simp_all
 have d:∀{r r':Row},r' = { r with v:=r'.v }->r'.ty=r.ty∧r'.cells=r.cells∧r'.fz=r.fz∧r'.lst=r.lst∧r'.mp=r.mp:=by
  grind
 have J:∀b,¬Own M h blk b->¬Own M h' blk b:=by
  intro b C A;rcases A with A|⟨x,r',g,z,X,m,e⟩
  ·exact C (.inl A)
  ·obtain⟨r,B,l,_⟩:=q x r' z;exact C (.inr ⟨x,r,g,B,by grind,m,e⟩)
 have D:Fz w w (Own M h blk) (Own M h' blk) h h' blk blk V V:=⟨fun b B l=>⟨B,J b l,rfl⟩,fun _ _ h=>h,fun x v P r' B l=>by
  grind⟩
 exact {
  tab:=f.tab.keep fun b B l=>⟨B,J b l,rfl⟩
  below:=f.below
  mlt:=f.mlt
  bY:=f.bY
  pin:=fun Q m=>⟨(f.pin Q m).1,fun r' Y P=>by
   obtain⟨r,o,p,R,Z⟩:=q 0 r' Y;obtain rfl:=R (fun I=>(T 0 I).2.1 rfl);exact (f.pin Q m).2 r' o P⟩
  defers:=f.defers
  tsz:=f.tsz
  slots:=fun i=>(f.slots i).mono D
  rows:=fun x r' z=>by
   obtain⟨r,o,p,R,Z⟩:=q x r' z;obtain⟨B,l⟩:=f.rows x r o;refine⟨fun hn =>?_,?_⟩
   ·grind
   ·cases C:blk x with
    | none=>rw[C]at l;exact (d p).2.1.trans l
    | some g =>
     rw[C]at l;exact⟨l.1,l.2.keep (d p).2.1 (d p).1 (d p).2.2.2.2 rfl fun b E F=>⟨E,J b F,rfl⟩⟩
  inj:=fun x y r s g g' z G m K e=>by
   obtain⟨r1,o,_⟩:=q x r z;obtain⟨r2,p,_⟩:=q y s G;exact f.inj x y r1 r2 g g' o p m K e
  big:=f.big
  pha:=fun y r' g G hm m j x s n hc=>by
   obtain⟨r,o,p,_⟩:=q y r' G;obtain⟨h0,u,E,F⟩:=f.pha y r g o (by grind) m j x s n (by grind);exact⟨h0,u,E,F.mono fun aa q3=>by
    grind⟩
  ali:=fun y r' g G X ab m j c d' hj O=>by
   obtain⟨r,o,p,_⟩:=q y r' G;obtain⟨u,E,F⟩:=f.ali y r g o (by grind) (by grind) m j c d' (by grind) O;exact⟨u,E,F.mono D⟩ }
end
def Nk(τ:Ty)(x s b o:Nat)(a:List D):Option D->Option cv
 | some (.nx n xs)=>if τ.size=1∧τ.ds.vp=false then some ⟨.buf (NK x o) b s 0 n,[]⟩ else none
 | some _=>if o+τ.size<=a.length∧((a.drop o).take τ.size).all eZ=true then (match lL τ ((a.drop o).take τ.size) with|some d=>some ⟨d,[]⟩|none=>none) else none
 | none=>none
def s9(τ:Ty)(h:Nat->Option Row):D->Option cv
 | .ptr x v o =>
  match iT h x v with
  | some (r,ty,s,nv,cs)=>Nk τ x s nv o cs (cs.drop o).head?
  | none=>none
 | _=>none
def NV(x:Nat)(r:Row)(b s c:Nat)(d:List D)(o n:Nat):Option D->Option cv
 | some (.nx e a)=>if n*s<=a.length then some ⟨.und,[(x,some ⟨r.v,r.ty,[.nr b s c (putCells d o [.nx n (a.take (n*s))])],false,r.lst,true⟩)]⟩ else none
 | _=>none
def DB(x:Nat)(r:Row)(b s:Nat)(c:List D)(o y n:Nat)(q:Row):Option Nat->Option cv
 | some a=>some ⟨.und,[(y,none),(x,some ⟨r.v,r.ty,[.nr b s a (putCells c o [.nx n q.cells])],false,r.lst,true⟩)]⟩
 | none=>none
def plV:D->Option (List D)
 | .agg xs=>some xs
 | .int k n=>some [.int k n]
 | .bool b=>some [.bool b]
 | .str s=>some [.str s]
 | .sl a b n xs=>some [.sl a b n xs]
 | _=>none
def NW(τ:Ty)(x:Nat)(r:Row)(b s c:Nat)(d:List D)(o:Nat):Option (List D)->Option cv
 | some a=>if a.length=τ.size∧a.all eZ=true then some ⟨.und,[(x,some ⟨r.v,r.ty,[.nr b s c (putCells d o (a.map canon))],false,r.lst,true⟩)]⟩ else none
 | none=>none
def JA(τ:Ty)(e:Nat)(h:Nat->Option Row)(x:Nat)(r:Row)(a s b:Nat)(c:List D)(o:Nat):D->Option cv
 | .buf y f g i n =>
  if τ.size=1∧g=s∧i=0 then
   if y=NK x o then (if f=b then NV x r a s b c o n (c.drop o).head? else none)
   else if y<PK then
    match live h y f with
    | some q=>if q.fz=false∧q.lst=true∧q.ty=a∧q.cells.length=n*s then DB x r a s c o y n q (bump b e) else none
    | none=>none
   else none
  else none
 | d=>NW τ x r a s b c o (plV d)
def p9(τ:Ty)(e:Nat)(h:Nat->Option Row)(p d:D):Option cv :=
 match p with
 | .ptr x v o =>
  match iT h x v with
  | some (r,b,s,c,a)=>if o+τ.size<=a.length∧0<τ.size then JA τ e h x r b s c a o d else none
  | none=>none
 | _=>none
section
variable {P:Program} {T:Nat->Option Ty} {N:Nat} {M:Nat->Prop} {L:kz} {w0:World} {blk:Nat->Option (Nat×Nat)} {V:Nat->Nat->Prop} {t:Nat->D} {h:Nat->Option Row} {a:Act} {w:World} {e:Nat} {o:Oper} {Γ:Env}
def kW(N:Nat)(M:Nat->Prop)(L:kz)(w0:World)(V:Nat->Nat->Prop)(t:Nat->D)(h:Nat->Option Row)(a:Act)(e:Nat)(c:Option Nat)(E:cv)(v:Value)(d:World):Prop :=
 ∃b,Inv N M L w0 b (fun x n=>V x n∨(c=some x∧n=e)) t (EH (aW h E.hw)) a d ∧
  RT d (Own M (EH (aW h E.hw)) b) (EH (aW h E.hw)) b (fun x n=>V x n∨(c=some x∧n=e)) E.val v
def VNr(V:Nat->Nat->Prop)(h:Nat->Option Row):Prop:=∀x r b s a c,h x=some r->r.mp=true->r.cells=[.nr b s a c]->x<PK->∀o,V (NK x o) a
def aaV(O:jL P T)(l:Inv N M L w0 blk V t (EH h) a w)(D:VNr V h){F:Nat}{p:Operand}{τ:Ty}{E:cv}(Q:o.op=.load F p)(R:T F=some τ)(b:s9 τ h (ev t p)=some E):ff P o a w (kW N M L w0 V t h a e o.dst E):=by
 have Y:=l.ev p;generalize ev t p=q at *;unfold s9 at b;split at b<;>try (cases b;done)
 rename_i x v c;split at b<;>try (cases b;done)
 rename_i r G s Z H hl;obtain⟨A,hv,hz,B,i,C⟩:=jI hl;have I:=gH A B C i;obtain⟨g,S,m⟩:=Y.2 _ I hv;rw[amz]at b;unfold Nk at b;split at b
 ·rename_i n xs hn;split at b<;>try (cases b;done)
  rename_i f;obtain⟨U,J⟩:=f;simp only[akq]at b;subst b;obtain⟨u,h1,h2⟩:=l.Hw A B C i S hn;have k:=mG (O F τ R) w g.1 (g.2+c) [u] (by simpa using U.symm) (fun j v W=>by
   grind) (fun _=>rfl)
  rw[J]at k;refine aP (v:=u) (w':=w) ?_ ?_
  ·simp[execOp,Q,Instr.loadAt,Instr.sureAddr,m,k]
  ·refine bs.eL (h:=EH h) l ⟨D x r G s Z H A B C i c,fun r' X k2 =>?_⟩;rcases h2 with⟨g',c',N',t',q1,rfl,q3,q4,q5,q6⟩|⟨q1,rfl,q3⟩
   ·grind
   simp_all
 ·rename_i d0 aa ab;split at b<;>try (cases b;done)
  rename_i f;obtain⟨U,J⟩:=f;split at b<;>try (cases b;done)
  rename_i d hd;simp only[akq]at b;subst b;have K:At w (Own M (EH h) blk) g.1 (g.2+c) ((H.drop c).take τ.size):=by
   intro j d1 W;have y:=aks.1 J d1 (akG W);have z:H[c+j]? = some d1:=by
    grind
   obtain⟨ad,X,k2,k3⟩:=l.Ev A B C i S;have ae:=(akI.1 z).1;refine⟨(eV y).1,_,?_,k3 _ _ z y⟩;rw[akA];exact bf X (by omega)
  exact ug O l Q R m K (by simp;omega) hd
 ·cases b
def Gf(hT:jL P T)(X:Inv N M L w0 blk V t (EH h) a w){Y y c C s Z:Nat}{p x:Operand}{τ:Ty}{r:Row}{q cs':List D}{us:List Value}{g:Nat×Nat}(ho:o.op=.store Y p x)(hτ:T Y=some τ)
  (F:h y=some r) (G:r.mp=true) (H:r.cells=[.nr C s Z q]) (hz:r.fz=false) (l:y<PK) (I:blk y=some g) (aa:a.eval p=.pointer (some ⟨g.1,g.2+c,none⟩)) (al:(a.eval x).cells.toList=us) (an:us.length=τ.size) (ao:c+τ.size<=q.length) (h1:∀u∈us,u.oneCell'=true)
  (v:cs'.length=q.length) (J:∀(j:Nat) K m,cs'[j]? = some (.nx K m)->∃n xs k,q[j]? = some (.nx n xs)∧m=xs.take k) (O:∀j,(j<c∨c+τ.size<=j)->cs'[j]? = q[j]?)
  (aq:∀(j:Nat) d,j<τ.size->cs'[c+j]? = some d->(eZ d=true->RP w (Own M (EH h) blk) d (us.getD j undef))∧∀K m,d=.nx K m->JG w blk (NK y (c+j)) s K (us.getD j undef)) :
  ff P o a w (kW N M L w0 V t h a e o.dst ⟨.und,[(y,some ⟨r.v,r.ty,[.nr C s Z cs'],false,r.lst,true⟩)]⟩):=by
 obtain⟨f,U,k2,k3⟩:=X.Ev F G H l I;have z:=run_storeCells_at P g.1 (g.2+c) r.ty us 0 f w U (by omega) h1;rw[akO]at z;have Q:(f.toList.take (g.2+c)++us++f.toList.drop (g.2+c+us.length)).toArray.size=f.size:=by simp;omega
 have A:∀j,j<q.length->(f.toList.take (g.2+c)++us++f.toList.drop (g.2+c+us.length)).toArray.getD (g.2+j) undef=if j<c then f.getD (g.2+j) undef else if j<c+us.length then us.getD (j-c) undef else f.getD (g.2+j) undef:=by
  intro j W;rw[uH f us (g.2+c) (g.2+j) (by omega)]
  by_cases ab:j<c
  ·simp_all
  ·rw[if_neg (by omega),if_neg ab];grind
 generalize ar:(f.toList.take (g.2+c)++us++f.toList.drop (g.2+c+us.length)).toArray=arr' at z Q A;have B:(w.setRow g.1 arr').heap[g.1]? = some (.cells arr' r.ty (0,0)):=setRow_heap w g.1 f arr' r.ty (0,0) U;have ad:(w.setRow g.1 arr').heap.size=w.heap.size:=by simp[World.setRow]
 have hheap:∀b,b≠g.1->(w.setRow g.1 arr').heap[b]? = w.heap[b]?:=by
  intro b hb;simp only[World.setRow,akr];grind
 have R:Own M (EH h) blk g.1:=.inr ⟨y,_,g,gH F G H l,hz,I,rfl⟩;have ae:=Ub F G H hz l v J;have hkeep:∀{d:D}{u:Value},RP w (Own M (EH h) blk) d u->RP (w.setRow g.1 arr') (Own M (EH (ca h y (some ⟨r.v,r.ty,[.nr C s Z (yB q cs')],false,r.lst,true⟩))) blk) d u:=fun hr=>hr.keep fun b q1 q2=>⟨by rw[ad];exact q1,Dp ae q2,hheap b (fun e=>q2 (e ▸ R))⟩;have hS:=X.Ir (cs':=cs') (w':=w.setRow g.1 arr') F G H hz l v rfl rfl rfl (by omega) (fun b _ hb=>hheap b (hb g I)) J (fun g' S=>by
  rw[I]at S;cases S;refine⟨by simp[World.shape?,B,U,Q],arr',B,by omega,fun j d W =>?_⟩;have ag:j<q.length:=by
   grind
  rw[A j ag]
  by_cases aj:c<=j∧j<c+τ.size
  ·rw[if_neg (by omega),if_pos (by omega)];obtain⟨i,rfl⟩:∃i,j=c+i:=⟨j-c,by omega⟩;rw[al5];grind
  ·have ah:(if j<c then f.getD (g.2+j) undef else if j<c+us.length then us.getD (j-c) undef else f.getD (g.2+j) undef)=f.getD (g.2+j) undef:=by
    grind
   rw[ah];rw[O j (by omega)]at W;refine⟨fun hd=>hkeep (k3 j d W hd),fun K m he =>?_⟩;subst he;obtain⟨u,q1,q2⟩:=X.Hw F G H l I W;rw[bf U (by omega)]at q1;simp_all)
 refine .inr (.inl ⟨w.setRow g.1 arr',?_,blk,?_,trivial⟩)
 ·have ai:(a.eval x).cells.size=τ.size:=by grind
  have E:(storeCells ⟨g.1,g.2+c,none⟩ (a.eval x).cells.toList 0).run P w=.ok () (w.setRow g.1 arr'):=by simp_all
  simp[execOp,ho,Instr.storeAt,Instr.sureAddr,aa,storeVar,run_sizeOf (hT Y τ hτ),ai,E]
 ·exact hS.weaken fun _ _ h =>.inl h
def Cj{g:Nat×Nat}{a arr':Array Value}{c:Nat}(d:w.heap[g.1]? = some (.cells a c (0,0))):(w.setRow g.1 arr').heap[g.1]? = some (.cells arr' c (0,0))∧(w.setRow g.1 arr').heap.size=w.heap.size∧∀b,b≠g.1->(w.setRow g.1 arr').heap[b]? = w.heap[b]?:=by
 refine⟨setRow_heap w g.1 a arr' c (0,0) d,by simp[World.setRow],fun b e =>?_⟩;simp only[World.setRow,akr];grind
def Inv.ajP(C:Inv N M L w0 blk V t (EH h) a w){y c p s G:Nat}{r:Row}{o:List D}(x:h y=some r)(z:r.mp=true)(A:r.cells=[.nr p s G o])(H:r.fz=false)(i:y<PK)(l:c<o.length) :
  Inv N M L w0 blk V t (EH (ca h y (some ⟨r.v,r.ty,[.nr p s G (putCells o c [.und])],false,r.lst,true⟩))) a w:=by
 have e:∀(j:Nat) d,(putCells o c [.und])[j]? = some d->d=.und∨o[j]? = some d:=by
  intro j d m
  by_cases q:j=c
  ·subst q;rw[gV l]at m;simp_all
  ·rw[jq l q]at m;exact .inr m
 have v:∀(j:Nat) B f,(putCells o c [.und])[j]? = some (.nx B f)->∃n I k,o[j]? = some (.nx n I)∧f=I.take k:=by
  intro j B f m;rcases e j _ m with h|h
  ·cases h
  ·exact⟨B,f,f.length,h,by simp⟩
 refine C.Ir x z A H i (lR l) rfl rfl rfl (aki _) (fun _ _ _=>rfl) v (fun g J =>?_);obtain⟨E,K,Q,R⟩:=C.Ev x z A i J;refine⟨rfl,E,K,Q,fun j d m=>⟨fun O =>?_,fun B f S =>?_⟩⟩
 ·rcases e j d m with h|h
  ·subst h;cases O
  ·exact (R j d h O).keep fun b F P=>⟨F,Dp (Ub x z A H i (lR l) v) P,rfl⟩
 ·subst S;rcases e j _ m with h|h
  ·cases h
  ·obtain⟨u,F,P⟩:=C.Hw x z A i J h;have T:=(akI.1 h).1;rw[bf K (by omega)]at F;simp_all
def PE(hT:jL P T)(hI:Inv N M L w0 blk V t (EH h) a w){ty y c E s nv F m n:Nat}{p x:Operand}{τ:Ty}{r q:Row}{H:List D}{K:Value}{g:Nat×Nat}(ho:o.op=.store ty p x)(hτ:T ty=some τ)(c1:τ.size=1)
  (hx:h y=some r) (hm:r.mp=true) (hc:r.cells=[.nr E s nv H]) (Z:r.fz=false) (f:y<PK) (hg:blk y=some g) (aD:a.eval p=.pointer (some ⟨g.1,g.2+c,none⟩)) (i:c<H.length)
  (ao:h m=some q) (aq:m<PK) (aE:q.fz=false) (aO:q.lst=true) (ah:q.mp=false) (aP:q.ty=E) (hu:(a.eval x).cells = #[K]) (aM:K.oneCell'=true) (ar:JG w blk m s n K) (hV:∀o,¬V (NK y o) F) :
  ff P o a w (kW N M L w0 V t h a e o.dst ⟨.und,[(m,none),(y,some ⟨r.v,r.ty,[.nr E s F (putCells H c [.nx n q.cells])],false,r.lst,true⟩)]⟩):=by
 have aQ:=eD;have aN:=hI.big;have S:m≠y:=by
  grind
 have hK:∀o,NK y o≠y∧NK y o≠m∧2*PK<=NK y o:=fun o=>by have:=iz y o;omega
 obtain⟨B,k1,k2,k3⟩:=hI.Ev hx hm hc f hg;have U:=run_storeCells_at P g.1 (g.2+c) r.ty [K] 0 B w k1 (by simp;omega) (fun v hv=>by
  simp_all)
 rw[akO]at U;have au:(B.toList.take (g.2+c)++[K]++B.toList.drop (g.2+c+[K].length)).toArray.size=B.size:=by simp;omega
 have I:∀j,j<H.length->(B.toList.take (g.2+c)++[K]++B.toList.drop (g.2+c+[K].length)).toArray.getD (g.2+j) undef=if j=c then K else B.getD (g.2+j) undef:=by
  intro j R;rw[uH B [K] (g.2+c) (g.2+j) (by simp;omega)];grind
 generalize aR:(B.toList.take (g.2+c)++[K]++B.toList.drop (g.2+c+[K].length)).toArray=arr' at U au I;obtain⟨J,aF,hheap⟩:=Cj (g:=g) (arr':=arr') k1;have hA:=hI.ajP hx hm hc Z f i;have hB:=hA.ah7 (fun k=>∃o,k=NK y o) F (fun k hk=>by
  grind) (h':=EH (ca h y (some ⟨r.v,r.ty,[.nr E s F (putCells H c [.und])],false,r.lst,true⟩))) (fun k hk=>by
  obtain⟨o,rfl⟩:=hk;rw[eY (aB _ _ _) rfl rfl f,eY (aB _ _ _) rfl rfl f];cases (putCells H c [D.und])[o]? with
  | none=>rfl
  | some d=>cases d<;>rfl) (fun k hk=>by
  by_cases hky:rt k=y
  ·rcases pB hky with rfl|h
   ·rw[gH (aB _ _ _) rfl rfl f,gH (aB _ _ _) rfl rfl f]
   simp_all
  ·exact eC (by rw[aC _ _ hky,aC _ _ hky]))
 generalize av:ca h y (some (⟨r.v,r.ty,[.nr E s F (putCells H c [.und])],false,r.lst,true⟩:Row))=h2 at hB;have ai:h2 y=some ⟨r.v,r.ty,[.nr E s F (putCells H c [.und])],false,r.lst,true⟩:=by rw[<- av,aB]
 have W:∀z,z≠y->h2 z=h z:=fun z Z=>by rw[<- av,aC _ _ Z]
 have aj:EH h2 m=some q:=by
  rw[sJ (by omega),W _ S,ao];simp only[Option.map_some,Fc,ah];rfl
 have X:=(hB.rows m q aj).2;have aG:∀b,Own M (forget (EH h2) (some m)) blk b->Own M (EH h2) blk b:=fun b O=>by
  rcases O with O|⟨z,r',g',Z,aH,aI,aJ⟩
  ·exact .inl O
  ·simp only[forget]at Z
   by_cases aw:z=m
   ·subst aw;rw[aB]at Z;cases Z
   ·rw[aC _ _ aw]at Z;exact .inr ⟨z,r',g',Z,aH,aI,aJ⟩
 have hC:=hB.aab (w':=w) (h1:=forget (EH h2) (some m)) (old:=some m) (d:=NK y c) (r0:=⟨F,E,q.cells,false,true,false⟩) (go:=blk m) rfl rfl rfl (aki _) (fun _ _ _=>rfl) (fun y' C=>by simp_all) rfl (by have:=hK c;omega) (by have:=hK c;omega) (hV c)
  (fun y' r' j s' n' C aK Y=>by
   simp only[forget]at C
   by_cases ad:y'=m
   ·subst ad;rw[aB]at C;cases C
   rw[aC _ _ ad]at C;have ae:=(hB.rows y' r' C).2;cases O:blk y' with
   | none =>
    rw[O]at ae;rw[show r'.cells=[] from ae]at Y;cases Y
   | some g' =>
    obtain⟨⟨q1,q2⟩,_⟩:=hB.pha y' r' g' C aK O j _ s' n' Y;rcases q2 with q2|q2
    ·have:=hK c;omega
    ·obtain⟨rfl,rfl⟩:=vV f q1 q2;rw[gH ai rfl rfl f]at C;simp only[akq]at C;subst C;simp only[amj,gV i,Option.map_some,akq]at Y;cases Y) (by
  cases O:blk m with
  | none=>rw[O]at X;exact X
  | some g' =>
   obtain⟨ag,m1,m2,m3⟩:=hB.Hh aj O ah;refine⟨.inr ⟨m,g',rfl,O,rfl⟩,ag,by simp_all,m2,fun j d R=>⟨(m3 j d R).1,(m3 j d R).2.keep fun b q1 q2=>⟨q1,?_,rfl⟩⟩⟩;rintro (hn|rfl)
   ·simp_all
   ·exact q2 (.inr ⟨m,q,g',aj,aE,O,rfl⟩)) rfl
 generalize al:ca (forget (EH h2) (some m)) (NK y c) (some (⟨F,E,q.cells,false,true,false⟩:Row))=ax at hC;have aa:ax y=some ⟨r.v,r.ty,(putCells H c [.und]).mapIdx (vB y s),false,r.lst,true⟩:=by
  rw[<- al,aC _ _ (Ne.symm (hK c).1)];simp only[forget];rw[aC _ _ (Ne.symm S)];exact gH ai rfl rfl f
 have Q:ca blk (NK y c) (blk m) y=some g:=by rw[aC _ _ (Ne.symm (hK c).1),hg]
 have aL:(putCells H c [D.nx n q.cells]).length=H.length:=lR i;have hD:=hC.lU (r0:=⟨r.v,r.ty,(putCells H c [.nx n q.cells]).mapIdx (vB y s),false,r.lst,true⟩) (w':=w.setRow g.1 arr') aa rfl rfl rfl rfl rfl (by omega) (fun b _ O=>hheap b (O g Q)) (by
  rw[Q];refine⟨by simp[World.shape?,J,k1,au],?_⟩;have an:=hC.rowIs aa Q;unfold eJ at an ⊢;simp only at an ⊢;rcases an with⟨ks,vs,m1,_⟩|⟨m1,ag,m2,m3,m4⟩
  ·exfalso;have:=congrArg List.length m1;simp only[List.length_mapIdx,lR i,List.length_singleton]at this;have h0:c=0:=by omega
   subst h0;have ay:=congrArg (fun l:List D=>l[0]?) m1;simp only[amj,gV i,Option.map_some,List.getElem?_cons_zero,akq]at ay;cases ay
  ·rw[k1]at m2;simp only[akq,Obj.cells.injEq]at m2;obtain⟨rfl,-⟩:=m2;refine .inr ⟨fun d hd =>?_,arr',J,by simp_all,fun j d R =>?_⟩
   ·obtain⟨j,R⟩:=akB hd;simp only[amj,akg]at R;obtain⟨d0,A,rfl⟩:=R;exact nO _ _ _ _
   ·simp only[amj,akg]at R;obtain⟨d0,A,rfl⟩:=R;have ab:j<H.length:=by
     grind
    rw[I j ab]
    by_cases G:j=c
    ·subst G;rw[gV i]at A;cases A;trivial
    ·rw[if_neg G];rw[jq i G]at A;have:=m4 j (vB y s j d0) (by rw[amj,jq i G,A];rfl);exact this.keep fun b q1 q2=>⟨by rw[aF];exact q1,q2,hheap b (fun e=>q2 (.inr ⟨y,_,g,aa,rfl,Q,e.symm⟩))⟩) (fun h=>by cases h) (fun _ g' az j x' s' n' R=>by
  rw[Q]at az;cases az;simp only[amj,akg]at R;obtain⟨d0,A,he⟩:=R;have ab:j<H.length:=by
   grind
  by_cases G:j=c
  ·subst G;rw[gV i]at A;simp only[akq]at A;subst A;simp only[vB,D.ph.injEq]at he;obtain⟨rfl,rfl,rfl⟩:=he;refine⟨⟨f,.inr rfl⟩,K,by rw[bf J (by omega),I j ab,if_pos rfl],fun r' _ =>?_⟩;rw[aB];exact ar
  ·rw[jq i G]at A;obtain⟨q1,u,q2,q3⟩:=hC.pha y _ g aa rfl Q j x' s' n' (by rw[amj,jq i G,A,<- he];rfl);refine⟨q1,u,?_,q3⟩;rw[bf k1 (by omega)]at q2;rw[bf J (by omega),I j ab,if_neg G,q2])
 have aA:ca ax y (some (⟨r.v,r.ty,(putCells H c [.nx n q.cells]).mapIdx (vB y s),false,r.lst,true⟩:Row))=EH (aW h [(m,none),(y,some ⟨r.v,r.ty,[.nr E s F (putCells H c [.nx n q.cells])],false,r.lst,true⟩)]):=by
  simp only[aW];funext k
  by_cases hky:rt k=y
  ·rcases pB hky with rfl|⟨o',rfl⟩
   ·rw[aB,gH (aB _ _ _) rfl rfl f]
   ·rw[aC _ _ (hK o').1,eY (aB _ _ _) rfl rfl f,<- al]
    by_cases hoc:o'=c
    ·subst hoc;rw[aB,gV i];rfl
    ·rw[aC _ _ (fun e=>hoc (vV f f e).2)];simp only[forget];rw[aC _ _ (hK o').2.1,eY ai rfl rfl f,jq i hoc,jq i hoc]
  ·rw[aC _ _ (fun e=>hky (by rw[e,iV (by omega)])),<- al,aC _ _ (fun e=>hky (by rw[e,xe f]))];simp only[forget]
   by_cases hk1:rt k=m
   ·rcases pB hk1 with rfl|⟨o',rfl⟩
    ·rw[aB,sJ (by omega),aC _ _ S,aB];rfl
    ·rw[aC _ _ (by have:=iz m o';omega),sH aq,sH aq,W _ S,ao,aC _ _ S,aB];simp only[Option.bind_some,Option.bind_none,tx,ah];rfl
   ·rw[aC _ _ (fun e=>hk1 (by rw[e,iV (by omega)]))];exact eC (by rw[W _ hky,aC _ _ hky,aC _ _ hk1])
 refine .inr (.inl ⟨w.setRow g.1 arr',?_,ca blk (NK y c) (blk m),?_,trivial⟩)
 ·simp[execOp,ho,Instr.storeAt,Instr.sureAddr,aD,storeVar,run_sizeOf (hT ty τ hτ),c1,hu,U]
 ·show Inv _ _ _ _ _ _ _ (EH (aW h _)) _ _;rw[<- aA];exact hD.weaken fun _ _ h =>.inl h
def adC(V:Nat->Nat->Prop)(h:Nat->Option Row)(e:Nat):Prop:=∀x r c s b d a,h x=some r->r.mp=true->r.cells=[.nr c s b d]->x<PK->bump b e=some a->∀o,¬V (NK x o) a
def agv{g:Nat->Prop}{d:D}{e:List D}{u:Value}(c:plV d=some e)(r:e.all eZ=true)(i:RT w g h blk V d u):u.cells.toList.length=e.length∧∀(j:Nat) x,e[j]? = some x->eZ x=true∧RP w g (canon x) (u.cells.toList.getD j undef):=by
 have l:∀x∈e,eZ x=true:=aks.1 r;have one:∀(d0:D),e=[d0]->RP w g d0 u->u.cells.toList.length=e.length∧∀(j:Nat) x,e[j]? = some x->eZ x=true∧RP w g (canon x) (u.cells.toList.getD j undef):=by
  intro d0 t m;subst t;have o:=l d0 (by simp);have v:=m.cells (eV o).1;rw[v];refine⟨rfl,fun j x f =>?_⟩;cases j with
  | zero=>simp only[List.getElem?_cons_zero,akq]at f;subst f;exact⟨o,m.canon⟩
  | succ j=>simp at f
 cases d with
 | agg xs =>
  simp only[plV,akq]at c;subst c;have p:RP w g (.agg xs) u:=i;cases p with
  | agg xs us h1 h2 h3 =>
   have q:(Value.agg us.toArray).cells.toList=us:=by simp[Value.cells]
   rw[q];exact⟨h1,fun j x f=>⟨l x (akG f),(h2 j x f).canon⟩⟩
 | int k n=>simp only[plV,akq]at c;exact one _ c.symm i
 | bool b=>simp only[plV,akq]at c;exact one _ c.symm i
 | str s=>simp only[plV,akq]at c;exact one _ c.symm i
 | sl a b n xs=>simp only[plV,akq]at c;exact one _ c.symm i
 | _=>cases c
def aa0(hT:jL P T)(W:Inv N M L w0 blk V t (EH h) a w)(ai:adC V h e){ty:Nat}{p x:Operand}{τ:Ty}{E:cv}(ho:o.op=.store ty p x)(hτ:T ty=some τ)(b:p9 τ e h (ev t p) (ev t x)=some E):ff P o a w (kW N M L w0 V t h a e o.dst E):=by
 have hp:=W.ev p;have hq:=W.ev x;generalize ev t p=pd at *;generalize ev t x=d at *;unfold p9 at b;split at b<;>try (cases b;done)
 rename_i y v c;split at b<;>try (cases b;done)
 rename_i r H s nv cs hl;obtain⟨O,hv,hz,Q,C,R⟩:=jI hl;have aj:=gH O Q R C;obtain⟨g,hg,I⟩:=hp.2 _ aj hv;split at b<;>try (cases b;done)
 rename_i f;obtain⟨X,aA⟩:=f;have J:NW τ y r H s nv cs c (plV d)=some E->ff P o a w (kW N M L w0 V t h a e o.dst E):=by
  intro b;unfold NW at b;split at b<;>try (cases b;done)
  rename_i Y al;split at b<;>try (cases b;done)
  rename_i f;obtain⟨d1,d2⟩:=f;simp only[akq]at b;subst b;obtain⟨u1,u2⟩:=agv al d2 hq;have aC:(Y.map canon).length=τ.size:=by simp_all
  have m:c+(Y.map canon).length<=cs.length:=by omega
  refine Gf hT W ho hτ O Q R hz C hg I rfl (u1.trans d1) X (fun u hu =>?_) (kI m) (fun j S i l =>?_) (fun j l =>?_) (fun j d0 l D =>?_)
  ·obtain⟨j,l⟩:=akB hu;have aD:=(akI.1 l).1;obtain⟨Z,q2⟩:=u2 j _ (aku (by omega));have e1:(a.eval x).cells.toList.getD j undef=u:=by simp_all
   rw[e1]at q2;exact q2.sn (by rw[pr];exact (eV Z).1)
  ·rw[ow m]at l;split at l
   ·exact⟨S,i,i.length,l,by simp⟩
   ·split at l
    ·rw[akf,akg]at l;obtain⟨x0,h1,h2⟩:=l;have:=(u2 _ x0 h1).1;cases x0<;>first|(cases h2;done)|(cases this;done)
    ·exact⟨S,i,i.length,l,by simp⟩
  ·rw[ow m];grind
  ·rw[ow m,if_neg (by omega),if_pos (by omega),al5,akf,akg]at D;obtain⟨x0,h1,rfl⟩:=D;obtain⟨Z,q2⟩:=u2 j x0 h1;refine⟨fun _=>q2,fun S i he =>?_⟩;cases x0<;>first|(cases he;done)|(cases Z;done)
 unfold JA at b;split at b
 ·rename_i z vz s' oz n;split at b<;>try (cases b;done)
  rename_i f;obtain⟨c1,rfl,rfl⟩:=f;have aa:∀{k:Nat}{q:Row},EH h z=some q->q.v=vz->JG w blk z s' n (a.eval x):=by
   intro k q an ao;rcases hq.2 q an ao with⟨g',o',Y,N',t',k0,U,k2,k3,k4,k5⟩|⟨k0,U,A,k2⟩
   ·obtain⟨k6,k7⟩:=k2 (.inr rfl);rw[akO]at k6;subst k6;exact .inl ⟨g',Y,N',t',k0,U,k7,k3,k4,k5⟩
   ·exact .inr ⟨k0,U,A,k2⟩
  have ab:∀{B:JG w blk z s' n (a.eval x)},(a.eval x).cells = #[a.eval x]∧(a.eval x).oneCell'=true:=by
   intro B;rcases B with⟨g',Y,N',t',k0,U,_⟩|⟨k0,U,A,k2⟩
   ·rw[U];exact⟨rfl,rfl⟩
   ·rw[k2];exact⟨rfl,rfl⟩
  split at b
  ·rename_i aq;subst aq;split at b<;>try (cases b;done)
   rename_i ar;subst ar;rw[amz]at b;unfold NV at b;split at b<;>try (cases b;done)
   rename_i n0 xs hn;split at b<;>try (cases b;done)
   rename_i aB;simp only[akq]at b;subst b;have au:EH h (NK y c)=some ⟨vz,H,xs,r.fz,true,false⟩:=by rw[eY O Q R C,hn];rfl
   have hH:=aa (k:=0) au rfl;obtain⟨K,G⟩:=ab (B:=hH);have F:=(akI.1 hn).1;refine Gf hT W ho hτ O Q R hz C hg I (us:=[a.eval x]) (by rw[K]) (by simpa using c1.symm) X (fun u hu=>by simp_all) (lR F) (fun j S i l =>?_) (fun j l=>jq F (by omega)) (fun j d0 l D =>?_)
   ·by_cases ad:j=c
    ·subst ad;rw[gV F]at l;grind
    ·rw[jq F ad]at l;exact⟨S,i,i.length,l,by simp⟩
   ·obtain rfl:j=0:=by omega
    rw[akO,gV F]at D;simp only[akq]at D;subst D;refine⟨fun hd=>(by cases hd),fun S i he =>?_⟩;simp_all
  ·split at b<;>try (cases b;done)
   rename_i av;split at b<;>try (cases b;done)
   rename_i q ae;split at b<;>try (cases b;done)
   rename_i aw;obtain⟨Z,q2,q3,q4⟩:=aw;obtain⟨ag,ax⟩:=cQ ae;have ah:=jz ae;unfold DB at b;split at b<;>try (cases b;done)
   rename_i ay hb;simp only[akq]at b;subst b;have az:EH h z=some q:=by
    rw[sJ (by omega),ag];simp only[Option.map_some,Fc,ah];rfl
   have hH:=aa (k:=0) az ax;obtain⟨K,G⟩:=ab (B:=hH);exact PE hT W ho hτ c1 O Q R hz C hg I (by omega) ag av Z q2 ah q3 K G hH (ai y r H s' nv cs ay O Q R C hb)
 ·exact J b
end
def acg:Option D->Bool
 | some (.sl true true 0 [])=>true
 | _=>false
def pH(φ:Ty)(f:Nat):List D:=putCells ((φ.zero.map qL).map canon) f [.nx 0 []]
def pK(T:Nat->Option Ty)(τ:Ty)(e d a s f:Nat)(l c:D):Option cv :=
 match τ.ds with
 | .slice el =>
  match T el,tw l,tw c with
  | some φ,some l,some c =>
   if l<=c∧c<=maxLen∧c*φ.bytes<=140737488355328∧0<φ.size∧(φ.zero.map qL).all eZ=true∧φ.zero.length=φ.size∧d<PK∧acg ((φ.zero.map qL).drop f).head? = true then
    some ⟨.buf d e φ.size 0 l,[(d,some ⟨e,el,[.nr a s (4*e+2) (qv l (pH φ f))],false,true,true⟩)]⟩
   else none
  | _,_,_=>none
 | _=>none
def mkA(τ:Ty)(b e d a s f:Nat):Option cv :=
 if 0<τ.size∧(τ.zero.map qL).all eZ=true∧τ.zero.length=τ.size∧d<PK∧acg ((τ.zero.map qL).drop f).head? = true then
  some ⟨.ptr d e 0,[(d,some ⟨e,b,[.nr a s (4*e+2) (pH τ f)],false,false,true⟩)]⟩
 else none
def jg(T:Nat->Option Ty)(Γ:Env)(e:Nat)(o:Oper)(g:Operand->D):Option cv :=
 match o.op with
 | .makeSlice b l c =>
  match o.dst with
  | some d =>
   match Γ.nst d with
   | some (a,s,f)=>match T b with|some τ=>pK T τ e d a s f (g l) (g c)|none=>none
   | none=>none
  | none=>none
 | .alloc b =>
  match o.dst with
  | some d =>
   match Γ.nst d with
   | some (a,s,f)=>match T b with|some τ=>mkA τ b e d a s f|none=>none
   | none=>none
  | none=>none
 | _=>none
section
variable {P:Program} {T:Nat->Option Ty} {N:Nat} {M:Nat->Prop} {L:kz} {w0:World} {blk:Nat->Option (Nat×Nat)} {V:Nat->Nat->Prop} {t:Nat->D} {h:Nat->Option Row} {a:Act} {w:World} {e:Nat} {o:Oper} {Γ:Env}
def Inv.addEmpty(l:Inv N M L w0 blk V t h a w)(S:Nat->Prop)(Z Q:Nat)(hS:∀k,S k->N<=k∧k≠0∧¬V k Q∧h k=none){h':Nat->Option Row}{blk':Nat->Option (Nat×Nat)}(he:∀k,S k->h' k=some ⟨Q,Z,[],false,true,false⟩∧blk' k=none)(F:∀k,¬S k->h' k=h k∧blk' k=blk k)
  (R:∀y r g,h y=some r->r.mp=true->blk y=some g->∀j x s n:Nat,r.cells[j]? = some (D.ph x s n)->S x->∃u,w.cell? ⟨g.1,g.2+j,none⟩=some u∧n=0∧∃A,u=.slice A 0 0):Inv N M L w0 blk' V t h' a w:=by
 have q:∀x d,h' x=some d->(S x∧d=⟨Q,Z,[],false,true,false⟩∧blk' x=none)∨(¬S x∧h x=some d∧blk' x=blk x):=by
  grind
 have T:∀b,¬Own M h blk b->¬Own M h' blk' b:=by
  intro b G z;rcases z with z|⟨x,d,g,H,U,m,e⟩
  ·exact G (.inl z)
  ·rcases q x d H with⟨_,_,f⟩|⟨_,o,f⟩
   ·simp_all
   ·exact G (.inr ⟨x,d,g,o,U,f ▸ m,e⟩)
 have I:Fz w w (Own M h blk) (Own M h' blk') h h' blk blk' V V:=⟨fun b C p=>⟨C,T b p,rfl⟩,fun _ _ h=>h,fun x v hv d C p=>by
  grind⟩
 exact {
  tab:=l.tab.keep fun b C p=>⟨C,T b p,rfl⟩
  below:=l.below
  mlt:=l.mlt
  bY:=l.bY
  pin:=fun go m=>⟨(l.pin go m).1,fun d hr hv=>by
   rcases q 0 d hr with⟨k1,_⟩|⟨_,o,f⟩
   ·grind
   ·rw[f];exact (l.pin go m).2 d o hv⟩
  defers:=l.defers
  tsz:=l.tsz
  slots:=fun i=>(l.slots i).mono I
  rows:=fun x d H=>by
   rcases q x d H with⟨k1,rfl,f⟩|⟨_,o,f⟩
   ·rw[f];exact⟨fun hn=>by grind,rfl⟩
   ·obtain⟨C,p⟩:=l.rows x d o;rw[f];refine⟨C,?_⟩;cases G:blk x with
    | none=>rw[G]at p;exact p
    | some g =>
     rw[G]at p;exact⟨p.1,p.2.keep rfl rfl rfl rfl fun b E B=>⟨E,T b B,rfl⟩⟩
  inj:=fun x y r s g g' H J m W e=>by
   rcases q x r H with⟨_,_,f⟩|⟨_,o,f⟩
   ·simp_all
   rcases q y s J with⟨_,_,O⟩|⟨_,B,O⟩
   ·simp_all
   exact l.inj x y r s g g' o B (f ▸ m) (O ▸ W) e
  big:=l.big
  pha:=fun y d g J hm m j x s n hc=>by
   rcases q y d J with⟨_,rfl,f⟩|⟨_,o,f⟩
   ·simp_all
   rw[f]at m;obtain⟨h0,u,E,B⟩:=l.pha y d g o hm m j x s n hc;refine⟨h0,u,E,?_⟩
   by_cases P:S x
   ·obtain⟨u',p1,p2,p3⟩:=R y d g o hm m j x s n hc P;rw[E]at p1;cases p1;exact fun K _ =>.inr ⟨(he x P).2,p2,p3⟩
   ·exact fun K O=>by
     rw[(F x P).2];exact B K ((F x P).1 ▸ O)
  ali:=fun y d g J U X m j c d' hj Y=>by
   rcases q y d J with⟨_,rfl,f⟩|⟨_,o,f⟩
   ·simp_all
   rw[f]at m;obtain⟨u,E,B⟩:=l.ali y d g o U X m j c d' hj Y;exact⟨u,E,B.mono I⟩ }
def BD(d:Nat)(c:d<PK):Fh (EH h) (EH (ca h d none)):=by
 intro k e a
 by_cases b:rt k=d
 ·rcases pB b with rfl|⟨o,rfl⟩
  ·rw[sJ (by omega),aB]at a;cases a
  ·rw[sH c,aB]at a;cases a
 ·exact⟨e,by rw[<- a];exact eC (aC _ _ b).symm,.refl _⟩
def WJ{v:Value}(h:qL v=.sl true true 0 []):v=.slice none 0 0:=by
 unfold qL at h;grind
open Classical in
def aaY(hT:jL P T)(hI:Inv N M L w0 blk V t (EH h) a w){ty d Y s f:Nat}{l c:Operand}{τ:Ty}{E:cv}(ho:o.op=.makeSlice ty l c)(hd:o.dst=some d)(hV:ky N V d e)(aA:∀o,¬V (NK d o) (4*e+2))(hτ:T ty=some τ)
  (K:pK T τ e d Y s f (ev t l) (ev t c)=some E):ff P o a w (kW N M L w0 V t h a e o.dst E):=by
 have an:=hI.ev l;have ao:=hI.ev c;have az:=hI.big;have aD:=eD;obtain⟨dd,C,hc⟩:=under hT hτ;unfold pK at K;split at K<;>try (cases K;done)
 rename_i el aq;rw[aq]at hc;have:=ib hc;subst this;split at K<;>try (cases K;done)
 rename_i φ n k hφ hn I;split at K<;>try (cases K;done)
 rename_i Z;obtain⟨c1,c2,c3,c4,c5,c6,q,c8⟩:=Z;simp only[akq]at K;subst K;obtain⟨q1,hl⟩:=zn hn an;obtain⟨q2,ar⟩:=zn I ao;obtain⟨d',i,z,g1,g2,g3,g4,g5,g6,g7⟩:=(hT el φ hφ).get;have hb:(i.bytes:Int)*(k:Int)<=281474976710656:=by
  grind
 have ag:(k:Int)<=9223372036854775807:=by
  simp only[maxLen]at c2;omega
 have F:=run_make (P:=P) w ty el i z C g3 g6 q1 q2 n k (by omega) (by omega) hb ag;simp only[Int.toNat_natCast]at F;have aE:(φ.zero.map qL).length=φ.size:=by simp_all
 have hf:f<φ.size:=by
  rw[amz]at c8;rcases akV f φ.size with aa|aF
  ·exact aa
  ·rw[amA (by omega)]at c8;cases c8
 have ah:(φ.zero.map qL)[f]? = some (.sl true true 0 []):=by
  rw[amz]at c8;unfold acg at c8;grind
 have ai:(pH φ f).length=φ.size:=by
  unfold pH;rw[lR (by simp;omega)];simp[c6]
 have U:∀(m:Nat)(x:D),(pH φ f)[m]? = some x->(m=f∧x=.nx 0 [])∨(m≠f∧∃y,(φ.zero.map qL)[m]? = some y∧x=canon y):=by
  intro m x hm;unfold pH at hm
  by_cases aj:m=f
  ·subst aj;rw[gV (by simp;omega)]at hm;simp_all
  ·rw[jq (by simp;omega) aj,akf,akg]at hm;grind
 generalize al:madeCells z.cells (k*i.size)=vs at F;have au:vs.size=k*φ.size:=by rw[<- al];simp[madeCells,g4]
 have W:∀j,j<k*φ.size->vs.getD j undef=φ.zero.toArray.getD (j % φ.size) undef:=by
  intro j p;rw[<- al,g7,g4,<- c6];have:=yW φ.zero k j (by rw[c6];exact p);simpa [madeCells,List.getD] using this
 have ab:∀(j:Nat)(x:D),(qv n (pH φ f))[j]? = some x->j<n*φ.size∧(pH φ f)[j % φ.size]? = some x:=by
  intro j x p;have:=Fm _ _ _ _ p
  rwa [ai]at this
 have aG:n*φ.size<=k*φ.size:=akW _ c1;have X:∀(M':Nat->Prop)(w':World)(j:Nat)(x:D),(qv n (pH φ f))[j]? = some x->eZ x=true->RP w' M' x (vs.getD j undef):=by
  intro M' w' j x p av;obtain⟨r1,r2⟩:=ab j x p;rw[W j (by omega)];rcases U _ x r2 with⟨_,rfl⟩|⟨_,y,h1,rfl⟩
  ·cases av
  ·exact (tP (w:=w') (M:=M') φ.zero (aks.2 fun y hy=>(eV (aks.1 c5 y hy)).1) _ y h1).2.canon
 have G:∀(j:Nat)(n':Nat)(H:List D),(qv n (pH φ f))[j]? = some (.nx n' H)->n'=0∧H=[]∧vs.getD j undef=.slice none 0 0:=by
  intro j n' H p;obtain⟨r1,r2⟩:=ab j _ p;rcases U _ _ r2 with⟨hm,O⟩|⟨_,y,h1,O⟩
  ·simp only[D.nx.injEq]at O;refine⟨O.1,O.2,?_⟩;rw[W j (by omega),hm];rw[akf,akg]at ah;obtain⟨v,v1,v2⟩:=ah;simp only[akm,List.getElem?_toArray,v1,Option.getD_some];exact WJ v2
  ·have:=aks.1 c5 y (akG h1);cases y<;>first|(cases O;done)|(cases this;done)
 generalize aw:qv n (pH φ f)=cs at ab X G;have aH:cs.length=n*φ.size:=by rw[<- aw,uo,ai]
 have hA:=hI.le (BD (h:=h) d q);have hold:∀b,b<w.heap.size->(w.alloc (.cells vs el)).heap[b]? = w.heap[b]?:=fun b hb=>Below.heap_alloc w _ b hb;have Q:=(Below.refl w.heap.size w).alloc (aki _) (.cells vs el);have B:=heap_alloc_new w (.cells vs el);have ad:∀o,EH (ca h d none) (NK d o)=none:=fun o=>by rw[sH q,aB];rfl
 have ae:∀o,NK d o≠d:=fun o=>by have:=iz d o;omega
 have hB:=hA.FI (w':=w.alloc (.cells vs el)) (h1:=EH (ca h d none)) (old:=none) (d:=d) (e:=e) (r0:=⟨e,el,cs.mapIdx (vB d s),false,true,true⟩) (go:=some (w.heap.size,0)) Q.os Q.tape Q.output Q.size (fun k I _=>hold k I) (fun y hy=>by cases hy) rfl hV
  ⟨.inl (aki _),.inr ⟨fun x hx=>by
   obtain⟨j,p⟩:=akB hx;simp only[amj,akg]at p;obtain⟨d0,A,rfl⟩:=p;exact nO _ _ _ _,vs,B,by grind,fun j x p=>by
   simp only[amj,akg]at p;obtain⟨d0,A,rfl⟩:=p;rw[alf]
   by_cases C:eZ d0=true
   ·rw[kK C];exact (eV C).2.2.2 (X _ _ j d0 A C)
   ·cases d0<;>first|trivial|exact absurd rfl C⟩⟩ rfl rfl (fun _ g hg j x s' n' p=>by
   cases hg;simp only[amj,akg]at p;obtain⟨d0,A,O⟩:=p;obtain⟨H,rfl,rfl,rfl⟩:=tO O;have aa:=(akI.1 A).1;refine⟨⟨q,.inr rfl⟩,_,bf B (by omega),fun r hr =>?_⟩;rw[aC _ _ (ae j),ad]at hr;cases hr)
 obtain⟨S,hS⟩:∃S:Nat->Prop,∀k,S k↔∃o H,k=NK d o∧cs[o]? = some (.nx 0 H):=⟨_,fun _=>Iff.rfl⟩;have hC:=hB.addEmpty S Y (4*e+2) (h':=EH (ca h d (some ⟨e,el,[.nr Y s (4*e+2) cs],false,true,true⟩))) (blk':=fun k=>if S k then none else ca blk d (some (w.heap.size,0)) k) (fun k I=>by
   obtain⟨J,H,rfl,R⟩:=(hS k).1 I;have:=iz d J;refine⟨by omega,by omega,?_,by rw[aC _ _ (ae J),ad]⟩;grind) (fun k I=>by
   refine⟨?_,by rw[if_pos I]⟩;obtain⟨J,H,rfl,R⟩:=(hS k).1 I;rw[eY (aB _ _ _) rfl rfl q,R];obtain⟨_,rfl,_⟩:=G J 0 H R;rfl) (fun k I=>by
   refine⟨?_,by rw[if_neg I]⟩
   by_cases hkd:rt k=d
   ·rcases pB hkd with rfl|⟨J,rfl⟩
    ·rw[aB,gH (aB _ _ _) rfl rfl q]
    ·rw[aC _ _ (ae J),ad,eY (aB _ _ _) rfl rfl q];cases aI:cs[J]? with
     | none=>rfl
     | some d0 =>
      cases d0 with
      | nx n' H =>
       grind
      | _=>rfl
   ·rw[aC _ _ (fun e=>hkd (by rw[e,iV (by omega)]))];exact eC (by rw[aC _ _ hkd,aC _ _ hkd])) (fun y r g hy hm hg j x s' n' p hs=>by
   obtain⟨J,H,rfl,R⟩:=(hS _).1 hs;obtain⟨⟨p1,p2⟩,u,p3,_⟩:=hB.pha y r g hy hm hg j _ s' n' p;rcases p2 with p2|p2
   ·have:=iz d J;omega
   obtain⟨rfl,rfl⟩:=vV q p1 p2;rw[aB]at hy hg;cases hy;cases hg;simp only[amj,akg]at p;obtain⟨d0,A,O⟩:=p;obtain⟨ax,rfl,_,rfl⟩:=tO O;obtain⟨k1,_,k3⟩:=G J n' ax A;have aa:=(akI.1 A).1;refine⟨_,bf B (by omega),k1,none,?_⟩;grind)
 have ay:¬S d:=fun hs=>by
  grind
 refine aP (v:=.slice (some ⟨w.heap.size,0,none⟩) n k) (w':=w.alloc (.cells vs el)) ?_ ⟨fun k=>if S k then none else ca blk d (some (w.heap.size,0)) k,?_,?_⟩
 ·simp[execOp,ho,hl,ar,F]
 ·refine hC.weaken fun x v hx =>?_;grind
 ·exact vW (g:=(w.heap.size,0)) (.inr ⟨hd,rfl⟩) (by rw[if_neg ay,aB]) B c1 c2 (by rw[au];simp)
end
section
variable {P:Program} {T:Nat->Option Ty} {N:Nat} {M:Nat->Prop} {L:kz} {w0:World} {blk:Nat->Option (Nat×Nat)} {V:Nat->Nat->Prop} {t:Nat->D} {h:Nat->Option Row} {a:Act} {w:World} {e:Nat} {o:Oper} {Γ:Env}
def Inv.afM(l:Inv N M L w0 blk V t h a w)(S:Nat->Prop){w':World}{h':Nat->Option Row}{blk':Nat->Option (Nat×Nat)}{V':Nat->Nat->Prop}(hVV:∀x v,V x v->V' x v)
  (ab:w'.os=w.os) (P:w'.tape=w.tape) (X:w'.output=w.output) (Q:w.heap.size<=w'.heap.size)
  (hblock:∀k,k<w.heap.size->(∀x r g,S x->h x=some r->blk x=some g->k≠g.1)->w'.heap[k]? = w.heap[k]?)
  (ad:∀x r,S x->h x=some r->r.fz=false)
  (o:∀x,¬S x->h' x=h x∧blk' x=blk x)
  (ae:∀x r,S x->h' x=some r->r.fz=false∧(x<N->V' x r.v)∧(match blk' x with
   | some g=>(w.heap.size<=g.1∨∃y s E,S y∧h y=some s∧blk y=some E∧g.1=E.1)∧eJ w' (Own M h' blk') g r
   | none=>r.cells=[]))
  (an:∀x y r s g H,S x->S y->h' x=some r->h' y=some s->blk' x=some g->blk' y=some H->g.1=H.1->x=y)
  (ag:∀x r,S x->V x r.v->h' x=some r->(∃r0,h x=some r0∧r0.v=r.v)∧blk' x=blk x∧∀g,blk x=some g->w'.shape? g.1=w.shape? g.1)
  (ao:∀y r g,S y->h' y=some r->r.mp=true->blk' y=some g->∀j x s n:Nat,r.cells[j]? = some (D.ph x s n)->Ta y j x∧∃u,w'.cell? ⟨g.1,g.2+j,none⟩=some u∧PhR w' h' blk' x s n u)
  (ah:∀y r (j x s n:Nat),¬S y->h y=some r->r.mp=true->r.cells[j]? = some (D.ph x s n)->¬S x) :
  Inv N M L w0 blk' V' t h' a w':=by
 have hother:∀x r g,¬S x->h x=some r->blk x=some g->w'.heap[g.1]? = w.heap[g.1]?:=fun x r g hs f d=>hblock _ (l.lt f d) (fun y r' H A ai m e=>hs (by rw[l.inj x y r r' g H f ai d m e];exact A));have R:∀b,b<w.heap.size->¬Own M h blk b->w'.heap[b]? = w.heap[b]?:=fun b hb hn=>hblock b hb fun x r g hs f d I=>hn (.inr ⟨x,r,g,f,ad x r hs f,d,I.symm⟩);have G:∀x r g,h' x=some r->blk' x=some g->w.heap.size<=g.1∨∃y s E,h y=some s∧blk y=some E∧g.1=E.1∧(S y↔S x)∧(s.fz=false∨s=r)∧(S x∨y=x):=by
  intro x r g f d
  by_cases hs:S x
  ·grind
  grind
 have Y:∀b,b<w.heap.size->¬Own M h blk b->¬Own M h' blk' b:=by
  intro b hb hn T;rcases T with T|⟨x,r,g,f,hz,d,I⟩
  ·exact hn (.inl T)
  ·rcases G x r g f d with k|⟨y,s,E,C,B,F,_,W,_⟩
   ·omega
   ·exact hn (.inr ⟨y,s,E,C,W.elim id (fun e=>by rw[e];exact hz),B,by rw[<- F,I]⟩)
 have hk:∀b,b<w.heap.size->¬Own M h blk b->b<w'.heap.size∧¬Own M h' blk' b∧w'.heap[b]? = w.heap[b]?:=fun b h1 h2=>⟨by omega,Y b h1 h2,R b h1 h2⟩;have Z:∀x v,V x v->∀r',h' x=some r'->r'.v=v->(∃r,h x=some r∧r.v=v)∧blk' x=blk x∧∀g,blk x=some g->w'.shape? g.1=w.shape? g.1:=by
  intro x v hv r' f hr
  by_cases hs:S x
  ·grind
  ·obtain⟨C,B⟩:=o x hs;rw[C]at f;exact⟨⟨r',f,hr⟩,B,fun g d=>dj (hother x r' g hs f d)⟩
 have aa:Fz w w' (Own M h blk) (Own M h' blk') h h' blk blk' V V':=⟨hk,hVV,Z⟩;exact {
  tab:=l.tab.keep hk
  below:=l.below.trans (L':=fun k=>∃x r g,S x∧h x=some r∧blk x=some g∧k=g.1) ⟨ab,P,X,Q,fun k aj hn=>hblock k aj (fun x r g hs f d I=>hn ⟨x,r,g,hs,f,d,I⟩)⟩ (fun k ⟨x,r,g,hs,f,d,I⟩ aq=>by
   rcases l.base f d with hb|hb
   ·omega
   grind)
  mlt:=l.mlt
  bY:=l.bY
  pin:=fun p hp=>⟨hVV _ _ (l.pin p hp).1,fun r hr hv=>by
   obtain⟨⟨r0,C,B⟩,F,W⟩:=Z 0 0 (l.pin p hp).1 r hr hv;obtain⟨O,J⟩:=(l.pin p hp).2 r0 C B;grind⟩
  defers:=l.defers
  tsz:=l.tsz
  slots:=fun i=>(l.slots i).mono aa
  rows:=fun x r f=>by
   by_cases hs:S x
   ·obtain⟨C,B,F⟩:=ae x r hs f;refine⟨B,?_⟩;cases d:blk' x with
    | none=>rw[d]at F;exact F
    | some g =>
     rw[d]at F;refine⟨?_,F.2⟩;rcases F.1 with q|⟨y,s,E,_,J,q3,q4⟩
     ·exact .inl (akk l.below.size q)
     ·rw[q4];exact l.base J q3
   ·obtain⟨C,B⟩:=o x hs;rw[C]at f;rw[B];exact⟨fun hn=>hVV _ _ ((l.rows x r f).1 hn),(l.rows x r f).2.keep (fun g d=>hother x r g hs f d) hk⟩
  inj:=fun x y r s g H f A d m I=>by
   by_cases K:S x
   ·by_cases U:S y
    ·grind
    ·exfalso;obtain⟨C,B⟩:=o y U;rw[C]at A;rw[B]at m;rcases G x r g f d with k|⟨z,s0,E,O,J,q3,q4,_⟩
     ·have:=l.lt A m;omega
     ·have:=l.inj z y s0 s E H O A J m (q3.symm.trans I);grind
   ·obtain⟨C,B⟩:=o x K;rw[C]at f;rw[B]at d
    by_cases U:S y
    ·exfalso;rcases G y s H A m with k|⟨z,s0,E,O,J,q3,q4,_⟩
     ·have:=l.lt f d;omega
     ·have:=l.inj z x s0 r E g O f J d (q3.symm.trans I.symm);grind
    ·obtain⟨F,W⟩:=o y U;rw[F]at A;rw[W]at m;exact l.inj x y r s g H f A d m I
  big:=l.big
  pha:=fun y r g A hm d j x s n hc=>by
   by_cases hs:S y
   ·grind
   ·obtain⟨C,B⟩:=o y hs;rw[C]at A;rw[B]at d;obtain⟨h0,u,O,J⟩:=l.pha y r g A hm d j x s n hc;have K:=ah y r j x s n hs A hm hc;obtain⟨F,W⟩:=o x K;exact⟨h0,u,(ake (a:=⟨g.1,g.2+j,none⟩) (hother y r g hs A d)).trans O,J.mono fun r' g1=>by
     rw[F]at g1;exact⟨⟨r',g1⟩,W,fun H m=>dj (hother x r' H K g1 m)⟩⟩
  ali:=fun y r g A hz hl d j c d' hj al=>by
   by_cases hs:S y
   ·grind
   ·obtain⟨C,B⟩:=o y hs;rw[C]at A;rw[B]at d;obtain⟨u,O,J⟩:=l.ali y r g A hz hl d j c d' hj al;exact⟨u,(ake (a:=⟨g.1,g.2+j,none⟩) (hother y r g hs A d)).trans O,J.mono aa⟩ }
def Va{h:Nat->Option Row}{k:Nat}(a:h (rt k)=none):EH h k=none:=by
 have:=eC (h:=h) (h':=fun _=>none) (k:=k) a;rw[this];unfold EH;split<;>rfl
def fF{h:Nat->Option Row}{x k:Nat}{r a:Row}{d s e:Nat}{b:List D}(f:h x=some r)(g:r.mp=true)(i:r.cells=[.nr d s e b])(j:x<PK)(m:rt k=x)(c:EH h k=some a) :
  (k=x∧a=⟨r.v,r.ty,b.mapIdx (vB x s),r.fz,r.lst,true⟩)∨∃o n l,k=NK x o∧b[o]? = some (.nx n l)∧a=⟨e,d,l,r.fz,true,false⟩:=by
 rcases pB m with rfl|⟨o,rfl⟩
 ·rw[gH f g i j]at c;simp_all
 ·rw[eY f g i j]at c;unfold Et at c;grind
def Cg{x:Nat}(a:x<PK):rt x=x:=iV (by omega)
def aeB{r c:Row}{k:Nat}(a:EH (oJ r) k=some c):rt k=0:=by
 by_cases b:rt k=0
 ·exact b
 ·rw[Va (by unfold oJ;rw[if_neg b])]at a;cases a
def pW:0<PK:=by rw[eD];decide
def kv{k b t s c:Nat}{a:List D}{d:Row}(e:EH (oJ (jA b t s c a)) k=some d) :
  (k=0∧d=⟨0,b,a.mapIdx (vB 0 s),false,true,true⟩)∨∃o n f,k=NK 0 o∧a[o]? = some (.nx n f)∧d=⟨c,t,f,false,true,false⟩ :=
 fF (r:=jA b t s c a) rfl rfl rfl pW (aeB e) e
def yH{a t s c:Nat}{b:List D}:EH (oJ (jA a t s c b)) 0=some ⟨0,a,b.mapIdx (vB 0 s),false,true,true⟩ :=
 gH (r:=jA a t s c b) rfl rfl rfl pW
def wM{c t s a o n:Nat}{b d:List D}(e:b[o]? = some (.nx n d)):EH (oJ (jA c t s a b)) (NK 0 o)=some ⟨a,t,d,false,true,false⟩:=by
 rw[eY (r:=jA c t s a b) rfl rfl rfl pW,e];rfl
def YH(x k:Nat):Nat:=@ite _ (k<2*PK) (ltB k (2*PK)) x (NK x (k / PK-2))
def u4(x:Nat):YH x 0=x:=if_pos (by have:=eD;omega)
def sh(x o:Nat):YH x (NK 0 o)=NK x o:=by
 unfold YH;rw[if_neg (by have:=iz 0 o;omega),FA o pW]
def tT(blk:Nat->Option (Nat×Nat))(x k:Nat):Option (Nat×Nat):=blk (YH x k)
def InX(blk:Nat->Option (Nat×Nat))(h:Nat->Option Row)(x b:Nat):Prop:=∃k r g,rt k=x∧EH h k=some r∧blk k=some g∧g.1=b
def Mv{h:Nat->Option Row}{x:Nat}{r:Row}{m s q:Nat}{p:List D}(e:h x=some r)(f:r.mp=true)(i:r.cells=[.nr m s q p])(c:x<PK)(b:Nat):y6 (tT blk x) (EH (oJ (jA r.ty m s 0 p))) b↔InX blk h x b:=by
 constructor
 ·rintro⟨k,t,g,j,a,d⟩;rcases kv j with⟨rfl,_⟩|⟨o,n,u,rfl,l,_⟩
  ·rw[tT,u4]at a;exact⟨x,_,g,Cg c,gH e f i c,a,d⟩
  ·rw[tT,sh]at a;exact⟨NK x o,_,g,xe c,by rw[eY e f i c,l];rfl,a,d⟩
 ·rintro⟨k,t,g,v,j,a,d⟩;rcases fF e f i c v j with⟨rfl,_⟩|⟨o,n,u,rfl,l,_⟩
  ·exact⟨0,_,g,yH,by rw[tT,u4];exact a,d⟩
  ·exact⟨NK 0 o,_,g,wM l,by rw[tT,sh];exact a,d⟩
def Inv.agj(E:Inv N M L w0 blk V t (EH h) a w){x:Nat}{r:Row}{G s W:Nat}{H:List D}(z:h x=some r)(A:r.mp=true)(B:r.cells=[.nr G s W H])(hz:r.fz=false)(m:x<PK){Q:Nat->Prop}(X:∀b,Q b->Own M (EH h) blk b) :
  JH w Q (tT blk x) (EH (oJ (jA r.ty G s 0 H))) where
 rows k r' p:=by
  rcases kv p with⟨rfl,rfl⟩|⟨o,n,I,rfl,F,rfl⟩
  ·rw[tT,u4];cases c:blk x with
   | none =>
    have:=(E.rows x _ (gH z A B m)).2;rw[c]at this;have h1:H.mapIdx (vB x s)=[]:=this;simp_all
   | some g =>
    obtain⟨q,v,y,C⟩:=E.Ev z A B m c;refine .inr ⟨fun d hd =>?_,q,v,by simpa using y,fun j d e =>?_⟩
    ·obtain⟨j,e⟩:=akB hd;simp only[amj,akg]at e;obtain⟨d0,f,rfl⟩:=e;exact nO _ _ _ _
    ·simp only[amj,akg]at e;obtain⟨d0,f,rfl⟩:=e
     by_cases i:eZ d0=true
     ·rw[kK i];exact (eV i).2.2.2 ((C j d0 f i).less X)
     ·cases d0<;>first|trivial|exact absurd rfl i
  ·rw[tT,sh];have hq:EH h (NK x o)=some ⟨W,G,I,r.fz,true,false⟩:=by rw[eY z A B m,F];rfl
   have:=(E.rows _ _ hq).2;cases c:blk (NK x o) with
   | none=>rw[c]at this;exact this
   | some g =>
    rw[c]at this;obtain⟨q,v,y,C⟩:=this.2;exact⟨q,v,y,fun j d e=>⟨(C j d e).1,(C j d e).2.less X⟩⟩
 inj k l K Y g g' p O c P R:=by
  have key:∀{k:Nat}{K:Row}{g:Nat×Nat},EH (oJ (jA r.ty G s 0 H)) k=some K->tT blk x k=some g->∃Y,EH h (YH x k)=some Y∧blk (YH x k)=some g:=by
   intro k K g p c;rcases kv p with⟨rfl,_⟩|⟨o,n,I,rfl,F,_⟩
   ·exact⟨_,by rw[u4];exact gH z A B m,c⟩
   ·exact⟨_,by rw[sh,eY z A B m,F];rfl,c⟩
  obtain⟨q1,v,y⟩:=key p c;obtain⟨q2,C,k4⟩:=key O P;have J:=E.inj _ _ _ _ _ _ v C y k4 R;rcases kv p with⟨rfl,_⟩|⟨o,n,I,rfl,F,_⟩
  ·rcases kv O with⟨rfl,_⟩|⟨Z,n',S,rfl,T,_⟩
   ·rfl
   ·rw[u4,sh]at J;have:=iz x Z;omega
  ·rcases kv O with⟨rfl,_⟩|⟨Z,n',S,rfl,T,_⟩
   ·rw[u4,sh]at J;have:=iz x o;omega
   ·rw[sh,sh]at J;rw[(vV m m J).2]
 pha k r' g p U c j x' s' n e:=by
  rcases kv p with⟨rfl,rfl⟩|⟨o,n,I,rfl,F,rfl⟩;rotate_left
  ·cases U
  rw[tT,u4]at c;simp only[amj,akg]at e;obtain⟨d0,f,R⟩:=e;obtain⟨aa,rfl,rfl,rfl⟩:=tO R;obtain⟨u,v,y⟩:=E.Hw z A B m c f;refine⟨⟨pW,.inr rfl⟩,u,v,fun _ _ =>?_⟩;unfold tT;rw[sh];exact y
def I3(x k:Nat):Nat:=if k=x then 0 else NK 0 (k / PK-2)
def xD(x:Nat):I3 x x=0:=if_pos rfl
def nJ{x:Nat}(a:x<PK)(o:Nat):I3 x (NK x o)=NK 0 o:=by
 unfold I3;rw[if_neg (by have:=iz x o;omega),FA o a]
def rB(blk a:Nat->Option (Nat×Nat))(x k:Nat):Option (Nat×Nat):=if rt k=x then a (I3 x k) else blk k
def Inv.back(Y:Inv N M L w0 blk V t (EH h) a w){x:Nat}{r:Row}{P s nv G:Nat}{cs f:List D}{R:Nat×Nat}(hx:h x=some r)(hm:r.mp=true)(hc:r.cells=[.nr P s nv cs])(hz:r.fz=false)(m:x<PK)
  (hV:∀o,¬V (NK x o) G) (ao:blk x=some R) {Z:World} {c:Nat->Option (Nat×Nat)} {M':Nat->Prop} {h1:Nat->Option Row} (aq:h1=EH (oJ (jA r.ty P s 0 f))) (ae:∀b,M' b↔Own M (EH h) blk b∧¬InX blk h x b)
  (hb:eM (InX blk h x) w Z) (h0:c 0=some R) (aA:Z.shape? R.1=w.shape? R.1) (ag:∀b,y6 c h1 b->w.heap.size<=b∨InX blk h x b) (hR:JH Z (fun b=>M' b∨y6 c h1 b) c h1) :
  Inv N M L w0 (rB blk c x) V t (EH (ca h x (some ⟨r.v,r.ty,[.nr P s G f],false,r.lst,true⟩))) a Z∧∀b,Own M (EH (ca h x (some ⟨r.v,r.ty,[.nr P s G f],false,r.lst,true⟩))) (rB blk c x) b->M' b∨y6 c h1 b:=by
 generalize ah:ca h x (some (⟨r.v,r.ty,[.nr P s G f],false,r.lst,true⟩:Row))=h2;have v:h2 x=some ⟨r.v,r.ty,[.nr P s G f],false,r.lst,true⟩:=by rw[<- ah,aB]
 have W:∀k,rt k≠x->EH h2 k=EH h k:=fun k e=>eC (by rw[<- ah,aC _ _ e]);have X:∀k,rt k≠x->rB blk c x k=blk k:=fun k e=>if_neg e;have S:rB blk c x x=c 0:=by unfold rB;rw[if_pos (Cg m),xD]
 have ai:∀o,rB blk c x (NK x o)=c (NK 0 o):=fun o=>by unfold rB;rw[if_pos (xe m),nJ m]
 subst aq;have A:∀k r',rt k=x->EH h2 k=some r'->∃E,EH (oJ (jA r.ty P s 0 f)) (I3 x k)=some E∧rB blk c x k=c (I3 x k):=by
  intro k r' e i;have hq:rB blk c x k=c (I3 x k):=if_pos e;rcases fF v rfl rfl m e i with⟨rfl,_⟩|⟨o,n,xs,rfl,ho,_⟩
  ·rw[xD]at hq ⊢;exact⟨_,yH,hq⟩
  ·rw[nJ m]at hq ⊢;exact⟨_,wM ho,hq⟩
 have H:∀b,Own M (EH h2) (rB blk c x) b->M' b∨y6 c (EH (oJ (jA r.ty P s 0 f))) b:=by
  intro b T;rcases T with T|⟨k,r',g,e,ar,z,i⟩
  ·refine .inl ((ae b).2 ⟨.inl T,?_⟩);rintro⟨k,r',g,_,F,U,q3⟩;exact Y.notM F U (by rw[q3];exact T)
  ·by_cases aa:rt k=x
   ·obtain⟨E,F,U⟩:=A k r' aa e;exact .inr ⟨_,E,g,F,by simp_all,i⟩
   ·rw[W k aa]at e;rw[X k aa]at z;refine .inl ((ae b).2 ⟨.inr ⟨k,r',g,e,ar,z,i⟩,?_⟩);rintro⟨l,s',g',q0,F,U,q3⟩;have:=Y.inj k l r' s' g g' e F z U (i.trans q3.symm);simp_all
 refine⟨?_,H⟩;have aj:∀k r',rt k=x->EH h k=some r'->r'.fz=false:=by
  intro k r' e i;rcases fF hx hm hc m e i with⟨_,rfl⟩|⟨o,n,xs,_,_,rfl⟩<;>exact hz
 refine Y.afM (fun k=>rt k=x) (fun _ _ h=>h) hb.os hb.tape hb.output hb.size (fun k e hn=>hb.block k e ?_) aj (fun k e=>⟨W k e,X k e⟩) ?_ ?_ ?_ ?_ ?_
 ·rintro⟨l,r',g,q0,F,U,q3⟩;grind
 ·intro k r' e i;have B:∀g,rB blk c x k=some g->w.heap.size<=g.1∨∃y s R,rt y=x∧EH h y=some s∧blk y=some R∧g.1=R.1:=by
   intro g z;obtain⟨E,F,U⟩:=A k r' e i;rcases ag g.1 ⟨_,E,g,F,by simp_all,rfl⟩ with q|⟨y,s',g',p0,p1,p2,p3⟩
   ·exact .inl q
   grind
  have al:∀{g:Nat×Nat}{E:Row},E.mp=false->eJ Z (fun b=>M' b∨y6 c (EH (oJ (jA r.ty P s 0 f))) b) g E->eJ Z (Own M (EH h2) (rB blk c x)) g E:=by
   intro g E au hr;unfold eJ at hr ⊢;rw[au]at hr ⊢;obtain⟨I,Q,k2,k3⟩:=hr;exact⟨I,Q,k2,fun j d C=>⟨(k3 j d C).1,(k3 j d C).2.less H⟩⟩
  rcases fF v rfl rfl m e i with⟨rfl,rfl⟩|⟨o,n,xs,rfl,ho,rfl⟩
  ·refine⟨rfl,fun hn=>by have:=(Y.rows k _ (gH hx hm hc m)).1 hn;exact this,?_⟩;rw[S,h0];refine⟨B R (S.trans h0),?_⟩;have p:=hR.rows 0 _ yH;rw[h0]at p;have p:eJ Z (fun b=>M' b∨y6 c (EH (oJ (jA r.ty P s 0 f))) b) R ⟨0,r.ty,f.mapIdx (vB 0 s),false,true,true⟩:=p;unfold eJ at p ⊢;simp only at p ⊢;rcases p with⟨ks,vs,Q,_⟩|⟨_,I,k2,k3,k4⟩
   ·exfalso;simp only at Q;have hl:f.length=1:=by
     have:=congrArg List.length Q;simpa using this
    match f,hl with
    | [d],_ =>
     simp only[List.mapIdx_cons,List.mapIdx_nil,akD,and_true]at Q;have:=nO 0 s 0 d;rw[Q]at this;cases this
   ·refine .inr ⟨fun d hd =>?_,I,k2,by simpa using k3,fun j d C =>?_⟩
    ·obtain⟨j,C⟩:=akB hd;simp only[amj,akg]at C;obtain⟨d0,J,rfl⟩:=C;exact nO _ _ _ _
    ·simp only[amj,akg]at C;obtain⟨d0,J,rfl⟩:=C
     by_cases K:eZ d0=true
     ·rw[kK K];have av:(f.mapIdx (vB 0 s))[j]? = some d0:=by rw[amj,J];exact congrArg some (kK K)
      exact (eV K).2.2.2 (((eV K).2.2.1 (k4 j _ av)).less H)
     ·cases d0<;>first|trivial|exact absurd rfl K
  ·refine⟨rfl,fun hn=>by have:=iz x o;have:=Y.big;omega,?_⟩;have p:=hR.rows _ _ (wM ho);rw[ai];cases z:c (NK 0 o) with
   | none=>simp_all
   | some g =>
    rw[z]at p;refine⟨B g ((ai o).trans z),al rfl ?_⟩;obtain⟨I,Q,k2,k3⟩:=p;exact⟨I,Q,k2,k3⟩
 ·intro k l E r2 g g' e hl i ab z aD aw;obtain⟨F,p1,p2⟩:=A k E e i;obtain⟨U,p3,p4⟩:=A l r2 hl ab;have e1:=hR.inj _ _ _ _ g g' p1 p3 (by simp_all) (by simp_all) aw;rcases fF v rfl rfl m e i with⟨rfl,_⟩|⟨o,n,xs,rfl,ho,_⟩
  ·rcases fF v rfl rfl m hl ab with⟨rfl,_⟩|⟨o',n',ax,rfl,ay,_⟩
   ·rfl
   ·rw[xD,nJ m]at e1;have:=iz 0 o';omega
  ·rcases fF v rfl rfl m hl ab with⟨rfl,_⟩|⟨o',n',ax,rfl,ay,_⟩
   ·rw[xD,nJ m]at e1;have:=iz 0 o;omega
   ·rw[nJ m,nJ m]at e1;rw[(vV pW pW e1).2]
 ·intro k r' e hv i;rcases fF v rfl rfl m e i with⟨rfl,rfl⟩|⟨o,n,xs,rfl,ho,rfl⟩
  ·refine⟨⟨_,gH hx hm hc m,rfl⟩,by rw[S,h0,ao],fun g z =>?_⟩;simp_all
  simp_all
 ·intro k r' g e i ad z j x' s' n C;rcases fF v rfl rfl m e i with⟨rfl,rfl⟩|⟨o,n',xs,rfl,ho,rfl⟩;rotate_left
  ·cases ad
  simp only[amj,akg]at C;obtain⟨d0,J,az⟩:=C;obtain⟨aE,rfl,rfl,rfl⟩:=tO az;rw[S]at z;obtain⟨_,u,Q,k2⟩:=hR.pha 0 _ g yH rfl z j (NK 0 j) s' n (by simp only[amj,J,Option.map_some,vB]);refine⟨⟨m,.inr rfl⟩,u,Q,fun _ _ =>?_⟩;have:=k2 _ (wM J);simp_all
 ·intro y r' j x' s' n hy i ad C an;have O:=(Y.rows y r' i).2;cases z:blk y with
  | none =>
   rw[z]at O;have O:r'.cells=[]:=O;simp_all
  | some g =>
   obtain⟨F,U⟩:=(Y.pha y r' g i ad z j x' s' n C).1;rcases U with rfl|rfl
   ·have:rt (PK+y)=PK+y:=iV (by omega);omega
   ·rw[xe F]at an;rw[Cg F]at hy;exact hy an
end
section
variable {P:Program} {T:Nat->Option Ty} {N:Nat} {M:Nat->Prop} {L:kz} {w0:World} {blk:Nat->Option (Nat×Nat)} {V:Nat->Nat->Prop} {t:Nat->D} {h:Nat->Option Row} {a:Act} {w:World} {e:Nat} {o:Oper} {Γ:Env}
def Inv.abo(Z:Inv N M L w0 blk V t (EH h) a w){x:Nat}{r:Row}{H s q n j:Nat}{o p:List D}(O:h x=some r)(P:r.mp=true)(Q:r.cells=[.nr H s q o])(hz:r.fz=false)(A:x<PK)(hj:o[j]? = some (.nx n p))(hn:p.length=n*s) :
  Inv N M L w0 blk V t (EH (ca h x (some ⟨r.v,r.ty,[.nr H s q (o.set j (.sl false false n p))],false,r.lst,true⟩))) a w∧∀b,Own M (EH (ca h x (some ⟨r.v,r.ty,[.nr H s q (o.set j (.sl false false n p))],false,r.lst,true⟩))) blk b->Own M (EH h) blk b:=by
 have ag:j<o.length:=(akI.1 hj).1;obtain⟨g,R⟩:∃g,blk x=some g:=by
  cases R:blk x with
  | some g=>exact⟨g,rfl⟩
  | none =>
   have:=(Z.rows x _ (gH O P Q A)).2;rw[R]at this;have h1:o.mapIdx (vB x s)=[]:=this;simp_all
 have hK:EH h (NK x j)=some ⟨q,H,p,false,true,false⟩:=by rw[eY O P Q A,hj,hz];rfl
 obtain⟨u,aq,ah⟩:=Z.Hw O P Q A R hj;obtain⟨S,aa,ar,ai⟩:=Z.Ev O P Q A R;have aj:=Z.freeze [NK x j];have al:RP w (Own M (aW (EH h) (kE (EH h) [NK x j])) blk) (.sl false false n p) u:=by
  have hW:=Z.weaken (V':=fun y v=>V y v∨(y=NK x j∧v=q)) (fun _ _ h =>.inl h);have an:RT w (Own M (EH h) blk) (EH h) blk (fun y v=>V y v∨(y=NK x j∧v=q)) (.buf (NK x j) q s 0 n) u:=by
   refine⟨.inr ⟨rfl,rfl⟩,fun Y au av =>?_⟩;rcases ah with⟨g1,c,N',aw,k1,k2,k3,k4,k5,k6⟩|⟨k1,k2,k3⟩
   ·grind
   simp_all
  have hl:live (EH h) (NK x j) q=some ⟨q,H,p,false,true,false⟩:=by
   unfold live;rw[hK];simp
  have ao:Am.cU (EH h) (.buf (NK x j) q s 0 n)=some (.sl false false n p,[NK x j]):=by
   simp only[Am.cU,Am.bR,Am.eP,hl,alf,alU];rw[if_pos (by omega),<- hn,amd];rfl
  exact hW.cU ao (hW.gU [NK x j]) an
 generalize z:ca (EH h) (NK x j) none=h1;have B:ca (aW (EH h) (kE (EH h) [NK x j])) (NK x j) none=h1:=by
  rw[<- z];funext k
  by_cases f:k=NK x j
  ·rw[f,aB,aB]
  ·rw[aC _ _ f,aC _ _ f,CL];simp_all
 have T:=aj.drop (NK x j);rw[B]at T;have U:∀b,Own M h1 blk b->Own M (aW (EH h) (kE (EH h) [NK x j])) blk b:=by
  rintro b (W|⟨k,Y,X,f,C,l,I⟩)
  ·exact .inl W
  ·refine .inr ⟨k,Y,X,?_,C,l,I⟩;rw[<- B]at f
   by_cases m:k=NK x j
   ·rw[m,aB]at f;cases f
   ·rwa [aC _ _ m]at f
 have ab:h1 x=some ⟨r.v,r.ty,o.mapIdx (vB x s),r.fz,r.lst,true⟩:=by
  rw[<- z,aC _ _ (by have:=iz x j;omega)];exact gH O P Q A
 have ad:∀(i:Nat) d,(o.set j (.sl false false n p))[i]? = some d->(i=j∧d=.sl false false n p)∨(i≠j∧o[i]? = some d):=by
  grind
 have hB:=T.lU (x:=x) (r:=⟨r.v,r.ty,o.mapIdx (vB x s),r.fz,r.lst,true⟩) (r0:=⟨r.v,r.ty,(o.set j (.sl false false n p)).mapIdx (vB x s),false,r.lst,true⟩) (w':=w) ab hz rfl rfl rfl rfl (aki _) (fun _ _ _=>rfl) (by
   rw[R];refine⟨rfl,.inr ⟨fun d hd =>?_,S,aa,by simp_all,fun i d J =>?_⟩⟩
   ·obtain⟨i,J⟩:=akB hd;simp only[amj,akg]at J;obtain⟨d0,E,rfl⟩:=J;exact nO _ _ _ _
   ·simp only[amj,akg]at J;obtain⟨d0,E,rfl⟩:=J;rcases ad i d0 E with⟨rfl,rfl⟩|⟨hij,F⟩
    ·have e1:S.getD (g.2+i) undef=u:=by
      have:=bf aa (show g.2+i<S.size by omega);simp_all
     rw[e1];exact al.less U
    ·by_cases G:eZ d0=true
     ·rw[kK G];refine (eV G).2.2.2 ((ai i d0 F G).less fun b W =>?_);rcases W with W|⟨k,Y,X,f,C,l,I⟩
      ·exact .inl W
      ·refine .inr ⟨k,Y,X,?_,C,l,I⟩;rw[<- z]at f
       by_cases m:k=NK x j
       ·rw[m,aB]at f;cases f
       ·rwa [aC _ _ m]at f
     ·cases d0<;>first|trivial|exact absurd rfl G) (fun h=>by cases h) (fun _ X l i x' s' n' J=>by
   rw[R]at l;cases l;simp only[amj,akg]at J;obtain⟨d0,E,I⟩:=J;obtain⟨ax,rfl,rfl,rfl⟩:=tO I;rcases ad i _ E with⟨rfl,F⟩|⟨hij,F⟩
   ·cases F
   ·exact T.pha x _ g ab rfl R i (NK x i) s' n' (by simp_all))
 have K:ca h1 x (some (⟨r.v,r.ty,(o.set j (.sl false false n p)).mapIdx (vB x s),false,r.lst,true⟩:Row))=EH (ca h x (some ⟨r.v,r.ty,[.nr H s q (o.set j (.sl false false n p))],false,r.lst,true⟩)):=by
  have ae:ca h x (some (⟨r.v,r.ty,[.nr H s q (o.set j (.sl false false n p))],false,r.lst,true⟩:Row)) x=some ⟨r.v,r.ty,[.nr H s q (o.set j (.sl false false n p))],false,r.lst,true⟩:=aB _ _ _;funext k
  by_cases hkx:rt k=x
  rotate_left
  ·rw[aC _ _ (fun e=>hkx (by rw[e,iV (by omega)])),<- z,aC _ _ (fun e=>hkx (by rw[e,xe A]))];exact eC (by rw[aC _ _ hkx])
  rcases pB hkx with rfl|⟨i,rfl⟩
  ·rw[aB,gH ae rfl rfl A]
  ·rw[aC _ _ (by have:=iz x i;omega),eY ae rfl rfl A,<- z]
   by_cases hij:i=j
   ·rw[hij,aB,List.getElem?_set_self ag];rfl
   ·rw[aC _ _ (fun e=>hij (vV A A e).2),eY O P Q A,List.getElem?_set_ne (fun e=>hij e.symm),hz]
 rw[K]at hB;refine⟨hB,?_⟩;rintro b (W|⟨k,Y,X,f,C,l,I⟩)
 ·exact .inl W
 ·rw[<- K]at f
  by_cases hkx:k=x
  ·subst hkx;exact .inr ⟨k,_,X,gH O P Q A,hz,l,I⟩
  ·rw[aC _ _ hkx,<- z]at f
   by_cases m:k=NK x j
   ·rw[m,aB]at f;cases f
   ·rw[aC _ _ m]at f;exact .inr ⟨k,Y,X,f,C,l,I⟩
end
def AZ(s:Nat):D->Bool
 | .nx n xs=>xs.length==n*s
 | d=>eZ d
def pG(k o:Nat)(a:List D):List D:=a.mapIdx fun i d=>if o<=i∧i<o+k then UX d else d
section
variable {P:Program} {T:Nat->Option Ty} {N:Nat} {M:Nat->Prop} {L:kz} {w0:World} {blk:Nat->Option (Nat×Nat)} {V:Nat->Nat->Prop} {t:Nat->D} {h:Nat->Option Row} {a:Act} {w:World} {e:Nat} {o:Oper} {Γ:Env}
def Mq(o:Nat)(a:List D):pG 0 o a=a:=by
 unfold pG;apply ame;grind
def wX(k o:Nat)(a:List D)(i:Nat):(pG k o a)[i]? = (a[i]?).map fun d=>if o<=i∧i<o+k then UX d else d:=by
 unfold pG;simp_all
def Inv.age(H:Inv N M L w0 blk V t (EH h) a w){x:Nat}{r:Row}{p s q o:Nat}{c:List D}(A:h x=some r)(I:r.mp=true)(J:r.cells=[.nr p s q c])(K:r.fz=false)(B:x<PK):∀k:Nat,((c.drop o).take k).all (AZ s)=true ->
  Inv N M L w0 blk V t (EH (ca h x (some ⟨r.v,r.ty,[.nr p s q (pG k o c)],false,r.lst,true⟩))) a w∧∀b,Own M (EH (ca h x (some ⟨r.v,r.ty,[.nr p s q (pG k o c)],false,r.lst,true⟩))) blk b->Own M (EH h) blk b
 | 0,_=>by
  have:ca h x (some (⟨r.v,r.ty,[.nr p s q (pG 0 o c)],false,r.lst,true⟩:Row))=h:=by
   funext k
   by_cases C:k=x
   ·rw[C,aB,Mq,A];cases r;simp_all
   ·rw[aC _ _ C]
  simp_all
 | k+1,l=>by
  have j:((c.drop o).take k).all (AZ s)=true:=by
   grind
  obtain⟨O,R⟩:=H.age A I J K B k j;have v:(∀n g,c[o+k]?≠some (.nx n g))->pG (k+1) o c=pG k o c:=by
   intro S;apply ame;intro i;rw[wX,wX];cases P:c[i]? with
   | none=>rfl
   | some d =>
    simp only[Option.map_some,akq]
    by_cases hik:i=o+k
    ·subst hik;rw[if_pos (by omega),if_neg (by omega)];cases d<;>first|rfl|simp_all
    grind
  by_cases f:∃n g,c[o+k]? = some (.nx n g)
  rotate_left
  ·simp_all
  obtain⟨n,g,f⟩:=f;have m:g.length=n*s:=by
   have:=aks.1 l (.nx n g) (akG (i:=k) (by simp_all));simpa [AZ] using this
  have E:pG (k+1) o c=(pG k o c).set (o+k) (.sl false false n g):=by
   have y:=(akI.1 f).1;apply ame;intro i;rw[wX]
   by_cases hik:i=o+k
   ·subst hik;rw[List.getElem?_set_self (by simpa [pG] using y),f];simp only[Option.map_some];rw[if_pos (by omega)];rfl
   ·rw[List.getElem?_set_ne (fun e=>hik e.symm),wX];grind
  have Q:(pG k o c)[o+k]? = some (.nx n g):=by
   rw[wX,f];simp_all
  obtain⟨T,U⟩:=O.abo (x:=x) (aB _ _ _) rfl rfl rfl B Q m;have F:∀(G z:Option Row),ca (ca h x G) x z=ca h x z:=by
   intro G z;funext i
   by_cases u:i=x
   ·rw[u,aB,aB]
   ·rw[aC _ _ u,aC _ _ u,aC _ _ u]
  simp_all
def MI(x:Nat)(r:Row)(c s o k:Nat):Option Nat->Option (D×List D)->Option cv
 | some b,some (d,a)=>if ((a.drop o).take k).all (AZ s)=true then some ⟨d,[(x,some ⟨r.v,r.ty,[.nr c s b (pG k o a)],false,r.lst,true⟩)]⟩ else none
 | _,_=>none
def FZ(e x:Nat)(r:Row)(a s b:Nat)(c:List D)(o:Nat):Option (Nat×(Nat->Nat->Nat->Nat->List D->List D->Option (D×List D)))->Option (List D×List Nat)->Option cv
 | some p,some (akd,[])=>MI x r a s o p.1 (bump b e) (p.2 r.ty a s o c akd)
 | _,_=>none
def va(Γ:Env)(e:Nat)(h:Nat->Option Row)(g:Nat):List D->Option cv
 | .ptr x v o::rest =>
  match iT h x v with
  | some (r,ty,s,nv,cs)=>FZ e x r ty s nv cs o (Γ.nx.lnd g) (bZ (EH h) rest)
  | none=>none
 | _=>none
def wh{g:Nat}{c:List D}{E:cv}(b:va Γ e h g c=some E):∃x v o a r k s l m p f j d i,c=.ptr x v o::a∧iT h x v=some (r,k,s,l,m)∧Γ.nx.lnd g=some p∧bZ (EH h) a=some (f,[])∧bump l e=some j∧p.2 r.ty k s o m f=some (d,i) ∧
  ((i.drop o).take p.1).all (AZ s)=true∧E=⟨d,[(x,some ⟨r.v,r.ty,[.nr k s j (pG p.1 o i)],false,r.lst,true⟩)]⟩:=by
 unfold va at b;split at b<;>try (cases b;done)
 rename_i x v o a;split at b<;>try (cases b;done)
 rename_i r k s l m q;unfold FZ at b;split at b<;>try (cases b;done)
 rename_i p f t n;unfold MI at b;grind
def aaw(hΓ:bU P Γ)(hI:Inv N M L w0 blk V t (EH h) a w)(R:adC V h e){g:Nat}{dst:Option Nat}{m:List D}{c:Array Value}{E:cv}(hE:va Γ e h g m=some E)(F:c.size=m.length)
  (hr:∀(j:Nat) d,m[j]? = some d->RT w (Own M (EH h) blk) (EH h) blk V d (c.getD j undef)):fe P g∧Calls P g c w fun e' w'=>∃v,e'=.returned v∧kW N M L w0 V t h a e dst E v w':=by
 obtain⟨x,v,o,z,r,S,s,nv,T,p,U,W,d,aj,rfl,hl,hp,X,hb,hs,G,rfl⟩:=wh hE;obtain⟨A,hv,Y,B,f,C⟩:=jI hl;obtain⟨Z,n⟩:=hΓ.lnd g p hp;refine⟨Z,?_⟩;have h0:=hr 0 _ rfl;have aa:=gH A B C f;obtain⟨g0,H,ab⟩:=h0.2 _ aa hv;have ad:c = #[.pointer (some ⟨g0.1,g0.2+o,none⟩)]++c.extract 1 c.size:=by
  have h1:0<c.size:=by rw[F];simp
  rw[<- ab];apply alp
  ·simp;omega
  ·intro i h1 h2;cases i with
   | zero=>simp_all
   | succ i=>grind
 have I:(c.extract 1 c.size).size=z.length:=by simp at F ⊢;omega
 have ae:∀(j:Nat) d,z[j]? = some d->RT w (Own M (EH h) blk) (EH h) blk V d ((c.extract 1 c.size).getD j undef):=by
  intro j d hj;have:=hr (j+1) d (by simpa using hj);have e1:(c.extract 1 c.size).getD j undef=c.getD (j+1) undef:=by
   simp only[akm];grind
  rw[e1];exact this
 obtain⟨M',q⟩:∃M':Nat->Prop,∀b,M' b↔Own M (EH h) blk b∧¬InX blk h x b:=⟨_,fun _=>Iff.rfl⟩;have hInX:∀b,InX blk h x b->Own M (EH h) blk b:=by
  rintro b ⟨k,r',g',q0,q1,q2,q3⟩;refine .inr ⟨k,r',g',q1,?_,q2,q3⟩;rcases fF A B C f q0 q1 with⟨_,rfl⟩|⟨_,_,_,_,_,rfl⟩<;>exact Y
 have y:=Mv (blk:=blk) A B C f;have hQ:∀b,(M' b∨y6 (tT blk x) (EH (oJ (jA r.ty S s 0 T))) b)->Own M (EH h) blk b:=fun b hb=>hb.elim (fun hb=>((q b).1 hb).1) (fun hb=>hInX b ((y b).1 hb));have l:=hI.FL X ⟨fun b h=>h,fun x A=>by cases A⟩ I ae;have hA:Bk w (fun b=>M' b∨y6 (tT blk x) (EH (oJ (jA r.ty S s 0 T))) b) U (c.extract 1 c.size):=⟨l.1,fun j d hj=>(l.2 j d hj).less hQ,fun b hb=>(l.tab b hb).less hQ⟩;rw[ad];refine (n _ _ _ _ _ _ _ _ hs w M' (tT blk x) _ _ g0 _ rfl rfl (fun b hb=>hI.A5 ((q b).1 hb).1) (fun b hb ag=>((q b).1 ag).2 ((y b).1 hb)) (by rw[tT,u4];exact H) (hI.agj A B C Y f hQ) hA).mono fun e' w' hg =>?_;obtain⟨u,J,he,hbey,q0,ah,K,qR,ai⟩:=hg;refine⟨u,he,rB blk J x,?_⟩;obtain⟨k1,k2⟩:=hI.back A B C Y f (R x r S s nv T W A B C f hb) H rfl q ⟨hbey.os,hbey.tape,hbey.output,hbey.size,fun k hk hn=>hbey.block k hk fun hh=>hn ((y k).1 hh)⟩ q0 ah (fun b hb=>(K b hb).imp id fun hh=>(y b).1 hh) qR;obtain⟨k3,k4⟩:=k1.age (x:=x) (o:=o) (aB _ _ _) rfl rfl rfl f p.1 G;have O:∀(r1 r2:Option Row),ca (ca h x r1) x r2=ca h x r2:=by
  intro r1 r2;funext i
  by_cases Q:i=x
  ·rw[Q,aB,aB]
  ·rw[aC _ _ Q,aC _ _ Q,aC _ _ Q]
 rw[O]at k3 k4;exact⟨k3.weaken fun _ _ h =>.inl h,b6 (ai.less fun b hb=>k2 b (k4 b hb))⟩
end
def S2:D->D->Option D
 | .nx _ _,.sl true true 0 []=>some (.nx 0 [])
 | .nx _ _,_=>none
 | _,d=>if eZ d=true then some (canon d) else none
def vF:List D->List D->Option (List D)
 | [],[]=>some []
 | c::a,x::b =>
  match S2 c x,vF a b with
  | some y,some d=>some (y::d)
  | _,_=>none
 | _,_=>none
def stZ(x:Nat)(r:Row)(b s:Nat):Option Nat->Option (List D)->Option cv
 | some a,some cs'=>some ⟨.und,[(x,some ⟨r.v,r.ty,[.nr b s a cs'],false,r.lst,true⟩)]⟩
 | _,_=>none
def UD(n e x:Nat)(r:Row)(b s c:Nat)(d:List D):D->Option cv
 | .agg a=>if a.length=n then stZ x r b s (bump c e) (vF d a) else none
 | _=>none
def tf(τ:Ty)(e:Nat)(h:Nat->Option Row)(p d:D):Option cv :=
 match p with
 | .ptr x v o =>
  match iT h x v with
  | some (r,b,s,c,a)=>if r.lst=false∧o=0∧a.length=τ.size then UD τ.size e x r b s c a d else none
  | none=>none
 | _=>none
def T7(x:Nat)(r:Row)(a s b:Nat)(c:List D):Option D->Option cv
 | some d=>some ⟨d,[(x,some ⟨r.v,r.ty,[.nr a s b c],false,r.lst,true⟩)]⟩
 | none=>none
def s8(τ:Ty)(h:Nat->Option Row):D->Option cv
 | .ptr x v o =>
  match iT h x v with
  | some (r,b,s,c,a)=>if r.lst=false∧o=0∧a.length=τ.size∧1<τ.size∧a.all (AZ s)=true then T7 x r b s c (pG τ.size 0 a) (lL τ (a.map UX)) else none
  | none=>none
 | _=>none
def orE:Option cv->Option cv->Option cv
 | some E,_=>some E
 | none,y=>y
def yb(τ:Ty)(h:Nat->Option Row)(p:D):Option cv:=orE (s8 τ h p) (s9 τ h p)
def yd(τ:Ty)(e:Nat)(h:Nat->Option Row)(p d:D):Option cv:=orE (tf τ e h p d) (p9 τ e h p d)
def S3:∀{a xs ys:List D},vF a xs=some ys->ys.length=a.length∧xs.length=a.length∧∀(j:Nat) c x,a[j]? = some c->xs[j]? = some x->∃y,ys[j]? = some y∧S2 c x=some y
 | [],[],ys,h=>by simp only[vF,akq]at h;simp_all
 | c::a,x::xs,ys,h=>by
  simp only[vF]at h;split at h
  ·rename_i y b e d;simp only[akq]at h;subst h;obtain⟨f,g,i⟩:=S3 d;grind
  ·cases h
 | [],x::xs,ys,h=>by simp[vF]at h
 | c::a,[],ys,h=>by simp[vF]at h
def IT{c x y:D}(h:S2 c x=some y):(x=.sl true true 0 []∧y=.nx 0 [])∨(eZ x=true∧y=canon x):=by
 unfold S2 at h;grind
section
variable {P:Program} {T:Nat->Option Ty} {N:Nat} {M:Nat->Prop} {L:kz} {w0:World} {blk:Nat->Option (Nat×Nat)} {V:Nat->Nat->Prop} {t:Nat->D} {h:Nat->Option Row} {a:Act} {w:World} {e:Nat} {o:Oper} {Γ:Env}
def aa3(x:Nat):Fh (EH h) (fun k=>if rt k=x∧k≠x then none else EH h k):=by
 intro k b a;simp only at a;split at a
 ·cases a
 ·exact⟨b,a,.refl _⟩
open Classical in
def aa1(hT:jL P T)(hI:Inv N M L w0 blk V t (EH h) a w)(ay:adC V h e){ty:Nat}{p x:Operand}{τ:Ty}{E:cv}(ho:o.op=.store ty p x)(hτ:T ty=some τ)(C:tf τ e h (ev t p) (ev t x)=some E):ff P o a w (kW N M L w0 V t h a e o.dst E):=by
 have hp:=hI.ev p;have hq:=hI.ev x;have aL:=hI.big;have aM:=eD;generalize ev t p=pd at *;generalize ev t x=d at *;unfold tf at C;split at C<;>try (cases C;done)
 rename_i y v c0;split at C<;>try (cases C;done)
 rename_i r I s nv cs hl;obtain⟨hx,hv,hz,hm,n,hc⟩:=jI hl;have ai:=gH hx hm hc n;obtain⟨g,hg,aj⟩:=hp.2 _ ai hv;split at C<;>try (cases C;done)
 rename_i ab;obtain⟨_,rfl,aN⟩:=ab;unfold UD at C;split at C<;>try (cases C;done)
 rename_i z;split at C<;>try (cases C;done)
 rename_i aO;unfold stZ at C;split at C<;>try (cases C;done)
 rename_i J F hb az;simp only[akq]at C;subst C;obtain⟨z1,z2,z3⟩:=S3 az;have al:RP w (Own M (EH h) blk) (.agg z) (a.eval x):=hq;obtain⟨m,aA,aP,an⟩:∃m:List Value,a.eval x=.agg m.toArray∧m.length=z.length∧∀j x,z[j]? = some x->RP w (Own M (EH h) blk) x (m.getD j undef):=by
  generalize a.eval x=u at al;cases al with
  | agg z m h1 h2 h3=>simp_all
 have aD:∀(j:Nat) x,z[j]? = some x->eZ x=true:=by
  intro j x f;have R:=(akI.1 f).1;obtain⟨y',_,k2⟩:=z3 j _ x (aku (by omega)) f;rcases IT k2 with⟨rfl,_⟩|⟨k3,_⟩
  ·rfl
  ·exact k3
 have ao:∀u∈m,u.oneCell'=true:=by
  intro u hu;obtain⟨j,f⟩:=akB hu;have R:=(akI.1 f).1;have K:=aku (l:=z) (i:=j) (by omega);have:=an j _ K;have U:m.getD j undef=u:=by simp_all
  rw[U]at this;exact this.sn (eV (aD j _ K)).1
 obtain⟨B,k1,k2,k3⟩:=hI.Ev hx hm hc n hg;have X:=run_storeCells_at P g.1 (g.2+0) r.ty m 0 B w k1 (by omega) ao;rw[akO]at X;have aq:(B.toList.take g.2++m++B.toList.drop (g.2+m.length)).toArray.size=B.size:=by simp;omega
 have Y:∀j,j<cs.length->(B.toList.take g.2++m++B.toList.drop (g.2+m.length)).toArray.getD (g.2+j) undef=m.getD j undef:=by
  intro j f;have:=uH B m g.2 (g.2+j) (by omega);grind
 generalize aQ:(B.toList.take g.2++m++B.toList.drop (g.2+m.length)).toArray=arr' at X aq Y;obtain⟨H,aE,hheap⟩:=Cj (g:=g) (arr':=arr') k1;have ar:Own M (EH h) blk g.1:=.inr ⟨y,_,g,ai,hz,hg,rfl⟩;have hK:∀o,NK y o≠y∧2*PK<=NK y o:=fun o=>by have:=iz y o;omega
 have ad:=aa3 (h:=h) y;have hA:=hI.le ad;generalize aF:(fun k=>if rt k=y∧k≠y then none else EH h k)=h1 at hA ad;have aG:h1 y=some ⟨r.v,r.ty,cs.mapIdx (vB y s),r.fz,r.lst,true⟩:=by
  grind
 have au:∀o,h1 (NK y o)=none:=fun o=>by
  rw[<- aF];simp only;rw[if_pos ⟨xe n,(hK o).1⟩]
 have av:∀k,rt k≠y->h1 k=EH h k:=fun k hk=>by
  grind
 have Z:∀(j:Nat) d,F[j]? = some d->(d=.nx 0 []∧m.getD j undef=.slice none 0 0)∨(eZ d=true∧RP w (Own M (EH h) blk) d (m.getD j undef)):=by
  intro j d f;have R:=(akI.1 f).1;have K:=aku (l:=z) (i:=j) (by omega);obtain⟨y',q1,q2⟩:=z3 j _ _ (aku (by omega)) K;rw[f]at q1;cases q1;have hr:=an j _ K;rcases IT q2 with⟨U,rfl⟩|⟨U,rfl⟩
  ·refine .inl ⟨rfl,?_⟩;rw[U]at hr;generalize m.getD j undef=u at hr;cases hr with
   | sl A c _ _ _ _ aR g1 g2 g3 g4 g5 g6 g7 g8 =>
    simp_all
  ·refine .inr ⟨?_,hr.canon⟩;generalize z[j]=q at U;cases q<;>first|rfl|cases U
 have ae:∀{d:D}{u:Value},RP w (Own M (EH h) blk) d u->RP (w.setRow g.1 arr') (Own M h1 blk) d u:=fun hr=>hr.keep fun b q1 q2=>⟨by rw[aE];exact q1,Dp ad q2,hheap b (fun e=>q2 (e ▸ ar))⟩;have hB:=hA.lU (x:=y) (r0:=⟨r.v,r.ty,F.mapIdx (vB y s),false,r.lst,true⟩) (w':=w.setRow g.1 arr') aG hz rfl rfl rfl rfl (by omega) (fun b _ hb=>hheap b (hb g hg)) (by
  rw[hg];refine⟨by simp[World.shape?,H,k1,aq],.inr ⟨fun d hd =>?_,arr',H,by simp_all,fun j d f =>?_⟩⟩
  ·obtain⟨j,f⟩:=akB hd;simp only[amj,akg]at f;obtain⟨d0,_,rfl⟩:=f;exact nO _ _ _ _
  ·simp only[amj,akg]at f;obtain⟨d0,G,rfl⟩:=f;have R:=(akI.1 G).1;rw[Y j (by omega)];rcases Z j d0 G with⟨rfl,_⟩|⟨q1,q2⟩
   ·trivial
   ·rw[kK q1];exact (eV q1).2.2.2 (ae q2)) (fun hh=>by cases hh) (fun _ g' aw j x' s' n' f=>by
  rw[hg]at aw;cases aw;simp only[amj,akg]at f;obtain⟨d0,G,he⟩:=f;obtain⟨aS,rfl,rfl,rfl⟩:=tO he;have R:=(akI.1 G).1;exact⟨⟨n,.inr rfl⟩,_,bf H (by omega),fun r1 aT=>by simp_all⟩)
 obtain⟨S,hS⟩:∃S:Nat->Prop,∀k,S k↔∃o z,k=NK y o∧F[o]? = some (.nx 0 z):=⟨_,fun _=>Iff.rfl⟩;have aa:∀(j n':Nat)(z:List D),F[j]? = some (.nx n' z)->n'=0∧z=[]∧m.getD j undef=.slice none 0 0:=by
  intro j n' z f;rcases Z j _ f with⟨U,e2⟩|⟨U,_⟩
  ·simp_all
  ·cases U
 have ag:ca h y (some (⟨r.v,r.ty,[.nr I s J F],false,r.lst,true⟩:Row)) y=some ⟨r.v,r.ty,[.nr I s J F],false,r.lst,true⟩:=aB _ _ _;have hC:=hB.addEmpty S I J (h':=EH (ca h y (some ⟨r.v,r.ty,[.nr I s J F],false,r.lst,true⟩))) (blk':=fun k=>if S k then none else blk k) (fun k hk=>by
   obtain⟨Q,z,rfl,W⟩:=(hS k).1 hk;have:=hK Q;exact⟨by omega,by omega,ay y r I s nv cs J hx hm hc n hb Q,by rw[aC _ _ (hK Q).1,au]⟩) (fun k hk=>by
   refine⟨?_,by rw[if_pos hk]⟩;obtain⟨Q,z,rfl,W⟩:=(hS k).1 hk;rw[eY ag rfl rfl n,W];obtain⟨_,rfl,_⟩:=aa Q 0 z W;rfl) (fun k hk=>by
   refine⟨?_,by rw[if_neg hk]⟩
   by_cases hkd:rt k=y
   ·rcases pB hkd with rfl|⟨Q,rfl⟩
    ·rw[aB,gH ag rfl rfl n]
    ·rw[aC _ _ (hK Q).1,au,eY ag rfl rfl n];cases aV:F[Q]? with
     | none=>rfl
     | some d0 =>
      cases d0 with
      | nx n' z =>
       grind
      | _=>rfl
   ·rw[aC _ _ (fun e=>hkd (by rw[e,iV (by omega)])),av k hkd];exact eC (by rw[aC _ _ hkd])) (fun y1 r1 g1 hy aH ah j x' s' n' f hs=>by
   obtain⟨Q,z,rfl,W⟩:=(hS _).1 hs;obtain⟨⟨p1,p2⟩,u,p3,_⟩:=hB.pha y1 r1 g1 hy aH ah j _ s' n' f;rcases p2 with p2|p2
   ·grind
   obtain⟨rfl,rfl⟩:=vV n p1 p2;rw[aB]at hy;rw[hg]at ah;cases hy;cases ah;simp only[amj,akg]at f;obtain⟨d0,G,he⟩:=f;obtain⟨aI,rfl,_,rfl⟩:=tO he;obtain⟨aJ,_,aW⟩:=aa Q n' aI G;have aX:=(akI.1 G).1;refine⟨_,bf H (by omega),aJ,none,?_⟩;grind)
 refine .inr (.inl ⟨w.setRow g.1 arr',?_,fun k=>if S k then none else blk k,?_,trivial⟩)
 ·have ax:(a.eval x).cells.toList=m:=by rw[aA];rfl
  have aK:(a.eval x).cells.size=τ.size:=by grind
  have O:(storeCells ⟨g.1,g.2+0,none⟩ (a.eval x).cells.toList 0).run P w=.ok () (w.setRow g.1 arr'):=by grind
  rw[akO]at O aj;simp[execOp,ho,Instr.storeAt,Instr.sureAddr,aj,storeVar,run_sizeOf (hT ty τ hτ),aK,O]
 ·exact hC.weaken fun _ _ h =>.inl h
open Classical in
def aaX(hT:jL P T)(hI:Inv N M L w0 blk V t (EH h) a w){n d Q s f:Nat}{τ:Ty}{E:cv}(ho:o.op=.alloc n)(hd:o.dst=some d)(hV:ky N V d e)(ao:∀o,¬V (NK d o) (4*e+2))(hτ:T n=some τ)
  (hE:mkA τ n e d Q s f=some E):ff P o a w (kW N M L w0 V t h a e o.dst E):=by
 have an:=hI.big;have aq:=eD;unfold mkA at hE;split at hE<;>try (cases hE;done)
 rename_i R;obtain⟨c4,c5,c6,i,c8⟩:=R;simp only[akq]at hE;subst hE;obtain⟨z,ae,ag⟩:=kU (hT n τ hτ) w;have ar:(τ.zero.map qL).length=τ.size:=by simp_all
 have hf:f<τ.size:=by
  rw[amz]at c8;rcases akV f τ.size with U|au
  ·exact U
  ·rw[amA (by omega)]at c8;cases c8
 have ab:(τ.zero.map qL)[f]? = some (.sl true true 0 []):=by
  rw[amz]at c8;unfold acg at c8;grind
 have ah:(pH τ f).length=τ.size:=by
  unfold pH;rw[lR (by simp;omega)];simp[c6]
 have p:∀(m:Nat)(x:D),(pH τ f)[m]? = some x->(m=f∧x=.nx 0 [])∨(m≠f∧∃y,(τ.zero.map qL)[m]? = some y∧x=canon y):=by
  intro m x W;unfold pH at W
  by_cases ad:m=f
  ·subst ad;rw[gV (by simp;omega)]at W;simp_all
  ·rw[jq (by simp;omega) ad,akf,akg]at W;grind
 obtain⟨q,X⟩:∃q:Array Value,q=τ.zero.toArray:=⟨_,rfl⟩;have av:q.size=τ.size:=by simp_all
 have K:∀(M':Nat->Prop)(w':World)(j:Nat)(x:D),(pH τ f)[j]? = some x->eZ x=true->RP w' M' x (q.getD j undef):=by
  intro M' w' j x c ai;rw[X];rcases p _ x c with⟨_,rfl⟩|⟨_,y,h1,rfl⟩
  ·cases ai
  ·exact (tP (w:=w') (M:=M') τ.zero (aks.2 fun y Y=>(eV (aks.1 c5 y Y)).1) _ y h1).2.canon
 have A:∀(j:Nat)(n':Nat)(B:List D),(pH τ f)[j]? = some (.nx n' B)->n'=0∧B=[]∧q.getD j undef=.slice none 0 0:=by
  intro j n' B c;rcases p _ _ c with⟨W,G⟩|⟨_,y,h1,G⟩
  ·simp only[D.nx.injEq]at G;refine⟨G.1,G.2,?_⟩;rw[X,W];rw[akf,akg]at ab;obtain⟨v,v1,v2⟩:=ab;simp only[akm,List.getElem?_toArray,v1,Option.getD_some];exact WJ v2
  ·have:=aks.1 c5 y (akG h1);cases y<;>first|(cases G;done)|(cases this;done)
 generalize pH τ f=cs at ah p K A;have hA:=hI.le (BD (h:=h) d i);have hold:∀b,b<w.heap.size->(w.alloc (.cells q n)).heap[b]? = w.heap[b]?:=fun b hb=>Below.heap_alloc w _ b hb;have H:=(Below.refl w.heap.size w).alloc (aki _) (.cells q n);have C:=heap_alloc_new w (.cells q n);have Z:∀o,EH (ca h d none) (NK d o)=none:=fun o=>by rw[sH i,aB];rfl
 have aa:∀o,NK d o≠d:=fun o=>by have:=iz d o;omega
 have hB:=hA.FI (w':=w.alloc (.cells q n)) (h1:=EH (ca h d none)) (old:=none) (d:=d) (e:=e) (r0:=⟨e,n,cs.mapIdx (vB d s),false,false,true⟩) (go:=some (w.heap.size,0)) H.os H.tape H.output H.size (fun k O _=>hold k O) (fun y Y=>by cases Y) rfl hV
  ⟨.inl (aki _),.inr ⟨fun x hx=>by
   obtain⟨j,c⟩:=akB hx;simp only[amj,akg]at c;obtain⟨d0,l,rfl⟩:=c;exact nO _ _ _ _,q,C,by grind,fun j x c=>by
   simp only[amj,akg]at c;obtain⟨d0,l,rfl⟩:=c;rw[alf]
   by_cases I:eZ d0=true
   ·rw[kK I];exact (eV I).2.2.2 (K _ _ j d0 l I)
   ·cases d0<;>first|trivial|exact absurd rfl I⟩⟩ rfl rfl (fun _ g hg j x s' n' c=>by
   cases hg;simp only[amj,akg]at c;obtain⟨d0,l,G⟩:=c;obtain⟨B,rfl,rfl,rfl⟩:=tO G;have U:=(akI.1 l).1;refine⟨⟨i,.inr rfl⟩,_,bf C (by omega),fun r hr =>?_⟩;rw[aC _ _ (aa j),Z]at hr;cases hr)
 obtain⟨S,hS⟩:∃S:Nat->Prop,∀k,S k↔∃o B,k=NK d o∧cs[o]? = some (.nx 0 B):=⟨_,fun _=>Iff.rfl⟩;have hC:=hB.addEmpty S Q (4*e+2) (h':=EH (ca h d (some ⟨e,n,[.nr Q s (4*e+2) cs],false,false,true⟩))) (blk':=fun k=>if S k then none else ca blk d (some (w.heap.size,0)) k) (fun k O=>by
   obtain⟨F,B,rfl,J⟩:=(hS k).1 O;have:=iz d F;refine⟨by omega,by omega,?_,by rw[aC _ _ (aa F),Z]⟩;grind) (fun k O=>by
   refine⟨?_,by rw[if_pos O]⟩;obtain⟨F,B,rfl,J⟩:=(hS k).1 O;rw[eY (aB _ _ _) rfl rfl i,J];obtain⟨_,rfl,_⟩:=A F 0 B J;rfl) (fun k O=>by
   refine⟨?_,by rw[if_neg O]⟩
   by_cases hkd:rt k=d
   ·rcases pB hkd with rfl|⟨F,rfl⟩
    ·rw[aB,gH (aB _ _ _) rfl rfl i]
    ·rw[aC _ _ (aa F),Z,eY (aB _ _ _) rfl rfl i];cases aw:cs[F]? with
     | none=>rfl
     | some d0 =>
      cases d0 with
      | nx n' B =>
       grind
      | _=>rfl
   ·rw[aC _ _ (fun e=>hkd (by rw[e,iV (by omega)]))];exact eC (by rw[aC _ _ hkd,aC _ _ hkd])) (fun y r g Y W hg j x s' n' c hs=>by
   obtain⟨F,B,rfl,J⟩:=(hS _).1 hs;obtain⟨⟨p1,p2⟩,u,p3,_⟩:=hB.pha y r g Y W hg j _ s' n' c;rcases p2 with p2|p2
   ·have:=iz d F;omega
   obtain⟨rfl,rfl⟩:=vV i p1 p2;rw[aB]at Y hg;cases Y;cases hg;simp only[amj,akg]at c;obtain⟨d0,l,G⟩:=c;obtain⟨aj,rfl,_,rfl⟩:=tO G;obtain⟨k1,_,k3⟩:=A F n' aj l;have U:=(akI.1 l).1;refine⟨_,bf C (by omega),k1,none,?_⟩;grind)
 have al:¬S d:=fun hs=>by
  grind
 refine aP (v:=.pointer (some ⟨w.heap.size,0,none⟩)) (w':=w.alloc (.cells q n)) ?_ ⟨fun k=>if S k then none else ca blk d (some (w.heap.size,0)) k,?_,?_⟩
 ·rw[X];simp[execOp,ho,Instr.alloc,ae,newVar,newRow,ag]
 ·refine hC.weaken fun x v hx =>?_;grind
 ·exact⟨.inr ⟨hd,rfl⟩,fun r hr hv=>⟨(w.heap.size,0),by simp only;rw[if_neg al,aB],rfl⟩⟩
def aaU(Q:jL P T)(F:Inv N M L w0 blk V t (EH h) a w){G:Nat}{p:Operand}{τ:Ty}{E:cv}(R:o.op=.load G p)(S:T G=some τ)(b:s8 τ h (ev t p)=some E):ff P o a w (kW N M L w0 V t h a e o.dst E):=by
 have U:=F.ev p;generalize W:ev t p=q at *;unfold s8 at b;split at b<;>try (cases b;done)
 rename_i x v c;split at b<;>try (cases b;done)
 rename_i r f s y i X;obtain⟨H,Y,Z,I,k,J⟩:=jI X;have z:=gH H I J k;obtain⟨g,hg,A⟩:=U.2 _ z Y;split at b<;>try (cases b;done)
 rename_i l;obtain⟨_,rfl,c1,_,c2⟩:=l;unfold T7 at b;split at b<;>try (cases b;done)
 rename_i d hd;simp only[akq]at b;subst b;obtain⟨K,_⟩:=F.age (o:=0) H I J Z k τ.size (by grind);have B:ca h x (some (⟨r.v,r.ty,[.nr f s y (pG τ.size 0 i)],false,r.lst,true⟩:Row)) x=some ⟨r.v,r.ty,[.nr f s y (pG τ.size 0 i)],false,r.lst,true⟩:=aB _ _ _;have aa:(pG τ.size 0 i).length=i.length:=by simp[pG]
 have C:At w (Own M (EH (ca h x (some ⟨r.v,r.ty,[.nr f s y (pG τ.size 0 i)],false,r.lst,true⟩))) blk) g.1 (g.2+0) (i.map UX):=by
  intro j d1 O;rw[akf,akg]at O;obtain⟨d0,m,rfl⟩:=O;have D:=aks.1 c2 d0 (akG m);have ab:=(akI.1 m).1;have n:eZ (UX d0)=true:=by
   cases d0<;>first|rfl|exact D
  have u:(pG τ.size 0 i)[0+j]? = some (UX d0):=by
   rw[alf,wX,m];simp_all
  obtain⟨ad,k1,k2,k3⟩:=K.Ev B rfl rfl k hg;have ae:=(akI.1 u).1;refine⟨(eV n).1,_,?_,k3 _ _ u n⟩;rw[akA];exact bf k1 (by omega)
 have:=ug (e:=e) (o:=o) Q K R S A C (by simp_all) hd;exact this
end
def MH(e d:Nat):Option (Nat×Nat×Nat×Nat×Nat×List D)->Option cv
 | some (a,t,s,S,n,b)=>if d<PK then some ⟨.buf d e S 0 n,[(d,some ⟨e,a,[.nr t s (4*e+2) b],false,true,true⟩)]⟩ else none
 | none=>none
def J3(p:List D->Option (Nat×Nat×Nat×Nat×Nat×List D))(e d:Nat):Option (List D×List Nat)->Option cv
 | some (akd,[])=>MH e d (p akd)
 | _=>none
def Au{p:List D->Option (Nat×Nat×Nat×Nat×Nat×List D)}{e d:Nat}{c:Option (List D×List Nat)}{E:cv}(b:J3 p e d c=some E):∃a f t s S n g,c=some (a,[])∧p a=some (f,t,s,S,n,g)∧d<PK∧E=⟨.buf d e S 0 n,[(d,some ⟨e,f,[.nr t s (4*e+2) g],false,true,true⟩)]⟩:=by
 unfold J3 at b;split at b<;>try (cases b;done)
 rename_i a;unfold MH at b;grind
section
variable {P:Program} {T:Nat->Option Ty} {N:Nat} {M:Nat->Prop} {L:kz} {w0:World} {blk:Nat->Option (Nat×Nat)} {V:Nat->Nat->Prop} {t:Nat->D} {h:Nat->Option Row} {a:Act} {w:World} {e:Nat} {o:Oper} {Γ:Env}
def aau(hΓ:bU P Γ)(hI:Inv N M L w0 blk V t (EH h) a w){g d:Nat}{ai:Option Nat}{p:List D->Option (Nat×Nat×Nat×Nat×Nat×List D)}{H:List D}{vs:Array Value}{E:cv}(hd:ai=some d)(hV:ky N V d e)(aG:∀o',¬V (NK d o') (4*e+2))(hp:Γ.nx.res g=some p)
  (hE:J3 p e d (bZ (EH h) H)=some E) (ar:vs.size=H.length) (hr:∀(j:Nat) d,H[j]? = some d->RT w (Own M (EH h) blk) (EH h) blk V d (vs.getD j undef)):fe P g∧Calls P g vs w fun e' w'=>∃v,e'=.returned v∧kW N M L w0 V t h a e ai E v w':=by
 obtain⟨aH,X,ti,s,S,n,I,au,hs,f,rfl⟩:=Au hE;obtain⟨av,T⟩:=hΓ.res g p hp;refine⟨av,?_⟩;have ab:=hI.FL au ⟨fun b h=>h,fun x hx=>by cases hx⟩ ar hr;refine (T _ _ _ _ _ _ _ hs w (Own M (EH h) blk) _ vs rfl (fun b hb=>hI.A5 hb) ab).mono fun e' w' r =>?_;obtain⟨u,c,m,hbel,aj,hR,hu⟩:=r;refine⟨u,m,rB blk c d,?_⟩;have hA:=hI.le (BD (h:=h) d f);generalize ad:ca h d (some (⟨e,X,[.nr ti s (4*e+2) I],false,true,true⟩:Row))=h2;have aw:aW h [(d,some (⟨e,X,[.nr ti s (4*e+2) I],false,true,true⟩:Row))]=h2:=by rw[<- ad];rfl
 rw[aw];have A:h2 d=some ⟨e,X,[.nr ti s (4*e+2) I],false,true,true⟩:=by rw[<- ad,aB]
 have aI:∀k,rt k=d->EH (ca h d none) k=none:=fun k i=>Va (by rw[i,aB]);have Y:∀k,rt k≠d->EH h2 k=EH (ca h d none) k:=fun k i=>eC (by rw[<- ad,aC _ _ i,aC _ _ i]);have Z:∀k,rt k≠d->rB blk c d k=blk k:=fun k i=>if_neg i;have U:rB blk c d d=c 0:=by unfold rB;rw[if_pos (Cg f),xD]
 have al:∀o,rB blk c d (NK d o)=c (NK 0 o):=fun o=>by unfold rB;rw[if_pos (xe f),nJ f]
 have B:∀k z,rt k=d->EH h2 k=some z->∃G,EH (oJ (jA X ti s 0 I)) (I3 d k)=some G∧rB blk c d k=c (I3 d k):=by
  intro k z i m;have hq:rB blk c d k=c (I3 d k):=if_pos i;rcases fF A rfl rfl f i m with⟨rfl,_⟩|⟨o,n,xs,rfl,ho,_⟩
  ·rw[xD]at hq ⊢;exact⟨_,yH,hq⟩
  ·rw[nJ f]at hq ⊢;exact⟨_,wM ho,hq⟩
 have aa:∀b,Own M (EH h2) (rB blk c d) b->Own M (EH h) blk b∨y6 c (EH (oJ (jA X ti s 0 I))) b:=by
  intro b ae;rcases ae with ae|⟨k,z,g,i,ax,r,m⟩
  ·exact .inl (.inl ae)
  ·by_cases W:rt k=d
   ·obtain⟨G,q1,q2⟩:=B k z W i;exact .inr ⟨_,G,g,q1,by simp_all,m⟩
   ·rw[Y k W]at i;rw[Z k W]at r;refine .inl (.inr ⟨k,z,g,?_,ax,r,m⟩);rw[<- i];exact eC (by rw[aC _ _ W])
 have an:∀{g:Nat×Nat}{G:Row},G.mp=false->eJ w' (fun b=>Own M (EH h) blk b∨y6 c (EH (oJ (jA X ti s 0 I))) b) g G->eJ w' (Own M (EH h2) (rB blk c d)) g G:=by
  intro g G ay hr;unfold eJ at hr ⊢;rw[ay]at hr ⊢;obtain⟨J,R,k2,k3⟩:=hr;exact⟨J,R,k2,fun j d F=>⟨(k3 j d F).1,(k3 j d F).2.less aa⟩⟩
 have C:∀k z,rt k=d->EH h2 k=some z->∀g,rB blk c d k=some g->w.heap.size<=g.1:=by
  intro k z i m g r;obtain⟨G,q1,q2⟩:=B k z i m;exact aj g.1 ⟨_,G,g,q1,by simp_all,rfl⟩
 have ao:Inv N M L w0 (rB blk c d) (fun y v=>V y v∨(y=d∧v=e)) t (EH h2) a w':=by
  refine hA.afM (fun k=>rt k=d) (fun _ _ h =>.inl h) hbel.os hbel.tape hbel.output hbel.size (fun k i _=>hbel.block k i) (fun k z i m=>by simp_all) (fun k i=>⟨Y k i,Z k i⟩) ?_ ?_ ?_ ?_ ?_
  ·intro k z i m;rcases fF A rfl rfl f i m with⟨rfl,rfl⟩|⟨o,n,xs,rfl,ho,rfl⟩
   ·refine⟨rfl,fun hn =>.inr ⟨rfl,rfl⟩,?_⟩;rw[U];have q:=hR.rows 0 _ yH;cases r:c 0 with
    | none =>
     simp_all
    | some g0 =>
     rw[r]at q;have q:eJ w' (fun b=>Own M (EH h) blk b∨y6 c (EH (oJ (jA X ti s 0 I))) b) g0 ⟨0,X,I.mapIdx (vB 0 s),false,true,true⟩:=q;refine⟨.inl (C k _ i m g0 (U.trans r)),?_⟩;unfold eJ at q ⊢;simp only at q ⊢;rcases q with⟨ks,vs,R,_⟩|⟨_,J,k2,k3,k4⟩
     ·exfalso;simp only at R;have hl:I.length=1:=by
       have:=congrArg List.length R;simpa using this
      match I,hl with
      | [d],_ =>
       simp only[List.mapIdx_cons,List.mapIdx_nil,akD,and_true]at R;have:=nO 0 s 0 d;rw[R]at this;cases this
     ·refine .inr ⟨fun d hd =>?_,J,k2,by simpa using k3,fun j d F =>?_⟩
      ·obtain⟨j,F⟩:=akB hd;simp only[amj,akg]at F;obtain⟨d0,K,rfl⟩:=F;exact nO _ _ _ _
      ·simp only[amj,akg]at F;obtain⟨d0,K,rfl⟩:=F
       by_cases O:eZ d0=true
       ·rw[kK O];have az:(I.mapIdx (vB 0 s))[j]? = some d0:=by rw[amj,K];exact congrArg some (kK O)
        exact (eV O).2.2.2 (((eV O).2.2.1 (k4 j _ az)).less aa)
       ·cases d0<;>first|trivial|exact absurd rfl O
   ·refine⟨rfl,fun hn=>by have:=iz d o;have:=hI.big;omega,?_⟩;have q:=hR.rows _ _ (wM ho);rw[al];cases r:c (NK 0 o) with
    | none=>simp_all
    | some g =>
     rw[r]at q;refine⟨.inl (C _ _ i m g ((al o).trans r)),an rfl ?_⟩;obtain⟨J,R,k2,k3⟩:=q;exact⟨J,R,k2,k3⟩
  ·intro k l G r2 g g' i hl m ag r aJ aA;obtain⟨q1,p1,p2⟩:=B k G i m;obtain⟨q2,p3,p4⟩:=B l r2 hl ag;have e1:=hR.inj _ _ _ _ g g' p1 p3 (by simp_all) (by simp_all) aA;rcases fF A rfl rfl f i m with⟨rfl,_⟩|⟨o,n,xs,rfl,ho,_⟩
   ·rcases fF A rfl rfl f hl ag with⟨rfl,_⟩|⟨o',n',aD,rfl,aE,_⟩
    ·rfl
    ·rw[xD,nJ f]at e1;have:=iz 0 o';omega
   ·rcases fF A rfl rfl f hl ag with⟨rfl,_⟩|⟨o',n',aD,rfl,aE,_⟩
    ·rw[xD,nJ f]at e1;have:=iz 0 o;omega
    ·rw[nJ f,nJ f]at e1;rw[(vV pW pW e1).2]
  ·intro k z i hv m;rcases fF A rfl rfl f i m with⟨rfl,rfl⟩|⟨o,n,xs,rfl,ho,rfl⟩
   ·exact absurd hv hV.no
   simp_all
  ·intro k z g i m ah r j x' s' n F;rcases fF A rfl rfl f i m with⟨rfl,rfl⟩|⟨o,n',xs,rfl,ho,rfl⟩;rotate_left
   ·cases ah
   simp only[amj,akg]at F;obtain⟨d0,K,aF⟩:=F;obtain⟨aK,rfl,rfl,rfl⟩:=tO aF;rw[U]at r;obtain⟨_,u,R,k2⟩:=hR.pha 0 _ g yH rfl r j (NK 0 j) s' n (by simp only[amj,K,Option.map_some,vB]);refine⟨⟨f,.inr rfl⟩,u,R,fun _ _ =>?_⟩;have:=k2 _ (wM K);simp_all
  ·intro y z j x' s' n hy m ah F aq;have Q:=(hA.rows y z m).2;cases r:blk y with
   | none =>
    rw[r]at Q;have Q:z.cells=[]:=Q;simp_all
   | some g =>
    obtain⟨q1,q2⟩:=(hA.pha y z g m ah r j x' s' n F).1;rcases q2 with rfl|rfl
    ·have:rt (PK+y)=PK+y:=iV (by omega);omega
    ·rw[xe q1]at aq;rw[Cg q1]at hy;exact hy aq
 refine⟨ao.weaken fun x v hx =>?_,.inr ⟨hd,rfl⟩,fun z _ _ =>?_⟩
 ·grind
 ·rw[U];exact hu.2 ⟨0,0,[],false,false,false⟩ rfl rfl
def Gc(s:Inv N M L w0 blk V t h a w){c:Call}{f:Operand}{g:Nat}(A:o.op=.call c)(B:c.callee=.value f)(C:ev t f=.fn g){Φ:Value->World->Prop}
  (D:∀m:Array Value,m.size=(c.args.toList.map (ev t)).length->(∀(j:Nat) d,(c.args.toList.map (ev t))[j]? = some d->RT w (Own M h blk) h blk V d (m.getD j undef))->fe P g∧Calls P g m w fun E F=>∃v,E=.returned v∧Φ v F):ff P o a w Φ:=by
 have i:=s.ev f;have b:∀(j:Nat) d,(c.args.toList.map (ev t))[j]? = some d->RT w (Own M h blk) h blk V d ((c.args.map a.eval).getD j undef):=by
  intro j d l;rw[akf]at l;cases y:c.args.toList[j]? with
  | none=>simp[y]at l
  | some x =>
   simp only[y,Option.map_some,akq]at l;subst l;have:(c.args.map a.eval).getD j undef=a.eval x:=by
    simp_all
   rw[this];exact s.ev x
 have n:(c.args.map a.eval).size=(c.args.toList.map (ev t)).length:=by simp
 rw[C]at i;have k:a.eval f=.func (.func g) #[] #[]:=by
  have p:RP w (Own M h blk) (.fn g) (a.eval f):=i;generalize a.eval f=u at *;cases p;rfl
 obtain⟨⟨z,q,e,r⟩,G⟩:=D _ n b;have H:¬z.name = "runtime.NumGoroutine":=by simpa using e
 have I:¬z.body=none:=by
  grind
 exact .inr (.inr ⟨g,#[]++c.args.map a.eval++#[],by simp[execOp,A,resolve,B,k,Deferred.ofValue,invoke,callFunc,program,Sem.run,q,H,I],by simpa using G⟩)
end
def jF(a:Operand->D):Op->Option (D×List D)
 | .call c=>match c.callee with | .value f=>some (a f,c.args.toList.map a)|_=>none
 | _=>none
def qS{b:Operand->D}{d:Op}{q:D}{a:List D}(e:jF b d=some (q,a)):∃c f,d=.call c∧c.callee=.value f∧q=b f∧a=c.args.toList.map b:=by
 unfold jF at e;grind
def Ee(Γ:Env)(e:Nat)(h:Nat->Option Row):Option (D×List D)->Option cv
 | some (.fn g,args)=>va Γ e h g args
 | _=>none
def Gt(e d:Nat)(h:Nat->Option Row)(a:List D):Option (List D->Option (Nat×Nat×Nat×Nat×Nat×List D))->Option cv
 | some p=>J3 p e d (bZ (EH h) a)
 | none=>none
def qV(Γ:Env)(e:Nat)(h:Nat->Option Row):Option Nat->Option (D×List D)->Option cv
 | some d,some (.fn g,args)=>Gt e d h args (Γ.nx.res g)
 | _,_=>none
def yc(T:Nat->Option Ty)(Γ:Env)(e:Nat)(o:Oper)(a:Operand->D)(h:Nat->Option Row):Option cv :=
 match o.op with
 | .load b p=>match T b with|some τ=>yb τ h (a p)|none=>none
 | .store b p x=>match T b with|some τ=>yd τ e h (a p) (a x)|none=>none
 | .call c=>Ee Γ e h (jF a (.call c))
 | _=>none
def or2(h:Nat->Option Row):Option cv->Option cv->Option cv
 | some ⟨v,hw⟩,_=>some ⟨v,mM h hw⟩
 | none,y=>y
def se(T:Nat->Option Ty)(Γ:Env)(e:Nat)(o:Oper)(a:Operand->D)(h:Nat->Option Row):Option cv :=
 match jg T Γ e o a with
 | some E=>some E
 | none =>
  match qV Γ e h o.dst (jF a o.op) with
  | some E=>some E
  | none=>or2 h (tR T Γ e o a (EH h)) (yc T Γ e o a h)
def cR(o:Oper)(a:Operand->D):List Nat:=(iY o a).map rt
def VE(N e:Nat)(done:List Nat)(h:Nat->Option Row)(x v:Nat):Prop:=(x<N∧(v<e∨(v=e∧x∈done))) ∨
 (2*PK<=x∧v<=4*e+3∧(x % PK∉done->v<=4*e+1)∧∀r b s a c,h (x % PK)=some r->r.mp=true->r.cells=[.nr b s a c]->v<=a)
def I0(e:Nat)(done:List Nat)(h:Nat->Option Row):Prop:=∀x r a s nv b,h x=some r->r.mp=true->r.cells=[.nr a s nv b]->x<PK->nv<=4*e+3∧(x∉done->nv<=4*e+1)
def jr(e:Nat)(h h':Nat->Option Row):Prop:=∀x r' b f a c,h' x=some r'->r'.mp=true->r'.cells=[.nr b f a c]->x<PK->∃r g s d i,h x=some r∧r.mp=true∧r.cells=[.nr g s d i]∧(a=d∨bump d e=some a)
def jr.refl(e:Nat)(h:Nat->Option Row):jr e h h:=fun x r a s b c d f g _=>⟨r,a,s,b,c,d,f,g,.inl rfl⟩
def MF{b e a:Nat}(h:bump b e=some a):b<a∧(a=4*e+1∨(b=4*e+2∧a=4*e+3)):=by
 unfold bump at h;grind
def I0.step{e:Nat}{done a:List Nat}{h h':Nat->Option Row}(i:I0 e done h)(j:jr e h h')(y:∀x,x∈done->x∈a):I0 e a h':=by
 intro x k b l c d m n o g;obtain⟨r,p,s,q,t,u,v,w,f⟩:=j x k b l c d m n o g;obtain⟨z,A⟩:=i x r p s q t u v w g;rcases f with rfl|f
 ·grind
 ·obtain⟨B,C⟩:=MF f;grind
def VE.step{N e:Nat}{done a:List Nat}{h h':Nat->Option Row}(m:jr e h h')(l:∀x,x∈done->x∈a){x v:Nat}(n:VE N e done h x v):VE N e a h' x v:=by
 rcases n with⟨b,c⟩|⟨b,c,h3,o⟩
 ·exact .inl ⟨b,c.imp id fun⟨d,f⟩=>⟨d,l x f⟩⟩
 ·refine .inr ⟨b,c,fun hn=>h3 fun h=>hn (l _ h),fun p g q i j t u w =>?_⟩;obtain⟨r,y,s,z,A,d,f,B,k⟩:=m _ p g q i j t u w (Lj _);have:=o r y s z A d f B;rcases k with rfl|k
  ·exact this
  ·have:=(MF k).1;omega
def I0.ahJ{N e:Nat}{done:List Nat}{h:Nat->Option Row}(c:I0 e done h):VNr (VE N e done h) h:=by
 intro x r d s f g b i j a o;obtain⟨k,l⟩:=c x r d s f g b i j a;refine .inr ⟨iz x o,k,by rw[xA o a];exact l,fun t m u n p q v w =>?_⟩;rw[xA o a,b]at q;simp_all
def I0.new{N e:Nat}{done:List Nat}{h:Nat->Option Row}(p:I0 e done h)(q:N<=PK):adC (VE N e done h) h e:=by
 intro x r b s c d f g i j k a o l;have m:=iz x o;have:=eD;rcases l with⟨t,_⟩|⟨_,_,_,n⟩
 ·omega
 ·have u:=n r b s c d (by rw[xA o k];exact g) i j;have v:=(MF a).1;omega
def P4(e:Nat):∀(l:List (Nat×Option Row))(h:Nat->Option Row),jr e h (aW h (mM h l))
 | [],h =>.refl e h
 | (k,r)::l,h=>by
  intro x p d t f g u v w y;obtain⟨G,z,H,A,B,a,I,n,J⟩:=P4 e l (ca h (rt k) (Cf h k r)) x p d t f g u v w y
  by_cases b:x=rt k
  rotate_left
  ·rw[aC _ _ b]at a;grind
  ·rw[b,aB]at a;unfold Cf at a;split at a
   ·exfalso;obtain⟨_,K,_⟩:=De (o:=0) a;unfold Jl at a;simp_all
   ·rename_i i;have C:rt k=k % PK:=by unfold rt;rw[if_neg i]
    rw[akg]at a;obtain⟨q,L,c⟩:=a;unfold H8 at c;split at c
    ·rename_i j;split at c
     ·rename_i D s E F m;subst c;simp only at n;refine⟨q,D,s,E,F,by simp_all,j,m,?_⟩;unfold Ir at n;grind
     grind
    simp_all
section
variable {P:Program} {T:Nat->Option Ty} {N:Nat} {M:Nat->Prop} {L:kz} {w0:World} {blk:Nat->Option (Nat×Nat)} {t:Nat->D} {h h':Nat->Option Row} {a:Act} {w:World} {e:Nat} {o:Oper} {Γ:Env} {done:List Nat}
def jr.set{x:Nat}{r g:Row}{j s c a d k:Nat}{l f:List D}(u:h x=some r)(v:r.mp=true)(w:r.cells=[.nr j s c l])(m:g.cells=[.nr d k a f])(z:a=c∨bump c e=some a):jr e h (ca h x (some g)):=by
 intro y A n B o p i q t C
 by_cases b:y=x
 ·subst b;rw[aB]at i;grind
 ·rw[aC _ _ b]at i;grind
def jr.drop{y:Nat}(g:jr e (ca h y none) h'):jr e h h':=by
 intro x i b j c d l m n o;obtain⟨r,p,s,q,t,f,k⟩:=g x i b j c d l m n o
 by_cases a:x=y
 ·subst a;rw[aB]at f;cases f
 ·rw[aC _ _ a]at f;grind
def Ky{τ:Ty}{d:D}{E:cv}(a:s9 τ h d=some E):E.hw=[]:=by
 unfold s9 at a;split at a<;>try (cases a;done)
 split at a<;>try (cases a;done)
 unfold Nk at a;grind
def TH{τ:Ty}{d:D}{E:cv}(a:s8 τ h d=some E):jr e h (aW h E.hw):=by
 unfold s8 at a;split at a<;>try (cases a;done)
 split at a<;>try (cases a;done)
 rename_i r j s k l b;obtain⟨c,m,n,f,g,i⟩:=jI b;split at a<;>try (cases a;done)
 unfold T7 at a;split at a<;>try (cases a;done)
 cases a;exact jr.set c f i rfl (.inl rfl)
def TL{τ:Ty}{p d:D}{E:cv}(a:tf τ e h p d=some E):jr e h (aW h E.hw):=by
 unfold tf at a;split at a<;>try (cases a;done)
 split at a<;>try (cases a;done)
 rename_i r m s n o b;obtain⟨c,q,t,f,g,i⟩:=jI b;split at a<;>try (cases a;done)
 unfold UD at a;split at a<;>try (cases a;done)
 split at a<;>try (cases a;done)
 unfold stZ at a;split at a<;>try (cases a;done)
 rename_i j k l _;cases a;exact jr.set c f i rfl (.inr l)
def TK{τ:Ty}{p d:D}{E:cv}(a:p9 τ e h p d=some E):jr e h (aW h E.hw):=by
 unfold p9 at a;split at a<;>try (cases a;done)
 rename_i l B m;split at a<;>try (cases a;done)
 rename_i r n s o t u;obtain⟨g,C,F,i,v,j⟩:=jI u;split at a<;>try (cases a;done)
 have b:∀{k:Option (List D)},NW τ l r n s o t m k=some E->jr e h (aW h E.hw):=by
  intro k a;unfold NW at a;split at a<;>try (cases a;done)
  split at a<;>try (cases a;done)
  cases a;exact jr.set g i j rfl (.inl rfl)
 unfold JA at a;split at a
 ·rename_i w G H I J;split at a<;>try (cases a;done)
  split at a
  ·split at a<;>try (cases a;done)
   unfold NV at a;split at a<;>try (cases a;done)
   split at a<;>try (cases a;done)
   cases a;exact jr.set g i j rfl (.inl rfl)
  ·split at a<;>try (cases a;done)
   split at a<;>try (cases a;done)
   rename_i q c;split at a<;>try (cases a;done)
   unfold DB at a;split at a<;>try (cases a;done)
   rename_i x z;cases a;obtain⟨f,A⟩:=cQ c;refine jr.drop (y:=w) ?_;exact jr.set (by
    rw[aC]
    ·exact g
    ·rintro rfl;rw[g]at f;cases f;have:=jz c;simp_all) i j rfl (.inr z)
 ·exact b a
structure vT(N:Nat)(M:Nat->Prop)(L:kz)(w0:World)(blk:Nat->Option (Nat×Nat))(e:Nat)(done:List Nat)(t:Nat->D)(h:Nat->Option Row)(a:Act)(w:World):Prop where
 inv:Inv N M L w0 blk (VE N e done h) t (EH h) a w
 nv:I0 e done h
def Fv(N:Nat)(M:Nat->Prop)(L:kz)(w0:World)(t:Nat->D)(h:Nat->Option Row)(a:Act)(e:Nat)(done:List Nat)(E:cv)(v:Value)(c:World):Prop :=
 ∃b,vT N M L w0 b e done t (aW h E.hw) a c∧RT c (Own M (EH (aW h E.hw)) b) (EH (aW h E.hw)) b (VE N e done (aW h E.hw)) E.val v
def TG(hT:jL P T)(hΓ:bU P Γ)(m:vT N M L w0 blk e done t h a w)(hd:∀d:Nat,o.dst=some d->d∉done∧d<N){E:cv}(j:se T Γ e o (ev t) h=some E):ff P o a w (Fv N M L w0 t h a e (o.dst.toList++done) E):=by
 have B:=m.inv.big;have au:=eD;have hV:∀d:Nat,o.dst=some d->ky N (VE N e done h) d e:=by
  intro d an;obtain⟨R,F⟩:=hd d an;replace F:(d:Nat)<N:=F;refine⟨fun hv =>?_,F⟩;rcases hv with⟨_,hv|⟨_,hv⟩⟩|⟨hv,_⟩
  ·omega
  ·exact R hv
  ·omega
 have hP:∀x v,VE N e done h x v->x<N∨2*PK<=x:=fun x v hv=>hv.imp (fun h=>h.1) (fun h=>h.1);have C:∀x,x∈done->x∈o.dst.toList++done:=fun x S=>akw _ S;have fin:jr e h (aW h E.hw)->∀{v:Value}{y:World},kW N M L w0 (VE N e done h) t h a e o.dst E v y->Fv N M L w0 t h a e (o.dst.toList++done) E v y:=by
  intro Z v y k;obtain⟨G,H,I⟩:=k;have J:∀x n,VE N e done h x n∨(o.dst=some x∧n=e)->VE N e (o.dst.toList++done) (aW h E.hw) x n:=by
   rintro x n (hv|⟨S,rfl⟩)
   ·exact hv.step Z C
   ·exact .inl ⟨(hd x S).2,.inr ⟨rfl,akv _ (by rw[S];simp)⟩⟩
  refine⟨G,⟨H.weaken J,m.nv.step Z C⟩,I.mono ⟨fun _ H I=>⟨H,I,rfl⟩,J,fun _ _ _ r' H I=>⟨⟨r',H,I⟩,rfl,fun _ _=>rfl⟩⟩⟩
 have fin2:∀{E0:cv}{d:Nat}{r0:Row}{z s:Nat}{U:List D},o.dst=some d->E0.hw=[(d,some r0)]->r0.mp=true->r0.cells=[.nr z s (4*e+2) U]->∀{v:Value}{y:World},kW N M L w0 (VE N e done h) t h a e o.dst E0 v y->Fv N M L w0 t h a e (o.dst.toList++done) E0 v y:=by
  intro E0 d r0 z s U i K V q v y k;obtain⟨G,H,I⟩:=k;obtain⟨W,X⟩:=hd d i;have ae:aW h E0.hw=ca h d (some r0):=by rw[K];rfl
  have J:∀x n,VE N e done h x n∨(o.dst=some x∧n=e)->VE N e (o.dst.toList++done) (aW h E0.hw) x n:=by
   rintro x n (hv|⟨S,rfl⟩)
   ·rcases hv with⟨R,F⟩|⟨R,F,q3,q4⟩
    ·exact .inl ⟨R,F.imp id fun⟨p1,p2⟩=>⟨p1,C _ p2⟩⟩
    ·refine .inr ⟨R,F,fun hn=>q3 fun h=>hn (C _ h),fun r' ag s1 ah ai k1 k2 k3 =>?_⟩;rw[ae]at k1
     by_cases O:x % PK=d
     ·rw[O,aB]at k1;grind
     ·rw[aC _ _ O]at k1;grind
   ·exact .inl ⟨(hd x S).2,.inr ⟨rfl,akv _ (by rw[S];simp)⟩⟩
  refine⟨G,⟨H.weaken J,?_⟩,I.mono ⟨fun _ H I=>⟨H,I,rfl⟩,J,fun _ _ _ r' H I=>⟨⟨r',H,I⟩,rfl,fun _ _=>rfl⟩⟩⟩;intro x r' ag s1 ah ai k1 k2 k3 hp;rw[ae]at k1
  by_cases O:x=d
  ·subst O;rw[aB]at k1;simp_all
  ·rw[aC _ _ O]at k1;obtain⟨p1,p2⟩:=m.nv x r' ag s1 ah ai k1 k2 k3 hp;simp_all
 have aj:∀d:Nat,o.dst=some d->∀o',¬VE N e done h (NK d o') (4*e+2):=by
  intro d i o' hv;obtain⟨W,X⟩:=hd d i;have ao:(d:Nat)<PK:=akl X B;rcases hv with⟨hv,_⟩|⟨_,_,hv,_⟩
  ·omega
  ·have:=hv (by rw[xA o' ao];exact W);omega
 unfold se at j;split at j
 ·rename_i E0 b;simp only[akq]at j;subst j;unfold jg at b;split at b<;>try (cases b;done)
  rotate_left
  ·rename_i ty Q;split at b<;>try (cases b;done)
   rename_i d i;split at b<;>try (cases b;done)
   rename_i z s f hn;split at b<;>try (cases b;done)
   rename_i τ Y;obtain⟨W,X⟩:=hd d i;have k:=aaX hT m.inv Q i (hV d i) (aj d i) Y b;obtain⟨r0,K,V,q⟩:∃r0:Row,E0.hw=[(d,some r0)]∧r0.mp=true∧∃cs,r0.cells=[.nr z s (4*e+2) cs]:=by
    unfold mkA at b;split at b<;>try (cases b;done)
    cases b;simp_all
   obtain⟨U,q⟩:=q;exact k.mono fun v y k=>fin2 i K V q k
  rename_i ty l c Q;split at b<;>try (cases b;done)
  rename_i d i;split at b<;>try (cases b;done)
  rename_i z s f hn;split at b<;>try (cases b;done)
  rename_i τ Y;obtain⟨W,X⟩:=hd d i;have k:=aaY hT m.inv Q i (hV d i) (fun o' hv=>by
   simp_all) Y b
  obtain⟨r0,K,V,q⟩:∃r0:Row,E0.hw=[(d,some r0)]∧r0.mp=true∧∃cs,r0.cells=[.nr z s (4*e+2) cs]:=by
   unfold pK at b;split at b<;>try (cases b;done)
   split at b<;>try (cases b;done)
   split at b<;>try (cases b;done)
   cases b;simp_all
  obtain⟨U,q⟩:=q;exact k.mono fun v y k=>fin2 i K V q k
 split at j
 ·rename_i E0 u;simp only[akq]at j;subst j;unfold qV at u;split at u<;>try (cases u;done)
  rename_i d g al i aa;obtain⟨c,f,ab,ad,hq,A⟩:=qS aa;unfold Gt at u;split at u<;>try (cases u;done)
  rename_i p hp;obtain⟨_,z,ti,s',S',n',aq,_,_,_,av⟩:=Au u;subst A;have k:=Gc m.inv ab ad hq.symm (fun vs R F=>aau hΓ m.inv i (hV d i) (aj d i) hp u R F);refine k.mono fun v y k =>?_;grind
 ·unfold or2 at j;split at j
  ·rename_i v0 hw he;simp only[akq]at j;subst j;have k:=Yg hT hΓ m.inv hV hP he;exact k.mono fun v y k=>fin (P4 e hw h) (k.le (P0 hw h))
  ·unfold yc at j;split at j
   ·rename_i ty p Q;split at j<;>try (cases j;done)
    rename_i τ Y;unfold yb orE at j;split at j
    ·rename_i E0 hF;simp only[akq]at j;subst j;exact (aaU hT m.inv Q Y hF).mono fun v y k=>fin (TH hF) k
    ·exact (aaV hT m.inv m.nv.ahJ Q Y j).mono fun v y k=>fin (by rw[Ky j];exact .refl e h) k
   ·rename_i ty p x Q;split at j<;>try (cases j;done)
    rename_i τ Y;unfold yd orE at j;split at j
    ·rename_i E0 hF;simp only[akq]at j;subst j;exact (aa1 hT m.inv (m.nv.new B) Q Y hF).mono fun v y k=>fin (TL hF) k
    ·exact (aa0 hT m.inv (m.nv.new B) Q Y j).mono fun v y k=>fin (TK j) k
   ·rename_i c Q;unfold Ee at j;split at j<;>try (cases j;done)
    rename_i g al aa;obtain⟨c',f,ab,ad,hq,A⟩:=qS aa;cases ab;subst A;refine (Gc m.inv Q ad hq.symm (fun vs R F=>aaw hΓ m.inv (m.nv.new B) (dst:=o.dst) j R F)).mono fun v y k=>fin ?_ k;obtain⟨x,v,o',ar,r,ty,s,nv,cs,p,aw,ax,d,aq,_,hl,_,_,hb,_,_,rfl⟩:=wh j;obtain⟨S,_,_,hm,_,hc⟩:=jI hl;exact jr.set S hm hc rfl (.inr hb)
   ·cases j
end
section
variable {T:Nat->Option Ty} {h h':Nat->Option Row} {e:Nat} {o:Oper} {Γ:Env}
def q8{x v:Nat}(a:h x=h' x):iT h x v=iT h' x v:=by simp[iT,a]
def pc{x v:Nat}{q:Row×Nat×Nat×Nat×List D}(a:iT h x v=some q):x<PK:=by
 obtain⟨r,b,s,c,d⟩:=q;exact (jI a).2.2.2.2.1
def Ej:∀(l:List (Nat×Option Row)){h h':Nat->Option Row},(∀p∈l,h (rt p.1)=h' (rt p.1))->mM h l=mM h' l
 | [],_,_,_=>rfl
 | (k,r)::l,h,h',c=>by
  have d:h (rt k)=h' (rt k):=c (k,r) (by simp);have e:Cf h k r=Cf h' k r:=by
   unfold Cf;split
   ·rfl
   ·rename_i a;have:rt k=k % PK:=by unfold rt;rw[if_neg a]
    rw[<- this,d]
  unfold mM;rw[e];congr 1;refine Ej l fun p f =>?_
  by_cases b:rt p.1=rt k
  ·rw[b,aB,aB]
  ·rw[aC _ _ b,aC _ _ b];grind
def Ek:∀(l:List (Nat×Option Row)){h:Nat->Option Row},∀p∈mM h l,∃q∈l,p.1=rt q.1
 | [],_,p,a=>by simp[mM]at a
 | (k,r)::l,h,p,a=>by
  unfold mM at a;rcases ako.1 a with rfl|a
  ·simp_all
  ·obtain⟨q,b,c⟩:=Ek l p a;grind
def Zn{τ:Ty}{p d:D}{E:cv}(a:p9 τ e h p d=some E):∀q∈E.hw,q.1<PK∧(q.1∈nm p∨q.1∈nm d):=by
 unfold p9 at a;split at a<;>try (cases a;done)
 rename_i f k g;split at a<;>try (cases a;done)
 rename_i r n s o t u;have i:=pc u;split at a<;>try (cases a;done)
 have one:∀{l:Option Row}(q:Nat×Option Row),q∈[(f,l)]->q.1<PK∧(q.1∈nm (.ptr f k g)∨q.1∈nm d):=by
  intro l q c;simp only[akC]at c;subst c;exact⟨i,.inl (by simp[nm,jQ])⟩
 have b:∀{m:Option (List D)},NW τ f r n s o t g m=some E->∀q∈E.hw,q.1<PK∧(q.1∈nm (.ptr f k g)∨q.1∈nm d):=by
  intro m a;unfold NW at a;grind
 unfold JA at a;split at a
 ·rename_i v w x y z;split at a<;>try (cases a;done)
  split at a
  ·split at a<;>try (cases a;done)
   unfold NV at a;grind
  ·split at a<;>try (cases a;done)
   rename_i j;split at a<;>try (cases a;done)
   split at a<;>try (cases a;done)
   unfold DB at a;split at a<;>try (cases a;done)
   cases a;intro q c;rcases ako.1 c with rfl|c
   ·exact⟨j,.inr (by simp[nm,jQ])⟩
   ·exact one q c
 ·exact b a
def YC{τ:Ty}{p:D}{E:cv}(a:s8 τ h p=some E):∀q∈E.hw,q.1<PK∧q.1∈nm p:=by
 unfold s8 at a;split at a<;>try (cases a;done)
 rename_i e f g;split at a<;>try (cases a;done)
 rename_i r i s j k d;have b:=pc d;split at a<;>try (cases a;done)
 unfold T7 at a;split at a<;>try (cases a;done)
 cases a;intro q c;simp only[akC]at c;subst c;exact⟨b,by simp[nm,jQ]⟩
def Zp{τ:Ty}{p d:D}{E:cv}(a:tf τ e h p d=some E):∀q∈E.hw,q.1<PK∧(q.1∈nm p∨q.1∈nm d):=by
 unfold tf at a;split at a<;>try (cases a;done)
 rename_i g i j;split at a<;>try (cases a;done)
 rename_i r k s l m f;have b:=pc f;split at a<;>try (cases a;done)
 unfold UD at a;split at a<;>try (cases a;done)
 split at a<;>try (cases a;done)
 unfold stZ at a;split at a<;>try (cases a;done)
 cases a;intro q c;simp only[akC]at c;subst c;exact⟨b,.inl (by simp[nm,jQ])⟩
def YB{τ:Ty}{d:D}(b:∀x∈nm d,x<2*PK->h x=h' x):s8 τ h d=s8 τ h' d:=by
 unfold s8;split
 ·rename_i x v o
  by_cases c:x<2*PK
  ·rw[q8 (b x (by simp[nm,jQ]) c)]
  ·have a:∀h:Nat->Option Row,iT h x v=none:=by
    intro h;cases e:iT h x v with
    | none=>rfl
    | some q=>have:=pc e;omega
   rw[a,a]
 ·rfl
def Zo{τ:Ty}{p d:D}(c:∀x∈nm p,x<2*PK->h x=h' x):tf τ e h p d=tf τ e h' p d:=by
 unfold tf;split
 ·rename_i x v o
  by_cases a:x<2*PK
  ·rw[q8 (c x (by simp[nm,jQ]) a)]
  ·have b:∀h:Nat->Option Row,iT h x v=none:=by
    intro h;cases f:iT h x v with
    | none=>rfl
    | some q=>have:=pc f;omega
   rw[b,b]
 ·rfl
def YD{τ:Ty}{d:D}(b:∀x∈nm d,x<2*PK->h x=h' x):s9 τ h d=s9 τ h' d:=by
 unfold s9;split
 ·rename_i x v o
  by_cases c:x<2*PK
  ·rw[q8 (b x (by simp[nm,jQ]) c)]
  ·have a:∀h:Nat->Option Row,iT h x v=none:=by
    intro h;cases e:iT h x v with
    | none=>rfl
    | some q=>have:=pc e;omega
   rw[a,a]
 ·rfl
def Zm{τ:Ty}{p d:D}(f:∀x∈nm p,x<2*PK->h x=h' x)(g:∀x∈nm d,x<2*PK->h x=h' x):p9 τ e h p d=p9 τ e h' p d:=by
 unfold p9;split
 ·rename_i x v o
  by_cases a:x<2*PK
  rotate_left
  ·have c:∀h:Nat->Option Row,iT h x v=none:=by
    intro h;cases i:iT h x v with
    | none=>rfl
    | some q=>have:=pc i;omega
   rw[c,c]
  rw[q8 (f x (by simp[nm,jQ]) a)];split
  ·split
   ·unfold JA;split
    ·rename_i y j k l n
     by_cases b:y<2*PK
     ·rw[dy (g y (by simp[nm,jQ]) b)]
     grind
    ·rfl
   ·rfl
  ·rfl
 ·rfl
def gG{a:Operand->D}{x:Nat}(b:x∈iY o a):rt x∈cR o a:=akh.2 ⟨x,b,rfl⟩
def rn{d:Operand->D}{y:Operand}(e:y∈o.op.operands.toList)(f:∀a b c,o.op ≠ .pick a b c)(g:∀a,o.op ≠ .move a)(h:∀a b c,o.op ≠ .makeFunc a b c){x:Nat}(i:x∈nm (d y)):x∈iY o d:=by
 unfold iY;grind
def J6{j:Operand->D}{q:D}{a:List D}(k:jF j o.op=some (q,a))(l:∀x∈cR o j,h x=h' x):∀d∈a,∀x∈nm d,h (rt x)=h' (rt x):=by
 obtain⟨c,f,e,g,_,b⟩:=qS k;subst b;intro d m x i;obtain⟨y,n,rfl⟩:=akh.1 m;exact l _ (gG (rn (y:=y) (by simp[e,Op.operands,Call.operands,g];simp_all) (by simp[e]) (by simp[e]) (by simp[e]) i))
def OW{g:Nat}{a:List D}(j:∀d∈a,∀x∈nm d,h (rt x)=h' (rt x)):va Γ e h g a=va Γ e h' g a:=by
 unfold va;split
 ·rename_i x v c b;have f:bZ (EH h) b=bZ (EH h') b:=kD fun d l x i=>eC (j d (alx _ l) x i)
  by_cases m:x<2*PK
  ·have:=j _ alw x (by simp[nm,jQ]);rw[iV m]at this;rw[q8 this,f]
  ·have k:∀h:Nat->Option Row,iT h x v=none:=by
    intro h;cases n:iT h x v with
    | none=>rfl
    | some q=>have:=pc n;omega
   rw[k,k]
 ·rfl
def PL{a:Operand->D}(i:∀x∈cR o a,h x=h' x):qV Γ e h o.dst (jF a o.op)=qV Γ e h' o.dst (jF a o.op):=by
 unfold qV;split
 ·rename_i d g c f j;unfold Gt;split
  ·rw[kD fun d f x b=>eC (J6 j i d f x b)]
  ·rfl
 ·rfl
def TJ{d:Operand->D}(j:∀x∈cR o d,h x=h' x):yc T Γ e o d h=yc T Γ e o d h':=by
 unfold yc;split
 ·rename_i l p a;split
  ·have f:∀x∈nm (d p),x<2*PK->h x=h' x:=fun x b i=>by
    have:=j _ (gG (rn (y:=p) (by simp[a,Op.operands]) (by simp[a]) (by simp[a]) (by simp[a]) b))
    rwa [iV i]at this
   unfold yb;rw[YD f,YB f]
  ·rfl
 ·rename_i l p x a;split
  ·have f:∀x∈nm (d p),x<2*PK->h x=h' x:=fun y b i=>by
    have:=j _ (gG (rn (y:=p) (by simp[a,Op.operands]) (by simp[a]) (by simp[a]) (by simp[a]) b))
    rwa [iV i]at this
   unfold yd;rw[Zm f (fun y b i=>by
    have:=j _ (gG (rn (y:=x) (by simp[a,Op.operands]) (by simp[a]) (by simp[a]) (by simp[a]) b))
    rwa [iV i]at this),Zo f]
  ·rfl
 ·rename_i c a;unfold Ee;split
  ·rename_i g k m;exact OW (J6 (by rw[a];exact m) j)
  ·rfl
 ·rfl
def TE{a:Operand->D}(hx:∀x∈cR o a,h x=h' x):se T Γ e o a h=se T Γ e o a h':=by
 have c:tR T Γ e o a (EH h)=tR T Γ e o a (EH h'):=Yf fun x b=>eC (hx _ (gG b));unfold se;rw[c,TJ hx,PL hx];split
 ·rfl
 split
 ·rfl
 ·cases d:tR T Γ e o a (EH h') with
  | none=>rfl
  | some E =>
   simp only[or2];rw[Ej E.hw fun p f=>hx _ (gG (Kz d p f))]
def TF{k:Operand->D}{E:cv}(b:se T Γ e o k h=some E):∀p∈E.hw,p.1∈cR o k:=by
 unfold se at b;split at b
 ·rename_i I a;simp only[akq]at b;subst b;unfold jg at a;split at a<;>try (cases a;done)
  rotate_left
  ·rename_i H i;split at a<;>try (cases a;done)
   rename_i d t;split at a<;>try (cases a;done)
   split at a<;>try (cases a;done)
   unfold mkA at a;split at a<;>try (cases a;done)
   rename_i u;cases a;intro p m;simp only[akC]at m;subst m;have B:d∈iY o k:=by
    unfold iY;simp_all
   have:=gG B
   rwa [iV (by omega)]at this
  rename_i H l c i;split at a<;>try (cases a;done)
  rename_i d t;split at a<;>try (cases a;done)
  split at a<;>try (cases a;done)
  unfold pK at a;split at a<;>try (cases a;done)
  split at a<;>try (cases a;done)
  split at a<;>try (cases a;done)
  rename_i u;cases a;intro p m;simp only[akC]at m;subst m;have B:d∈iY o k:=by
   unfold iY;simp_all
  have:=gG B
  rwa [iV (by omega)]at this
 split at b
 ·rename_i I j;simp only[akq]at b;subst b;unfold qV at j;split at j<;>try (cases j;done)
  rename_i d g C t w;obtain⟨c,f,F,G,n,z⟩:=qS w;unfold Gt at j;split at j<;>try (cases j;done)
  obtain⟨_,_,_,_,_,_,_,_,_,O,rfl⟩:=Au j;intro p m;simp only[akC]at m;subst m;have B:d∈iY o k:=by
   unfold iY;simp_all
  have:=gG B
  rwa [iV (by omega)]at this
 ·unfold or2 at b;split at b
  ·rename_i v0 P Q;simp only[akq]at b;subst b;intro p m;obtain⟨q,R,S⟩:=Ek P p m;rw[S];exact gG (Kz Q q R)
  ·unfold yc at b;split at b
   ·rename_i H p i;split at b<;>try (cases b;done)
    unfold yb orE at b;split at b
    ·rename_i I J;simp only[akq]at b;subst b;intro q n;obtain⟨U,A⟩:=YC J q n;have:q.1∈iY o k:=rn (y:=p) (by simp[i,Op.operands]) (by simp[i]) (by simp[i]) (by simp[i]) A;have:=gG this
     rwa [iV (by omega)]at this
    rw[Ky b];simp_all
   ·rename_i H p x i;split at b<;>try (cases b;done)
    intro q n;have K:q.1<PK∧(q.1∈nm (k p)∨q.1∈nm (k x)):=by
     unfold yd orE at b;split at b
     ·rename_i I J;simp only[akq]at b;subst b;exact Zp J q n
     ·exact Zn b q n
    obtain⟨U,A⟩:=K;have:q.1∈iY o k:=by
     rcases A with A|A
     ·exact rn (y:=p) (by simp[i,Op.operands]) (by simp[i]) (by simp[i]) (by simp[i]) A
     ·exact rn (y:=x) (by simp[i,Op.operands]) (by simp[i]) (by simp[i]) (by simp[i]) A
    have:=gG this
    rwa [iV (by omega)]at this
   ·rename_i c i;unfold Ee at b;split at b<;>try (cases b;done)
    rename_i g C w;obtain⟨c',f,F,G,n,z⟩:=qS w;cases F;obtain⟨x,v,M,N,r,H,s,nv,cs,p,V,W,d,X,Y,Z,_,_,_,_,_,rfl⟩:=wh b;have aa:=pc Z;intro q n;simp only[akC]at n;subst n;obtain⟨y,hy,L⟩:∃y∈c.args.toList,k y=.ptr x v M:=by
     have:(.ptr x v M:D)∈c.args.toList.map k:=by grind
     simp_all
    have:x∈iY o k:=rn (y:=y) (by simp[i,Op.operands,Call.operands,G];simp_all) (by simp[i]) (by simp[i]) (by simp[i]) (by rw[L];simp[nm,jQ]);have:=gG this
    rwa [iV (by omega)]at this
   ·cases b
def adW{d a:Operand->D}(hx:∀y∈o.op.operands.toList,d y=a y):se T Γ e o d h=se T Γ e o a h∧cR o d=cR o a:=by
 obtain⟨k,m⟩:=af5 (T:=T) (Γ:=Γ) (e:=e) (h:=EH h) hx;have n:jg T Γ e o d=jg T Γ e o a:=by
  unfold jg;split
  ·rename_i g l c b;rw[hx l (by simp[b,Op.operands]),hx c (by simp[b,Op.operands])]
  ·rfl
  ·rfl
 have j:∀c,o.op=.call c->jF d (.call c)=jF a (.call c):=by
  intro c b;unfold jF;simp only;split
  ·rename_i f i;rw[hx f (by simp[b,Op.operands,Call.operands,i]),alA fun y q=>hx y (by simp[b,Op.operands,Call.operands,i];simp_all)]
  ·rfl
 have r:yc T Γ e o d h=yc T Γ e o a h:=by
  unfold yc;split
  ·rename_i g p b;rw[hx p (by simp[b,Op.operands])]
  ·rename_i g p x b;rw[hx p (by simp[b,Op.operands]),hx x (by simp[b,Op.operands])]
  ·simp_all
  ·rfl
 have s:jF d o.op=jF a o.op:=by
  by_cases t:∃c,o.op=.call c
  ·grind
  ·unfold jF;simp_all
 unfold se cR;simp_all
end
end Go.Proofs.YtobnihfgnbnncaaGreat.Am
