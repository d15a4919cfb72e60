import Derived.Test.YtobnihfgnbnncaaGreatHc
set_option linter.unusedSimpArgs false
set_option linter.unusedVariables false
set_option linter.defProp false
noncomputable section
open Go.Proofs.Tryz
namespace Go.Proofs.YtobnihfgnbnncaaGreat.Am
open Go.RowKit Go.Proofs.YtobnihfgnbnncaaGreat.P
instance:DL (Int×Int):=⟨fun p=>(p.1,some p.2),fun x y h=>by
 grind⟩
def fJ{κ α:Type}[DL κ]:List (κ×α)->List ec
 | []=>[]
 | (k,_)::m=>DL.k k::fJ m
def iu{κ α:Type}(A:Arg α):List (κ×α)->List D
 | []=>[]
 | (_,v)::m=>A.d v::iu A m
section
variable {κ α:Type} [DL κ] {A:Arg α}
def Wn(k n:κ):DL.k k=DL.k n↔k=n:=⟨DL.inj _ _,fun h=>by rw[h]⟩
def Q3[DecidableEq κ](n:κ):∀m:List (κ×α),(fJ m).contains (DL.k n)=pJ m n
 | []=>rfl
 | (k,v)::m=>by
  have:=Q3 n m;simp only[fJ,ala,pJ,this];congr 1
  by_cases h:k=n
  ·simp_all
  ·rw[beq_eq_false_iff_ne.2 h,beq_eq_false_iff_ne.2 (fun e=>h (DL.inj _ _ e.symm))]
def Q4:∀m:List (κ×α),(fJ m).length=m.length
 | []=>rfl
 | (k,v)::m=>by simp[fJ,Q4 m]
def Ld[DecidableEq κ](z:α)(n:κ):∀m:List (κ×α),ur (A.d z) (fJ m) (iu A m) (DL.k n)=A.d (gI z m n)
 | []=>rfl
 | (k,v)::m=>by
  simp only[fJ,iu,ur,gI,Ld z n m,Wn];grind
def RV[DecidableEq κ](n:κ)(v:α):∀m:List (κ×α),A6 (fJ m) (DL.k n)=fJ (tH m n v)
 | []=>rfl
 | (k,x)::m=>by
  have a:=RV n v m;unfold A6 at a ⊢;simp only[fJ,tH,ala]
  by_cases h:k=n
  ·subst h;simp[fJ]
  ·have b:(DL.k n==DL.k k)=false:=by simpa [Wn] using Ne.symm h
   rw[b,alb,if_neg h];simp only[fJ];grind
def RX[DecidableEq κ](n:κ)(v:α):∀m:List (κ×α),E9 (fJ m) (iu A m) (DL.k n) (A.d v)=iu A (tH m n v)
 | []=>rfl
 | (k,x)::m=>by
  have a:=RX n v m;unfold E9 at a ⊢;simp only[fJ,iu,tH,ala]
  by_cases h:k=n
  ·subst h;simp[iu,ak9]
  ·have b:(DL.k n==DL.k k)=false:=by simpa [Wn] using Ne.symm h
   have c:(DL.k k==DL.k n)=false:=by grind
   rw[b,alb,if_neg h];simp only[iu,ak9,c,cond_false];grind
def map_inj:∀{m a:List (κ×α)},fJ m=fJ a->iu A m=iu A a->m=a
 | [],[],_,_=>rfl
 | [],(k,v)::a,h,_=>by simp[fJ]at h
 | (k,v)::m,[],h,_=>by simp[fJ]at h
 | (k,v)::m,(k',v')::a,h,g=>by
  simp only[fJ,akD,Wn]at h;simp only[iu,akD]at g;rw[h.1,A.inj _ _ g.1,map_inj h.2 g.2]
end
def K4{α:Type}{a b:Int}{m:List ((Int×Int)×α)}:u3 true (a,some b) (fJ m)=true:=by
 unfold u3;simp only[akP];refine⟨rfl,?_⟩
 induction m with
 | nil=>rfl
 | cons p m c=>simp only[fJ,List.all_cons,akP];exact⟨rfl,c⟩
def kp{κ ν α β:Type}[DL κ](a:Nat)(V:Arg ν)(A:ki α)(F:List (κ×ν)->α->Option (List (κ×ν)×β))(R:β->RK):Option (D×Row)->List D->Option (RK×Option Row):=fun bY b =>
 match bY with
 | some (.mp 0 0,⟨0,ty',[.mpc ks vs],false,true,true⟩)=>open Classical in
  if h:ty'=a∧∃p:List (κ×ν)×α,ks=fJ p.1∧vs=iu V p.1∧b=A.ds p.2 then
   (F (Classical.choose h.2).1 (Classical.choose h.2).2).map fun r=>(R r.2,some ⟨0,a,[.mpc (fJ r.1) (iu V r.1)],false,true,true⟩)
  else none
 | _=>none
def agn{κ ν α β:Type}[DL κ](b:Nat)(V:Arg ν)(A:ki α)(F:List (κ×ν)->α->Option (List (κ×ν)×β))(R:β->RK)(l:List (κ×ν))(a:α) :
  kp b V A F R (some (.mp 0 0,⟨0,b,[.mpc (fJ l) (iu V l)],false,true,true⟩)) (A.ds a)=(F l a).map fun r=>(R r.2,some ⟨0,b,[.mpc (fJ r.1) (iu V r.1)],false,true,true⟩):=by
 have h:b=b∧∃p:List (κ×ν)×α,fJ l=fJ p.1∧iu V l=iu V p.1∧A.ds a=A.ds p.2:=⟨rfl,(l,a),rfl,rfl,rfl⟩;simp only[kp];rw[dif_pos h];obtain⟨c,d,e⟩:=Classical.choose_spec h.2;rw[<- A.inj _ _ e,<- map_inj c d]
def ab5{κ ν α β:Type}[DL κ]{c:Nat}{V:Arg ν}{A:ki α}{F:List (κ×ν)->α->Option (List (κ×ν)×β)}{R:β->RK}{bY:Option (D×Row)}{e:List D}{f:RK}{b:Option Row}(h:kp c V A F R bY e=some (f,b)) :
  ∃l a d r,bY=some (.mp 0 0,⟨0,c,[.mpc (fJ l) (iu V l)],false,true,true⟩)∧e=A.ds a∧F l a=some (d,r)∧f=R r∧b=some ⟨0,c,[.mpc (fJ d) (iu V d)],false,true,true⟩:=by
 unfold kp at h;split at h
 ·split at h
  ·rename_i g;obtain⟨rfl,g⟩:=g;rw[akg]at h;grind
  ·cases h
 ·cases h
def cn.abU{P:Program}{T:Nat->Option Ty}{Γ:Env}(j:jL P T)(k:bU P Γ)(m:P.follows .mixedOrders=true){κ ν α β:Type}[DL κ]{e:Nat}{V:Arg ν}{A:ki α}{F:List (κ×ν)->α->Option (List (κ×ν)×β)}{R:β->RK}{f:FuncId}{b:Func}(i:P.funcs[f]? = some b)(g:(match b.body with|some c=>codeOk c|none=>true)=true)
  (n:(b.name == "runtime.NumGoroutine")=false∧b.body.isNone=false) (o:∀a,(A.ds a).length+1<=b.ntmps)
  (h:∀l a d r,F l a=some (d,r)->kN .clean T Γ FU b (some (.mp 0 0,⟨0,e,[.mpc (fJ l) (iu V l)],false,true,true⟩)) (A.ds a)=some (R r,some ⟨0,e,[.mpc (fJ d) (iu V d)],false,true,true⟩)):cn P f (kp e V A F R) where
 calls bY akd rk out p:=by
  obtain⟨l,a,d,r,rfl,rfl,q,rfl,rfl⟩:=ab5 p;exact lY j k m i g (o a) rfl (h l a d r q)
 callable:=⟨b,i,n⟩
def SY{T:Nat->Option Ty}{Γ:Env}{F:Nat}{a:Mode}{e:Func}{c:Code}{n:Nat}{rs:List ResultVar}{d0:D}{f:Nat}{cells:List D}{g d:Bool}{b:List D}{r:RK×Option Row}(j:e.body=some c)(i:e.ntmps=n)(k:e.results=rs.toArray)
  (l:dr T Γ n F [.code c] (abe a T (some (d0,⟨0,f,cells,g,d,true⟩)) rs r) .normal (Bp (d0::b)) (oJ ⟨0,f,cells,g,d,true⟩) 1) (h:n<=1000000:=by exact alK rfl):kN a T Γ F e (some (d0,⟨0,f,cells,g,d,true⟩)) b=some r:=by
 refine U6 ?_ (by rw[i];exact h);unfold wpf;rw[j,i,k];exact l
def XQ{α:Type}(e:iK α):Arg α:=⟨fun x =>.ip (e.cells x),fun x y h=>e.inj _ _ (by simpa using h)⟩
def Vs{α:Type}(e:iK α)(x:α):(XQ e).d x=.ip (e.cells x):=amP
section
variable {T:Nat->Option Ty} {h:Nat->Option Row} {Γ:Env} {e:Nat} {dst:Option Nat}
def lvM(v:Nat):Option Row->Option (List ec×List D)
 | some r=>if r.v=v∧r.mp=true∧r.ty<900000 then (match r.cells with | [.mpc a b]=>some (a,b)|_=>none) else none
 | none=>none
def QM{x v:Nat}:mN h x v=lvM v (h x):=by
 unfold mN lvM;cases h x<;>rfl
def QX{v c:Nat}{d:List ec}{e:List D}{f a:Bool}(b:c<900000):lvM v (some ⟨v,c,[.mpc d e],f,a,true⟩)=some (d,e):=by simp[lvM,b]
def lkK(a:List ec)(n:ec):Bool:=a.contains n
def Wv{α:Type}{m:List ((Int×Int)×α)}{a b:Int}:lkK (fJ m) (a,some b)=pJ m (a,b):=Q3 (a,b) m
def lkE(b d:Bool)(z:D)(n:ec):Option (List ec×List D)->Option cv
 | some (a,c)=>if u3 b n a=true then some ⟨if d then .tup [ur z a c n,.bool (lkK a n)] else ur z a c n,[]⟩ else none
 | none=>none
def afC{b:Bool}{z:D}{n:ec}{a:List ec}{c:List D}:lkE b true z n (some (a,c))=if u3 b n a=true then some ⟨.tup [ur z a c n,.bool (lkK a n)],[]⟩ else none:=amP
def XG(T:Nat->Option Ty)(τ:Ty)(b:Bool)(d:D):Prop:=∃φ z,Hn T τ=some (b,φ)∧lL φ (φ.zero.map qL)=some z∧(φ.zero.map qL).all bu=true∧jT z=d
def agk{τ:Ty}{b:Bool}{d:D}(c:XG T τ b d){m i:D}{n:ec}{a:Bool}(e:Yx i=some n):jm T τ h m i a=lkE b a d n (mapOf h m):=by
 obtain⟨φ,z,f,g,j,rfl⟩:=c;simp only[jm,f,e,lkE,lkK];grind
def Q5{x v:Nat}:mapOf h (.mp x v)=mN h x v:=amP
def muR(b:Bool)(h:Nat->Option Row)(y:Nat)(n:ec)(d:D)(c:List Nat)(a:List ec)(e:List D):Option Row->Option cv
 | some r=>if u3 b n a=true∧r.fz=false∧c.contains y=false then some ⟨.und,kE h c++[(y,some ⟨r.v,r.ty,[.mpc (A6 a n) (E9 a e n d)],false,true,true⟩)]⟩ else none
 | none=>none
def Rc{b:Bool}{y v f:Nat}{n:ec}{d:D}{c:List Nat}{a:List ec}{g:List D}{cells:List D}{e mp:Bool}:muR b h y n d c a g (some ⟨v,f,cells,false,e,mp⟩)=if u3 b n a=true then (if c.contains y=false then some ⟨.und,kE h c++[(y,some ⟨v,f,[.mpc (A6 a n) (E9 a g n d)],false,true,true⟩)]⟩ else none) else none:=by
 simp only[muR,true_and];grind
def muM(b:Bool)(h:Nat->Option Row)(y:Nat)(n:ec)(d:D)(a:List Nat):Option (List ec×List D)->Option cv
 | some (ks,vs)=>muR b h y n d a ks vs (h y)
 | none=>none
def Rb{b:Bool}{y:Nat}{n:ec}{d:D}{a:List Nat}{c:List ec}{e:List D}:muM b h y n d a (some (c,e))=muR b h y n d a c e (h y):=amP
def muE(b:Bool)(h:Nat->Option Row)(y v:Nat)(n:ec):Option (D×List Nat)->Option cv
 | some (d,fr)=>muM b h y n d fr (mN h y v)
 | none=>none
def Ra{b:Bool}{y v:Nat}{n:ec}{d:D}{a:List Nat}:muE b h y v n (some (d,a))=muM b h y n d a (mN h y v):=amP
def agq{τ:Ty}{b:Bool}{d:D}(a:XG T τ b d){y v:Nat}{n:ec}{i x:D}(c:Yx i=some n):eQ T τ h (.mp y v) i x=muE b h y v n (zS h x):=by
 obtain⟨φ,z,e,_⟩:=a;simp only[eQ,e,c];cases zS h x with
 | none=>rfl
 | some p =>
  obtain⟨d,f⟩:=p;simp only[muE];cases g:mN h y v with
  | none=>simp only[muM]<;>cases h y<;>rfl
  | some q =>
   obtain⟨j,k⟩:=q;simp only[muM]<;>cases h y<;>rfl
def Lf{κ α:Type}[DL κ]{m:List (κ×α)}:(fJ m).length=m.length:=Q4 m
def SU{a:List D}:zS h (.agg a)=some (.agg (a.map canon),[]):=amP
def aem{τ:Ty}{b:Bool}{d:D}(g:XG T τ b d){a c:Nat}(f:a<900000):aca T (some τ) a e c=some ⟨.mp c e,[(c,some ⟨e,a,[.mpc [] []],false,true,true⟩)]⟩:=by
 obtain⟨φ,z,h,_⟩:=g;exact acb h f
def aax{a:List D}:bR h (.ip a)=some (.ip a,[]):=amP
def VI{x v o:Nat}:bR h (.ptr x v o)=clP x o (live h x v):=by
 simp only[bR];cases live h x v with
 | none=>rfl
 | some r=>simp only[clP]
def WL{x v o:Nat}:uv (.ptr x v o)=true:=amP
def acj{a:List D}:uv (.ip a)=true:=amP
def abp{v a:Nat}{cells:List D}{b mp:Bool}:xk ⟨v,a,cells,b,true,mp⟩=⟨v,a,cells,true,true,mp⟩:=by cases b<;>rfl
def Wh{d:Nat}:bq.hint d=none:=amP
def Qp{f:Nat}{l:Bool}{G:Option (D×Row)->List D->Option (RK×Option Row)}{d:Nat}:(Am.ext Γ f l G).hint d=Γ.hint d:=amP
def KZ{d i:Nat}:(Am.keep d Γ).hint i=Γ.hint i:=amP
end
structure mY{α:Type}(E:iK α)(C:List D)(o:Nat)(l:List α):Prop where
 fit:o+l.length*E.size<=C.length
 eq:(C.drop o).take (l.length*E.size)=al E l
def mY.self{α:Type}(E:iK α)(l:List α):mY E (al E l) 0 l:=⟨by rw[bF];omega,by rw[alU,<- bF,amd]⟩
def mY.split{α:Type}{E:iK α}{C:List D}{o:Nat}{l:List α}(F:mY E C o l):C.drop o=al E l++C.drop (o+l.length*E.size):=by
 rw[<- alR]
 conv=>lhs;rw[<- alS (l.length*E.size) (C.drop o)]
 rw[F.eq]
def mY.idx{α:Type}{E:iK α}{C:List D}{o:Nat}{l:List α}{i:Int}{x:α}(F:mY E C o l)(h:P.idx l i=some x):o+i.toNat*E.size+E.size<=C.length∧∃a,C.drop (o+i.toNat*E.size)=E.cells x++a:=by
 have b:=kn E h;have c:=F.fit;refine⟨by omega,al E (l.drop (i.toNat+1))++C.drop (o+l.length*E.size),?_⟩;rw[<- alR,F.split,al7 (by rw[bF];omega),zl E h,alZ]
def mY.tail{α:Type}{E:iK α}{C:List D}{o:Nat}{l m:List α}{a:Int}(F:mY E C o l)(h:Fs l a (l.length:Int)=some m):mY E C (o+a.toNat*E.size) m:=by
 obtain⟨c,d,e,f,b⟩:=acF E h;have g:=F.fit;have i:a.toNat*E.size+m.length*E.size=l.length*E.size:=by rw[<- Nat.add_mul];congr 1;omega
 refine⟨by omega,?_⟩;rw[<- alR,F.split,al7 (by rw[bF];omega),al6 (by rw[akz,bF];omega),b]
def ai8:=ai @QM<|ai @QX<|ai @Wv<|ai @K4<|ai @Lf<|ai @afC<|ai @Q5<|ai @Rc<|ai @Rb<|ai @Ra<|@SU
def ai9:=ai @aax<|ai @VI<|ai @WL<|ai @acj<|ai @abp<|ai @Wh<|ai @Qp<|ai @KZ<|ai @LI<|@Vs
def aja:=ai @D2<|ai @Ga<|ai @zX<|@aal
def cn.ofB{P:Program}{T:Nat->Option Ty}{Γ:Env}(g:jL P T)(i:bU P Γ)(j:P.follows .mixedOrders=true){α β:Type}{A:ki α}{F:α->Option β}{R:β->RK}{e:Mode}{f:FuncId}{d:Func}(k:P.funcs[f]? = some d)
  (b:((match d.body with|some c=>codeOk c|none=>true)&&(!(d.name == "runtime.NumGoroutine") && !d.body.isNone))=true) (l:∀a,Nat.ble (A.ds a).length d.ntmps=true) (h:∀a r,F a=some r->kN e T Γ FU d none (A.ds a)=some (R r,none)):cn P f (ew A F R):=by
 rw[akP,akP]at b;exact cn.of g i j k b.1 ⟨by simpa using b.2.1,by simpa using b.2.2⟩ (fun a=>alK (l a)) h
def aaj{α β:Type}(a:Arg α)(b:ki β)(x:α×β):(fV a b).ds x=a.d x.1::b.ds x.2:=amP
def aai{α:Type}(a:Arg α)(x:α):(dO a).ds x=[a.d x]:=amP
def aah(x:Unit):as0.ds x=[]:=amP
def jD:=ai @aaj<|ai @aai<|ai @aah<|ai @ahp<|ai @Vr<|ai @afd<|ai @Z5<|ai @afc<|ai @Z6<|@Vs
def sF{α:Type}(E:iK α)(l:List α):D:=.sl false false l.length (al E l)
def sN(n:Int):D:=.int .i64 n
def sI(l:List Int):D:=.sl false false l.length (al (eI .i64) l)
def rW(v a:Nat)(c:List D):Option Row:=some ⟨v,a,c,false,true,false⟩
def rV(v a:Nat)(c:List D):Option Row:=some ⟨v,a,c,false,false,false⟩
def ah9{α:Type}{E:iK α}{l:List α}:sF E l=.sl false false l.length (al E l):=amP
def aib{n:Int}:sN n=.int .i64 n:=amP
def aia{l:List Int}:sI l=.sl false false l.length (al (eI .i64) l):=amP
def ah6{v a:Nat}{c:List D}:rW v a c=some ⟨v,a,c,false,true,false⟩:=amP
def ah5{v a:Nat}{c:List D}:rV v a c=some ⟨v,a,c,false,false,false⟩:=amP
def vab:=ai @ah9<|ai @aia<|ai @aib<|ai @ah6<|@ah5
def vi:=ai @ai8<|ai @ai9<|@aja
def acq{pre C post a:List D}{o:Nat}(h:o+a.length<=C.length):putCells (pre++(C++post)) (pre.length+o) a=pre++(putCells C o a++post):=by
 unfold putCells;have b:(pre++(C++post)).take (pre.length+o)=pre++C.take o:=by
  rw[List.take_append,alV (by omega),al5,al6 (by omega)]
 have c:(pre++(C++post)).drop (pre.length+o+a.length)=C.drop (o+a.length)++post:=by
  rw[akA,alL,alM (by omega),al5,alO,al7 (by omega)]
 rw[b,c];simp only[alZ]
section
variable {α:Type} (E:iK α) {l:List α} {x x':α} {i:Int} {pre post C:List D} {o:Nat}
def YW(a:Nat)(b:List D)(h:P.idx l i=some x)(d:E.cells x'=putCells (E.cells x) a b)(c:a+b.length<=E.size):putCells (pre++(al E l++post)) (pre.length+i.toNat*E.size+a) b=pre++(al E (l.set i.toNat x')++post):=by
 have e:=eT E a b h d c;have f:=kn E h;have g:=bF E l;rw[akA,acq (by omega),e]
def mY.ab8(l:List α)(pre post:List D):mY E (pre++(al E l++post)) pre.length l:=by
 have h:=bF E l;refine⟨by simp only[alh];omega,?_⟩;rw[List.drop_left,<- h,List.take_left]
variable {E}
def mY.len(F:mY E C o l):(C.take o).length=o:=by
 have:=F.fit;rw[aky];omega
def mY.cells(F:mY E C o l):C.take o++(al E l++C.drop (o+l.length*E.size))=C:=by
 rw[<- F.split,alS]
def mY.put(F:mY E C o l)(a:Nat)(b:List D)(h:P.idx l i=some x)(f:E.cells x'=putCells (E.cells x) a b)(c:a+b.length<=E.size):∃d,putCells C (o+i.toNat*E.size+a) b=d∧mY E d o (l.set i.toNat x'):=by
 refine⟨_,rfl,?_⟩;have e:=YW (pre:=C.take o) (post:=C.drop (o+l.length*E.size)) E a b h f c;rw[F.cells,F.len]at e;rw[e];have:=mY.ab8 E (l.set i.toNat x') (C.take o) (C.drop (o+l.length*E.size))
 rwa [F.len]at this
def mY.bY(F:mY E C o l)(m:List α):mY E (C.take o++(al E m++C.drop (o+l.length*E.size))) o m:=by
 have:=mY.ab8 E m (C.take o) (C.drop (o+l.length*E.size))
 rwa [F.len]at this
end
def ahm(P:Program)(f:FuncId):Prop:=∀(blk a b:Nat)(zs:List Int)(w:World),Go.Sort.Holds (Value.int .i64) w blk a zs.toArray->blk<w.heap.size->zs.length<4611686018427387904 ->
 Calls P f #[.slice (some ⟨blk,a,none⟩) zs.length b] w fun e c=>e=.returned (.tuple #[])∧∃n d,c=Go.Sort.grow (Go.Sort.putRow (Value.int .i64) (Go.Sort.ahead w n) blk a (rO zs).toArray) d
def yf(k:IntKind):∀(l:List Int)(j:Nat),(al (eI k) l)[j]? = l[j]?.map fun n =>.int k n
 | [],j=>by simp[al]
 | x::l,0=>by simp[al,eI]
 | x::l,j+1=>by
  have:=yf k l j;simp only[al,BE,List.cons_append,List.nil_append,List.getElem?_cons_succ];exact this
def sf(k:IntKind)(l:List Int):(al (eI k) l).length=l.length:=by rw[bF];show l.length*1=_;omega
def RW{w:World}{b a:Nat}{d:List Int}{c:Array Value}{e:Nat}{f:Nat×Nat}(h:w.heap[b]? = some (.cells c e f)):(Go.Sort.putRow (Value.int .i64) w b a d.toArray).heap[b]? = some (.cells (Go.Sort.putCells (Value.int .i64) a d.toArray c) e f):=by
 simp[Go.Sort.putRow,Go.Sort.mapBlock,akr,h,Go.Sort.onCells]
def H9{w:World}{b c a:Nat}{d:List Int}(h:c≠b):(Go.Sort.putRow (Value.int .i64) w b a d.toArray).heap[c]? = w.heap[c]?:=by
 simp[Go.Sort.putRow,Go.Sort.mapBlock,akr,Ne.symm h]
def NH{a:Nat}{d:List Int}{b:Array Value}{k:Nat}(c:k<b.size):(Go.Sort.putCells (Value.int .i64) a d.toArray b).getD k undef=if a<=k∧k<a+d.length then .int .i64 (d.getD (k-a) 0) else b.getD k undef:=by
 have e:(Go.Sort.putCells (Value.int .i64) a d.toArray b)[k]? = some (if a<=k∧k<a+d.length then .int .i64 (d.getD (k-a) 0) else b[k]):=by
  simp only[Go.Sort.putCells,Array.getElem?_mapIdx,alo c,Option.map_some,alr];simp_all
 simp_all
end Go.Proofs.YtobnihfgnbnncaaGreat.Am
namespace Go.Proofs.YtobnihfgnbnncaaGreat.P
open Go.RowKit
theorem wrap64{x:Int}(a : -9223372036854775808<=x)(b:x<9223372036854775808):IntKind.i64.wrap x=x:=by
 have key:IntKind.i64.wrap x=if x % 18446744073709551616>=9223372036854775808 then x % 18446744073709551616-18446744073709551616 else x % 18446744073709551616:=by
  unfold IntKind.wrap
  by_cases h:x % 18446744073709551616>=9223372036854775808
  ·rw[if_pos h];exact if_pos (by simpa [IntKind.bits,IntKind.signed] using h)
  ·rw[if_neg h];exact if_neg (by simpa [IntKind.bits,IntKind.signed] using h)
 rw[key];split<;>omega
def Qr{α:Type}{l:List α}{i:Int}{x:α}(a:0<=i)(h:l[i.toNat]? = some x):P.idx l i=some x:=by
 have:=(akI.1 h).1;unfold P.idx;rw[if_pos ⟨a,by omega⟩,h]
def dL{α:Type}{l:List α}{i:Nat}(h:i<l.length):P.idx l (i:Int)=some (l[i]):=Qr (by omega) (by simp[h])
def aeO{α:Type}{l:List α}{i:Nat}(h:i<=l.length):Fs l 0 (i:Int)=some (l.take i):=by
 unfold Fs;rw[if_pos ⟨by omega,by omega,by omega⟩];simp
end Go.Proofs.YtobnihfgnbnncaaGreat.P
namespace Go.Proofs.YtobnihfgnbnncaaGreat.Am
open Go.RowKit Go.Deep Go.ChangeShapes Go.WideShapes
def EP(T:Nat->Option Ty):Nat->Nat->List D->Prop
 | 0,_,_=>False
 | n+1,t,xs =>
  match T t with
  | none=>False
  | some τ=>xs.length=τ.size ∧
   match τ.ds with
   | .int k=>∃i,xs=[.int k i]∧(Lit.int k i).wf=true
   | .bool=>∃b,xs=[.bool b]
   | .str=>∃s:ByteArray,xs=[.str s]∧s.size<=140737488351232
   | .slice e=>∃len a φ,xs=[.sl false false len a]∧len*φ.bytes<=140737488351232∧T e=some φ∧a.length=len*φ.size∧∀i,i<len->EP T n e ((a.drop (i*φ.size)).take φ.size)
   | .struct c=>∀f∈c,∃φ,T f.1=some φ∧EP T n f.1 ((xs.drop f.2).take φ.size)
   | .arr m e=>∃φ,T e=some φ∧∀i,i<m->EP T n e ((xs.drop (i*φ.size)).take φ.size)
   | .map _ _=>False
   | .other=>False
def En(T:Nat->Option Ty):Nat->List (Nat×Nat)->Nat->Bool
 | o,[],z=>o==z
 | o,(a,off)::b,z=>off==o&&match T a with|some φ=>En T (o+φ.size) b z|none=>false
def YQ(T:Nat->Option Ty):Nat->Nat->Bool
 | 0,_=>false
 | n+1,t =>
  match T t with
  | none=>false
  | some τ =>
   match τ.ds with
   | .int _ | .bool | .str=>τ.size==1
   | .slice e=>τ.size==1&&YQ T n e&&(match T e with|some φ=>decide (0<φ.size)|none=>false)
   | .struct fs=>En T 0 fs τ.size&&fs.all fun f=>YQ T n f.1
   | .arr m e=>YQ T n e&&(match T e with|some φ=>τ.size==m*φ.size|none=>false)
   | .map _ _=>false
   | .other=>false
def pO(w:World)(M:Nat->Prop)(a:List D)(b:List Value):Prop:=a.length=b.length∧∀(j:Nat)(x:D),a[j]? = some x->bu x=true∧∃v,b[j]? = some v∧RP w M x v
def pO.append{w:World}{M:Nat->Prop}{c d:List D}{e f:List Value}(h:pO w M c e)(k:pO w M d f):pO w M (c++d) (e++f):=by
 refine⟨by simp[h.1,k.1],fun j x b =>?_⟩;rw[List.getElem?_append]at b ⊢;rw[<- h.1];split at b
 ·rename_i a;rw[if_pos a];exact h.2 j x b
 ·rename_i a;rw[if_neg a];exact k.2 _ x b
def GI{α:Type}(s:Nat):∀(ls:List (List α)),(∀l∈ls,l.length=s)->∀(i:Nat)(l:List α),ls[i]? = some l->(ls.flatten.drop (i*s)).take s=l
 | [],_,i,l,h=>by simp at h
 | a::ls,hl,0,l,h=>by
  simp_all
 | a::ls,hl,i+1,l,h=>by
  have b:a.length=s:=hl a (by simp);rw[List.flatten_cons,alL,alM (by grind),alO,b,alP,alQ];exact GI s ls (fun x c=>hl x (alx _ c)) i l h
def qW{α:Type}(s:Nat):∀(ls:List (List α)),(∀l∈ls,l.length=s)->ls.flatten.length=ls.length*s
 | [],_=>by simp
 | a::ls,hl=>by
  rw[List.flatten_cons,alh,qW s ls (fun x b=>hl x (alx _ b)),hl a (by simp),akY,alP];omega
section
variable {H:Type} {enc:TypeId×Value->H} {P:Program} {w:World} {base:Nat} {spare:Nat->Bool} {held:Bool} {T:Nat->Option Ty}
def eG.bytesOf{P:Program}{t:Nat}{τ:Ty}(h:eG P t τ):P.bytesOf t=τ.bytes:=by
 have:=h.info;unfold Program.bytesOf;cases a:P.info? t with
 | none=>simp_all
 | some i=>simp_all
def Reach(P:Program)(t:Nat)(d:DataW H):Prop:=∀k∈d.weights P t,k<=140737488351232
def Du{e:TypeId}:∀(l:List (DataW H))(j:Nat)(d:DataW H),l[j]? = some d->∀k∈d.weights P e,k∈DataW.weightsAll P e l
 | x::l,0,d,h,k,hk=>by
  simp only[List.getElem?_cons_zero,akq]at h;subst h;simp only[DataW.weightsAll,alv];exact .inl hk
 | x::l,j+1,d,h,k,hk=>by
  simp only[DataW.weightsAll,alv];exact .inr (Du l j d (by simpa using h) k hk)
 | [],j,d,h,k,hk=>by simp at h
def eG.cells{P:Program}{t:Nat}{τ:Ty}(h:eG P t τ):P.cellsOf t=τ.size:=by
 have:=h.info;unfold Program.cellsOf;cases a:P.info? t with
 | none=>simp_all
 | some i=>simp_all
def Wp{T:Nat->Option Ty}{w:World}{M:Nat->Prop}{cs:List Value}:∀(c:List (Nat×Nat))(o z:Nat)(f:Nat×Nat->List D),En T o c z=true->cs.length=z ->
  (∀p∈c,∃φ,T p.1=some φ∧pO w M (f p) ((cs.drop p.2).take φ.size))->o<=z->∃e,pO w M e (cs.drop o)∧∀p∈c,∃φ,T p.1=some φ∧o<=p.2∧(e.drop (p.2-o)).take φ.size=f p
 | [],o,z,f,d,g,_,_=>by
  simp only[En,beq_iff_eq]at d;refine⟨[],⟨by simp_all,fun j x n=>by simp at n⟩,fun p hp=>by simp at hp⟩
 | (i,off)::c,o,z,f,d,g,hp,q=>by
  simp only[En,akP,beq_iff_eq]at d;obtain⟨rfl,d⟩:=d;obtain⟨φ,r,m⟩:=hp (i,off) (by simp);simp only[r]at d;have s:off+φ.size<=z:=by
   have:∀(c:List (Nat×Nat))(o:Nat),En T o c z=true->o<=z:=by
    intro c
    induction c with
    | nil=>intro o h;simp only[En,beq_iff_eq]at h;omega
    | cons p c v =>
     intro o h;obtain⟨a,b⟩:=p;simp only[En,akP]at h;grind
   exact this c _ d
  obtain⟨e,t,k⟩:=Wp c (off+φ.size) z f d g (fun p h=>hp p (alx _ h)) s;have l:(f (i,off)).length=φ.size:=by
   rw[m.1,aky,akz,g];omega
  refine⟨f (i,off)++e,?_,fun p h =>?_⟩
  ·have:=m.append t;rw[<- alR,alS]at this;exact this
  ·rcases ako.1 h with rfl|h
   ·simp_all
   ·obtain⟨ψ,u,y,A⟩:=k p h;refine⟨ψ,u,by omega,?_⟩;rw[alL,alM (by omega),alO,l];grind
def pO.one{w:World}{M:Nat->Prop}{x:D}{v:Value}(a:bu x=true)(h:RP w M x v):pO w M [x] [v]:=by
 refine⟨rfl,fun j y b =>?_⟩;grind
def pO.flat{w:World}{M:Nat->Prop}{b:List Value}{s:Nat}:∀(ls:List (List D))(o:Nat),(∀(i:Nat) l,ls[i]? = some l->pO w M l ((b.drop (o+i*s)).take s))->(∀l∈ls,l.length=s)->pO w M ls.flatten ((b.drop o).take (ls.length*s))
 | [],o,_,_=>⟨by simp,fun j x c=>by simp at c⟩
 | a::ls,o,h,hl=>by
  have d:=h 0 a rfl;have e:=pO.flat ls (o+s) (fun i l f=>by
   have:=h (i+1) l (by simpa using f);rw[alP]at this;rw[show o+s+i*s=o+(i*s+s) by omega];exact this) (fun l g=>hl l (alx _ g))
  have:=d.append e;rw[alT,akO]at this;rw[List.flatten_cons,akY,alP,Nat.add_comm (ls.length*s) s,List.take_add,alR];exact this
def afZ(W:jL P T){M:Nat->Prop}(hM:∀b,base<=b->b<w.heap.size->¬M b):∀(n t J:Nat)(X:List Value)(x:DataW H×List MemPlace),YQ T n t=true->DataW.trod enc P w base spare held J t X=some x->Reach P t x.1->∃xs,EP T n t xs∧pO w M xs X:=by
 intro n
 induction n with
 | zero=>intro t J X x h;cases h
 | succ n ih =>
  intro t J X x c h Y;unfold YQ at c;unfold EP;cases hτ:T t with
  | none=>simp_all
  | some τ =>
   rw[hτ]at c;simp only at c ⊢;obtain⟨d,O,I⟩:=under W hτ;cases D:τ.ds with
   | int k =>
    rw[D]at c I;simp only[beq_iff_eq]at c;have r:=Bw I;subst r;obtain⟨i,rfl,_,Y⟩:=DataW.trod_int O h;exact⟨[.int k i],⟨by rw[c];rfl,i,rfl,Y⟩,.one rfl (.int k i)⟩
   | bool =>
    rw[D]at c I;simp only[beq_iff_eq]at c;have r:=zg I;subst r;obtain⟨b,rfl,_⟩:=DataW.trod_bool O h;exact⟨[.bool b],⟨by rw[c];rfl,b,rfl⟩,.one rfl (.bool b)⟩
   | str =>
    rw[D]at c I;simp only[beq_iff_eq]at c;have r:=vf I;subst r;obtain⟨s,rfl,rfl,hs⟩:=DataW.trod_string O h;have an:s.size<=140737488351232:=by
     have:=Y s.data.toList.length (by simp[DataW.weights]);simpa using this
    exact⟨[.str s],⟨by rw[c];rfl,s,rfl,an⟩,.one rfl (.str s)⟩
   | map _ _=>simp_all
   | other=>simp_all
   | struct fs =>
    rw[D]at c I;simp only[akP,aks]at c;obtain⟨F,rfl,hF⟩:=ju I;obtain⟨ys,m,_,rfl,g,ao,hf⟩:=DataW.trod_struct O h;have R:∀(i:Nat)(f:Field) y,F[i]? = some f->ys[i]? = some y->Reach P f.type y.1:=by
     intro i f y aD Z k hk;apply Y k;simp only[DataW.weights,O];exact DataW.weights_mem_each (j:=i) (t:=f.type) (d:=y.1) (by simp_all) (by simp[Z]) k hk
    rw[(W t τ hτ).cells]at g;have q:∀p:Nat×Nat,∃E,p∈fs->∃φ,T p.1=some φ∧EP T n p.1 E∧pO w M E ((X.drop p.2).take φ.size):=by
     intro p
     by_cases V:p∈fs
     ·have A:=c.2 p V;rw[<- hF]at V;obtain⟨f,aq,rfl⟩:=akh.1 V;obtain⟨i,u⟩:=List.mem_iff_getElem?.1 aq;have h1:=hf i f (by simpa using u);simp only at A ⊢;cases Q:T f.type with
      | none=>cases n with
       | zero=>cases A
       | succ n=>simp only[YQ,Q]at A;cases A
      | some φ =>
       rw[(W _ φ Q).cells]at h1;have G:i<ys.length:=by
        grind
       rw[aku G]at h1;obtain⟨E,aa,S⟩:=ih _ _ _ _ A h1 (R i f _ (by simpa using u) (aku G));exact⟨E,fun _=>⟨φ,rfl,aa,S⟩⟩
     simp_all
    obtain⟨f,K⟩:=Classical.axiomOfChoice q;obtain⟨xs,hx,al⟩:=Wp fs 0 τ.size f c.1 g (fun p V=>by obtain⟨φ,a,_,b⟩:=K p V;exact⟨φ,a,b⟩) (akj _);rw[alU]at hx;refine⟨xs,⟨by rw[hx.1,g],fun p V =>?_⟩,hx⟩;grind
   | arr m e =>
    rw[D]at c I;simp only[akP]at c;have r:=Bv I;subst r;obtain⟨ys,k,_,rfl,g,ao,hf⟩:=DataW.trod_array O h;have R:∀(i:Nat) y,ys[i]? = some y->Reach P e y.1:=by
     intro i y Z k hk;apply Y k;simp only[DataW.weights,O];exact Du _ i y.1 (by simp[Z]) k hk
    rw[(W t τ hτ).cells]at g;obtain⟨aA,B⟩:=c;split at B
    ·rename_i φ Q;simp only[beq_iff_eq]at B;have q:∀i:Nat,∃E,i<m->EP T n e E∧pO w M E ((X.drop (i*φ.size)).take φ.size):=by
      intro i
      by_cases u:i<m
      ·have h1:=hf i u;rw[(W _ φ Q).cells,aku (by omega)]at h1;grind
      ·exact⟨[],fun h=>(u h).elim⟩
     obtain⟨f,K⟩:=Classical.axiomOfChoice q;have L:∀l∈(List.range m).map f,l.length=φ.size:=by
      intro l hl;obtain⟨i,u,rfl⟩:=akh.1 hl;have u:=alH.1 u;rw[(K i u).2.1,aky,akz,g,B];have:(i+1)*φ.size<=m*φ.size:=akW _ u;grind
     have aB:∀(i:Nat) l,((List.range m).map f)[i]? = some l->i<m∧l=f i:=by
      grind
     have N:pO w M ((List.range m).map f).flatten ((X.drop 0).take (((List.range m).map f).length*φ.size)):=by
      refine pO.flat _ 0 (fun i l hl =>?_) L;grind
     rw[akJ,akK,alU,alV (by omega)]at N;refine⟨_,⟨by rw[N.1,g],φ,Q,fun i u =>?_⟩,N⟩;have G:((List.range m).map f)[i]? = some (f i):=by simp[u]
     rw[GI φ.size _ L i _ G];exact (K i u).1
    ·cases B
   | slice e =>
    rw[D]at c I;simp only[akP,beq_iff_eq]at c;have r:=ib I;subst r;obtain⟨⟨q,ad⟩,C⟩:=c;split at C
    ·rename_i φ Q;simp only[decide_eq_true_eq]at C;rcases open_slice O h with⟨rfl,_⟩|⟨a,len,ar,m,k,D',Pl,rfl,hb,hl,hm,aE,rfl,u⟩
     ·refine⟨[.sl false false 0 []],⟨by rw[q];rfl,0,[],φ,rfl,by omega,Q,by simp,fun i u=>by omega⟩,.one rfl ?_⟩;exact .sl none 0 false false 0 [] (fun _=>undef) (aki _) (akj _) (fun h=>by cases h) (fun _=>⟨rfl,rfl⟩) (fun h=>by cases h) (fun h=>(h rfl).elim) (fun j x hj=>by simp at hj) (fun x hx=>by simp at hx)
     ·have aF:len<=m:=by grind
      have au:len*φ.bytes<=140737488351232:=by
       have h1:=Y ((((List.range len).map D').length+((List.range (m-len)).map fun j=>D' (len+j)).length)*P.bytesOf e) (by simp[DataW.weights,O]);rw[(W _ φ Q).bytesOf]at h1;grind
      have R:∀i,i<len->Reach P e (D' i):=by
       intro i G k hk;apply Y k;simp only[DataW.weights,O,ako,alv];exact .inr (.inl (Du _ i (D' i) (by simp[G]) k hk))
      have ab:∀i:Nat,∃E,i<len->EP T n e E∧E.length=φ.size∧∀(j:Nat) z,E[j]? = some z->bu z=true∧∃v,w.cell? (a.add (i*φ.size+j))=some v∧RP w M z v:=by
       intro i
       by_cases ae:i<len
       ·obtain⟨aG,ag,av⟩:=u i (by omega);rw[(W _ φ Q).cells]at ag;obtain⟨_,g1,g2⟩:=World.cells?_some ag;obtain⟨E,aa,S⟩:=ih _ _ _ _ ad av (R i ae);refine⟨E,fun _=>⟨aa,by rw[S.1,g1],fun j z hj =>?_⟩⟩;obtain⟨p1,v,p2,p3⟩:=S.2 j z hj;refine⟨p1,v,?_,p3⟩;have aw:j<φ.size:=by grind
        rw[<- Go.Deep.add_add,g2 j aw,p2]
       ·exact⟨[],fun h=>(ae h).elim⟩
      obtain⟨f,K⟩:=Classical.axiomOfChoice ab;have L:∀l∈(List.range len).map f,l.length=φ.size:=by
       simp_all
      have ah:((List.range len).map f).flatten.length=len*φ.size:=by rw[qW φ.size _ L];simp
      have aC:∀i,i<len->(((List.range len).map f).flatten.drop (i*φ.size)).take φ.size=f i:=fun i u=>GI φ.size _ L i (f i) (by simp[u]);have ai:∀(p:Nat) z,((List.range len).map f).flatten[p]? = some z->bu z=true∧∃v,w.cell? (a.add p)=some v∧RP w M z v:=by
       intro p z V;have ax:=(akI.1 V).1;rw[ah]at ax;have hq:p / φ.size<len:=Nat.div_lt_of_lt_mul (by rwa [Nat.mul_comm]);have hr:p % φ.size<φ.size:=ak3 _ C;have he:p / φ.size*φ.size+p % φ.size=p:=Nat.div_add_mod' p φ.size;have hz:(f (p / φ.size))[p % φ.size]? = some z:=by
        grind
       grind
      refine⟨[.sl false false len ((List.range len).map f).flatten],⟨by rw[q];rfl,len,_,φ,rfl,au,Q,ah,fun i u=>by simp_all⟩,.one rfl ?_⟩;refine .sl (some a) ar false false len _ (fun j=>(w.cell? (a.add j)).getD undef) hl hm (fun h=>by cases h) (fun h=>by cases h) (fun h=>by cases h) (fun ay =>?_) (fun j z hj =>?_) (fun z hz =>?_)
      ·have h0:0<((List.range len).map f).flatten.length:=alW.2 ay;obtain⟨_,v,U,_⟩:=ai 0 _ (aku h0);obtain⟨b,o,sp⟩:=a;have az:sp=none:=by
        unfold World.cell? at U;split at U
        ·split at U
         ·cases U
         ·rename_i h;simpa [Addr.add] using h
        ·cases U
       subst az;have aj:b<w.heap.size:=by
        unfold World.cell? at U;split at U
        ·rename_i hh;exact (alg.1 hh).1
        ·cases U
       refine⟨b,o,rfl,aj,hM b hb aj,fun j hj =>?_⟩;obtain⟨_,v,U,_⟩:=ai j _ (aku hj);have ha:Addr.add ⟨b,o,none⟩ j=⟨b,o+j,none⟩:=by
        unfold Addr.add;simp_all
       simp_all
      ·grind
      ·obtain⟨j,hj⟩:=List.mem_iff_getElem?.1 hz;grind
    ·cases C
def vJ(T:Nat->Option Ty)(n t:Nat)(d:D):Prop :=
 match T t with
 | some τ=>if τ.ds.vp then ∃a,d=.agg a∧EP T n t a else EP T n t [d]
 | none=>False
def pO.agg{w:World}{M:Nat->Prop}{a:List D}{b:Array Value}(h:pO w M a b.toList):RP w M (.agg a) (.agg b):=by
 have:=RP.agg (w:=w) (M:=M) a b.toList h.1.symm (fun j x c=>by
  obtain⟨_,v,e,f⟩:=h.2 j x c;simp_all) (fun x d=>by
  obtain⟨j,c⟩:=List.mem_iff_getElem?.1 d;exact (h.2 j x c).1)
 simpa using this
def pO.single{w:World}{M:Nat->Prop}{a:List D}{v:Value}(h:pO w M a [v]):∃x,a=[x]∧RP w M x v:=by
 match a,h with
 | [],h=>have:=h.1;simp at this
 | [x],h=>obtain⟨_,u,b,c⟩:=h.2 0 x rfl;simp_all
 | x::y::a,h=>have:=h.1;simp at this
def adK(A:jL P T){M:Nat->Prop}(C:∀b,base<=b->b<w.heap.size->¬M b){n t D:Nat}{v:Value}{d:DataW H}{E:List MemPlace}(f:YQ T n t=true)(o:Value.okWide P w .any D t v)(h:DataW.Trod enc P w base spare held t v d E)(G:Reach P t d) :
  ∃x,vJ T n t x∧RP w M x v:=by
 obtain⟨r,h⟩:=h;obtain⟨B,p,q⟩:=afZ A C n t r _ _ f h G;unfold vJ;cases n with
 | zero=>cases f
 | succ n =>
 cases u:T t with
 | none=>simp only[YQ,u]at f;cases f
 | some τ =>
  simp only;obtain⟨I,s,j⟩:=under A u;cases g:τ.ds with
  | int k =>
   rw[g]at j;have c:=Bw j;subst c;obtain⟨i,rfl⟩:=okWide_int s o;obtain⟨x,rfl,l⟩:=pO.single (v:=.int k i) q;exact⟨x,by simpa [Ds.vp] using p,l⟩
  | bool =>
   rw[g]at j;have c:=zg j;subst c;obtain⟨i,rfl⟩:=okWide_bool s o;obtain⟨x,rfl,l⟩:=pO.single (v:=.bool i) q;exact⟨x,by simpa [Ds.vp] using p,l⟩
  | str =>
   rw[g]at j;have c:=vf j;subst c;obtain⟨i,rfl⟩:=okWide_string s o;obtain⟨x,rfl,l⟩:=pO.single (v:=.string i) q;exact⟨x,by simpa [Ds.vp] using p,l⟩
  | slice e =>
   rw[g]at j;have c:=ib j;subst c;obtain⟨a,len,y,rfl⟩:=okWide_slice s o;obtain⟨x,rfl,l⟩:=pO.single (v:=.slice a len y) q;exact⟨x,by simpa [Ds.vp] using p,l⟩
  | struct fs =>
   rw[g]at j;obtain⟨F,rfl,_⟩:=ju j;obtain⟨z,rfl,_⟩:=okWide_struct s o;exact⟨.agg B,by simpa [Ds.vp] using p,pO.agg q⟩
  | arr m e =>
   rw[g]at j;have c:=Bv j;subst c;have:∃z,v=.agg z:=by
    unfold Value.okWide at o;grind
   obtain⟨z,rfl⟩:=this;exact⟨.agg B,by simpa [Ds.vp] using p,pO.agg q⟩
  | map _ _=>simp only[YQ,u,g]at f;cases f
  | other=>simp only[YQ,u,g]at f;cases f
def JW(o:jL P T){M:Nat->Prop}(r:∀b,base<=b->b<w.heap.size->¬M b){n b0:Nat}:∀(c:List TypeId)(vs:List Value)(g:List (DataW H))(l:List MemPlace),DataW.TrodAll enc P w base spare held c vs g l ->
  (∀(j:Nat) t v,c[j]? = some t->vs[j]? = some v->Value.okWide P w .any b0 t v)->(∀t∈c,YQ T n t=true)->(∀k∈DataW.weightsEach P c g,k<=140737488351232) ->
  ∃e:List D,e.length=vs.length∧(∀(j:Nat) x,e[j]? = some x->∃v,vs[j]? = some v∧RP w M x v)∧e.length=c.length∧∀(j:Nat) t,c[j]? = some t->∃x,e[j]? = some x∧vJ T n t x
 | [],[],[],l,_,_,_,_=>⟨[],rfl,fun j x f=>by simp at f,rfl,fun j t f=>by simp at f⟩
 | t::c,v::vs,d::g,l,h,hv,hok,hw=>by
  obtain⟨p,q,s,u,_⟩:=h;obtain⟨x,z,A⟩:=adK o r (hok t (by simp)) (hv 0 t v rfl rfl) s (fun k m=>hw k (by simp only[DataW.weightsEach,alv];exact .inl m));obtain⟨e,B,G,C,I⟩:=JW o r c vs g q u (fun j i E a b=>hv (j+1) i E (by simpa using a) (by simpa using b)) (fun i F=>hok i (alx _ F)) (fun k m=>hw k (by simp only[DataW.weightsEach,alv];exact .inr m));refine⟨x::e,by simp[B],fun j y f =>?_,by simp[C],fun j i f =>?_⟩
  ·grind
  grind
 | [],[],_::_,_,h,_,_,_=>h.elim
 | [],_::_,_,_,h,_,_,_=>h.elim
 | _::_,[],_,_,h,_,_,_=>h.elim
 | _::_,_::_,[],_,h,_,_,_=>h.elim
end
end Go.Proofs.YtobnihfgnbnncaaGreat.Am
namespace Go.Proofs.YtobnihfgnbnncaaGreat.Am
open Go.RowKit Go.Deep Go.ChangeShapes Go.WideShapes Go.ChangeAt
section
variable {H:Type} {enc:TypeId×Value->H} {P:Program}
def Js{f:Func}{s:ChangeSpec}{c fresh d l:Bool}{W m:World}{e:Array Value}{v:Value}{n o:List (DataW H)}{a pa pv:List MemPlace}
  (hW:DataW.Whole enc P f.params.toList s.vars c W e.toList n o a)
  (i:∀(b:Nat)(sp:Nat->Bool)(A:Bool),DataW.TrodAll enc P m b sp A f.resultTypes.toList (v.resultList f.resultTypes.size) (s.fn H (n++o)).results [])
  (g:∀sp:Nat->Bool,(∀p∈a,sp p.block=true)->DataW.TrodAll enc P m 0 sp true f.params.toList e.toList (s.fn H (n++o)).args pa)
  (h:∀sp:Nat->Bool,(∀p∈a,sp p.block=true)->DataW.TrodVars enc P m sp s.vars (s.fn H (n++o)).vars pv)
  (B:a=pa++pv) (z:Below W.heap.size W m)
  (x:∀(j:Nat)(t:TypeId)(r:Value),f.resultTypes[j]? = some t->(v.resultList f.resultTypes.size)[j]? = some r->Value.okWide P m .any 0 t r) :
  s.post enc P f c fresh d l W e v m:=by
 have y:∀p∈a,p.block<W.heap.size:=fun p q=>hW.lt p q;have k:∀p∈a,(fun b=>decide (b<W.heap.size)) p.block=true:=fun p q=>by simp_all
 refine⟨n,o,a,[],pa,pv,hW,i _ _ _,g _ k,h _ k,World.keptBut_mono (fun p q=>⟨q,?_⟩) (z.frame (·∈a)),fun _ =>?_⟩
 ·simp_all
 ·obtain⟨_,_,_,_,_,C,D⟩:=hW;refine⟨x,_,_,([]++pa)++pv,⟨[]++pa,pv,trodAll_append (g _ (fun _ _=>rfl)) (i _ _ _),h _ (fun _ _=>rfl),rfl,?_,?_⟩,?_⟩
  ·intro b u q;have w:MemPlace.cell b u∈a:=by simp_all
   rw[z.frozen (y _ w)];exact C b u w
  ·simp_all
  simp_all
def Al(k:laidOutB P=true){W l:World}{b:Nat->Bool}:∀{c:List TypeId}{i:List Value}{j:List (DataW H)}{f:List MemPlace},(∀t∈c,P.readableRec t=true∧t<P.types.size)->DataW.TrodAll enc P W 0 (fun _=>true) true c i j f ->
  (∀p∈f,W.sameAt l p)->(∀p∈f,b p.block=true)->DataW.TrodAll enc P l 0 b true c i j f
 | [],[],[],_,_,h,_,_=>h
 | t::c,v::i,d::j,_,hr,⟨p,q,h1,h2,e⟩,hs,hp=>by
  subst e;have g:=hr t (by simp);exact⟨p,q,WideElems.Trod_stays k g.1 g.2 h1 (fun x a=>hs x (akv _ a)) (fun x a=>hp x (akv _ a)),
   Al k (fun t g=>hr t (alx _ g)) h2 (fun x a=>hs x (akw _ a)) (fun x a=>hp x (akw _ a)),rfl⟩
end
def acw{H:Type}{enc:TypeId×Value->H}{C:Checked}{T:Nat->Option Ty}{f:FuncId}{c:Func}{s:ChangeSpec}{g fresh i o:Bool}{V n:Nat}(hT:jL C.prog T)
  (hl:laidOutB C.prog=true) (F:(c.params.toList.all fun t=>C.prog.readableRec t&&decide (t<C.prog.types.size)&&YQ T n t)=true)
  (m:c.resultTypes = #[V]) (w:C.prog.underlying V=some .bool) (G:s.vars=[])
  (hs:∀ds:List (DataW H),ds.length=c.params.toList.length->(s.fn H ds).results=[.lit (.bool true)]∧(s.fn H ds).args=ds∧(s.fn H ds).vars=[])
  (I:∀y:List D,y.length=c.params.toList.length->(∀(j:Nat) t,c.params.toList[j]? = some t->∃x,y[j]? = some x∧vJ T n t x)->S4 C.prog f y (.bool true))
  {W:World} {base:Nat} {args:Array Value} {ds X:List (DataW H)} {l:List MemPlace}
  (hval:∀(j:Nat) t v,c.params[j]? = some t->args[j]? = some v->Value.okWide C.prog W .any base t v) (Y:DataW.Whole enc C.prog c.params.toList s.vars g W args.toList ds X l)
  (r:(DataW.weightsEach C.prog (c.params.toList++s.plain.varTypes C.prog) (ds++X)).all (·<=reachBytes)=true) (z:XP W (fun _=>False)) :
  Calls C.prog f args W fun e J=>∃v,e=.returned v∧s.post enc C.prog c g fresh i o W args v J:=by
 have A:=Y;obtain⟨p,q,K,Z,rfl,aa,ab⟩:=Y;rw[G]at Z;obtain⟨rfl,rfl⟩:=trodVars_none Z;simp only[aks,akP,decide_eq_true_eq]at F;obtain⟨y,h1,L,h3,h4⟩:=JW (P:=C.prog) hT (M:=fun _=>False) (fun b _ _ h=>h) (n:=n) (b0:=base) c.params.toList args.toList ds p K
  (fun j t v a b=>hval j t v (by simpa using a) (by simpa using b)) (fun t N=>(F t N).2) (fun k hk=>by
   rw[aks]at r;have O:s.plain.varTypes C.prog=[]:=by unfold ChangeSpec.plain;simp only[G];rfl
   rw[O,alX,alX]at r;have h:=r k hk;rw[decide_eq_true_eq]at h;exact h)
 refine (I y h3 h4 W (fun _=>False) args (fun b h=>h.elim) ⟨by simpa using h1.symm,fun j x hj =>?_,z⟩).mono fun e J hG =>?_
 ·obtain⟨v,g1,g2⟩:=L j x hj;simp_all
 ·obtain⟨v,rfl,hb,Q⟩:=hG;have R:RP J (fun _=>False) (.bool true) v:=Q;cases R;have B:ds.length=c.params.toList.length:=by
   have:∀{E:List TypeId}{u:List Value}{ds:List (DataW H)}{S:List MemPlace},DataW.TrodAll enc C.prog W 0 (fun _=>true) true E u ds S->ds.length=E.length:=by
    intro E
    induction E with
    | nil=>intro u ds S h;cases u<;>cases ds<;>first|rfl|exact h.elim
    | cons t E ih =>
     intro u ds S h;cases u with
     | nil=>exact h.elim
     | cons v u=>cases ds with
      | nil=>exact h.elim
      | cons d ds=>obtain⟨_,_,_,L,_⟩:=h;simp[ih L]
   exact this K
  obtain⟨e1,e2,e3⟩:=hs ds B;refine⟨_,rfl,Js (pa:=p) (pv:=[]) A ?_ ?_ ?_ (by simp) hb ?_⟩
  ·intro b sp hd;rw[alX,e1,m];exact trodAll_mk1 ⟨1,by simp[DataW.trod,w,Value.cells]⟩
  ·intro sp hsp;rw[alX,e2];refine Al hl (fun t N=>(F t N).1) K (fun x U=>hb.same (A.lt x (by simpa using U))) (fun x U=>hsp x (by simpa using U))
  ·intro sp _;rw[alX,e3,G];rfl
  ·exact ok_one m rfl (by simp[Value.okWide,w,Cell.okWide,Cell.ok])
def Uu{H:Type}{enc:TypeId×Value->H}{C:Checked}{u:Os}{T:Nat->Option Ty}{f:FuncId}{k:Func}{s:ChangeSpec}{d:List PathCond}{a fresh e m:Bool}{tb n:Nat}
  (F:jL C.prog T) (own:ownKnob C.prog.godebug=none) (g:u.Started) (l:C.prog.inits.idxOf? f=none) (v:C.prog.funcs[f]? = some k)
  (h:∃(w:World)(c:Tape)(i:Input),w.os=u∧(w.forCall c i).Shaped C.prog∧i.vars=[]∧Input.okWide C.prog (w.forCall c i) .any w.heap.size f i ∧
   s.pre6 enc C.prog k d a (w.forCall c i).memory i.args∧({}:Assume).holds C.prog (lone (Frame.enter C.prog f i.args .normal) [] (w.forCall c i)))
  (G:laidOutB C.prog=true) (I:(k.params.toList.all fun t=>C.prog.readableRec t&&decide (t<C.prog.types.size)&&YQ T n t)=true)
  (p:k.resultTypes = #[tb]) (y:C.prog.underlying tb=some .bool) (J:s.vars=[])
  (K:∀o:List (DataW H),o.length=k.params.toList.length->(s.fn H o).results=[.lit (.bool true)]∧(s.fn H o).args=o∧(s.fn H o).vars=[])
  (z:∀A:List D,A.length=k.params.toList.length->(∀(j:Nat) t,k.params.toList[j]? = some t->∃x,A[j]? = some x∧vJ T n t x)->S4 C.prog f A (.bool true)) (L:acW=none:=by rfl) :
  ReturnsInHanded {} C u f .any (s.pre6 enc C.prog k d a) (s.post enc C.prog k a fresh e m):=by
 apply returnsInHanded_of_change_sized own g l v h;intro W base E o N r q M _ B _;exact acw F G I p y J K z q M B (fun b O=>by simp_all)
end Go.Proofs.YtobnihfgnbnncaaGreat.Am
namespace Go.Proofs.YtobnihfgnbnncaaGreat.Am
open Go.RowKit
def ahs{T:Nat->Option Ty}{n t:Nat}{b:List D}(h:b.length=[t].length)(c:∀(j:Nat) u,[t][j]? = some u->∃x,b[j]? = some x∧vJ T n u x):∃a,b=[a]∧vJ T n t a:=by
 match b,h with
 | [a],_=>obtain⟨x,d,e⟩:=c 0 t rfl;cases d;exact⟨a,rfl,e⟩
def aht{T:Nat->Option Ty}{n t:Nat}{c:List Nat}{d:List D}(h:d.length=(t::c).length)(e:∀(j:Nat) u,(t::c)[j]? = some u->∃x,d[j]? = some x∧vJ T n u x) :
  ∃a b,d=a::b∧vJ T n t a∧b.length=c.length∧∀(j:Nat) u,c[j]? = some u->∃x,b[j]? = some x∧vJ T n u x:=by
 match d,h with
 | a::b,h =>
  obtain⟨x,f,g⟩:=e 0 t rfl;cases f;exact⟨a,b,rfl,g,by simpa using h,fun j u i=>by simpa using e (j+1) u (by simpa using i)⟩
section
variable {T:Nat->Option Ty} {n t:Nat} {τ:Ty} {d:D}
def adF{k:IntKind}(h:vJ T (n+1) t d)(a:T t=some τ)(b:τ.ds=.int k):∃i,d=.int k i∧(Lit.int k i).wf=true:=by
 simp only[vJ,a,b,Ds.vp,akN,if_false,EP]at h;obtain⟨_,i,c,e⟩:=h;cases c;exact⟨i,rfl,e⟩
def Tj{b:List (Nat×Nat)}(h:vJ T n t d)(c:T t=some τ)(e:τ.ds=.struct b):∃a,d=.agg a∧EP T n t a:=by
 simp only[vJ,c,e,Ds.vp,if_true]at h;exact h
def XU{e:Nat}(h:vJ T n t d)(a:T t=some τ)(b:τ.ds=.slice e):EP T n t [d]:=by
 simp only[vJ,a,b,Ds.vp,akN,if_false]at h;exact h
def aeU{k:IntKind}{a:List D}(h:EP T (n+1) t a)(b:T t=some τ)(c:τ.ds=.int k):∃i,a=[.int k i]∧(Lit.int k i).wf=true:=by
 simp only[EP,b,c]at h;exact h.2
def aeV{a:List D}(h:EP T (n+1) t a)(b:T t=some τ)(c:τ.ds=.str):∃s:ByteArray,a=[.str s]∧s.size<=140737488351232:=by
 simp only[EP,b,c]at h;exact h.2
def Zy{e:Nat}{φ:Ty}{b:List D}(h:EP T (n+1) t b)(d:T t=some τ)(f:τ.ds=.slice e)(g:T e=some φ) :
  ∃len a,b=[.sl false false len a]∧len*φ.bytes<=140737488351232∧a.length=len*φ.size∧∀i,i<len->EP T n e ((a.drop (i*φ.size)).take φ.size):=by
 simp only[EP,d,f]at h;obtain⟨_,len,a,ψ,j,k,c,l,m⟩:=h;rw[g]at c;cases c;exact⟨len,a,j,k,l,m⟩
def UW{b:List (Nat×Nat)}{a:List D}(h:EP T (n+1) t a)(c:T t=some τ)(d:τ.ds=.struct b):a.length=τ.size∧∀f∈b,∃φ,T f.1=some φ∧EP T n f.1 ((a.drop f.2).take φ.size):=by
 simp only[EP,c,d]at h;exact h
end
end Go.Proofs.YtobnihfgnbnncaaGreat.Am
namespace Go.Proofs.YtobnihfgnbnncaaGreat.Am
open Go.RowKit Go.Proofs.YtobnihfgnbnncaaGreat.P
def DM{α:Type}(T:Nat->Option Ty)(n t:Nat)(E:iK α)(b:α->Prop):Prop:=(∃φ,T t=some φ∧φ.size=E.size)∧∀a,EP T n t a->∃x,a=E.cells x∧b x
section
variable {T:Nat->Option Ty} {n t:Nat} {τ:Ty}
def opI{k:IntKind}(a:T t=some τ)(b:τ.ds=.int k)(c:τ.size=1):DM T (n+1) t (eI k) (fun i=>(Lit.int k i).wf=true):=⟨⟨τ,a,c⟩,fun _ h=>aeU h a b⟩
def ahQ(a:T t=some τ)(b:τ.ds=.str)(c:τ.size=1):DM T (n+1) t af4 (fun s=>s.size<=140737488351232):=⟨⟨τ,a,c⟩,fun _ h=>aeV h a b⟩
def afL{α:Type}(E:iK α)(c:α->Prop):∀(len:Nat)(a:List D),a.length=len*E.size->(∀i,i<len->∃x,(a.drop (i*E.size)).take E.size=E.cells x∧c x)->∃l:List α,l.length=len∧a=al E l∧∀x∈l,c x
 | 0,a,e,_=>⟨[],rfl,by simpa [al] using e,fun x b=>by simp at b⟩
 | len+1,a,e,h=>by
  obtain⟨x,b,f⟩:=h 0 (by omega);obtain⟨l,g,j,m⟩:=afL E c len (a.drop E.size) (by grind) (fun i n=>by
   obtain⟨y,k,d⟩:=h (i+1) (by omega);refine⟨y,?_,d⟩;rw[alR];grind)
  rw[alT,alU]at b;refine⟨x::l,by simp[g],?_,fun y k =>?_⟩
  ·rw[b9,<- j,<- b,alS]
  grind
def Ul{α:Type}{E:iK α}{a:α->Prop}{e:Nat}(b:T t=some τ)(g:τ.ds=.slice e)(j:τ.size=1){B:Nat}(y:(T e).map (·.bytes)=some B)(k:DM T n e E a):DM T (n+1) t (dW E) (fun l=>l.length*B<=140737488351232∧∀x∈l,a x):=by
 obtain⟨⟨φ,m,o⟩,hx⟩:=k;have p:φ.bytes=B:=by simp_all
 refine⟨⟨τ,b,j⟩,fun z h =>?_⟩;obtain⟨len,q,r,c,d,f⟩:=Zy h b g m;rw[o]at d f;rw[p]at c;obtain⟨l,s,u,v⟩:=afL E a len q d fun i w=>hx _ (f i w);subst s u;exact⟨l,r,c,v⟩
def OpF{α:Type}(T:Nat->Option Ty)(n:Nat)(b:List (Nat×Nat))(o:Nat)(E:iK α)(c:α->Prop):Prop :=
 ∀a:List D,a.length=o+E.size->(∀f∈b,∃φ,T f.1=some φ∧EP T n f.1 ((a.drop f.2).take φ.size))->∃x,a.drop o=E.cells x∧c x
def RJ{α:Type}{E:iK α}{b:α->Prop}{a o:Nat}(h:DM T n a E b):OpF T n [(a,o)] o E b:=by
 obtain⟨⟨φ,d,i⟩,e⟩:=h;intro j k f;obtain⟨ψ,g,c⟩:=f (a,o) (by simp);cases d.symm.trans g;rw[alV (by simp_all)]at c;exact e _ c
def Dm{α β:Type}{E:iK α}{ok:α->Prop}{b:iK β}{a:β->Prop}{c o k:Nat}{l:List (Nat×Nat)}(h:DM T n c E ok)(p:k=o+E.size)(q:OpF T n l k b a):OpF T n ((c,o)::l) o (oo E b) (fun x=>ok x.1∧a x.2):=by
 subst p;obtain⟨⟨φ,r,s⟩,t⟩:=h;intro m u hf;obtain⟨ψ,v,w⟩:=hf (c,o) (by simp);cases r.symm.trans v;obtain⟨x,d,e⟩:=t _ w;obtain⟨y,g,i⟩:=q m (by rw[u];show o+(E.size+b.size)=_;omega) fun f j=>hf f (alx _ j);refine⟨(x,y),?_,e,i⟩;show m.drop o=E.cells x++b.cells y;rw[<- d,<- g,<- s,<- alR,alS]
def opS{α β:Type}{E:iK β}{ok:β->Prop}{f:α->β}{d:∀x y,f x=f y->x=y}{g:β->α}{a:List (Nat×Nat)}(b:T t=some τ)(e:τ.ds=.struct a)(i:τ.size=E.size)(l:∀y,f (g y)=y)(h:OpF T n a 0 E ok):DM T (n+1) t (BL E f d) (fun x=>ok (f x)):=by
 refine⟨⟨τ,b,i⟩,fun c j =>?_⟩;obtain⟨m,k⟩:=UW j b e;obtain⟨y,o,p⟩:=h c (by omega) k;refine⟨g y,?_,?_⟩
 ·show c=E.cells (f (g y));simp_all
 simp_all
def OpA{α:Type}(T:Nat->Option Ty)(n t:Nat)(A:Arg α)(a:α->Prop):Prop:=∀d,vJ T n t d->∃x,d=A.d x∧a x
def oaI{k:IntKind}(a:T t=some τ)(b:τ.ds=.int k):OpA T (n+1) t (aI k) (fun i=>(Lit.int k i).wf=true):=fun _ h=>adF h a b
def ajD{α:Type}{E:iK α}{a:List α->Prop}{e:Nat}(c:T t=some τ)(f:τ.ds=.slice e)(g:DM T n t (dW E) a):OpA T n t (kb E) a:=fun d h=>by
 obtain⟨x,b,i⟩:=g.2 _ (XU h c f);simp only[CE,akD,and_true]at b;exact⟨x,b,i⟩
def oaS{α:Type}{E:iK α}{b:α->Prop}{c:List (Nat×Nat)}(e:T t=some τ)(f:τ.ds=.struct c)(g:DM T n t E b):OpA T n t (bT E) b:=fun d h=>by
 obtain⟨j,rfl,a⟩:=Tj h e f;obtain⟨x,a,i⟩:=g.2 _ a;exact⟨x,by rw[a];rfl,i⟩
def Z0{α:Type}(T:Nat->Option Ty)(n:Nat)(b:List Nat)(A:ki α)(c:α->Prop):Prop:=∀a:List D,a.length=b.length->(∀(j:Nat) u,b[j]? = some u->∃x,a[j]? = some x∧vJ T n u x)->∃x,a=A.ds x∧c x
def ajE{α:Type}{A:Arg α}{b:α->Prop}(h:OpA T n t A b):Z0 T n [t] (dO A) b:=fun g c d=>by
 obtain⟨a,rfl,e⟩:=ahs c d;obtain⟨x,rfl,f⟩:=h a e;exact⟨x,rfl,f⟩
def aeq{α β:Type}{A:Arg α}{ok:α->Prop}{B:ki β}{b:β->Prop}{e:List Nat}(h:OpA T n t A ok)(g:Z0 T n e B b):Z0 T n (t::e) (fV A B) (fun x=>ok x.1∧b x.2):=fun f i j=>by
 obtain⟨a,f,rfl,k,c,d⟩:=aht i j;obtain⟨x,rfl,l⟩:=h a k;obtain⟨y,rfl,m⟩:=g f c d;exact⟨(x,y),rfl,l,m⟩
def agh{P:Program}{f:FuncId}{α:Type}{A:ki α}{F:α->Option Bool}{c:α->Prop}{b:List Nat}(d:Z0 T n b A c)(e:cn P f (ew A F (fun r =>.clean (.bool r))))(h:∀x,c x->F x=some true)(a:List D)(g:a.length=b.length)
  (i:∀(j:Nat) u,b[j]? = some u->∃x,a[j]? = some x∧vJ T n u x):S4 P f a (.bool true):=by
 obtain⟨x,rfl,k⟩:=d a g i;refine e.calls none _ _ none ?_;rw[cJ,h x k];rfl
end
end Go.Proofs.YtobnihfgnbnncaaGreat.Am
namespace Go.Proofs.YtobnihfgnbnncaaGreat.P
open Go.RowKit
def Od(l:List Int):Option (List Int):=some l
def Ft(l:List Int):Option (List Int):=if l.length*8<=140737488351232 then some (rO l) else none
end Go.Proofs.YtobnihfgnbnncaaGreat.P
namespace Go.Proofs
open Go.Shelf
def Tryz.QD:Go.Shelf.Ren:=⟨fun|189=>194|125=>122|257=>201|128=>164|129=>165|294=>203|295=>204|296=>205|297=>206|298=>207|299=>208|216=>209|300=>210|301=>211|328=>213|329=>188|330=>189|331=>214|332=>215|215=>153|343=>216|n=>n,fun|28=>22|3=>3|46=>153|0=>0|51=>190|53=>152|4=>4|183=>184|182=>183|131=>172|5=>5|9=>9|218=>207|222=>211|228=>216|229=>217|n=>n,fun|n=>n⟩
def Tryz.Wo:Go.Proofs.Lays.n189 prog Tryz.QD:={
 mixed:=by kernel_rfl
 f125:=Tryz.func122.trans (congrArg some (by kernel_rfl))
 f128:=Tryz.func164.trans (congrArg some (by kernel_rfl))
 f129:=Tryz.func165.trans (congrArg some (by kernel_rfl))
 f189:=Tryz.func194.trans (congrArg some (by kernel_rfl))
 f215:=Tryz.func153.trans (congrArg some (by kernel_rfl))
 f216:=Tryz.func209.trans (congrArg some (by kernel_rfl))
 f257:=Tryz.func201.trans (congrArg some (by kernel_rfl))
 f294:=Tryz.func203.trans (congrArg some (by kernel_rfl))
 f295:=Tryz.func204.trans (congrArg some (by kernel_rfl))
 f296:=Tryz.func205.trans (congrArg some (by kernel_rfl))
 f297:=Tryz.func206.trans (congrArg some (by kernel_rfl))
 f298:=Tryz.func207.trans (congrArg some (by kernel_rfl))
 f299:=Tryz.func208.trans (congrArg some (by kernel_rfl))
 f300:=Tryz.func210.trans (congrArg some (by kernel_rfl))
 f301:=Tryz.func211.trans (congrArg some (by kernel_rfl))
 f328:=Tryz.func213.trans (congrArg some (by kernel_rfl))
 f329:=Tryz.func188.trans (congrArg some (by kernel_rfl))
 f330:=Tryz.func189.trans (congrArg some (by kernel_rfl))
 f331:=Tryz.func214.trans (congrArg some (by kernel_rfl))
 f332:=Tryz.func215.trans (congrArg some (by kernel_rfl))
 f343:=Tryz.func216.trans (congrArg some (by kernel_rfl))
 t0:=underlying0
 a0:=isAgg0
 z0:=sizeOf0
 v0:=zeroValue0
 t3:=underlying3
 a3:=isAgg3
 z3:=sizeOf3
 v3:=zeroValue3
 t4:=underlying4
 a4:=isAgg4
 z4:=sizeOf4
 v4:=zeroValue4
 t5:=underlying5
 a5:=isAgg5
 z5:=sizeOf5
 v5:=zeroValue5
 t9:=underlying9
 a9:=isAgg9
 z9:=sizeOf9
 v9:=zeroValue9
 t28:=underlying22
 a28:=isAgg22
 z28:=sizeOf22
 v28:=zeroValue22
 t46:=underlying153
 a46:=isAgg153
 z46:=sizeOf153
 v46:=zeroValue153
 t51:=underlying190
 a51:=isAgg190
 z51:=sizeOf190
 v51:=zeroValue190
 t53:=underlying152
 a53:=isAgg152
 z53:=sizeOf152
 v53:=zeroValue152
 t131:=underlying172
 a131:=isAgg172
 z131:=sizeOf172
 v131:=zeroValue172
 t182:=underlying183
 a182:=isAgg183
 z182:=sizeOf183
 v182:=zeroValue183
 t183:=underlying184
 a183:=isAgg184
 z183:=sizeOf184
 v183:=zeroValue184
 t218:=underlying207
 a218:=isAgg207
 z218:=sizeOf207
 v218:=zeroValue207
 t222:=underlying211
 a222:=isAgg211
 z222:=sizeOf211
 v222:=zeroValue211
 t228:=underlying216
 a228:=isAgg216
 z228:=sizeOf216
 v228:=zeroValue216
 t229:=underlying217
 a229:=isAgg217
 z229:=sizeOf217
 v229:=zeroValue217 }
def Tryz.UB:Go.Shelf.Ren:=⟨fun|6=>66|15=>122|14=>121|28=>164|29=>165|20=>156|21=>157|22=>158|23=>159|24=>160|25=>161|26=>162|27=>163|46=>187|47=>188|48=>189|49=>190|50=>191|57=>199|n=>n,fun|22=>64|24=>118|25=>120|3=>3|39=>153|0=>0|53=>190|55=>152|4=>4|46=>184|45=>183|50=>172|5=>5|9=>9|66=>207|70=>211|76=>216|77=>217|n=>n,fun|n=>n⟩
def Tryz.acL:Go.Proofs.SlLaysF0.n6 prog Tryz.UB:={
 mixed:=by kernel_rfl
 f6:=⟨Tryz.f66.name,by decide,Tryz.func66.trans (congrArg some (by kernel_rfl))⟩
 f14:=⟨Tryz.f121.name,by decide,Tryz.func121.trans (congrArg some (by kernel_rfl))⟩
 f15:=Tryz.func122.trans (congrArg some (by kernel_rfl))
 f20:=⟨Tryz.f156.name,by decide,Tryz.func156.trans (congrArg some (by kernel_rfl))⟩
 f21:=⟨Tryz.f157.name,by decide,Tryz.func157.trans (congrArg some (by kernel_rfl))⟩
 f22:=⟨Tryz.f158.name,by decide,Tryz.func158.trans (congrArg some (by kernel_rfl))⟩
 f23:=⟨Tryz.f159.name,by decide,Tryz.func159.trans (congrArg some (by kernel_rfl))⟩
 f24:=⟨Tryz.f160.name,by decide,Tryz.func160.trans (congrArg some (by kernel_rfl))⟩
 f25:=⟨Tryz.f161.name,by decide,Tryz.func161.trans (congrArg some (by kernel_rfl))⟩
 f26:=⟨Tryz.f162.name,by decide,Tryz.func162.trans (congrArg some (by kernel_rfl))⟩
 f27:=⟨Tryz.f163.name,by decide,Tryz.func163.trans (congrArg some (by kernel_rfl))⟩
 f28:=Tryz.func164.trans (congrArg some (by kernel_rfl))
 f29:=Tryz.func165.trans (congrArg some (by kernel_rfl))
 f46:=⟨Tryz.f187.name,by decide,Tryz.func187.trans (congrArg some (by kernel_rfl))⟩
 f47:=Tryz.func188.trans (congrArg some (by kernel_rfl))
 f48:=Tryz.func189.trans (congrArg some (by kernel_rfl))
 f49:=⟨Tryz.f190.name,by decide,Tryz.func190.trans (congrArg some (by kernel_rfl))⟩
 f50:=⟨Tryz.f191.name,by decide,Tryz.func191.trans (congrArg some (by kernel_rfl))⟩
 f57:=⟨Tryz.f199.name,by decide,Tryz.func199.trans (congrArg some (by kernel_rfl))⟩
 t0:=underlying0
 a0:=isAgg0
 z0:=sizeOf0
 v0:=zeroValue0
 t3:=underlying3
 a3:=isAgg3
 z3:=sizeOf3
 v3:=zeroValue3
 t4:=underlying4
 a4:=isAgg4
 z4:=sizeOf4
 v4:=zeroValue4
 t5:=underlying5
 a5:=isAgg5
 z5:=sizeOf5
 v5:=zeroValue5
 t9:=underlying9
 a9:=isAgg9
 z9:=sizeOf9
 v9:=zeroValue9
 t22:=underlying64
 a22:=isAgg64
 z22:=sizeOf64
 v22:=zeroValue64
 t25:=underlying120
 a25:=isAgg120
 z25:=sizeOf120
 v25:=zeroValue120
 t39:=underlying153
 a39:=isAgg153
 z39:=sizeOf153
 v39:=zeroValue153
 t45:=underlying183
 a45:=isAgg183
 z45:=sizeOf183
 v45:=zeroValue183
 t46:=underlying184
 a46:=isAgg184
 z46:=sizeOf184
 v46:=zeroValue184
 t50:=underlying172
 a50:=isAgg172
 z50:=sizeOf172
 v50:=zeroValue172
 t53:=underlying190
 a53:=isAgg190
 z53:=sizeOf190
 v53:=zeroValue190
 t55:=underlying152
 a55:=isAgg152
 z55:=sizeOf152
 v55:=zeroValue152
 t66:=underlying207
 a66:=isAgg207
 z66:=sizeOf207
 v66:=zeroValue207
 t70:=underlying211
 a70:=isAgg211
 z70:=sizeOf211
 v70:=zeroValue211
 t76:=underlying216
 a76:=isAgg216
 z76:=sizeOf216
 v76:=zeroValue216
 t77:=underlying217
 a77:=isAgg217
 z77:=sizeOf217
 v77:=zeroValue217 }
end Go.Proofs
namespace Go.Proofs.YtobnihfgnbnncaaGreat.Am
open Go.RowKit Go.Proofs.YtobnihfgnbnncaaGreat.P
def Vl{w:World}{M:Nat->Prop}{k:IntKind}{l:List Int}{u:Value}(h:RP w M (.sl false false l.length (al (eI k) l)) u) :
  ∃A c,u=.slice A l.length c∧l.length<=c∧c<=maxLen∧(A=none->l.length=0∧c=0)∧(l≠[]->∃b o,A=some ⟨b,o,none⟩∧b<w.heap.size∧¬M b∧∀j,j<l.length->w.cell? ⟨b,o+j,none⟩=some (.int k (l.getD j 0))):=by
 cases h with
 | sl A c nl tight n xs us h1 h2 h3 h4 h5 h6 h7 h8 =>
  refine⟨A,c,rfl,h1,h2,h4,fun p =>?_⟩;have a:al (eI k) l≠[]:=by
   intro d;have:=congrArg List.length d;rw[sf]at this;simp_all
  obtain⟨b,o,rfl,e,f,g⟩:=h6 a;refine⟨b,o,rfl,e,f,fun j i =>?_⟩;rw[g j (by rw[sf];exact i)];have m:(al (eI k) l)[j]? = some (.int k (l.getD j 0)):=by rw[yf];simp_all
  rw[Tb (h7 j _ m)]
end Go.Proofs.YtobnihfgnbnncaaGreat.Am
namespace Go.Proofs.YtobnihfgnbnncaaGreat.Am
open Go.RowKit Go.Shelf Go.Proofs.YtobnihfgnbnncaaGreat.P
attribute [local go_sem] Oper.semAt_some
def upto(f:Nat->Int)(k:Nat):List Int:=(List.range k).map f
def Mo(f:Nat->Int)(k:Nat):upto f (k+1)=upto f k++[f k]:=by simp[upto,amE]
def SR(f:Nat->Int)(k:Nat):(upto f k).length=k:=by simp[upto]
def ade(zs:List Int):upto (fun j=>zs[j]?.getD 0) zs.length=zs:=by
 apply List.ext_getElem
 ·simp[upto]
 ·intro i b a;simp[upto,a]
def ZB(zs:List Int){k:Nat}(a:k<=zs.length):upto (fun j=>zs[j]?.getD 0) k=zs.take k:=by
 apply List.ext_getElem
 ·simp[upto,a]
 ·intro i b c;have:i<zs.length:=by grind
  simp[upto,this]
set_option maxRecDepth 100000 in
set_option maxHeartbeats 2000000 in
def U2(F:Fence)(n:Nat)(h7:F.fn 195)(hro:F.round=none)(hn:1<=n)(l Bs Bo n₀ b off len cap:Nat)(zs:List Int)(hreach:len*8<=140737488351232)(hb:b<n₀)(J Jx:List Int->World->Prop)
  (hY:∀pre x W,J pre W->pre.length<len->YieldAt F (n-1) prog l #[.int .i64 x] W fun e W' =>
   (e=.returned (.bool true)∧J (pre++[x]) W'∧Below n₀ W W')∨(e=.returned (.bool false)∧Jx (pre++[x]) W'))
  (W:World) (hBs:W.cell? ⟨Bs,Bo,none⟩=some (.slice (some ⟨b,off,none⟩) len cap)) (hc:∀j,j<len->W.cell? ⟨b,off+j,none⟩=some (.int .i64 (zs[j]?.getD 0))) (h0:J [] W) :
  CallsIn F n prog 195 #[.func (.yield l) #[] #[],.pointer (some ⟨Bs,Bo,none⟩)] W fun e W'=>(∃v,e=.returned v) ∧
   ((∃ys,ys=upto (fun j=>zs[j]?.getD 0) len∧J ys W')∨(∃pre,(∃k,k<=len∧pre=upto (fun j=>zs[j]?.getD 0) k)∧Jx pre W')):=by
 refine callsIn_of_wp func195 rfl h7 ?_ hro;simp only[ntmps195,alr,List.length_cons,List.length_nil,Nat.reduceAdd,Nat.reduceSub,amK,Array.replicate_zero,amM,amN,List.nil_append,List.cons_append]
 gi_wp2
 gi_loopw [7] (fun i wr=>∃k:Nat,k<=len∧i=.int .i64 k∧J (upto (fun j=>zs[j]?.getD 0) k) wr∧Below n₀ W wr)
  (fun i _=>len-(intOf i).toNat)
 case atStart=>exact⟨0,akj _,rfl,h0,Below.refl _ _⟩
 case round =>
  obtain⟨k,hk,rfl,hJs,hnx⟩:=hrel;have hcx:k<len->wr.cell? ⟨b,off+k,none⟩=some (.int .i64 (zs[k]?.getD 0)):=fun h=>(hnx.cell (p:=⟨b,off+k,none⟩) hb).trans (hc k h)
  by_cases hlt:k<len
  ·obtain⟨fn,tmps,assign,body,hy,hR⟩:=hY _ (zs[k]?.getD 0) wr hJs (by rw[SR];exact hlt);have hcx':=hcx hlt
   gi_wp2
   apply hR.mono;rintro e W3 (⟨rfl,hJ3,hk3⟩|⟨rfl,hJx3⟩)
   ·gi_wp2
    go_roundw
    case rel=>exact⟨k+1,by omega,by simp,by rw[Mo];exact hJ3,hnx.trans hk3⟩
    case measure=>simp[intOf];omega
   ·gi_wp2
    refine bodyPost_ret (results_none rfl _ _ _) rfl ?_;exact⟨⟨_,rfl⟩,.inr ⟨_,⟨k+1,by omega,(Mo _ _).symm⟩,hJx3⟩⟩
  ·obtain rfl:k=len:=by omega
   gi_wp2
   go_end0
   exact⟨⟨_,rfl⟩,.inl ⟨_,rfl,hJs⟩⟩
set_option maxRecDepth 100000 in
set_option maxHeartbeats 1000000 in
def IP(F:Fence)(n:Nat)(h7:F.fn 195)(hro:F.round=none)(l Bs Bo cap:Nat)(A:Option Addr)(J:List Int->World->Prop)(W:World)(hBs:W.cell? ⟨Bs,Bo,none⟩=some (.slice A 0 cap))(h0:J [] W) :
  CallsIn F n prog 195 #[.func (.yield l) #[] #[],.pointer (some ⟨Bs,Bo,none⟩)] W fun e W'=>(∃v,e=.returned v)∧J [] W':=by
 refine callsIn_of_wp func195 rfl h7 ?_ hro;simp only[ntmps195,alr,List.length_cons,List.length_nil,Nat.reduceAdd,Nat.reduceSub,amK,Array.replicate_zero,amM,amN,List.nil_append,List.cons_append]
 gi_wp2
 gi_loopw [7] (fun i wr=>i=.int .i64 0∧J [] wr) (fun _ _=>0)
 case atStart=>exact⟨rfl,h0⟩
 case round =>
  obtain⟨rfl,hJs⟩:=hrel
  gi_wp2
  go_end0
  exact⟨⟨_,rfl⟩,hJs⟩
def Ints(g:Nat)(W:World)(f:Value)(d:List Int):Prop :=
 (∃A c,f=.slice A 0 c∧d=[])∨∃b a e,f=.slice (some ⟨b,a,none⟩) d.length e∧b<g∧∀j,j<d.length->W.cell? ⟨b,a+j,none⟩=some (.int .i64 (d[j]?.getD 0))
def Ints.below{a:Nat}{A B:World}(h:Below a A B){c:Value}{d:List Int}:Ints a A c d->Ints a B c d
 | .inl e =>.inl e
 | .inr ⟨b,off,cap,e,f,g⟩ =>.inr ⟨b,off,cap,e,f,fun j i=>(h.cell (p:=⟨b,off+j,none⟩) f).trans (g j i)⟩
def Oe(F:Fence)(n:Nat)(v:F.fn 195)(g:F.round=none)(C:1<=n)(f h m:Nat)(y:Value)(a:List Int)(d:a.length*8<=140737488351232)(w:World)(q:f<w.heap.size)(r:m<=w.heap.size)
  (D:w.cell? ⟨f,h,none⟩=some y) (E:Ints m w y a) :
  SeqStopsK F n prog 195 #[.pointer (some ⟨f,h,none⟩)] (fun x:Int=>#[Value.int .i64 x]) (Below m) (fun ys=>ys=a) (fun pre=>pre <+: a) a.length w:=fun l J G W z _ _ H B=>by
 have i:=(z.cell (p:=⟨f,h,none⟩) q).trans D;rcases E.below (z.mono r) with⟨A,c,rfl,rfl⟩|⟨b,s,t,rfl,I,u⟩
 ·exact (IP F n v g l f h _ _ J W i B).mono fun e K ⟨o,j⟩=>⟨o,.inl ⟨_,rfl,j⟩⟩
 ·refine (U2 F n v g C l f h m b s a.length t a d I J G H W i u B).mono ?_;rintro e K ⟨o,⟨ys,rfl,j⟩|⟨pre,⟨k,L,rfl⟩,j⟩⟩
  ·exact⟨o,.inl ⟨_,ade a,j⟩⟩
  ·exact⟨o,.inr ⟨_,by rw[ZB a L];exact List.take_prefix _ _,j⟩⟩
def ahF:(Tryz.prog.info? 3).map (fun i=>(i.zero,i.size,i.bytes))=some (some (.int .i64 0),1,8):=by kernel_rfl
set_option maxRecDepth 100000 in
set_option maxHeartbeats 2000000 in
def appendSeq_in(F:Fence)(n:Nat)(h3:F.fn 200)(h7:F.fn 195)(hro:F.round=none)(hn:3<=n)(Bs Bo:Nat)(sv:Value)(zs:List Int)(hreach:zs.length*8<=140737488351232)(w:World)
  (hBs:Bs<w.heap.size) (hc:w.cell? ⟨Bs,Bo,none⟩=some sv) (hI:Ints w.heap.size w sv zs) :
  CallsIn F n prog 200 #[.slice none 0 0,.func (.func 195) #[] #[.pointer (some ⟨Bs,Bo,none⟩)]] w fun e W'=>∃v,e=.returned v∧W'.ownsRow w.heap.size 3 1 v zs.length (zs.map (Value.int .i64))∧(v=.slice none 0 0↔zs=[])∧Below w.heap.size w W':=by
 have h1:1<=n:=by omega
 obtain⟨i0,hi,hz0,hz1,hz2⟩:=info_parts ahF;refine callsIn_of_wp_marks func200 rfl h3 ?_ hro;simp only[ntmps200,alr,List.length_cons,List.length_nil,Nat.reduceAdd,Nat.reduceSub,amK,Array.replicate_zero,amM,amN,List.nil_append,List.cons_append]
 gi_wp2
 have bO:=Boxed.new w 22 (.slice none 0 0);have hB0:Below w.heap.size w (w.alloc (.cells #[.slice none 0 0] 22)):=(Below.refl _ w).alloc (aki _) _;refine wpIn_rangeFunc_ownG hro h1 (gf:=195) (lb:=#[.pointer (some ⟨Bs,Bo,none⟩)]) rfl h7 (enters_of func195 (by kernel_rfl) rfl)
  (Oe F (n-1) h7 hro (by omega) Bs Bo w.heap.size sv zs hreach _ (by simp;omega) (by simp) ((hB0.cell (p:=⟨Bs,Bo,none⟩) hBs).trans hc) (hI.below hB0)) belowK_t (belowK_b (by simp)) (Below.refl _ _) (fun _=>rfl)
  (fun pre W=>(∃v,Boxed W w.heap.size 22 v∧W.ownsRow w.heap.size 3 1 v pre.length (pre.map (Value.int .i64))∧(v=.slice none 0 0↔pre=[]))∧Below w.heap.size w W)
  (fun _ _ _=>False)
  (OwnFrom.and (Own.from (holdsRow_own w.heap.size w.heap.size 22 3 1 (fun pre=>pre.length) (fun pre=>pre.map (Value.int .i64)) (fun pre v=>v=.slice none 0 0↔pre=[])) _) (ownFrom_below (aki _) (by simp)))
  (fun _ _ _ _ _ hs _ _=>hs)
  ⟨⟨_,bO,World.ownsRow_nil _ _ _ _,by simp⟩,hB0⟩
  (fun x=>{ tmps:=#[.slice none 0 0,.func (.func 195) #[] #[.pointer (some ⟨Bs,Bo,none⟩)],.pointer (some ⟨w.heap.size,0,none⟩),undef,.slice none 0 0,.int .i64 x,.func (.func 195) #[] #[.pointer (some ⟨Bs,Bo,none⟩)],.int .i64 x,undef,undef,undef,undef,undef],defers:=[] }) ?assign ?body ?done ?stop
 case assign =>
  intro l x W K hK
  gi_wp2
  exact hK
 case body =>
  rintro l pre x W ⟨⟨v,hv,hrow,hnil⟩,hB⟩ hlt;have hc:=hv.cell
  gi_wp2_with (gi_at_builtin;refine wpListIn_append_own _ rfl _ _ 22 rfl w.heap.size 3 i0 (.int .i64 0) 1 8 underlying22 hi hz0 hz1 hz2 rfl (by decide) _ _ _ rfl (hrow.alloc _) ⟨W.heap.size,0,none⟩ 1 1 [.int .i64 x] rfl rfl (cell_one_new _ _ _) (by simp[Value.oneCell']) (by unfold maxLen;omega) (by omega) (by have:=hB.size;simp;omega) ?_;intro v' w1 hown' hgrow _;obtain⟨g',cap',rfl⟩:=ownsRow_succ hown';obtain⟨hv1,hv2,hr2,hk2,hb2⟩:=hv.appended (by decide) hrow hB.size (aki _) hown' hgrow;have hc1:=hv1.cell;have hf1:=hv1.frozen)
  exact⟨hk2.from _,hb2,⟨_,hv2,by simpa using hr2,by simp⟩,hB.trans hb2⟩
 case done =>
  rintro D ys W hD rfl ⟨⟨v,hv,hrow,hnil⟩,hB⟩ hK;have hc:=hv.cell
  gi_wp2
  refine⟨by simp,.inl ⟨_,_,rfl,run_takeDeferred hK,?_⟩⟩;exact⟨_,results_tmp rfl _ _ _,v,rfl,ownsRow_putObj hrow _ hK rfl,hnil,hB.trans (belowK_b (w:=w) (aki _) W D _ _ (by simp at hD;omega) hK rfl rfl)⟩
 case stop =>
  rintro D c pre W _ _ h _;exact h.elim
set_option maxHeartbeats 1000000 in
def collect_in(F:Fence)(n:Nat)(h2:F.fn 193)(h3:F.fn 200)(h7:F.fn 195)(hro:F.round=none)(hn:4<=n)(Bs Bo:Nat)(sv:Value)(zs:List Int)(hreach:zs.length*8<=140737488351232)(w:World)
  (hBs:Bs<w.heap.size) (hc:w.cell? ⟨Bs,Bo,none⟩=some sv) (hI:Ints w.heap.size w sv zs) :
  CallsIn F n prog 193 #[.func (.func 195) #[] #[.pointer (some ⟨Bs,Bo,none⟩)]] w fun e W'=>∃v,e=.returned v∧W'.ownsRow w.heap.size 3 1 v zs.length (zs.map (Value.int .i64))∧(v=.slice none 0 0↔zs=[])∧Below w.heap.size w W':=by
 have h1:1<=n:=by omega
 refine callsIn_of_wp func193 rfl h2 ?_ hro;simp only[ntmps193,alr,List.length_cons,List.length_nil,Nat.reduceAdd,Nat.reduceSub,amK,Array.replicate_zero,amM,amN,List.nil_append,List.cons_append]
 gi_wp2_with (gi_at_call 200;refine (appendSeq_in F (n-1) h3 h7 hro (by omega) Bs Bo sv zs hreach _ hBs hc hI).mono ?_;rintro e w' ⟨v,rfl,hrow,hnil,hb⟩)
 go_ret
 exact⟨v,rfl,hrow,hnil,hb⟩
def aeY(a:Option Addr)(len cap:Nat)(w:World) :
  Calls prog 174 #[.slice a len cap] w fun e w'=>e=.returned (.func (.func 195) #[] #[.pointer (some ⟨w.heap.size,0,none⟩)])∧w'=w.alloc (.cells #[.slice a len cap] 22):=by
 go_enter func174,ntmps174
 go_wp2
 go_ret
 exact⟨rfl,rfl⟩
set_option maxHeartbeats 1000000 in
def aeR(Bs Bo:Nat)(sv:Value)(zs:List Int)(hreach:zs.length*8<=140737488351232)(w:World)(hBs:Bs<w.heap.size)(hc:w.cell? ⟨Bs,Bo,none⟩=some sv)(hI:Ints w.heap.size w sv zs) :
  Calls prog 173 #[.func (.func 195) #[] #[.pointer (some ⟨Bs,Bo,none⟩)]] w fun e w'=>∃v,e=.returned v∧Below w.heap.size w w' ∧
   ((zs=[]∧v=.slice none 0 0)∨∃g cap cs,v=.slice (some ⟨g,0,none⟩) zs.length cap∧w.heap.size<=g∧w'.heap[g]? = some (.cells cs 3 (0,0))∧zs.length<=cap∧cap<=maxLen∧cs.size=cap∧∀j,j<zs.length->cs.getD j undef=.int .i64 ((rO zs).getD j 0)):=by
 refine (callsIn_wide (n:=6)).1 ?_;have hN:(1:Nat)<=6:=by omega
 have cC:=collect_in Fence.wide 5 trivial trivial trivial rfl (by omega) Bs Bo sv zs hreach w hBs hc hI;refine callsIn_of_wp func173 rfl trivial ?_ rfl;simp only[ntmps173,alr,List.length_cons,List.length_nil,Nat.reduceAdd,Nat.reduceSub,amK,Array.replicate_zero,amM,amN,List.nil_append,List.cons_append];have hf1:Fence.wide.fn 193:=trivial;have hf2:Fence.wide.fn 194:=trivial;have cS:ahm prog 194:=fun blk off cap zs w hH hb hl=>Any.slices_Sort_int Tryz.Wo blk off cap zs w hH hb hl
 by_cases hz:zs=[]
 ·subst hz
  gi_wp2_with (first
   | (gi_at_call 193;refine cC.mono ?_;clear cC;rintro e w' ⟨v,rfl,hrow,hnil,hb⟩;obtain rfl:v=.slice none 0 0:=hnil.2 rfl)
   | (gi_at_call 194;refine (callsIn_wide.2 (Any.slices_Sort_int_none Tryz.Wo _ _ _)).mono ?_;rintro e2 w2 ⟨rfl,rfl⟩))
  go_ret
  first|exact⟨_,rfl,hb,.inl rfl⟩|exact⟨_,rfl,hb,.inl ⟨rfl,rfl⟩⟩
 ·gi_wp2_with (gi_at_call 193;refine cC.mono ?_;clear cC;rintro e w' ⟨v,rfl,hrow,hnil,hb⟩;obtain⟨g,cap,cur,rfl,k1,k2,k3,k4,k5,k6⟩:∃g cap cur,v=.slice (some ⟨g,0,none⟩) zs.length cap∧w.heap.size<=g∧w'.heap[g]? = some (.cells cur 3 (0,0))∧zs.length<=cap∧cap<=maxLen∧cur.size=cap*1∧cur.toList.take (zs.length*1)=zs.map (Value.int .i64):=hrow.2.resolve_left (fun hv=>hz (hnil.1 hv.1)))
  rw[Nat.mul_one]at k5 k6;have hcur:∀j,j<zs.length->cur[j]? = some (.int .i64 (zs.getD j 0)):=by
   intro j hj;have:(cur.toList.take zs.length)[j]? = (zs.map (Value.int .i64))[j]?:=by rw[k6]
   rw[akH,if_pos hj,akf,alk]at this;rw[this];simp[List.getD,hj]
  have hH:Go.Sort.Holds (Value.int .i64) w' g 0 zs.toArray:=by
   intro j hj;simp only[alr]at hj;refine⟨?_,by simp[World.frozen?,k2]⟩;simp only[World.cell?,k2,alf];rw[hcur j hj];simp[List.getD,hj]
  have hlt:g<w'.heap.size:=(alg.1 k2).1
  gi_wp2_with (gi_at_call 194;refine (callsIn_wide.2 (cS g 0 cap zs w' hH hlt (by omega))).mono ?_;rintro e2 w2 ⟨rfl,q,os,rfl⟩)
  go_ret
  refine⟨_,rfl,?_,.inr ⟨g,cap,Go.Sort.putCells (Value.int .i64) 0 (rO zs).toArray cur,rfl,k1,?_,k3,k4,?_,fun j hj =>?_⟩⟩
  ·refine⟨hb.os,hb.tape,hb.output,akk hb.size (by simp[Go.Sort.grow,Go.Sort.ahead]),fun k hk =>?_⟩;have hk':k<w'.heap.size:=akl hk hb.size;rw[Go.Sort.heap_grow_old _ _ (by simpa [Go.Sort.ahead] using hk'),H9 (by omega)];exact hb.block k hk
  ·rw[Go.Sort.heap_grow_old _ _ (by simpa [Go.Sort.ahead] using hlt)];exact RW k2
  ·simp[Go.Sort.putCells,k5]
  ·rw[NH (by omega),if_pos (by rw[sD];omega),Nat.sub_zero]
def ZF:cn prog 174 (ew (dO (kb (eI .i64))) Od (fun r =>.clean (.clo 195 0 [.ip [.sl false false r.length (al (eI .i64) r)]]))) where
 callable:=⟨_,func174,by kernel_rfl,by kernel_rfl⟩
 calls bY ds rk out n:=by
  obtain⟨rfl,rfl,l,r,rfl,o,rfl⟩:=vt n;cases o;intro w M i p a;have g:i.size=1:=a.size;rw[adg g];have q:=a.at_ 0 _ rfl;generalize i.getD 0 undef=u at *;have f:RP w M (.sl false false l.length (al (eI .i64) l)) u:=q;obtain⟨A,c,rfl,-⟩:=Vl f;refine (aeY A l.length c w).mono fun e B ⟨s,t⟩ =>?_;subst t;have k:Below w.heap.size w (w.alloc (.cells #[.slice A l.length c] 22)):=(Below.refl _ w).alloc (aki _) _;have v:∀b,b<w.heap.size->¬M b->b<(w.alloc (.cells #[.slice A l.length c] 22)).heap.size∧¬M b∧(w.alloc (.cells #[.slice A l.length c] 22)).heap[b]? = w.heap[b]?:=fun b y z=>⟨by simp;omega,z,k.block b y⟩;refine⟨_,s,k,RP.clo _ 0 _ [.pointer (some ⟨w.heap.size,0,none⟩)] rfl fun j x d =>?_⟩;cases j with
  | succ j=>simp at d
  | zero =>
   simp only[List.getElem?_cons_zero,akq]at d;subst d;refine RP.ip _ ⟨w.heap.size,0,none⟩ (fun _ =>.slice A l.length c) (fun _=>⟨w.heap.size,0,rfl,by simp,fun h=>by have:=p _ h;omega,fun j d =>?_⟩) (fun j x d =>?_) (fun x m =>?_)
   ·simp only[List.length_cons,List.length_nil]at d;have:j=0:=by omega
    subst this;exact (bf (heap_alloc_new w _) (j:=0) (by simp)).trans rfl
   ·cases j with
    | succ j=>simp at d
    | zero =>
     simp only[List.getElem?_cons_zero,akq]at d;subst d;exact f.keep v
   ·simp only[akC]at m;subst m;rfl
def Zj:cn prog 173 (ew (dO (MD 195 0 (dO (XQ (dW (eI .i64)))))) Ft (fun r =>.fresh 3 1 r.length (al (eI .i64) r))) where
 callable:=⟨_,func173,by kernel_rfl,by kernel_rfl⟩
 calls bY ds rk out O:=by
  obtain⟨rfl,rfl,l,r,rfl,s,rfl⟩:=vt O;unfold Ft at s;split at s;rotate_left
  ·cases s
  rename_i i;cases s;intro w M I hM h;have y:I.size=1:=h.size;rw[adg y];have P:=h.at_ 0 _ rfl;generalize I.getD 0 undef=u at *;have B:RP w M (.clo 195 0 [.ip [.sl false false l.length (al (eI .i64) l)]]) u:=P;cases B with
  | clo f kk xs t Q h2 =>
   have R:=h2 0 _ rfl;have C:t=[t.getD 0 undef]:=by
    match t,Q with
    | [x],_=>rfl
   rw[C];generalize t.getD 0 undef=q at *;cases R with
   | ip xs ad m h6 h7 h8 =>
    obtain⟨b,o,rfl,S,T,k⟩:=h6 (by simp);have a:=k 0 (by simp);rw[akO]at a;have U:=h7 0 _ rfl;have V:Ints w.heap.size w (m 0) l:=by
     obtain⟨A,c,W,J,K,L,D⟩:=Vl U;rw[W]
     by_cases N:l=[]
     ·subst N;exact .inl ⟨A,c,rfl,rfl⟩
     ·obtain⟨X,Y,rfl,E,Z,F⟩:=D N;exact .inr ⟨X,Y,c,rfl,E,fun j n=>by rw[F j n];simp[List.getD]⟩
    refine (aeR b o (m 0) l i w S a V).mono fun e w' ⟨v,he,G,hv⟩ =>?_;refine⟨v,he,G,?_⟩;rcases hv with⟨rfl,rfl⟩|⟨g,H,cs,rfl,J,K,L,D,k5,k6⟩
    ·refine .inr ⟨?_,?_,none,rfl⟩
     ·rw[L4];rfl
     ·rw[L4];rfl
    ·refine .inl ⟨(g,0),H,cs,by rw[sD],.inl J,K,by rw[sD];exact L,D,by simp only;omega,by rw[sf,sD];simp only;omega,fun j d n =>?_⟩;have p:=(akI.1 n).1;rw[sf,sD]at p;rw[yf,akg]at n;obtain⟨z,hz,rfl⟩:=n;simp only[alf];rw[k6 j p];have:(rO l).getD j 0=z:=by simp[List.getD,hz]
     rw[this];exact⟨rfl,.int _ _⟩
end Go.Proofs.YtobnihfgnbnncaaGreat.Am
namespace Go.Proofs.YtobnihfgnbnncaaGreat.Am
open Go.RowKit Go.Proofs.YtobnihfgnbnncaaGreat.P
def PH{α:Type}(e:iK α):iK (List α):=⟨fun l=>[.nx l.length (al e l)],1,fun _=>rfl,by decide,fun x y h=>by
 simp only[akD,D.nx.injEq,and_true]at h;exact ye e _ _ h.2⟩
def zi{α:Type}(e:iK α)(l:List α):(PH e).cells l=[.nx l.length (al e l)]:=amP
def BG{α:Type}(e:iK α):(PH e).size=1:=amP
section
variable {α:Type} (E:iK α) {l:List α} {i:Int} {x x':α}
def NI(a:List D)(o:Nat)(d:D)(h:o<a.length):(putCells a o [d]).length=a.length:=by
 simp[putCells];omega
def NJ(a:List D)(o:Nat)(d b:D)(h:o<a.length):putCells (putCells a o [d]) o [b]=putCells a o [b]:=by
 unfold putCells;have f:(a.take o).length=o:=by simp;omega
 have c:(a.take o++[d]++a.drop (o+[d].length)).take o=a.take o:=by
  simp_all
 have e:(a.take o++[d]++a.drop (o+[d].length)).drop (o+[b].length)=a.drop (o+[b].length):=by
  rw[al7 (by simp;omega),alM (by simp;omega),alO];rfl
 rw[c,e]
def Ns(a:Nat)(h:P.idx l i=some x)(b:a+1<=E.size):i.toNat*E.size+a<(al E l).length:=by
 have:=kn E h;rw[bF];omega
def RU(a:Nat)(d c:D)(h:P.idx l i=some x)(e:E.cells x'=putCells (E.cells x) a [c])(b:a+1<=E.size):putCells (putCells (al E l) (i.toNat*E.size+a) [d]) (i.toNat*E.size+a) [c]=al E (l.set i.toNat x'):=by
 rw[NJ _ _ _ _ (Ns E a h b)];exact eT E a [c] h e b
def WT(a:Nat)(d:D)(h:P.idx l i=some x)(b:a+1<=E.size):i.toNat*E.size+a+1<=(putCells (al E l) (i.toNat*E.size+a) [d]).length:=by
 rw[NI _ _ _ (Ns E a h b)];exact Ns E a h b
end
def L0{t s a n o:Nat}{c:Bool}{b d:List D}:Ir t s a c b o none (some (.nx n d))=[.nr t s a (putCells b o [.und])]:=amP
def WC{α:Type}{E:iK α}{T:Nat->Option Ty}{el B ty' s f:Nat}{φ:Ty}{k:IntKind}{n:Int}{z:α}{m:List α}(o:T el=some φ)(p:pH φ f=E.cells z)(y:φ.size=E.size)(r:(φ.zero.map qL).all eZ=true)(t:φ.zero.length=φ.size)(u:acg ((φ.zero.map qL).drop f).head? = true)(A:φ.bytes=B)(h:Hr B n n z=some m)
  : ∀(b c:Nat)(i:List Value)(q:Bool)(e d:Nat),d<1000000->pK T ⟨.slice el,b,c,i,q⟩ e d ty' s f (.int k n) (.int k n)=some ⟨.buf d e φ.size 0 m.length,[(d,some ⟨e,el,[.nr ty' s (4*e+2) (al E m)],false,true,true⟩)]⟩:=by
 intro b c i q e d g;obtain⟨v,j,w,x,C⟩:=mk_one E h;have a:tw (.int k n)=some n.toNat:=by simp[tw,v]
 have l:=E.pos;unfold pK;simp only[o,a];rw[if_pos ⟨aki _,by rw[j];exact w,by simp_all,by omega,r,t,by rw[eD];exact g,u⟩,p,j,x]
def Kh{k:IntKind}{n:Int}:eZ (.int k n)=true:=amP
def Pn{a b:Bool}{n:Nat}{c:List D}:eZ (.sl a b n c)=true:=amP
def cw{α β:Type}(A:ki α)(F:α->Option β)(R:β->Nat×Nat×Nat×Nat×Nat×List D):List D->Option (Nat×Nat×Nat×Nat×Nat×List D):=fun b=>open Classical in if h:∃a,A.ds a=b then (F (Classical.choose h)).map R else none
def agm{α β:Type}(A:ki α)(F:α->Option β)(R:β->Nat×Nat×Nat×Nat×Nat×List D)(a:α):cw A F R (A.ds a)=(F a).map R:=by
 have h:∃b,A.ds b=A.ds a:=⟨a,rfl⟩;simp only[cw];rw[dif_pos h,A.inj _ _ (Classical.choose_spec h)]
def ab4{α β:Type}{A:ki α}{F:α->Option β}{R:β->Nat×Nat×Nat×Nat×Nat×List D}{b:List D}{q:Nat×Nat×Nat×Nat×Nat×List D}(h:cw A F R b=some q):∃a r,b=A.ds a∧F a=some r∧q=R r:=by
 unfold cw at h;split at h
 ·rename_i c;rw[akg]at h;grind
 ·cases h
structure FOk(P:Program)(f:FuncId)(p:List D->Option (Nat×Nat×Nat×Nat×Nat×List D)):Prop where
 callable:fe P f
 calls:∀args ty t s S n cs,p args=some (ty,t,s,S,n,cs)->Mt P f args ty t s S n cs
def FOk.of{P:Program}{T:Nat->Option Ty}{Γ:Env}(g:jL P T)(i:bU P Γ)(j:P.follows .mixedOrders=true){α β:Type}{A:ki α}{F:α->Option β}{R:β->Nat×Nat×Nat×Nat×Nat×List D}{f:FuncId}{b:Func}(e:P.funcs[f]? = some b)(d:(match b.body with|some c=>codeOk c|none=>true)=true)
  (k:(b.name == "runtime.NumGoroutine")=false∧b.body.isNone=false) (l:∀a,(A.ds a).length<=b.ntmps) (h:∀a r,F a=some r->Be T Γ FU b (A.ds a)=some (R r)):FOk P f (cw A F R) where
 callable:=⟨b,e,k⟩
 calls args ty t s S n cs m:=by
  obtain⟨a,r,rfl,o,p⟩:=ab4 m;exact Og g i j e d (l a) ((h a r o).trans (by rw[p]))
def Jj{α β γ:Type}(d t s:Nat)(c:iK γ)(A:ki α)(F:γ->α->Option (γ×β))(R:β->D):Nat->Nat->Nat->Nat->List D->List D->Option (D×List D):=fun b e f o g a =>
 open Classical in if h:∃p:List D×List D×γ×α,b=d∧e=t∧f=s∧g=p.1++(c.cells p.2.2.1++p.2.1)∧o=p.1.length∧a=A.ds p.2.2.2 then
  (F (Classical.choose h).2.2.1 (Classical.choose h).2.2.2).map fun r=>(R r.2,(Classical.choose h).1++(c.cells r.1++(Classical.choose h).2.1)) else none
def Np{α β γ:Type}(c t s:Nat)(b:iK γ)(A:ki α)(F:γ->α->Option (γ×β))(R:β->D)(pre post:List D)(x:γ)(a:α) :
  Jj c t s b A F R c t s pre.length (pre++(b.cells x++post)) (A.ds a)=(F x a).map fun r=>(R r.2,pre++(b.cells r.1++post)):=by
 have h:∃p:List D×List D×γ×α,c=c∧t=t∧s=s∧pre++(b.cells x++post)=p.1++(b.cells p.2.2.1++p.2.1)∧pre.length=p.1.length∧A.ds a=A.ds p.2.2.2:=⟨(pre,post,x,a),rfl,rfl,rfl,rfl,rfl,rfl⟩;obtain⟨_,_,_,d,e,f⟩:=Classical.choose_spec h;obtain⟨g,i⟩:=al2 d e;obtain⟨j,k⟩:=al2 i (by rw[b.len,b.len]);unfold Jj;rw[dif_pos h,<- g,<- k,<- b.inj _ _ j,<- A.inj _ _ f]
def YN{α β γ:Type}{f t s:Nat}{e:iK γ}{A:ki α}{F:γ->α->Option (γ×β)}{R:β->D}{ty' g i o:Nat}{j b:List D}{d:D}{c:List D}(h:Jj f t s e A F R ty' g i o j b=some (d,c)) :
  ty'=f∧g=t∧i=s∧∃pre post x a r,j=pre++(e.cells x++post)∧o=pre.length∧b=A.ds a∧F x a=some r∧d=R r.2∧c=pre++(e.cells r.1++post):=by
 unfold Jj at h;split at h
 ·rename_i k;obtain⟨l,m,n,p,q,u⟩:=Classical.choose_spec k;rw[akg]at h;obtain⟨r,v,w⟩:=h;grind
 ·cases h
structure NOk(P:Program)(f:FuncId)(p:Nat->Nat->Nat->Nat->List D->List D->Option (D×List D)):Prop where
 callable:fe P f
 calls:∀ty t s o cs args d cs',p ty t s o cs args=some (d,cs')->Mu P f ty t s o cs args d cs'
def NOk.of{P:Program}{T:Nat->Option Ty}{Γ:Env}(k:jL P T)(l:bU P Γ)(m:P.follows .mixedOrders=true){α β γ:Type}{i t s:Nat}{e:iK γ}{A:ki α}{F:γ->α->Option (γ×β)}{R:β->D}{f:FuncId}{b:Func}(j:P.funcs[f]? = some b)(g:(match b.body with|some c=>codeOk c|none=>true)=true)
  (n:(b.name == "runtime.NumGoroutine")=false∧b.body.isNone=false) (p:∀a,(A.ds a).length+1<=b.ntmps) (h:∀pre post x a x' r,F x a=some (x',r)->wW T Γ FU b i t s pre.length (pre++(e.cells x++post)) (A.ds a)=some (R r,pre++(e.cells x'++post))):NOk P f (Jj i t s e A F R) where
 callable:=⟨b,j,n⟩
 calls ty' v s' o cs args d cs' q:=by
  obtain⟨rfl,rfl,rfl,pre,post,x,a,r,rfl,rfl,rfl,u,rfl,rfl⟩:=YN q;exact Oh k l m j g (p a) (h pre post x a r.1 r.2 u)
def RM{α:Type}{x:Bool×α}{q:α}(h:RL x=some q):x=(false,q):=by
 obtain⟨b,y⟩:=x;cases b
 ·cases h;rfl
 ·cases h
def Su{α:Type}{x:Bool×α}{q:α}(h:Ss x=some q):x=(true,q):=by
 obtain⟨b,y⟩:=x;cases b
 ·cases h
 ·cases h;rfl
def ahB{α:Type}(E EN:iK α)(a:EN.size=E.size)(d:∀x y,E.cells x≠EN.cells y):iK (Bool×α):=⟨fun p=>match p.1 with|true=>E.cells p.2|false=>EN.cells p.2,E.size,fun p=>by
  obtain⟨b,x⟩:=p;cases b
  ·exact (EN.len x).trans a
  ·exact E.len x,E.pos,fun p q h=>by
  obtain⟨b,x⟩:=p;obtain⟨c,y⟩:=q;cases b<;>cases c
  ·exact congrArg (Prod.mk false) (EN.inj x y h)
  ·grind
  ·simp_all
  ·exact congrArg (Prod.mk true) (E.inj x y h)⟩
def KS{α:Type}{a:iK α}{b:iK (Bool×α)}(c:∀x,b.cells (false,x)=a.cells x):∀l:List α,al a l=al b (KR l)
 | []=>rfl
 | x::l=>by
  have d:=KS c l;rw[b9,d,<- c x];rfl
def KT{α:Type}{l:List α}:(KR l).length=l.length:=akJ ..
def Gy{γ:Type}{E:iK γ}{C:List γ}{i:Int}{x:γ}(h:P.idx C i=some x)(y:γ):al E (C.set i.toNat y)=al E (C.take i.toNat)++(E.cells y++al E (C.drop (i.toNat+1)))∧(al E (C.take i.toNat)).length=i.toNat*E.size:=by
 have a:=oZ h;refine⟨?_,by rw[bF,aky];congr 1;omega⟩;rw[Uw E C i.toNat x (Nf h) y,<- jn,alZ];congr 2;have:i.toNat*E.size+E.size=(i.toNat+1)*E.size:=by rw[alP]
 rw[this,qe]
def aa9{γ:Type}{E:iK γ}{C:List γ}{i:Int}{x:γ}(h:P.idx C i=some x):al E C=al E (C.take i.toNat)++(E.cells x++al E (C.drop (i.toNat+1))):=by
 have a:=(Gy (E:=E) h x).1;have b:C.set i.toNat x=C:=by
  obtain⟨c,d⟩:=akI.1 (Nf h);rw[<- d,List.set_getElem_self]
 rwa [b]at a
def WB{α β γ:Type}{c t s:Nat}{d:iK γ}{b:iK (Bool×γ)}(e:∀x,b.cells (false,x)=d.cells x){A:ki α}{F:γ->α->Option (γ×β)}{R:β->D}{C:List (Bool×γ)}{i:Int}{q:γ}(h:P.idx C i=some (false,q))(a:α) :
  Jj c t s d A F R c t s (i.toNat*b.size) (al b C) (A.ds a)=(F q a).map fun r=>(R r.2,al b (C.set i.toNat (false,r.1))):=by
 have f:=aa9 (E:=b) h;have g:=(Gy (E:=b) h (false,q)).2;rw[f,<- g,e,Np];congr 1;funext r;rw[(Gy (E:=b) h (false,r.1)).1,e]
def adi{K:Nat}(pre a post:List D)(b:a.length=K):pG K pre.length (pre++(a++post))=pre++(a.map UX++post):=by
 apply ame;intro j;rw[wX];grind
def ahE{γ:Type}{s:Nat}{E b:iK γ}{a:iK (Bool×γ)}(c:∀x,a.cells (false,x)=b.cells x)(d:∀x,a.cells (true,x)=E.cells x)(e:∀x,(b.cells x).map UX=E.cells x)(k:∀x,(b.cells x).all (AZ s)=true){C:List (Bool×γ)}{i:Int}{x:Bool×γ}(h:P.idx C i=some x)(q:γ) :
  (((al a (C.set i.toNat (false,q))).drop (i.toNat*a.size)).take a.size).all (AZ s)=true∧pG a.size (i.toNat*a.size) (al a (C.set i.toNat (false,q)))=al a (C.set i.toNat (true,q)):=by
 obtain⟨f,g⟩:=Gy (E:=a) h (false,q);have j:=a.len (false,q);have l:=oZ h;refine⟨?_,?_⟩
 ·grind
 ·rw[(Gy (E:=a) h (true,q)).1,f,<- g,adi _ _ _ j,c,e,d]
section
variable {pre l:List D} {k m:Nat}
def ac7:(pre++l).take (pre.length+k)=pre++l.take k:=List.take_length_add_append ..
def Xx:(pre++l).take pre.length=pre:=List.take_left' rfl
def TC:(pre++l).drop (pre.length+k)=l.drop k:=List.drop_length_add_append ..
def VT:(pre++l).drop pre.length=l:=List.drop_left' rfl
def VU:(pre++l).drop (pre.length+k+m)=l.drop (k+m):=by rw[akA,TC]
def abO:(pre.length+k<=(pre++l).length)=(k<=l.length):=by simp_all
def Wu:(pre.length+k+m<=(pre++l).length)=(k+m<=l.length):=by grind
end
def Rk{a t s b:Nat}{c:List D}:jA a t s b c=⟨0,a,[.nr t s b c],false,true,true⟩:=amP
def vnp:=ai @Rk<|ai @ac7<|ai @Xx<|ai @TC<|ai @VT<|ai @VU<|ai @abO<|ai @Wu<|@alZ
def QG{τ:Ty}{h:Nat->Option Row}{x v o:Nat}:uN τ h x v o none=none:=amP
def Wg{d:D}{l:List D}:(d::l).head? = some d:=amP
def WW{r:Row}{f:Row->Option Row}:(some r).bind f=f r:=amP
def Pc{x o:Nat}:clP x o none=none:=amP
def OK{q:Option (List D×List Nat)}:caC none q=none:=amP
def JX{Γ:Env}{h:Nat->Option Row}{e g:Nat}{dst:Option Nat}:adM Γ h e dst g none=none:=amP
def adj{o:Nat}{a:List D}:pG 0 o a=a:=Mq o a
def ae4{x o n:Nat}(h:n<1000000):(NK x o=n)=False:=by
 have:=iz x o;have:=eD;grind
def Eu{g:Nat}:bq.lends g=false:=amP
def Ls{g:Nat}{l:Option (D×Row)}{a:List D}:bq.sem g l a=none:=amP
def vnl:=ai @Eu<|@Ls
def vn:=ai @L0<|ai @KT<|ai @ae4<|ai @aea.eq_1<|ai @Pc<|ai @OK<|ai @JX<|ai @adj<|ai @WW<|ai @QG<|ai @Wg<|ai @zi<|ai @Kh<|ai @Pn<|@BG
end Go.Proofs.YtobnihfgnbnncaaGreat.Am
namespace Go.Proofs.YtobnihfgnbnncaaGreat.Am
open Go.RowKit Go.Proofs.YtobnihfgnbnncaaGreat.P Go.Shelf Go.Lib
section
variable {P:Program}
def wQ(w:World)(n q r c:TypeId)(K b o d g:Nat)(a:Addr)(e h:Nat)(f:List Value)
  (s:P.underlying n=some (.slice c)) (p:(P.info? c).map (·.size)=some K) (t:f.length=Nat.min e d*K)
  (k:∀j v,f[j]? = some v->w.cell? (a.add j)=some v) (u:∀j,j<f.length->(w.cell? ⟨b,o+j,none⟩).isSome=true) (x:∀j,j<f.length->w.frozen? ⟨b,o+j,none⟩=false) (y:∀v∈f,v.oneCell'=true) :
  (Builtin.copy_ #[n,q] r #[.slice (some ⟨b,o,none⟩) d g,.slice (some a) e h]).run P w=.ok (goInt (Nat.min e d)) (w.setCells b o f):=by
 have z:=run_loadCells_list (P:=P) w a f k;have l:=run_storeCells_cells (P:=P) b o f 0 w (by simpa using u) (by simpa using x) y;cases m:P.info? c with
 | none=>simp[m]at p
 | some i =>
  have A:i.size=K:=by simpa [m] using p
  simp[Builtin.copy_,run_underlying s,Builtin.lenOf,Builtin.firstCells,sizeOf,typeInfo,m,A,<- t,z,l]
def DG(w:World){c:Array Oper}{b:List Oper}{o:Oper}{a:Act}{Q:Exit->Act->World->Prop}(d:o.guard=none)(s:Operand)(t:TypeId)
  (g:o.op=.call { callee:=.builtin .clear,args:=#[s],argTypes:=#[t] }) (v:Value) (i:a.eval s=v) {e:Value} {f:World}
  (j:(Builtin.clear_ #[t] o.type #[v]).run P w=.ok e f) (h:wpList P c Q b (a.put o.dst e) f):wpList P c Q (o::b) a w :=
 wpList_plain d fun _ k=>by
  unfold Oper.wp execOp;simp only[g,resolve,invoke,builtin,akL,Sem.run_pure,Result.andThen_ok,List.map_toArray,akn,akZ,i,j];exact k _ _ h
def Sd(w:World)(t e g:TypeId)(z:Value)(h:P.underlying t=some (.slice e))(i:∀w,(zeroValue e).run P w=.ok z w)(b o n c:Nat)(q:0<n)(a:List Value)(f:(Builtin.zeroCells z.cells n).toList=a)(k:∀v∈a,v.oneCell'=true)
  (l:∀j,j<a.length->(w.cell? ⟨b,o+j,none⟩).isSome=true) (p:∀j,j<a.length->w.frozen? ⟨b,o+j,none⟩=false) :
  (Builtin.clear_ #[t] g #[.slice (some ⟨b,o,none⟩) n c]).run P w=.ok (.tuple #[]) (w.setCells b o a):=by
 have d:=run_storeCells_cells (P:=P) b o a 0 w (by simpa using l) (by simpa using p) k;simp only[Nat.add_zero]at d;obtain⟨m,rfl⟩:∃m,n=m+1:=⟨n-1,by omega⟩;simp[Builtin.clear_,run_underlying h,i,f,d]
end
def Nh:(Tryz.prog.info? 130).map (fun i=>(i.zero,i.size,i.bytes))=some (some (Value.agg #[.int .i64 0,.int .i64 0,.slice none 0 0,.int .i64 0,.slice none 0 0]),5,72):=by kernel_rfl
def acD:(Tryz.prog.info? 130).map (·.size)=some 5:=by kernel_rfl
set_option maxHeartbeats 4000000 in
set_option maxRecDepth 100000 in
def Po(a:Option Addr)(n c i:Nat)(w:World)(hi:i<=n)(hn:n<=c)(hc:c<=9223372036854775807)(ha:a=none->c=0) :
  Calls prog 138 #[.slice a n c,.int .i64 i,.int .i64 i] w fun e w'=>e=.returned (.slice a n c)∧w'=w:=by
 go_enter func138,ntmps138
 cases a with
 | none =>
  have:=ha rfl;subst this;obtain rfl:n=0:=by omega
  obtain rfl:i=0:=by omega
  go_wp2
  all_goals (go_ret;simp_all)
 | some a =>
  obtain⟨ab,ao,asp⟩:=a
  go_wp2
  all_goals (go_ret;simp_all)
def oE:Value:=.agg #[.int .i64 0,.int .i64 0,.slice none 0 0,.int .i64 0,.slice none 0 0]
def EO:oE.cells = #[.int .i64 0,.int .i64 0,.slice none 0 0,.int .i64 0,.slice none 0 0]:=rfl
def qy(n:Nat):(Builtin.zeroCells oE.cells n).toList.length=n*5:=by
 simp[Builtin.zeroCells,EO]
def ZL(n:Nat):∀v∈(Builtin.zeroCells oE.cells n).toList,v.oneCell'=true:=by
 intro v a;simp only[Builtin.zeroCells,EO,ak2,akh]at a;obtain⟨i,_,rfl⟩:=a;have b:i % 5<5:=ak3 _ (by decide);simp only[alr,List.length_cons,List.length_nil,alf,Nat.reduceAdd];generalize i % 5=k at *
 match k,b with
 | 0,_=>rfl
 | 1,_=>rfl
 | 2,_=>rfl
 | 3,_=>rfl
 | 4,_=>rfl
set_option maxHeartbeats 4000000 in
set_option maxRecDepth 100000 in
def aaK(b off n c i j:Nat)(cs:List Value)(w:World)(hl:cs.length=n*5)(hcs:∀k v,cs[k]? = some v->w.cell? ⟨b,off+k,none⟩=some v)(hfz:∀k,w.frozen? ⟨b,k,none⟩=false)(h1:∀v∈cs,v.oneCell'=true)
  (hnc:n<=c) (hc:c<=9223372036854775807) (hij:i<j) (hj:j<=n) :
  Calls prog 138 #[.slice (some ⟨b,off,none⟩) n c,.int .i64 i,.int .i64 j] w fun e w'=>e=.returned (.slice (some ⟨b,off,none⟩) (i+(n-j)) c) ∧
   w'=(w.drew.setCells b (off+i*5) (cs.drop (j*5))).setCells b (off+(i+(n-j))*5) (Builtin.zeroCells oE.cells (n-(i+(n-j)))).toList:=by
 have t0:=underlying126;obtain⟨i0,hi0,hz0,hz1,hz2⟩:=info_parts Nh;have v0:∀w,(zeroValue 130).run prog w=.ok oE w:=fun w=>by simp[zeroValue,typeInfo,hi0,hz0,oE]
 obtain⟨A,hA,hsrc⟩:∃A:Addr,(if c=j then some (⟨b,off,none⟩:Addr) else some ⟨b,off+j*5,none⟩)=some A∧Hid (∀t u,(cs.drop (j*5))[t]? = some u->w.drew.cell? (A.add t)=some u):=by
  by_cases h:c=j
  ·refine⟨⟨b,off,none⟩,by simp[h],fun t u hu =>?_⟩;grind
  ·refine⟨⟨b,off+j*5,none⟩,by simp[h],fun t u hu =>?_⟩;rw[akE]at hu;rw[amO,akA];exact hcs _ _ hu
 have hdl:(cs.drop (j*5)).length=(n-j)*5:=by grind
 have hsp:∀k,k<n*5->(w.cell? ⟨b,off+k,none⟩).isSome=true:=fun k hk=>by
  simp_all
 have s1:Hid ((cs.drop (j*5)).length=(n-j)*5):=hdl;have s2:Hid (∀u∈cs.drop (j*5),u.oneCell'=true):=fun u hu=>h1 u (akS hu);have s3:Hid (∀t,t<(cs.drop (j*5)).length->(w.drew.cell? ⟨b,off+i*5+t,none⟩).isSome=true∧w.drew.frozen? ⟨b,off+i*5+t,none⟩=false):=by
  intro t ht;rw[hdl]at ht;rw[akA];exact⟨hsp _ (by omega),hfz _⟩
 obtain⟨W1,hW1⟩:∃W1,W1=w.drew.setCells b (off+i*5) (cs.drop (j*5)):=⟨_,rfl⟩;have hcl:∀ty,(Builtin.clear_ #[126] ty #[.slice (some ⟨b,off+(i+(n-j))*5,none⟩) (n-(i+(n-j))) (c-(i+(n-j)))]).run prog W1=.ok (.tuple #[]) (W1.setCells b (off+(i+(n-j))*5) (Builtin.zeroCells oE.cells (n-(i+(n-j)))).toList) :=
  fun ty=>Sd W1 _ _ ty oE t0 v0 b _ _ _ (by omega) _ rfl (ZL _) (fun k hk=>by
   rw[qy]at hk;rw[hW1,akA];exact isSome_setCells b _ _ _ (fun t ht=>(s3.out t ht).1) _ (hsp _ (by omega))) (fun k hk=>by rw[hW1,World.frozen?_setCells];exact hfz _)
 have hW:Hid (W1=w.drew.setCells b (off+i*5) (cs.drop (j*5))):=hW1;rw[<- hW1];have hic:i<=c:=by omega
 have hjc:j<=c:=by omega
 have hne:¬(i=j):=by omega
 have mixed:Tryz.prog.follows .mixedOrders=true:=by kernel_rfl
 generalize (Builtin.zeroCells oE.cells (n-(i+(n-j)))).toList=Z at hcl ⊢;clear hW1 hcs hdl hsp
 go_enter func138,ntmps138
 go_wp2_with fail
 go_region_law_o (refine step_append_room rfl (.tmp 22) (.tmp 25) 126 rfl 130 i0 5 t0 hi0 hz1 b off i c (by simp[Act.eval,Act.put]) A (n-j) (c-j) (cs.drop (j*5)) (by simp[Act.eval,Act.put]) s1.out hsrc.out s2.out (by omega) s3.out ?_;rw[<- hW.out])
 go_wp2_with (at_builtin;refine DG _ rfl _ 126 rfl _ rfl (hcl _) ?_)
 go_ret
 simp_all
set_option maxHeartbeats 4000000 in
set_option maxRecDepth 100000 in
def Yw(b off n c i vb voff m vc:Nat)(cs vs:List Value)(w:World)(hi:i<n)(hm:0<m)(hroom:n+m<=c)(hc63:c<=9223372036854775807)(hvb:vb≠b)
  (hcl:cs.length=n*5) (hvl:vs.length=m*5)
  (hcs:∀j v,cs[j]? = some v->w.cell? ⟨b,off+j,none⟩=some v) (hsp:∀j,j<(n+m)*5->(w.cell? ⟨b,off+j,none⟩).isSome=true) (hfz:∀j,w.frozen? ⟨b,j,none⟩=false)
  (hvs:∀j v,vs[j]? = some v->w.cell? ⟨vb,voff+j,none⟩=some v) (h1c:∀v∈cs,v.oneCell'=true) (h1v:∀v∈vs,v.oneCell'=true)
  (tA tB:TypeId) (kA kB:Nat) (hsa:w.shape? vb=some (tA,kA)) (hsb:w.shape? b=some (tB,kB)) (hkB:kB≠0) (hfa:w.frozen? ⟨vb,voff,none⟩=false) (hfe:w.frozen? ⟨vb,kA,none⟩=false) :
  Calls prog 179 #[.slice (some ⟨b,off,none⟩) n c,.int .i64 i,.slice (some ⟨vb,voff,none⟩) m vc] w fun e w' =>
   e=.returned (.slice (some ⟨b,off,none⟩) (n+m) c)∧w'=(w.drew.setCells b (off+(i+m)*5) (cs.drop (i*5))).setCells b (off+i*5) vs:=by
 have t0:=underlying126;have hz1:¬((m:Int)=0):=by omega
 have hz2:¬((i:Int)=(n:Int)):=by omega
 have hsz:=acD;have hov:∀lb cb,(callFunc 196 #[.slice (some ⟨vb,voff,none⟩) m vc,.slice (some ⟨b,off+(i+m)*5,none⟩) lb cb]).run prog w=.ok (.value (.bool false)) w:=fun lb cb=>by
  rw[run_callFunc_extern func196 (by kernel_rfl) (by kernel_rfl) (by kernel_rfl) (e:=Extern.SlicesOverlaps.overlaps #[126,126] #[4]) (by kernel_rfl),
   Lib.run_overlaps_apart w 126 4 130 t0 5 sizeOf130 ⟨vb,voff,none⟩ ⟨b,off+(i+m)*5,none⟩ m vc lb cb hvb tA tB kA kB hsa hsb hkB hfa hfe]
  rfl
 have hdl:(cs.drop (i*5)).length=(n-i)*5:=by grind
 have mixed:Tryz.prog.follows .mixedOrders=true:=by kernel_rfl
 have hw1:IntKind.i64.wrap ((i:Int)+(m:Int))=(i:Int)+(m:Int):=by rw[IntKind.wrap_i64];omega
 have hb1:(0:Int)<=(i:Int)+(m:Int):=by omega
 have hin:i<=n:=by omega
 have htn:((i:Int)+(m:Int)).toNat=i+m:=by omega
 have hb2:¬(c=i+m):=by omega
 have hb3:(i:Int)<=(n:Int)+(m:Int):=by omega
 have hb4:¬(c=i):=by omega
 have hcp1:∀ty dc sc,(Builtin.copy_ #[126,126] ty #[.slice (some ⟨b,off+(i+m)*5,none⟩) (n+m-(i+m)) dc,.slice (some ⟨b,off+i*5,none⟩) (n+m-i) sc]).run prog w.drew=.ok (goInt (Nat.min (n+m-i) (n+m-(i+m)))) (w.drew.setCells b (off+(i+m)*5) (cs.drop (i*5))):=fun ty dc sc =>
  wQ w.drew _ _ ty 130 5 b (off+(i+m)*5) (n+m-(i+m)) dc ⟨b,off+i*5,none⟩ (n+m-i) sc (cs.drop (i*5)) t0 hsz (by grind)
   (fun j v hj=>by rw[amO,akA];simp_all)
   (fun j hj=>by rw[akA];exact hsp _ (by omega)) (fun j hj=>hfz _) (fun v hv=>h1c v (akS hv))
 obtain⟨W1,hW1⟩:∃W1,W1=w.drew.setCells b (off+(i+m)*5) (cs.drop (i*5)):=⟨_,rfl⟩;have hsp1:∀k,k<(n+m)*5->(W1.cell? ⟨b,off+k,none⟩).isSome=true:=fun k hk=>by
  rw[hW1];exact isSome_setCells b _ _ _ (fun j hj=>by rw[akA];exact hsp _ (by omega)) _ (hsp k hk)
 have hcp2:∀(W:World),(∀x,W.cell? x=W1.cell? x)->(∀x,W.frozen? x=W1.frozen? x)->∀ty dc,(Builtin.copy_ #[126,126] ty #[.slice (some ⟨b,off+i*5,none⟩) (n+m-i) dc,.slice (some ⟨vb,voff,none⟩) m vc]).run prog W=.ok (goInt (Nat.min m (n+m-i))) (W.setCells b (off+i*5) vs):=fun W hWc hWf ty dc =>
  wQ W _ _ ty 130 5 b (off+i*5) (n+m-i) dc ⟨vb,voff,none⟩ m vc vs t0 hsz (by grind)
   (fun j v hj=>by
    rw[amO,hWc,hW1,World.cell?_setCells_out b _ _ _ _ (fun h _=>absurd h hvb)];exact hvs j v hj)
   (fun j hj=>by rw[hWc,akA];exact hsp1 _ (by omega)) (fun j hj=>by rw[hWf,hW1,World.frozen?_setCells];exact hfz _) h1v
 rw[<- hW1]at hcp1
 go_enter func179,ntmps179
 go_wp2_with (simp only[hov])
 go_region_law_o (refine step_copy_runI rfl _ _ 126 126 rfl _ _ (by simp[Act.eval,Act.put]) (by simp[Act.eval,Act.put]) (hcp1 _ _ _) ?_)
 go_wp2_with (at_builtin;refine wpList_copy_runI _ rfl _ _ 126 126 rfl _ _ rfl rfl (hcp2 _ (fun _=>rfl) (fun _=>rfl) _ _) ?_)
 go_ret
 simp_all
set_option maxHeartbeats 4000000 in
set_option maxRecDepth 100000 in
def Nj(b off n c vb voff m vc:Nat)(vs:List Value)(w:World)(hm:0<m)(hroom:n+m<=c)(hc63:c<=9223372036854775807)
  (hvl:vs.length=m*5) (hsp:∀j,j<m*5->(w.cell? ⟨b,off+n*5+j,none⟩).isSome=true) (hfz:∀j,w.frozen? ⟨b,j,none⟩=false)
  (hvs:∀j v,vs[j]? = some v->w.cell? ⟨vb,voff+j,none⟩=some v) (h1v:∀v∈vs,v.oneCell'=true) :
  Calls prog 179 #[.slice (some ⟨b,off,none⟩) n c,.int .i64 n,.slice (some ⟨vb,voff,none⟩) m vc] w fun e w' =>
   e=.returned (.slice (some ⟨b,off,none⟩) (n+m) c)∧w'=w.setCells b (off+n*5) vs:=by
 have t0:=underlying126;have mixed:Tryz.prog.follows .mixedOrders=true:=by kernel_rfl
 obtain⟨i0,hi0,hz0,hzs,hzb⟩:=info_parts Nh;have hz1:¬((m:Int)=0):=by omega
 have hsrc:Src prog i0.size 126 (.slice (some ⟨vb,voff,none⟩) m vc) m vs w:=Src.ofSlice w t0 ⟨vb,voff,none⟩ m vc vs (by rw[hzs];omega) (fun j u hj=>by rw[amO];exact hvs j u hj) h1v;have e5:off+n*i0.size=off+n*5:=by rw[hzs]
 have hsp':Hid (∀j,j<vs.length->(w.cell? ⟨b,off+n*i0.size+j,none⟩).isSome=true):=fun j hj=>by simp_all
 rw[<- e5];have hin:n<=c:=by omega
 go_enter func179,ntmps179
 go_wp2_with (at_builtin;refine wpList_append_room_src _ rfl _ _ 126 126 rfl 130 i0 t0 hi0 b off n c rfl _ rfl m vs hsrc hroom hsp'.out (fun _ _=>hfz _) ?_)
 go_ret
 simp_all
set_option maxHeartbeats 4000000 in
set_option maxRecDepth 100000 in
def BY(base:Option Addr)(n c vb voff m vc:Nat)(cs vs:List Value)(w:World)(hm:0<m)(hnc:n<=c)(hc63:c<=9223372036854775807)(hroom:c<n+m)(hbig:(n+m)*72<=140737488355328)
  (hcl:cs.length=n*5) (hvl:vs.length=m*5) (hnil:base=none->n=0)
  (hcs:∀a,base=some a->∀j v,cs[j]? = some v->w.cell? (a.add j)=some v)
  (hvs:∀j v,vs[j]? = some v->w.cell? ⟨vb,voff+j,none⟩=some v) (h1v:∀v∈vs,v.oneCell'=true) :
  Calls prog 179 #[.slice base n c,.int .i64 n,.slice (some ⟨vb,voff,none⟩) m vc] w fun e w' =>
   e=.returned (.slice (some ⟨w.heap.size,0,none⟩) (n+m) (grownCap w (n+m) c 130)) ∧
   w'=w.drew.alloc (.cells ((cs++vs).toArray++Builtin.zeroCells oE.cells (grownCap w (n+m) c 130-(n+m))) 130):=by
 have t0:=underlying126;have mixed:Tryz.prog.follows .mixedOrders=true:=by kernel_rfl
 obtain⟨i0,hi0,hz0,hzs,hzb⟩:=info_parts Nh;have hz1:¬((m:Int)=0):=by omega
 have hsrc:Src prog i0.size 126 (.slice (some ⟨vb,voff,none⟩) m vc) m vs w:=by
  rw[hzs];exact Src.ofSlice w t0 ⟨vb,voff,none⟩ m vc vs (by omega) (fun j u hj=>by rw[amO];exact hvs j u hj) h1v
 have hold:(Builtin.firstCells i0.size n (.slice base n c)).run prog w.drew=.ok cs.toArray w.drew:=by
  rw[hzs];cases base with
  | none =>
   have h0:=hnil rfl;subst h0;obtain rfl:cs=[]:=List.length_eq_zero_iff.1 (by omega);exact run_firstCells_none w.drew 5 0 0 c
  | some a=>exact run_firstCells_some w.drew 5 n a n c cs (by omega) (fun j v hj=>hcs a rfl j v hj)
 have hrun:∀ty,(Builtin.append_ #[126,126] ty #[.slice base n c,.slice (some ⟨vb,voff,none⟩) m vc]).run prog w=_:=fun ty =>
  run_append_grow_src w 126 126 ty 130 i0 _ t0 hi0 hz0 base n c cs hold _ m vs hsrc hroom (by omega) (by rw[hzb];exact growslice_fits hroom hbig)
 generalize hR:w.drew.alloc (.cells ((cs++vs).toArray++Builtin.zeroCells oE.cells (grownCap w (n+m) c 130-(n+m))) 130)=R;have hrun':∀ty,(Builtin.append_ #[126,126] ty #[.slice base n c,.slice (some ⟨vb,voff,none⟩) m vc]).run prog w=.ok (.slice (some ⟨w.heap.size,0,none⟩) (n+m) (grownCap w (n+m) c 130)) R:=fun ty=>by rw[hrun ty,<- hR];rfl
 clear hrun hold hR
 go_enter func179,ntmps179
 cases base with
 | none =>
  have h0:=hnil rfl;subst h0
  go_wp2_with (at_builtin;refine Lib.wpList_append_run _ rfl _ _ _ _ rfl _ _ rfl rfl _ _ (hrun' _) ?_)
  go_ret
  simp_all
 | some a =>
  obtain⟨ab,ao,asp⟩:=a
  go_wp2_with (at_builtin;refine Lib.wpList_append_run _ rfl _ _ _ _ rfl _ _ rfl rfl _ _ (hrun' _) ?_)
  all_goals (go_ret;simp_all)
set_option maxHeartbeats 4000000 in
set_option maxRecDepth 100000 in
def abF(b off n c i vb voff m vc:Nat)(cs vs:List Value)(w:World)(hi:i<n)(hm:0<m)(hnc:n<=c)(hroom:c<n+m)(hbig:(n+m)*72<=140737488355328)
  (hcl:cs.length=n*5) (hvl:vs.length=m*5)
  (hcs:∀j v,cs[j]? = some v->w.cell? ⟨b,off+j,none⟩=some v)
  (hvs:∀j v,vs[j]? = some v->w.cell? ⟨vb,voff+j,none⟩=some v) (h1c:∀v∈cs,v.oneCell'=true) (h1v:∀v∈vs,v.oneCell'=true) :
  Calls prog 179 #[.slice (some ⟨b,off,none⟩) n c,.int .i64 i,.slice (some ⟨vb,voff,none⟩) m vc] w fun e w' =>
   e=.returned (.slice (some ⟨w.heap.size,0,none⟩) (n+m) (grownCap w (n+m) c 130)) ∧
   w'=(((w.alloc (.cells ((cs.take (i*5)).toArray++Builtin.zeroCells oE.cells (n+m-i)++Builtin.zeroCells oE.cells (grownCap w (n+m) c 130-(n+m))) 130)).drew.setCells w.heap.size (i*5) vs).drew).setCells w.heap.size ((i+m)*5) (cs.drop (i*5)):=by
 have t0:=underlying126;have mixed:Tryz.prog.follows .mixedOrders=true:=by kernel_rfl
 obtain⟨i0,hi0,hz0,hzs,hzb⟩:=info_parts Nh;have hz1:¬((m:Int)=0):=by omega
 have hz2:¬((i:Int)=(n:Int)):=by omega
 have hz3:(c:Int)<(n:Int)+(m:Int):=by omega
 have hsz:=acD;have hbw:b<w.heap.size:=block_lt_of_cell (hcs 0 _ (aku (by omega)));have hvw:vb<w.heap.size:=block_lt_of_cell (hvs 0 _ (aku (by omega)));have hkk:(n:Int)+(m:Int)-(i:Int)=((n+m-i:Nat):Int):=by omega
 have hik:i+(n+m-i)=n+m:=by omega
 have hold:(Builtin.firstCells i0.size i (.slice (some ⟨b,off,none⟩) i c)).run prog w.drew=.ok (cs.take (i*5)).toArray w.drew:=by
  rw[hzs];exact run_firstCells_some w.drew 5 i ⟨b,off,none⟩ i c (cs.take (i*5)) (by grind) (fun j v hj=>by
   rw[amO];rw[akH]at hj;simp_all)
 obtain⟨G,hG⟩:∃G,G=grownCap w (n+m) c 130:=⟨_,rfl⟩;obtain⟨ROW,hROW⟩:∃ROW:Array Value,ROW=(cs.take (i*5)).toArray++Builtin.zeroCells oE.cells (n+m-i)++Builtin.zeroCells oE.cells (G-(n+m)):=⟨_,rfl⟩;have hrz:∀ty,(Builtin.append_ #[126,3] ty #[.slice (some ⟨b,off,none⟩) i c,.int .i64 ((n:Int)+(m:Int)-(i:Int))]).run prog w =
   .ok (.slice (some ⟨w.heap.size,0,none⟩) (n+m) G) (w.drew.alloc (.cells ROW 130)):=fun ty=>by
  have h:=Lib.run_append_grow_zeros w 126 3 ty 130 i0 oE .i64 .i64 t0 underlying3 hi0 hz0 (some ⟨b,off,none⟩) i c (cs.take (i*5)) hold (n+m-i) (by omega) (by omega) (by omega) (by omega) (by rw[hzb];omega) (by rw[hzb,hik];exact growslice_fits hroom hbig);simp_all
 rw[<- hG];rw[<- hROW];have hRl:(n+m)*5<=ROW.size:=by
  have h1:(Builtin.zeroCells oE.cells (n+m-i)).size=(n+m-i)*5:=by have:=qy (n+m-i);simpa using this
  grind
 obtain⟨W1,hW1⟩:∃W1,W1=w.drew.alloc (.cells ROW 130):=⟨_,rfl⟩;rw[<- hW1]at hrz;have hN:∀j,j<(n+m)*5->(W1.cell? ⟨w.heap.size,j,none⟩).isSome=true:=fun j hj=>by
  rw[hW1,World.cell?_alloc_at (w:=w.drew) ROW _ w.heap.size j rfl,alo (by omega)];rfl
 have hNf:∀j,W1.frozen? ⟨w.heap.size,j,none⟩=false:=fun j=>by rw[hW1];exact World.frozen?_alloc_at (w:=w.drew) ROW _ w.heap.size j rfl
 have hOb:∀j v,w.cell? ⟨b,j,none⟩=some v->W1.cell? ⟨b,j,none⟩=some v:=fun j v h=>by rw[hW1,World.cell?_alloc_past (w:=w.drew) _ b j hbw];exact h
 have hOv:∀j v,w.cell? ⟨vb,j,none⟩=some v->W1.cell? ⟨vb,j,none⟩=some v:=fun j v h=>by rw[hW1,World.cell?_alloc_past (w:=w.drew) _ vb j hvw];exact h
 have hcpA:∀(W:World),(∀x,W.cell? x=W1.cell? x)->(∀x,W.frozen? x=W1.frozen? x)->∀ty dc,(Builtin.copy_ #[126,126] ty #[.slice (some ⟨w.heap.size,i*5,none⟩) (n+m-i) dc,.slice (some ⟨vb,voff,none⟩) m vc]).run prog W=.ok (goInt (Nat.min m (n+m-i))) (W.setCells w.heap.size (i*5) vs):=fun W hWc hWf ty dc =>
  wQ W _ _ ty 130 5 w.heap.size (i*5) (n+m-i) dc ⟨vb,voff,none⟩ m vc vs t0 hsz (by grind)
   (fun j v hj=>by rw[amO,hWc];simp_all)
   (fun j hj=>by grind) (fun j hj=>by simp_all) h1v
 have hGn:n+m<=G:=by rw[hG];exact grownCap_ge w _ _ _
 have hG63:G<=9223372036854775807:=by
  have:=grownCap_le_maxLen w (n+m) c 130 (by unfold maxLen;omega);rw[<- hG]at this;unfold maxLen at this;omega
 have hGi:¬(G=i):=by omega
 have hGim:¬(G=i+m):=by omega
 have hci:¬(c=i):=by omega
 have hbN:b≠w.heap.size:=by omega
 have hdl:(cs.drop (i*5)).length=(n-i)*5:=by grind
 have hcpB:∀(W:World),(∀x,W.cell? x=(W1.setCells w.heap.size (i*5) vs).cell? x)->(∀x,W.frozen? x=(W1.setCells w.heap.size (i*5) vs).frozen? x)->∀ty dc sc,(Builtin.copy_ #[126,126] ty #[.slice (some ⟨w.heap.size,(i+m)*5,none⟩) (n+m-(i+m)) dc,.slice (some ⟨b,off+i*5,none⟩) (n-i) sc]).run prog W=.ok (goInt (Nat.min (n-i) (n+m-(i+m)))) (W.setCells w.heap.size ((i+m)*5) (cs.drop (i*5))):=fun W hWc hWf ty dc sc =>
  wQ W _ _ ty 130 5 w.heap.size ((i+m)*5) (n+m-(i+m)) dc ⟨b,off+i*5,none⟩ (n-i) sc (cs.drop (i*5)) t0 hsz (by grind)
   (fun j v hj=>by
    rw[amO,hWc,World.cell?_setCells_out _ _ _ _ _ (fun h _=>absurd h hbN),akA];simp_all)
   (fun j hj=>by rw[hWc];exact isSome_setCells _ _ _ _ (fun t ht=>hN _ (by omega)) _ (hN _ (by omega)))
   (fun j hj=>by rw[hWf,World.frozen?_setCells];exact hNf _) (fun v hv=>h1c v (akS hv))
 subst hW1;have hE1:∀x,((w.alloc (.cells ROW 130)).drew).cell? x=(w.drew.alloc (.cells ROW 130)).cell? x:=fun x=>rfl;have hE2:∀x,((w.alloc (.cells ROW 130)).drew).frozen? x=(w.drew.alloc (.cells ROW 130)).frozen? x:=fun x=>rfl;have hF1:∀x,(((w.alloc (.cells ROW 130)).drew.setCells w.heap.size (i*5) vs).drew).cell? x=((w.drew.alloc (.cells ROW 130)).setCells w.heap.size (i*5) vs).cell? x:=fun x=>rfl;have hF2:∀x,(((w.alloc (.cells ROW 130)).drew.setCells w.heap.size (i*5) vs).drew).frozen? x=((w.drew.alloc (.cells ROW 130)).setCells w.heap.size (i*5) vs).frozen? x:=fun x=>rfl;have hw1:IntKind.i64.wrap ((i:Int)+(m:Int))=(i:Int)+(m:Int):=by rw[IntKind.wrap_i64];omega
 have hb1:(0:Int)<=(i:Int)+(m:Int):=by omega
 have hin:i<=n:=by omega
 have htn:((i:Int)+(m:Int)).toNat=i+m:=by omega
 have hb3:(i:Int)<=(n:Int):=by omega
 clear hkk hik hold hROW hG hRl
 go_enter func179,ntmps179
 go_wp2_with (first
  | (at_builtin;refine Lib.wpList_append_run _ rfl _ _ _ _ rfl _ _ rfl rfl _ _ (hrz _) ?_)
  | (at_builtin;refine wpList_copy_runI _ rfl _ _ 126 126 rfl _ _ rfl rfl (hcpA _ hE1 hE2 _ _) ?_)
  | (at_builtin;refine wpList_copy_runI _ rfl _ _ 126 126 rfl _ _ rfl rfl (hcpB _ (fun _=>rfl) (fun _=>rfl) _ _ _) ?_))
 go_region_law_o (refine step_copy_runI rfl _ _ 126 126 rfl (.slice (some ⟨w.heap.size,(i+m)*5,none⟩) (n+m-(i+m)) (G-(i+m))) (.slice (some ⟨b,off+i*5,none⟩) (n-i) (c-i)) (by simp[Act.eval,Act.put]) (by simp[Act.eval,Act.put]) (hcpB _ hF1 hF2 3 (G-(i+m)) (c-i)) ?_)
 go_wp2
 go_ret
 simp_all
end Go.Proofs.YtobnihfgnbnncaaGreat.Am
namespace Go.Proofs.YtobnihfgnbnncaaGreat.Am
open Go.RowKit Go.Proofs.YtobnihfgnbnncaaGreat.P
def ad8:ZT prog 179 (130,5,72) where
 callable:=⟨_,func179,by kernel_rfl,by kernel_rfl⟩
 pos:=by decide
 calls w go S u u' i n m cs cs' h1 h2 T U o ho p hi hm z:=by
  simp only at *;obtain⟨l,F,H,rfl,rfl,N,b2,b3,b4,b5⟩:∃g c arr,S=some g∧u'=.slice (some ⟨g.1,g.2,none⟩) m c∧w.heap[g.1]? = some (.cells arr 130 (0,0))∧c*5+g.2=arr.size∧m<=c∧c<=maxLen∧∀(j:Nat) x,cs'[j]? = some x->arr[g.2+j]? = some x:=by
   rcases h2 with⟨g,c,arr,k⟩|⟨_,rfl,_⟩
   ·simp_all
   ·omega
  have q:∀(j:Nat) v,cs'[j]? = some v->w.cell? ⟨l.1,l.2+j,none⟩=some v:=fun j v d=>by simp[World.cell?,N,b5 j v d]
  rcases h1 with⟨g,c,arr,rfl,rfl,C,a2,a3,O,a5⟩|⟨rfl,rfl,rfl,A,rfl⟩
  ·have D:∀(j:Nat) v,cs[j]? = some v->w.cell? ⟨g.1,g.2+j,none⟩=some v:=fun j v d=>by simp[World.cell?,C,a5 j v d]
   have I:∀j,w.frozen? ⟨g.1,j,none⟩=false:=fun j=>by simp[World.frozen?,C]
   have V:g.1≠l.1:=T g l rfl rfl;have ah:g.1<w.heap.size:=(alg.1 C).1;have hsp:∀j,j<(n+m)*5->n+m<=c->(w.cell? ⟨g.1,g.2+j,none⟩).isSome=true:=fun j d hr=>by
    simp only[World.cell?,C];grind
   by_cases W:i=n
   ·subst W;have ht:cs.take (i*5)=cs:=alV (by omega);have hd:cs.drop (i*5)=[]:=alM (by omega);rw[ht,hd,alX]
    by_cases b:i+m<=c
    ·refine (Nj g.1 g.2 i c l.1 l.2 m F cs' w hm b (by unfold maxLen at O;omega) o (fun j d=>by grind) I q p).mono fun e P ⟨t,y⟩ =>?_;subst y;obtain⟨J,K,L,e4,e5,f,M,e7,Q⟩:=iD g.1 cs' (g.2+i*5) w arr C (by omega);refine⟨_,t,⟨J,K,L,by omega,fun k X hn=>e5 k (fun h=>hn ⟨g,rfl,h⟩)⟩,g,c,f,rfl,.inr ⟨g,rfl,rfl⟩,M,b,O,by omega,fun j x d =>?_⟩;grind
    ·refine (BY (some ⟨g.1,g.2,none⟩) i c l.1 l.2 m F cs cs' w hm a3 (by omega) (by omega) z U o (fun h=>by cases h) (fun a ha j v d=>by cases ha;rw[amO];exact D j v d) q p).mono fun e P ⟨t,y⟩ =>?_;subst y;have r:=grownCap_ge w (i+m) c 130;have Y:=qy (grownCap w (i+m) c 130-(i+m));refine⟨_,t,eM.vw ((Below.refl _ w).drew.alloc (by simp) _),(w.heap.size,0),_,_,rfl,.inl (aki _),heap_alloc_new w.drew _,r,grownCap_le_maxLen _ _ _ _ (by unfold maxLen;omega),?_,fun j x d =>?_⟩
     ·grind
     grind
   ·have B:i<n:=by omega
    by_cases b:n+m<=c
    ·refine (Yw g.1 g.2 n c i l.1 l.2 m F cs cs' w B hm b (by unfold maxLen at O;omega) (Ne.symm V) U o D (fun j d=>hsp j d b) I q ho p 130 130 H.size arr.size (by simp[World.shape?,N]) (by simp[World.shape?,C]) (by omega) (by simp[World.frozen?,N]) (by simp[World.frozen?,N])).mono fun e P ⟨t,y⟩ =>?_;subst y;obtain⟨J,K,L,e4,e5,f,M,e7,Q⟩:=iD g.1 (cs.drop (i*5)) (g.2+(i+m)*5) w.drew arr C (by simp;omega);obtain⟨f1,f2,f3,f4,f5,s,f6,f7,f8⟩:=iD g.1 cs' (g.2+i*5) _ f M (by omega);refine⟨_,t,⟨f1.trans J,f2.trans K,f3.trans L,by simp_all,fun k X hn=>(f5 k (fun h=>hn ⟨g,rfl,h⟩)).trans (e5 k (fun h=>hn ⟨g,rfl,h⟩))⟩,g,c,s,rfl,.inr ⟨g,rfl,rfl⟩,f6,b,O,by omega,fun j x d =>?_⟩;have E:=(akI.1 d).1;simp only[alh,aky,akz]at E;rw[f8,Q]
     by_cases Z:j<i*5
     ·grind
     ·rw[ak7 (by simp_all),aky,amc (by omega)]at d
      by_cases aa:j<(i+m)*5
      ·rw[ak5 (by omega)]at d;grind
      ·rw[ak7 (by omega)]at d;rw[if_neg (by omega),if_pos (by simp;omega),<- d];congr 1;omega
    ·refine (abF g.1 g.2 n c i l.1 l.2 m F cs cs' w B hm a3 (by omega) z U o D q ho p).mono fun e P ⟨t,y⟩ =>?_;subst y;have r:=grownCap_ge w (n+m) c 130;generalize hG:grownCap w (n+m) c 130=G at *;have ab:=qy (n+m-i);have ad:=qy (G-(n+m));rw[akR]at ab ad;generalize hR:((cs.take (i*5)).toArray++Builtin.zeroCells oE.cells (n+m-i)++Builtin.zeroCells oE.cells (G-(n+m)))=R;have ai:R.size=G*5:=by grind
     have aj:∀j,j<i*5->R[j]? = cs[j]?:=fun j d=>by
      grind
     have ae:(w.alloc (.cells R 130)).drew.heap[w.heap.size]? = some (.cells R 130 (0,0)):=heap_alloc_new w _;obtain⟨J,K,L,e4,e5,f,M,e7,Q⟩:=iD w.heap.size cs' (i*5) _ R ae (by omega);obtain⟨f1,f2,f3,f4,f5,s,f6,f7,f8⟩:=iD w.heap.size (cs.drop (i*5)) ((i+m)*5) (((w.alloc (.cells R 130)).drew.setCells w.heap.size (i*5) cs').drew) f M (by simp;omega);refine⟨_,t,⟨f1.trans J,f2.trans K,f3.trans L,?_,fun k X hn =>?_⟩,(w.heap.size,0),G,s,rfl,.inl (aki _),f6,r,hG ▸ grownCap_le_maxLen _ _ _ _ (by unfold maxLen;omega),by simp only;omega,fun j x d =>?_⟩
     ·simp_all
     ·rw[f5 k (by omega)];show ((w.alloc (.cells R 130)).drew.setCells w.heap.size (i*5) cs').heap[k]? = _;rw[e5 k (by omega)];exact Below.heap_alloc w _ k X
     ·have E:=(akI.1 d).1;simp only[alh,aky,akz]at E;rw[alf,f8,Q]
      by_cases Z:j<i*5
      ·grind
      ·rw[ak7 (by grind),aky,amc (by omega)]at d
       by_cases aa:j<(i+m)*5
       ·grind
       ·rw[ak7 (by omega)]at d;grind
  ·have ag:i=0:=by omega
   subst ag;refine (BY A 0 0 l.1 l.2 m F [] cs' w hm (aki _) (by omega) (by omega) (by omega) rfl o (fun _=>rfl) (fun a ha j v d=>by simp at d) q p).mono fun e P ⟨t,y⟩ =>?_;subst y;have r:=grownCap_ge w (0+m) 0 130;have Y:=qy (grownCap w (0+m) 0 130-(0+m));refine⟨_,t,eM.vw ((Below.refl _ w).drew.alloc (by simp) _),(w.heap.size,0),_,_,rfl,.inl (aki _),heap_alloc_new w.drew _,r,grownCap_le_maxLen _ _ _ _ (by omega),?_,fun j x d =>?_⟩
   ·grind
   grind
def adR{α:Type}(E:iK α)(J:E.size=5):cn prog 138 (mkE 130 E (fV (aI .i64) (dO (aI .i64))) (fun (l:List α) (x:Int×Int)=>aaI l x.1 x.2)) where
 callable:=⟨_,func138,by kernel_rfl,by kernel_rfl⟩
 calls bY ds rk out hg:=by
  obtain⟨pre,l,post,a,r,rfl,rfl,U,rfl,rfl⟩:=Q7 hg;obtain⟨ai,V⟩:=a;unfold aaI at U;split at U;rotate_left
  ·cases U
  rename_i B;obtain⟨Y,Z,aa,au⟩:=B;simp only at Y Z aa;cases U;intro w M go u0 vs hM av hz ay K ab m;have ad:vs = #[.int .i64 ai,.int .i64 V]:=by
   have C:vs.size=2:=m.size;have e0:=Tb (m.at_ 0 (.int .i64 ai) rfl);have e1:=Tb (m.at_ 1 (.int .i64 V) rfl);apply alp
   ·simp[C]
   ·intro k h2 h3;have:k=0∨k=1:=by omega
    rcases this with rfl|rfl
    ·simp_all
    simp_all
  subst ad;simp only;obtain⟨i,rfl⟩:∃i:Nat,ai=(i:Int):=⟨ai.toNat,by omega⟩;obtain⟨j,rfl⟩:∃j:Nat,V=(j:Int):=⟨V.toNat,by omega⟩;simp only[Int.toNat_natCast];have aw:i<=j:=by omega
  have D:j<=l.length:=by omega
  have q:(l.take i++l.drop j).length=i+(l.length-j):=by grind
  have ae:(al E l).length=l.length*5:=by rw[bF,J]
  have L:al E (l.take i++l.drop j)=(al E l).take (i*5)++(al E l).drop (j*5):=by rw[iC,<- J,jn,qe]
  rcases ab.2 ⟨0,0,[],false,false,false⟩ rfl rfl with⟨g,o',c,N,t,k0,k1,k2,k3,k4,k5⟩|⟨k0,ag,A,k1⟩
  ·cases k0;subst k1;rw[J]at k2;obtain⟨cs,C,h2,h3⟩:=K;simp only[alh,ae]at h2;have hN:N=cs.size:=by
    simp only[World.shape?,C,akq,Prod.mk.injEq]at k5;exact k5.2.symm
   have u:c<=9223372036854775807:=by unfold maxLen at k4;omega
   by_cases ah:i=j
   ·subst ah;have F:l.take i++l.drop i=l:=alS i l;rw[F];refine (Po (some ⟨g.1,o',none⟩) l.length c i w D k3 u (fun h=>by cases h)).mono fun e W ⟨O,P⟩ =>?_;subst P;refine⟨_,O,⟨rfl,rfl,rfl,aki _,fun k _ _=>rfl⟩,trivial,?_⟩
    by_cases an:0<c∨pre.length=0
    ·obtain⟨k6,k7⟩:=k2 an;refine .inl ⟨(g.1,o'),c,cs,rfl,.inr ⟨g,rfl,rfl⟩,C,k3,k4,by rw[J];omega,?_,fun k d f =>?_⟩
     ·omega
     ·have n:=(akI.1 f).1;have:=h3 (pre.length+k) d (by rw[ak7 (by omega),al5,ak5 n];exact f);simp only;rw[k6,akA];exact⟨this.1,this.2.less fun b hb=>hb.imp id fun h=>⟨g,rfl,h⟩⟩
    ·have:c=0:=by omega
     subst this;have G:l=[]:=alq (by omega);subst G;exact .inr ⟨rfl,rfl,_,rfl⟩
   ·have ao:i<j:=by omega
    obtain⟨k6,k7⟩:=k2 (.inl (by omega));subst k6;obtain⟨DF,H⟩:∃DF:List Value,DF=(List.range (l.length*5)).map fun k=>cs.getD (g.2+(pre.length+k)) undef:=⟨_,rfl⟩;have aq:DF.length=l.length*5:=by rw[H];simp
    have s:∀k,k<l.length*5->DF[k]? = some (cs.getD (g.2+(pre.length+k)) undef):=fun k f=>by simp_all
    have y:∀k d,(al E l)[k]? = some d->bu d=true∧RP w (fun b=>M b∨w8 (some g) b) d (cs.getD (g.2+(pre.length+k)) undef):=fun k d f=>by
     have n:=(akI.1 f).1;exact h3 (pre.length+k) d (by rw[ak7 (by omega),al5,ak5 n];exact f)
    have I:∀k v,DF[k]? = some v->w.cell? ⟨g.1,g.2+pre.length+k,none⟩=some v:=fun k v f=>by
     have n:=(akI.1 f).1;rw[s k (by omega)]at f;have:=bf C (j:=g.2+pre.length+k) (by omega);grind
    have Q:∀v∈DF,v.oneCell'=true:=fun v X=>by
     obtain⟨k,f⟩:=akB X;have n:=(akI.1 f).1;rw[s k (by omega)]at f;obtain⟨p1,p2⟩:=y k _ (aku (by omega));have:=p2.sn p1;simp_all
    refine (aaK g.1 (g.2+pre.length) l.length c i j DF w aq I (fun k=>by simp[World.frozen?,C]) Q k3 u ao D).mono fun e W ⟨O,P⟩ =>?_;have az:=qy (l.length-(i+(l.length-j)));have aA:(DF.drop (j*5)).length=(l.length-j)*5:=by grind
    obtain⟨e1,e2,e3,e4,e5,R,e6,e7,e8⟩:=iD g.1 (DF.drop (j*5)) (g.2+pre.length+i*5) w.drew cs C (by omega);obtain⟨f1,f2,f3,f4,f5,o,f6,f7,f8⟩:=iD g.1 (Builtin.zeroCells oE.cells (l.length-(i+(l.length-j)))).toList (g.2+pre.length+(i+(l.length-j))*5) _ R e6 (by omega);rw[<- P]at f1 f2 f3 f4 f5 f6;have p:eM (w8 (some g)) w W:=⟨f1.trans e1,f2.trans e2,f3.trans e3,by rw[f4,e4];exact aki _,fun k f hn=>(f5 k (fun h=>hn ⟨g,rfl,h⟩)).trans (e5 k (fun h=>hn ⟨g,rfl,h⟩))⟩;refine⟨_,O,p,trivial,.inl ⟨(g.1,g.2+pre.length),c,o,by rw[q],.inr ⟨g,rfl,rfl⟩,f6,by rw[q];omega,k4,by grind,?_,fun k d f =>?_⟩⟩
    ·simp only;rw[bF,J,q];omega
    ·have n:=(akI.1 f).1;rw[bF,J,q]at n;rw[L]at f;have z:∀S:Nat,(al E l)[S]? = some d->DF[S]? = o[g.2+pre.length+k]?->bu d=true∧RP W (fun b=>M b∨b=g.1) d (o.getD (g.2+pre.length+k) undef):=by
      intro S T X;have ax:=(akI.1 T).1;obtain⟨p1,p2⟩:=y S d T;rw[s S (by omega)]at X;refine⟨p1,?_⟩;rw[akm,<- X];refine p2.keep fun b q1 q2=>⟨akl q1 p.size,?_,p.block b q1 (fun hn=>q2 (.inr hn))⟩;rintro (hb|hb)
      ·exact q2 (.inl hb)
      ·exact q2 (.inr ⟨g,rfl,hb⟩)
     simp only
     by_cases ar:k<i*5
     ·rw[ak5 (by rw[aky];omega),akH,if_pos ar]at f;apply z k f;rw[f8,if_neg (by omega),e8,if_neg (by omega),s k (by omega),akm,akA,alo (show g.2+(pre.length+k)<cs.size by omega)];rfl
     ·rw[ak7 (by grind),aky,amc (by omega),akE]at f;refine z (j*5+(k-i*5)) f ?_;rw[f8,if_neg (by omega),e8,if_pos (by omega),akE];congr 1;omega
  ·subst k1;have G:l=[]:=alq ag;subst G;simp only[List.length_nil]at D;obtain rfl:j=0:=by omega
   obtain rfl:i=0:=by omega
   refine (Po A 0 0 0 w (aki _) (aki _) (by decide) (fun _=>rfl)).mono fun e W ⟨O,P⟩ =>?_;subst P;exact⟨_,O,⟨rfl,rfl,rfl,aki _,fun k _ _=>rfl⟩,trivial,.inr ⟨rfl,rfl,_,rfl⟩⟩
end Go.Proofs.YtobnihfgnbnncaaGreat.Am
namespace Go.Proofs.YtobnihfgnbnncaaGreat.P
def Yv{α:Type}(c:α->α->Int)(x:α):List α->List α
 | []=>[x]
 | y::l=>if c x y<=0 then x::y::l else y::Yv c x l
def rL{α:Type}(c:α->α->Int):List α->List α
 | []=>[]
 | x::l=>Yv c x (rL c l)
def C7{α:Type}(c:α->α->Int)(x:α):∀l:List α,(Yv c x l).Perm (x::l)
 | []=>List.Perm.refl _
 | y::l=>by
  unfold Yv;split
  ·simp_all
  ·exact ((C7 c x l).cons y).trans (List.Perm.swap x y l)
def jH{α:Type}(c:α->α->Int):∀l:List α,(rL c l).Perm l
 | []=>List.Perm.refl _
 | x::l=>(C7 c x _).trans ((jH c l).cons x)
theorem qk{α:Type}(c:α->α->Int)(l:List α):(rL c l).length=l.length:=(jH c l).length_eq
structure WO{α:Type}(c:α->α->Int):Prop where
 total:∀x y,c x y<=0∨c y x<=0
 neg:∀x y,c x y<0↔0<c y x
 trans:∀x y z,c x y<=0->c y z<=0->c x z<=0
def Em{α:Type}{c:α->α->Int}(h:WO c)(x:α):∀l:List α,l.Pairwise (fun x y=>c x y<=0)->(Yv c x l).Pairwise (fun x y=>c x y<=0)
 | [],_=>List.pairwise_singleton _ _
 | y::l,hs=>by
  unfold Yv;obtain⟨e,f⟩:=alF.1 hs;split
  ·rename_i b;refine alF.2 ⟨fun z a =>?_,hs⟩;rcases ako.1 a with rfl|a
   ·exact b
   ·exact h.trans _ _ _ b (e z a)
  ·rename_i b;have d:c y x<=0:=(h.total x y).resolve_left b;refine alF.2 ⟨fun z a =>?_,Em h x l f⟩;rcases ako.1 ((C7 c x l).mem_iff.1 a) with rfl|a
   ·exact d
   ·exact e z a
def o0{α:Type}{c:α->α->Int}(h:WO c):∀l:List α,(rL c l).Pairwise (fun x y=>c x y<=0)
 | []=>List.Pairwise.nil
 | x::l=>Em h x _ (o0 h l)
def qP{α:Type}{c:α->α->Int}:∀{l m:List α},l.Perm m->(∀x∈l,∀y∈l,c x y<=0->c y x<=0->x=y)->l.Pairwise (fun x y=>c x y<=0)->m.Pairwise (fun x y=>c x y<=0)->l=m
 | [],m,d,_,_,_=>(List.Perm.nil_eq d)
 | x::l,[],d,_,_,_=>absurd d.symm (by simp_all)
 | x::l,y::m,d,ha,f,hm=>by
  obtain⟨n,g⟩:=alF.1 f;obtain⟨o,h⟩:=alF.1 hm;have e:x=y:=by
   by_cases i:x=y
   ·exact i
   ·have p:y∈l:=by
     grind
    grind
  subst e;rw[qP ((List.perm_cons x).1 d) (fun a j b k=>ha a (alx _ j) b (alx _ k)) g h]
open Classical in
def ED{α:Type}(c:α->α->Int)(l:List α):Option (List α×Unit):=if l.length<4611686018427387904∧∀x∈l,∀y∈l,c x y=0->x=y then some (rL c l,()) else none
end Go.Proofs.YtobnihfgnbnncaaGreat.P
namespace Go.Proofs.YtobnihfgnbnncaaGreat.Am
open Go.RowKit Go.Proofs.YtobnihfgnbnncaaGreat.P
def aag(b:Bool)(a:List Value):Value:=if b then .agg a.toArray else a.getD 0 undef
def IsV{α:Type}(E:iK α)(w:World)(M:Nat->Prop)(x:α)(a:List Value):Prop:=a.length=E.size∧∀j d,(E.cells x)[j]? = some d->bu d=true∧RP w M d (a.getD j undef)
def ahe{α:Type}(P:Program)(g:FuncId)(a:Bool)(E:iK α)(c:α->α->Int):Prop:=∀(w:World)(M:Nat->Prop)(x y:α)(d f:List Value),(∀b,M b->b<w.heap.size)->IsV E w M x d->IsV E w M y f ->
 Calls P g #[aag a d,aag a f] w fun e h=>e=.returned (.int .i64 (c x y))∧∃q i,h=Go.Sort.grow (w.drewN q) i
def ae9(P:Program)(f g:FuncId)(p:Bool)(k:Nat):Prop:=∀(β:Type)(_:Inhabited β)(enc:β->List Value)(c:β->β->Int),(∀x,(enc x).length=k)->(∀x,∀v∈enc x,v.oneCell'=true)->Go.Sort.SWO (ltOf c)->∀(blk a h:Nat)(d:Array β)(w:World),
 (∀(m:Nat)(b:Array Obj)(i:Array β),i.size=d.size->∀x y:β,Calls P g #[aag p (enc x),aag p (enc y)] (sortWorldK enc k w blk a m i b) fun e j=>e=.returned (.int .i64 (c x y))∧∃q l,j=Go.Sort.grow ((sortWorldK enc k w blk a m i b).drewN q) l) ->
 Go.Sort.HoldsK enc k w blk a d->blk<w.heap.size->d.size<4611686018427387904 ->
 Calls P f #[.slice (some ⟨blk,a,none⟩) d.size h,.func (.func g) #[] #[]] w fun e j=>e=.returned (.tuple #[])∧∃o n b,Go.Sort.PermIn 0 d.size d o∧Go.Sort.SortedIn (ltOf c) 0 d.size o∧j=sortWorldK enc k w blk a n o b
def VZ{α:Type}(E:iK α){l:List α}{i j:Nat}{x:α}(a:l[i]? = some x)(b:j<E.size):(al E l)[i*E.size+j]? = (E.cells x)[j]?:=by
 have c:((al E l).drop (i*E.size))[j]? = (al E l)[i*E.size+j]?:=akE;have d:l.drop i=x::l.drop (i+1):=by
  obtain⟨e,rfl⟩:=akI.1 a;simp_all
 rw[<- c,qe,d,b9,ak5 (by rw[E.len];exact b)]
section
variable {β:Type} [Inhabited β] {enc:β->List Value} {k:Nat}
def NL{w:World}{b a:Nat}{d:Array β}{c:Array Value}{e:Nat}{f:Nat×Nat}(h:w.heap[b]? = some (.cells c e f)):(Go.Sort.putRowK enc k w b a d).heap[b]? = some (.cells (Go.Sort.putCells id a (Go.Sort.flatK enc k d) c) e f):=by
 simp[Go.Sort.putRowK,Go.Sort.putRow,Go.Sort.mapBlock,akr,h,Go.Sort.onCells]
def E8{w:World}{b c a:Nat}{d:Array β}(h:c≠b):(Go.Sort.putRowK enc k w b a d).heap[c]? = w.heap[c]?:=by
 simp[Go.Sort.putRowK,Go.Sort.putRow,Go.Sort.mapBlock,akr,Ne.symm h]
def Ah{w:World}{b c a m:Nat}{d:Array β}{e:Array Obj}(f:c<w.heap.size)(h:c≠b):(sortWorldK enc k w b a m d e).heap[c]? = w.heap[c]?:=by
 unfold sortWorldK;rw[Go.Sort.heap_grow_old _ _ (by simpa [Go.Sort.putRowK,Go.Sort.ahead] using f),E8 h];rfl
def rI{w:World}{b a m:Nat}{d:Array β}{c:Array Obj}:w.heap.size<=(sortWorldK enc k w b a m d c).heap.size:=by
 simp[sortWorldK,Go.Sort.putRowK,Go.Sort.ahead]
def Jz{w:World}{b a m:Nat}{d:Array β}{g:Array Obj}{c:Array Value}{e:Nat}{f:Nat×Nat}(h:w.heap[b]? = some (.cells c e f)):(sortWorldK enc k w b a m d g).heap[b]? = some (.cells (Go.Sort.putCells id a (Go.Sort.flatK enc k d) c) e f):=by
 have i:=(alg.1 h).1;unfold sortWorldK;rw[Go.Sort.heap_grow_old _ _ (by simpa [Go.Sort.putRowK,Go.Sort.ahead] using i)];exact NL h
def Jt{a:Nat}{d:Array β}{b:Array Value}{j:Nat}(c:j<b.size):(Go.Sort.putCells id a (Go.Sort.flatK enc k d) b).getD j undef=if a<=j∧j<a+d.size*k then (enc d[(j-a) / k]!)[(j-a) % k]! else b.getD j undef:=by
 have e:(Go.Sort.putCells id a (Go.Sort.flatK enc k d) b)[j]? = some (if a<=j∧j<a+d.size*k then (enc d[(j-a) / k]!)[(j-a) % k]! else b[j]):=by
  simp only[Go.Sort.putCells,Array.getElem?_mapIdx,alo c,Option.map_some,Go.Sort.size_flatK];congr 1;split
  ·rename_i f;rw[Go.Sort.get_flatK _ _ _ _ (by omega)];rfl
  ·rfl
 simp_all
end
def agJ{α β:Type}{c:α->α->Int}(h:WO c)(f:β->α):Go.Sort.SWO (ltOf fun x y=>c (f x) (f y)) where
 irrefl x:=by
  simp only[ltOf,decide_eq_false_iff_not];intro e;have:=(h.neg _ _).1 e;omega
 trans x y z h1 h2:=by
  simp only[ltOf,decide_eq_true_eq]at h1 h2 ⊢
  by_cases a:c (f x) (f z)<0
  ·exact a
  ·have b:c (f z) (f x)<=0:=by
    have:=(h.neg (f z) (f x));rcases Int.lt_trichotomy (c (f z) (f x)) 0 with q|q|q
    ·omega
    ·omega
    ·exact absurd ((h.neg (f x) (f z)).2 q) a
   have d:=h.trans _ _ _ b (Int.le_of_lt h1);have g:=(h.neg _ _).1 h2;omega
 ntrans x y z h1 h2:=by
  simp only[ltOf,decide_eq_false_iff_not]at h1 h2 ⊢;intro a;have b:c (f y) (f x)<=0:=by
   by_cases q:0<c (f y) (f x)
   ·exact absurd ((h.neg _ _).2 q) h1
   ·omega
  have d:c (f z) (f y)<=0:=by
   by_cases q:0<c (f z) (f y)
   ·exact absurd ((h.neg _ _).2 q) h2
   ·omega
  have g:=h.trans _ _ _ d b;have i:=(h.neg _ _).1 a;omega
def H4{β:Type}[Inhabited β]{d a:Array β}(h:Go.Sort.PermIn 0 d.size d a):a.toList.Perm d.toList:=by
 obtain⟨b,-,c⟩:=h;have e:(d.extract 0 d.size)=d:=by simp
 have f:(a.extract 0 d.size)=a:=by rw[<- b];simp
 rwa [e,f]at c
def acK{α:Type}{E:iK α}{c:α->α->Int}{P:Program}{f g:FuncId}{fn:Func}{ag:Bool}{ty:Nat}{F:List α->Option (List α×Unit)}(hf:P.funcs[f]? = some fn)(hc:(fn.name == "runtime.NumGoroutine")=false∧fn.body.isNone=false)
  (hF:∀l,F l=ED c l) (h0:∀p aq w,Calls P f #[.slice p 0 aq,.func (.func g) #[] #[]] w fun e w'=>e=.returned (.tuple #[])∧w'=w) (hO:WO c) (hcmp:ahe P g ag E c) (hS:ae9 P f g ag E.size) :
  cn P f (mkW ty E (dO (Oq g)) (fun l (_:Unit)=>F l) (fun _:Unit =>.clean (.tup []))) where
 callable:=⟨fn,hf,hc⟩
 calls bY la rk out hg:=by
  obtain⟨pre,l,post,a,l',r,rfl,rfl,hr,rfl,rfl⟩:=Q8 hg;rw[hF]at hr;unfold ED at hr
  by_cases B:l.length<4611686018427387904∧∀x∈l,∀y∈l,c x y=0->x=y
  ·rw[if_pos B]at hr;obtain⟨aB,hanti⟩:=B;obtain rfl:rL c l=l':=congrArg Prod.fst (amf hr);intro w M h u0 vs hM aC hz aE C aa s;have ar:vs = #[.func (.func g) #[] #[]]:=by
    have S:=s.1;have h2:=s.2 0 (.fn g) rfl;have h3:vs.size=1:=S;cases hv:vs.getD 0 undef<;>rw[hv]at h2<;>cases h2;apply alp
    ·simp[h3]
    ·intro i i1 i2;have:i=0:=by omega
     subst this;simpa [Array.getD,h3] using hv
   subst ar
   by_cases hl:l=[]
   ·subst hl;have hu:∃p cp,u0=.slice p 0 cp:=by
     rcases aa.2 ⟨0,0,[],false,false,false⟩ rfl rfl with⟨g',o',cp,N,t,k0,k1,k2,k3,k4,k5⟩|k0
     ·simp_all
     grind
    obtain⟨p,cp,rfl⟩:=hu;refine (h0 p cp w).mono fun e w' ⟨he,hw⟩ =>?_;subst hw;exact⟨.tuple #[],he,⟨rfl,rfl,rfl,aki _,fun _ _ _=>rfl⟩,⟨rfl,rfl,⟨rfl,rfl⟩,fun g' T=>rfl,C⟩,.tup [] [] rfl (fun j x o=>by simp at o)⟩
   ·have hk:=E.pos;have J:0<l.length:=alW.2 hl;cases h with
    | none =>
     have au:pre++(al E l++post)=[]:=C;have:=congrArg List.length au;rw[alh,alh,bF,alj]at this;have:=Nat.mul_pos J hk;omega
    | some h =>
     obtain⟨cs,S,h2,h3⟩:=C;simp only[alh,bF]at h2;generalize U:(fun b=>M b∨w8 (some h) b)=M' at h3 s ⊢;have ab:M' h.1:=by rw[<- U];exact .inr ⟨h,rfl,rfl⟩
     have av:h.1<w.heap.size:=(alg.1 S).1;have V:∀b,M' b->b<w.heap.size:=by
      intro b hb;rw[<- U]at hb;rcases hb with hb|⟨g',T,rfl⟩
      ·exact hM b hb
      simp_all
     rcases aa.2 ⟨0,0,[],false,false,false⟩ rfl rfl with⟨g',o',cp,N,t,k0,k1,k2,k3,k4,k5⟩|⟨k0,_⟩;rotate_left
     ·cases k0
     cases k0;obtain⟨rfl,k6⟩:=k2 (.inl (by omega));subst k1;have ad:∀i,i<l.length->i*E.size+E.size<=l.length*E.size:=by
      intro i I;have:=akW E.size (show i+1<=l.length from I);grind
     have q:∀i (I:i<l.length),IsV E w M' l[i] ((List.range E.size).map fun j=>cs.getD (h.2+pre.length+(i*E.size+j)) undef):=by
      intro i I;refine⟨by simp,fun j d o =>?_⟩;have aw:j<E.size:=by
       have:=(akI.1 o).1
       rwa [E.len]at this
      have hd:(pre++(al E l++post))[pre.length+(i*E.size+j)]? = some d:=by
       have:=ad i I;rw[ak7 (by omega),al5,ak5 (by rw[bF];omega),VZ E (aku I) aw,o]
      have:=h3 _ _ hd;rw[<- akA]at this;simp_all
     let β:={ p:α×List Value // IsV E w M' p.1 p.2 }
     let enc:β->List Value:=fun p=>p.1.2
     let K:List β:=List.ofFn fun i:Fin l.length=>(⟨(l[i.1],_),q i.1 i.2⟩:β)
     have ae:K.length=l.length:=by simp[K]
     have aF:∀i (I:i<l.length),K[i]? = some ⟨(l[i],_),q i I⟩:=by
      grind
     have ah:Inhabited β:=⟨⟨(l[0],_),q 0 J⟩⟩;have aD:K.map (fun p=>p.1.1)=l:=by
      apply ame;grind
     have L:∀x:β,(enc x).length=E.size:=fun x=>x.2.1;have ai:∀x:β,∀v∈enc x,v.oneCell'=true:=by
      intro x v hv;obtain⟨j,o⟩:=akB hv;have W:=(akI.1 o).1;rw[L]at W;obtain⟨p1,p2⟩:=x.2.2 j _ (aku (by rw[E.len];exact W));have:x.1.2.getD j undef=v:=by grind
      rw[this]at p2;exact p2.sn p1
     have z:∀{m:Nat}{dk:Array β}{os:Array Obj}{d:D}{u:Value},RP w M' d u->RP (sortWorldK enc E.size w h.1 (h.2+pre.length) m dk os) M' d u:=by
      intro m dk os d u hu;refine hu.keep fun b q1 q2=>⟨akl q1 rI,q2,?_⟩;exact Ah q1 (fun e=>q2 (e ▸ ab))
     have hH:Go.Sort.HoldsK enc E.size w h.1 (h.2+pre.length) K.toArray:=by
      intro j o;simp only[Go.Sort.size_flatK,alr,ae]at o;refine⟨?_,by simp[World.frozen?,S]⟩;have hq:j / E.size<l.length:=Nat.div_lt_of_lt_mul (by rwa [Nat.mul_comm]);have O:j % E.size<E.size:=ak3 _ hk;have aj:j / E.size*E.size+j % E.size=j:=by rw[Nat.mul_comm];exact Nat.div_add_mod j E.size
      rw[Go.Sort.get_flatK _ _ _ _ (by simp_all),bf S (j:=h.2+pre.length+j) (by omega)];have e1:(K.toArray)[j / E.size]! = ⟨(l[j / E.size],_),q _ hq⟩:=by
       simp_all
      rw[e1];show some _=some (((List.range E.size).map fun j'=>cs.getD (h.2+pre.length+(j / E.size*E.size+j')) undef)[j % E.size]!);simp_all
     have ax:=agJ hO (fun p:β=>p.1.1);have G:=hS β ah enc (fun x y=>c x.1.1 y.1.1) L ai ax h.1 (h.2+pre.length) cp K.toArray w (fun m os dk aG x y=>hcmp _ M' x.1.1 y.1.1 x.1.2 y.1.2 (fun b hb=>akl (V b hb) rI) ⟨x.2.1,fun j d o=>⟨(x.2.2 j d o).1,z (x.2.2 j d o).2⟩⟩ ⟨y.2.1,fun j d o=>⟨(y.2.2 j d o).1,z (y.2.2 j d o).2⟩⟩) hH av (by simp_all);have X:K.toArray.size=l.length:=by simp[ae]
     rw[X]at G;refine G.mono fun e w' ⟨he,A,n,os,H,Y,hw⟩ =>?_;subst hw;have ao:=H4 (by rw[X];exact H);have an:A.size=l.length:=by have:=H.1;rw[this,X]
     have ay:A.toList.map (fun p=>p.1.1)=rL c l:=by
      have Z:(A.toList.map (fun p=>p.1.1)).Perm l:=by
       grind
      refine qP (Z.trans (jH c l).symm) (fun x hx y hy h4 h5=>hanti x (Z.mem_iff.1 hx) y (Z.mem_iff.1 hy) ?_) ?_ (o0 hO l)
      ·have:=hO.neg x y;omega
      ·rw[amg];rw[amh];intro i j I o az;simp only[Array.length_toList]at I o;have:=Y i j (akj _) az (by omega);simp only[ltOf,decide_eq_false_iff_not]at this;rw[getElem!_pos A j (by omega),getElem!_pos A i (by omega)]at this;simp only[Array.getElem_toList];have h6:=hO.neg A[j].1.1 A[i].1.1;omega
     have Q:(sortWorldK enc E.size w h.1 (h.2+pre.length) n A os).heap[h.1]? = some (.cells (Go.Sort.putCells id (h.2+pre.length) (Go.Sort.flatK enc E.size A) cs) ty (0,0)):=Jz S;have R:(Go.Sort.putCells id (h.2+pre.length) (Go.Sort.flatK enc E.size A) cs).size=cs.size:=by simp[Go.Sort.putCells]
     refine⟨.tuple #[],he,⟨rfl,rfl,rfl,rI,fun k hk hn=>Ah hk (fun e=>hn ⟨h,rfl,e⟩)⟩,⟨rfl,rfl,⟨rfl,rfl⟩,fun g' T =>?_,?_⟩,.tup [] [] rfl (fun j x o=>by simp at o)⟩
     ·cases T;simp[World.shape?,Q,S,R]
     ·refine⟨_,Q,?_,fun j d o =>?_⟩
      ·simp only[alh,bF,qk,R];exact h2
      ·have W:j<pre.length+(l.length*E.size+post.length):=by
        have:=(akI.1 o).1;simpa [bF,qk] using this
       show _∧RP _ (fun b=>M b∨w8 (some h) b) d _;rw[U,Jt (by omega),an]
       by_cases aA:pre.length<=j∧j<pre.length+l.length*E.size
       ·rw[if_pos (by omega)];have e1:h.2+j-(h.2+pre.length)=j-pre.length:=by omega
        rw[e1];have hq:(j-pre.length) / E.size<l.length:=Nat.div_lt_of_lt_mul (by grind);have O:(j-pre.length) % E.size<E.size:=ak3 _ hk;have aj:(j-pre.length) / E.size*E.size+(j-pre.length) % E.size=j-pre.length:=by rw[Nat.mul_comm];exact Nat.div_add_mod _ _
        rw[ak7 aA.1,ak5 (by rw[bF,qk];omega),<- aj,<- ay,VZ E (x:=(A[(j-pre.length) / E.size]!).1.1) (by
         rw[akf,aku (by simp_all),getElem!_pos A _ (by omega)];simp) O]at o
        obtain⟨p1,p2⟩:=(A[(j-pre.length) / E.size]!).2.2 _ _ o;refine⟨p1,z ?_⟩;have e2:(enc A[(j-pre.length) / E.size]!)[(j-pre.length) % E.size]! = (A[(j-pre.length) / E.size]!).1.2.getD ((j-pre.length) % E.size) undef:=by
         rw[getElem!_pos _ _ (by simp_all)];simp only[akQ];rw[aku (by grind)];rfl
        simp_all
       ·rw[if_neg (by omega)];have aH:(pre++(al E l++post))[j]? = some d:=by
         by_cases aI:j<pre.length
         ·grind
         ·rw[ak7 (by omega),ak7 (by rw[bF,qk];omega),bF,qk]at o;rw[ak7 (by omega),ak7 (by rw[bF];omega),bF];exact o
        grind
  simp_all
end Go.Proofs.YtobnihfgnbnncaaGreat.Am
namespace Go.Proofs.YtobnihfgnbnncaaGreat.P
def lq{α:Type}(f g:α->Int)(x y:α):Int:=if Go.Lib.compareInt (f x) (f y)≠0 then Go.Lib.compareInt (f x) (f y) else Go.Lib.compareInt (g x) (g y)
def DC{α:Type}{f g:α->Int}{x y:α}:lq f g x y<0↔f x<f y∨(f x=f y∧g x<g y):=by
 unfold lq Go.Lib.compareInt;omega
def DD{α:Type}{f g:α->Int}{x y:α}:0<lq f g x y↔f y<f x∨(f x=f y∧g y<g x):=by
 unfold lq Go.Lib.compareInt;omega
def yO{α:Type}{f g:α->Int}{x y:α}:lq f g x y<=0↔f x<f y∨(f x=f y∧g x<=g y):=by
 have a:=@DC α f g x y;have b:=@DD α f g x y;omega
def UM{α:Type}{f g:α->Int}{x y:α}:lq f g x y=0↔f x=f y∧g x=g y:=by
 have a:=@DC α f g x y;have b:=@DD α f g x y;omega
def yP{α:Type}(f g:α->Int):WO (lq f g) where
 total x y:=by rw[yO,yO];omega
 neg x y:=by rw[DC,DD];omega
 trans x y z h1 h2:=by rw[yO]at *;omega
end Go.Proofs.YtobnihfgnbnncaaGreat.P
namespace Go.Proofs.YtobnihfgnbnncaaGreat.Am
open Go.RowKit Go.Lib Go.Sort Go.Shelf Go.Proofs.YtobnihfgnbnncaaGreat.P
def aen(x:Int)(w:World):Calls prog 153 #[.int .i64 x] w fun e w'=>e=.returned (.bool false)∧w'=w:=by
 go_enter func153,ntmps153
 go_wp2
 go_ret
 exact⟨by simp,rfl⟩
def Pj(x y:Int)(w:World):Calls prog 110 #[.int .i64 x,.int .i64 y] w fun e w'=>e=.returned (.int .i64 (Lib.compareInt x y))∧w'=w:=by
 go_enter func110,ntmps110
 go_wp2_with (go_at_call 153;refine (aen _ _).mono ?_;rintro e w' ⟨rfl,hw⟩;rw[hw])
 all_goals (go_ret;refine⟨?_,rfl⟩;unfold Lib.compareInt;(repeat' split)<;>first|rfl|(exfalso;omega))
def agt(b off cap:Nat)(x y r:Int)(hr:r=if x≠0 then x else y)(w:World)(h0:w.cell? ⟨b,off,none⟩=some (.int .i64 x))(h1:w.cell? ⟨b,off+1,none⟩=some (.int .i64 y)):Calls prog 115 #[.slice (some ⟨b,off,none⟩) 2 cap] w fun e w'=>e=.returned (.int .i64 r)∧w'=w:=by
 go_enter func115,ntmps115
 go_wp2
 refine wp_loop_rounds 3 ?_;repeat any_goals (rw[rounds_succ];go_wp2)
 all_goals (go_ret;refine⟨?_,rfl⟩;subst hr;simp_all)
def IK(W:World)(A B:Obj)(q:Nat):({ ((W.alloc A).alloc B) with drawn:=q }:World).heap[W.heap.size]? = some A∧({ ((W.alloc A).alloc B) with drawn:=q }:World).heap[W.heap.size+1]? = some B:=by
 constructor
 ·show ((W.heap.push A).push B)[W.heap.size]? = some A;grind
 ·show ((W.heap.push A).push B)[W.heap.size+1]? = some B;grind
def aae(w:World)(x y:Value)(t:TypeId):(w.alloc (.cells #[x,y] t)).cell? ⟨w.heap.size,0,none⟩=some x∧(w.alloc (.cells #[x,y] t)).cell? ⟨w.heap.size,0+1,none⟩=some y:=by
 simp_all
def ac9(W:World)(A B:Obj):({ ((W.alloc A).alloc B) with drawn:=((W.alloc A).alloc B).drawn+1 }:World)=grow (W.drewN 1) #[A,B]:=by
 rw[alloc_eq_grow,alloc_eq_grow,grow_grow];rfl
def R2{P:Program}{id:Nat}{Q:Exit->Act->World->Prop}{a:Act}{w b:World}{l:List Oper}(n:Nat)(d:b = { w with drawn:=w.drawn+1 })(e:P.follows .mixedOrders=true)(f:Region.lexTailB .any l.toArray n=true)
  (h:wpStill P l.toArray b (fun g=>wpList P l.toArray Q (l.drop n) g b) (l.take n) a):(Code.region id l.toArray true).wp P Q a w:=by
 subst d;exact wp_region_still_tail n e f h
set_option maxRecDepth 100000 in
def OH(f1 t1 f2 t2:Int)(a b c d a' b' c' d':Value)(W:World)(h1:∀v∈[a,b,c,d],v.oneCell'=true)(h2:∀v∈[a',b',c',d'],v.oneCell'=true) :
  Calls prog 67 #[.agg #[.int .i64 f1,.int .i64 t1,a,b,c,d],.agg #[.int .i64 f2,.int .i64 t2,a',b',c',d']] W fun e w'=>e=.returned (.int .i64 (if Lib.compareInt f1 f2≠0 then Lib.compareInt f1 f2 else Lib.compareInt t1 t2))∧∃q os',w'=grow (W.drewN q) os':=by
 have hcon:=fun x y W'=>Pj x y W';have hor:=fun b off cap x y r hr W' h0 h1=>agt b off cap x y r hr W' h0 h1;generalize hr:(if Lib.compareInt f1 f2≠0 then Lib.compareInt f1 f2 else Lib.compareInt t1 t2)=r;obtain⟨w1,hw1⟩:∃w1:World,w1 = { ((W.alloc (Obj.cells #[.int .i64 f1,.int .i64 t1,a,b,c,d] 118)).alloc (Obj.cells #[.int .i64 f2,.int .i64 t2,a',b',c',d'] 118)) with drawn:=((W.alloc (Obj.cells #[.int .i64 f1,.int .i64 t1,a,b,c,d] 118)).alloc (Obj.cells #[.int .i64 f2,.int .i64 t2,a',b',c',d'] 118)).drawn+1 }:=⟨_,rfl⟩;have hg:∃q os,w1=grow (W.drewN q) os:=⟨_,_,hw1.trans (ac9 _ _ _)⟩;have hA:w1.heap[W.heap.size]? = some (Obj.cells #[.int .i64 f1,.int .i64 t1,a,b,c,d] 118):=by rw[hw1];exact (IK _ _ _ _).1
 have hB:w1.heap[W.heap.size+1]? = some (Obj.cells #[.int .i64 f2,.int .i64 t2,a',b',c',d'] 118):=by rw[hw1];exact (IK _ _ _ _).2
 have c1:w1.cell? ⟨W.heap.size,0,none⟩=some (.int .i64 f1):=bf hA (j:=0) (by simp);have c2:w1.cell? ⟨W.heap.size,1,none⟩=some (.int .i64 t1):=bf hA (j:=1) (by simp);have c3:w1.cell? ⟨W.heap.size+1,0,none⟩=some (.int .i64 f2):=bf hB (j:=0) (by simp);have c4:w1.cell? ⟨W.heap.size+1,1,none⟩=some (.int .i64 t2):=bf hB (j:=1) (by simp);clear hA hB
 go_enter func67,ntmps67
 go_wp2
 refine R2 10 hw1 (by kernel_rfl) (by kernel_rfl) ?_;clear hw1;simp only[List.take_succ_cons,List.take_zero,al0,alU]
 iterate 4 still_step
 still_call (hcon _ _ _)
 iterate 4 still_step
 still_call (hcon _ _ _)
 apply wpStill_nil;generalize Lib.compareInt f1 f2=r1 at *;generalize Lib.compareInt t1 t2=r2 at *
 go_wp2_with (go_at_call 115;refine (hor _ _ _ _ _ _ hr.symm _ (aae _ _ _ _).1 (aae _ _ _ _).2).mono ?_;rintro e w' ⟨rfl,rfl⟩)
 go_ret
 obtain⟨q,os,hq⟩:=hg;exact⟨rfl,q,_,by rw[hq,alloc_eq_grow,grow_grow]⟩
def acC{α:Type}{E:iK α}(m:E.size=6){f g:α->Int}(q:∀x,(E.cells x)[0]? = some (.int .i64 (f x)))(r:∀x,(E.cells x)[1]? = some (.int .i64 (g x))){w:World}{M:Nat->Prop}{x:α}{k:List Value}(h:IsV E w M x k) :
  ∃a b c d,k=[.int .i64 (f x),.int .i64 (g x),a,b,c,d]∧∀v∈[a,b,c,d],v.oneCell'=true:=by
 obtain⟨n,l⟩:=h;rw[m]at n
 match k,n with
 | [a0,o,a2,a3,a4,a5],_ =>
  have s:a0=.int .i64 (f x):=by
   have:=(l 0 _ (q x)).2;simp at this;cases this;rfl
  have t:o=.int .i64 (g x):=by
   have:=(l 1 _ (r x)).2;simp at this;cases this;rfl
  have i:=E.len x;rw[m]at i;have e:∀j,j<6->([a0,o,a2,a3,a4,a5].getD j undef).oneCell'=true:=fun j z=>by
   obtain⟨u,y⟩:=l j _ (aku (by omega));exact y.sn u
  subst s t;refine⟨a2,a3,a4,a5,rfl,fun v p =>?_⟩;simp only[ako,alB,or_false]at p;rcases p with rfl|rfl|rfl|rfl
  ·exact e 2 (by decide)
  ·exact e 3 (by decide)
  ·exact e 4 (by decide)
  ·exact e 5 (by decide)
def XZ{α:Type}{E:iK α}(e:E.size=6){f g:α->Int}(h:∀x,(E.cells x)[0]? = some (.int .i64 (f x)))(i:∀x,(E.cells x)[1]? = some (.int .i64 (g x))):ahe prog 67 true E (lq f g):=by
 intro w M x y r s t j k;obtain⟨a,b,c,d,rfl,p⟩:=acC e h i j;obtain⟨l,m,n,o,rfl,q⟩:=acC e h i k;exact OH _ _ _ _ a b c d l m n o w p q
def Y8{P:Program}{ρ:Go.Shelf.Ren}(L:SlLaysF0.n6 P ρ){k g:Nat}(l:∀w,(isAgg (ρ.t 24)).run P w=.ok true w)(n:∀w,(Go.sizeOf (ρ.t 24)).run P w=.ok k w)(o:∀a w,(callFunc g a).run P w=.ok (.enter g a) w):ae9 P (ρ.f 6) g true k :=
 fun β p enc q r s t e f h d w b u c i=>AnyQ.slices_SortFunc L k l n enc r s q t g #[] e f h d w o (fun m v z j x y=>by simpa [aag] using b m v z j x y) u c i
def ND{α:Type}{E:iK α}(b:E.size=6){f g:α->Int}(c:∀x,(E.cells x)[0]? = some (.int .i64 (f x)))(d:∀x,(E.cells x)[1]? = some (.int .i64 (g x)))(e:Nat) :
  cn prog 66 (mkW e E (dO (Oq 67)) (fun l (_:Unit)=>ED (lq f g) l) (fun _:Unit =>.clean (.tup []))) :=
 acK (F:=ED (lq f g)) func66 ⟨rfl,rfl⟩ (fun _=>rfl) (fun p a w=>AnyF.slices_SortFunc_none Tryz.acL p a _ w) (yP f g) (XZ b c d)
  (by rw[b];exact Y8 Tryz.acL isAgg118 sizeOf118 (enters_of func67 (by kernel_rfl) rfl))
end Go.Proofs.YtobnihfgnbnncaaGreat.Am
namespace Go.Proofs.YtobnihfgnbnncaaGreat.Am
open Go.RowKit Go.Proofs.YtobnihfgnbnncaaGreat.P
def nK:Nat->Code->Code
 | 0,.seq a _=>a
 | k+1,.seq a b =>.seq a (nK k b)
 | _,c=>c
def lX:Nat->Code->Code
 | 0,.seq _ b=>b
 | k+1,.seq _ b=>lX k b
 | _,_ =>.skip
def spine:Nat->Code->Bool
 | 0,.seq _ _=>true
 | k+1,.seq _ b=>spine k b
 | _,_=>false
def uK(a:Func):Code:=match a.body with|some c=>c|none =>.skip
def BR(a b:Code):nK 0 (.seq a b)=a:=rfl
def BQ(k:Nat)(a b:Code):nK (k+1) (.seq a b)=.seq a (nK k b):=rfl
section
variable {P:Program} {T:Nat->Option Ty} {N:Nat} {M:Nat->Prop} {L:kz} {w0:World} {Γ:Env}
def El(l:jL P T)(m:bU P Γ)(o:P.follows .mixedOrders=true){F:Nat}{Q:Exit->Act->World->Prop}:∀(k:Nat)(c:Code)(s:St)(x:Ex)(i:St)(a:Act)(w:World),spine k c=true->ik T Γ N F (nK k c) s=some (x,i)->codeOk (nK k c)=true->Holds N M L w0 s a w ->
  (x=.normal->∀e f,Holds N M L w0 i e f->(lX k c).wp P Q e f)->(x ≠ .normal->∀e f,Holds N M L w0 i e f->Q (GG x) e f)->c.wp P Q a w
 | 0,.seq b c,s,x,i,a,w,_,j,g,hH,h1,h2=>by
  refine wp_seq (kh l m o b s x i _ a w j g hH fun e f d =>?_);cases x with
  | normal=>exact h1 rfl e f d
  | exit n=>exact h2 (by intro h;cases h) e f d
  | ret=>exact h2 (by intro h;cases h) e f d
 | k+1,.seq b c,s,x,i,a,w,hs,j,g,hH,h1,h2=>by
  simp only[nK,codeOk,akP]at g;simp only[nK,ik,ag5]at j;apply wp_seq;split at j
  ·rename_i q p;exact kh l m o b s .normal q _ a w p g.1 hH fun e f d=>El l m o k c q x i e f hs j g.2 d h1 h2
  ·rename_i r t;refine kh l m o b s x i _ a w j g.1 hH fun e f d =>?_;cases x with
   | normal=>simp_all
   | exit n=>exact h2 (by intro h;cases h) e f d
   | ret=>exact h2 (by intro h;cases h) e f d
end
def tn(T:Nat->Option Ty)(rs:List ResultVar)(r:RK×Option Row)(J:(Nat->D)->(Nat->Option Row)->Nat->Prop):Kt:=fun x t h e =>
 match x with
 | .normal=>J t h e
 | .ret=>gE .clean T none rs ⟨t,EH h,e⟩=some r
 | .exit _=>False
section
variable {T:Nat->Option Ty} {Γ:Env} {n F k:Nat} {rs:List ResultVar} {r:RK×Option Row} {J:(Nat->D)->(Nat->Option Row)->Nat->Prop} {t:Nat->D} {h:Nat->Option Row} {e:Nat}
def Ad:tn T rs r J .normal t h e=J t h e:=amP
def qh:tn T rs r J .ret t h e=(gE .clean T none rs ⟨t,EH h,e⟩=some r):=amP
def Of(T:Nat->Option Ty)(Γ:Env)(F k:Nat)(b:Func)(a:List D)(K:Kt):Prop:=∃c,b.body=some c∧∃x s,ik T Γ b.ntmps F (nK k c) (cF none a)=some (x,s)∧K x s.t s.h s.e
def Mp{b:Func}{c:Code}{a:List D}(d:b.body=some c)(e:b.ntmps=n)(h:b.results=rs.toArray)(f:dr T Γ n F [.code (nK k c)] (tn T rs r J) .normal (Bp a) Lu 0):Of T Γ F k b a (tn T b.results.toList r J):=by
 obtain⟨x,s,g,i⟩:=DH _ _ _ _ _ (show Oi T Γ n F (nK k c) (Bp a) Lu 0 (tn T rs r J) from f);refine⟨c,d,x,s,?_,?_⟩
 ·rw[e];exact g
 simp_all
end
section
variable {P:Program} {T:Nat->Option Ty} {Γ:Env}
def SF{n:Nat}{a:List D}{w:World}{M:Nat->Prop}{f:Array Value}(m:∀b,M b->b<w.heap.size)(c:Bk w M a f)(z:a.length<=n)(h:n<=PK):Holds n M none w (cF none a) { tmps:=f++Array.replicate (n-f.size) undef,defers:=[] } w:=by
 have o:Inv n M none w (fun _=>none) (fun x v=>x<n∧v<0) (cF none a).t (cF none a).h { tmps:=f++Array.replicate (n-f.size) undef,defers:=[] } w:={
  tab:=fun b d=>(c.tab b d).less fun b d=>by
   rcases d with d|⟨x,r,g,e,_⟩
   ·exact d
   ·cases e
  below:=eM.refl _ _
  mlt:=m
  bY:=fun b d=>absurd d ub
  pin:=fun A p=>by cases p
  defers:=rfl
  tsz:=by have:=c.1;simp;omega
  slots:=fun i=>by
   simp only[cF];rcases yK (n:=n) (i:=i) c.1 with he|he
   ·rw[he]
    by_cases q:i<a.length
    ·have t:=c.2 i _ (aku q);have j:a.getD i .und=a[i]:=by simp_all
     rw[j];exact b6 (t.less fun b d=>by
      rcases d with d|⟨x,r,g,e,_⟩
      ·exact d
      ·cases e)
    ·have j:a.getD i .und=.und:=by simp_all
     rw[j];trivial
   ·rw[he];trivial
  rows:=fun x r e=>by cases e
  inj:=fun x y r s g B e=>by cases e
  big:=h
  pha:=fun y r g l=>by cases l
  ali:=fun y r g l=>by cases l }
 exact⟨_,⟨(by rw[Fw (fun k r u=>by cases u)];exact o.weaken fun x v e=>absurd e.2 (Nat.not_lt_zero _)),fun x r C s E F e=>by cases e⟩⟩
def CH(q:jL P T){e:Func}{M:Nat->Prop}{w d:World}{s:St}{a':Act}{n:RK}(r:Holds e.ntmps M none w s a' d)(c:gE .clean T none e.results.toList ⟨s.t,EH s.h,s.e⟩=some (n,none)) :
  a'.defers=[]∧∃v,(results e a'.tmps).run P d=.ok v d∧(∃p,Ending.returned v=.returned p∧Below w.heap.size w d∧xy w d M (fun _=>False) p n):=by
 obtain⟨f,k⟩:=r;obtain⟨j,g⟩:∃j:St,j=⟨s.t,EH s.h,s.e⟩:=⟨_,rfl⟩;have a:Inv e.ntmps M none w f (VE e.ntmps s.e [] s.h) j.t j.h a' d:=by rw[g];exact k.inv
 rw[<- g]at c;have h:Below w.heap.size w d:=a.below.below (fun b t=>absurd t ub);refine⟨a.defers,?_⟩;simp only[gE,th,nN]at c;split at c<;>try (cases c;done)
 rename_i x u o i y;split at c<;>try (cases c;done)
 simp only[akq,Prod.mk.injEq]at c;obtain⟨rfl,_⟩:=c;obtain⟨v,l,m⟩:=uG (P:=P) q a i (a.afz u);exact⟨v,l,v,rfl,h,m⟩
def FG(P:Program)(b:Func)(c:Code)(f:RK)(J:(Nat->D)->(Nat->Option Row)->Nat->Prop):Prop:=∀(w0:World)(M:Nat->Prop)(s:St)(a:Act)(w:World),J s.t s.h s.e->Holds b.ntmps M none w0 s a w ->
 c.wp P (bodyPost P b fun e d=>∃v,e=.returned v∧Below w0.heap.size w0 d∧xy w0 d M (fun _=>False) v f) a w
def cn.front(m:jL P T)(u:bU P Γ)(v:P.follows .mixedOrders=true){α β:Type}{A:ki α}{F:α->Option β}{R:β->RK}{f:FuncId}{b:Func}{c:Code}{k:Nat}{J:β->(Nat->D)->(Nat->Option Row)->Nat->Prop}(o:P.funcs[f]? = some b)(p:b.body=some c)(d:(codeOk (nK k c)&&spine k c)=true)
  (y:(b.name == "runtime.NumGoroutine")=false∧b.body.isNone=false) (z:∀a,(A.ds a).length<=b.ntmps) (i:b.ntmps<=1000000) (h:∀a r,F a=some r->Of T Γ FU k b (A.ds a) (tn T b.results.toList (R r,none) (J r))) (B:∀r,FG P b (lX k c) (R r) (J r)):cn P f (ew A F R) where
 calls bY K rk out C:=by
  obtain⟨rfl,rfl,a,r,rfl,E,rfl⟩:=vt C;rw[akP]at d;intro w M L G e;obtain⟨N,g,x,s,H,j⟩:=h a r E;rw[p]at g;cases g;apply calls_of_wp o p;refine El m u v k c (cF none (A.ds a)) x s _ _ d.2 H d.1 (SF G e (z a) (by rw[eD];exact i)) ?_ ?_
  ·rintro rfl q t l;exact B r w M s q t j l
  ·intro I q t l;cases x with
   | normal=>exact absurd rfl I
   | exit n=>exact j.elim
   | ret=>exact CH m l j
 callable:=⟨b,o,y⟩
end
end Go.Proofs.YtobnihfgnbnncaaGreat.Am
namespace Go.Proofs.YtobnihfgnbnncaaGreat.P
open Go.RowKit
structure aN where
 aq:Int
 aa:(List Int)
structure ak where
 bX:aN
 b8:aN
structure tS where
 bn:Int
 aX:Int
 aV:Int
 M3:ByteArray
structure ie where
 bQ:Int
 aV:Int
structure gY where
 bn:Int
 aX:Int
 aV:Int
structure fh where
 au:(List gY)
 aQ:(List tS)
 aO:(List (List ak))
structure bz where
 az:fh
 ba:(List ie)
 aF:(List Int)
structure aU where
 av:(List Int)
 an:(List bz)
structure cA where
 db:Int
 jM:Int
 fj:ak
structure fW where
 aF:Int
 aZ:(List cA)
structure fU where
 qf:Int
 jh:ak
structure aJ where
 bK:ak
 cB:(List fU)
def qQ(b:(List Int)):Bd (Int) ((Int))
 | a =>
  if decide (a>0) then
   (P.idx b (IntKind.i64.wrap (a-1))).bind fun c =>
   if (c==0) then
    some (.inl (IntKind.i64.wrap (a-1)))
   else
    some (.inr a)
  else
   some (.inr a)
def fH(b:(List Int)):Option ((List Int)) :=
 (aT (qQ b) (b.length:Int)).bind fun a =>
 (Fs b 0 a).bind fun c =>
 some c
def eh(b:Int)(c:(List Int)):Option (aN) :=
 (fH c).bind fun a =>
 if ((a.length:Int)==0) then
  some (aN.mk 0 ([]))
 else
  some (aN.mk b a)
def zc:Bd (Int×(List Int)) (((List Int)))
 | (a,b) =>
  if decide (a>0) then
   (oQ 8 b [IntKind.i64.wrap (nd .and .u64 a 1048575)]).bind fun d =>
   (Ba .u64 a 20).bind fun c =>
   some (.inl (c,d))
  else
   some (.inr b)
def vZ(d:Int):Option (aN) :=
 (if decide (d<0) then
  some ((-1),IntKind.u64.wrap (0-(IntKind.u64.wrap d)))
 else
  some (1,IntKind.u64.wrap d)).bind fun q=>match q with
 | (a,b) =>
  (aT (zc) (b,[])).bind fun c =>
  (eh a c).bind fun e =>
  some e
def rZ(b:aN):Bd (Int) ((Unit)⊕(Bool))
 | a =>
  if decide (a<(b.aa.length:Int)) then
   (P.idx b.aa a).bind fun c =>
   if decide (c<0) then
    some (.inr (.inr false))
   else
    if decide (c>1048575) then
     some (.inr (.inr false))
    else
     some (.inl (IntKind.i64.wrap (a+1)))
  else
   some (.inr (.inl ()))
def dG(a:aN):Option (Bool) :=
 (aT (rZ a) 0).bind fun q=>match q with
 | (.inl _) =>
  if ((a.aa.length:Int)==0) then
   some (a.aq==0)
  else
   if (a.aq==1) then
    (P.idx a.aa (IntKind.i64.wrap ((a.aa.length:Int)-1))).bind fun b =>
    some (b != 0)
   else
    if (a.aq==(-1)) then
     (P.idx a.aa (IntKind.i64.wrap ((a.aa.length:Int)-1))).bind fun c =>
     some (c != 0)
    else
     some false
 | (.inr d) =>
  some d
def cu(a:(List Int)):Option (List Int):=oQ 8 [] a
def rY(a:aN):Option (aN) :=
 (dG a).bind fun b =>
 if (!b) then
  some (aN.mk 0 ([]))
 else
  (cu a.aa).bind fun c =>
  (eh (IntKind.i64.wrap (0-a.aq)) c).bind fun d =>
  some d
def fG(a:Bool)(b:aN):Option (aN×Int) :=
 if (!a) then
  some ((aN.mk 0 ([])),1)
 else
  some (b,0)
def su(a:Int):Option (Bool) :=
 some (a != a)
def gQ(a:Int)(p1:Int):Option (Int) :=
 (su a).bind fun c =>
 (su p1).bind fun b =>
 if c then
  if b then
   some 0
  else
   some (-1)
 else
  if b then
   some 1
  else
   if decide (a<p1) then
    some (-1)
   else
    if decide (a>p1) then
     some 1
    else
     some 0
def oR(e:(List Int))(f:(List Int)):Bd (Int) ((Unit)⊕(Int))
 | a =>
  if decide (a>=0) then
   (P.idx e a).bind fun b =>
   (P.idx f a).bind fun c =>
   if (b != c) then
    (gQ b c).bind fun d =>
    some (.inr (.inr d))
   else
    some (.inl (IntKind.i64.wrap (a-1)))
  else
   some (.inr (.inl ()))
def iA(a:(List Int))(b:(List Int)):Option (Int) :=
 if ((a.length:Int) != (b.length:Int)) then
  (gQ (a.length:Int) (b.length:Int)).bind fun c =>
  some c
 else
  (aT (oR a b) (IntKind.i64.wrap ((a.length:Int)-1))).bind fun q=>match q with
  | (.inl _) =>
   some 0
  | (.inr d) =>
   some d
def sb(i:(List Int))(h:Int):Bd (Int×Int×(List Int)) ((Int×(List Int)))
 | (c,a,b) =>
  if decide (a>=0) then
   (Jy .i64 c 20).bind fun d =>
   (P.idx i a).bind fun e =>
   (X8 .i64 (nd .or .i64 d e) h).bind fun f =>
   (P.idx b a).bind fun j =>
   (Q9 .i64 (nd .or .i64 d e) h).bind fun g =>
   some (.inl (g,IntKind.i64.wrap (a-1),(b.set (a).toNat f)))
  else
   some (.inr (c,b))
def pZ(c:(List Int))(e:Int):Option ((List Int)×Int) :=
 (Hr 8 (c.length:Int) (c.length:Int) 0).bind fun f =>
 (aT (sb c e) (0,IntKind.i64.wrap ((c.length:Int)-1),f)).bind fun q=>match q with
 | (a,b) =>
  (fH b).bind fun d =>
  some (d,a)
def we(i:(List Int))(b:Int)(e:Int):Bd (Int×Int×(List Int)) ((Int×(List Int)))
 | (c,a,d) =>
  if decide (a<(i.length:Int)) then
   (P.idx i a).bind fun f =>
   (P.idx d (IntKind.i64.wrap (b+a))).bind fun g =>
   (Ba .i64 (IntKind.i64.wrap ((IntKind.i64.wrap (g+(IntKind.i64.wrap (e*f))))+c)) 20).bind fun h =>
   some (.inl (h,IntKind.i64.wrap (a+1),(d.set (IntKind.i64.wrap (b+a)).toNat (nd .and .i64 (IntKind.i64.wrap ((IntKind.i64.wrap (g+(IntKind.i64.wrap (e*f))))+c)) 1048575))))
  else
   some (.inr (c,d))
def wc(h:(List Int))(e:(List Int)):Bd (Int×(List Int)) (((List Int)))
 | (a,c) =>
  if decide (a<(h.length:Int)) then
   (P.idx h a).bind fun f =>
   (aT (we e a f) (0,0,c)).bind fun q=>match q with
   | (d,b) =>
    (P.idx b (IntKind.i64.wrap (a+(e.length:Int)))).bind fun g =>
    some (.inl (IntKind.i64.wrap (a+1),(b.set (IntKind.i64.wrap (a+(e.length:Int))).toNat (IntKind.i64.wrap (g+d)))))
  else
   some (.inr c)
def sa(b:(List Int))(c:(List Int)):Option ((List Int)) :=
 (Hr 8 (IntKind.i64.wrap ((b.length:Int)+(c.length:Int))) (IntKind.i64.wrap ((b.length:Int)+(c.length:Int))) 0).bind fun e =>
 (aT (wc b c) (0,e)).bind fun a =>
 (fH a).bind fun d =>
 some d
def nH(i:(List Int))(h:(List Int))(j:Int):Bd (Int×Int×(List Int)) ((Int×(List Int)))
 | (c,a,d) =>
  if decide (a<((i).length:Int)) then
   (P.idx d a).bind fun e =>
   (if decide (a<(h.length:Int)) then
    (P.idx h a).bind fun f =>
    some (IntKind.i64.wrap ((IntKind.i64.wrap (e-c))-(IntKind.i64.wrap (j*f))))
   else
    some (IntKind.i64.wrap (e-c))).bind fun b =>
   (Ba .i64 b 20).bind fun g =>
   some (.inl (IntKind.i64.wrap (0-g),IntKind.i64.wrap (a+1),(d.set (a).toNat (nd .and .i64 b 1048575))))
  else
   some (.inr (c,d))
def nI(i:(List Int))(e:(List Int)):Bd (Int×Int×(List Int)) (((List Int)))
 | (c,a,d) =>
  if decide (a<((e).length:Int)) then
   (P.idx d a).bind fun f =>
   (if decide (a<(i.length:Int)) then
    (P.idx i a).bind fun g =>
    some (IntKind.i64.wrap ((IntKind.i64.wrap (c+f))+g))
   else
    some (IntKind.i64.wrap (c+f))).bind fun b =>
   (Ba .i64 b 20).bind fun h =>
   some (.inl (h,IntKind.i64.wrap (a+1),(d.set (a).toNat (nd .and .i64 b 1048575))))
  else
   some (.inr d)
def sW(e:(List Int))(f:(List Int))(d:Int):Option ((List Int)×(Int)) :=
 (aT (nH e f d) (0,0,e)).bind fun q=>match q with
 | (b,a) =>
  if (b==0) then
   some (a,d)
  else
   (aT (nI f a) (0,0,a)).bind fun c =>
   some (c,IntKind.i64.wrap (d-1))
def il(a:(List Int))(b:(List Int))(c:Int):Option ((List Int)×(Int)):=(sW a b c).bind fun r=>if r.1.length=a.length then some r else none
def C8{a:(List Int)}{b:(List Int)}{c:Int}{r:(List Int)×(Int)}(h:il a b c=some r):r.1.length=a.length:=by
 unfold il at h;obtain⟨q,d,h⟩:=ae h;split at h
 ·cases h;assumption
 ·cases h
def v8(c:(List Int)):Bd (Int) ((Int))
 | a =>
  (P.idx c (IntKind.i64.wrap ((c.length:Int)-1))).bind fun b =>
  if decide ((IntKind.i64.wrap (b*a))<524288) then
   some (.inl (IntKind.i64.wrap (a*2)))
  else
   some (.inr a)
def wb(d:(List Int))(e:Int)(f:(List Int))(g:Int):Bd (Int×Int) ((Int))
 | (a,b) =>
  (if decide (a>=1048576) then
   some true
  else
   if decide (b<1048576) then
    (P.idx d (IntKind.i64.wrap (((d).length:Int)-2))).bind fun h =>
    (Jy .i64 b 20).bind fun i =>
    (P.idx f (IntKind.i64.wrap ((IntKind.i64.wrap (e+((d).length:Int)))-2))).bind fun j =>
    some (decide ((IntKind.i64.wrap (a*h))>(nd .or .i64 i j)))
   else
    some false).bind fun c =>
  if c then
   some (.inl (IntKind.i64.wrap (a-1),IntKind.i64.wrap (b+g)))
  else
   some (.inr a)
def wa(b:(List Int)):Bd (Int×(List Int)×(List Int)) (((List Int)×(List Int)))
 | (a,c,d) =>
  if decide (a>=0) then
   (P.idx c (IntKind.i64.wrap (a+((b).length:Int)))).bind fun j =>
   (Jy .i64 j 20).bind fun g =>
   (P.idx c (IntKind.i64.wrap ((IntKind.i64.wrap (a+((b).length:Int)))-1))).bind fun h =>
   (P.idx b (IntKind.i64.wrap (((b).length:Int)-1))).bind fun e =>
   (X8 .i64 (nd .or .i64 g h) e).bind fun k =>
   (Q9 .i64 (nd .or .i64 g h) e).bind fun l =>
   (aT (wb b a c e) (k,l)).bind fun f =>
   (Fs c a (IntKind.i64.wrap ((IntKind.i64.wrap (a+((b).length:Int)))+1))).bind fun m =>
   (il m b f).bind fun i =>
   (P.idx d a).bind fun n =>
   some (.inl (IntKind.i64.wrap (a-1),(c.take (a).toNat++(i.1++c.drop (IntKind.i64.wrap ((IntKind.i64.wrap (a+((b).length:Int)))+1)).toNat)),(d.set (a).toNat i.2)))
  else
   some (.inr (c,d))
def v7(f:(List Int))(g:(List Int)):Option ((List Int)×(List Int)) :=
 (iA f g).bind fun p =>
 if decide (p<0) then
  (cu f).bind fun r =>
  some ([],r)
 else
  if ((g.length:Int)==1) then
   (P.idx g 0).bind fun s =>
   (pZ f s).bind fun o =>
   (fH ([o.2])).bind fun t =>
   some (o.1,t)
  else
   (aT (v8 g) 1).bind fun a =>
   (sa f ([a])).bind fun j =>
   (oQ 8 j [0]).bind fun c =>
   (sa g ([a])).bind fun d =>
   (if (((c).length:Int)==(f.length:Int)) then
    (oQ 8 c [0]).bind fun k =>
    some k
   else
    some c).bind fun b =>
   (Hr 8 (IntKind.i64.wrap (((b).length:Int)-((d).length:Int))) (IntKind.i64.wrap (((b).length:Int)-((d).length:Int))) 0).bind fun h =>
   (aT (wa d) (IntKind.i64.wrap (((h).length:Int)-1),b,h)).bind fun q=>match q with
   | (i,e) =>
    (fH i).bind fun l =>
    (pZ l a).bind fun m =>
    (fH e).bind fun n =>
    some (n,m.1)
def sS:Bd ((List Int)×(List Int)) (((List Int)))
 | (b,a) =>
  if decide ((a.length:Int)>0) then
   (v7 b a).bind fun c =>
   some (.inl (a,c.2))
  else
   some (.inr b)
def uc(g:aN)(h:aN):Option (aN×Int) :=
 (dG g).bind fun j =>
 (if (!j) then
  some true
 else
  (dG h).bind fun d =>
  some (!d)).bind fun a =>
 if a then
  (fG false (aN.mk 0 ([]))).bind fun i =>
  some (i.1,i.2)
 else
  (cu g.aa).bind fun k =>
  (aT (sS) (k,h.aa)).bind fun b =>
  (cu b).bind fun e =>
  (eh 1 e).bind fun f =>
  (fG true f).bind fun c =>
  some (c.1,c.2)
def sV(b:(List Int))(c:(List Int)):Bd (Int×Int×(List Int)) ((Int×(List Int)))
 | (e,a,f) =>
  if decide (a<(b.length:Int)) then
   (P.idx b a).bind fun g =>
   (if decide (a<(c.length:Int)) then
    (P.idx c a).bind fun h =>
    some (IntKind.i64.wrap ((IntKind.i64.wrap (e+g))+h))
   else
    some (IntKind.i64.wrap (e+g))).bind fun d =>
   (P.idx f a).bind fun j =>
   (Ba .i64 d 20).bind fun i =>
   some (.inl (i,IntKind.i64.wrap (a+1),(f.set (a).toNat (nd .and .i64 d 1048575))))
  else
   some (.inr (e,f))
def ud(e:(List Int))(f:(List Int)):Option ((List Int)) :=
 (if decide ((e.length:Int)<(f.length:Int)) then
  some (f,e)
 else
  some (e,f)).bind fun q=>match q with
 | (a,c) =>
  (Hr 8 (IntKind.i64.wrap ((a.length:Int)+1)) (IntKind.i64.wrap ((a.length:Int)+1)) 0).bind fun h =>
  (aT (sV a c) (0,0,h)).bind fun q=>match q with
  | (d,b) =>
   (P.idx b (a.length:Int)).bind fun i =>
   (fH (b.set ((a.length:Int)).toNat d)).bind fun g =>
   some g
def wg(h:(List Int))(i:(List Int)):Bd (Int×Int×(List Int)) (((List Int)))
 | (d,a,c) =>
  if decide (a<((i).length:Int)) then
   (P.idx c a).bind fun e =>
   (if decide (a<(h.length:Int)) then
    (P.idx h a).bind fun f =>
    some (IntKind.i64.wrap ((IntKind.i64.wrap (e-d))-f))
   else
    some (IntKind.i64.wrap (e-d))).bind fun b =>
   (Ba .i64 b 20).bind fun g =>
   some (.inl (nd .and .i64 g 1,IntKind.i64.wrap (a+1),(c.set (a).toNat (nd .and .i64 b 1048575))))
  else
   some (.inr c)
def ue(d:(List Int))(e:(List Int)):Option ((List Int)) :=
 (cu d).bind fun c =>
 (aT (wg e c) (0,0,c)).bind fun a =>
 (fH a).bind fun b =>
 some b
def rX(c:aN)(a:aN):Option (aN×aN×Int) :=
 (dG c).bind fun l =>
 (if (!l) then
  some true
 else
  (dG a).bind fun f =>
  some (!f)).bind fun d =>
 if d then
  some ((aN.mk 0 ([])),(aN.mk 0 ([])),1)
 else
  if (a.aq==0) then
   some ((aN.mk 0 ([])),(aN.mk 0 ([])),15)
  else
   (v7 c.aa a.aa).bind fun e =>
   (if decide ((IntKind.i64.wrap (c.aq*a.aq))<0) then
    some (decide ((e.2.length:Int)>0))
   else
    some false).bind fun b =>
   if b then
    (ud e.1 ([1])).bind fun m =>
    (eh (-1) m).bind fun g =>
    (ue a.aa e.2).bind fun h =>
    (eh a.aq h).bind fun i =>
    some (g,i,0)
   else
    (eh (IntKind.i64.wrap (c.aq*a.aq)) e.1).bind fun j =>
    (eh c.aq e.2).bind fun k =>
    some (j,k,0)
def oX(i:aN)(f:aN):Option (ak×Int) :=
 (dG i).bind fun l =>
 (if (!l) then
  some true
 else
  (dG f).bind fun j =>
  some (!j)).bind fun e =>
 if e then
  some ((ak.mk (aN.mk 0 ([])) (aN.mk 0 ([]))),1)
 else
  if (f.aq==0) then
   some ((ak.mk (aN.mk 0 ([])) (aN.mk 0 ([]))),15)
  else
   (if decide (f.aq<0) then
    (rY i).bind fun g =>
    (rY f).bind fun h =>
    some (g.aq,g.aa,h.aq,h.aa)
   else
    some (i.aq,i.aa,f.aq,f.aa)).bind fun q=>match q with
   | (a,b,c,d) =>
    (uc (aN.mk a b) (aN.mk c d)).bind fun k =>
    (rX (aN.mk a b) k.1).bind fun m =>
    (rX (aN.mk c d) k.1).bind fun n =>
    some ((ak.mk m.1 n.1),0)
def uj(b:Int)(c:Int):Option (ak×Int) :=
 (vZ b).bind fun d =>
 (vZ c).bind fun e =>
 (oX d e).bind fun a =>
 some (a.1,a.2)
def tu(a:Int)(b:Int):Option (ak) :=
 (uj a b).bind fun c =>
 some c.1
def um:Option (aU×(List (List ak))) :=
 (tu 1 1).bind fun b =>
 (tu 1 2).bind fun c =>
 (tu 0 1).bind fun a =>
 (tu 30 1).bind fun d =>
 some ((aU.mk ([10,4]) ([(bz.mk (fh.mk ([(gY.mk 0 0 0),(gY.mk 1 0 0)]) ([(tS.mk 0 0 0 (ByteArray.mk #[])),(tS.mk 2 0 0 (ByteArray.mk #[104,101,97,116]))]) ([[b,c],[a,c]])) ([(ie.mk 1 2)]) ([0])),(bz.mk (fh.mk ([(gY.mk 1 0 0)]) ([(tS.mk 0 0 0 (ByteArray.mk #[]))]) ([[b]])) ([(ie.mk 0 5)]) ([1]))])),[[d,a],[a]])
def fB(a:Int)(b:Int)(c:Int):Option (Bool) :=
 if decide (a>=b) then
  some (decide (a<=c))
 else
  some false
def gm(a:Int):Option (ak) :=
 (vZ a).bind fun b =>
 (vZ 1).bind fun c =>
 some (ak.mk b c)
def vY(f:aN):Bd (Int×Int) ((Int)⊕(Int×Bool))
 | (c,a) =>
  if decide (a<(f.aa.length:Int)) then
   (P.idx f.aa a).bind fun d =>
   (if (a==3) then
    some (decide (d>8))
   else
    some false).bind fun b =>
   if b then
    some (.inr (.inr (0,false)))
   else
    (Jy .u64 (IntKind.u64.wrap d) (IntKind.i64.wrap (20*a))).bind fun e =>
    some (.inl (nd .or .u64 c e,IntKind.i64.wrap (a+1)))
  else
   some (.inr (.inl c))
def za(d:aN):Option (Int×Bool) :=
 (dG d).bind fun e =>
 (if (!e) then
  some true
 else
  some (decide ((d.aa.length:Int)>4))).bind fun b =>
 if b then
  some (0,false)
 else
  (aT (vY d) (0,0)).bind fun q=>match q with
  | (.inl a) =>
   (if decide (d.aq<0) then
    some (decide (a<=9223372036854775808))
   else
    some false).bind fun c =>
   if c then
    some (IntKind.i64.wrap (IntKind.u64.wrap (0-a)),true)
   else
    if decide (d.aq>=0) then
     if decide (a<9223372036854775808) then
      some (IntKind.i64.wrap a,true)
     else
      some (0,false)
    else
     some (0,false)
  | (.inr f) =>
   some f
def vl(b:aN):Option (Bool) :=
 (za b).bind fun a =>
 if a.2 then
  some (a.1==1)
 else
  some false
def cV(b:ak):Option (Bool) :=
 (dG b.bX).bind fun d =>
 (if (!d) then
  some true
 else
  (dG b.b8).bind fun e =>
  if (!e) then
   some true
  else
   some (b.b8.aq != 1)).bind fun a =>
 if a then
  some false
 else
  (uc b.bX b.b8).bind fun c =>
  if (c.2==0) then
   (vl c.1).bind fun f =>
   some f
  else
   some false
def iF(a:ak):Option (Int) :=
 (cV a).bind fun b =>
 if (!b) then
  some 0
 else
  some a.bX.aq
def zb(b:aN)(c:aN):Option (aN×Int) :=
 (dG b).bind fun g =>
 (if (!g) then
  some true
 else
  (dG c).bind fun d =>
  some (!d)).bind fun a =>
 if a then
  (fG false (aN.mk 0 ([]))).bind fun e =>
  some (e.1,e.2)
 else
  (sa b.aa c.aa).bind fun h =>
  (eh (IntKind.i64.wrap (b.aq*c.aq)) h).bind fun i =>
  (fG true i).bind fun f =>
  some (f.1,f.2)
def cW(a:aN)(b:aN):Option (aN) :=
 (zb a b).bind fun c =>
 some c.1
def zf(b:(List Int)):Bd (Int) ((Unit)⊕(Int))
 | a =>
  if decide (a<(b.length:Int)) then
   (P.idx b a).bind fun c =>
   if (c != 0) then
    some (.inr (.inr c))
   else
    some (.inl (IntKind.i64.wrap (a+1)))
  else
   some (.inr (.inl ()))
def xO(a:(List Int)):Option (Int) :=
 (aT (zf a) 0).bind fun q=>match q with
 | (.inl _) =>
  some 0
 | (.inr b) =>
  some b
def y9(a:aN)(b:aN):Option (aN×Int) :=
 (dG a).bind fun o =>
 (if (!o) then
  some true
 else
  (dG b).bind fun g =>
  some (!g)).bind fun c =>
 if c then
  (fG false (aN.mk 0 ([]))).bind fun n =>
  some (n.1,n.2)
 else
  if decide ((IntKind.i64.wrap (a.aq*b.aq))>=0) then
   (xO ([a.aq,b.aq])).bind fun p =>
   (ud a.aa b.aa).bind fun q =>
   (eh p q).bind fun h =>
   (fG true h).bind fun d =>
   some (d.1,d.2)
  else
   (iA a.aa b.aa).bind fun i =>
   if decide (i<0) then
    (ue b.aa a.aa).bind fun j =>
    (eh b.aq j).bind fun k =>
    (fG true k).bind fun e =>
    some (e.1,e.2)
   else
    (ue a.aa b.aa).bind fun l =>
    (eh a.aq l).bind fun m =>
    (fG true m).bind fun f =>
    some (f.1,f.2)
def nk(b:ak)(c:ak):Option (ak×Int) :=
 (cV b).bind fun f =>
 (if (!f) then
  some true
 else
  (cV c).bind fun d =>
  some (!d)).bind fun a =>
 if a then
  some ((ak.mk (aN.mk 0 ([])) (aN.mk 0 ([]))),1)
 else
  (cW b.bX c.b8).bind fun g =>
  (cW c.bX b.b8).bind fun h =>
  (y9 g h).bind fun i =>
  (cW b.b8 c.b8).bind fun j =>
  (oX i.1 j).bind fun e =>
  some (e.1,e.2)
def sj(a:ak)(b:ak):Option (ak) :=
 (nk a b).bind fun c =>
 some c.1
def og(b:aN)(c:aN):Option (Int) :=
 (dG b).bind fun d =>
 (if (!d) then
  some true
 else
  (dG c).bind fun e =>
  some (!e)).bind fun a =>
 if a then
  some 0
 else
  if (b.aq != c.aq) then
   (gQ b.aq c.aq).bind fun f =>
   some f
  else
   (iA b.aa c.aa).bind fun g =>
   some (IntKind.i64.wrap (b.aq*g))
def kl(b:ak)(c:ak):Option (Int) :=
 (cV b).bind fun d =>
 (if (!d) then
  some true
 else
  (cV c).bind fun e =>
  some (!e)).bind fun a =>
 if a then
  some 0
 else
  (cW b.bX c.b8).bind fun f =>
  (cW c.bX b.b8).bind fun g =>
  (og f g).bind fun h =>
  some h
def sk(j:(List ak)):Bd (Int×Int×(List Int)×Int×(List Int)) ((Int×(List Int)×Int×(List Int))⊕(Bool))
 | (f,a,b,c,d) =>
  if decide (f<(j.length:Int)) then
   (P.idx j f).bind fun g =>
   (cV g).bind fun h =>
   if (!h) then
    some (.inr (.inr false))
   else
    (iF g).bind fun i =>
    if decide (i<0) then
     some (.inr (.inr false))
    else
     (sj (ak.mk (aN.mk a b) (aN.mk c d)) g).bind fun e =>
     some (.inl (IntKind.i64.wrap (f+1),e.bX.aq,e.bX.aa,e.b8.aq,e.b8.aa))
  else
   some (.inr (.inl (a,b,c,d)))
def sC(h:(List ak)):Option (Bool) :=
 (gm 0).bind fun e =>
 (aT (sk h) (0,e.bX.aq,e.bX.aa,e.b8.aq,e.b8.aa)).bind fun q=>match q with
 | (.inl (a,b,c,d)) =>
  (gm 1).bind fun f =>
  (kl (ak.mk (aN.mk a b) (aN.mk c d)) f).bind fun g =>
  some (g==0)
 | (.inr i) =>
  some i
def mC(c:fh):Bd (Int) ((Unit)⊕(Bool))
 | a =>
  if decide (a<(c.aQ.length:Int)) then
   (P.idx c.aQ a).bind fun b =>
   (fB b.bn 0 3).bind fun d =>
   if (!d) then
    some (.inr (.inr false))
   else
    if decide (b.aX<0) then
     some (.inr (.inr false))
    else
     (P.idx c.aO a).bind fun e =>
     if ((e.length:Int) != (c.au.length:Int)) then
      some (.inr (.inr false))
     else
      some (.inl (IntKind.i64.wrap (a+1)))
  else
   some (.inr (.inl ()))
def iI(f:fh)(c:Int):Bd (Int×(List ak)) (((List ak)))
 | (a,b) =>
  if decide (a<(f.aQ.length:Int)) then
   (P.idx f.aO a).bind fun d =>
   (P.idx d c).bind fun e =>
   (P.idx b a).bind fun g =>
   some (.inl (IntKind.i64.wrap (a+1),(b.set (a).toNat e)))
  else
   some (.inr b)
def mD(b:fh):Bd (Int) ((Unit)⊕(Bool))
 | a =>
  if decide (a<(b.au.length:Int)) then
   (P.idx b.au a).bind fun c =>
   (Hr 64 (b.aQ.length:Int) (b.aQ.length:Int) (ak.mk (aN.mk 0 ([])) (aN.mk 0 ([])))).bind fun e =>
   (aT (iI b a) (0,e)).bind fun d =>
   (fB c.bn 0 2).bind fun f =>
   if (!f) then
    some (.inr (.inr false))
   else
    if decide (c.aX<0) then
     some (.inr (.inr false))
    else
     (sC d).bind fun g =>
     if (!g) then
      some (.inr (.inr false))
     else
      some (.inl (IntKind.i64.wrap (a+1)))
  else
   some (.inr (.inl ()))
def kS(b:fh):Option (Bool) :=
 (if decide ((b.au.length:Int)>100) then
  some true
 else
  if decide ((b.aQ.length:Int)>100) then
   some true
  else
   some ((b.aO.length:Int) != (b.aQ.length:Int))).bind fun a =>
 if a then
  some false
 else
  (aT (mC b) 0).bind fun q=>match q with
  | (.inl _) =>
   (aT (mD b) 0).bind fun q=>match q with
   | (.inl _) =>
    some true
   | (.inr rc) =>
    some rc
  | (.inr c) =>
   some c
def qo(a:ie)(b:Int):Option (Bool) :=
 (fB a.bQ 0 (IntKind.i64.wrap (b-1))).bind fun c =>
 if (!c) then
  some true
 else
  (fB a.aV 1 1099511627776).bind fun d =>
  some (!d)
def qp(a:Int)(b:Int):Option (Bool) :=
 (fB a 0 (IntKind.i64.wrap (b-1))).bind fun c =>
 some (!c)
def qO(a:(List Int)):Option (List Int):=Od a
def dn(a:(List Int)):Option (List Int):=Ft a
def pk(b:(List Int)):Bd (Int) ((Unit)⊕(Bool))
 | a =>
  if decide (a<((b).length:Int)) then
   (P.idx b a).bind fun c =>
   if (a != c) then
    some (.inr (.inr false))
   else
    some (.inl (IntKind.i64.wrap (a+1)))
  else
   some (.inr (.inl ()))
def lO(b:(List Int))(c:Int):Option (Bool) :=
 (qO b).bind fun d =>
 (dn d).bind fun a =>
 (aT (pk a) 0).bind fun q=>match q with
 | (.inl _) =>
  some (((a).length:Int)==c)
 | (.inr e) =>
  some e
def dM(c:(List ie))(b:Int):Bd (Int) ((Unit)⊕(Int))
 | a =>
  if decide (a<(c.length:Int)) then
   (P.idx c a).bind fun d =>
   (qo d b).bind fun e =>
   if e then
    some (.inr (.inr a))
   else
    some (.inl (IntKind.i64.wrap (a+1)))
  else
   some (.inr (.inl ()))
def dp(b:(List ie))(a:Int):Option (Int) :=
 (aT (dM b a) 0).bind fun q=>match q with
 | (.inl _) =>
  some (-1)
 | (.inr c) =>
  some c
def cr(b:(List ie))(a:Int):Option (Bool) :=
 (dp b a).bind fun c =>
 some (decide (c>=0))
def dN(c:(List Int))(b:Int):Bd (Int) ((Unit)⊕(Int))
 | a =>
  if decide (a<(c.length:Int)) then
   (P.idx c a).bind fun d =>
   (qp d b).bind fun e =>
   if e then
    some (.inr (.inr a))
   else
    some (.inl (IntKind.i64.wrap (a+1)))
  else
   some (.inr (.inl ()))
def dq(b:(List Int))(a:Int):Option (Int) :=
 (aT (dN b a) 0).bind fun q=>match q with
 | (.inl _) =>
  some (-1)
 | (.inr c) =>
  some c
def ct(b:(List Int))(a:Int):Option (Bool) :=
 (dq b a).bind fun c =>
 some (decide (c>=0))
def ou(e:bz):Bd (Int×(List Int)) (((List Int)))
 | (a,b) =>
  if decide (a<(e.az.au.length:Int)) then
   (P.idx e.az.au a).bind fun c =>
   if (c.bn==1) then
    (oQ 8 b [c.aX]).bind fun d =>
    some (.inl (IntKind.i64.wrap (a+1),d))
   else
    some (.inl (IntKind.i64.wrap (a+1),b))
  else
   some (.inr b)
def ov(e:bz):Bd (Int×(List Int)) (((List Int)))
 | (a,b) =>
  if decide (a<(e.az.aQ.length:Int)) then
   (P.idx e.az.aQ a).bind fun c =>
   if (c.bn==0) then
    (oQ 8 b [c.aX]).bind fun d =>
    some (.inl (IntKind.i64.wrap (a+1),d))
   else
    some (.inl (IntKind.i64.wrap (a+1),b))
  else
   some (.inr b)
def vu(a:bz)(h:Int):Option (Bool) :=
 (kS a.az).bind fun i =>
 if (!i) then
  some false
 else
  (aT (ou a) (0,[])).bind fun b =>
  (aT (ov a) (0,[])).bind fun c =>
  (lO b (a.ba.length:Int)).bind fun d =>
  if d then
   (lO c (a.aF.length:Int)).bind fun e =>
   if e then
    (cr a.ba h).bind fun f =>
    if (!f) then
     (ct a.aF h).bind fun g =>
     some (!g)
    else
     some false
   else
    some false
  else
   some false
def mo(c:aU):Bd (Int) ((Unit)⊕(Int×Int))
 | a =>
  if decide (a<(c.av.length:Int)) then
   (P.idx c.av a).bind fun d =>
   (fB d 1 1099511627776).bind fun b =>
   if (!b) then
    some (.inr (.inr (3,a)))
   else
    some (.inl (IntKind.i64.wrap (a+1)))
  else
   some (.inr (.inl ()))
def mq(c:bz):Bd (Int×(List Int)) (((List Int)))
 | (a,b) =>
  if decide (a<(c.aF.length:Int)) then
   (P.idx c.aF a).bind fun d =>
   (P.idx b d).bind fun e =>
   some (.inl (IntKind.i64.wrap (a+1),(b.set (d).toNat (IntKind.i64.wrap (e+1)))))
  else
   some (.inr b)
def mu(d:bz):Bd (Int×(List Int)) (((List Int)))
 | (a,c) =>
  if decide (a<(d.ba.length:Int)) then
   (P.idx d.ba a).bind fun b =>
   (P.idx c b.bQ).bind fun e =>
   some (.inl (IntKind.i64.wrap (a+1),(c.set (b.bQ).toNat (if 1099511627777<(IntKind.i64.wrap (e+b.aV)) then 1099511627777 else IntKind.i64.wrap (e+b.aV)))))
  else
   some (.inr c)
def kq(g:aU):Bd (Int×(List Int)×(List Int)) (((List Int)×(List Int))⊕(Int×Int))
 | (a,c,d) =>
  if decide (a<(g.an.length:Int)) then
   (P.idx g.an a).bind fun b =>
   (vu b (g.av.length:Int)).bind fun h =>
   if (!h) then
    some (.inr (.inr (1,a)))
   else
    (aT (mq b) (0,c)).bind fun e =>
    (aT (mu b) (0,d)).bind fun f =>
    some (.inl (IntKind.i64.wrap (a+1),e,f))
  else
   some (.inr (.inl (c,d)))
def mv(b:(List Int)):Bd (Int) ((Unit)⊕(Int×Int))
 | a =>
  if decide (a<((b).length:Int)) then
   (P.idx b a).bind fun c =>
   if (c==0) then
    some (.inr (.inr (21,a)))
   else
    if decide (c>1) then
     some (.inr (.inr (5,a)))
    else
     some (.inl (IntKind.i64.wrap (a+1)))
  else
   some (.inr (.inl ()))
def mw(d:aU)(b:(List Int)):Bd (Int) ((Unit)⊕(Int×Int))
 | a =>
  if decide (a<((b).length:Int)) then
   (P.idx b a).bind fun c =>
   (P.idx d.av a).bind fun x76 =>
   if decide (c>x76) then
    some (.inr (.inr (25,a)))
   else
    some (.inl (IntKind.i64.wrap (a+1)))
  else
   some (.inr (.inl ()))
def ot(a:aU):Option (Int×Int) :=
 (if decide ((a.av.length:Int)>2000) then
  some true
 else
  some (decide ((a.an.length:Int)>400))).bind fun b =>
 if b then
  some (6,0)
 else
  (aT (mo a) 0).bind fun q=>match q with
  | (.inl _) =>
   (Hr 8 (a.av.length:Int) (a.av.length:Int) 0).bind fun c =>
   (aT (kq a) (0,c,c)).bind fun q=>match q with
   | (.inl (d,e)) =>
    (aT (mv d) 0).bind fun q=>match q with
    | (.inl _) =>
     (aT (mw a e) 0).bind fun q=>match q with
     | (.inl _) =>
      some (0,0)
     | (.inr f) =>
      some f
    | (.inr g) =>
     some g
   | (.inr rc) =>
    some rc
  | (.inr h) =>
   some h
def ng(g:fh)(f:(List ak)):Bd (Int) ((Unit)⊕(Bool))
 | a =>
  if decide (a<(f.length:Int)) then
   (P.idx f a).bind fun b =>
   (cV b).bind fun c =>
   if (!c) then
    some (.inr (.inr false))
   else
    (P.idx g.au a).bind fun d =>
    if (d.bn==1) then
     (iF b).bind fun e =>
     if (e != 0) then
      some (.inr (.inr false))
     else
      some (.inl (IntKind.i64.wrap (a+1)))
    else
     some (.inl (IntKind.i64.wrap (a+1)))
  else
   some (.inr (.inl ()))
def p5(a:fh)(b:(List ak)):Option (Bool) :=
 if ((b.length:Int) != (a.au.length:Int)) then
  some false
 else
  (aT (ng a b) 0).bind fun q=>match q with
  | (.inl _) =>
   some true
  | (.inr c) =>
   some c
def nf(a:ak):Option (Bool) :=
 (iF a).bind fun b =>
 some (decide (b<0))
def dY(b:(List ak)):Bd (Int) ((Unit)⊕(Int))
 | a =>
  if decide (a<(b.length:Int)) then
   (P.idx b a).bind fun c =>
   (nf c).bind fun d =>
   if d then
    some (.inr (.inr a))
   else
    some (.inl (IntKind.i64.wrap (a+1)))
  else
   some (.inr (.inl ()))
def dA(a:(List ak)):Option (Int) :=
 (aT (dY a) 0).bind fun q=>match q with
 | (.inl _) =>
  some (-1)
 | (.inr b) =>
  some b
def cy(a:(List ak)):Option (Bool) :=
 (dA a).bind fun b =>
 some (decide (b>=0))
def lB(d:aU)(e:(List (List ak))):Bd (Int) ((Unit)⊕(Int))
 | a =>
  if decide (a<(d.an.length:Int)) then
   (P.idx d.an a).bind fun f =>
   (P.idx e a).bind fun b =>
   (p5 f.az b).bind fun c =>
   if (!c) then
    some (.inr (.inr 1))
   else
    some (.inl (IntKind.i64.wrap (a+1)))
  else
   some (.inr (.inl ()))
def lC(d:(List (List ak))):Bd (Int) ((Unit)⊕(Int))
 | a =>
  if decide (a<(d.length:Int)) then
   (P.idx d a).bind fun b =>
   (cy b).bind fun c =>
   if c then
    some (.inr (.inr 3))
   else
    some (.inl (IntKind.i64.wrap (a+1)))
  else
   some (.inr (.inl ()))
def lA(b:aU)(a:(List (List ak))):Option (Int) :=
 if ((a.length:Int) != (b.an.length:Int)) then
  some 1
 else
  (aT (lB b a) 0).bind fun q=>match q with
  | (.inl _) =>
   (aT (lC a) 0).bind fun q=>match q with
   | (.inl _) =>
    some 0
   | (.inr c) =>
    some c
  | (.inr d) =>
   some d
def oW(b:ak)(c:ak):Option (ak×Int) :=
 (cV b).bind fun e =>
 (if (!e) then
  some true
 else
  (cV c).bind fun f =>
  some (!f)).bind fun a =>
 if a then
  some ((ak.mk (aN.mk 0 ([])) (aN.mk 0 ([]))),1)
 else
  (cW b.bX c.bX).bind fun g =>
  (cW b.b8 c.b8).bind fun h =>
  (oX g h).bind fun d =>
  some (d.1,d.2)
def iH(g:bz)(e:Int)(c:ie)(j:ak×Int):Bd (Int×(List ((Int×Int)×ak))) (((List ((Int×Int)×ak))))
 | (a,b) =>
  if decide (a<(g.az.aQ.length:Int)) then
   (P.idx g.az.aQ a).bind fun h =>
   (if (h.bn != 0) then
    some true
   else
    (P.idx g.az.aO a).bind fun k =>
    (P.idx k e).bind fun l =>
    (iF l).bind fun m =>
    some (m==0)).bind fun f =>
   if f then
    some (.inl (IntKind.i64.wrap (a+1),b))
   else
    (P.idx g.aF h.aX).bind fun d =>
    (P.idx g.az.aO a).bind fun n =>
    (P.idx n e).bind fun o =>
    (oW j.1 o).bind fun i =>
    if pJ b (c.bQ,d) then
     (sj (ak.mk ((gI (ak.mk (aN.mk 0 ([])) (aN.mk 0 ([]))) b (c.bQ,d)).bX) ((gI (ak.mk (aN.mk 0 ([])) (aN.mk 0 ([]))) b (c.bQ,d)).b8)) i.1).bind fun p =>
     some (.inl (IntKind.i64.wrap (a+1),(tH b (c.bQ,d) p)))
    else
     some (.inl (IntKind.i64.wrap (a+1),(tH b (c.bQ,d) i.1)))
  else
   some (.inr b)
def j8(i:(List Int))(f:bz):Bd (Int×(List ((Int×Int)×ak))) (((List ((Int×Int)×ak))))
 | (a,b) =>
  if decide (a<(f.az.au.length:Int)) then
   (P.idx f.az.au a).bind fun d =>
   if (d.bn != 1) then
    some (.inl (IntKind.i64.wrap (a+1),b))
   else
    (P.idx f.ba d.aX).bind fun c =>
    (P.idx i c.bQ).bind fun g =>
    (uj c.aV g).bind fun h =>
    (aT (iH f a c h) (0,b)).bind fun e =>
    some (.inl (IntKind.i64.wrap (a+1),e))
  else
   some (.inr b)
def jJ(b:(List ((Int×Int)×ak)))(c:(List Int))(d:bz):Option ((List ((Int×Int)×ak))×(Unit)) :=
 (aT (j8 c d) (0,b)).bind fun a =>
 some (a,())
def qn(a:cA)(b:cA):Option (Int) :=
 (gQ a.db b.db).bind fun c =>
 (gQ a.jM b.jM).bind fun d =>
 (xO ([c,d])).bind fun e =>
 some e
def Fl(p:Int)(m:List ((Int×Int)×ak)):Option (fW×Int) :=
 if m.length<=8000∧(m.map (·.1)).Nodup then some (fW.mk p (rL (lq cA.db cA.jM) (m.map fun q=>cA.mk q.1.1 q.1.2 q.2)),0) else none
def sB(c:aU):Bd (Int×(List ((Int×Int)×ak))) (((List ((Int×Int)×ak))))
 | (a,b) =>
  if decide (a<(c.an.length:Int)) then
   (P.idx c.an a).bind fun e =>
   (jJ b c.av e).bind fun d =>
   some (.inl (IntKind.i64.wrap (a+1),d.1))
  else
   some (.inr b)
def AY(b:aU):Option (fW×Int) :=
 (ot b).bind fun c =>
 if (c.1 != 0) then
  some ((fW.mk 0 ([])),c.1)
 else
  (aT (sB b) (0,([]:(List ((Int×Int)×ak))))).bind fun a =>
  if decide ((a.length:Int)>8000) then
   some ((fW.mk 0 ([])),6)
  else
   Fl (b.av.length:Int) a
def kC(j:(List ak))(i:(List ak)):Bd (Int×Int×(List Int)×Int×(List Int)) ((Int×(List Int)×Int×(List Int)))
 | (a,b,c,d,e) =>
  if decide (a<(i.length:Int)) then
   (P.idx i a).bind fun k =>
   (P.idx j a).bind fun g =>
   (oW g k).bind fun h =>
   (nk (ak.mk (aN.mk b c) (aN.mk d e)) h.1).bind fun f =>
   some (.inl (IntKind.i64.wrap (a+1),f.1.bX.aq,f.1.bX.aa,f.1.b8.aq,f.1.b8.aa))
  else
   some (.inr (b,c,d,e))
def js(f:(List ak))(g:(List ak)):Option (ak) :=
 (gm 0).bind fun e =>
 (aT (kC f g) (0,e.bX.aq,e.bX.aa,e.b8.aq,e.b8.aa)).bind fun q=>match q with
 | (a,b,c,d) =>
  some (ak.mk (aN.mk a b) (aN.mk c d))
def jl(j:(List (List ak)))(d:Int)(b:bz):Bd (Int×(List ak)) (((List ak)))
 | (a,c) =>
  if decide (a<(b.az.aQ.length:Int)) then
   (P.idx b.az.aQ a).bind fun e =>
   if (e.bn==0) then
    (P.idx b.aF e.aX).bind fun f =>
    (P.idx b.az.aO a).bind fun g =>
    (P.idx j d).bind fun h =>
    (js g h).bind fun i =>
    (P.idx c f).bind fun k =>
    some (.inl (IntKind.i64.wrap (a+1),(c.set (f).toNat i)))
   else
    some (.inl (IntKind.i64.wrap (a+1),c))
  else
   some (.inr c)
def jk(e:aU)(f:(List (List ak))):Bd (Int×(List ak)) (((List ak)))
 | (a,b) =>
  if decide (a<(e.an.length:Int)) then
   (P.idx e.an a).bind fun d =>
   (aT (jl f a d) (0,b)).bind fun c =>
   some (.inl (IntKind.i64.wrap (a+1),c))
  else
   some (.inr b)
def ma(b:aU)(c:(List (List ak))):Option ((List ak)) :=
 (Hr 64 (b.av.length:Int) (b.av.length:Int) (ak.mk (aN.mk 0 ([])) (aN.mk 0 ([])))).bind fun d =>
 (aT (jk b c) (0,d)).bind fun a =>
 some a
def tl(c:ak)(b:ak):Option (ak×Int) :=
 (cV c).bind fun e =>
 (if (!e) then
  some true
 else
  (cV b).bind fun f =>
  some (!f)).bind fun a =>
 if a then
  some ((ak.mk (aN.mk 0 ([])) (aN.mk 0 ([]))),1)
 else
  (rY b.bX).bind fun g =>
  (nk c (ak.mk g b.b8)).bind fun d =>
  some (d.1,d.2)
def pg(c:(List ak)):Bd (Int×(List ak)) (((List ak)))
 | (a,b) =>
  if decide (a<((c).length:Int)) then
   (gm 1).bind fun d =>
   (P.idx b a).bind fun e =>
   some (.inl (IntKind.i64.wrap (a+1),(b.set (a).toNat d)))
  else
   some (.inr b)
def pj(f:fW):Bd (Int×(List ak)) (((List ak)))
 | (a,b) =>
  if decide (a<(f.aZ.length:Int)) then
   (P.idx f.aZ a).bind fun c =>
   (P.idx b c.db).bind fun d =>
   (tl d c.fj).bind fun e =>
   some (.inl (IntKind.i64.wrap (a+1),(b.set (c.db).toNat e.1)))
  else
   some (.inr b)
def qq(c:fW):Option ((List ak)) :=
 (Hr 64 c.aF c.aF (ak.mk (aN.mk 0 ([])) (aN.mk 0 ([])))).bind fun d =>
 (aT (pg d) (0,d)).bind fun a =>
 (aT (pj c) (0,a)).bind fun b =>
 some b
def rf(a:ak):Option (Bool) :=
 (iF a).bind fun b =>
 some (decide (b<0))
def eB(b:(List ak)):Bd (Int) ((Unit)⊕(Int))
 | a =>
  if decide (a<(b.length:Int)) then
   (P.idx b a).bind fun c =>
   (rf c).bind fun d =>
   if d then
    some (.inr (.inr a))
   else
    some (.inl (IntKind.i64.wrap (a+1)))
  else
   some (.inr (.inl ()))
def dR(a:(List ak)):Option (Int) :=
 (aT (eB a) 0).bind fun q=>match q with
 | (.inl _) =>
  some (-1)
 | (.inr b) =>
  some b
def cL(a:(List ak)):Option (Bool) :=
 (dR a).bind fun b =>
 some (decide (b>=0))
def pf(d:fW):Bd (Int) ((Unit)⊕(Bool))
 | a =>
  if decide (a<(d.aZ.length:Int)) then
   (P.idx d.aZ a).bind fun b =>
   (fB b.db 0 (IntKind.i64.wrap (d.aF-1))).bind fun e =>
   (if (!e) then
    some true
   else
    (fB b.jM 0 (IntKind.i64.wrap (d.aF-1))).bind fun f =>
    if (!f) then
     some true
    else
     (cV b.fj).bind fun g =>
     if (!g) then
      some true
     else
      (iF b.fj).bind fun h =>
      some (decide (h<=0))).bind fun c =>
   if c then
    some (.inr (.inr false))
   else
    if decide (a>0) then
     (P.idx d.aZ (IntKind.i64.wrap (a-1))).bind fun i =>
     (qn i b).bind fun j =>
     if decide (j>=0) then
      some (.inr (.inr false))
     else
      some (.inl (IntKind.i64.wrap (a+1)))
    else
     some (.inl (IntKind.i64.wrap (a+1)))
  else
   some (.inr (.inl ()))
def qm(b:fW):Option (Bool) :=
 (fB b.aF 0 2000).bind fun e =>
 (if (!e) then
  some true
 else
  some (decide ((b.aZ.length:Int)>8000))).bind fun a =>
 if a then
  some false
 else
  (aT (pf b) 0).bind fun q=>match q with
  | (.inl _) =>
   (qq b).bind fun c =>
   (cL c).bind fun d =>
   some (!d)
  | (.inr f) =>
   some f
def kM(a:ak):Option (Bool) :=
 (cV a).bind fun b =>
 some (!b)
def dF(b:(List ak)):Bd (Int) ((Unit)⊕(Int))
 | a =>
  if decide (a<(b.length:Int)) then
   (P.idx b a).bind fun c =>
   (kM c).bind fun d =>
   if d then
    some (.inr (.inr a))
   else
    some (.inl (IntKind.i64.wrap (a+1)))
  else
   some (.inr (.inl ()))
def dh(a:(List ak)):Option (Int) :=
 (aT (dF a) 0).bind fun q=>match q with
 | (.inl _) =>
  some (-1)
 | (.inr b) =>
  some b
def cO(a:(List ak)):Option (Bool) :=
 (dh a).bind fun b =>
 some (decide (b>=0))
def kV(a:(List ak))(b:Int):Option (Bool) :=
 if ((a.length:Int)==b) then
  (cO a).bind fun c =>
  some (!c)
 else
  some false
def my(f:fW):Bd (Int×(List (List Int))) (((List (List Int))))
 | (a,b) =>
  if decide (a<(f.aZ.length:Int)) then
   (P.idx f.aZ a).bind fun c =>
   (P.idx b c.jM).bind fun d =>
   (oQ 8 d [c.db]).bind fun e =>
   some (.inl (IntKind.i64.wrap (a+1),(b.set (c.jM).toNat e)))
  else
   some (.inr b)
def mz(d:(List ak)):Bd (Int×(List Int)×(List Int)) (((List Int)×(List Int)))
 | (a,b,c) =>
  if decide (a<(d.length:Int)) then
   (P.idx d a).bind fun e =>
   (P.idx b a).bind fun h =>
   (iF e).bind fun f =>
   if decide (f>0) then
    (P.idx (b.set (a).toNat (-1)) a).bind fun i =>
    (oQ 8 c [a]).bind fun g =>
    some (.inl (IntKind.i64.wrap (a+1),((b.set (a).toNat (-1)).set (a).toNat 0),g))
   else
    some (.inl (IntKind.i64.wrap (a+1),(b.set (a).toNat (-1)),c))
  else
   some (.inr (b,c))
def mB(f:Int)(e:(List Int)):Bd (Int×(List Int)×(List Int)) (((List Int)×(List Int)))
 | (a,b,c) =>
  if decide (a<((e).length:Int)) then
   (P.idx e a).bind fun d =>
   (P.idx b d).bind fun g =>
   if (g==(-1)) then
    (P.idx b f).bind fun h =>
    (oQ 8 c [d]).bind fun i =>
    some (.inl (IntKind.i64.wrap (a+1),(b.set (d).toNat (IntKind.i64.wrap (h+1))),i))
   else
    some (.inl (IntKind.i64.wrap (a+1),b,c))
  else
   some (.inr (b,c))
def mA(b:(List (List Int))):Bd ((List Int)×(List Int)) (((List Int)))
 | (c,a) =>
  if decide (((a).length:Int)>0) then
   (P.idx a 0).bind fun d =>
   (Fs a 1 (a.length:Int)).bind fun g =>
   (P.idx b d).bind fun h =>
   (aT (mB d h) (0,c,g)).bind fun q=>match q with
   | (e,f) =>
    some (.inl (e,f))
  else
   some (.inr c)
def jZ(a:fW):Option ((List Int)) :=
 (qm a).bind fun h =>
 if (!h) then
  some ([])
 else
  (Hr 24 a.aF a.aF ([])).bind fun i =>
  (aT (my a) (0,i)).bind fun b =>
  (Hr 8 a.aF a.aF 0).bind fun f =>
  (qq a).bind fun g =>
  (aT (mz g) (0,f,[])).bind fun q=>match q with
  | (c,d) =>
   (aT (mA b) (c,d)).bind fun e =>
   some e
def j0(d:(List Int)):Bd (Int×(List Int)) (((List Int)))
 | (a,b) =>
  if decide (a<(d.length:Int)) then
   (P.idx d a).bind fun e =>
   if (e==(-1)) then
    (oQ 8 b [a]).bind fun c =>
    some (.inl (IntKind.i64.wrap (a+1),c))
   else
    some (.inl (IntKind.i64.wrap (a+1),b))
  else
   some (.inr b)
def lN(b:fW):Option ((List Int)) :=
 (jZ b).bind fun c =>
 (aT (j0 c) (0,[])).bind fun a =>
 some a
def iW(e:(List ak))(f:(List aJ)):Bd (Int×(List aJ)) (((List aJ)))
 | (a,b) =>
  if decide (a<((f).length:Int)) then
   (P.idx e a).bind fun c =>
   (P.idx b a).bind fun d =>
   some (.inl (IntKind.i64.wrap (a+1),(b.set (a).toNat (aJ.mk c d.cB))))
  else
   some (.inr b)
def iX(f:fW):Bd (Int×(List aJ)) (((List aJ)))
 | (a,b) =>
  if decide (a<(f.aZ.length:Int)) then
   (P.idx f.aZ a).bind fun c =>
   (P.idx b c.jM).bind fun d =>
   (oQ 72 d.cB [(fU.mk c.db c.fj)]).bind fun e =>
   some (.inl (IntKind.i64.wrap (a+1),(b.set (c.jM).toNat (aJ.mk d.bK e))))
  else
   some (.inr b)
def gu(c:fW)(e:(List ak)):Option ((List aJ)) :=
 (Hr 88 c.aF c.aF (aJ.mk (ak.mk (aN.mk 0 ([])) (aN.mk 0 ([]))) ([]))).bind fun d =>
 (aT (iW e d) (0,d)).bind fun a =>
 (aT (iX c) (0,a)).bind fun b =>
 some b
def ej(a:fU)(b:Int):Option (Int) :=
 (gQ a.qf b).bind fun c =>
 some c
def cm(f:(List fU))(g:Int):Bd (Int×Int) ((Int))
 | (b,a) =>
  if decide (b<a) then
   (Ba .u64 (IntKind.u64.wrap (IntKind.i64.wrap (b+a))) 1).bind fun c =>
   (P.idx f (IntKind.i64.wrap c)).bind fun d =>
   (ej d g).bind fun e =>
   if decide (e<0) then
    some (.inl (IntKind.i64.wrap ((IntKind.i64.wrap c)+1),a))
   else
    some (.inl (b,IntKind.i64.wrap c))
  else
   some (.inr b)
def bE(b:(List fU))(e:Int):Option (Int×Bool) :=
 (aT (cm b e) (0,(b.length:Int))).bind fun a =>
 if decide (a<(b.length:Int)) then
  (P.idx b a).bind fun c =>
  (ej c e).bind fun d =>
  some (a,(d==0))
 else
  some (a,false)
def dx(a:aJ)(c:Int):Option (aJ×(Int×Bool)) :=
 (bE a.cB c).bind fun b =>
 some (a,(b.1,b.2))
def iE(a:(List fU))(b c:Int):Option (List fU):=aaI a b c
def qX(c:ak)(b:ak):Option (ak×Int) :=
 (cV c).bind fun e =>
 (if (!e) then
  some true
 else
  (cV b).bind fun f =>
  some (!f)).bind fun a =>
 if a then
  some ((ak.mk (aN.mk 0 ([])) (aN.mk 0 ([]))),1)
 else
  if (b.bX.aq==0) then
   some ((ak.mk (aN.mk 0 ([])) (aN.mk 0 ([]))),15)
  else
   (cW c.bX b.b8).bind fun g =>
   (cW c.b8 b.bX).bind fun h =>
   (oX g h).bind fun d =>
   some (d.1,d.2)
def fK(f:ak×Int)(d:(List fU)):Bd (Int×(List fU)) (((List fU)))
 | (b,a) =>
  if decide (b<((d).length:Int)) then
   (P.idx a b).bind fun c =>
   (qX c.jh f.1).bind fun e =>
   some (.inl (IntKind.i64.wrap (b+1),(a.set (b).toNat (fU.mk c.qf e.1))))
  else
   some (.inr a)
def eF(f:aJ)(g:Int):Option (aJ×(Unit)) :=
 (dx f g).bind fun b =>
 if (!b.2.2) then
  some (b.1,())
 else
  (gm 1).bind fun h =>
  (P.idx b.1.cB b.2.1).bind fun i =>
  (tl h i.jh).bind fun e =>
  (iE b.1.cB b.2.1 (IntKind.i64.wrap (b.2.1+1))).bind fun c =>
  (qX b.1.bK e.1).bind fun d =>
  (aT (fK e c) (0,c)).bind fun a =>
  some ((aJ.mk d.1 a),())
def jK(a:ak)(b:ak)(c:ak):Option (ak) :=
 (oW b c).bind fun d =>
 (nk a d.1).bind fun e =>
 some e.1
def fC(f:aJ)(c:Int)(d:ak):Option (aJ×(Unit)) :=
 (dx f c).bind fun a =>
 if a.2.2 then
  (P.idx a.1.cB a.2.1).bind fun e =>
  (gm 1).bind fun g =>
  (jK e.jh d g).bind fun h =>
  some ((aJ.mk a.1.bK (a.1.cB.set (a.2.1).toNat (fU.mk e.qf h))),())
 else
  (abE 72 a.1.cB a.2.1 [(fU.mk c d)]).bind fun b =>
  some ((aJ.mk a.1.bK b),())
def gw(k:aJ)(l:fU):Bd (Int×Int×(List Int)×Int×(List Int)×(List fU)) ((Int×(List Int)×Int×(List Int)×(List fU)))
 | (a,b,c,d,e,f) =>
  if decide (a<(k.cB.length:Int)) then
   (P.idx k.cB a).bind fun h =>
   (gm 0).bind fun i =>
   (jK i l.jh h.jh).bind fun j =>
   (fC (aJ.mk (ak.mk (aN.mk b c) (aN.mk d e)) f) h.qf j).bind fun g =>
   some (.inl (IntKind.i64.wrap (a+1),g.1.bK.bX.aq,g.1.bK.bX.aa,g.1.bK.b8.aq,g.1.bK.b8.aa,g.1.cB))
  else
   some (.inr (b,c,d,e,f))
def fD(j:aJ)(k:Int)(h:aJ):Option (aJ×(Unit)) :=
 (dx j k).bind fun g =>
 if (!g.2.2) then
  some (g.1,())
 else
  (P.idx g.1.cB g.2.1).bind fun i =>
  (iE g.1.cB g.2.1 (IntKind.i64.wrap (g.2.1+1))).bind fun l =>
  (jK g.1.bK i.jh h.bK).bind fun a =>
  (aT (gw h i) (0,a.bX.aq,a.bX.aa,a.b8.aq,a.b8.aa,l)).bind fun q=>match q with
  | (b,c,d,e,f) =>
   some ((aJ.mk (ak.mk (aN.mk b c) (aN.mk d e)) f),())
def oA(c:Int):Bd (Int×(List (Bool×aJ))) (((List (Bool×aJ))))
 | (b,a) =>
  if decide (b<((a).length:Int)) then
   (P.idx a b).bind fun d =>
   (P.idx a c).bind fun e =>
   (Ss e).bind fun f =>
   (RL d).bind fun g =>
   (fD g c f).bind fun h =>
   some (.inl (IntKind.i64.wrap (b+1),(a.set (b).toNat (false,h.1))))
  else
   some (.inr a)
def lV(g:(List aJ)):Bd (Int×(List (Bool×aJ))) (((List (Bool×aJ))))
 | (a,b) =>
  if decide (a<((g).length:Int)) then
   (P.idx b a).bind fun d =>
   (RL d).bind fun e =>
   (eF e a).bind fun f =>
   (aT (oA a) (IntKind.i64.wrap (a+1),(b.set (a).toNat (true,f.1)))).bind fun c =>
   some (.inl (IntKind.i64.wrap (a+1),c))
  else
   some (.inr b)
def rm(i:(List ak))(g:aJ):Bd (Int×Int×(List Int)×Int×(List Int)) ((Int×(List Int)×Int×(List Int)))
 | (e,a,b,c,d) =>
  if decide (e<(g.cB.length:Int)) then
   (P.idx g.cB e).bind fun h =>
   (P.idx i h.qf).bind fun j =>
   (jK (ak.mk (aN.mk a b) (aN.mk c d)) h.jh j).bind fun f =>
   some (.inl (IntKind.i64.wrap (e+1),f.bX.aq,f.bX.aa,f.b8.aq,f.b8.aa))
  else
   some (.inr (a,b,c,d))
def lW(h:(List (Bool×aJ))):Bd (Int×(List ak)) (((List ak)))
 | (a,f) =>
  if decide (a>=0) then
   (P.idx h a).bind fun k =>
   (Ss k).bind fun i =>
   (gm 0).bind fun j =>
   (jK i.bK j j).bind fun g =>
   (aT (rm f i) (0,g.bX.aq,g.bX.aa,g.b8.aq,g.b8.aa)).bind fun q=>match q with
   | (b,c,d,e) =>
    (P.idx f a).bind fun l =>
    some (.inl (IntKind.i64.wrap (a-1),(f.set (a).toNat (ak.mk (aN.mk b c) (aN.mk d e)))))
  else
   some (.inr f)
def kL(c:fW)(g:(List ak)):Option ((List ak)×Int) :=
 (qm c).bind fun i =>
 (if (!i) then
  some true
 else
  (kV g c.aF).bind fun e =>
  some (!e)).bind fun b =>
 if b then
  some ([],1)
 else
  (lN c).bind fun j =>
  if decide ((j.length:Int)>0) then
   some ([],24)
  else
   (gu c g).bind fun h =>
   (aT (lV h) (0,(KR h))).bind fun a =>
   (Hr 64 c.aF c.aF (ak.mk (aN.mk 0 ([])) (aN.mk 0 ([])))).bind fun f =>
   (aT (lW a) (IntKind.i64.wrap (((a).length:Int)-1),f)).bind fun d =>
   some (d,0)
def gO(a:(List ak)):Option (List ak):=oQ 64 [] a
def lD(b:aU)(c:(List ak))(a:Int)(d:Int):Option (ak) :=
 (P.idx b.av a).bind fun e =>
 (uj d e).bind fun f =>
 (P.idx c a).bind fun g =>
 (oW f.1 g).bind fun h =>
 some h.1
def jU(g:aU)(h:(List ak)×Int)(c:bz):Bd (Int×(List ak)) (((List ak)))
 | (a,b) =>
  if decide (a<(c.az.au.length:Int)) then
   (P.idx c.az.au a).bind fun d =>
   if (d.bn==1) then
    (P.idx c.ba d.aX).bind fun e =>
    (lD g h.1 e.bQ e.aV).bind fun f =>
    (P.idx b a).bind fun i =>
    some (.inl (IntKind.i64.wrap (a+1),(b.set (a).toNat f)))
   else
    some (.inl (IntKind.i64.wrap (a+1),b))
  else
   some (.inr b)
def jV(d:bz)(c:(List ak)):Bd (Int×(List ak)) (((List ak)))
 | (a,b) =>
  if decide (a<(d.az.aO.length:Int)) then
   (P.idx d.az.aO a).bind fun e =>
   (js e c).bind fun f =>
   (oQ 64 b [f]).bind fun g =>
   some (.inl (IntKind.i64.wrap (a+1),g))
  else
   some (.inr b)
def iN(f:aU)(j:(List (List ak)))(k:(List ak)×Int):Bd (Int×(List (List ak))) (((List (List ak))))
 | (a,d) =>
  if decide (a<(f.an.length:Int)) then
   (P.idx f.an a).bind fun e =>
   (P.idx j a).bind fun g =>
   (gO g).bind fun h =>
   (aT (jU f k e) (0,h)).bind fun b =>
   (aT (jV e b) (0,[])).bind fun c =>
   (oQ 24 d [c]).bind fun i =>
   some (.inl (IntKind.i64.wrap (a+1),i))
  else
   some (.inr d)
def fI(a:aU)(d:(List (List ak))):Option ((List (List ak))×(List ak)×Int) :=
 (ot a).bind fun f =>
 if (f.1 != 0) then
  some ([],[],f.1)
 else
  (lA a d).bind fun g =>
  if (g != 0) then
   some ([],[],g)
  else
   (AY a).bind fun e =>
   if (e.2 != 0) then
    some ([],[],e.2)
   else
    (ma a d).bind fun h =>
    (kL e.1 h).bind fun c =>
    if (c.2 != 0) then
     some ([],[],c.2)
    else
     (aT (iN a d c) (0,[])).bind fun b =>
     some (b,c.1,0)
def qJ(a:ak):Option (Bool) :=
 (cV a).bind fun b =>
 some (!b)
def jf(b:(List ak)):Bd (Int) ((Unit)⊕(Int))
 | a =>
  if decide (a<(b.length:Int)) then
   (P.idx b a).bind fun c =>
   (qJ c).bind fun d =>
   if d then
    some (.inr (.inr a))
   else
    some (.inl (IntKind.i64.wrap (a+1)))
  else
   some (.inr (.inl ()))
def eU(a:(List ak)):Option (Int) :=
 (aT (jf a) 0).bind fun q=>match q with
 | (.inl _) =>
  some (-1)
 | (.inr b) =>
  some b
def dX(a:(List ak)):Option (Bool) :=
 (eU a).bind fun b =>
 some (decide (b>=0))
def xI(d:bz):Bd (Int×(List Int)) (((List Int)))
 | (a,b) =>
  if decide (a<(d.ba.length:Int)) then
   (P.idx d.ba a).bind fun c =>
   (P.idx b c.bQ).bind fun e =>
   some (.inl (IntKind.i64.wrap (a+1),(b.set (c.bQ).toNat (IntKind.i64.wrap (e-c.aV)))))
  else
   some (.inr b)
def xH(e:aU):Bd (Int×(List Int)) (((List Int)))
 | (a,b) =>
  if decide (a<(e.an.length:Int)) then
   (P.idx e.an a).bind fun d =>
   (aT (xI d) (0,b)).bind fun c =>
   some (.inl (IntKind.i64.wrap (a+1),c))
  else
   some (.inr b)
def xJ(g:aU)(h:(List ak))(b:(List Int)):Bd (Int×(List ak)) (((List ak)))
 | (a,c) =>
  if decide (a<((b).length:Int)) then
   (P.idx b a).bind fun d =>
   (lD g h a d).bind fun e =>
   (oQ 64 c [e]).bind fun f =>
   some (.inl (IntKind.i64.wrap (a+1),f))
  else
   some (.inr c)
def uf(c:aU)(e:(List ak)):Option ((List ak)) :=
 (ot c).bind fun g =>
 (if (g.1 != 0) then
  some true
 else
  if ((e.length:Int) != (c.av.length:Int)) then
   some true
  else
   (dX e).bind fun f =>
   some f).bind fun a =>
 if a then
  some ([])
 else
  (cu c.av).bind fun h =>
  (aT (xH c) (0,h)).bind fun d =>
  (aT (xJ c e d) (0,[])).bind fun b =>
  some b
def pz(c:aN)(d:aN):Bd (Int) ((Unit)⊕(Bool))
 | a =>
  if decide (a<(c.aa.length:Int)) then
   (P.idx c.aa a).bind fun e =>
   (P.idx d.aa a).bind fun b =>
   if (e != b) then
    some (.inr (.inr false))
   else
    some (.inl (IntKind.i64.wrap (a+1)))
  else
   some (.inr (.inl ()))
def lS(b:aN)(c:aN):Option (Bool) :=
 (if (b.aq != c.aq) then
  some true
 else
  some ((b.aa.length:Int) != (c.aa.length:Int))).bind fun a =>
 if a then
  some false
 else
  (aT (pz b c) 0).bind fun q=>match q with
  | (.inl _) =>
   some true
  | (.inr d) =>
   some d
def tK(a:ak)(b:ak):Option (Bool) :=
 (lS a.bX b.bX).bind fun c =>
 if c then
  (lS a.b8 b.b8).bind fun d =>
  some d
 else
  some false
def uF(d:(List ak))(e:(List ak)):Bd (Int) ((Unit)⊕(Bool))
 | a =>
  if decide (a<(d.length:Int)) then
   (P.idx d a).bind fun f =>
   (P.idx e a).bind fun b =>
   (tK f b).bind fun c =>
   if (!c) then
    some (.inr (.inr false))
   else
    some (.inl (IntKind.i64.wrap (a+1)))
  else
   some (.inr (.inl ()))
def nz(a:(List ak))(b:(List ak)):Option (Bool) :=
 if ((a.length:Int) != (b.length:Int)) then
  some false
 else
  (aT (uF a b) 0).bind fun q=>match q with
  | (.inl _) =>
   some true
  | (.inr c) =>
   some c
def yx:Option (Bool) :=
 (um).bind fun c =>
 (fI c.1 c.2).bind fun b =>
 (uf c.1 b.2.1).bind fun k =>
 (if (b.2.2 != 0) then
  some true
 else
  some ((b.1.length:Int) != 2)).bind fun a =>
 if a then
  some false
 else
  (tu 240 7).bind fun i =>
  (tu 120 7).bind fun j =>
  (nz b.2.1 ([i,j])).bind fun l =>
  if l then
   (P.idx b.1 0).bind fun d =>
   (tu 30 7).bind fun e =>
   (nz d ([i,e])).bind fun f =>
   if f then
    (tu 60 7).bind fun g =>
    (nz k ([j,g])).bind fun h =>
    some h
   else
    some false
  else
   some false
def wK(a:ak)(b:Int):Option (Bool) :=
 if decide ((a.bX.aa.length:Int)<=b) then
  some (decide ((a.b8.aa.length:Int)<=b))
 else
  some false
def fp(b:(List ak)):Bd (Int) ((Unit)⊕(Bool))
 | a =>
  if decide (a<(b.length:Int)) then
   (P.idx b a).bind fun c =>
   (wK c 4).bind fun d =>
   if (!d) then
    some (.inr (.inr false))
   else
    some (.inl (IntKind.i64.wrap (a+1)))
  else
   some (.inr (.inl ()))
def pA(c:fh):Bd (Int) ((Unit)⊕(Bool))
 | a =>
  if decide (a<(c.aO.length:Int)) then
   (P.idx c.aO a).bind fun b =>
   if decide ((b.length:Int)>8) then
    some (.inr (.inr false))
   else
    (aT (fp b) 0).bind fun q=>match q with
    | (.inl _) =>
     some (.inl (IntKind.i64.wrap (a+1)))
    | (.inr rd) =>
     some (.inr (.inr rd))
  else
   some (.inr (.inl ()))
def lT(b:fh):Option (Bool) :=
 (if decide ((b.au.length:Int)>5) then
  some true
 else
  if decide ((b.aQ.length:Int)>5) then
   some true
  else
   some (decide ((b.aO.length:Int)>8))).bind fun a =>
 if a then
  some false
 else
  (aT (pA b) 0).bind fun q=>match q with
  | (.inl _) =>
   some true
  | (.inr c) =>
   some c
def wL(d:aU):Bd (Int) ((Unit)⊕(Bool))
 | a =>
  if decide (a<(d.an.length:Int)) then
   (P.idx d.an a).bind fun b =>
   (lT b.az).bind fun c =>
   if (!c) then
    some (.inr (.inr false))
   else
    if decide ((b.ba.length:Int)>6) then
     some (.inr (.inr false))
    else
     if decide ((b.aF.length:Int)>6) then
      some (.inr (.inr false))
     else
      some (.inl (IntKind.i64.wrap (a+1)))
  else
   some (.inr (.inl ()))
def zp(b:aU):Option (Bool) :=
 (if decide ((b.av.length:Int)>6) then
  some true
 else
  some (decide ((b.an.length:Int)>5))).bind fun a =>
 if a then
  some false
 else
  (aT (wL b) 0).bind fun q=>match q with
  | (.inl _) =>
   some true
  | (.inr c) =>
   some c
def qu(b:(List ak)):Bd (Int) ((Unit)⊕(Bool))
 | a =>
  if decide (a<(b.length:Int)) then
   (P.idx b a).bind fun c =>
   (wK c 3).bind fun d =>
   if (!d) then
    some (.inr (.inr false))
   else
    some (.inl (IntKind.i64.wrap (a+1)))
  else
   some (.inr (.inl ()))
def tL(d:(List (List ak))):Bd (Int) ((Unit)⊕(Bool))
 | a =>
  (if decide (a<(d.length:Int)) then
   some (decide (a<9))
  else
   some false).bind fun b =>
  if b then
   (P.idx d a).bind fun c =>
   if decide ((c.length:Int)>8) then
    some (.inr (.inr false))
   else
    (aT (qu c) 0).bind fun q=>match q with
    | (.inl _) =>
     some (.inl (IntKind.i64.wrap (a+1)))
    | (.inr e) =>
     some (.inr (.inr e))
  else
   some (.inr (.inl ()))
def zq(a:(List (List ak))):Option (Bool) :=
 (aT (tL a) 0).bind fun q=>match q with
 | (.inl _) =>
  some (decide ((a.length:Int)<=8))
 | (.inr b) =>
  some b
def lI(e:(List Int)):Bd (Int×(List Bool)) (((List Bool)))
 | (b,a) =>
  if decide (b<(e.length:Int)) then
   (P.idx e b).bind fun c =>
   (if decide (c>=0) then
    some (decide (c<((a).length:Int)))
   else
    some false).bind fun d =>
   if d then
    (P.idx a c).bind fun f =>
    some (.inl (IntKind.i64.wrap (b+1),(a.set (c).toNat true)))
   else
    some (.inl (IntKind.i64.wrap (b+1),a))
  else
   some (.inr a)
def lJ(h:fW):Bd (Bool×Int×(List Bool)) ((Bool×(List Bool)))
 | (e,b,a) =>
  if decide (b<(h.aZ.length:Int)) then
   (P.idx h.aZ b).bind fun c =>
   (P.idx a c.db).bind fun f =>
   (if f then
    (P.idx a c.jM).bind fun g =>
    some (!g)
   else
    some false).bind fun d =>
   if d then
    (P.idx a c.jM).bind fun i =>
    some (.inl (true,IntKind.i64.wrap (b+1),(a.set (c.jM).toNat true)))
   else
    some (.inl (e,IntKind.i64.wrap (b+1),a))
  else
   some (.inr (e,a))
def pb(e:fW):Bd (Bool×(List Bool)) (((List Bool)))
 | (d,a) =>
  if d then
   (aT (lJ e) (false,0,a)).bind fun q=>match q with
   | (b,c) =>
    some (.inl (b,c))
  else
   some (.inr a)
def lH(c:fW)(d:(List Int)):Option ((List Bool)) :=
 (Hr 1 c.aF c.aF false).bind fun e =>
 (aT (lI d) (0,e)).bind fun a =>
 (aT (pb c) (true,a)).bind fun b =>
 some b
def nP(b:(List Int))(c:(List Int)):Bd (Int) ((Unit)⊕(Bool))
 | a =>
  if decide (a<(b.length:Int)) then
   (P.idx b a).bind fun d =>
   (P.idx c a).bind fun e =>
   if (d != e) then
    some (.inr (.inr false))
   else
    some (.inl (IntKind.i64.wrap (a+1)))
  else
   some (.inr (.inl ()))
def mH(a:(List Int))(b:(List Int)):Option (Bool) :=
 if ((a.length:Int) != (b.length:Int)) then
  some false
 else
  (aT (nP a b) 0).bind fun q=>match q with
  | (.inl _) =>
   some true
  | (.inr c) =>
   some c
def sU(a:aN)(b:aN):Option (Bool) :=
 if (a.aq==b.aq) then
  (mH a.aa b.aa).bind fun c =>
  some c
 else
  some false
def sA(a:ak)(b:ak):Option (Bool) :=
 (sU a.bX b.bX).bind fun c =>
 if c then
  (sU a.b8 b.b8).bind fun d =>
  some d
 else
  some false
def iQ(f:(List ak))(g:(List (List ak))×(List ak)×Int)(h:(List Bool)):Bd (Int) ((Unit)⊕(Bool))
 | a =>
  if decide (a<(f.length:Int)) then
   (P.idx h a).bind fun b =>
   if (!b) then
    (P.idx f a).bind fun c =>
    (P.idx g.2.1 a).bind fun d =>
    (sA c d).bind fun e =>
    if (!e) then
     some (.inr (.inr false))
    else
     some (.inl (IntKind.i64.wrap (a+1)))
   else
    some (.inl (IntKind.i64.wrap (a+1)))
  else
   some (.inr (.inl ()))
def iS(g:aU)(h:(List Bool))(c:Int):Bd (Bool×Int) ((Bool))
 | (b,a) =>
  (P.idx g.an c).bind fun d =>
  if decide (a<(d.ba.length:Int)) then
   if b then
    some (.inl (true,IntKind.i64.wrap (a+1)))
   else
    (P.idx d.ba a).bind fun e =>
    (P.idx h e.bQ).bind fun f =>
    some (.inl (f,IntKind.i64.wrap (a+1)))
  else
   some (.inr b)
def iR(g:aU)(f:(List (List ak)))(m:Int)(h:(List (List ak))×(List ak)×Int)(i:(List Bool)):Bd (Int) ((Unit)⊕(Bool))
 | a =>
  if decide (a<(f.length:Int)) then
   (aT (iS g i a) ((a==m),0)).bind fun b =>
   if (!b) then
    (P.idx f a).bind fun c =>
    (P.idx h.1 a).bind fun d =>
    (nz c d).bind fun e =>
    if (!e) then
     some (.inr (.inr false))
    else
     some (.inl (IntKind.i64.wrap (a+1)))
   else
    some (.inl (IntKind.i64.wrap (a+1)))
  else
   some (.inr (.inl ()))
def kG(d:aU)(h:Bool)(e:(List (List ak)))(f:(List ak))(m:Int)(l:(List (List ak))):Option Bool :=
 (fI d l).bind fun c =>
 (AY d).bind fun g =>
 if (c.2.2 != 0) then
  (if h then
   some (c.2.2==1)
  else
   some false).bind fun b =>
  some b
 else
  (if (g.2 != 0) then
   some true
  else
   if ((f.length:Int) != g.1.aF) then
    some true
   else
    if ((c.2.1.length:Int) != (f.length:Int)) then
     some true
    else
     if ((e.length:Int) != (d.an.length:Int)) then
      some true
     else
      some ((c.1.length:Int) != (e.length:Int))).bind fun a =>
  if a then
   some false
  else
   (P.idx d.an m).bind fun j =>
   (lH g.1 j.aF).bind fun i =>
   (aT (iQ f c i) 0).bind fun q=>match q with
   | (.inl _) =>
    (aT (iR d e m c i) 0).bind fun q=>match q with
    | (.inl _) =>
     some h
    | (.inr rd) =>
     some rd
   | (.inr rc) =>
    some rc
def ME(R:aU->Bool->List (List ak)->List ak->Int->List (List ak)->Option Bool)(a:aU)(l:List (List ak))(k n:Int)(b:Bool)(c:List (List ak))(d:List ak)(m:Int):Option Bool :=
 (P.idx l m).bind fun q =>
 (gm (IntKind.i64.wrap n)).bind fun x =>
 (P.idx q ((IntKind.i64.wrap k).tmod (q.length:Int))).bind fun _ =>
 if q.length*64<=140737488351232 then R a b c d m (l.set m.toNat (q.set ((IntKind.i64.wrap k).tmod (q.length:Int)).toNat x)) else none
def gS(d:aU)(a:(List (List ak)))(h:Int)(i:Int)(j:Int):Option (Bool) :=
 (yx).bind fun c =>
 (zp d).bind fun k =>
 (if (!k) then
  some true
 else
  (zq a).bind fun e =>
  if (!e) then
   some true
  else
   some ((a.length:Int)==0)).bind fun b =>
 if b then
  some c
 else
  (fI d a).bind fun f =>
  (Q9 .i64 (IntKind.i64.wrap h) (a.length:Int)).bind fun g =>
  if (f.2.2 != 0) then
   some c
  else
   (P.idx a g).bind fun l =>
   if ((l.length:Int)==0) then
    some c
   else
    (oQ 24 [] a).bind fun _ =>
    ME kG d a i j c f.1 f.2.1 g
end Go.Proofs.YtobnihfgnbnncaaGreat.P
namespace Go.Proofs.YtobnihfgnbnncaaGreat.Am
open Go.RowKit Go.Proofs.YtobnihfgnbnncaaGreat.P
set_option maxRecDepth 100000
set_option maxHeartbeats 4000000
def cn.jB{P:Program}{T:Nat->Option Ty}{Γ:Env}(i:jL P T)(j:bU P Γ)(k:P.follows .mixedOrders=true){α β:Type}{A:ki α}{F:α->Option β}{R:β->RK}{mode:Mode}{f:FuncId}{b:Func}{G:Option (D×Row)->List D->Option (RK×Option Row)}(m:P.funcs[f]? = some b)
  (g:((match b.body with|some c=>codeOk c|none=>true)&&(!(b.name == "runtime.NumGoroutine") && !b.body.isNone))=true) (hG:∀l d,G l d=ew A F R l d) (n:∀a,Nat.ble (A.ds a).length b.ntmps=true) (h:∀a r,F a=some r->kN mode T Γ FU b none (A.ds a)=some (R r,none)):cn P f G:=by
 have e:G=ew A F R:=funext fun l=>funext fun d=>hG l d;subst e;exact cn.ofB i j k m g n h
def ajz{α:Type}(E:iK α){l:List α}{x:α}(h:P.idx l 0=some x):E.size<=l.length*E.size∧(al E l).take E.size=E.cells x:=by
 have a:=zl E h;have b:=kn E h;simp only[Int.toNat_zero,alT,alf,alU]at a b;refine⟨b,?_⟩;rw[a,al6 (by rw[E.len];exact aki _),alV (by rw[E.len];exact aki _)]
def vmt:=ai @Xu<|ai @afN<|ai @Xv<|ai @ac0<|ai @NZ<|ai @UF<|ai @N0<|ai @N1<|ai @N2<|ai @UG<|ai @N3<|ai @UH<|ai @UI<|ai @UJ<|ai @UK<|ai @N4<|ai @N5<|ai @UL<|ai @acX<|ai @acY<|ai @acZ<|ai @N6<|ai @N7<|ai @Xk<|ai @Xl<|ai @Xm<|ai @Xn<|ai @Xo<|ai @NY<|ai @Xp<|ai @Xq<|ai @Xr<|ai @Xs<|@Xt
def je:iK aN:=BL (oo (eI .i64) (dW (eI .i64))) (fun x=>(x.aq,x.aa)) (by rintro⟨⟩ ⟨⟩ h;simpa using h)
def D8(x:aN):je.cells x=[.int .i64 x.aq,.sl false false x.aa.length (al (eI .i64) x.aa)]:=amP
def PU(x:aN):aN.mk x.aq x.aa=x:=amP
def ah:iK ak:=BL (oo je je) (fun x=>(x.bX,x.b8)) (by rintro⟨⟩ ⟨⟩ h;simpa using h)
def BI(x:ak):ah.cells x=[.int .i64 x.bX.aq,.sl false false x.bX.aa.length (al (eI .i64) x.bX.aa),.int .i64 x.b8.aq,.sl false false x.b8.aa.length (al (eI .i64) x.b8.aa)]:=amP
def D9:ah.size=4:=amP
def KJ(x:ak):ak.mk x.bX x.b8=x:=amP
def eK:iK tS:=BL (oo (eI .i64) (oo (eI .i64) (oo (eI .i64) af4))) (fun x=>(x.bn,x.aX,x.aV,x.M3)) (by rintro⟨⟩ ⟨⟩ h;simpa using h)
def Ec(x:tS):eK.cells x=[.int .i64 x.bn,.int .i64 x.aX,.int .i64 x.aV,.str x.M3]:=amP
def Gm:eK.size=4:=amP
def gr:iK ie:=BL (oo (eI .i64) (eI .i64)) (fun x=>(x.bQ,x.aV)) (by rintro⟨⟩ ⟨⟩ h;simpa using h)
def Ed(x:ie):gr.cells x=[.int .i64 x.bQ,.int .i64 x.aV]:=amP
def Gn:gr.size=2:=amP
def PW(x:ie):ie.mk x.bQ x.aV=x:=amP
def bA:iK gY:=BL (oo (eI .i64) (oo (eI .i64) (eI .i64))) (fun x=>(x.bn,x.aX,x.aV)) (by rintro⟨⟩ ⟨⟩ h;simpa using h)
def xY(x:gY):bA.cells x=[.int .i64 x.bn,.int .i64 x.aX,.int .i64 x.aV]:=amP
def z7:bA.size=3:=amP
def xW:iK fh:=BL (oo (dW bA) (oo (dW eK) (dW (dW ah)))) (fun x=>(x.au,x.aQ,x.aO)) (by rintro⟨⟩ ⟨⟩ h;simpa using h)
def BH(x:fh):xW.cells x=[.sl false false x.au.length (al bA x.au),.sl false false x.aQ.length (al eK x.aQ),.sl false false x.aO.length (al (dW ah) x.aO)]:=amP
def KI(x:fh):fh.mk x.au x.aQ x.aO=x:=amP
def bm:iK bz:=BL (oo xW (oo (dW gr) (dW (eI .i64)))) (fun x=>(x.az,x.ba,x.aF)) (by rintro⟨⟩ ⟨⟩ h;simpa using h)
def BJ(x:bz):bm.cells x=[.sl false false x.az.au.length (al bA x.az.au),.sl false false x.az.aQ.length (al eK x.az.aQ),.sl false false x.az.aO.length (al (dW ah) x.az.aO),.sl false false x.ba.length (al gr x.ba),.sl false false x.aF.length (al (eI .i64) x.aF)]:=amP
def Ea:bm.size=5:=amP
def KK(x:bz):bz.mk x.az x.ba x.aF=x:=amP
def jw:iK aU:=BL (oo (dW (eI .i64)) (dW bm)) (fun x=>(x.av,x.an)) (by rintro⟨⟩ ⟨⟩ h;simpa using h)
def z8(x:aU):jw.cells x=[.sl false false x.av.length (al (eI .i64) x.av),.sl false false x.an.length (al bm x.an)]:=amP
def GF(x:aU):aU.mk x.av x.an=x:=amP
def bW:iK cA:=BL (oo (eI .i64) (oo (eI .i64) ah)) (fun x=>(x.db,x.jM,x.fj)) (by rintro⟨⟩ ⟨⟩ h;simpa using h)
def sd(x:cA):bW.cells x=[.int .i64 x.db,.int .i64 x.jM,.int .i64 x.fj.bX.aq,.sl false false x.fj.bX.aa.length (al (eI .i64) x.fj.bX.aa),.int .i64 x.fj.b8.aq,.sl false false x.fj.b8.aa.length (al (eI .i64) x.fj.b8.aa)]:=amP
def xZ:bW.size=6:=amP
def KL(x:cA):cA.mk x.db x.jM x.fj=x:=amP
def xX:iK fW:=BL (oo (eI .i64) (dW bW)) (fun x=>(x.aF,x.aZ)) (by rintro⟨⟩ ⟨⟩ h;simpa using h)
def Eb(x:fW):xX.cells x=[.int .i64 x.aF,.sl false false x.aZ.length (al bW x.aZ)]:=amP
def PV(x:fW):fW.mk x.aF x.aZ=x:=amP
def ch:iK fU:=BL (oo (eI .i64) ah) (fun x=>(x.qf,x.jh)) (by rintro⟨⟩ ⟨⟩ h;simpa using h)
def BK(x:fU):ch.cells x=[.int .i64 x.qf,.int .i64 x.jh.bX.aq,.sl false false x.jh.bX.aa.length (al (eI .i64) x.jh.bX.aa),.int .i64 x.jh.b8.aq,.sl false false x.jh.b8.aa.length (al (eI .i64) x.jh.b8.aa)]:=amP
def x4:ch.size=5:=amP
def KM(x:fU):fU.mk x.qf x.jh=x:=amP
def s4:iK aJ:=BL (oo ah (dW ch)) (fun x=>(x.bK,x.cB)) (by rintro⟨⟩ ⟨⟩ h;simpa using h)
def CF(x:aJ):s4.cells x=[.int .i64 x.bK.bX.aq,.sl false false x.bK.bX.aa.length (al (eI .i64) x.bK.bX.aa),.int .i64 x.bK.b8.aq,.sl false false x.bK.b8.aa.length (al (eI .i64) x.bK.b8.aa),.sl false false x.cB.length (al ch x.cB)]:=amP
def a7:iK aJ:=BL (oo ah (PH ch)) (fun x=>(x.bK,x.cB)) (by rintro⟨⟩ ⟨⟩ h;simpa using h)
def e9(x:aJ):a7.cells x=[.int .i64 x.bK.bX.aq,.sl false false x.bK.bX.aa.length (al (eI .i64) x.bK.bX.aa),.int .i64 x.bK.b8.aq,.sl false false x.bK.b8.aa.length (al (eI .i64) x.bK.b8.aa),.nx (x.cB).length (al ch (x.cB))]:=amP
def vg:a7.size=5:=amP
def Gr(x:aJ):(a7.cells x).map UX=s4.cells x:=amP
def Gq(x:aJ):(a7.cells x).all (AZ 5)=true:=by simp[e9,AZ,eZ,bF,x4]
def bS:iK (Bool×aJ):=ahB s4 a7 rfl (by intro x y h;simp[CF,e9]at h)
def Aa(x:aJ):bS.cells (true,x)=[.int .i64 x.bK.bX.aq,.sl false false x.bK.bX.aa.length (al (eI .i64) x.bK.bX.aa),.int .i64 x.bK.b8.aq,.sl false false x.bK.b8.aa.length (al (eI .i64) x.bK.b8.aa),.sl false false x.cB.length (al ch x.cB)]:=amP
def oU(x:aJ):bS.cells (false,x)=a7.cells x:=amP
def Gp(x:aJ):bS.cells (true,x)=s4.cells x:=amP
def p6:bS.size=5:=amP
def Ab(x:aJ):aJ.mk x.bK x.cB=x:=amP
def afq{l:List _}:(al (eI .i64) l).length=l.length*1:=bF _ l
def UN{l:List _}:(al (eI .i64) l).take (l.length*1)=al (eI .i64) l:=by
 have:=jn (eI .i64) l l.length;rw[amd]at this;exact this
def ac5{l:List _}{i:Nat}{x:_}:(al (eI .i64) (l.set i x)).take (l.length*1)=al (eI .i64) (l.set i x):=by
 have:=@UN (l.set i x)
 rwa [amb]at this
def afr{l:List _}:(al (dW ah) l).length=l.length*1:=bF _ l
def ac1{l:List _}:(al (dW ah) l).take (l.length*1)=al (dW ah) l:=by
 have:=jn (dW ah) l l.length;rw[amd]at this;exact this
def afs{l:List _}:(al jv l).length=l.length*1:=bF _ l
def ac2{l:List _}:(al jv l).take (l.length*1)=al jv l:=by
 have:=jn jv l l.length;rw[amd]at this;exact this
def aft{l:List _}:(al ah l).length=l.length*4:=bF _ l
def ac3{l:List _}:(al ah l).take (l.length*4)=al ah l:=by
 have:=jn ah l l.length;rw[amd]at this;exact this
def afu{l:List _}:(al bm l).length=l.length*5:=bF _ l
def afv{l:List _}:(al eK l).length=l.length*4:=bF _ l
def afw{l:List _}:(al bA l).length=l.length*3:=bF _ l
def afx{l:List _}:(al bW l).length=l.length*6:=bF _ l
def ac4{l:List _}:(al bW l).take (l.length*6)=al bW l:=by
 have:=jn bW l l.length;rw[amd]at this;exact this
def abP{l:List _}:(al gr l).length=l.length*2:=bF _ l
def abQ{l:List _}:(al bS l).length=l.length*5:=bF _ l
def abR{l:List _}:(al a7 l).length=l.length*5:=bF _ l
def abS{l:List _}:(al ch l).length=l.length*5:=bF _ l
def Xw{l:List _}:(al ch l).take (l.length*5)=al ch l:=by
 have:=jn ch l l.length;rw[amd]at this;exact this
def vme:=ai @BE<|ai @D7<|ai @CE<|ai @VX<|ai @Gl<|ai @PI<|ai @BN<|ai @zi<|ai @BG<|ai @e9<|ai @vg<|ai @Aa<|ai @p6<|ai @D8<|ai @BI<|ai @D9<|ai @Ec<|ai @Gm<|ai @Ed<|ai @Gn<|ai @xY<|ai @z7<|ai @BH<|ai @BJ<|ai @Ea<|ai @z8<|ai @sd<|ai @xZ<|ai @Eb<|ai @BK<|@x4
def vml:=ai @b9<|ai @PU<|ai @KJ<|ai @PW<|ai @KI<|ai @KK<|ai @GF<|ai @KL<|ai @PV<|ai @KM<|ai @Ab<|ai @afq<|ai @UN<|ai @ac5<|ai @afr<|ai @ac1<|ai @afs<|ai @ac2<|ai @aft<|ai @ac3<|ai @afu<|ai @afv<|ai @afw<|ai @afx<|ai @ac4<|ai @abP<|ai @abQ<|ai @abR<|ai @abS<|@Xw
def U8:XG tab ⟨.map 116 41,1,8,[.map none],false⟩ true (.agg [.int .i64 0,.sl false false 0 [],.int .i64 0,.sl false false 0 []]):=⟨_,_,rfl,rfl,rfl,rfl⟩
def abX{h:Nat->Option Row}{m:D}{n a:Int}{b:Bool}:jm tab ⟨.map 116 41,1,8,[.map none],false⟩ h m (.agg [.int .i64 n,.int .i64 a]) b=lkE true b (.agg [.int .i64 0,.sl false false 0 [],.int .i64 0,.sl false false 0 []]) (n,some a) (mapOf h m):=agk U8 rfl
def acd{h:Nat->Option Row}{y v:Nat}{n a:Int}{x:D}:eQ tab ⟨.map 116 41,1,8,[.map none],false⟩ h (.mp y v) (.agg [.int .i64 n,.int .i64 a]) x=muE true h y v (n,some a) (zS h x):=agq U8 rfl
def ab7{a e d:Nat}(b:a<900000):aca tab (some ⟨.map 116 41,1,8,[.map none],false⟩) a e d=some ⟨.mp d e,[(d,some ⟨e,a,[.mpc [] []],false,true,true⟩)]⟩:=aem U8 b
def Ww{m:List ((Int×Int)×ak)}{n a:Int}:ur (.agg [.int .i64 0,.sl false false 0 [],.int .i64 0,.sl false false 0 []]) (fJ m) (iu (bT ah) m) (n,some a)=.agg [.int .i64 (((gI (ak.mk (aN.mk 0 ([])) (aN.mk 0 ([]))) m (n,a)).bX).aq),.sl false false (((gI (ak.mk (aN.mk 0 ([])) (aN.mk 0 ([]))) m (n,a)).bX).aa).length (al (eI .i64) (((gI (ak.mk (aN.mk 0 ([])) (aN.mk 0 ([]))) m (n,a)).bX).aa)),.int .i64 (((gI (ak.mk (aN.mk 0 ([])) (aN.mk 0 ([]))) m (n,a)).b8).aq),.sl false false (((gI (ak.mk (aN.mk 0 ([])) (aN.mk 0 ([]))) m (n,a)).b8).aa).length (al (eI .i64) (((gI (ak.mk (aN.mk 0 ([])) (aN.mk 0 ([]))) m (n,a)).b8).aa))]:=Ld (A:=(bT ah)) (ak.mk (aN.mk 0 ([])) (aN.mk 0 ([]))) (n,a) m
def XB{m:List ((Int×Int)×ak)}{n a:Int}{d:Int}{b:(List Int)}{e:Int}{c:(List Int)}:D.mpc (A6 (fJ m) (n,some a)) (E9 (fJ m) (iu (bT ah) m) (n,some a) (.agg [.int .i64 d,.sl false false b.length (al (eI .i64) b),.int .i64 e,.sl false false c.length (al (eI .i64) c)]))=.mpc (fJ (tH m (n,a) (ak.mk (aN.mk d b) (aN.mk e c)))) (iu (bT ah) (tH m (n,a) (ak.mk (aN.mk d b) (aN.mk e c)))):=by
 rw[<- RV (n,a) (ak.mk (aN.mk d b) (aN.mk e c)) m,<- RX (n,a) (ak.mk (aN.mk d b) (aN.mk e c)) m];rfl
def ab2{e d:Nat}(a:d<1000000):mkA ⟨.struct [(3,0),(64,1)],2,32,[.int .i64 0,.slice none 0 0],false⟩ 66 e d 118 6 1=some ⟨.ptr d e 0,[(d,some ⟨e,66,[.nr 118 6 (4*e+2) [.int .i64 0,.nx 0 []]],false,false,true⟩)]⟩:=by
 unfold mkA;rw[if_pos ⟨by decide,rfl,rfl,by rw[eD];exact a,rfl⟩];rfl
def vmm:=ai @abX<|ai @acd<|ai @ab7<|ai @Ww<|ai @XB<|@vi
def w:=ai @v<|ai @vmt<|ai @vme<|ai @vml<|ai @vab<|ai @vn<|ai @ab2<|@vmm
def bM:=ai @vme<|ai @alY<|ai @alO<|ai @alj<|ai @al0<|@alU
def gz(l:Option (D×Row))(d:List D):=ew (dO (kb (eI .i64))) (fun x:(List Int)=>fH x) (fun r:(List Int) =>.clean (.sl false false r.length (al (eI .i64) r))) l d
def sh0{β:Type}{F:(List Int)->Option β}{R:β->RK}(a:(List Int)):ew (dO (kb (eI .i64))) F R none [.sl false false a.length (al (eI .i64) a)]=(F (a)).map fun r=>(R r,none):=cJ _ _ _ (a)
def rj:cn prog 155 gz:=cn.jB (mode:=.clean) tok bU.none mixed func155 (by kernel_rfl) (fun _ _=>rfl) (fun _=>by kernel_rfl) fun i r a=>by
 replace a:fH i=some r:=a;apply aL rfl ntmps155 results155;simp only[jD];unfold fH at a;simp only[w,seval];obtain⟨v,j,a⟩:=ae a;refine aD (fun s t H e=>match s with|f=>t 0=sI i∧t 3=sN f) (fun o x t H e=>match o with|b=>x=.exit 0∧t 0=sI i∧t 3=sN b) j ?_ ?_ ?_
 ·refine⟨?_,?_⟩;all_goals (rfl)
 ·rintro f t H e d c a;simp only[qQ]at a;simp only[w,seval,d];apply sp fP a<;>intro _ a
  ·obtain⟨A,k,a⟩:=ae a;have g:=bg (eI .i64) k;simp only[bM]at g;simp only[w,seval,d,g];apply sp aw a<;>intro _ a
   ·cases a;simp only[w,seval,d];apply ij;and_intros<;>first|rfl|(simp only[w,seval,d]<;>rfl)
   ·cases a;simp only[w,seval];apply jN;refine⟨rfl,⟨?_,?_⟩⟩;all_goals ((simp only[w,seval,d]<;>rfl))
  ·cases a;simp only[w,seval];apply jN;refine⟨rfl,⟨?_,?_⟩⟩;all_goals ((simp only[w,seval,d]<;>rfl))
 ·rintro x t H e u;obtain⟨b,rfl⟩:∃z,z=v:=⟨_,rfl⟩;dsimp only at u a;obtain⟨rfl,l⟩:=u;obtain⟨B,m,a⟩:=ae a;obtain⟨n,y,p,q,h⟩:=Uz (eI .i64) m;simp only[bM]at h;cases a;simp only[w,seval,l,n,p,q,h]
def vM:=mkE 3 (eI .i64) (as0) (fun (l:(List Int)) (x:Unit)=>fH l)
def NN(pre post:List D)(a:(List Int)):vM (some (.buf 0 0 1 pre.length a.length,⟨0,3,pre++(al (eI .i64) a++post),false,true,false⟩)) []=(fH a).map fun r=>(.fresh 3 1 r.length (al (eI .i64) r),none):=ab3 _ _ _ _ pre post a ()
def Nn(pre post:List D)(g:(List Int))(r:(List Int))(a:fH g=some r):kN (.fresh 3 1) tab bq FU Tryz.f155 (some (.buf 0 0 1 pre.length g.length,⟨0,3,pre++(al (eI .i64) g++post),false,true,false⟩)) []=some (.fresh 3 1 r.length (al (eI .i64) r),none):=by
 apply IQ rfl ntmps155 results155;unfold fH at a;simp only[w,seval];obtain⟨C,n,a⟩:=ae a;refine aD (fun s t H e=>match s with|i=>∃b:Nat,t 0=.buf 0 b 1 pre.length (g).length∧t 3=sN i∧H 0=rW b 3 (pre++(al (eI .i64) g++post))) (fun o x t H e=>match o with|f=>x=.exit 0∧∃d:Nat,t 0=.buf 0 d 1 pre.length (g).length∧t 3=sN f∧H 0=rW d 3 (pre++(al (eI .i64) g++post))) n ?_ ?_ ?_
 ·refine⟨0,?_,?_,?_⟩;all_goals (rfl)
 ·rintro i t H e ⟨b,h⟩ c a;simp only[qQ]at a;simp only[w,seval,h];apply sp fP a<;>intro _ a
  ·obtain⟨F,p,a⟩:=ae a;have j:=Qq (pre:=pre) (post:=post) (eI .i64) p;simp only[bM]at j;simp only[w,seval,h,j];apply sp aw a<;>intro _ a
   ·cases a;simp only[w,seval,h];apply ij;refine⟨b,?_⟩;and_intros<;>first|rfl|(simp only[w,seval,h]<;>rfl)
   ·cases a;simp only[w,seval];apply jN;refine⟨rfl,⟨b,?_,?_,?_⟩⟩;all_goals ((simp only[w,seval,h]<;>rfl))
  ·cases a;simp only[w,seval];apply jN;refine⟨rfl,⟨b,?_,?_,?_⟩⟩;all_goals ((simp only[w,seval,h]<;>rfl))
 ·rintro x t H e B;obtain⟨f,rfl⟩:∃z,z=C:=⟨_,rfl⟩;dsimp only at B a;obtain⟨rfl,⟨d,q⟩⟩:=B;obtain⟨G,k,a⟩:=ae a;obtain⟨u,E,v,y,A⟩:=Uz (eI .i64) k;simp only[bM]at A;obtain⟨l,m⟩:=aeN (pre:=pre) (post:=post) (eI .i64) k;simp only[bM]at l m;cases a;simp only[w,seval,q,u,v,l,m,y]
def Jm:cn prog 155 vM:=cn.ahK tok bU.none mixed func155 (by kernel_rfl) ⟨by kernel_rfl,by kernel_rfl⟩ (fun _=>alK (by kernel_rfl)) (fun pre post l x r h=>Nn pre post l r h)
def cM(l:Option (D×Row))(d:List D):=ew (fV (aI .i64) (dO (kb (eI .i64)))) (fun x:Int×(List Int)=>eh x.1 x.2) (fun r:aN =>.clean (.agg [.int .i64 r.aq,.sl false false r.aa.length (al (eI .i64) r.aa)])) l d
def ZM{β:Type}{F:Int×(List Int)->Option β}{R:β->RK}(b:Int)(a:(List Int)):ew (fV (aI .i64) (dO (kb (eI .i64)))) F R none [.int .i64 b,.sl false false a.length (al (eI .i64) a)]=(F (b,a)).map fun r=>(R r,none):=cJ _ _ _ (b,a)
def wq:Env:=(Am.ext bq 155 false gz)
def Ja:bU prog wq:=(bU.none.add rj false)
def wY:=ai @w<|ai @sh0<|ai @gz.eq_1<|@wq.eq_1
def kT:cn prog 113 cM:=cn.jB (mode:=.clean) tok Ja mixed func113 (by kernel_rfl) (fun _ _=>rfl) (fun _=>by kernel_rfl) fun⟨c,d⟩ r a=>by
 replace a:eh c d=some r:=a;apply aL rfl ntmps113 results113;simp only[jD];unfold eh at a;obtain⟨e,b,a⟩:=ae a;simp only[wY,seval,b];apply sp aw a<;>intro _ a
 ·cases a;simp only[wY,seval]
 ·cases a;simp only[wY,seval]
def sK(l:Option (D×Row))(d:List D):=ew (dO (aI .i64)) (fun x:Int=>vZ x) (fun r:aN =>.clean (.agg [.int .i64 r.aq,.sl false false r.aa.length (al (eI .i64) r.aa)])) l d
def IV{β:Type}{F:Int->Option β}{R:β->RK}(a:Int):ew (dO (aI .i64)) F R none [.int .i64 a]=(F (a)).map fun r=>(R r,none):=cJ _ _ _ (a)
def GL:Env:=(Am.ext bq 113 false cM)
def Yr:bU prog GL:=(bU.none.add kT false)
def kO:=ai @w<|ai @ZM<|ai @cM.eq_1<|@GL.eq_1
def Ly:cn prog 61 sK:=cn.jB (mode:=.clean) tok Yr mixed func61 (by kernel_rfl) (fun _ _=>rfl) (fun _=>by kernel_rfl) fun I r a=>by
 replace a:vZ I=some r:=a;apply aL rfl ntmps61 results61;simp only[jD];unfold vZ at a;simp only[kO,seval,-Int.reduceToNat];obtain⟨J,A,a⟩:=ae a;refine rp 0 (fun s t H e=>match s with|(b,k)=>∃d:Nat,t 2=.ptr 2 d 0∧t 3=sN b∧t 4=.int .u64 k∧H 2=rV d 39 [sN 0,.sl true true 0 []]) (fun s=>s=J) ?_ ?_
 ·rintro⟨b,k⟩ t H e ⟨d,B⟩ rfl;try dsimp only at a
  simp only[kO,seval,-Int.reduceToNat];obtain⟨K,C,a⟩:=ae a;refine aD (fun s t H e=>match s with|(n,m)=>∃f:Nat,∃j:Nat,t 2=.ptr 2 f 0∧t 3=sN b∧t 4=.int .u64 n∧t 5=.buf 5 j 1 0 (m).length∧H 2=rV f 39 [sN 0,.sl true true 0 []]∧H 5=rW j 3 (al (eI .i64) m)) (fun o x t H e=>match o with|g=>x=.exit 0∧∃h:Nat,∃i:Nat,t 2=.ptr 2 h 0∧t 3=sN b∧t 5=.buf 5 i 1 0 (g).length∧H 2=rV h 39 [sN 0,.sl true true 0 []]∧H 5=rW i 3 (al (eI .i64) g)) C ?_ ?_ ?_
  ·refine⟨d,e,?_⟩;and_intros<;>first|rfl|(simp only[kO,seval,-Int.reduceToNat,B]<;>rfl)
  ·rintro⟨n,m⟩ t H e ⟨f,j,y⟩ c a;simp only[zc]at a;simp only[kO,seval,-Int.reduceToNat,y];apply sp aw a<;>intro _ a
   ·obtain⟨N,D,a⟩:=ae a;obtain⟨p,l,q,u⟩:=lj (eI .i64) D;simp only[bM]at l;obtain⟨L,v,a⟩:=ae a;have E:=wR v;cases a;simp only[kO,seval,-Int.reduceToNat,y,p,l,q,u,E];apply ij;refine⟨f,e+1,?_⟩;and_intros<;>first|rfl|(simp only[kO,seval,-Int.reduceToNat,y]<;>rfl)
   ·cases a;simp only[kO,seval,-Int.reduceToNat];apply jN;refine⟨rfl,⟨f,j,?_,?_,?_,?_,?_⟩⟩;all_goals ((simp only[kO,seval,-Int.reduceToNat,y]<;>rfl))
  ·rintro x t H e G;obtain⟨g,rfl⟩:∃z,z=K:=⟨_,rfl⟩;dsimp only at G a;obtain⟨rfl,⟨h,i,F⟩⟩:=G;obtain⟨M,w,a⟩:=ae a;cases a;simp only[kO,seval,-Int.reduceToNat,F,w]
 ·clear a;have a:=A;simp only[kO,seval,-Int.reduceToNat];apply sp aw a<;>intro _ a
  ·cases a;simp only[kO,seval,-Int.reduceToNat];rw[aG];refine⟨_,rfl,?_⟩;refine⟨0,?_,?_,?_,?_⟩;all_goals (rfl)
  ·cases a;simp only[kO,seval,-Int.reduceToNat];rw[aG];refine⟨_,rfl,?_⟩;refine⟨0,?_,?_,?_,?_⟩;all_goals (rfl)
def bV(l:Option (D×Row))(d:List D):=ew (dO (bT je)) (fun x:aN=>dG x) (fun r:Bool =>.clean (.bool r)) l d
def IW{β:Type}{F:aN->Option β}{R:β->RK}(b:Int)(a:(List Int)):ew (dO (bT je)) F R none [.agg [.int .i64 b,.sl false false a.length (al (eI .i64) a)]]=(F ((aN.mk b a))).map fun r=>(R r,none):=cJ _ _ _ ((aN.mk b a))
def iw:cn prog 103 bV:=cn.jB (mode:=.clean) tok bU.none mixed func103 (by kernel_rfl) (fun _ _=>rfl) (fun _=>by kernel_rfl) fun g r a=>by
 replace a:dG g=some r:=a;apply aL rfl ntmps103 results103;simp only[jD];unfold dG at a;simp only[w,seval];obtain⟨v,q,a⟩:=ae a;refine aD (fun s t H e=>match s with|h=>∃d:Nat,t 1=.ptr 1 d 0∧t 3=sN (g.aa.length:Int)∧t 10=sI g.aa∧t 11=sN (g.aa.length:Int)∧t 12=sN h∧H 1=rV d 39 [sN g.aq,sI g.aa]) (fun o x t H e=>match o with|(.inl _)=>x=.exit 0∧∃f:Nat,t 1=.ptr 1 f 0∧t 3=sN (g.aa.length:Int)∧H 1=rV f 39 [sN g.aq,sI g.aa]|(.inr r)=>x=.ret∧gE .clean tab none [.tmp 2] ⟨t,EH H,e⟩=some (.clean (.bool r),none)) q ?_ ?_ ?_
 ·refine⟨0,?_,?_,?_,?_,?_,?_⟩;all_goals (rfl)
 ·rintro h t H e ⟨d,k⟩ c a;simp only[rZ]at a;simp only[w,seval,k];apply sp aw a<;>intro _ a
  ·obtain⟨B,u,a⟩:=ae a;have l:=bg (eI .i64) u;simp only[bM]at l;simp only[w,seval,k,l];apply sp bL a<;>intro _ a
   ·cases a;simp only[w,seval];refine tU ⟨rfl,?_⟩;simp only[w,seval]
   ·simp only[w,seval];apply sp aw a<;>intro _ a
    ·cases a;simp only[w,seval];refine tU ⟨rfl,?_⟩;simp only[w,seval]
    ·cases a;simp only[w,seval,k];apply ij;refine⟨d,?_⟩;and_intros<;>first|rfl|(simp only[w,seval,k]<;>rfl)
  ·cases a;simp only[w,seval];apply jN;refine⟨rfl,⟨d,?_,?_,?_⟩⟩;all_goals ((simp only[w,seval,k]<;>rfl))
 ·rintro x t H e p;rcases v with _|C
  ·dsimp only at p a;obtain⟨rfl,⟨f,b⟩⟩:=p;simp only[w,seval,b];apply sp aw a<;>intro _ a
   ·cases a;simp only[w,seval,b]
   ·simp only[w,seval,b];apply sp bL a<;>intro _ a
    ·obtain⟨y,m,a⟩:=ae a;have i:=bg (eI .i64) m;simp only[bM]at i;cases a;simp only[w,seval,b,i]
    ·simp only[w,seval,b];apply sp fP a<;>intro _ a
     ·obtain⟨z,n,a⟩:=ae a;have j:=bg (eI .i64) n;simp only[bM]at j;cases a;simp only[w,seval,b,j]
     ·cases a;simp only[w,seval]
  ·dsimp only at p a;obtain⟨rfl,A⟩:=p;cases a;simp only[a8,bj,cD,cZ];exact A
def zL(r:(List Int))(a:cu []=some r):kN (.fresh 3 1) tab bq FU Tryz.f55 none [.sl true true 0 []]=some (.fresh 3 1 r.length (al (eI .i64) r),none):=by
 unfold cu at a;obtain⟨b,c,d⟩:=vX a;subst b;apply aL rfl ntmps55 results55;simp only[w,seval,Nat.lt_irrefl]
def zM(r:(List Int))(a:cu []=some r):kN (.fresh 3 1) tab bq FU Tryz.f55 none [.sl true false 0 []]=some (.fresh 3 1 r.length (al (eI .i64) r),none):=by
 unfold cu at a;obtain⟨b,c,d⟩:=vX a;subst b;apply aL rfl ntmps55 results55;simp only[w,seval,Nat.lt_irrefl]
def zN(a r:(List Int))(c:0<a.length)(b:cu a=some r):kN (.fresh 3 1) tab bq FU Tryz.f55 none [.sl false false a.length (al (eI .i64) a)]=some (.fresh 3 1 r.length (al (eI .i64) r),none):=by
 unfold cu at b;have g:¬a.length=0:=by omega
 obtain⟨d,e,f⟩:=vX b;subst d;apply aL rfl ntmps55 results55;simp only[w,seval,c,e,f]
def gi:=ew (dO (kb (eI .i64))) (fun x:(List Int)=>cu x) (fun r:(List Int) =>.fresh 3 1 r.length (al (eI .i64) r))
end Go.Proofs.YtobnihfgnbnncaaGreat.Am
