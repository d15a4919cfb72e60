import Derived.Test.YtobnihfgnbnncaaGreatIc
set_option linter.unusedSimpArgs false
set_option linter.unusedVariables false
set_option linter.defProp false
noncomputable section
open Go.Proofs.Tryz
namespace Go.Proofs.YtobnihfgnbnncaaGreat.Am
open Go.RowKit Go.Proofs.YtobnihfgnbnncaaGreat.P
def ck.agL {P:Program} {T:Nat->Option Ty} {Γ:Env} (i:ke P T) (j:bV P Γ) (k:P.follows .mixedOrders=true) {α γ:Type} {d:Nat} {E:jr γ} {A:kM α} {F:List γ->α->Option (List γ)} {f:FuncId} {b:Func} (g:P.funcs[f]? = some b) (e:(match b.body with|some c=>codeOk c|none=>true)=true)
  (m:(b.name == "runtime.NumGoroutine")=false∧b.body.isNone=false) (n:∀a,(A.ds a).length+1<=b.ntmps)
  (h:∀pre post l a r,F l a=some r->jx (.fresh d E.size) T Γ FU b (some (.buf 0 0 E.size pre.length l.length,⟨0,d,pre++(an E l++post),false,true,false⟩)) (A.ds a)=some (.fresh d E.size r.length (an E r),none)):ck P f (mkE d E A F) where
 calls cc alj rk out o:=by
  obtain⟨pre,l,post,a,r,rfl,rfl,p,rfl,rfl⟩:=Sm o;exact mw i j k g e (n a) rfl (h pre post l a r p)
 callable:=⟨b,g,m⟩
def ck.zero {P:Program} {f:FuncId} {b:Func} (c:P.funcs[f]? = some b) (d:(b.name == "runtime.NumGoroutine")=false∧b.body.isNone=false) {α β:Type} {A:kM α} {F:α->Option β} {R:β->RK} (g:∀a,F a=none):ck P f (ej A F R) where
 calls cc alj rk out e:=by
  obtain⟨rfl,rfl,a,r,rfl,h,rfl⟩:=wC e;simp_all
 callable:=⟨b,c,d⟩
section
variable {h:Nat->Option Row} {Γ:Env} {g e x v d:Nat} {dst:Option Nat} {fr:List Nat} {alj rest:List D} {d0:D} {T:Nat->Option Ty} {rs:List ResultVar}
def P0 (h:Nat->Option Row) (e:Nat) (dst:Option Nat) (x v:Nat) (fr:List Nat):Option (RK×Option Row)->Option cH
 | some (.clean c,some a)=>some ⟨c,lh h fr++[(x,some { a with v:=v })]⟩
 | some (.same s o n,some a)=>some ⟨.buf x v s o n,lh h fr++[(x,some { a with v:=v })]⟩
 | some (.fresh b s n cells,none) =>
  match dst with
  | some d=>if fr.contains d=false then some ⟨.buf d e s 0 n,lh h fr++[(x,none),(d,some ⟨e,b,cells,false,true,false⟩)]⟩ else none
  | none=>none
 | _=>none
def abG (Γ:Env) (h:Nat->Option Row) (e:Nat) (dst:Option Nat) (g x v:Nat) (d0:D) (r:Row):Option (List D×List Nat)->Option cH
 | some (alj,fr)=>if fr.contains x=false then P0 h e dst x v fr (Γ.sem g (some (d0,r)) alj) else none
 | none=>none
def PZ (Γ:Env) (h:Nat->Option Row) (e:Nat) (dst:Option Nat) (g x v:Nat) (d0:D) (rest:List D):Option Row->Option cH
 | some r=>if r.fz=false then abG Γ h e dst g x v d0 { r with v:=0 } (b9 h rest) else none
 | none=>none
def P3 {s o n:Nat} : FV true Γ h e dst g (.buf x v s o n::rest)=PZ Γ h e dst g x v (.buf 0 0 s o n) rest (live h x v):=by
 simp only[FV,if_true,tT,CW];cases live h x v with
 | none=>rfl
 | some r =>
  simp only[PZ];cases b9 h rest with
  | none=>rfl
  | some p=>rfl
def lvR (v:Nat):Option Row->Option Row
 | some r=>if r.v=v∧r.mp=true∧yt r=true then some r else none
 | none=>none
def Se {v b:Nat} {d:List eB} {e:List D} {f a:Bool} (c:b<900000):lvR v (some ⟨v,b,[.mpc d e],f,a,true⟩)=some ⟨v,b,[.mpc d e],f,a,true⟩:=by simp[lvR,yt,c]
def WQ:FV true Γ h e dst g (.mp x v::rest)=PZ Γ h e dst g x v (.mp 0 0) rest (lvR v (h x)):=by
 simp only[FV,if_true,tT,CW];have:BL h x v=lvR v (h x):=by unfold BL lvR;cases h x<;>rfl
 rw[this];cases lvR v (h x) with
 | none=>rfl
 | some r =>
  simp only[PZ];cases b9 h rest with
  | none=>rfl
  | some p=>rfl
def Cm {c:D} {f b:Nat} {cells:List D} {d a:Bool} : P0 h e dst x v fr (some (.clean c,some ⟨f,b,cells,d,a,true⟩))=some ⟨c,lh h fr++[(x,some ⟨v,b,cells,d,a,true⟩)]⟩:=an3
def G0 {r:Row} : PZ Γ h e dst g x v d0 rest (some r)=if r.fz=false then abG Γ h e dst g x v d0 { r with v:=0 } (b9 h rest) else none:=an3
def G1 {r:Row} : abG Γ h e dst g x v d0 r (some (alj,fr))=if fr.contains x=false then P0 h e dst x v fr (Γ.sem g (some (d0,r)) alj) else none:=an3
def ES {c:D} {f b:Nat} {cells:List D} {d a:Bool} : P0 h e dst x v fr (some (.clean c,some ⟨f,b,cells,d,a,false⟩))=some ⟨c,lh h fr++[(x,some ⟨v,b,cells,d,a,false⟩)]⟩:=an3
def ET {s n a:Nat} {cells:List D} : P0 h e (some d) x v fr (some (.fresh a s n cells,none))=if fr.contains d=false then some ⟨.buf d e s 0 n,lh h fr++[(x,none),(d,some ⟨e,a,cells,false,true,false⟩)]⟩ else none:=an3
def Fj {a b i:Nat} {t:Nat->D} {l:D×Row} : gG (.fresh a b) T (some l) [.tmp i] ⟨t,h,e⟩=tF a b h (t i):=an3
def aiP (y v s o:Nat):Option Row->Option Ty->Option (Nat×Nat)->Option cH
 | some _,some φ,some (l,k)=>if φ.size=s∧0<s then some ⟨.buf y v s (o+l*s) (k-l),[]⟩ else none
 | _,_,_=>none
def LX {y v s o l k:Nat} {r:Row} {φ:Ty} : aiP y v s o (some r) (some φ) (some (l,k))=if φ.size=s∧0<s then some ⟨.buf y v s (o+l*s) (k-l),[]⟩ else none:=an3
def Xi {el b c y v s o n:Nat} {z:List Value} {q:Bool} {a d:Option D} : jg T ⟨.slice el,b,c,z,q⟩ h (.buf y v s o n) a d none=aiP y v s o (live h y v) (T el) (Bf n a d):=by
 simp only[jg];cases live h y v with
 | none=>rfl
 | some r =>
  simp only;cases T el with
  | none=>rfl
  | some φ =>
   cases Bf n a d with
   | none=>rfl
   | some p=>rfl
def ahq (a:Nat):Option (List D×List Nat)->Option Row->Option (RK×Option Row)
 | some (b,fr),some r=>if r.v=0∧r.fz=false∧r.ty=a∧r.mp=false∧fr.contains 0=false then some (.clean (oQ b),some r) else none
 | _,_=>none
def LS {a:Nat} {b:List D} {r:Row} : ahq a (some (b,fr)) (some r)=if r.v=0∧r.fz=false∧r.ty=a∧r.mp=false∧fr.contains 0=false then some (.clean (oQ b),some r) else none:=an3
def LU {t:Nat->D} {b v:Nat} {cells:List D} {d c:Bool} : gG .clean T (some (d0,⟨v,b,cells,d,c,false⟩)) rs ⟨t,h,e⟩=ahq b (yy T ⟨t,h,e⟩ rs) (h 0):=by
 simp only[gG,ue,ov,adu,ahq];cases yy T ⟨t,h,e⟩ rs with
 | none=>rfl
 | some p =>
  obtain⟨f,fr⟩:=p;cases h 0 with
  | none=>rfl
  | some r =>
   simp only
   by_cases a:r.v=0∧r.fz=false∧r.ty=b∧r.mp=false
   ·rw[if_pos ⟨a.1,a.2.1,a.2.2.1,a.2.2.2,Iv a.2.2.2⟩];simp_all
   simp_all
def Xe (a:Nat):Option (List D×List Nat)->Option Row->Option (RK×Option Row)
 | some (b,fr),some r=>if r.v=0∧r.fz=false∧r.ty=a∧(r.mp=true∧yt r=true)∧fr.contains 0=false then some (.clean (oQ b),some r) else none
 | _,_=>none
def HD {b:Nat} {d:List D} {e:List eB} {f:List D} {a:Bool} (c:b<900000):Xe b (some (d,fr)) (some ⟨0,b,[.mpc e f],false,a,true⟩)=if fr.contains 0=false then some (.clean (oQ d),some ⟨0,b,[.mpc e f],false,a,true⟩) else none:=by
 simp[Xe,yt,c]
def HG {t:Nat->D} {b v:Nat} {cells:List D} {c a:Bool} : gG .clean T (some (d0,⟨v,b,cells,c,a,true⟩)) rs ⟨t,h,e⟩=Xe b (yy T ⟨t,h,e⟩ rs) (h 0):=by
 simp only[gG,ue,ov,adu,Xe];grind
end
section
variable {α:Type} (E:jr α) {l m u x:List α} {y y':α} {i a b:Int} {pre post:List D}
def aga (h:Ge l a b=some x):an E (l.take a.toNat)++(an E x++an E (l.drop b.toNat))=an E l:=by
 unfold Ge at h;split at h
 ·rename_i c;cases h;rw[<- jN,<- jN];congr 1;have e:l.drop b.toNat=(l.drop a.toNat).drop (b.toNat-a.toNat):=by rw[am0];congr 1;omega
  rw[e,am1,am1]
 ·cases h
def agb (h:Ge l a b=some x):(an E (l.take a.toNat)).length=a.toNat*E.size:=by
 unfold Ge at h;split at h
 ·rw[bS,alI,ann (by omega)]
 ·cases h
def ag4 (h:Ge l a b=some x):x.length=b.toNat-a.toNat:=by
 unfold Ge at h;grind
def af9:an E (l.take i.toNat)++(an E u++an E (l.drop b.toNat))=an E (l.take i.toNat++(u++l.drop b.toNat)):=by rw[jN,jN]
def RB (h:P.idx l i=some y):(pre++(an E l++post)).drop (pre.length+i.toNat*E.size)=E.cells y++(an E (l.drop (i.toNat+1))++post):=by
 rw[<- am0,List.drop_left,anh (by rw[bS];have:=kR E h;omega),Ai E h,am8]
def RD (h:P.idx l i=some y):pre.length+i.toNat*E.size+E.size<=(pre++(an E l++post)).length:=by
 have:=kR E h;rw[amu,amu,bS];omega
def zn (h:P.idx l i=some y):(0<=i∧i<l.length)∧(pre++(an E l++post)).drop (pre.length+i.toNat*E.size)=E.cells y++(an E (l.drop (i.toNat+1))++post)∧pre.length+i.toNat*E.size+E.size<=(pre++(an E l++post)).length:=⟨oK h,RB E h,RD E h⟩
def Db (h:P.idx l i=some y):putCells (pre++(an E l++post)) (pre.length+i.toNat*E.size) (E.cells y')=pre++(an E (l.set i.toNat y')++post):=by
 have a:=adE E (x':=y') h;have b:=kR E h;have c:=bS E l;unfold putCells at a ⊢;rw[<- a,E.len];have d:(pre++(an E l++post)).take (pre.length+i.toNat*E.size)=pre++(an E l).take (i.toNat*E.size):=by
  grind
 have e:(pre++(an E l++post)).drop (pre.length+i.toNat*E.size+E.size)=(an E l).drop (i.toNat*E.size+E.size)++post:=by
  rw[alK,amW,amX (by omega),anf,amU,anh (by omega)]
 simp_all
def aew (h:Ge l a b=some x) (c:u.length=x.length):(l.take a.toNat++(u++l.drop b.toNat)).length=l.length:=by
 have d:=ag4 h;unfold Ge at h;grind
def afX (h:Ge l 0 b=some x):pre.length+x.length*E.size<=(pre++(an E l++post)).length∧((pre++(an E l++post)).drop pre.length).take (x.length*E.size)=an E x:=by
 obtain⟨d,e,a,f,c⟩:=VI E h;have:=al8 E.size a;refine⟨by rw[amu,amu,bS];omega,?_⟩;rw[List.drop_left,ang (by rw[bS];exact this),c]
end
section
variable {h:Nat->Option Row} {Γ:Env} {e:Nat} {dst:Option Nat}
def caP:Option (D×List Nat)->Option (List D×List Nat)->Option (List D×List Nat)
 | some (d,fr),some (ds,a)=>some (d::ds,fr++a)
 | _,_=>none
def PY {d:D} {b:List D} {fr a:List Nat} : caP (some (d,fr)) (some (b,a))=some (d::b,fr++a):=an3
def Qe:eC h []=some ([],[]):=an3
def Lf {d:D} {a:List D} : eC h (d::a)=caP (bX h d) (eC h a):=by
 simp only[eC];cases bX h d with
 | none=>rfl
 | some x=>cases eC h a<;>rfl
def clC (f k:Nat):Option (List D×List Nat)->Option (D×List Nat)
 | some (a,fr)=>some (.clo f k a,fr)
 | none=>none
def Qn {f k:Nat} {a:List D} {fr:List Nat} : clC f k (some (a,fr))=some (.clo f k a,fr):=an3
def Qh {f k:Nat} {a:List D} : cZ h (.clo f k a)=clC f k (eC h a):=by
 simp only[cZ]<;>cases eC h a<;>rfl
def Qb {g k:Nat} {a b:List D} : ki Γ h e dst (.clo g k a) b=if a.all vl then FV false Γ h e dst g (a.take k++(b++a.drop k)) else none:=by
 simp only[ki,FV,alY,if_false]
end
def Je:oQ []=.tup []:=an3
def PE (f:Nat):Arg Unit:=⟨fun _ =>.fn f,fun _ _ _=>rfl⟩
def agn {f:Nat} {x:Unit} : (PE f).d x=.fn f:=an3
def NO {α:Type} (f k:Nat) (a:kM α):Arg α:=⟨fun x =>.clo f k (a.ds x),fun x y h=>a.inj _ _ (by simpa using h)⟩
def abi {α:Type} {f k:Nat} {a:kM α} {x:α} : (NO f k a).d x=.clo f k (a.ds x):=an3
def vm7:=ai @PY<|ai @Qe<|ai @Lf<|ai @Qn<|ai @Qh<|ai @Qb<|ai @Je<|ai @Cv<|@Gk
def vm6:=ai @Th<|ai @amm<|ai @Xi<|ai @LX<|ai @ET<|ai @Fj<|ai @P3<|ai @WQ<|ai @Se<|ai @Cm<|ai @HD<|ai @HG<|ai @G0<|ai @G1<|ai @ES<|ai @LS<|@LU
section
variable {T:Nat->Option Ty} {h:Nat->Option Row} {τ:Ty} {q:Nat->Bool}
def ac0 {x v o:Nat} : tY τ h (.ptr x v o)=vG τ h x v o (live h x v):=an3
def agC {a:List D} : tY τ h (.ip a)=fW τ h (.ip a):=an3
def agA {x v o a b:Nat} {c:List D} {d:Bool} : vG τ h x v o (some ⟨a,b,c,d,true,false⟩)=fW τ h (.ptr x v o):=by
 simp only[vG,amC,Bool.and_false,alY,if_false]
def agB {x v o b d:Nat} {c:List D} {a:Bool} : vG τ h x v o (some ⟨b,d,c,false,a,false⟩)=fW τ h (.ptr x v o):=by
 simp only[vG,ank,alY,if_false]
def Yr {p:D} {k:IntKind} {n:Int} : jh τ h p (.int k n)=ji τ h p (.int k n):=an3
def Yq {p:D} {x v s o n:Nat} : jh τ h p (.buf x v s o n)=ji τ h p (.buf x v s o n):=an3
def Yp {p:D} {a:List D} : jh τ h p (.agg a)=ji τ h p (.agg a):=an3
def aiJ (b:Bool) (T:Nat->Option Ty) (τ:Ty) (h:Nat->Option Row) (c:List (Nat×D)):Option cH :=
 if b then jf T τ h c else
  match τ.ds,c with
  | .struct a,[(0,.buf x v s o n)]=>if (alive h (.buf x v s o n))∧(a.all fun f=>(T f.1).isSome)∧fieldAt T a 0=some (0,1)∧τ.zero.length=1 then some ⟨.box1 x v s o n,[]⟩ else none
  | .struct a,[(0,.box1 x v s o n)]=>if (alive h (.buf x v s o n))∧(a.all fun f=>(T f.1).isSome)∧fieldAt T a 0=some (0,1)∧τ.zero.length=1 then some ⟨.box1 x v s o n,[]⟩ else none
  | _,_=>cE (jf T τ h c)
def WL {d:Nat} {a:List (Nat×D)} : tW q T τ h (some d) a=aiJ (q d) T τ h a:=an3
def KX {a:List (Nat×D)} : aiJ true T τ h a=jf T τ h a:=an3
def KN {x v s o n:Nat} : alive h (.buf x v s o n)=(rY h x v).isSome:=an3
end
def vm8:=ai @ac0<|ai @agC<|ai @agA<|ai @agB<|ai @Yr<|ai @Yq<|ai @Yp<|ai @WL<|ai @KX<|@KN
def aj9:=ai @aa2<|ai @agc<|ai @Nb<|ai @Yg<|ai @adQ<|ai @Sv<|ai @Su<|ai @agY<|ai @Md<|ai @Mc<|ai @Rb<|ai @ME<|ai @ID<|ai @Sx<|ai @X9<|ai @Ye<|ai @R3<|ai @ade<|ai @XG<|ai @Mi<|ai @XE<|ai @RW<|ai @XF<|ai @Ym<|ai @Nl<|ai @Nn<|ai @Nk<|ai @TL<|ai @Nr<|ai @S2<|ai @S1<|ai @XD<|ai @acY<|ai @acZ<|ai @Mh<|ai @Yj<|ai @adZ<|ai @ad0<|ai @TO<|ai @TN<|ai @ND<|ai @NF<|ai @JU<|ai @YR<|ai @YQ<|ai @Ua<|ai @YJ<|ai @aeo<|ai @XZ<|ai @adv<|@lM
def aka:=ai @Xl<|ai @RN<|ai @MA<|ai @SI<|ai @IG<|ai @SK<|ai @SJ<|ai @MI<|ai @SH<|ai @SG<|ai @Nh<|ai @Np<|ai @Ng<|ai @No<|ai @Yk<|ai @Yn<|ai @Ni<|ai @Nq<|ai @Ms<|ai @Mt<|ai @PO<|ai @PQ<|ai @TJ<|ai @Nj<|ai @TK<|ai @KS<|ai @KR<|@rY.eq_1
def akb:=ai @acy<|ai @Xz<|ai @Xw<|ai @XX<|ai @Mz<|ai @MC<|ai @R6<|ai @R9<|ai @Is<|ai @Sa<|ai @R8<|ai @Mn<|ai @R5<|ai @R4<|ai @R7<|ai @SE<|ai @SB<|ai @IF<|ai @SF<|ai @SD<|ai @MH<|ai @SA<|ai @Sz<|ai @SC<|ai @Lb<|ai @EY<|ai @EW<|ai @EX<|ai @Qt<|ai @Qu<|ai @aco<|ai @W7<|ai @acn<|ai @W6<|ai @QQ<|ai @QR<|ai @P7<|ai @La<|ai @TG<|ai @Nf<|ai @TH<|ai @CL<|ai @LR<|ai @LQ<|ai @Xf<|ai @Q3<|ai @Xc<|ai @LP<|@Q0
def v:=ai @vmc<|ai @vmk<|ai @vm1<|ai @vm2<|ai @vm3<|ai @vm4<|ai @vm5<|ai @vm6<|ai @vm7<|ai @vm8<|ai @aj8<|ai @aj9<|ai @aka<|ai @akb<|ai @vmu<|ai @Option.toList_some.{0}<|@Option.toList_none.{0}
class EP (κ:Type) where
 k:κ->eB
 inj:∀x y,k x=k y->x=y
instance:EP Int:=⟨fun n=>(n,none),fun x y h=>by simpa using h⟩
instance:EP (Int×Int):=⟨fun p=>(p.1,some p.2),fun x y h=>by
 grind⟩
def fQ {κ α:Type} [EP κ]:List (κ×α)->List eB
 | []=>[]
 | (k,_)::m=>EP.k k::fQ m
def iJ {κ α:Type} (A:Arg α):List (κ×α)->List D
 | []=>[]
 | (_,v)::m=>A.d v::iJ A m
section
variable {κ α:Type} [EP κ] {A:Arg α}
def XA (k n:κ):EP.k k=EP.k n↔k=n:=⟨EP.inj _ _,fun h=>by rw[h]⟩
def Si [DecidableEq κ] (n:κ):∀m:List (κ×α),(fQ m).contains (EP.k n)=qu m n
 | []=>rfl
 | (k,v)::m=>by
  have:=Si n m;simp only[fQ,amm,qu,this];congr 1
  by_cases h:k=n
  ·simp_all
  ·rw[beq_eq_false_iff_ne.2 h,beq_eq_false_iff_ne.2 (fun e=>h (EP.inj _ _ e.symm))]
def Sj:∀m:List (κ×α),(fQ m).length=m.length
 | []=>rfl
 | (k,v)::m=>by simp[fQ,Sj m]
def Mo [DecidableEq κ] (z:α) (n:κ):∀m:List (κ×α),vf (A.d z) (fQ m) (iJ A m) (EP.k n)=A.d (gO z m n)
 | []=>rfl
 | (k,v)::m=>by
  simp only[fQ,iJ,vf,gO,Mo z n m,XA];grind
def S6 [DecidableEq κ] (n:κ) (v:α):∀m:List (κ×α),BX (fQ m) (EP.k n)=fQ (uC m n v)
 | []=>rfl
 | (k,x)::m=>by
  have a:=S6 n v m;unfold BX at a ⊢;simp only[fQ,uC,amm]
  by_cases h:k=n
  ·subst h;simp[fQ]
  ·have b:(EP.k n==EP.k k)=false:=by simpa [XA] using Ne.symm h
   rw[b,amn,if_neg h];simp only[fQ];grind
def S8 [DecidableEq κ] (n:κ) (v:α):∀m:List (κ×α),Gb (fQ m) (iJ A m) (EP.k n) (A.d v)=iJ A (uC m n v)
 | []=>rfl
 | (k,x)::m=>by
  have a:=S8 n v m;unfold Gb at a ⊢;simp only[fQ,iJ,uC,amm]
  by_cases h:k=n
  ·subst h;simp[iJ,aml]
  ·have b:(EP.k n==EP.k k)=false:=by simpa [XA] using Ne.symm h
   have c:(EP.k k==EP.k n)=false:=by grind
   rw[b,amn,if_neg h];simp only[iJ,aml,c,cond_false];grind
def map_inj:∀ {m a:List (κ×α)},fQ m=fQ a->iJ A m=iJ A a->m=a
 | [],[],_,_=>rfl
 | [],(k,v)::a,h,_=>by simp[fQ]at h
 | (k,v)::m,[],h,_=>by simp[fQ]at h
 | (k,v)::m,(k',v')::a,h,g=>by
  simp only[fQ,alO,XA]at h;simp only[iJ,alO]at g;rw[h.1,A.inj _ _ g.1,map_inj h.2 g.2]
end
def Mg {α:Type} {a b:Int} {m:List ((Int×Int)×α)} : vX true (a,some b) (fQ m)=true:=by
 unfold vX;simp only[al0];refine⟨rfl,?_⟩
 induction m with
 | nil=>rfl
 | cons p m c=>simp only[fQ,List.all_cons,al0];exact⟨rfl,c⟩
def kT {κ ν α β:Type} [EP κ] (a:Nat) (V:Arg ν) (A:kM α) (F:List (κ×ν)->α->Option (List (κ×ν)×β)) (R:β->RK):Option (D×Row)->List D->Option (RK×Option Row):=fun cc b =>
 match cc with
 | some (.mp 0 0,⟨0,ty',[.mpc ks vs],false,true,true⟩)=>open Classical in
  if h:ty'=a∧∃p:List (κ×ν)×α,ks=fQ p.1∧vs=iJ V p.1∧b=A.ds p.2 then
   (F (Classical.choose h.2).1 (Classical.choose h.2).2).map fun r=>(R r.2,some ⟨0,a,[.mpc (fQ r.1) (iJ V r.1)],false,true,true⟩)
  else none
 | _=>none
def ahD {κ ν α β:Type} [EP κ] (b:Nat) (V:Arg ν) (A:kM α) (F:List (κ×ν)->α->Option (List (κ×ν)×β)) (R:β->RK) (l:List (κ×ν)) (a:α) :
  kT b V A F R (some (.mp 0 0,⟨0,b,[.mpc (fQ l) (iJ V l)],false,true,true⟩)) (A.ds a)=(F l a).map fun r=>(R r.2,some ⟨0,b,[.mpc (fQ r.1) (iJ V r.1)],false,true,true⟩):=by
 have h:b=b∧∃p:List (κ×ν)×α,fQ l=fQ p.1∧iJ V l=iJ V p.1∧A.ds a=A.ds p.2:=⟨rfl,(l,a),rfl,rfl,rfl⟩;simp only[kT];rw[dif_pos h];obtain⟨c,d,e⟩:=Classical.choose_spec h.2;rw[<- A.inj _ _ e,<- map_inj c d]
def adk {κ ν α β:Type} [EP κ] {c:Nat} {V:Arg ν} {A:kM α} {F:List (κ×ν)->α->Option (List (κ×ν)×β)} {R:β->RK} {cc:Option (D×Row)} {e:List D} {f:RK} {b:Option Row} (h:kT c V A F R cc e=some (f,b)) :
  ∃l a d r,cc=some (.mp 0 0,⟨0,c,[.mpc (fQ l) (iJ V l)],false,true,true⟩)∧e=A.ds a∧F l a=some (d,r)∧f=R r∧b=some ⟨0,c,[.mpc (fQ d) (iJ V d)],false,true,true⟩:=by
 unfold kT at h;split at h
 ·split at h
  ·rename_i g;obtain⟨rfl,g⟩:=g;rw[alo]at h;grind
  ·cases h
 ·cases h
def ck.ac7 {P:Program} {T:Nat->Option Ty} {Γ:Env} (j:ke P T) (k:bV P Γ) (m:P.follows .mixedOrders=true) {κ ν α β:Type} [EP κ] {e:Nat} {V:Arg ν} {A:kM α} {F:List (κ×ν)->α->Option (List (κ×ν)×β)} {R:β->RK} {f:FuncId} {b:Func} (i:P.funcs[f]? = some b) (g:(match b.body with|some c=>codeOk c|none=>true)=true)
  (n:(b.name == "runtime.NumGoroutine")=false∧b.body.isNone=false) (o:∀a,(A.ds a).length+1<=b.ntmps)
  (h:∀l a d r,F l a=some (d,r)->jx .clean T Γ FU b (some (.mp 0 0,⟨0,e,[.mpc (fQ l) (iJ V l)],false,true,true⟩)) (A.ds a)=some (R r,some ⟨0,e,[.mpc (fQ d) (iJ V d)],false,true,true⟩)):ck P f (kT e V A F R) where
 calls cc alj rk out p:=by
  obtain⟨l,a,d,r,rfl,rfl,q,rfl,rfl⟩:=adk p;exact mw j k m i g (o a) rfl (h l a d r q)
 callable:=⟨b,i,n⟩
def T9 {T:Nat->Option Ty} {Γ:Env} {F:Nat} {a:Mode} {e:Func} {c:Code} {n:Nat} {rs:List ResultVar} {d0:D} {f:Nat} {cells:List D} {g d:Bool} {b:List D} {r:RK×Option Row} (j:e.body=some c) (i:e.ntmps=n) (k:e.results=rs.toArray)
  (l:eh T Γ n F [.code c] (acw a T (some (d0,⟨0,f,cells,g,d,true⟩)) rs r) .normal (Cj (d0::b)) (pz ⟨0,f,cells,g,d,true⟩) 1) (h:n<=1000000:=by exact amV rfl):jx a T Γ F e (some (d0,⟨0,f,cells,g,d,true⟩)) b=some r:=by
 refine We ?_ (by rw[i];exact h);unfold wpf;rw[j,i,k];exact l
def YX {α:Type} (e:jr α):Arg α:=⟨fun x =>.ip (e.cells x),fun x y h=>e.inj _ _ (by simpa using h)⟩
def WA {α:Type} (e:jr α) (x:α):(YX e).d x=.ip (e.cells x):=an3
section
variable {T:Nat->Option Ty} {h:Nat->Option Row} {Γ:Env} {e:Nat} {dst:Option Nat}
def lvM (v:Nat):Option Row->Option (List eB×List D)
 | some r=>if r.v=v∧r.mp=true∧r.ty<900000 then (match r.cells with | [.mpc a b]=>some (a,b)|_=>none) else none
 | none=>none
def R2 {x v:Nat} : ny h x v=lvM v (h x):=by
 unfold ny lvM;cases h x<;>rfl
def Sd {v c:Nat} {d:List eB} {e:List D} {f a:Bool} (b:c<900000):lvM v (some ⟨v,c,[.mpc d e],f,a,true⟩)=some (d,e):=by simp[lvM,b]
def lkK (a:List eB) (n:eB):Bool:=a.contains n
def XI {α:Type} {m:List ((Int×Int)×α)} {a b:Int} : lkK (fQ m) (a,some b)=qu m (a,b):=Si (a,b) m
def lkE (b d:Bool) (z:D) (n:eB):Option (List eB×List D)->Option cH
 | some (a,c)=>if vX b n a=true then some ⟨if d then .tup [vf z a c n,.bool (lkK a n)] else vf z a c n,[]⟩ else none
 | none=>none
def agQ {b:Bool} {z:D} {n:eB} {a:List eB} {c:List D} : lkE b true z n (some (a,c))=if vX b n a=true then some ⟨.tup [vf z a c n,.bool (lkK a n)],[]⟩ else none:=an3
def YP (T:Nat->Option Ty) (τ:Ty) (b:Bool) (d:D):Prop:=∃φ z,Iw T τ=some (b,φ)∧mf φ (φ.zero.map rH)=some z∧(φ.zero.map rH).all bE=true∧kp z=d
def ahA {τ:Ty} {b:Bool} {d:D} (c:YP T τ b d) {m i:D} {n:eB} {a:Bool} (e:ZQ i=some n):jE T τ h m i a=lkE b a d n (mapOf h m):=by
 obtain⟨φ,z,f,g,j,rfl⟩:=c;simp only[jE,f,e,lkE,lkK];grind
def Sk {x v:Nat} : mapOf h (.mp x v)=ny h x v:=an3
def muR (b:Bool) (h:Nat->Option Row) (y:Nat) (n:eB) (d:D) (fr:List Nat) (a:List eB) (c:List D):Option Row->Option cH
 | some r=>if vX b n a=true∧r.fz=false∧fr.contains y=false then some ⟨.und,lh h fr++[(y,some ⟨r.v,r.ty,[.mpc (BX a n) (Gb a c n d)],false,true,true⟩)]⟩ else none
 | none=>none
def Sr {b:Bool} {y v e:Nat} {n:eB} {d:D} {fr:List Nat} {a:List eB} {f:List D} {cells:List D} {c mp:Bool} : muR b h y n d fr a f (some ⟨v,e,cells,false,c,mp⟩)=if vX b n a=true then (if fr.contains y=false then some ⟨.und,lh h fr++[(y,some ⟨v,e,[.mpc (BX a n) (Gb a f n d)],false,true,true⟩)]⟩ else none) else none:=by
 simp only[muR,true_and];grind
def muM (b:Bool) (h:Nat->Option Row) (y:Nat) (n:eB) (d:D) (fr:List Nat):Option (List eB×List D)->Option cH
 | some (ks,vs)=>muR b h y n d fr ks vs (h y)
 | none=>none
def Sq {b:Bool} {y:Nat} {n:eB} {d:D} {fr:List Nat} {a:List eB} {c:List D} : muM b h y n d fr (some (a,c))=muR b h y n d fr a c (h y):=an3
def muE (b:Bool) (h:Nat->Option Row) (y v:Nat) (n:eB):Option (D×List Nat)->Option cH
 | some (d,fr)=>muM b h y n d fr (ny h y v)
 | none=>none
def Sp {b:Bool} {y v:Nat} {n:eB} {d:D} {fr:List Nat} : muE b h y v n (some (d,fr))=muM b h y n d fr (ny h y v):=an3
def ahF {τ:Ty} {b:Bool} {d:D} (a:YP T τ b d) {y v:Nat} {n:eB} {i x:D} (c:ZQ i=some n):eZ T τ h (.mp y v) i x=muE b h y v n (AN h x):=by
 obtain⟨φ,z,e,_⟩:=a;simp only[eZ,e,c];cases AN h x with
 | none=>rfl
 | some p =>
  obtain⟨d,fr⟩:=p;simp only[muE];cases f:ny h y v with
  | none=>simp only[muM]<;>cases h y<;>rfl
  | some q =>
   obtain⟨g,j⟩:=q;simp only[muM]<;>cases h y<;>rfl
def Mq {κ α:Type} [EP κ] {m:List (κ×α)} : (fQ m).length=m.length:=Sj m
def T6 {a:List D} : AN h (.agg a)=some (.agg (a.map canon),[]):=an3
def afx {τ:Ty} {b:Bool} {d:D} (g:YP T τ b d) {a c:Nat} (f:a<900000):ado T (some τ) a e c=some ⟨.mp c e,[(c,some ⟨e,a,[.mpc [] []],false,true,true⟩)]⟩:=by
 obtain⟨φ,z,h,_⟩:=g;exact adp h f
def abL {a:List D} : bX h (.ip a)=some (.ip a,[]):=an3
def WS {x v o:Nat} : bX h (.ptr x v o)=clP x o (live h x v):=by
 simp only[bX];cases live h x v with
 | none=>rfl
 | some r=>simp only[clP]
def X1 {x v o:Nat} : vl (.ptr x v o)=true:=an3
def adw {a:List D} : vl (.ip a)=true:=an3
def acF {v a:Nat} {cells:List D} {b mp:Bool} : ym ⟨v,a,cells,b,true,mp⟩=⟨v,a,cells,true,true,mp⟩:=by cases b<;>rfl
def Xt {d:Nat} : bk.hint d=none:=an3
def Rz {f:Nat} {l:Bool} {G:Option (D×Row)->List D->Option (RK×Option Row)} {d:Nat} : (Am.ext Γ f l G).hint d=Γ.hint d:=an3
def Mf {d i:Nat} : (Am.keep d Γ).hint i=Γ.hint i:=an3
end
structure kg {α:Type} (E:jr α) (C:List D) (o:Nat) (l:List α):Prop where
 fit:o+l.length*E.size<=C.length
 eq:(C.drop o).take (l.length*E.size)=an E l
def kg.self {α:Type} (E:jr α) (l:List α):kg E (an E l) 0 l:=⟨by rw[bS];omega,by rw[am3,<- bS,ano]⟩
def kg.split {α:Type} {E:jr α} {C:List D} {o:Nat} {l:List α} (F:kg E C o l):C.drop o=an E l++C.drop (o+l.length*E.size):=by
 rw[<- am0]
 conv=>lhs;rw[<- am1 (l.length*E.size) (C.drop o)]
 rw[F.eq]
def kg.idx {α:Type} {E:jr α} {C:List D} {o:Nat} {l:List α} {i:Int} {x:α} (F:kg E C o l) (h:P.idx l i=some x):o+i.toNat*E.size+E.size<=C.length∧∃rest,C.drop (o+i.toNat*E.size)=E.cells x++rest:=by
 have a:=kR E h;have b:=F.fit;refine⟨by omega,an E (l.drop (i.toNat+1))++C.drop (o+l.length*E.size),?_⟩;rw[<- am0,F.split,anh (by rw[bS];omega),Ai E h,am8]
def kg.tail {α:Type} {E:jr α} {C:List D} {o:Nat} {l m:List α} {a:Int} (F:kg E C o l) (h:Ge l a (l.length:Int)=some m):kg E C (o+a.toNat*E.size) m:=by
 obtain⟨c,d,e,f,b⟩:=VH E h;have g:=F.fit;have i:a.toNat*E.size+m.length*E.size=l.length*E.size:=by rw[<- Nat.add_mul];congr 1;omega
 refine⟨by omega,?_⟩;rw[<- am0,F.split,anh (by rw[bS];omega),ang (by rw[alJ,bS];omega),b]
def akc:=ai @R2<|ai @Sd<|ai @XI<|ai @Mg<|ai @Mq<|ai @agQ<|ai @Sk<|ai @Sr<|ai @Sq<|ai @Sp<|@T6
def akd:=ai @abL<|ai @WS<|ai @X1<|ai @adw<|ai @acF<|ai @Xt<|ai @Rz<|ai @Mf<|ai @MO<|@WA
def ake:=ai @E7<|ai @Hf<|ai @AS<|@aby
def ck.ofB {P:Program} {T:Nat->Option Ty} {Γ:Env} (g:ke P T) (i:bV P Γ) (j:P.follows .mixedOrders=true) {α β:Type} {A:kM α} {F:α->Option β} {R:β->RK} {e:Mode} {f:FuncId} {d:Func} (k:P.funcs[f]? = some d)
  (b:((match d.body with|some c=>codeOk c|none=>true)&&(!(d.name == "runtime.NumGoroutine") && !d.body.isNone))=true) (l:∀a,Nat.ble (A.ds a).length d.ntmps=true) (h:∀a r,F a=some r->jx e T Γ FU d none (A.ds a)=some (R r,none)):ck P f (ej A F R):=by
 rw[al0,al0]at b;exact ck.of g i j k b.1 ⟨by simpa using b.2.1,by simpa using b.2.2⟩ (fun a=>amV (l a)) h
def abw {α β:Type} (a:Arg α) (b:kM β) (x:α×β):(gj a b).ds x=a.d x.1::b.ds x.2:=an3
def abv {α:Type} (a:Arg α) (x:α):(dM a).ds x=[a.d x]:=an3
def abu (x:Unit):as0.ds x=[]:=an3
def ja:=ai @abw<|ai @abv<|ai @abu<|ai @aiE<|ai @Wz<|ai @ago<|ai @abh<|ai @agn<|ai @abi<|@WA
def sF {α:Type} (E:jr α) (l:List α):D := .sl false false l.length (an E l)
def sN (n:Int):D := .int .i64 n
def sI (l:List Int):D := .sl false false l.length (an (eI .i64) l)
def rW (v a:Nat) (c:List D):Option Row:=some ⟨v,a,c,false,true,false⟩
def rV (v a:Nat) (c:List D):Option Row:=some ⟨v,a,c,false,false,false⟩
def ajg {α:Type} {E:jr α} {l:List α} : sF E l=.sl false false l.length (an E l):=an3
def aji {n:Int} : sN n=.int .i64 n:=an3
def ajh {l:List Int} : sI l=.sl false false l.length (an (eI .i64) l):=an3
def ajd {v a:Nat} {c:List D} : rW v a c=some ⟨v,a,c,false,true,false⟩:=an3
def ajc {v a:Nat} {c:List D} : rV v a c=some ⟨v,a,c,false,false,false⟩:=an3
def vab:=ai @ajg<|ai @ajh<|ai @aji<|ai @ajd<|@ajc
def vi:=ai @akc<|ai @akd<|@ake
def adC {pre C post a:List D} {o:Nat} (h:o+a.length<=C.length):putCells (pre++(C++post)) (pre.length+o) a=pre++(putCells C o a++post):=by
 unfold putCells;have b:(pre++(C++post)).take (pre.length+o)=pre++C.take o:=by
  rw[List.take_append,am4 (by omega),anf,ang (by omega)]
 have c:(pre++(C++post)).drop (pre.length+o+a.length)=C.drop (o+a.length)++post:=by
  rw[alK,amW,amX (by omega),anf,amU,anh (by omega)]
 rw[b,c];simp only[am8]
section
variable {α:Type} (E:jr α) {l:List α} {x x':α} {i:Int} {pre post C:List D} {o:Nat}
def MR (a:Nat) (b:List D) (h:P.idx l i=some x) (d:E.cells x'=putCells (E.cells x) a b) (c:a+b.length<=E.size):putCells (pre++(an E l++post)) (pre.length+i.toNat*E.size+a) b=pre++(an E (l.set i.toNat x')++post):=by
 have e:=fE E a b h d c;have f:=kR E h;have g:=bS E l;rw[alK,adC (by omega),e]
def akT (l:List α):pre.length+l.length*E.size<=(pre++(an E l++post)).length∧((pre++(an E l++post)).drop pre.length).take (l.length*E.size)=an E l:=by
 have h:=bS E l;refine⟨by simp only[amu];omega,?_⟩;rw[List.drop_left,<- h,List.take_left]
def agz (a z:Nat) (c:a+z<=E.size) (h:P.idx l i=some x):(pre++(an E l++post)).drop (pre.length+i.toNat*E.size+a)=(E.cells x).drop a++(an E (l.drop (i.toNat+1))++post)∧pre.length+i.toNat*E.size+a+z<=(pre++(an E l++post)).length:=by
 have b:=RB (pre:=pre) (post:=post) E h;have d:=RD (pre:=pre) (post:=post) E h;have e:=E.len x;refine⟨?_,by omega⟩;rw[<- am0,b,anh (by omega)]
def kg.adm (l:List α) (pre post:List D):kg E (pre++(an E l++post)) pre.length l:=by
 have h:=bS E l;refine⟨by simp only[amu];omega,?_⟩;rw[List.drop_left,<- h,List.take_left]
variable {E}
def kg.len (F:kg E C o l):(C.take o).length=o:=by
 have:=F.fit;rw[alI];omega
def kg.cells (F:kg E C o l):C.take o++(an E l++C.drop (o+l.length*E.size))=C:=by
 rw[<- F.split,am1]
def kg.RA (F:kg E C o l) (a z:Nat) (c:a+z<=E.size) (h:P.idx l i=some x):o+i.toNat*E.size+a+z<=C.length∧∃rest,C.drop (o+i.toNat*E.size+a)=(E.cells x).drop a++rest:=by
 obtain⟨d,rest,b⟩:=F.idx h;have e:=E.len x;refine⟨by omega,rest,?_⟩;rw[<- am0,b,anh (by omega)]
def kg.put (F:kg E C o l) (a:Nat) (b:List D) (h:P.idx l i=some x) (f:E.cells x'=putCells (E.cells x) a b) (c:a+b.length<=E.size):∃d,putCells C (o+i.toNat*E.size+a) b=d∧kg E d o (l.set i.toNat x'):=by
 refine⟨_,rfl,?_⟩;have e:=MR (pre:=C.take o) (post:=C.drop (o+l.length*E.size)) E a b h f c;rw[F.cells,F.len]at e;rw[e];have:=kg.adm E (l.set i.toNat x') (C.take o) (C.drop (o+l.length*E.size))
 rwa [F.len]at this
def kg.cc (F:kg E C o l) (m:List α):kg E (C.take o++(an E m++C.drop (o+l.length*E.size))) o m:=by
 have:=kg.adm E m (C.take o) (C.drop (o+l.length*E.size))
 rwa [F.len]at this
end
def aiC (P:Program) (f:FuncId):Prop:=∀(blk a b:Nat) (zs:List Int) (w:World),Go.Sort.Holds (Value.int .i64) w blk a zs.toArray->blk<w.heap.size->zs.length<4611686018427387904 ->
 Calls P f #[.slice (some ⟨blk,a,none⟩) zs.length b] w fun e c=>e=.returned (.tuple #[])∧∃n d,c=Go.Sort.grow (Go.Sort.putRow (Value.int .i64) (Go.Sort.ahead w n) blk a (sW zs).toArray) d
def y9 (k:IntKind):∀(l:List Int) (j:Nat),(an (eI k) l)[j]? = l[j]?.map fun n =>.int k n
 | [],j=>by simp[an]
 | x::l,0=>by simp[an,eI]
 | x::l,j+1=>by
  have:=y9 k l j;simp only[an,CA,List.cons_append,List.nil_append,List.getElem?_cons_succ];exact this
def tn (k:IntKind) (l:List Int):(an (eI k) l).length=l.length:=by rw[bS];show l.length*1=_;omega
def S7 {w:World} {b a:Nat} {d:List Int} {c:Array Value} {e:Nat} {fr:Nat×Nat} (h:w.heap[b]? = some (.cells c e fr)):(Go.Sort.putRow (Value.int .i64) w b a d.toArray).heap[b]? = some (.cells (Go.Sort.putCells (Value.int .i64) a d.toArray c) e fr):=by
 simp[Go.Sort.putRow,Go.Sort.mapBlock,alA,h,Go.Sort.onCells]
def Jc {w:World} {b c a:Nat} {d:List Int} (h:c≠b):(Go.Sort.putRow (Value.int .i64) w b a d.toArray).heap[c]? = w.heap[c]?:=by
 simp[Go.Sort.putRow,Go.Sort.mapBlock,alA,Ne.symm h]
def OX {a:Nat} {d:List Int} {b:Array Value} {k:Nat} (c:k<b.size):(Go.Sort.putCells (Value.int .i64) a d.toArray b).getD k undef=if a<=k∧k<a+d.length then .int .i64 (d.getD (k-a) 0) else b.getD k undef:=by
 have e:(Go.Sort.putCells (Value.int .i64) a d.toArray b)[k]? = some (if a<=k∧k<a+d.length then .int .i64 (d.getD (k-a) 0) else b[k]):=by
  simp only[Go.Sort.putCells,Array.getElem?_mapIdx,amy c,Option.map_some,amB];congr 1;split
  ·rename_i f;congr 1;have:k-a<d.length:=by omega
   simp[List.getD,this]
  ·rfl
 rw[alv,e];simp[alv,c]
end Go.Proofs.YtobnihfgnbnncaaGreat.Am
namespace Go.Proofs.YtobnihfgnbnncaaGreat.P
open Go.RowKit
def wrap64 {x:Int} (a : -9223372036854775808<=x) (b:x<9223372036854775808):IntKind.i64.wrap x=x:=by
 have key:IntKind.i64.wrap x=if x % 18446744073709551616>=9223372036854775808 then x % 18446744073709551616-18446744073709551616 else x % 18446744073709551616:=by
  unfold IntKind.wrap
  by_cases h:x % 18446744073709551616>=9223372036854775808
  ·rw[if_pos h];exact if_pos (by simpa [IntKind.bits,IntKind.signed] using h)
  ·rw[if_neg h];exact if_neg (by simpa [IntKind.bits,IntKind.signed] using h)
 rw[key];split<;>omega
def RE {α:Type} {l:List α} {i:Int} {x:α} (a:0<=i) (h:l[i.toNat]? = some x):P.idx l i=some x:=by
 have:=(alT.1 h).1;unfold P.idx;rw[if_pos ⟨a,by omega⟩,h]
def eJ {α:Type} {l:List α} {i:Nat} (h:i<l.length):P.idx l (i:Int)=some (l[i]):=RE (by omega) (by simp[h])
def afY {α:Type} {l:List α} {i:Nat} (h:i<=l.length):Ge l 0 (i:Int)=some (l.take i):=by
 unfold Ge;rw[if_pos ⟨by omega,by omega,by omega⟩];simp
end Go.Proofs.YtobnihfgnbnncaaGreat.P
namespace Go.Proofs.YtobnihfgnbnncaaGreat.Am
open Go.RowKit Go.Deep Go.ChangeShapes Go.WideShapes
def FR (T:Nat->Option Ty):Nat->Nat->List D->Prop
 | 0,_,_=>False
 | n+1,t,xs =>
  match T t with
  | none=>False
  | some τ=>xs.length=τ.size ∧
   match τ.ds with
   | .int k=>∃i,xs=[.int k i]∧(Lit.int k i).wf=true
   | .bool=>∃b,xs=[.bool b]
   | .str=>∃s:ByteArray,xs=[.str s]∧s.size<=140737488351232
   | .slice e=>∃len a φ,xs=[.sl false false len a]∧len*φ.bytes<=140737488351232∧T e=some φ∧a.length=len*φ.size∧∀i,i<len->FR T n e ((a.drop (i*φ.size)).take φ.size)
   | .struct c=>∀f∈c,∃φ,T f.1=some φ∧FR T n f.1 ((xs.drop f.2).take φ.size)
   | .arr m e=>∃φ,T e=some φ∧∀i,i<m->FR T n e ((xs.drop (i*φ.size)).take φ.size)
   | .map _ _=>False
   | .other=>False
def Fu (T:Nat->Option Ty):Nat->List (Nat×Nat)->Nat->Bool
 | o,[],z=>o==z
 | o,(a,off)::b,z=>off==o&&match T a with|some φ=>Fu T (o+φ.size) b z|none=>false
def okT (T:Nat->Option Ty):Nat->Nat->Bool
 | 0,_=>false
 | n+1,t =>
  match T t with
  | none=>false
  | some τ =>
   match τ.ds with
   | .int _ | .bool | .str=>τ.size==1
   | .slice e=>τ.size==1&&okT T n e&&(match T e with|some φ=>decide (0<φ.size)|none=>false)
   | .struct fs=>Fu T 0 fs τ.size&&fs.all fun f=>okT T n f.1
   | .arr m e=>okT T n e&&(match T e with|some φ=>τ.size==m*φ.size|none=>false)
   | .map _ _=>false
   | .other=>false
def qA (w:World) (M:Nat->Prop) (a:List D) (b:List Value):Prop:=a.length=b.length∧∀(j:Nat) (x:D),a[j]? = some x->bE x=true∧∃v,b[j]? = some v∧RP w M x v
def qA.append {w:World} {M:Nat->Prop} {c d:List D} {e f:List Value} (h:qA w M c e) (k:qA w M d f):qA w M (c++d) (e++f):=by
 refine⟨by simp[h.1,k.1],fun j x b =>?_⟩;rw[List.getElem?_append]at b ⊢;rw[<- h.1];split at b
 ·rename_i a;rw[if_pos a];exact h.2 j x b
 ·rename_i a;rw[if_neg a];exact k.2 _ x b
def HL {α:Type} (s:Nat):∀(ls:List (List α)),(∀l∈ls,l.length=s)->∀(i:Nat) (l:List α),ls[i]? = some l->(ls.flatten.drop (i*s)).take s=l
 | [],_,i,l,h=>by simp at h
 | a::ls,hl,0,l,h=>by
  simp_all
 | a::ls,hl,i+1,l,h=>by
  have b:a.length=s:=hl a (by simp);rw[List.flatten_cons,amW,amX (by grind),amU,b,amY,amZ];exact HL s ls (fun x c=>hl x (amI _ c)) i l h
def rR {α:Type} (s:Nat):∀(ls:List (List α)),(∀l∈ls,l.length=s)->ls.flatten.length=ls.length*s
 | [],_=>by simp
 | a::ls,hl=>by
  rw[List.flatten_cons,amu,rR s ls (fun x b=>hl x (amI _ b)),hl a (by simp),ama,amY];omega
section
variable {H:Type} {enc:TypeId×Value->H} {P:Program} {w:World} {base:Nat} {spare:Nat->Bool} {held:Bool} {T:Nat->Option Ty}
def eS.bytesOf {P:Program} {t:Nat} {τ:Ty} (h:eS P t τ):P.bytesOf t=τ.bytes:=by
 have:=h.info;unfold Program.bytesOf;cases a:P.info? t with
 | none=>simp_all
 | some i=>simp_all
def Reach (P:Program) (t:Nat) (d:DataW H):Prop:=∀k∈d.weights P t,k<=140737488351232
def Et {e:TypeId} : ∀(l:List (DataW H)) (j:Nat) (d:DataW H),l[j]? = some d->∀k∈d.weights P e,k∈DataW.weightsAll P e l
 | x::l,0,d,h,k,hk=>by
  simp only[List.getElem?_cons_zero,alz]at h;subst h;simp only[DataW.weightsAll,amG];exact .inl hk
 | x::l,j+1,d,h,k,hk=>by
  simp only[DataW.weightsAll,amG];exact .inr (Et l j d (by simpa using h) k hk)
 | [],j,d,h,k,hk=>by simp at h
def eS.cells {P:Program} {t:Nat} {τ:Ty} (h:eS P t τ):P.cellsOf t=τ.size:=by
 have:=h.info;unfold Program.cellsOf;cases a:P.info? t with
 | none=>simp_all
 | some i=>simp_all
def XC {T:Nat->Option Ty} {w:World} {M:Nat->Prop} {cs:List Value} : ∀(c:List (Nat×Nat)) (o z:Nat) (f:Nat×Nat->List D),Fu T o c z=true->cs.length=z ->
  (∀p∈c,∃φ,T p.1=some φ∧qA w M (f p) ((cs.drop p.2).take φ.size))->o<=z->∃e,qA w M e (cs.drop o)∧∀p∈c,∃φ,T p.1=some φ∧o<=p.2∧(e.drop (p.2-o)).take φ.size=f p
 | [],o,z,f,d,g,_,_=>by
  simp only[Fu,beq_iff_eq]at d;refine⟨[],⟨by simp_all,fun j x n=>by simp at n⟩,fun p hp=>by simp at hp⟩
 | (i,off)::c,o,z,f,d,g,hp,q=>by
  simp only[Fu,al0,beq_iff_eq]at d;obtain⟨rfl,d⟩:=d;obtain⟨φ,r,m⟩:=hp (i,off) (by simp);simp only[r]at d;have s:off+φ.size<=z:=by
   have:∀(c:List (Nat×Nat)) (o:Nat),Fu T o c z=true->o<=z:=by
    intro c
    induction c with
    | nil=>intro o h;simp only[Fu,beq_iff_eq]at h;omega
    | cons p c v =>
     intro o h;obtain⟨a,b⟩:=p;simp only[Fu,al0]at h;grind
   exact this c _ d
  obtain⟨e,t,k⟩:=XC c (off+φ.size) z f d g (fun p h=>hp p (amI _ h)) s;have l:(f (i,off)).length=φ.size:=by
   rw[m.1,alI,alJ,g];omega
  refine⟨f (i,off)++e,?_,fun p h =>?_⟩
  ·have:=m.append t;rw[<- am0,am1]at this;exact this
  ·rcases alx.1 h with rfl|h
   ·simp_all
   ·obtain⟨ψ,u,y,A⟩:=k p h;refine⟨ψ,u,by omega,?_⟩;rw[amW,amX (by omega),amU,l];grind
def qA.one {w:World} {M:Nat->Prop} {x:D} {v:Value} (a:bE x=true) (h:RP w M x v):qA w M [x] [v]:=by
 refine⟨rfl,fun j y b =>?_⟩;grind
def qA.flat {w:World} {M:Nat->Prop} {b:List Value} {s:Nat} : ∀(ls:List (List D)) (o:Nat),(∀(i:Nat) l,ls[i]? = some l->qA w M l ((b.drop (o+i*s)).take s))->(∀l∈ls,l.length=s)->qA w M ls.flatten ((b.drop o).take (ls.length*s))
 | [],o,_,_=>⟨by simp,fun j x c=>by simp at c⟩
 | a::ls,o,h,hl=>by
  have d:=h 0 a rfl;have e:=qA.flat ls (o+s) (fun i l f=>by
   have:=h (i+1) l (by simpa using f);rw[amY]at this;rw[show o+s+i*s=o+(i*s+s) by omega];exact this) (fun l g=>hl l (amI _ g))
  have:=d.append e;rw[am2,alZ]at this;rw[List.flatten_cons,ama,amY,Nat.add_comm (ls.length*s) s,List.take_add,am0];exact this
def ahg (W:ke P T) {M:Nat->Prop} (hM:∀b,base<=b->b<w.heap.size->¬M b):∀(n t J:Nat) (X:List Value) (x:DataW H×List MemPlace),okT T n t=true->DataW.trod enc P w base spare held J t X=some x->Reach P t x.1->∃xs,FR T n t xs∧qA w M xs X:=by
 intro n
 induction n with
 | zero=>intro t J X x h;cases h
 | succ n ih =>
  intro t J X x c h Y;unfold okT at c;unfold FR;cases hτ:T t with
  | none=>simp_all
  | some τ =>
   rw[hτ]at c;simp only at c ⊢;obtain⟨d,O,I⟩:=under W hτ;cases D:τ.ds with
   | int k =>
    rw[D]at c I;simp only[beq_iff_eq]at c;have r:=Cs I;subst r;obtain⟨i,rfl,_,Y⟩:=DataW.trod_int O h;exact⟨[.int k i],⟨by rw[c];rfl,i,rfl,Y⟩,.one rfl (.int k i)⟩
   | bool =>
    rw[D]at c I;simp only[beq_iff_eq]at c;have r:=Ae I;subst r;obtain⟨b,rfl,_⟩:=DataW.trod_bool O h;exact⟨[.bool b],⟨by rw[c];rfl,b,rfl⟩,.one rfl (.bool b)⟩
   | str =>
    rw[D]at c I;simp only[beq_iff_eq]at c;have r:=wv I;subst r;obtain⟨s,rfl,rfl,hs⟩:=DataW.trod_string O h;have an:s.size<=140737488351232:=by
     have:=Y s.data.toList.length (by simp[DataW.weights]);simpa using this
    exact⟨[.str s],⟨by rw[c];rfl,s,rfl,an⟩,.one rfl (.str s)⟩
   | map _ _=>simp_all
   | other=>simp_all
   | struct fs =>
    rw[D]at c I;simp only[al0,alB]at c;obtain⟨F,rfl,hF⟩:=jM I;obtain⟨ys,m,_,rfl,g,ao,hf⟩:=DataW.trod_struct O h;have R:∀(i:Nat) (f:Field) y,F[i]? = some f->ys[i]? = some y->Reach P f.type y.1:=by
     intro i f y aD Z k hk;apply Y k;simp only[DataW.weights,O];exact DataW.weights_mem_each (j:=i) (t:=f.type) (d:=y.1) (by simp_all) (by simp[Z]) k hk
    rw[(W t τ hτ).cells]at g;have q:∀p:Nat×Nat,∃E,p∈fs->∃φ,T p.1=some φ∧FR T n p.1 E∧qA w M E ((X.drop p.2).take φ.size):=by
     intro p
     by_cases V:p∈fs
     ·have A:=c.2 p V;rw[<- hF]at V;obtain⟨f,aq,rfl⟩:=alp.1 V;obtain⟨i,u⟩:=List.mem_iff_getElem?.1 aq;have h1:=hf i f (by simpa using u);simp only at A ⊢;cases Q:T f.type with
      | none=>cases n with
       | zero=>cases A
       | succ n=>simp only[okT,Q]at A;cases A
      | some φ =>
       rw[(W _ φ Q).cells]at h1;have G:i<ys.length:=by
        grind
       rw[alE G]at h1;obtain⟨E,aa,S⟩:=ih _ _ _ _ A h1 (R i f _ (by simpa using u) (alE G));exact⟨E,fun _=>⟨φ,rfl,aa,S⟩⟩
     simp_all
    obtain⟨f,K⟩:=Classical.axiomOfChoice q;obtain⟨xs,hx,al⟩:=XC fs 0 τ.size f c.1 g (fun p V=>by obtain⟨φ,a,_,b⟩:=K p V;exact⟨φ,a,b⟩) (alr _);rw[am3]at hx;refine⟨xs,⟨by rw[hx.1,g],fun p V =>?_⟩,hx⟩;grind
   | arr m e =>
    rw[D]at c I;simp only[al0]at c;have r:=Cr I;subst r;obtain⟨ys,k,_,rfl,g,ao,hf⟩:=DataW.trod_array O h;have R:∀(i:Nat) y,ys[i]? = some y->Reach P e y.1:=by
     intro i y Z k hk;apply Y k;simp only[DataW.weights,O];exact Et _ i y.1 (by simp[Z]) k hk
    rw[(W t τ hτ).cells]at g;obtain⟨aA,B⟩:=c;split at B
    ·rename_i φ Q;simp only[beq_iff_eq]at B;have q:∀i:Nat,∃E,i<m->FR T n e E∧qA w M E ((X.drop (i*φ.size)).take φ.size):=by
      intro i
      by_cases u:i<m
      ·have h1:=hf i u;rw[(W _ φ Q).cells,alE (by omega)]at h1;grind
      ·exact⟨[],fun h=>(u h).elim⟩
     obtain⟨f,K⟩:=Classical.axiomOfChoice q;have L:∀l∈(List.range m).map f,l.length=φ.size:=by
      intro l hl;obtain⟨i,u,rfl⟩:=alp.1 hl;have u:=amQ.1 u;rw[(K i u).2.1,alI,alJ,g,B];have:(i+1)*φ.size<=m*φ.size:=al8 _ u;grind
     have aB:∀(i:Nat) l,((List.range m).map f)[i]? = some l->i<m∧l=f i:=by
      grind
     have N:qA w M ((List.range m).map f).flatten ((X.drop 0).take (((List.range m).map f).length*φ.size)):=by
      refine qA.flat _ 0 (fun i l hl =>?_) L;grind
     rw[alU,alV,am3,am4 (by omega)]at N;refine⟨_,⟨by rw[N.1,g],φ,Q,fun i u =>?_⟩,N⟩;have G:((List.range m).map f)[i]? = some (f i):=by simp[u]
     rw[HL φ.size _ L i _ G];exact (K i u).1
    ·cases B
   | slice e =>
    rw[D]at c I;simp only[al0,beq_iff_eq]at c;have r:=iA I;subst r;obtain⟨⟨q,ad⟩,C⟩:=c;split at C
    ·rename_i φ Q;simp only[decide_eq_true_eq]at C;rcases open_slice O h with⟨rfl,_⟩|⟨a,len,ar,m,k,D',Pl,rfl,hb,hl,hm,aE,rfl,u⟩
     ·refine⟨[.sl false false 0 []],⟨by rw[q];rfl,0,[],φ,rfl,by omega,Q,by simp,fun i u=>by omega⟩,.one rfl ?_⟩;exact .sl none 0 false false 0 [] (fun _=>undef) (alq _) (alr _) (fun h=>by cases h) (fun _=>⟨rfl,rfl⟩) (fun h=>by cases h) (fun h=>(h rfl).elim) (fun j x hj=>by simp at hj) (fun x hx=>by simp at hx)
     ·have aF:len<=m:=by grind
      have au:len*φ.bytes<=140737488351232:=by
       have h1:=Y ((((List.range len).map D').length+((List.range (m-len)).map fun j=>D' (len+j)).length)*P.bytesOf e) (by simp[DataW.weights,O]);rw[(W _ φ Q).bytesOf]at h1;grind
      have R:∀i,i<len->Reach P e (D' i):=by
       intro i G k hk;apply Y k;simp only[DataW.weights,O,alx,amG];exact .inr (.inl (Et _ i (D' i) (by simp[G]) k hk))
      have ab:∀i:Nat,∃E,i<len->FR T n e E∧E.length=φ.size∧∀(j:Nat) z,E[j]? = some z->bE z=true∧∃v,w.cell? (a.add (i*φ.size+j))=some v∧RP w M z v:=by
       intro i
       by_cases ae:i<len
       ·obtain⟨aG,ag,av⟩:=u i (by omega);rw[(W _ φ Q).cells]at ag;obtain⟨_,g1,g2⟩:=World.cells?_some ag;obtain⟨E,aa,S⟩:=ih _ _ _ _ ad av (R i ae);refine⟨E,fun _=>⟨aa,by rw[S.1,g1],fun j z hj =>?_⟩⟩;obtain⟨p1,v,p2,p3⟩:=S.2 j z hj;refine⟨p1,v,?_,p3⟩;have aw:j<φ.size:=by grind
        rw[<- Go.Deep.add_add,g2 j aw,p2]
       ·exact⟨[],fun h=>(ae h).elim⟩
      obtain⟨f,K⟩:=Classical.axiomOfChoice ab;have L:∀l∈(List.range len).map f,l.length=φ.size:=by
       simp_all
      have ai:((List.range len).map f).flatten.length=len*φ.size:=by rw[rR φ.size _ L];simp
      have aC:∀i,i<len->(((List.range len).map f).flatten.drop (i*φ.size)).take φ.size=f i:=fun i u=>HL φ.size _ L i (f i) (by simp[u]);have aj:∀(p:Nat) z,((List.range len).map f).flatten[p]? = some z->bE z=true∧∃v,w.cell? (a.add p)=some v∧RP w M z v:=by
       intro p z V;have ax:=(alT.1 V).1;rw[ai]at ax;have hq:p / φ.size<len:=Nat.div_lt_of_lt_mul (by rwa [Nat.mul_comm]);have hr:p % φ.size<φ.size:=amf _ C;have he:p / φ.size*φ.size+p % φ.size=p:=Nat.div_add_mod' p φ.size;have hz:(f (p / φ.size))[p % φ.size]? = some z:=by
        grind
       grind
      refine⟨[.sl false false len ((List.range len).map f).flatten],⟨by rw[q];rfl,len,_,φ,rfl,au,Q,ai,fun i u=>by simp_all⟩,.one rfl ?_⟩;refine .sl (some a) ar false false len _ (fun j=>(w.cell? (a.add j)).getD undef) hl hm (fun h=>by cases h) (fun h=>by cases h) (fun h=>by cases h) (fun ay =>?_) (fun j z hj =>?_) (fun z hz =>?_)
      ·have h0:0<((List.range len).map f).flatten.length:=am5.2 ay;obtain⟨_,v,U,_⟩:=aj 0 _ (alE h0);obtain⟨b,o,sp⟩:=a;have az:sp=none:=by
        unfold World.cell? at U;split at U
        ·split at U
         ·cases U
         ·rename_i h;simpa [Addr.add] using h
        ·cases U
       subst az;have ak:b<w.heap.size:=by
        unfold World.cell? at U;split at U
        ·rename_i hh;exact (ams.1 hh).1
        ·cases U
       refine⟨b,o,rfl,ak,hM b hb ak,fun j hj =>?_⟩;obtain⟨_,v,U,_⟩:=aj j _ (alE hj);have ha:Addr.add ⟨b,o,none⟩ j=⟨b,o+j,none⟩:=by
        unfold Addr.add;simp_all
       simp_all
      ·grind
      ·obtain⟨j,hj⟩:=List.mem_iff_getElem?.1 hz;grind
    ·cases C
def wP (T:Nat->Option Ty) (n t:Nat) (d:D):Prop :=
 match T t with
 | some τ=>if τ.ds.we then ∃a,d=.agg a∧FR T n t a else FR T n t [d]
 | none=>False
def qA.agg {w:World} {M:Nat->Prop} {a:List D} {b:Array Value} (h:qA w M a b.toList):RP w M (.agg a) (.agg b):=by
 have:=RP.agg (w:=w) (M:=M) a b.toList h.1.symm (fun j x c=>by
  obtain⟨_,v,e,f⟩:=h.2 j x c;simp_all) (fun x d=>by
  obtain⟨j,c⟩:=List.mem_iff_getElem?.1 d;exact (h.2 j x c).1)
 simpa using this
def qA.single {w:World} {M:Nat->Prop} {a:List D} {v:Value} (h:qA w M a [v]):∃x,a=[x]∧RP w M x v:=by
 match a,h with
 | [],h=>have:=h.1;simp at this
 | [x],h=>obtain⟨_,u,b,c⟩:=h.2 0 x rfl;simp_all
 | x::y::a,h=>have:=h.1;simp at this
def aeU (A:ke P T) {M:Nat->Prop} (C:∀b,base<=b->b<w.heap.size->¬M b) {n t D:Nat} {v:Value} {d:DataW H} {E:List MemPlace} (f:okT T n t=true) (o:Value.okWide P w .any D t v) (h:DataW.Trod enc P w base spare held t v d E) (G:Reach P t d) :
  ∃x,wP T n t x∧RP w M x v:=by
 obtain⟨r,h⟩:=h;obtain⟨B,p,q⟩:=ahg A C n t r _ _ f h G;unfold wP;cases n with
 | zero=>cases f
 | succ n =>
 cases u:T t with
 | none=>simp only[okT,u]at f;cases f
 | some τ =>
  simp only;obtain⟨I,s,j⟩:=under A u;cases g:τ.ds with
  | int k =>
   rw[g]at j;have c:=Cs j;subst c;obtain⟨i,rfl⟩:=okWide_int s o;obtain⟨x,rfl,l⟩:=qA.single (v := .int k i) q;exact⟨x,by simpa [Ds.we] using p,l⟩
  | bool =>
   rw[g]at j;have c:=Ae j;subst c;obtain⟨i,rfl⟩:=okWide_bool s o;obtain⟨x,rfl,l⟩:=qA.single (v := .bool i) q;exact⟨x,by simpa [Ds.we] using p,l⟩
  | str =>
   rw[g]at j;have c:=wv j;subst c;obtain⟨i,rfl⟩:=okWide_string s o;obtain⟨x,rfl,l⟩:=qA.single (v := .string i) q;exact⟨x,by simpa [Ds.we] using p,l⟩
  | slice e =>
   rw[g]at j;have c:=iA j;subst c;obtain⟨a,len,y,rfl⟩:=okWide_slice s o;obtain⟨x,rfl,l⟩:=qA.single (v := .slice a len y) q;exact⟨x,by simpa [Ds.we] using p,l⟩
  | struct fs =>
   rw[g]at j;obtain⟨F,rfl,_⟩:=jM j;obtain⟨z,rfl,_⟩:=okWide_struct s o;exact⟨.agg B,by simpa [Ds.we] using p,qA.agg q⟩
  | arr m e =>
   rw[g]at j;have c:=Cr j;subst c;have:∃z,v=.agg z:=by
    unfold Value.okWide at o;grind
   obtain⟨z,rfl⟩:=this;exact⟨.agg B,by simpa [Ds.we] using p,qA.agg q⟩
  | map _ _=>simp only[okT,u,g]at f;cases f
  | other=>simp only[okT,u,g]at f;cases f
def KZ (o:ke P T) {M:Nat->Prop} (r:∀b,base<=b->b<w.heap.size->¬M b) {n b0:Nat} : ∀(c:List TypeId) (vs:List Value) (g:List (DataW H)) (l:List MemPlace),DataW.TrodAll enc P w base spare held c vs g l ->
  (∀(j:Nat) t v,c[j]? = some t->vs[j]? = some v->Value.okWide P w .any b0 t v)->(∀t∈c,okT T n t=true)->(∀k∈DataW.weightsEach P c g,k<=140737488351232) ->
  ∃e:List D,e.length=vs.length∧(∀(j:Nat) x,e[j]? = some x->∃v,vs[j]? = some v∧RP w M x v)∧e.length=c.length∧∀(j:Nat) t,c[j]? = some t->∃x,e[j]? = some x∧wP T n t x
 | [],[],[],l,_,_,_,_=>⟨[],rfl,fun j x f=>by simp at f,rfl,fun j t f=>by simp at f⟩
 | t::c,v::vs,d::g,l,h,hv,hok,hw=>by
  obtain⟨p,q,s,u,_⟩:=h;obtain⟨x,z,A⟩:=aeU o r (hok t (by simp)) (hv 0 t v rfl rfl) s (fun k m=>hw k (by simp only[DataW.weightsEach,amG];exact .inl m));obtain⟨e,B,G,C,I⟩:=KZ o r c vs g q u (fun j i E a b=>hv (j+1) i E (by simpa using a) (by simpa using b)) (fun i F=>hok i (amI _ F)) (fun k m=>hw k (by simp only[DataW.weightsEach,amG];exact .inr m));refine⟨x::e,by simp[B],fun j y f =>?_,by simp[C],fun j i f =>?_⟩
  ·grind
  grind
 | [],[],_::_,_,h,_,_,_=>h.elim
 | [],_::_,_,_,h,_,_,_=>h.elim
 | _::_,[],_,_,h,_,_,_=>h.elim
 | _::_,_::_,[],_,h,_,_,_=>h.elim
end
end Go.Proofs.YtobnihfgnbnncaaGreat.Am
namespace Go.Proofs.YtobnihfgnbnncaaGreat.Am
open Go.RowKit Go.Deep Go.ChangeShapes Go.WideShapes Go.ChangeAt
section
variable {H:Type} {enc:TypeId×Value->H} {P:Program}
def Ku {f:Func} {s:ChangeSpec} {c fresh d l:Bool} {W m:World} {e:Array Value} {v:Value} {n o:List (DataW H)} {a pa pv:List MemPlace}
  (hW:DataW.Whole enc P f.params.toList s.vars c W e.toList n o a)
  (i:∀(b:Nat) (sp:Nat->Bool) (A:Bool),DataW.TrodAll enc P m b sp A f.resultTypes.toList (v.resultList f.resultTypes.size) (s.fn H (n++o)).results [])
  (g:∀sp:Nat->Bool,(∀p∈a,sp p.block=true)->DataW.TrodAll enc P m 0 sp true f.params.toList e.toList (s.fn H (n++o)).args pa)
  (h:∀sp:Nat->Bool,(∀p∈a,sp p.block=true)->DataW.TrodVars enc P m sp s.vars (s.fn H (n++o)).vars pv)
  (B:a=pa++pv) (z:Below W.heap.size W m)
  (x:∀(j:Nat) (t:TypeId) (r:Value),f.resultTypes[j]? = some t->(v.resultList f.resultTypes.size)[j]? = some r->Value.okWide P m .any 0 t r) :
  s.post enc P f c fresh d l W e v m:=by
 have y:∀p∈a,p.block<W.heap.size:=fun p q=>hW.lt p q;have k:∀p∈a,(fun b=>decide (b<W.heap.size)) p.block=true:=fun p q=>by simp_all
 refine⟨n,o,a,[],pa,pv,hW,i _ _ _,g _ k,h _ k,World.keptBut_mono (fun p q=>⟨q,?_⟩) (z.frame (·∈a)),fun _ =>?_⟩
 ·simp_all
 ·obtain⟨_,_,_,_,_,C,D⟩:=hW;refine⟨x,_,_,([]++pa)++pv,⟨[]++pa,pv,trodAll_append (g _ (fun _ _=>rfl)) (i _ _ _),h _ (fun _ _=>rfl),rfl,?_,?_⟩,?_⟩
  ·intro b u q;have w:MemPlace.cell b u∈a:=by simp_all
   rw[z.frozen (y _ w)];exact C b u w
  ·simp_all
  simp_all
def A7 (k:laidOutB P=true) {W l:World} {b:Nat->Bool} : ∀ {c:List TypeId} {i:List Value} {j:List (DataW H)} {f:List MemPlace},(∀t∈c,P.readableRec t=true∧t<P.types.size)->DataW.TrodAll enc P W 0 (fun _=>true) true c i j f ->
  (∀p∈f,W.sameAt l p)->(∀p∈f,b p.block=true)->DataW.TrodAll enc P l 0 b true c i j f
 | [],[],[],_,_,h,_,_=>h
 | t::c,v::i,d::j,_,hr,⟨p,q,h1,h2,e⟩,hs,hp=>by
  subst e;have g:=hr t (by simp);exact⟨p,q,WideElems.Trod_stays k g.1 g.2 h1 (fun x a=>hs x (alF _ a)) (fun x a=>hp x (alF _ a)),
   A7 k (fun t g=>hr t (amI _ g)) h2 (fun x a=>hs x (alG _ a)) (fun x a=>hp x (alG _ a)),rfl⟩
end
def adH {H:Type} {enc:TypeId×Value->H} {C:Checked} {T:Nat->Option Ty} {f:FuncId} {c:Func} {s:ChangeSpec} {g fresh i o:Bool} {V n:Nat} (hT:ke C.prog T)
  (hl:laidOutB C.prog=true) (F:(c.params.toList.all fun t=>C.prog.readableRec t&&decide (t<C.prog.types.size)&&okT T n t)=true)
  (m:c.resultTypes = #[V]) (w:C.prog.underlying V=some .bool) (G:s.vars=[])
  (hs:∀ds:List (DataW H),ds.length=c.params.toList.length->(s.fn H ds).results=[.lit (.bool true)]∧(s.fn H ds).args=ds∧(s.fn H ds).vars=[])
  (I:∀y:List D,y.length=c.params.toList.length->(∀(j:Nat) t,c.params.toList[j]? = some t->∃x,y[j]? = some x∧wP T n t x)->Ug C.prog f y (.bool true))
  {W:World} {base:Nat} {args:Array Value} {ds X:List (DataW H)} {l:List MemPlace}
  (hval:∀(j:Nat) t v,c.params[j]? = some t->args[j]? = some v->Value.okWide C.prog W .any base t v) (Y:DataW.Whole enc C.prog c.params.toList s.vars g W args.toList ds X l)
  (r:(DataW.weightsEach C.prog (c.params.toList++s.plain.varTypes C.prog) (ds++X)).all (·<=reachBytes)=true) (z:YW W (fun _=>False)) :
  Calls C.prog f args W fun e J=>∃v,e=.returned v∧s.post enc C.prog c g fresh i o W args v J:=by
 have A:=Y;obtain⟨p,q,K,Z,rfl,aa,ab⟩:=Y;rw[G]at Z;obtain⟨rfl,rfl⟩:=trodVars_none Z;simp only[alB,al0,decide_eq_true_eq]at F;obtain⟨y,h1,L,h3,h4⟩:=KZ (P:=C.prog) hT (M:=fun _=>False) (fun b _ _ h=>h) (n:=n) (b0:=base) c.params.toList args.toList ds p K
  (fun j t v a b=>hval j t v (by simpa using a) (by simpa using b)) (fun t N=>(F t N).2) (fun k hk=>by
   rw[alB]at r;have O:s.plain.varTypes C.prog=[]:=by unfold ChangeSpec.plain;simp only[G];rfl
   rw[O,am6,am6]at r;have h:=r k hk;rw[decide_eq_true_eq]at h;exact h)
 refine (I y h3 h4 W (fun _=>False) args (fun b h=>h.elim) ⟨by simpa using h1.symm,fun j x hj =>?_,z⟩).mono fun e J hG =>?_
 ·obtain⟨v,g1,g2⟩:=L j x hj;simp_all
 ·obtain⟨v,rfl,hb,Q⟩:=hG;have R:RP J (fun _=>False) (.bool true) v:=Q;cases R;have B:ds.length=c.params.toList.length:=by
   have:∀ {E:List TypeId} {u:List Value} {ds:List (DataW H)} {S:List MemPlace},DataW.TrodAll enc C.prog W 0 (fun _=>true) true E u ds S->ds.length=E.length:=by
    intro E
    induction E with
    | nil=>intro u ds S h;cases u<;>cases ds<;>first|rfl|exact h.elim
    | cons t E ih =>
     intro u ds S h;cases u with
     | nil=>exact h.elim
     | cons v u=>cases ds with
      | nil=>exact h.elim
      | cons d ds=>obtain⟨_,_,_,L,_⟩:=h;simp[ih L]
   exact this K
  obtain⟨e1,e2,e3⟩:=hs ds B;refine⟨_,rfl,Ku (pa:=p) (pv:=[]) A ?_ ?_ ?_ (by simp) hb ?_⟩
  ·intro b sp hd;rw[am6,e1,m];exact trodAll_mk1 ⟨1,by simp[DataW.trod,w,Value.cells]⟩
  ·intro sp hsp;rw[am6,e2];refine A7 hl (fun t N=>(F t N).1) K (fun x U=>hb.same (A.lt x (by simpa using U))) (fun x U=>hsp x (by simpa using U))
  ·intro sp _;rw[am6,e3,G];rfl
  ·exact ok_one m rfl (by simp[Value.okWide,w,Cell.okWide,Cell.ok])
def VB {H:Type} {enc:TypeId×Value->H} {C:Checked} {u:Os} {T:Nat->Option Ty} {f:FuncId} {k:Func} {s:ChangeSpec} {d:List PathCond} {a fresh e m:Bool} {tb n:Nat}
  (F:ke C.prog T) (own:ownKnob C.prog.godebug=none) (g:u.Started) (l:C.prog.inits.idxOf? f=none) (v:C.prog.funcs[f]? = some k)
  (h:∃(w:World) (c:Tape) (i:Input),w.os=u∧(w.forCall c i).Shaped C.prog∧i.vars=[]∧Input.okWide C.prog (w.forCall c i) .any w.heap.size f i ∧
   s.pre6 enc C.prog k d a (w.forCall c i).memory i.args∧({} : Assume).holds C.prog (lone (Frame.enter C.prog f i.args .normal) [] (w.forCall c i)))
  (G:laidOutB C.prog=true) (I:(k.params.toList.all fun t=>C.prog.readableRec t&&decide (t<C.prog.types.size)&&okT T n t)=true)
  (p:k.resultTypes = #[tb]) (y:C.prog.underlying tb=some .bool) (J:s.vars=[])
  (K:∀o:List (DataW H),o.length=k.params.toList.length->(s.fn H o).results=[.lit (.bool true)]∧(s.fn H o).args=o∧(s.fn H o).vars=[])
  (z:∀A:List D,A.length=k.params.toList.length->(∀(j:Nat) t,k.params.toList[j]? = some t->∃x,A[j]? = some x∧wP T n t x)->Ug C.prog f A (.bool true)) (L:ad6=none:=by rfl) :
  ReturnsInHanded {} C u f .any (s.pre6 enc C.prog k d a) (s.post enc C.prog k a fresh e m):=by
 apply returnsInHanded_of_change_sized own g l v h;intro W base E o N r q M _ B _;exact adH F G I p y J K z q M B (fun b O=>by simp_all)
end Go.Proofs.YtobnihfgnbnncaaGreat.Am
namespace Go.Proofs.YtobnihfgnbnncaaGreat.Am
open Go.RowKit
def aiH {T:Nat->Option Ty} {n t:Nat} {b:List D} (h:b.length=[t].length) (c:∀(j:Nat) u,[t][j]? = some u->∃x,b[j]? = some x∧wP T n u x):∃a,b=[a]∧wP T n t a:=by
 match b,h with
 | [a],_=>obtain⟨x,d,e⟩:=c 0 t rfl;cases d;exact⟨a,rfl,e⟩
def aiI {T:Nat->Option Ty} {n t:Nat} {b:List Nat} {c:List D} (h:c.length=(t::b).length) (d:∀(j:Nat) u,(t::b)[j]? = some u->∃x,c[j]? = some x∧wP T n u x) :
  ∃a alj,c=a::alj∧wP T n t a∧alj.length=b.length∧∀(j:Nat) u,b[j]? = some u->∃x,alj[j]? = some x∧wP T n u x:=by
 match c,h with
 | a::alj,h =>
  obtain⟨x,e,f⟩:=d 0 t rfl;cases e;exact⟨a,alj,rfl,f,by simpa using h,fun j u g=>by simpa using d (j+1) u (by simpa using g)⟩
section
variable {T:Nat->Option Ty} {n t:Nat} {τ:Ty} {d:D}
def aeO {k:IntKind} (h:wP T (n+1) t d) (a:T t=some τ) (b:τ.ds=.int k):∃i,d=.int k i∧(Lit.int k i).wf=true:=by
 simp only[wP,a,b,Ds.we,alY,if_false,FR]at h;obtain⟨_,i,c,e⟩:=h;cases c;exact⟨i,rfl,e⟩
def Ut {b:List (Nat×Nat)} (h:wP T n t d) (c:T t=some τ) (e:τ.ds=.struct b):∃a,d=.agg a∧FR T n t a:=by
 simp only[wP,c,e,Ds.we,if_true]at h;exact h
def Y1 {e:Nat} (h:wP T n t d) (a:T t=some τ) (b:τ.ds=.slice e):FR T n t [d]:=by
 simp only[wP,a,b,Ds.we,alY,if_false]at h;exact h
def af4 {k:IntKind} {a:List D} (h:FR T (n+1) t a) (b:T t=some τ) (c:τ.ds=.int k):∃i,a=[.int k i]∧(Lit.int k i).wf=true:=by
 simp only[FR,b,c]at h;exact h.2
def af5 {a:List D} (h:FR T (n+1) t a) (b:T t=some τ) (c:τ.ds=.str):∃s:ByteArray,a=[.str s]∧s.size<=140737488351232:=by
 simp only[FR,b,c]at h;exact h.2
def aaJ {e:Nat} {φ:Ty} {b:List D} (h:FR T (n+1) t b) (d:T t=some τ) (f:τ.ds=.slice e) (g:T e=some φ) :
  ∃len a,b=[.sl false false len a]∧len*φ.bytes<=140737488351232∧a.length=len*φ.size∧∀i,i<len->FR T n e ((a.drop (i*φ.size)).take φ.size):=by
 simp only[FR,d,f]at h;obtain⟨_,len,a,ψ,j,k,c,l,m⟩:=h;rw[g]at c;cases c;exact⟨len,a,j,k,l,m⟩
def V3 {b:List (Nat×Nat)} {a:List D} (h:FR T (n+1) t a) (c:T t=some τ) (d:τ.ds=.struct b):a.length=τ.size∧∀f∈b,∃φ,T f.1=some φ∧FR T n f.1 ((a.drop f.2).take φ.size):=by
 simp only[FR,c,d]at h;exact h
end
end Go.Proofs.YtobnihfgnbnncaaGreat.Am
namespace Go.Proofs.YtobnihfgnbnncaaGreat.Am
open Go.RowKit Go.Proofs.YtobnihfgnbnncaaGreat.P
def GI {α:Type} (T:Nat->Option Ty) (n t:Nat) (E:jr α) (b:α->Prop):Prop:=(∃φ,T t=some φ∧φ.size=E.size)∧∀a,FR T n t a->∃x,a=E.cells x∧b x
section
variable {T:Nat->Option Ty} {n t:Nat} {τ:Ty}
def opI {k:IntKind} (a:T t=some τ) (b:τ.ds=.int k) (c:τ.size=1):GI T (n+1) t (eI k) (fun i=>(Lit.int k i).wf=true):=⟨⟨τ,a,c⟩,fun _ h=>af4 h a b⟩
def ai1 (a:T t=some τ) (b:τ.ds=.str) (c:τ.size=1):GI T (n+1) t ahm (fun s=>s.size<=140737488351232):=⟨⟨τ,a,c⟩,fun _ h=>af5 h a b⟩
def agZ {α:Type} (E:jr α) (d:α->Prop):∀(len:Nat) (a:List D),a.length=len*E.size->(∀i,i<len->∃x,(a.drop (i*E.size)).take E.size=E.cells x∧d x)->∃l:List α,l.length=len∧a=an E l∧∀x∈l,d x
 | 0,a,e,_=>⟨[],rfl,by simpa [an] using e,fun x c=>by simp at c⟩
 | len+1,a,e,h=>by
  obtain⟨x,c,f⟩:=h 0 (by omega);obtain⟨l,j,k,m⟩:=agZ E d len (a.drop E.size) (by rw[alJ,e,amY];omega) (fun i n=>by
   obtain⟨y,b,g⟩:=h (i+1) (by omega);refine⟨y,?_,g⟩;rw[am0];rw[amY,Nat.add_comm]at b;exact b)
  rw[am2,am3]at c;refine⟨x::l,by simp[j],?_,fun y b =>?_⟩
  ·rw[ch,<- k,<- c,am1]
  ·rcases alx.1 b with rfl|b
   ·exact f
   ·exact m y b
def aag {α:Type} {E:jr α} {a:α->Prop} {e:Nat} (b:T t=some τ) (k:τ.ds=.slice e) (m:τ.size=1) {B:Nat} (c:(T e).map (·.bytes)=some B) (o:GI T n e E a):GI T (n+1) t (fL E) (fun l=>l.length*B<=140737488351232∧∀x∈l,a x):=by
 obtain⟨⟨φ,d,p⟩,hx⟩:=o;have q:φ.bytes=B:=by rw[d]at c;simpa using c
 refine⟨⟨τ,b,m⟩,fun z h =>?_⟩;obtain⟨len,r,s,f,g,j⟩:=aaJ h b k d;rw[p]at g j;rw[q]at f;obtain⟨l,u,v,w⟩:=agZ E a len r g fun i y=>hx _ (j i y);subst u v;exact⟨l,s,f,w⟩
def OpF {α:Type} (T:Nat->Option Ty) (n:Nat) (b:List (Nat×Nat)) (o:Nat) (E:jr α) (c:α->Prop):Prop :=
 ∀a:List D,a.length=o+E.size->(∀f∈b,∃φ,T f.1=some φ∧FR T n f.1 ((a.drop f.2).take φ.size))->∃x,a.drop o=E.cells x∧c x
def aaf {α:Type} {E:jr α} {b:α->Prop} {a o:Nat} (h:GI T n a E b):OpF T n [(a,o)] o E b:=by
 obtain⟨⟨φ,d,i⟩,e⟩:=h;intro j k f;obtain⟨ψ,g,c⟩:=f (a,o) (by simp);cases d.symm.trans g;rw[am4 (by rw[alJ];omega)]at c;exact e _ c
def Ks {α β:Type} {E:jr α} {ok:α->Prop} {b:jr β} {a:β->Prop} {c o k:Nat} {l:List (Nat×Nat)} (h:GI T n c E ok) (p:k=o+E.size) (q:OpF T n l k b a):OpF T n ((c,o)::l) o (nQ E b) (fun x=>ok x.1∧a x.2):=by
 subst p;obtain⟨⟨φ,r,s⟩,t⟩:=h;intro m u hf;obtain⟨ψ,v,w⟩:=hf (c,o) (by simp);cases r.symm.trans v;obtain⟨x,d,e⟩:=t _ w;obtain⟨y,g,i⟩:=q m (by rw[u];show o+(E.size+b.size)=_;omega) fun f j=>hf f (amI _ j);refine⟨(x,y),?_,e,i⟩;show m.drop o=E.cells x++b.cells y;rw[<- d,<- g,<- s,<- am0,am1]
def opS {α β:Type} {E:jr β} {ok:β->Prop} {f:α->β} {i:∀x y,f x=f y->x=y} {g:β->α} {a:List (Nat×Nat)} (b:T t=some τ) (j:τ.ds=.struct a) (c:τ.size=E.size) (d:∀y,f (g y)=y) (h:OpF T n a 0 E ok):GI T (n+1) t (Bk E f i) (fun x=>ok (f x)):=by
 refine⟨⟨τ,b,c⟩,fun e k =>?_⟩;obtain⟨l,m⟩:=V3 k b j;obtain⟨y,o,p⟩:=h e (by rw[l,c,amr]) m;refine⟨g y,?_,?_⟩
 ·show e=E.cells (f (g y));rw[d,<- o,am3]
 ·show ok (f (g y));rw[d];exact p
def OpA {α:Type} (T:Nat->Option Ty) (n t:Nat) (A:Arg α) (a:α->Prop):Prop:=∀d,wP T n t d->∃x,d=A.d x∧a x
def oaI {k:IntKind} (a:T t=some τ) (b:τ.ds=.int k):OpA T (n+1) t (aI k) (fun i=>(Lit.int k i).wf=true):=fun _ h=>aeO h a b
def ai0 {α:Type} {E:jr α} {a:List α->Prop} {e:Nat} (c:T t=some τ) (f:τ.ds=.slice e) (g:GI T n t (fL E) a):OpA T n t (jX E) a:=fun d h=>by
 obtain⟨x,b,i⟩:=g.2 _ (Y1 h c f);simp only[DH,alO,and_true]at b;exact⟨x,b,i⟩
def oaS {α:Type} {E:jr α} {b:α->Prop} {c:List (Nat×Nat)} (e:T t=some τ) (f:τ.ds=.struct c) (g:GI T n t E b):OpA T n t (bW E) b:=fun d h=>by
 obtain⟨j,rfl,a⟩:=Ut h e f;obtain⟨x,a,i⟩:=g.2 _ a;exact⟨x,by rw[a];rfl,i⟩
def abc {α:Type} (T:Nat->Option Ty) (n:Nat) (b:List Nat) (A:kM α) (c:α->Prop):Prop:=∀a:List D,a.length=b.length->(∀(j:Nat) u,b[j]? = some u->∃x,a[j]? = some x∧wP T n u x)->∃x,a=A.ds x∧c x
def akH {α:Type} {A:Arg α} {b:α->Prop} (h:OpA T n t A b):abc T n [t] (dM A) b:=fun g c d=>by
 obtain⟨a,rfl,e⟩:=aiH c d;obtain⟨x,rfl,f⟩:=h a e;exact⟨x,rfl,f⟩
def ahG {α β:Type} {A:Arg α} {ok:α->Prop} {B:kM β} {b:β->Prop} {e:List Nat} (h:OpA T n t A ok) (g:abc T n e B b):abc T n (t::e) (gj A B) (fun x=>ok x.1∧b x.2):=fun f i j=>by
 obtain⟨a,f,rfl,k,c,d⟩:=aiI i j;obtain⟨x,rfl,l⟩:=h a k;obtain⟨y,rfl,m⟩:=g f c d;exact⟨(x,y),rfl,l,m⟩
def ahx {P:Program} {f:FuncId} {α:Type} {A:kM α} {F:α->Option Bool} {c:α->Prop} {b:List Nat} (d:abc T n b A c) (e:ck P f (ej A F (fun r =>.clean (.bool r)))) (h:∀x,c x->F x=some true) (a:List D) (g:a.length=b.length)
  (i:∀(j:Nat) u,b[j]? = some u->∃x,a[j]? = some x∧wP T n u x):Ug P f a (.bool true):=by
 obtain⟨x,rfl,k⟩:=d a g i;refine e.calls none _ _ none ?_;rw[cF,h x k];rfl
end
end Go.Proofs.YtobnihfgnbnncaaGreat.Am
namespace Go.Proofs.YtobnihfgnbnncaaGreat.P
open Go.RowKit
def Pu (l:List Int):Option (List Int):=some l
def Gt (l:List Int):Option (List Int):=if l.length*8<=140737488351232 then some (sW l) else none
end Go.Proofs.YtobnihfgnbnncaaGreat.P
namespace Go.Proofs
open Go.Shelf
def Tryz.RV:Go.Shelf.Ren:=⟨fun|189=>194|125=>122|257=>201|128=>164|129=>165|294=>203|295=>204|296=>205|297=>206|298=>207|299=>208|216=>209|300=>210|301=>211|328=>213|329=>188|330=>189|331=>214|332=>215|215=>153|343=>216|n=>n,fun|28=>22|3=>3|46=>153|0=>0|51=>190|53=>152|4=>4|183=>184|182=>183|131=>172|5=>5|9=>9|218=>207|222=>211|228=>216|229=>217|n=>n,fun|n=>n⟩
def Tryz.XB:Go.Proofs.Lays.n189 prog Tryz.RV:={
 mixed:=by kernel_rfl
 f125:=Tryz.func122.trans (congrArg some (by kernel_rfl))
 f128:=Tryz.func164.trans (congrArg some (by kernel_rfl))
 f129:=Tryz.func165.trans (congrArg some (by kernel_rfl))
 f189:=Tryz.func194.trans (congrArg some (by kernel_rfl))
 f215:=Tryz.func153.trans (congrArg some (by kernel_rfl))
 f216:=Tryz.func209.trans (congrArg some (by kernel_rfl))
 f257:=Tryz.func201.trans (congrArg some (by kernel_rfl))
 f294:=Tryz.func203.trans (congrArg some (by kernel_rfl))
 f295:=Tryz.func204.trans (congrArg some (by kernel_rfl))
 f296:=Tryz.func205.trans (congrArg some (by kernel_rfl))
 f297:=Tryz.func206.trans (congrArg some (by kernel_rfl))
 f298:=Tryz.func207.trans (congrArg some (by kernel_rfl))
 f299:=Tryz.func208.trans (congrArg some (by kernel_rfl))
 f300:=Tryz.func210.trans (congrArg some (by kernel_rfl))
 f301:=Tryz.func211.trans (congrArg some (by kernel_rfl))
 f328:=Tryz.func213.trans (congrArg some (by kernel_rfl))
 f329:=Tryz.func188.trans (congrArg some (by kernel_rfl))
 f330:=Tryz.func189.trans (congrArg some (by kernel_rfl))
 f331:=Tryz.func214.trans (congrArg some (by kernel_rfl))
 f332:=Tryz.func215.trans (congrArg some (by kernel_rfl))
 f343:=Tryz.func216.trans (congrArg some (by kernel_rfl))
 t0:=underlying0
 a0:=isAgg0
 z0:=sizeOf0
 v0:=zeroValue0
 t3:=underlying3
 a3:=isAgg3
 z3:=sizeOf3
 v3:=zeroValue3
 t4:=underlying4
 a4:=isAgg4
 z4:=sizeOf4
 v4:=zeroValue4
 t5:=underlying5
 a5:=isAgg5
 z5:=sizeOf5
 v5:=zeroValue5
 t9:=underlying9
 a9:=isAgg9
 z9:=sizeOf9
 v9:=zeroValue9
 t28:=underlying22
 a28:=isAgg22
 z28:=sizeOf22
 v28:=zeroValue22
 t46:=underlying153
 a46:=isAgg153
 z46:=sizeOf153
 v46:=zeroValue153
 t51:=underlying190
 a51:=isAgg190
 z51:=sizeOf190
 v51:=zeroValue190
 t53:=underlying152
 a53:=isAgg152
 z53:=sizeOf152
 v53:=zeroValue152
 t131:=underlying172
 a131:=isAgg172
 z131:=sizeOf172
 v131:=zeroValue172
 t182:=underlying183
 a182:=isAgg183
 z182:=sizeOf183
 v182:=zeroValue183
 t183:=underlying184
 a183:=isAgg184
 z183:=sizeOf184
 v183:=zeroValue184
 t218:=underlying207
 a218:=isAgg207
 z218:=sizeOf207
 v218:=zeroValue207
 t222:=underlying211
 a222:=isAgg211
 z222:=sizeOf211
 v222:=zeroValue211
 t228:=underlying216
 a228:=isAgg216
 z228:=sizeOf216
 v228:=zeroValue216
 t229:=underlying217
 a229:=isAgg217
 z229:=sizeOf217
 v229:=zeroValue217 }
def Tryz.VK:Go.Shelf.Ren:=⟨fun|6=>66|15=>122|14=>121|28=>164|29=>165|20=>156|21=>157|22=>158|23=>159|24=>160|25=>161|26=>162|27=>163|46=>187|47=>188|48=>189|49=>190|50=>191|57=>199|n=>n,fun|22=>64|24=>118|25=>120|3=>3|39=>153|0=>0|53=>190|55=>152|4=>4|46=>184|45=>183|50=>172|5=>5|9=>9|66=>207|70=>211|76=>216|77=>217|n=>n,fun|n=>n⟩
def Tryz.adV:Go.Proofs.SlLaysF0.n6 prog Tryz.VK:={
 mixed:=by kernel_rfl
 f6:=⟨Tryz.f66.name,by decide,Tryz.func66.trans (congrArg some (by kernel_rfl))⟩
 f14:=⟨Tryz.f121.name,by decide,Tryz.func121.trans (congrArg some (by kernel_rfl))⟩
 f15:=Tryz.func122.trans (congrArg some (by kernel_rfl))
 f20:=⟨Tryz.f156.name,by decide,Tryz.func156.trans (congrArg some (by kernel_rfl))⟩
 f21:=⟨Tryz.f157.name,by decide,Tryz.func157.trans (congrArg some (by kernel_rfl))⟩
 f22:=⟨Tryz.f158.name,by decide,Tryz.func158.trans (congrArg some (by kernel_rfl))⟩
 f23:=⟨Tryz.f159.name,by decide,Tryz.func159.trans (congrArg some (by kernel_rfl))⟩
 f24:=⟨Tryz.f160.name,by decide,Tryz.func160.trans (congrArg some (by kernel_rfl))⟩
 f25:=⟨Tryz.f161.name,by decide,Tryz.func161.trans (congrArg some (by kernel_rfl))⟩
 f26:=⟨Tryz.f162.name,by decide,Tryz.func162.trans (congrArg some (by kernel_rfl))⟩
 f27:=⟨Tryz.f163.name,by decide,Tryz.func163.trans (congrArg some (by kernel_rfl))⟩
 f28:=Tryz.func164.trans (congrArg some (by kernel_rfl))
 f29:=Tryz.func165.trans (congrArg some (by kernel_rfl))
 f46:=⟨Tryz.f187.name,by decide,Tryz.func187.trans (congrArg some (by kernel_rfl))⟩
 f47:=Tryz.func188.trans (congrArg some (by kernel_rfl))
 f48:=Tryz.func189.trans (congrArg some (by kernel_rfl))
 f49:=⟨Tryz.f190.name,by decide,Tryz.func190.trans (congrArg some (by kernel_rfl))⟩
 f50:=⟨Tryz.f191.name,by decide,Tryz.func191.trans (congrArg some (by kernel_rfl))⟩
 f57:=⟨Tryz.f199.name,by decide,Tryz.func199.trans (congrArg some (by kernel_rfl))⟩
 t0:=underlying0
 a0:=isAgg0
 z0:=sizeOf0
 v0:=zeroValue0
 t3:=underlying3
 a3:=isAgg3
 z3:=sizeOf3
 v3:=zeroValue3
 t4:=underlying4
 a4:=isAgg4
 z4:=sizeOf4
 v4:=zeroValue4
 t5:=underlying5
 a5:=isAgg5
 z5:=sizeOf5
 v5:=zeroValue5
 t9:=underlying9
 a9:=isAgg9
 z9:=sizeOf9
 v9:=zeroValue9
 t22:=underlying64
 a22:=isAgg64
 z22:=sizeOf64
 v22:=zeroValue64
 t25:=underlying120
 a25:=isAgg120
 z25:=sizeOf120
 v25:=zeroValue120
 t39:=underlying153
 a39:=isAgg153
 z39:=sizeOf153
 v39:=zeroValue153
 t45:=underlying183
 a45:=isAgg183
 z45:=sizeOf183
 v45:=zeroValue183
 t46:=underlying184
 a46:=isAgg184
 z46:=sizeOf184
 v46:=zeroValue184
 t50:=underlying172
 a50:=isAgg172
 z50:=sizeOf172
 v50:=zeroValue172
 t53:=underlying190
 a53:=isAgg190
 z53:=sizeOf190
 v53:=zeroValue190
 t55:=underlying152
 a55:=isAgg152
 z55:=sizeOf152
 v55:=zeroValue152
 t66:=underlying207
 a66:=isAgg207
 z66:=sizeOf207
 v66:=zeroValue207
 t70:=underlying211
 a70:=isAgg211
 z70:=sizeOf211
 v70:=zeroValue211
 t76:=underlying216
 a76:=isAgg216
 z76:=sizeOf216
 v76:=zeroValue216
 t77:=underlying217
 a77:=isAgg217
 z77:=sizeOf217
 v77:=zeroValue217 }
end Go.Proofs
namespace Go.Proofs.YtobnihfgnbnncaaGreat.Am
open Go.RowKit Go.Proofs.YtobnihfgnbnncaaGreat.P
def Ws {w:World} {M:Nat->Prop} {k:IntKind} {l:List Int} {u:Value} (h:RP w M (.sl false false l.length (an (eI k) l)) u) :
  ∃A c,u=.slice A l.length c∧l.length<=c∧c<=maxLen∧(A=none->l.length=0∧c=0)∧(l≠[]->∃b o,A=some ⟨b,o,none⟩∧b<w.heap.size∧¬M b∧∀j,j<l.length->w.cell? ⟨b,o+j,none⟩=some (.int k (l.getD j 0))):=by
 cases h with
 | sl A c nl tight n xs us h1 h2 h3 h4 h5 h6 h7 h8 =>
  refine⟨A,c,rfl,h1,h2,h4,fun p =>?_⟩;have a:an (eI k) l≠[]:=by
   intro d;have:=congrArg List.length d;rw[tn]at this;simp_all
  obtain⟨b,o,rfl,e,f,g⟩:=h6 a;refine⟨b,o,rfl,e,f,fun j i =>?_⟩;rw[g j (by rw[tn];exact i)];have m:(an (eI k) l)[j]? = some (.int k (l.getD j 0)):=by rw[y9];simp_all
  rw[Un (h7 j _ m)]
end Go.Proofs.YtobnihfgnbnncaaGreat.Am
namespace Go.Proofs.YtobnihfgnbnncaaGreat.Am
open Go.RowKit Go.Shelf Go.Proofs.YtobnihfgnbnncaaGreat.P
attribute [local go_sem] Oper.semAt_some
def upto (f:Nat->Int) (k:Nat):List Int:=(List.range k).map f
def NB (f:Nat->Int) (k:Nat):upto f (k+1)=upto f k++[f k]:=by simp[upto,anP]
def T3 (f:Nat->Int) (k:Nat):(upto f k).length=k:=by simp[upto]
def aeq (zs:List Int):upto (fun j=>zs[j]?.getD 0) zs.length=zs:=by
 apply List.ext_getElem
 ·simp[upto]
 ·intro i b a;simp[upto,a]
def aaM (zs:List Int) {k:Nat} (a:k<=zs.length):upto (fun j=>zs[j]?.getD 0) k=zs.take k:=by
 apply List.ext_getElem
 ·simp[upto,a]
 ·intro i b c;have:i<zs.length:=by grind
  simp[upto,this]
set_option maxRecDepth 100000 in
set_option maxHeartbeats 2000000 in
def V9 (F:Fence) (n:Nat) (h7:F.fn 195) (hro:F.round=none) (hn:1<=n) (l Bs Bo n₀ b off len cap:Nat) (zs:List Int) (hreach:len*8<=140737488351232) (hb:b<n₀) (J Jx:List Int->World->Prop)
  (hY:∀pre x W,J pre W->pre.length<len->YieldAt F (n-1) prog l #[.int .i64 x] W fun e W' =>
   (e=.returned (.bool true)∧J (pre++[x]) W'∧Below n₀ W W')∨(e=.returned (.bool false)∧Jx (pre++[x]) W'))
  (W:World) (hBs:W.cell? ⟨Bs,Bo,none⟩=some (.slice (some ⟨b,off,none⟩) len cap)) (hc:∀j,j<len->W.cell? ⟨b,off+j,none⟩=some (.int .i64 (zs[j]?.getD 0))) (h0:J [] W) :
  CallsIn F n prog 195 #[.func (.yield l) #[] #[],.pointer (some ⟨Bs,Bo,none⟩)] W fun e W'=>(∃v,e=.returned v) ∧
   ((∃ys,ys=upto (fun j=>zs[j]?.getD 0) len∧J ys W')∨(∃pre,(∃k,k<=len∧pre=upto (fun j=>zs[j]?.getD 0) k)∧Jx pre W')):=by
 refine callsIn_of_wp func195 rfl h7 ?_ hro;simp only[ntmps195,amB,List.length_cons,List.length_nil,Nat.reduceAdd,Nat.reduceSub,anY,Array.replicate_zero,an0,an1,List.nil_append,List.cons_append]
 gi_wp2
 gi_loopw [7] (fun i wr=>∃k:Nat,k<=len∧i=.int .i64 k∧J (upto (fun j=>zs[j]?.getD 0) k) wr∧Below n₀ W wr)
  (fun i _=>len-(intOf i).toNat)
 case atStart=>exact⟨0,alr _,rfl,h0,Below.refl _ _⟩
 case round =>
  obtain⟨k,hk,rfl,hJs,hnx⟩:=hrel;have hcx:k<len->wr.cell? ⟨b,off+k,none⟩=some (.int .i64 (zs[k]?.getD 0)):=fun h=>(hnx.cell (p:=⟨b,off+k,none⟩) hb).trans (hc k h)
  by_cases hlt:k<len
  ·obtain⟨fn,tmps,assign,body,hy,hR⟩:=hY _ (zs[k]?.getD 0) wr hJs (by rw[T3];exact hlt);have hcx':=hcx hlt
   gi_wp2
   apply hR.mono;rintro e W3 (⟨rfl,hJ3,hk3⟩|⟨rfl,hJx3⟩)
   ·gi_wp2
    go_roundw
    case rel=>exact⟨k+1,by omega,by simp,by rw[NB];exact hJ3,hnx.trans hk3⟩
    case measure=>simp[intOf];omega
   ·gi_wp2
    refine bodyPost_ret (results_none rfl _ _ _) rfl ?_;exact⟨⟨_,rfl⟩,.inr ⟨_,⟨k+1,by omega,(NB _ _).symm⟩,hJx3⟩⟩
  ·obtain rfl:k=len:=by omega
   gi_wp2
   go_end0
   exact⟨⟨_,rfl⟩,.inl ⟨_,rfl,hJs⟩⟩
set_option maxRecDepth 100000 in
set_option maxHeartbeats 1000000 in
def JQ (F:Fence) (n:Nat) (h7:F.fn 195) (hro:F.round=none) (l Bs Bo cap:Nat) (A:Option Addr) (J:List Int->World->Prop) (W:World) (hBs:W.cell? ⟨Bs,Bo,none⟩=some (.slice A 0 cap)) (h0:J [] W) :
  CallsIn F n prog 195 #[.func (.yield l) #[] #[],.pointer (some ⟨Bs,Bo,none⟩)] W fun e W'=>(∃v,e=.returned v)∧J [] W':=by
 refine callsIn_of_wp func195 rfl h7 ?_ hro;simp only[ntmps195,amB,List.length_cons,List.length_nil,Nat.reduceAdd,Nat.reduceSub,anY,Array.replicate_zero,an0,an1,List.nil_append,List.cons_append]
 gi_wp2
 gi_loopw [7] (fun i wr=>i=.int .i64 0∧J [] wr) (fun _ _=>0)
 case atStart=>exact⟨rfl,h0⟩
 case round =>
  obtain⟨rfl,hJs⟩:=hrel
  gi_wp2
  go_end0
  exact⟨⟨_,rfl⟩,hJs⟩
def Ints (g:Nat) (W:World) (f:Value) (d:List Int):Prop :=
 (∃A c,f=.slice A 0 c∧d=[])∨∃b a e,f=.slice (some ⟨b,a,none⟩) d.length e∧b<g∧∀j,j<d.length->W.cell? ⟨b,a+j,none⟩=some (.int .i64 (d[j]?.getD 0))
def Ints.below {a:Nat} {A B:World} (h:Below a A B) {c:Value} {d:List Int} : Ints a A c d->Ints a B c d
 | .inl e =>.inl e
 | .inr ⟨b,off,cap,e,f,g⟩ =>.inr ⟨b,off,cap,e,f,fun j i=>(h.cell (p:=⟨b,off+j,none⟩) f).trans (g j i)⟩
def Pv (F:Fence) (n:Nat) (v:F.fn 195) (g:F.round=none) (C:1<=n) (f h m:Nat) (y:Value) (a:List Int) (d:a.length*8<=140737488351232) (w:World) (q:f<w.heap.size) (r:m<=w.heap.size)
  (D:w.cell? ⟨f,h,none⟩=some y) (E:Ints m w y a) :
  SeqStopsK F n prog 195 #[.pointer (some ⟨f,h,none⟩)] (fun x:Int=>#[Value.int .i64 x]) (Below m) (fun ys=>ys=a) (fun pre=>pre <+: a) a.length w:=fun l J G W z _ _ H B=>by
 have i:=(z.cell (p:=⟨f,h,none⟩) q).trans D;rcases E.below (z.mono r) with⟨A,c,rfl,rfl⟩|⟨b,s,t,rfl,I,u⟩
 ·exact (JQ F n v g l f h _ _ J W i B).mono fun e K ⟨o,j⟩=>⟨o,.inl ⟨_,rfl,j⟩⟩
 ·refine (V9 F n v g C l f h m b s a.length t a d I J G H W i u B).mono ?_;rintro e K ⟨o,⟨ys,rfl,j⟩|⟨pre,⟨k,L,rfl⟩,j⟩⟩
  ·exact⟨o,.inl ⟨_,aeq a,j⟩⟩
  ·exact⟨o,.inr ⟨_,by rw[aaM a L];exact List.take_prefix _ _,j⟩⟩
def aiS:(Tryz.prog.info? 3).map (fun i=>(i.zero,i.size,i.bytes))=some (some (.int .i64 0),1,8):=by kernel_rfl
set_option maxRecDepth 100000 in
set_option maxHeartbeats 2000000 in
def appendSeq_in (F:Fence) (n:Nat) (h3:F.fn 200) (h7:F.fn 195) (hro:F.round=none) (hn:3<=n) (Bs Bo:Nat) (sv:Value) (zs:List Int) (hreach:zs.length*8<=140737488351232) (w:World)
  (hBs:Bs<w.heap.size) (hc:w.cell? ⟨Bs,Bo,none⟩=some sv) (hI:Ints w.heap.size w sv zs) :
  CallsIn F n prog 200 #[.slice none 0 0,.func (.func 195) #[] #[.pointer (some ⟨Bs,Bo,none⟩)]] w fun e W'=>∃v,e=.returned v∧W'.ownsRow w.heap.size 3 1 v zs.length (zs.map (Value.int .i64))∧(v=.slice none 0 0↔zs=[])∧Below w.heap.size w W':=by
 have h1:1<=n:=by omega
 obtain⟨i0,hi,hz0,hz1,hz2⟩:=info_parts aiS;refine callsIn_of_wp_marks func200 rfl h3 ?_ hro;simp only[ntmps200,amB,List.length_cons,List.length_nil,Nat.reduceAdd,Nat.reduceSub,anY,Array.replicate_zero,an0,an1,List.nil_append,List.cons_append]
 gi_wp2
 have bO:=Boxed.new w 22 (.slice none 0 0);have hB0:Below w.heap.size w (w.alloc (.cells #[.slice none 0 0] 22)):=(Below.refl _ w).alloc (alq _) _;refine wpIn_rangeFunc_ownG hro h1 (gf:=195) (lb:=#[.pointer (some ⟨Bs,Bo,none⟩)]) rfl h7 (enters_of func195 (by kernel_rfl) rfl)
  (Pv F (n-1) h7 hro (by omega) Bs Bo w.heap.size sv zs hreach _ (by simp;omega) (by simp) ((hB0.cell (p:=⟨Bs,Bo,none⟩) hBs).trans hc) (hI.below hB0)) belowK_t (belowK_b (by simp)) (Below.refl _ _) (fun _=>rfl)
  (fun pre W=>(∃v,Boxed W w.heap.size 22 v∧W.ownsRow w.heap.size 3 1 v pre.length (pre.map (Value.int .i64))∧(v=.slice none 0 0↔pre=[]))∧Below w.heap.size w W)
  (fun _ _ _=>False)
  (OwnFrom.and (Own.from (holdsRow_own w.heap.size w.heap.size 22 3 1 (fun pre=>pre.length) (fun pre=>pre.map (Value.int .i64)) (fun pre v=>v=.slice none 0 0↔pre=[])) _) (ownFrom_below (alq _) (by simp)))
  (fun _ _ _ _ _ hs _ _=>hs)
  ⟨⟨_,bO,World.ownsRow_nil _ _ _ _,by simp⟩,hB0⟩
  (fun x=>{ tmps:=#[.slice none 0 0,.func (.func 195) #[] #[.pointer (some ⟨Bs,Bo,none⟩)],.pointer (some ⟨w.heap.size,0,none⟩),undef,.slice none 0 0,.int .i64 x,.func (.func 195) #[] #[.pointer (some ⟨Bs,Bo,none⟩)],.int .i64 x,undef,undef,undef,undef,undef],defers:=[] }) ?assign ?body ?done ?stop
 case assign =>
  intro l x W K hK
  gi_wp2
  exact hK
 case body =>
  rintro l pre x W ⟨⟨v,hv,hrow,hnil⟩,hB⟩ hlt;have hc:=hv.cell
  gi_wp2_with (gi_at_builtin;refine wpListIn_append_own _ rfl _ _ 22 rfl w.heap.size 3 i0 (.int .i64 0) 1 8 underlying22 hi hz0 hz1 hz2 rfl (by decide) _ _ _ rfl (hrow.alloc _) ⟨W.heap.size,0,none⟩ 1 1 [.int .i64 x] rfl rfl (cell_one_new _ _ _) (by simp[Value.oneCell']) (by unfold maxLen;omega) (by omega) (by have:=hB.size;simp;omega) ?_;intro v' w1 hown' hgrow _;obtain⟨g',cap',rfl⟩:=ownsRow_succ hown';obtain⟨hv1,hv2,hr2,hk2,hb2⟩:=hv.appended (by decide) hrow hB.size (alq _) hown' hgrow;have hc1:=hv1.cell;have hf1:=hv1.frozen)
  exact⟨hk2.from _,hb2,⟨_,hv2,by simpa using hr2,by simp⟩,hB.trans hb2⟩
 case done =>
  rintro D ys W hD rfl ⟨⟨v,hv,hrow,hnil⟩,hB⟩ hK;have hc:=hv.cell
  gi_wp2
  refine⟨by simp,.inl ⟨_,_,rfl,run_takeDeferred hK,?_⟩⟩;exact⟨_,results_tmp rfl _ _ _,v,rfl,ownsRow_putObj hrow _ hK rfl,hnil,hB.trans (belowK_b (w:=w) (alq _) W D _ _ (by simp at hD;omega) hK rfl rfl)⟩
 case stop =>
  rintro D c pre W _ _ h _;exact h.elim
set_option maxHeartbeats 1000000 in
def collect_in (F:Fence) (n:Nat) (h2:F.fn 193) (h3:F.fn 200) (h7:F.fn 195) (hro:F.round=none) (hn:4<=n) (Bs Bo:Nat) (sv:Value) (zs:List Int) (hreach:zs.length*8<=140737488351232) (w:World)
  (hBs:Bs<w.heap.size) (hc:w.cell? ⟨Bs,Bo,none⟩=some sv) (hI:Ints w.heap.size w sv zs) :
  CallsIn F n prog 193 #[.func (.func 195) #[] #[.pointer (some ⟨Bs,Bo,none⟩)]] w fun e W'=>∃v,e=.returned v∧W'.ownsRow w.heap.size 3 1 v zs.length (zs.map (Value.int .i64))∧(v=.slice none 0 0↔zs=[])∧Below w.heap.size w W':=by
 have h1:1<=n:=by omega
 refine callsIn_of_wp func193 rfl h2 ?_ hro;simp only[ntmps193,amB,List.length_cons,List.length_nil,Nat.reduceAdd,Nat.reduceSub,anY,Array.replicate_zero,an0,an1,List.nil_append,List.cons_append]
 gi_wp2_with (gi_at_call 200;refine (appendSeq_in F (n-1) h3 h7 hro (by omega) Bs Bo sv zs hreach _ hBs hc hI).mono ?_;rintro e w' ⟨v,rfl,hrow,hnil,hb⟩)
 go_ret
 exact⟨v,rfl,hrow,hnil,hb⟩
def af8 (a:Option Addr) (len cap:Nat) (w:World) :
  Calls prog 174 #[.slice a len cap] w fun e w'=>e=.returned (.func (.func 195) #[] #[.pointer (some ⟨w.heap.size,0,none⟩)])∧w'=w.alloc (.cells #[.slice a len cap] 22):=by
 go_enter func174,ntmps174
 go_wp2
 go_ret
 exact⟨rfl,rfl⟩
set_option maxHeartbeats 1000000 in
def af0 (Bs Bo:Nat) (sv:Value) (zs:List Int) (hreach:zs.length*8<=140737488351232) (w:World) (hBs:Bs<w.heap.size) (hc:w.cell? ⟨Bs,Bo,none⟩=some sv) (hI:Ints w.heap.size w sv zs) :
  Calls prog 173 #[.func (.func 195) #[] #[.pointer (some ⟨Bs,Bo,none⟩)]] w fun e w'=>∃v,e=.returned v∧Below w.heap.size w w' ∧
   ((zs=[]∧v=.slice none 0 0)∨∃g cap cs,v=.slice (some ⟨g,0,none⟩) zs.length cap∧w.heap.size<=g∧w'.heap[g]? = some (.cells cs 3 (0,0))∧zs.length<=cap∧cap<=maxLen∧cs.size=cap∧∀j,j<zs.length->cs.getD j undef=.int .i64 ((sW zs).getD j 0)):=by
 refine (callsIn_wide (n:=6)).1 ?_;have hN:(1:Nat)<=6:=by omega
 have cC:=collect_in Fence.wide 5 trivial trivial trivial rfl (by omega) Bs Bo sv zs hreach w hBs hc hI;refine callsIn_of_wp func173 rfl trivial ?_ rfl;simp only[ntmps173,amB,List.length_cons,List.length_nil,Nat.reduceAdd,Nat.reduceSub,anY,Array.replicate_zero,an0,an1,List.nil_append,List.cons_append];have hf1:Fence.wide.fn 193:=trivial;have hf2:Fence.wide.fn 194:=trivial;have cS:aiC prog 194:=fun blk off cap zs w hH hb hl=>Any.slices_Sort_int Tryz.XB blk off cap zs w hH hb hl
 by_cases hz:zs=[]
 ·subst hz
  gi_wp2_with (first
   | (gi_at_call 193;refine cC.mono ?_;clear cC;rintro e w' ⟨v,rfl,hrow,hnil,hb⟩;obtain rfl:v=.slice none 0 0:=hnil.2 rfl)
   | (gi_at_call 194;refine (callsIn_wide.2 (Any.slices_Sort_int_none Tryz.XB _ _ _)).mono ?_;rintro e2 w2 ⟨rfl,rfl⟩))
  go_ret
  first|exact⟨_,rfl,hb,.inl rfl⟩|exact⟨_,rfl,hb,.inl ⟨rfl,rfl⟩⟩
 ·gi_wp2_with (gi_at_call 193;refine cC.mono ?_;clear cC;rintro e w' ⟨v,rfl,hrow,hnil,hb⟩;obtain⟨g,cap,cur,rfl,k1,k2,k3,k4,k5,k6⟩:∃g cap cur,v=.slice (some ⟨g,0,none⟩) zs.length cap∧w.heap.size<=g∧w'.heap[g]? = some (.cells cur 3 (0,0))∧zs.length<=cap∧cap<=maxLen∧cur.size=cap*1∧cur.toList.take (zs.length*1)=zs.map (Value.int .i64):=hrow.2.resolve_left (fun hv=>hz (hnil.1 hv.1)))
  rw[Nat.mul_one]at k5 k6;have hcur:∀j,j<zs.length->cur[j]? = some (.int .i64 (zs.getD j 0)):=by
   intro j hj;have:(cur.toList.take zs.length)[j]? = (zs.map (Value.int .i64))[j]?:=by rw[k6]
   rw[alS,if_pos hj,aln,amw]at this;rw[this];simp[List.getD,hj]
  have hH:Go.Sort.Holds (Value.int .i64) w' g 0 zs.toArray:=by
   intro j hj;simp only[amB]at hj;refine⟨?_,by simp[World.frozen?,k2]⟩;simp only[World.cell?,k2,amr];rw[hcur j hj];simp[List.getD,hj]
  have hlt:g<w'.heap.size:=(ams.1 k2).1
  gi_wp2_with (gi_at_call 194;refine (callsIn_wide.2 (cS g 0 cap zs w' hH hlt (by omega))).mono ?_;rintro e2 w2 ⟨rfl,q,os,rfl⟩)
  go_ret
  refine⟨_,rfl,?_,.inr ⟨g,cap,Go.Sort.putCells (Value.int .i64) 0 (sW zs).toArray cur,rfl,k1,?_,k3,k4,?_,fun j hj =>?_⟩⟩
  ·refine⟨hb.os,hb.tape,hb.output,als hb.size (by simp[Go.Sort.grow,Go.Sort.ahead]),fun k hk =>?_⟩;have hk':k<w'.heap.size:=alu hk hb.size;rw[Go.Sort.heap_grow_old _ _ (by simpa [Go.Sort.ahead] using hk'),Jc (by omega)];exact hb.block k hk
  ·rw[Go.Sort.heap_grow_old _ _ (by simpa [Go.Sort.ahead] using hlt)];exact S7 k2
  ·simp[Go.Sort.putCells,k5]
  ·rw[OX (by omega),if_pos (by rw[tI];omega),Nat.sub_zero]
def aaR:ck prog 174 (ej (dM (jX (eI .i64))) Pu (fun r =>.clean (.clo 195 0 [.ip [.sl false false r.length (an (eI .i64) r)]]))) where
 callable:=⟨_,func174,by kernel_rfl,by kernel_rfl⟩
 calls cc ds rk out n:=by
  obtain⟨rfl,rfl,l,r,rfl,o,rfl⟩:=wC n;cases o;intro w M i p a;have g:i.size=1:=a.size;rw[aes g];have q:=a.at_ 0 _ rfl;generalize i.getD 0 undef=u at *;have f:RP w M (.sl false false l.length (an (eI .i64) l)) u:=q;obtain⟨A,c,rfl,-⟩:=Ws f;refine (af8 A l.length c w).mono fun e B ⟨s,t⟩ =>?_;subst t;have k:Below w.heap.size w (w.alloc (.cells #[.slice A l.length c] 22)):=(Below.refl _ w).alloc (alq _) _;have v:∀b,b<w.heap.size->¬M b->b<(w.alloc (.cells #[.slice A l.length c] 22)).heap.size∧¬M b∧(w.alloc (.cells #[.slice A l.length c] 22)).heap[b]? = w.heap[b]?:=fun b y z=>⟨by simp;omega,z,k.block b y⟩;refine⟨_,s,k,RP.clo _ 0 _ [.pointer (some ⟨w.heap.size,0,none⟩)] rfl fun j x d =>?_⟩;cases j with
  | succ j=>simp at d
  | zero =>
   simp only[List.getElem?_cons_zero,alz]at d;subst d;refine RP.ip _ ⟨w.heap.size,0,none⟩ (fun _ =>.slice A l.length c) (fun _=>⟨w.heap.size,0,rfl,by simp,fun h=>by have:=p _ h;omega,fun j d =>?_⟩) (fun j x d =>?_) (fun x m =>?_)
   ·simp only[List.length_cons,List.length_nil]at d;have:j=0:=by omega
    subst this;exact (bm (heap_alloc_new w _) (j:=0) (by simp)).trans rfl
   ·cases j with
    | succ j=>simp at d
    | zero =>
     simp only[List.getElem?_cons_zero,alz]at d;subst d;exact f.keep v
   ·simp only[alM]at m;subst m;rfl
def aax:ck prog 173 (ej (dM (NO 195 0 (dM (YX (fL (eI .i64)))))) Gt (fun r =>.fresh 3 1 r.length (an (eI .i64) r))) where
 callable:=⟨_,func173,by kernel_rfl,by kernel_rfl⟩
 calls cc ds rk out O:=by
  obtain⟨rfl,rfl,l,r,rfl,s,rfl⟩:=wC O;unfold Gt at s;split at s;rotate_left
  ·cases s
  rename_i i;cases s;intro w M I hM h;have y:I.size=1:=h.size;rw[aes y];have P:=h.at_ 0 _ rfl;generalize I.getD 0 undef=u at *;have B:RP w M (.clo 195 0 [.ip [.sl false false l.length (an (eI .i64) l)]]) u:=P;cases B with
  | clo f kk xs t Q h2 =>
   have R:=h2 0 _ rfl;have C:t=[t.getD 0 undef]:=by
    match t,Q with
    | [x],_=>rfl
   rw[C];generalize t.getD 0 undef=q at *;cases R with
   | ip xs ad m h6 h7 h8 =>
    obtain⟨b,o,rfl,S,T,k⟩:=h6 (by simp);have a:=k 0 (by simp);rw[alZ]at a;have U:=h7 0 _ rfl;have V:Ints w.heap.size w (m 0) l:=by
     obtain⟨A,c,W,J,K,L,D⟩:=Ws U;rw[W]
     by_cases N:l=[]
     ·subst N;exact .inl ⟨A,c,rfl,rfl⟩
     ·obtain⟨X,Y,rfl,E,Z,F⟩:=D N;exact .inr ⟨X,Y,c,rfl,E,fun j n=>by rw[F j n];simp[List.getD]⟩
    refine (af0 b o (m 0) l i w S a V).mono fun e w' ⟨v,he,G,hv⟩ =>?_;refine⟨v,he,G,?_⟩;rcases hv with⟨rfl,rfl⟩|⟨g,H,cs,rfl,J,K,L,D,k5,k6⟩
    ·refine .inr ⟨?_,?_,none,rfl⟩
     ·rw[Nd];rfl
     ·rw[Nd];rfl
    ·refine .inl ⟨(g,0),H,cs,by rw[tI],.inl J,K,by rw[tI];exact L,D,by simp only;omega,by rw[tn,tI];simp only;omega,fun j d n =>?_⟩;have p:=(alT.1 n).1;rw[tn,tI]at p;rw[y9,alo]at n;obtain⟨z,hz,rfl⟩:=n;simp only[amr];rw[k6 j p];have:(sW l).getD j 0=z:=by simp[List.getD,hz]
     rw[this];exact⟨rfl,.int _ _⟩
end Go.Proofs.YtobnihfgnbnncaaGreat.Am
namespace Go.Proofs.YtobnihfgnbnncaaGreat.Am
open Go.RowKit Go.Proofs.YtobnihfgnbnncaaGreat.P
def QS {α:Type} (e:jr α):jr (List α):=⟨fun l=>[.nx l.length (an e l)],1,fun _=>rfl,by decide,fun x y h=>by
 simp only[alO,D.nx.injEq,and_true]at h;exact y8 e _ _ h.2⟩
def Af {α:Type} (e:jr α) (l:List α):(QS e).cells l=[.nx l.length (an e l)]:=an3
def CB {α:Type} (e:jr α):(QS e).size=1:=an3
section
variable {α:Type} (E:jr α) {l:List α} {i:Int} {x x':α}
def OY (a:List D) (o:Nat) (d:D) (h:o<a.length):(putCells a o [d]).length=a.length:=by
 simp[putCells];omega
def OZ (a:List D) (o:Nat) (d b:D) (h:o<a.length):putCells (putCells a o [d]) o [b]=putCells a o [b]:=by
 unfold putCells;have f:(a.take o).length=o:=by simp;omega
 have c:(a.take o++[d]++a.drop (o+[d].length)).take o=a.take o:=by
  simp_all
 have e:(a.take o++[d]++a.drop (o+[d].length)).drop (o+[b].length)=a.drop (o+[b].length):=by
  rw[anh (by simp;omega),amX (by simp;omega),amU];rfl
 rw[c,e]
def OI (a:Nat) (h:P.idx l i=some x) (b:a+1<=E.size):i.toNat*E.size+a<(an E l).length:=by
 have:=kR E h;rw[bS];omega
def S5 (a:Nat) (d c:D) (h:P.idx l i=some x) (e:E.cells x'=putCells (E.cells x) a [c]) (b:a+1<=E.size):putCells (putCells (an E l) (i.toNat*E.size+a) [d]) (i.toNat*E.size+a) [c]=an E (l.set i.toNat x'):=by
 rw[OZ _ _ _ _ (OI E a h b)];exact fE E a [c] h e b
def X7 (a:Nat) (d:D) (h:P.idx l i=some x) (b:a+1<=E.size):i.toNat*E.size+a+1<=(putCells (an E l) (i.toNat*E.size+a) [d]).length:=by
 rw[OY _ _ _ (OI E a h b)];exact OI E a h b
end
def M7 {t s a n o:Nat} {c:Bool} {b d:List D} : Js t s a c b o none (some (.nx n d))=[.nr t s a (putCells b o [.und])]:=an3
def XQ {α:Type} {E:jr α} {T:Nat->Option Ty} {el B ty' s f:Nat} {φ:Ty} {k:IntKind} {n:Int} {z:α} {m:List α} (o:T el=some φ) (p:qq φ f=E.cells z) (y:φ.size=E.size) (r:(φ.zero.map rH).all gN=true) (t:φ.zero.length=φ.size) (u:adt ((φ.zero.map rH).drop f).head? = true) (A:φ.bytes=B) (h:JV B n n z=some m)
  : ∀(b c:Nat) (i:List Value) (q:Bool) (e d:Nat),d<1000000->sM T ⟨.slice el,b,c,i,q⟩ e d ty' s f (.int k n) (.int k n)=some ⟨.buf d e φ.size 0 m.length,[(d,some ⟨e,el,[.nr ty' s (4*e+2) (an E m)],false,true,true⟩)]⟩:=by
 intro b c i q e d g;obtain⟨v,j,w,x,C⟩:=mk_one E h;have a:ur (.int k n)=some n.toNat:=by simp[ur,v]
 have l:=E.pos;unfold sM;simp only[o,a];rw[if_pos ⟨alq _,by rw[j];exact w,by simp_all,by omega,r,t,by rw[gh];exact g,u⟩,p,j,x]
def Lq {k:IntKind} {n:Int} : gN (.int k n)=true:=an3
def Qy {a b:Bool} {n:Nat} {c:List D} : gN (.sl a b n c)=true:=an3
def bJ {α β:Type} (A:kM α) (F:α->Option β) (R:β->Nat×Nat×Nat×Nat×Nat×List D):List D->Option (Nat×Nat×Nat×Nat×Nat×List D):=fun b=>open Classical in if h:∃a,A.ds a=b then (F (Classical.choose h)).map R else none
def ahC {α β:Type} (A:kM α) (F:α->Option β) (R:β->Nat×Nat×Nat×Nat×Nat×List D) (a:α):bJ A F R (A.ds a)=(F a).map R:=by
 have h:∃b,A.ds b=A.ds a:=⟨a,rfl⟩;simp only[bJ];rw[dif_pos h,A.inj _ _ (Classical.choose_spec h)]
def adj {α β:Type} {A:kM α} {F:α->Option β} {R:β->Nat×Nat×Nat×Nat×Nat×List D} {b:List D} {q:Nat×Nat×Nat×Nat×Nat×List D} (h:bJ A F R b=some q):∃a r,b=A.ds a∧F a=some r∧q=R r:=by
 unfold bJ at h;split at h
 ·rename_i c;rw[alo]at h;grind
 ·cases h
structure FOk (P:Program) (f:FuncId) (p:List D->Option (Nat×Nat×Nat×Nat×Nat×List D)):Prop where
 callable:fl P f
 calls:∀args ty t s S n cs,p args=some (ty,t,s,S,n,cs)->NG P f args ty t s S n cs
def FOk.of {P:Program} {T:Nat->Option Ty} {Γ:Env} (g:ke P T) (i:bV P Γ) (j:P.follows .mixedOrders=true) {α β:Type} {A:kM α} {F:α->Option β} {R:β->Nat×Nat×Nat×Nat×Nat×List D} {f:FuncId} {b:Func} (e:P.funcs[f]? = some b) (d:(match b.body with|some c=>codeOk c|none=>true)=true)
  (k:(b.name == "runtime.NumGoroutine")=false∧b.body.isNone=false) (l:∀a,(A.ds a).length<=b.ntmps) (h:∀a r,F a=some r->B5 T Γ FU b (A.ds a)=some (R r)):FOk P f (bJ A F R) where
 callable:=⟨b,e,k⟩
 calls args ty t s S n cs m:=by
  obtain⟨a,r,rfl,o,p⟩:=adj m;exact Pw g i j e d (l a) ((h a r o).trans (by rw[p]))
def Kk {α β γ:Type} (d t s:Nat) (c:jr γ) (A:kM α) (F:γ->α->Option (γ×β)) (R:β->D):Nat->Nat->Nat->Nat->List D->List D->Option (D×List D):=fun b e f o g a =>
 open Classical in if h:∃p:List D×List D×γ×α,b=d∧e=t∧f=s∧g=p.1++(c.cells p.2.2.1++p.2.1)∧o=p.1.length∧a=A.ds p.2.2.2 then
  (F (Classical.choose h).2.2.1 (Classical.choose h).2.2.2).map fun r=>(R r.2,(Classical.choose h).1++(c.cells r.1++(Classical.choose h).2.1)) else none
def OG {α β γ:Type} (c t s:Nat) (b:jr γ) (A:kM α) (F:γ->α->Option (γ×β)) (R:β->D) (pre post:List D) (x:γ) (a:α) :
  Kk c t s b A F R c t s pre.length (pre++(b.cells x++post)) (A.ds a)=(F x a).map fun r=>(R r.2,pre++(b.cells r.1++post)):=by
 have h:∃p:List D×List D×γ×α,c=c∧t=t∧s=s∧pre++(b.cells x++post)=p.1++(b.cells p.2.2.1++p.2.1)∧pre.length=p.1.length∧A.ds a=A.ds p.2.2.2:=⟨(pre,post,x,a),rfl,rfl,rfl,rfl,rfl,rfl⟩;obtain⟨_,_,_,d,e,f⟩:=Classical.choose_spec h;obtain⟨g,i⟩:=anb d e;obtain⟨j,k⟩:=anb i (by rw[b.len,b.len]);unfold Kk;rw[dif_pos h,<- g,<- k,<- b.inj _ _ j,<- A.inj _ _ f]
def Z6 {α β γ:Type} {f t s:Nat} {e:jr γ} {A:kM α} {F:γ->α->Option (γ×β)} {R:β->D} {ty' g i o:Nat} {j b:List D} {d:D} {c:List D} (h:Kk f t s e A F R ty' g i o j b=some (d,c)) :
  ty'=f∧g=t∧i=s∧∃pre post x a r,j=pre++(e.cells x++post)∧o=pre.length∧b=A.ds a∧F x a=some r∧d=R r.2∧c=pre++(e.cells r.1++post):=by
 unfold Kk at h;split at h
 ·rename_i k;obtain⟨l,m,n,p,q,u⟩:=Classical.choose_spec k;rw[alo]at h;obtain⟨r,v,w⟩:=h;grind
 ·cases h
structure NOk (P:Program) (f:FuncId) (p:Nat->Nat->Nat->Nat->List D->List D->Option (D×List D)):Prop where
 callable:fl P f
 calls:∀ty t s o cs args d cs',p ty t s o cs args=some (d,cs')->NH P f ty t s o cs args d cs'
def NOk.of {P:Program} {T:Nat->Option Ty} {Γ:Env} (k:ke P T) (l:bV P Γ) (m:P.follows .mixedOrders=true) {α β γ:Type} {i t s:Nat} {e:jr γ} {A:kM α} {F:γ->α->Option (γ×β)} {R:β->D} {f:FuncId} {b:Func} (j:P.funcs[f]? = some b) (g:(match b.body with|some c=>codeOk c|none=>true)=true)
  (n:(b.name == "runtime.NumGoroutine")=false∧b.body.isNone=false) (p:∀a,(A.ds a).length+1<=b.ntmps) (h:∀pre post x a x' r,F x a=some (x',r)->xQ T Γ FU b i t s pre.length (pre++(e.cells x++post)) (A.ds a)=some (R r,pre++(e.cells x'++post))):NOk P f (Kk i t s e A F R) where
 callable:=⟨b,j,n⟩
 calls ty' v w o cs args d cs' q:=by
  obtain⟨rfl,rfl,rfl,pre,post,x,a,r,rfl,rfl,rfl,u,rfl,rfl⟩:=Z6 q;exact Px k l m j g (p a) (h pre post x a r.1 r.2 u)
def S0 {α:Type} {x:Bool×α} {q:α} (h:SZ x=some q):x=(false,q):=by
 obtain⟨b,y⟩:=x;cases b
 ·cases h;rfl
 ·cases h
def TD {α:Type} {x:Bool×α} {q:α} (h:TC x=some q):x=(true,q):=by
 obtain⟨b,y⟩:=x;cases b
 ·cases h
 ·cases h;rfl
def aiO {α:Type} (E EN:jr α) (a:EN.size=E.size) (d:∀x y,E.cells x≠EN.cells y):jr (Bool×α):=⟨fun p=>match p.1 with|true=>E.cells p.2|false=>EN.cells p.2,E.size,fun p=>by
  obtain⟨b,x⟩:=p;cases b
  ·exact (EN.len x).trans a
  ·exact E.len x,E.pos,fun p q h=>by
  obtain⟨b,x⟩:=p;obtain⟨c,y⟩:=q;cases b<;>cases c
  ·exact congrArg (Prod.mk false) (EN.inj x y h)
  ·grind
  ·simp_all
  ·exact congrArg (Prod.mk true) (E.inj x y h)⟩
def L8 {α:Type} {a:jr α} {b:jr (Bool×α)} (c:∀x,b.cells (false,x)=a.cells x):∀l:List α,an a l=an b (L7 l)
 | []=>rfl
 | x::l=>by
  have d:=L8 c l;rw[ch,d,<- c x];rfl
def L9 {α:Type} {l:List α} : (L7 l).length=l.length:=alU ..
def HC {γ:Type} {E:jr γ} {C:List γ} {i:Int} {x:γ} (h:P.idx C i=some x) (y:γ):an E (C.set i.toNat y)=an E (C.take i.toNat)++(E.cells y++an E (C.drop (i.toNat+1)))∧(an E (C.take i.toNat)).length=i.toNat*E.size:=by
 have a:=oK h;refine⟨?_,by rw[bS,alI];congr 1;omega⟩;rw[VD E C i.toNat x (Oy h) y,<- ku,am8];congr 2;have:i.toNat*E.size+E.size=(i.toNat+1)*E.size:=by rw[amY]
 rw[this,qO]
def acq {γ:Type} {E:jr γ} {C:List γ} {i:Int} {x:γ} (h:P.idx C i=some x):an E C=an E (C.take i.toNat)++(E.cells x++an E (C.drop (i.toNat+1))):=by
 have a:=(HC (E:=E) h x).1;have b:C.set i.toNat x=C:=by
  obtain⟨c,d⟩:=alT.1 (Oy h);rw[<- d,List.set_getElem_self]
 rwa [b]at a
def XP {α β γ:Type} {c t s:Nat} {d:jr γ} {b:jr (Bool×γ)} (e:∀x,b.cells (false,x)=d.cells x) {A:kM α} {F:γ->α->Option (γ×β)} {R:β->D} {C:List (Bool×γ)} {i:Int} {q:γ} (h:P.idx C i=some (false,q)) (a:α) :
  Kk c t s d A F R c t s (i.toNat*b.size) (an b C) (A.ds a)=(F q a).map fun r=>(R r.2,an b (C.set i.toNat (false,r.1))):=by
 have f:=acq (E:=b) h;have g:=(HC (E:=b) h (false,q)).2;rw[f,<- g,e,OG];congr 1;funext r;rw[(HC (E:=b) h (false,r.1)).1,e]
def aeu {K:Nat} (pre a post:List D) (b:a.length=K):qp K pre.length (pre++(a++post))=pre++(a.map V4++post):=by
 apply anp;intro j;rw[xS];grind
def aiR {γ:Type} {s:Nat} {E b:jr γ} {a:jr (Bool×γ)} (c:∀x,a.cells (false,x)=b.cells x) (d:∀x,a.cells (true,x)=E.cells x) (e:∀x,(b.cells x).map V4=E.cells x) (k:∀x,(b.cells x).all (BQ s)=true) {C:List (Bool×γ)} {i:Int} {x:Bool×γ} (h:P.idx C i=some x) (q:γ) :
  (((an a (C.set i.toNat (false,q))).drop (i.toNat*a.size)).take a.size).all (BQ s)=true∧qp a.size (i.toNat*a.size) (an a (C.set i.toNat (false,q)))=an a (C.set i.toNat (true,q)):=by
 obtain⟨f,g⟩:=HC (E:=a) h (false,q);have j:=a.len (false,q);have l:=oK h;refine⟨?_,?_⟩
 ·grind
 ·rw[(HC (E:=a) h (true,q)).1,f,<- g,aeu _ _ _ j,c,e,d]
section
variable {pre l:List D} {k m:Nat}
def ael:(pre++l).take (pre.length+k)=pre++l.take k:=List.take_length_add_append ..
def YG:(pre++l).take pre.length=pre:=List.take_left' rfl
def UJ:(pre++l).drop (pre.length+k)=l.drop k:=List.drop_length_add_append ..
def W4:(pre++l).drop pre.length=l:=List.drop_left' rfl
def W5:(pre++l).drop (pre.length+k+m)=l.drop (k+m):=by rw[alK,UJ]
def ac1:(pre.length+k<=(pre++l).length)=(k<=l.length):=by simp_all
def XH:(pre.length+k+m<=(pre++l).length)=(k+m<=l.length):=by grind
end
def Sy {a t s b:Nat} {c:List D} : jS a t s b c=⟨0,a,[.nr t s b c],false,true,true⟩:=an3
def vnp:=ai @Sy<|ai @ael<|ai @YG<|ai @UJ<|ai @W4<|ai @W5<|ai @ac1<|ai @XH<|@am8
def RX {τ:Ty} {h:Nat->Option Row} {x v o:Nat} : vG τ h x v o none=none:=an3
def Xs {d:D} {l:List D} : (d::l).head? = some d:=an3
def Yb {r:Row} {f:Row->Option Row} : (some r).bind f=f r:=an3
def Qp {x o:Nat} : clP x o none=none:=an3
def PW {q:Option (List D×List Nat)} : caC none q=none:=an3
def K3 {Γ:Env} {h:Nat->Option Row} {e g:Nat} {dst:Option Nat} : aeW Γ h e dst g none=none:=an3
def aev {o:Nat} {a:List D} : qp 0 o a=a:=NC o a
def agf {x o n:Nat} (h:n<1000000):(NK x o=n)=False:=by
 have:=jv x o;have:=gh;grind
def Fz {g:Nat} : bk.lends g=false:=an3
def MD {g:Nat} {l:Option (D×Row)} {alj:List D} : bk.sem g l alj=none:=an3
def vnl:=ai @Fz<|@MD
def vn:=ai @M7<|ai @L9<|ai @agf<|ai @afm.eq_1<|ai @Qp<|ai @PW<|ai @K3<|ai @aev<|ai @Yb<|ai @RX<|ai @Xs<|ai @Af<|ai @Lq<|ai @Qy<|@CB
end Go.Proofs.YtobnihfgnbnncaaGreat.Am
namespace Go.Proofs.YtobnihfgnbnncaaGreat.Am
open Go.RowKit Go.Proofs.YtobnihfgnbnncaaGreat.P Go.Shelf Go.Lib
section
variable {P:Program}
def xL (w:World) (n q r c:TypeId) (K b o d g:Nat) (a:Addr) (e h:Nat) (f:List Value)
  (s:P.underlying n=some (.slice c)) (p:(P.info? c).map (·.size)=some K) (t:f.length=Nat.min e d*K)
  (k:∀j v,f[j]? = some v->w.cell? (a.add j)=some v) (u:∀j,j<f.length->(w.cell? ⟨b,o+j,none⟩).isSome=true) (x:∀j,j<f.length->w.frozen? ⟨b,o+j,none⟩=false) (y:∀v∈f,v.oneCell'=true) :
  (Builtin.copy_ #[n,q] r #[.slice (some ⟨b,o,none⟩) d g,.slice (some a) e h]).run P w=.ok (goInt (Nat.min e d)) (w.setCells b o f):=by
 have z:=run_loadCells_list (P:=P) w a f k;have l:=run_storeCells_cells (P:=P) b o f 0 w (by simpa using u) (by simpa using x) y;cases m:P.info? c with
 | none=>simp[m]at p
 | some i =>
  have A:i.size=K:=by simpa [m] using p
  simp[Builtin.copy_,run_underlying s,Builtin.lenOf,Builtin.firstCells,sizeOf,typeInfo,m,A,<- t,z,l]
def EK (w:World) {b:Array Oper} {rest:List Oper} {o:Oper} {a:Act} {Q:Exit->Act->World->Prop} (c:o.guard=none) (s:Operand) (t:TypeId)
  (f:o.op=.call { callee := .builtin .clear,args:=#[s],argTypes:=#[t] }) (v:Value) (g:a.eval s=v) {d:Value} {e:World}
  (i:(Builtin.clear_ #[t] o.type #[v]).run P w=.ok d e) (h:wpList P b Q rest (a.put o.dst d) e):wpList P b Q (o::rest) a w :=
 wpList_plain c fun _ j=>by
  unfold Oper.wp execOp;simp only[f,resolve,invoke,builtin,alW,Sem.run_pure,Result.andThen_ok,List.map_toArray,alw,amb,g,i];exact j _ _ h
def Tp (w:World) (t e g:TypeId) (z:Value) (h:P.underlying t=some (.slice e)) (i:∀w,(zeroValue e).run P w=.ok z w) (b o n c:Nat) (q:0<n) (a:List Value) (f:(Builtin.zeroCells z.cells n).toList=a) (k:∀v∈a,v.oneCell'=true)
  (l:∀j,j<a.length->(w.cell? ⟨b,o+j,none⟩).isSome=true) (p:∀j,j<a.length->w.frozen? ⟨b,o+j,none⟩=false) :
  (Builtin.clear_ #[t] g #[.slice (some ⟨b,o,none⟩) n c]).run P w=.ok (.tuple #[]) (w.setCells b o a):=by
 have d:=run_storeCells_cells (P:=P) b o a 0 w (by simpa using l) (by simpa using p) k;simp only[Nat.add_zero]at d;obtain⟨m,rfl⟩:∃m,n=m+1:=⟨n-1,by omega⟩;simp[Builtin.clear_,run_underlying h,i,f,d]
end
def Oz:(Tryz.prog.info? 130).map (fun i=>(i.zero,i.size,i.bytes))=some (some (Value.agg #[.int .i64 0,.int .i64 0,.slice none 0 0,.int .i64 0,.slice none 0 0]),5,72):=by kernel_rfl
def adP:(Tryz.prog.info? 130).map (·.size)=some 5:=by kernel_rfl
set_option maxHeartbeats 4000000 in
set_option maxRecDepth 100000 in
def Qz (a:Option Addr) (n c i:Nat) (w:World) (hi:i<=n) (hn:n<=c) (hc:c<=9223372036854775807) (ha:a=none->c=0) :
  Calls prog 138 #[.slice a n c,.int .i64 i,.int .i64 i] w fun e w'=>e=.returned (.slice a n c)∧w'=w:=by
 go_enter func138,ntmps138
 cases a with
 | none =>
  have:=ha rfl;subst this;obtain rfl:n=0:=by omega
  obtain rfl:i=0:=by omega
  go_wp2
  all_goals (go_ret;simp_all)
 | some a =>
  obtain⟨ab,ao,asp⟩:=a
  go_wp2
  all_goals (go_ret;simp_all)
def pn:Value := .agg #[.int .i64 0,.int .i64 0,.slice none 0 0,.int .i64 0,.slice none 0 0]
def FQ:pn.cells = #[.int .i64 0,.int .i64 0,.slice none 0 0,.int .i64 0,.slice none 0 0]:=rfl
def rl (n:Nat):(Builtin.zeroCells pn.cells n).toList.length=n*5:=by
 simp[Builtin.zeroCells,FQ]
def aaY (n:Nat):∀v∈(Builtin.zeroCells pn.cells n).toList,v.oneCell'=true:=by
 intro v a;simp only[Builtin.zeroCells,FQ,ame,alp]at a;obtain⟨i,_,rfl⟩:=a;have b:i % 5<5:=amf _ (by decide);simp only[amB,List.length_cons,List.length_nil,amr,Nat.reduceAdd];generalize i % 5=k at *
 match k,b with
 | 0,_=>rfl
 | 1,_=>rfl
 | 2,_=>rfl
 | 3,_=>rfl
 | 4,_=>rfl
set_option maxHeartbeats 4000000 in
set_option maxRecDepth 100000 in
def abX (b off n c i j:Nat) (cs:List Value) (w:World) (hl:cs.length=n*5) (hcs:∀k v,cs[k]? = some v->w.cell? ⟨b,off+k,none⟩=some v) (hfz:∀k,w.frozen? ⟨b,k,none⟩=false) (h1:∀v∈cs,v.oneCell'=true)
  (hnc:n<=c) (hc:c<=9223372036854775807) (hij:i<j) (hj:j<=n) :
  Calls prog 138 #[.slice (some ⟨b,off,none⟩) n c,.int .i64 i,.int .i64 j] w fun e w'=>e=.returned (.slice (some ⟨b,off,none⟩) (i+(n-j)) c) ∧
   w'=(w.drew.setCells b (off+i*5) (cs.drop (j*5))).setCells b (off+(i+(n-j))*5) (Builtin.zeroCells pn.cells (n-(i+(n-j)))).toList:=by
 have t0:=underlying126;obtain⟨i0,hi0,hz0,hz1,hz2⟩:=info_parts Oz;have v0:∀w,(zeroValue 130).run prog w=.ok pn w:=fun w=>by simp[zeroValue,typeInfo,hi0,hz0,pn]
 obtain⟨A,hA,hsrc⟩:∃A:Addr,(if c=j then some (⟨b,off,none⟩:Addr) else some ⟨b,off+j*5,none⟩)=some A∧Hid (∀t u,(cs.drop (j*5))[t]? = some u->w.drew.cell? (A.add t)=some u):=by
  by_cases h:c=j
  ·refine⟨⟨b,off,none⟩,by simp[h],fun t u hu =>?_⟩;grind
  ·refine⟨⟨b,off+j*5,none⟩,by simp[h],fun t u hu =>?_⟩;rw[alP]at hu;rw[an2,alK];exact hcs _ _ hu
 have hdl:(cs.drop (j*5)).length=(n-j)*5:=by grind
 have hsp:∀k,k<n*5->(w.cell? ⟨b,off+k,none⟩).isSome=true:=fun k hk=>by
  simp_all
 have s1:Hid ((cs.drop (j*5)).length=(n-j)*5):=hdl;have s2:Hid (∀u∈cs.drop (j*5),u.oneCell'=true):=fun u hu=>h1 u (al4 hu);have s3:Hid (∀t,t<(cs.drop (j*5)).length->(w.drew.cell? ⟨b,off+i*5+t,none⟩).isSome=true∧w.drew.frozen? ⟨b,off+i*5+t,none⟩=false):=by
  intro t ht;rw[hdl]at ht;rw[alK];exact⟨hsp _ (by omega),hfz _⟩
 obtain⟨W1,hW1⟩:∃W1,W1=w.drew.setCells b (off+i*5) (cs.drop (j*5)):=⟨_,rfl⟩;have hcl:∀ty,(Builtin.clear_ #[126] ty #[.slice (some ⟨b,off+(i+(n-j))*5,none⟩) (n-(i+(n-j))) (c-(i+(n-j)))]).run prog W1=.ok (.tuple #[]) (W1.setCells b (off+(i+(n-j))*5) (Builtin.zeroCells pn.cells (n-(i+(n-j)))).toList) :=
  fun ty=>Tp W1 _ _ ty pn t0 v0 b _ _ _ (by omega) _ rfl (aaY _) (fun k hk=>by
   rw[rl]at hk;rw[hW1,alK];exact isSome_setCells b _ _ _ (fun t ht=>(s3.out t ht).1) _ (hsp _ (by omega))) (fun k hk=>by rw[hW1,World.frozen?_setCells];exact hfz _)
 have hW:Hid (W1=w.drew.setCells b (off+i*5) (cs.drop (j*5))):=hW1;rw[<- hW1];have hic:i<=c:=by omega
 have hjc:j<=c:=by omega
 have hne:¬(i=j):=by omega
 have mixed:Tryz.prog.follows .mixedOrders=true:=by kernel_rfl
 generalize (Builtin.zeroCells pn.cells (n-(i+(n-j)))).toList=Z at hcl ⊢;clear hW1 hcs hdl hsp
 go_enter func138,ntmps138
 go_wp2_with fail
 go_region_law_o (refine step_append_room rfl (.tmp 22) (.tmp 25) 126 rfl 130 i0 5 t0 hi0 hz1 b off i c (by simp[Act.eval,Act.put]) A (n-j) (c-j) (cs.drop (j*5)) (by simp[Act.eval,Act.put]) s1.out hsrc.out s2.out (by omega) s3.out ?_;rw[<- hW.out])
 go_wp2_with (at_builtin;refine EK _ rfl _ 126 rfl _ rfl (hcl _) ?_)
 go_ret
 simp_all
set_option maxHeartbeats 4000000 in
set_option maxRecDepth 100000 in
def ZO (b off n c i vb voff m vc:Nat) (cs vs:List Value) (w:World) (hi:i<n) (hm:0<m) (hroom:n+m<=c) (hc63:c<=9223372036854775807) (hvb:vb≠b)
  (hcl:cs.length=n*5) (hvl:vs.length=m*5)
  (hcs:∀j v,cs[j]? = some v->w.cell? ⟨b,off+j,none⟩=some v) (hsp:∀j,j<(n+m)*5->(w.cell? ⟨b,off+j,none⟩).isSome=true) (hfz:∀j,w.frozen? ⟨b,j,none⟩=false)
  (hvs:∀j v,vs[j]? = some v->w.cell? ⟨vb,voff+j,none⟩=some v) (h1c:∀v∈cs,v.oneCell'=true) (h1v:∀v∈vs,v.oneCell'=true)
  (tA tB:TypeId) (kA kB:Nat) (hsa:w.shape? vb=some (tA,kA)) (hsb:w.shape? b=some (tB,kB)) (hkB:kB≠0) (hfa:w.frozen? ⟨vb,voff,none⟩=false) (hfe:w.frozen? ⟨vb,kA,none⟩=false) :
  Calls prog 179 #[.slice (some ⟨b,off,none⟩) n c,.int .i64 i,.slice (some ⟨vb,voff,none⟩) m vc] w fun e w' =>
   e=.returned (.slice (some ⟨b,off,none⟩) (n+m) c)∧w'=(w.drew.setCells b (off+(i+m)*5) (cs.drop (i*5))).setCells b (off+i*5) vs:=by
 have t0:=underlying126;have hz1:¬((m:Int)=0):=by omega
 have hz2:¬((i:Int)=(n:Int)):=by omega
 have hsz:=adP;have hov:∀lb cb,(callFunc 196 #[.slice (some ⟨vb,voff,none⟩) m vc,.slice (some ⟨b,off+(i+m)*5,none⟩) lb cb]).run prog w=.ok (.value (.bool false)) w:=fun lb cb=>by
  rw[run_callFunc_extern func196 (by kernel_rfl) (by kernel_rfl) (by kernel_rfl) (e:=Extern.SlicesOverlaps.overlaps #[126,126] #[4]) (by kernel_rfl),
   Lib.run_overlaps_apart w 126 4 130 t0 5 sizeOf130 ⟨vb,voff,none⟩ ⟨b,off+(i+m)*5,none⟩ m vc lb cb hvb tA tB kA kB hsa hsb hkB hfa hfe]
  rfl
 have hdl:(cs.drop (i*5)).length=(n-i)*5:=by grind
 have mixed:Tryz.prog.follows .mixedOrders=true:=by kernel_rfl
 have hw1:IntKind.i64.wrap ((i:Int)+(m:Int))=(i:Int)+(m:Int):=by rw[IntKind.wrap_i64];omega
 have hb1:(0:Int)<=(i:Int)+(m:Int):=by omega
 have hin:i<=n:=by omega
 have htn:((i:Int)+(m:Int)).toNat=i+m:=by omega
 have hb2:¬(c=i+m):=by omega
 have hb3:(i:Int)<=(n:Int)+(m:Int):=by omega
 have hb4:¬(c=i):=by omega
 have hcp1:∀ty dc sc,(Builtin.copy_ #[126,126] ty #[.slice (some ⟨b,off+(i+m)*5,none⟩) (n+m-(i+m)) dc,.slice (some ⟨b,off+i*5,none⟩) (n+m-i) sc]).run prog w.drew=.ok (goInt (Nat.min (n+m-i) (n+m-(i+m)))) (w.drew.setCells b (off+(i+m)*5) (cs.drop (i*5))):=fun ty dc sc =>
  xL w.drew _ _ ty 130 5 b (off+(i+m)*5) (n+m-(i+m)) dc ⟨b,off+i*5,none⟩ (n+m-i) sc (cs.drop (i*5)) t0 hsz (by grind)
   (fun j v hj=>by rw[an2,alK];simp_all)
   (fun j hj=>by rw[alK];exact hsp _ (by omega)) (fun j hj=>hfz _) (fun v hv=>h1c v (al4 hv))
 obtain⟨W1,hW1⟩:∃W1,W1=w.drew.setCells b (off+(i+m)*5) (cs.drop (i*5)):=⟨_,rfl⟩;have hsp1:∀k,k<(n+m)*5->(W1.cell? ⟨b,off+k,none⟩).isSome=true:=fun k hk=>by
  rw[hW1];exact isSome_setCells b _ _ _ (fun j hj=>by rw[alK];exact hsp _ (by omega)) _ (hsp k hk)
 have hcp2:∀(W:World),(∀x,W.cell? x=W1.cell? x)->(∀x,W.frozen? x=W1.frozen? x)->∀ty dc,(Builtin.copy_ #[126,126] ty #[.slice (some ⟨b,off+i*5,none⟩) (n+m-i) dc,.slice (some ⟨vb,voff,none⟩) m vc]).run prog W=.ok (goInt (Nat.min m (n+m-i))) (W.setCells b (off+i*5) vs):=fun W hWc hWf ty dc =>
  xL W _ _ ty 130 5 b (off+i*5) (n+m-i) dc ⟨vb,voff,none⟩ m vc vs t0 hsz (by grind)
   (fun j v hj=>by
    rw[an2,hWc,hW1,World.cell?_setCells_out b _ _ _ _ (fun h _=>absurd h hvb)];exact hvs j v hj)
   (fun j hj=>by rw[hWc,alK];exact hsp1 _ (by omega)) (fun j hj=>by rw[hWf,hW1,World.frozen?_setCells];exact hfz _) h1v
 rw[<- hW1]at hcp1
 go_enter func179,ntmps179
 go_wp2_with (simp only[hov])
 go_region_law_o (refine step_copy_runI rfl _ _ 126 126 rfl _ _ (by simp[Act.eval,Act.put]) (by simp[Act.eval,Act.put]) (hcp1 _ _ _) ?_)
 go_wp2_with (at_builtin;refine wpList_copy_runI _ rfl _ _ 126 126 rfl _ _ rfl rfl (hcp2 _ (fun _=>rfl) (fun _=>rfl) _ _) ?_)
 go_ret
 simp_all
set_option maxHeartbeats 4000000 in
set_option maxRecDepth 100000 in
def OB (b off n c vb voff m vc:Nat) (vs:List Value) (w:World) (hm:0<m) (hroom:n+m<=c) (hc63:c<=9223372036854775807)
  (hvl:vs.length=m*5) (hsp:∀j,j<m*5->(w.cell? ⟨b,off+n*5+j,none⟩).isSome=true) (hfz:∀j,w.frozen? ⟨b,j,none⟩=false)
  (hvs:∀j v,vs[j]? = some v->w.cell? ⟨vb,voff+j,none⟩=some v) (h1v:∀v∈vs,v.oneCell'=true) :
  Calls prog 179 #[.slice (some ⟨b,off,none⟩) n c,.int .i64 n,.slice (some ⟨vb,voff,none⟩) m vc] w fun e w' =>
   e=.returned (.slice (some ⟨b,off,none⟩) (n+m) c)∧w'=w.setCells b (off+n*5) vs:=by
 have t0:=underlying126;have mixed:Tryz.prog.follows .mixedOrders=true:=by kernel_rfl
 obtain⟨i0,hi0,hz0,hzs,hzb⟩:=info_parts Oz;have hz1:¬((m:Int)=0):=by omega
 have hsrc:Src prog i0.size 126 (.slice (some ⟨vb,voff,none⟩) m vc) m vs w:=Src.ofSlice w t0 ⟨vb,voff,none⟩ m vc vs (by rw[hzs];omega) (fun j u hj=>by rw[an2];exact hvs j u hj) h1v;have e5:off+n*i0.size=off+n*5:=by rw[hzs]
 have hsp':Hid (∀j,j<vs.length->(w.cell? ⟨b,off+n*i0.size+j,none⟩).isSome=true):=fun j hj=>by simp_all
 rw[<- e5];have hin:n<=c:=by omega
 go_enter func179,ntmps179
 go_wp2_with (at_builtin;refine wpList_append_room_src _ rfl _ _ 126 126 rfl 130 i0 t0 hi0 b off n c rfl _ rfl m vs hsrc hroom hsp'.out (fun _ _=>hfz _) ?_)
 go_ret
 simp_all
set_option maxHeartbeats 4000000 in
set_option maxRecDepth 100000 in
def CV (base:Option Addr) (n c vb voff m vc:Nat) (cs vs:List Value) (w:World) (hm:0<m) (hnc:n<=c) (hc63:c<=9223372036854775807) (hroom:c<n+m) (hbig:(n+m)*72<=140737488355328)
  (hcl:cs.length=n*5) (hvl:vs.length=m*5) (hnil:base=none->n=0)
  (hcs:∀a,base=some a->∀j v,cs[j]? = some v->w.cell? (a.add j)=some v)
  (hvs:∀j v,vs[j]? = some v->w.cell? ⟨vb,voff+j,none⟩=some v) (h1v:∀v∈vs,v.oneCell'=true) :
  Calls prog 179 #[.slice base n c,.int .i64 n,.slice (some ⟨vb,voff,none⟩) m vc] w fun e w' =>
   e=.returned (.slice (some ⟨w.heap.size,0,none⟩) (n+m) (grownCap w (n+m) c 130)) ∧
   w'=w.drew.alloc (.cells ((cs++vs).toArray++Builtin.zeroCells pn.cells (grownCap w (n+m) c 130-(n+m))) 130):=by
 have t0:=underlying126;have mixed:Tryz.prog.follows .mixedOrders=true:=by kernel_rfl
 obtain⟨i0,hi0,hz0,hzs,hzb⟩:=info_parts Oz;have hz1:¬((m:Int)=0):=by omega
 have hsrc:Src prog i0.size 126 (.slice (some ⟨vb,voff,none⟩) m vc) m vs w:=by
  rw[hzs];exact Src.ofSlice w t0 ⟨vb,voff,none⟩ m vc vs (by omega) (fun j u hj=>by rw[an2];exact hvs j u hj) h1v
 have hold:(Builtin.firstCells i0.size n (.slice base n c)).run prog w.drew=.ok cs.toArray w.drew:=by
  rw[hzs];cases base with
  | none =>
   have h0:=hnil rfl;subst h0;obtain rfl:cs=[]:=List.length_eq_zero_iff.1 (by omega);exact run_firstCells_none w.drew 5 0 0 c
  | some a=>exact run_firstCells_some w.drew 5 n a n c cs (by omega) (fun j v hj=>hcs a rfl j v hj)
 have hrun:∀ty,(Builtin.append_ #[126,126] ty #[.slice base n c,.slice (some ⟨vb,voff,none⟩) m vc]).run prog w=_:=fun ty =>
  run_append_grow_src w 126 126 ty 130 i0 _ t0 hi0 hz0 base n c cs hold _ m vs hsrc hroom (by omega) (by rw[hzb];exact growslice_fits hroom hbig)
 generalize hR:w.drew.alloc (.cells ((cs++vs).toArray++Builtin.zeroCells pn.cells (grownCap w (n+m) c 130-(n+m))) 130)=R;have hrun':∀ty,(Builtin.append_ #[126,126] ty #[.slice base n c,.slice (some ⟨vb,voff,none⟩) m vc]).run prog w=.ok (.slice (some ⟨w.heap.size,0,none⟩) (n+m) (grownCap w (n+m) c 130)) R:=fun ty=>by rw[hrun ty,<- hR];rfl
 clear hrun hold hR
 go_enter func179,ntmps179
 cases base with
 | none =>
  have h0:=hnil rfl;subst h0
  go_wp2_with (at_builtin;refine Lib.wpList_append_run _ rfl _ _ _ _ rfl _ _ rfl rfl _ _ (hrun' _) ?_)
  go_ret
  simp_all
 | some a =>
  obtain⟨ab,ao,asp⟩:=a
  go_wp2_with (at_builtin;refine Lib.wpList_append_run _ rfl _ _ _ _ rfl _ _ rfl rfl _ _ (hrun' _) ?_)
  all_goals (go_ret;simp_all)
set_option maxHeartbeats 4000000 in
set_option maxRecDepth 100000 in
def acS (b off n c i vb voff m vc:Nat) (cs vs:List Value) (w:World) (hi:i<n) (hm:0<m) (hnc:n<=c) (hroom:c<n+m) (hbig:(n+m)*72<=140737488355328)
  (hcl:cs.length=n*5) (hvl:vs.length=m*5)
  (hcs:∀j v,cs[j]? = some v->w.cell? ⟨b,off+j,none⟩=some v)
  (hvs:∀j v,vs[j]? = some v->w.cell? ⟨vb,voff+j,none⟩=some v) (h1c:∀v∈cs,v.oneCell'=true) (h1v:∀v∈vs,v.oneCell'=true) :
  Calls prog 179 #[.slice (some ⟨b,off,none⟩) n c,.int .i64 i,.slice (some ⟨vb,voff,none⟩) m vc] w fun e w' =>
   e=.returned (.slice (some ⟨w.heap.size,0,none⟩) (n+m) (grownCap w (n+m) c 130)) ∧
   w'=(((w.alloc (.cells ((cs.take (i*5)).toArray++Builtin.zeroCells pn.cells (n+m-i)++Builtin.zeroCells pn.cells (grownCap w (n+m) c 130-(n+m))) 130)).drew.setCells w.heap.size (i*5) vs).drew).setCells w.heap.size ((i+m)*5) (cs.drop (i*5)):=by
 have t0:=underlying126;have mixed:Tryz.prog.follows .mixedOrders=true:=by kernel_rfl
 obtain⟨i0,hi0,hz0,hzs,hzb⟩:=info_parts Oz;have hz1:¬((m:Int)=0):=by omega
 have hz2:¬((i:Int)=(n:Int)):=by omega
 have hz3:(c:Int)<(n:Int)+(m:Int):=by omega
 have hsz:=adP;have hbw:b<w.heap.size:=block_lt_of_cell (hcs 0 _ (alE (by omega)));have hvw:vb<w.heap.size:=block_lt_of_cell (hvs 0 _ (alE (by omega)));have hkk:(n:Int)+(m:Int)-(i:Int)=((n+m-i:Nat):Int):=by omega
 have hik:i+(n+m-i)=n+m:=by omega
 have hold:(Builtin.firstCells i0.size i (.slice (some ⟨b,off,none⟩) i c)).run prog w.drew=.ok (cs.take (i*5)).toArray w.drew:=by
  rw[hzs];exact run_firstCells_some w.drew 5 i ⟨b,off,none⟩ i c (cs.take (i*5)) (by grind) (fun j v hj=>by
   rw[an2];rw[alS]at hj;simp_all)
 obtain⟨G,hG⟩:∃G,G=grownCap w (n+m) c 130:=⟨_,rfl⟩;obtain⟨ROW,hROW⟩:∃ROW:Array Value,ROW=(cs.take (i*5)).toArray++Builtin.zeroCells pn.cells (n+m-i)++Builtin.zeroCells pn.cells (G-(n+m)):=⟨_,rfl⟩;have hrz:∀ty,(Builtin.append_ #[126,3] ty #[.slice (some ⟨b,off,none⟩) i c,.int .i64 ((n:Int)+(m:Int)-(i:Int))]).run prog w =
   .ok (.slice (some ⟨w.heap.size,0,none⟩) (n+m) G) (w.drew.alloc (.cells ROW 130)):=fun ty=>by
  have h:=Lib.run_append_grow_zeros w 126 3 ty 130 i0 pn .i64 .i64 t0 underlying3 hi0 hz0 (some ⟨b,off,none⟩) i c (cs.take (i*5)) hold (n+m-i) (by omega) (by omega) (by omega) (by omega) (by rw[hzb];omega) (by rw[hzb,hik];exact growslice_fits hroom hbig);simp_all
 rw[<- hG];rw[<- hROW];have hRl:(n+m)*5<=ROW.size:=by
  have h1:(Builtin.zeroCells pn.cells (n+m-i)).size=(n+m-i)*5:=by have:=rl (n+m-i);simpa using this
  grind
 obtain⟨W1,hW1⟩:∃W1,W1=w.drew.alloc (.cells ROW 130):=⟨_,rfl⟩;rw[<- hW1]at hrz;have hN:∀j,j<(n+m)*5->(W1.cell? ⟨w.heap.size,j,none⟩).isSome=true:=fun j hj=>by
  rw[hW1,World.cell?_alloc_at (w:=w.drew) ROW _ w.heap.size j rfl,amy (by omega)];rfl
 have hNf:∀j,W1.frozen? ⟨w.heap.size,j,none⟩=false:=fun j=>by rw[hW1];exact World.frozen?_alloc_at (w:=w.drew) ROW _ w.heap.size j rfl
 have hOb:∀j v,w.cell? ⟨b,j,none⟩=some v->W1.cell? ⟨b,j,none⟩=some v:=fun j v h=>by rw[hW1,World.cell?_alloc_past (w:=w.drew) _ b j hbw];exact h
 have hOv:∀j v,w.cell? ⟨vb,j,none⟩=some v->W1.cell? ⟨vb,j,none⟩=some v:=fun j v h=>by rw[hW1,World.cell?_alloc_past (w:=w.drew) _ vb j hvw];exact h
 have hcpA:∀(W:World),(∀x,W.cell? x=W1.cell? x)->(∀x,W.frozen? x=W1.frozen? x)->∀ty dc,(Builtin.copy_ #[126,126] ty #[.slice (some ⟨w.heap.size,i*5,none⟩) (n+m-i) dc,.slice (some ⟨vb,voff,none⟩) m vc]).run prog W=.ok (goInt (Nat.min m (n+m-i))) (W.setCells w.heap.size (i*5) vs):=fun W hWc hWf ty dc =>
  xL W _ _ ty 130 5 w.heap.size (i*5) (n+m-i) dc ⟨vb,voff,none⟩ m vc vs t0 hsz (by grind)
   (fun j v hj=>by rw[an2,hWc];simp_all)
   (fun j hj=>by grind) (fun j hj=>by simp_all) h1v
 have hGn:n+m<=G:=by rw[hG];exact grownCap_ge w _ _ _
 have hG63:G<=9223372036854775807:=by
  have:=grownCap_le_maxLen w (n+m) c 130 (by unfold maxLen;omega);rw[<- hG]at this;unfold maxLen at this;omega
 have hGi:¬(G=i):=by omega
 have hGim:¬(G=i+m):=by omega
 have hci:¬(c=i):=by omega
 have hbN:b≠w.heap.size:=by omega
 have hdl:(cs.drop (i*5)).length=(n-i)*5:=by grind
 have hcpB:∀(W:World),(∀x,W.cell? x=(W1.setCells w.heap.size (i*5) vs).cell? x)->(∀x,W.frozen? x=(W1.setCells w.heap.size (i*5) vs).frozen? x)->∀ty dc sc,(Builtin.copy_ #[126,126] ty #[.slice (some ⟨w.heap.size,(i+m)*5,none⟩) (n+m-(i+m)) dc,.slice (some ⟨b,off+i*5,none⟩) (n-i) sc]).run prog W=.ok (goInt (Nat.min (n-i) (n+m-(i+m)))) (W.setCells w.heap.size ((i+m)*5) (cs.drop (i*5))):=fun W hWc hWf ty dc sc =>
  xL W _ _ ty 130 5 w.heap.size ((i+m)*5) (n+m-(i+m)) dc ⟨b,off+i*5,none⟩ (n-i) sc (cs.drop (i*5)) t0 hsz (by grind)
   (fun j v hj=>by
    rw[an2,hWc,World.cell?_setCells_out _ _ _ _ _ (fun h _=>absurd h hbN),alK];simp_all)
   (fun j hj=>by rw[hWc];exact isSome_setCells _ _ _ _ (fun t ht=>hN _ (by omega)) _ (hN _ (by omega)))
   (fun j hj=>by rw[hWf,World.frozen?_setCells];exact hNf _) (fun v hv=>h1c v (al4 hv))
 subst hW1;have hE1:∀x,((w.alloc (.cells ROW 130)).drew).cell? x=(w.drew.alloc (.cells ROW 130)).cell? x:=fun x=>rfl;have hE2:∀x,((w.alloc (.cells ROW 130)).drew).frozen? x=(w.drew.alloc (.cells ROW 130)).frozen? x:=fun x=>rfl;have hF1:∀x,(((w.alloc (.cells ROW 130)).drew.setCells w.heap.size (i*5) vs).drew).cell? x=((w.drew.alloc (.cells ROW 130)).setCells w.heap.size (i*5) vs).cell? x:=fun x=>rfl;have hF2:∀x,(((w.alloc (.cells ROW 130)).drew.setCells w.heap.size (i*5) vs).drew).frozen? x=((w.drew.alloc (.cells ROW 130)).setCells w.heap.size (i*5) vs).frozen? x:=fun x=>rfl;have hw1:IntKind.i64.wrap ((i:Int)+(m:Int))=(i:Int)+(m:Int):=by rw[IntKind.wrap_i64];omega
 have hb1:(0:Int)<=(i:Int)+(m:Int):=by omega
 have hin:i<=n:=by omega
 have htn:((i:Int)+(m:Int)).toNat=i+m:=by omega
 have hb3:(i:Int)<=(n:Int):=by omega
 clear hkk hik hold hROW hG hRl
 go_enter func179,ntmps179
 go_wp2_with (first
  | (at_builtin;refine Lib.wpList_append_run _ rfl _ _ _ _ rfl _ _ rfl rfl _ _ (hrz _) ?_)
  | (at_builtin;refine wpList_copy_runI _ rfl _ _ 126 126 rfl _ _ rfl rfl (hcpA _ hE1 hE2 _ _) ?_)
  | (at_builtin;refine wpList_copy_runI _ rfl _ _ 126 126 rfl _ _ rfl rfl (hcpB _ (fun _=>rfl) (fun _=>rfl) _ _ _) ?_))
 go_region_law_o (refine step_copy_runI rfl _ _ 126 126 rfl (.slice (some ⟨w.heap.size,(i+m)*5,none⟩) (n+m-(i+m)) (G-(i+m))) (.slice (some ⟨b,off+i*5,none⟩) (n-i) (c-i)) (by simp[Act.eval,Act.put]) (by simp[Act.eval,Act.put]) (hcpB _ hF1 hF2 3 (G-(i+m)) (c-i)) ?_)
 go_wp2
 go_ret
 simp_all
end Go.Proofs.YtobnihfgnbnncaaGreat.Am
namespace Go.Proofs.YtobnihfgnbnncaaGreat.Am
open Go.RowKit Go.Proofs.YtobnihfgnbnncaaGreat.P
def afj:aa5 prog 179 (130,5,72) where
 callable:=⟨_,func179,by kernel_rfl,by kernel_rfl⟩
 pos:=by decide
 calls w go S u u' i n m cs cs' h1 h2 T U o ho p hi hm z:=by
  simp only at *;obtain⟨l,F,H,rfl,rfl,N,b2,b3,b4,b5⟩:∃g c arr,S=some g∧u'=.slice (some ⟨g.1,g.2,none⟩) m c∧w.heap[g.1]? = some (.cells arr 130 (0,0))∧c*5+g.2=arr.size∧m<=c∧c<=maxLen∧∀(j:Nat) x,cs'[j]? = some x->arr[g.2+j]? = some x:=by
   rcases h2 with⟨g,c,arr,k⟩|⟨_,rfl,_⟩
   ·simp_all
   ·omega
  have q:∀(j:Nat) v,cs'[j]? = some v->w.cell? ⟨l.1,l.2+j,none⟩=some v:=fun j v d=>by simp[World.cell?,N,b5 j v d]
  rcases h1 with⟨g,c,arr,rfl,rfl,C,a2,a3,O,a5⟩|⟨rfl,rfl,rfl,A,rfl⟩
  ·have D:∀(j:Nat) v,cs[j]? = some v->w.cell? ⟨g.1,g.2+j,none⟩=some v:=fun j v d=>by simp[World.cell?,C,a5 j v d]
   have I:∀j,w.frozen? ⟨g.1,j,none⟩=false:=fun j=>by simp[World.frozen?,C]
   have V:g.1≠l.1:=T g l rfl rfl;have ai:g.1<w.heap.size:=(ams.1 C).1;have hsp:∀j,j<(n+m)*5->n+m<=c->(w.cell? ⟨g.1,g.2+j,none⟩).isSome=true:=fun j d hr=>by
    simp only[World.cell?,C];grind
   by_cases W:i=n
   ·subst W;have ht:cs.take (i*5)=cs:=am4 (by omega);have hd:cs.drop (i*5)=[]:=amX (by omega);rw[ht,hd,am6]
    by_cases b:i+m<=c
    ·refine (OB g.1 g.2 i c l.1 l.2 m F cs' w hm b (by unfold maxLen at O;omega) o (fun j d=>by grind) I q p).mono fun e P ⟨t,y⟩ =>?_;subst y;obtain⟨J,K,L,e4,e5,f,M,e7,Q⟩:=iR g.1 cs' (g.2+i*5) w arr C (by omega);refine⟨_,t,⟨J,K,L,by omega,fun k X hn=>e5 k (fun h=>hn ⟨g,rfl,h⟩)⟩,g,c,f,rfl,.inr ⟨g,rfl,rfl⟩,M,b,O,by omega,fun j x d =>?_⟩;grind
    ·refine (CV (some ⟨g.1,g.2,none⟩) i c l.1 l.2 m F cs cs' w hm a3 (by omega) (by omega) z U o (fun h=>by cases h) (fun a ha j v d=>by cases ha;rw[an2];exact D j v d) q p).mono fun e P ⟨t,y⟩ =>?_;subst y;have r:=grownCap_ge w (i+m) c 130;have Y:=rl (grownCap w (i+m) c 130-(i+m));refine⟨_,t,eV.wF ((Below.refl _ w).drew.alloc (by simp) _),(w.heap.size,0),_,_,rfl,.inl (alq _),heap_alloc_new w.drew _,r,grownCap_le_maxLen _ _ _ _ (by unfold maxLen;omega),?_,fun j x d =>?_⟩
     ·grind
     grind
   ·have B:i<n:=by omega
    by_cases b:n+m<=c
    ·refine (ZO g.1 g.2 n c i l.1 l.2 m F cs cs' w B hm b (by unfold maxLen at O;omega) (Ne.symm V) U o D (fun j d=>hsp j d b) I q ho p 130 130 H.size arr.size (by simp[World.shape?,N]) (by simp[World.shape?,C]) (by omega) (by simp[World.frozen?,N]) (by simp[World.frozen?,N])).mono fun e P ⟨t,y⟩ =>?_;subst y;obtain⟨J,K,L,e4,e5,f,M,e7,Q⟩:=iR g.1 (cs.drop (i*5)) (g.2+(i+m)*5) w.drew arr C (by simp;omega);obtain⟨f1,f2,f3,f4,f5,s,f6,f7,f8⟩:=iR g.1 cs' (g.2+i*5) _ f M (by omega);refine⟨_,t,⟨f1.trans J,f2.trans K,f3.trans L,by simp_all,fun k X hn=>(f5 k (fun h=>hn ⟨g,rfl,h⟩)).trans (e5 k (fun h=>hn ⟨g,rfl,h⟩))⟩,g,c,s,rfl,.inr ⟨g,rfl,rfl⟩,f6,b,O,by omega,fun j x d =>?_⟩;have E:=(alT.1 d).1;simp only[amu,alI,alJ]at E;rw[f8,Q]
     by_cases Z:j<i*5
     ·grind
     ·rw[amj (by simp_all),alI,ann (by omega)]at d
      by_cases aa:j<(i+m)*5
      ·rw[amh (by omega)]at d;grind
      ·rw[amj (by omega)]at d;rw[if_neg (by omega),if_pos (by simp;omega),<- d];congr 1;omega
    ·refine (acS g.1 g.2 n c i l.1 l.2 m F cs cs' w B hm a3 (by omega) z U o D q ho p).mono fun e P ⟨t,y⟩ =>?_;subst y;have r:=grownCap_ge w (n+m) c 130;generalize hG:grownCap w (n+m) c 130=G at *;have ab:=rl (n+m-i);have ad:=rl (G-(n+m));rw[al3]at ab ad;generalize hR:((cs.take (i*5)).toArray++Builtin.zeroCells pn.cells (n+m-i)++Builtin.zeroCells pn.cells (G-(n+m)))=R;have aj:R.size=G*5:=by grind
     have ak:∀j,j<i*5->R[j]? = cs[j]?:=fun j d=>by
      grind
     have ae:(w.alloc (.cells R 130)).drew.heap[w.heap.size]? = some (.cells R 130 (0,0)):=heap_alloc_new w _;obtain⟨J,K,L,e4,e5,f,M,e7,Q⟩:=iR w.heap.size cs' (i*5) _ R ae (by omega);obtain⟨f1,f2,f3,f4,f5,s,f6,f7,f8⟩:=iR w.heap.size (cs.drop (i*5)) ((i+m)*5) (((w.alloc (.cells R 130)).drew.setCells w.heap.size (i*5) cs').drew) f M (by simp;omega);refine⟨_,t,⟨f1.trans J,f2.trans K,f3.trans L,?_,fun k X hn =>?_⟩,(w.heap.size,0),G,s,rfl,.inl (alq _),f6,r,hG ▸ grownCap_le_maxLen _ _ _ _ (by unfold maxLen;omega),by simp only;omega,fun j x d =>?_⟩
     ·simp_all
     ·rw[f5 k (by omega)];show ((w.alloc (.cells R 130)).drew.setCells w.heap.size (i*5) cs').heap[k]? = _;rw[e5 k (by omega)];exact Below.heap_alloc w _ k X
     ·have E:=(alT.1 d).1;simp only[amu,alI,alJ]at E;rw[amr,f8,Q]
      by_cases Z:j<i*5
      ·grind
      ·rw[amj (by grind),alI,ann (by omega)]at d
       by_cases aa:j<(i+m)*5
       ·grind
       ·rw[amj (by omega)]at d;grind
  ·have ag:i=0:=by omega
   subst ag;refine (CV A 0 0 l.1 l.2 m F [] cs' w hm (alq _) (by omega) (by omega) (by omega) rfl o (fun _=>rfl) (fun a ha j v d=>by simp at d) q p).mono fun e P ⟨t,y⟩ =>?_;subst y;have r:=grownCap_ge w (0+m) 0 130;have Y:=rl (grownCap w (0+m) 0 130-(0+m));refine⟨_,t,eV.wF ((Below.refl _ w).drew.alloc (by simp) _),(w.heap.size,0),_,_,rfl,.inl (alq _),heap_alloc_new w.drew _,r,grownCap_le_maxLen _ _ _ _ (by omega),?_,fun j x d =>?_⟩
   ·grind
   grind
def ae0 {α:Type} (E:jr α) (J:E.size=5):ck prog 138 (mkE 130 E (gj (aI .i64) (dM (aI .i64))) (fun (l:List α) (x:Int×Int)=>abV l x.1 x.2)) where
 callable:=⟨_,func138,by kernel_rfl,by kernel_rfl⟩
 calls cc ds rk out hg:=by
  obtain⟨pre,l,post,a,r,rfl,rfl,U,rfl,rfl⟩:=Sm hg;obtain⟨ai,V⟩:=a;unfold abV at U;split at U;rotate_left
  ·cases U
  rename_i B;obtain⟨Y,Z,aa,au⟩:=B;simp only at Y Z aa;cases U;intro w M go u0 vs hM av hz ay K ab m;have ad:vs = #[.int .i64 ai,.int .i64 V]:=by
   have C:vs.size=2:=m.size;have e0:=Un (m.at_ 0 (.int .i64 ai) rfl);have e1:=Un (m.at_ 1 (.int .i64 V) rfl);apply amz
   ·simp[C]
   ·intro k h2 h3;have:k=0∨k=1:=by omega
    rcases this with rfl|rfl
    ·simp_all
    simp_all
  subst ad;simp only;obtain⟨i,rfl⟩:∃i:Nat,ai=(i:Int):=⟨ai.toNat,by omega⟩;obtain⟨j,rfl⟩:∃j:Nat,V=(j:Int):=⟨V.toNat,by omega⟩;simp only[Int.toNat_natCast];have aw:i<=j:=by omega
  have D:j<=l.length:=by omega
  have q:(l.take i++l.drop j).length=i+(l.length-j):=by grind
  have ae:(an E l).length=l.length*5:=by rw[bS,J]
  have L:an E (l.take i++l.drop j)=(an E l).take (i*5)++(an E l).drop (j*5):=by rw[jN,<- J,ku,qO]
  rcases ab.2 ⟨0,0,[],false,false,false⟩ rfl rfl with⟨g,o',c,N,t,k0,k1,k2,k3,k4,k5⟩|⟨k0,ag,A,k1⟩
  ·cases k0;subst k1;rw[J]at k2;obtain⟨cs,C,h2,h3⟩:=K;simp only[amu,ae]at h2;have hN:N=cs.size:=by
    simp only[World.shape?,C,alz,Prod.mk.injEq]at k5;exact k5.2.symm
   have u:c<=9223372036854775807:=by unfold maxLen at k4;omega
   by_cases ak:i=j
   ·subst ak;have F:l.take i++l.drop i=l:=am1 i l;rw[F];refine (Qz (some ⟨g.1,o',none⟩) l.length c i w D k3 u (fun h=>by cases h)).mono fun e W ⟨O,P⟩ =>?_;subst P;refine⟨_,O,⟨rfl,rfl,rfl,alq _,fun k _ _=>rfl⟩,trivial,?_⟩
    by_cases al:0<c∨pre.length=0
    ·obtain⟨k6,k7⟩:=k2 al;refine .inl ⟨(g.1,o'),c,cs,rfl,.inr ⟨g,rfl,rfl⟩,C,k3,k4,by rw[J];omega,?_,fun k d f =>?_⟩
     ·omega
     ·have n:=(alT.1 f).1;have:=h3 (pre.length+k) d (by rw[amj (by omega),anf,amh n];exact f);simp only;rw[k6,alK];exact⟨this.1,this.2.less fun b hb=>hb.imp id fun h=>⟨g,rfl,h⟩⟩
    ·have:c=0:=by omega
     subst this;have G:l=[]:=amA (by omega);subst G;exact .inr ⟨rfl,rfl,_,rfl⟩
   ·have ao:i<j:=by omega
    obtain⟨k6,k7⟩:=k2 (.inl (by omega));subst k6;obtain⟨EJ,H⟩:∃EJ:List Value,EJ=(List.range (l.length*5)).map fun k=>cs.getD (g.2+(pre.length+k)) undef:=⟨_,rfl⟩;have aq:EJ.length=l.length*5:=by rw[H];simp
    have s:∀k,k<l.length*5->EJ[k]? = some (cs.getD (g.2+(pre.length+k)) undef):=fun k f=>by simp_all
    have y:∀k d,(an E l)[k]? = some d->bE d=true∧RP w (fun b=>M b∨xW (some g) b) d (cs.getD (g.2+(pre.length+k)) undef):=fun k d f=>by
     have n:=(alT.1 f).1;exact h3 (pre.length+k) d (by rw[amj (by omega),anf,amh n];exact f)
    have I:∀k v,EJ[k]? = some v->w.cell? ⟨g.1,g.2+pre.length+k,none⟩=some v:=fun k v f=>by
     have n:=(alT.1 f).1;rw[s k (by omega)]at f;have:=bm C (j:=g.2+pre.length+k) (by omega);grind
    have Q:∀v∈EJ,v.oneCell'=true:=fun v X=>by
     obtain⟨k,f⟩:=alL X;have n:=(alT.1 f).1;rw[s k (by omega)]at f;obtain⟨p1,p2⟩:=y k _ (alE (by omega));have:=p2.tw p1;simp_all
    refine (abX g.1 (g.2+pre.length) l.length c i j EJ w aq I (fun k=>by simp[World.frozen?,C]) Q k3 u ao D).mono fun e W ⟨O,P⟩ =>?_;have az:=rl (l.length-(i+(l.length-j)));have aA:(EJ.drop (j*5)).length=(l.length-j)*5:=by grind
    obtain⟨e1,e2,e3,e4,e5,R,e6,e7,e8⟩:=iR g.1 (EJ.drop (j*5)) (g.2+pre.length+i*5) w.drew cs C (by omega);obtain⟨f1,f2,f3,f4,f5,o,f6,f7,f8⟩:=iR g.1 (Builtin.zeroCells pn.cells (l.length-(i+(l.length-j)))).toList (g.2+pre.length+(i+(l.length-j))*5) _ R e6 (by omega);rw[<- P]at f1 f2 f3 f4 f5 f6;have p:eV (xW (some g)) w W:=⟨f1.trans e1,f2.trans e2,f3.trans e3,by rw[f4,e4];exact alq _,fun k f hn=>(f5 k (fun h=>hn ⟨g,rfl,h⟩)).trans (e5 k (fun h=>hn ⟨g,rfl,h⟩))⟩;refine⟨_,O,p,trivial,.inl ⟨(g.1,g.2+pre.length),c,o,by rw[q],.inr ⟨g,rfl,rfl⟩,f6,by rw[q];omega,k4,by grind,?_,fun k d f =>?_⟩⟩
    ·simp only;rw[bS,J,q];omega
    ·have n:=(alT.1 f).1;rw[bS,J,q]at n;rw[L]at f;have z:∀S:Nat,(an E l)[S]? = some d->EJ[S]? = o[g.2+pre.length+k]?->bE d=true∧RP W (fun b=>M b∨b=g.1) d (o.getD (g.2+pre.length+k) undef):=by
      intro S T X;have ax:=(alT.1 T).1;obtain⟨p1,p2⟩:=y S d T;rw[s S (by omega)]at X;refine⟨p1,?_⟩;rw[alv,<- X];refine p2.keep fun b q1 q2=>⟨alu q1 p.size,?_,p.block b q1 (fun hn=>q2 (.inr hn))⟩;rintro (hb|hb)
      ·exact q2 (.inl hb)
      ·exact q2 (.inr ⟨g,rfl,hb⟩)
     simp only
     by_cases ar:k<i*5
     ·rw[amh (by rw[alI];omega),alS,if_pos ar]at f;apply z k f;rw[f8,if_neg (by omega),e8,if_neg (by omega),s k (by omega),alv,alK,amy (show g.2+(pre.length+k)<cs.size by omega)];rfl
     ·rw[amj (by grind),alI,ann (by omega),alP]at f;refine z (j*5+(k-i*5)) f ?_;rw[f8,if_neg (by omega),e8,if_pos (by omega),alP];congr 1;omega
  ·subst k1;have G:l=[]:=amA ag;subst G;simp only[List.length_nil]at D;obtain rfl:j=0:=by omega
   obtain rfl:i=0:=by omega
   refine (Qz A 0 0 0 w (alq _) (alq _) (by decide) (fun _=>rfl)).mono fun e W ⟨O,P⟩ =>?_;subst P;exact⟨_,O,⟨rfl,rfl,rfl,alq _,fun k _ _=>rfl⟩,trivial,.inr ⟨rfl,rfl,_,rfl⟩⟩
end Go.Proofs.YtobnihfgnbnncaaGreat.Am
namespace Go.Proofs.YtobnihfgnbnncaaGreat.P
def ZN {α:Type} (c:α->α->Int) (x:α):List α->List α
 | []=>[x]
 | y::l=>if c x y<=0 then x::y::l else y::ZN c x l
def sS {α:Type} (c:α->α->Int):List α->List α
 | []=>[]
 | x::l=>ZN c x (sS c l)
def D8 {α:Type} (c:α->α->Int) (x:α):∀l:List α,(ZN c x l).Perm (x::l)
 | []=>List.Perm.refl _
 | y::l=>by
  unfold ZN;split
  ·simp_all
  ·exact ((D8 c x l).cons y).trans (List.Perm.swap x y l)
def j8 {α:Type} (c:α->α->Int):∀l:List α,(sS c l).Perm l
 | []=>List.Perm.refl _
 | x::l=>(D8 c x _).trans ((j8 c l).cons x)
def qT {α:Type} (c:α->α->Int) (l:List α):(sS c l).length=l.length:=(j8 c l).length_eq
structure WO {α:Type} (c:α->α->Int):Prop where
 total:∀x y,c x y<=0∨c y x<=0
 neg:∀x y,c x y<0↔0<c y x
 trans:∀x y z,c x y<=0->c y z<=0->c x z<=0
def Ft {α:Type} {c:α->α->Int} (h:WO c) (x:α):∀l:List α,l.Pairwise (fun x y=>c x y<=0)->(ZN c x l).Pairwise (fun x y=>c x y<=0)
 | [],_=>List.pairwise_singleton _ _
 | y::l,hs=>by
  unfold ZN;obtain⟨e,f⟩:=amP.1 hs;split
  ·rename_i b;refine amP.2 ⟨fun z a =>?_,hs⟩;rcases alx.1 a with rfl|a
   ·exact b
   ·exact h.trans _ _ _ b (e z a)
  ·rename_i b;have d:c y x<=0:=(h.total x y).resolve_left b;refine amP.2 ⟨fun z a =>?_,Ft h x l f⟩;rcases alx.1 ((D8 c x l).mem_iff.1 a) with rfl|a
   ·exact d
   ·exact e z a
def pT {α:Type} {c:α->α->Int} (h:WO c):∀l:List α,(sS c l).Pairwise (fun x y=>c x y<=0)
 | []=>List.Pairwise.nil
 | x::l=>Ft h x _ (pT h l)
def rK {α:Type} {c:α->α->Int} : ∀ {l m:List α},l.Perm m->(∀x∈l,∀y∈l,c x y<=0->c y x<=0->x=y)->l.Pairwise (fun x y=>c x y<=0)->m.Pairwise (fun x y=>c x y<=0)->l=m
 | [],m,d,_,_,_=>(List.Perm.nil_eq d)
 | x::l,[],d,_,_,_=>absurd d.symm (by simp_all)
 | x::l,y::m,d,ha,f,hm=>by
  obtain⟨n,g⟩:=amP.1 f;obtain⟨o,h⟩:=amP.1 hm;have e:x=y:=by
   by_cases i:x=y
   ·exact i
   ·have p:y∈l:=by
     grind
    grind
  subst e;rw[rK ((List.perm_cons x).1 d) (fun a j b k=>ha a (amI _ j) b (amI _ k)) g h]
open Classical in
def FJ {α:Type} (c:α->α->Int) (l:List α):Option (List α×Unit):=if l.length<4611686018427387904∧∀x∈l,∀y∈l,c x y=0->x=y then some (sS c l,()) else none
end Go.Proofs.YtobnihfgnbnncaaGreat.P
namespace Go.Proofs.YtobnihfgnbnncaaGreat.Am
open Go.RowKit Go.Proofs.YtobnihfgnbnncaaGreat.P
def abt (b:Bool) (a:List Value):Value:=if b then .agg a.toArray else a.getD 0 undef
def IsV {α:Type} (E:jr α) (w:World) (M:Nat->Prop) (x:α) (a:List Value):Prop:=a.length=E.size∧∀j d,(E.cells x)[j]? = some d->bE d=true∧RP w M d (a.getD j undef)
def aix {α:Type} (P:Program) (g:FuncId) (a:Bool) (E:jr α) (c:α->α->Int):Prop:=∀(w:World) (M:Nat->Prop) (x y:α) (d f:List Value),(∀b,M b->b<w.heap.size)->IsV E w M x d->IsV E w M y f ->
 Calls P g #[abt a d,abt a f] w fun e h=>e=.returned (.int .i64 (c x y))∧∃q i,h=Go.Sort.grow (w.drewN q) i
def agl (P:Program) (f g:FuncId) (p:Bool) (k:Nat):Prop:=∀(β:Type) (_:Inhabited β) (enc:β->List Value) (c:β->β->Int),(∀x,(enc x).length=k)->(∀x,∀v∈enc x,v.oneCell'=true)->Go.Sort.SWO (ltOf c)->∀(blk a h:Nat) (d:Array β) (w:World),
 (∀(m:Nat) (b:Array Obj) (i:Array β),i.size=d.size->∀x y:β,Calls P g #[abt p (enc x),abt p (enc y)] (sortWorldK enc k w blk a m i b) fun e j=>e=.returned (.int .i64 (c x y))∧∃q l,j=Go.Sort.grow ((sortWorldK enc k w blk a m i b).drewN q) l) ->
 Go.Sort.HoldsK enc k w blk a d->blk<w.heap.size->d.size<4611686018427387904 ->
 Calls P f #[.slice (some ⟨blk,a,none⟩) d.size h,.func (.func g) #[] #[]] w fun e j=>e=.returned (.tuple #[])∧∃o n b,Go.Sort.PermIn 0 d.size d o∧Go.Sort.SortedIn (ltOf c) 0 d.size o∧j=sortWorldK enc k w blk a n o b
def Xa {α:Type} (E:jr α) {l:List α} {i j:Nat} {x:α} (a:l[i]? = some x) (b:j<E.size):(an E l)[i*E.size+j]? = (E.cells x)[j]?:=by
 have c:((an E l).drop (i*E.size))[j]? = (an E l)[i*E.size+j]?:=alP;have d:l.drop i=x::l.drop (i+1):=by
  obtain⟨e,rfl⟩:=alT.1 a;simp_all
 rw[<- c,qO,d,ch,amh (by rw[E.len];exact b)]
section
variable {β:Type} [Inhabited β] {enc:β->List Value} {k:Nat}
def O0 {w:World} {b a:Nat} {d:Array β} {c:Array Value} {e:Nat} {fr:Nat×Nat} (h:w.heap[b]? = some (.cells c e fr)):(Go.Sort.putRowK enc k w b a d).heap[b]? = some (.cells (Go.Sort.putCells id a (Go.Sort.flatK enc k d) c) e fr):=by
 simp[Go.Sort.putRowK,Go.Sort.putRow,Go.Sort.mapBlock,alA,h,Go.Sort.onCells]
def Ga {w:World} {b c a:Nat} {d:Array β} (h:c≠b):(Go.Sort.putRowK enc k w b a d).heap[c]? = w.heap[c]?:=by
 simp[Go.Sort.putRowK,Go.Sort.putRow,Go.Sort.mapBlock,alA,Ne.symm h]
def A4 {w:World} {b c a m:Nat} {d:Array β} {e:Array Obj} (f:c<w.heap.size) (h:c≠b):(sortWorldK enc k w b a m d e).heap[c]? = w.heap[c]?:=by
 unfold sortWorldK;rw[Go.Sort.heap_grow_old _ _ (by simpa [Go.Sort.putRowK,Go.Sort.ahead] using f),Ga h];rfl
def sQ {w:World} {b a m:Nat} {d:Array β} {c:Array Obj} : w.heap.size<=(sortWorldK enc k w b a m d c).heap.size:=by
 simp[sortWorldK,Go.Sort.putRowK,Go.Sort.ahead]
def KA {w:World} {b a m:Nat} {d:Array β} {f:Array Obj} {c:Array Value} {e:Nat} {fr:Nat×Nat} (h:w.heap[b]? = some (.cells c e fr)):(sortWorldK enc k w b a m d f).heap[b]? = some (.cells (Go.Sort.putCells id a (Go.Sort.flatK enc k d) c) e fr):=by
 have g:=(ams.1 h).1;unfold sortWorldK;rw[Go.Sort.heap_grow_old _ _ (by simpa [Go.Sort.putRowK,Go.Sort.ahead] using g)];exact O0 h
def Kv {a:Nat} {d:Array β} {b:Array Value} {j:Nat} (c:j<b.size):(Go.Sort.putCells id a (Go.Sort.flatK enc k d) b).getD j undef=if a<=j∧j<a+d.size*k then (enc d[(j-a) / k]!)[(j-a) % k]! else b.getD j undef:=by
 have e:(Go.Sort.putCells id a (Go.Sort.flatK enc k d) b)[j]? = some (if a<=j∧j<a+d.size*k then (enc d[(j-a) / k]!)[(j-a) % k]! else b[j]):=by
  simp only[Go.Sort.putCells,Array.getElem?_mapIdx,amy c,Option.map_some,Go.Sort.size_flatK];congr 1;split
  ·rename_i f;rw[Go.Sort.get_flatK _ _ _ _ (by omega)];rfl
  ·rfl
 simp_all
end
def ah0 {α β:Type} {c:α->α->Int} (h:WO c) (f:β->α):Go.Sort.SWO (ltOf fun x y=>c (f x) (f y)) where
 irrefl x:=by
  simp only[ltOf,decide_eq_false_iff_not];intro e;have:=(h.neg _ _).1 e;omega
 trans x y z h1 h2:=by
  simp only[ltOf,decide_eq_true_eq]at h1 h2 ⊢
  by_cases a:c (f x) (f z)<0
  ·exact a
  ·have b:c (f z) (f x)<=0:=by
    have:=(h.neg (f z) (f x));rcases Int.lt_trichotomy (c (f z) (f x)) 0 with q|q|q
    ·omega
    ·omega
    ·exact absurd ((h.neg (f x) (f z)).2 q) a
   have d:=h.trans _ _ _ b (Int.le_of_lt h1);have g:=(h.neg _ _).1 h2;omega
 ntrans x y z h1 h2:=by
  simp only[ltOf,decide_eq_false_iff_not]at h1 h2 ⊢;intro a;have b:c (f y) (f x)<=0:=by
   by_cases q:0<c (f y) (f x)
   ·exact absurd ((h.neg _ _).2 q) h1
   ·omega
  have d:c (f z) (f y)<=0:=by
   by_cases q:0<c (f z) (f y)
   ·exact absurd ((h.neg _ _).2 q) h2
   ·omega
  have g:=h.trans _ _ _ d b;have i:=(h.neg _ _).1 a;omega
def I7 {β:Type} [Inhabited β] {d a:Array β} (h:Go.Sort.PermIn 0 d.size d a):a.toList.Perm d.toList:=by
 obtain⟨b,-,c⟩:=h;have e:(d.extract 0 d.size)=d:=by simp
 have f:(a.extract 0 d.size)=a:=by rw[<- b];simp
 rwa [e,f]at c
def adU {α:Type} {E:jr α} {c:α->α->Int} {P:Program} {f g:FuncId} {fn:Func} {ag:Bool} {ty:Nat} {F:List α->Option (List α×Unit)} (hf:P.funcs[f]? = some fn) (hc:(fn.name == "runtime.NumGoroutine")=false∧fn.body.isNone=false)
  (hF:∀l,F l=FJ c l) (h0:∀p aq w,Calls P f #[.slice p 0 aq,.func (.func g) #[] #[]] w fun e w'=>e=.returned (.tuple #[])∧w'=w) (hO:WO c) (hcmp:aix P g ag E c) (hS:agl P f g ag E.size) :
  ck P f (mkW ty E (dM (PE g)) (fun l (_:Unit)=>F l) (fun _:Unit =>.clean (.tup []))) where
 callable:=⟨fn,hf,hc⟩
 calls cc la rk out hg:=by
  obtain⟨pre,l,post,a,l',r,rfl,rfl,hr,rfl,rfl⟩:=Sn hg;rw[hF]at hr;unfold FJ at hr
  by_cases B:l.length<4611686018427387904∧∀x∈l,∀y∈l,c x y=0->x=y
  ·rw[if_pos B]at hr;obtain⟨aB,hanti⟩:=B;obtain rfl:sS c l=l':=congrArg Prod.fst (anq hr);intro w M h u0 vs hM aC hz aE C aa s;have ar:vs = #[.func (.func g) #[] #[]]:=by
    have S:=s.1;have h2:=s.2 0 (.fn g) rfl;have h3:vs.size=1:=S;cases hv:vs.getD 0 undef<;>rw[hv]at h2<;>cases h2;apply amz
    ·simp[h3]
    ·intro i i1 i2;have:i=0:=by omega
     subst this;simpa [Array.getD,h3] using hv
   subst ar
   by_cases hl:l=[]
   ·subst hl;have hu:∃p cp,u0=.slice p 0 cp:=by
     rcases aa.2 ⟨0,0,[],false,false,false⟩ rfl rfl with⟨g',o',cp,N,t,k0,k1,k2,k3,k4,k5⟩|k0
     ·simp_all
     grind
    obtain⟨p,cp,rfl⟩:=hu;refine (h0 p cp w).mono fun e w' ⟨he,hw⟩ =>?_;subst hw;exact⟨.tuple #[],he,⟨rfl,rfl,rfl,alq _,fun _ _ _=>rfl⟩,⟨rfl,rfl,⟨rfl,rfl⟩,fun g' T=>rfl,C⟩,.tup [] [] rfl (fun j x o=>by simp at o)⟩
   ·have hk:=E.pos;have J:0<l.length:=am5.2 hl;cases h with
    | none =>
     have au:pre++(an E l++post)=[]:=C;have:=congrArg List.length au;rw[amu,amu,bS,amv]at this;have:=Nat.mul_pos J hk;omega
    | some h =>
     obtain⟨cs,S,h2,h3⟩:=C;simp only[amu,bS]at h2;generalize U:(fun b=>M b∨xW (some h) b)=M' at h3 s ⊢;have ab:M' h.1:=by rw[<- U];exact .inr ⟨h,rfl,rfl⟩
     have av:h.1<w.heap.size:=(ams.1 S).1;have V:∀b,M' b->b<w.heap.size:=by
      intro b hb;rw[<- U]at hb;rcases hb with hb|⟨g',T,rfl⟩
      ·exact hM b hb
      simp_all
     rcases aa.2 ⟨0,0,[],false,false,false⟩ rfl rfl with⟨g',o',cp,N,t,k0,k1,k2,k3,k4,k5⟩|⟨k0,_⟩;rotate_left
     ·cases k0
     cases k0;obtain⟨rfl,k6⟩:=k2 (.inl (by omega));subst k1;have ad:∀i,i<l.length->i*E.size+E.size<=l.length*E.size:=by
      intro i I;have:=al8 E.size (show i+1<=l.length from I);grind
     have q:∀i (I:i<l.length),IsV E w M' l[i] ((List.range E.size).map fun j=>cs.getD (h.2+pre.length+(i*E.size+j)) undef):=by
      intro i I;refine⟨by simp,fun j d o =>?_⟩;have aw:j<E.size:=by
       have:=(alT.1 o).1
       rwa [E.len]at this
      have hd:(pre++(an E l++post))[pre.length+(i*E.size+j)]? = some d:=by
       have:=ad i I;rw[amj (by omega),anf,amh (by rw[bS];omega),Xa E (alE I) aw,o]
      have:=h3 _ _ hd;rw[<- alK]at this;simp_all
     let β:={ p:α×List Value // IsV E w M' p.1 p.2 }
     let enc:β->List Value:=fun p=>p.1.2
     let K:List β:=List.ofFn fun i:Fin l.length=>(⟨(l[i.1],_),q i.1 i.2⟩:β)
     have ae:K.length=l.length:=by simp[K]
     have aF:∀i (I:i<l.length),K[i]? = some ⟨(l[i],_),q i I⟩:=by
      grind
     have ai:Inhabited β:=⟨⟨(l[0],_),q 0 J⟩⟩;have aD:K.map (fun p=>p.1.1)=l:=by
      apply anp;grind
     have L:∀x:β,(enc x).length=E.size:=fun x=>x.2.1;have aj:∀x:β,∀v∈enc x,v.oneCell'=true:=by
      intro x v hv;obtain⟨j,o⟩:=alL hv;have W:=(alT.1 o).1;rw[L]at W;obtain⟨p1,p2⟩:=x.2.2 j _ (alE (by rw[E.len];exact W));have:x.1.2.getD j undef=v:=by grind
      rw[this]at p2;exact p2.tw p1
     have z:∀ {m:Nat} {dk:Array β} {os:Array Obj} {d:D} {u:Value},RP w M' d u->RP (sortWorldK enc E.size w h.1 (h.2+pre.length) m dk os) M' d u:=by
      intro m dk os d u hu;refine hu.keep fun b q1 q2=>⟨alu q1 sQ,q2,?_⟩;exact A4 q1 (fun e=>q2 (e ▸ ab))
     have hH:Go.Sort.HoldsK enc E.size w h.1 (h.2+pre.length) K.toArray:=by
      intro j o;simp only[Go.Sort.size_flatK,amB,ae]at o;refine⟨?_,by simp[World.frozen?,S]⟩;have hq:j / E.size<l.length:=Nat.div_lt_of_lt_mul (by rwa [Nat.mul_comm]);have O:j % E.size<E.size:=amf _ hk;have ak:j / E.size*E.size+j % E.size=j:=by rw[Nat.mul_comm];exact Nat.div_add_mod j E.size
      rw[Go.Sort.get_flatK _ _ _ _ (by simp_all),bm S (j:=h.2+pre.length+j) (by omega)];have e1:(K.toArray)[j / E.size]! = ⟨(l[j / E.size],_),q _ hq⟩:=by
       simp_all
      rw[e1];show some _=some (((List.range E.size).map fun j'=>cs.getD (h.2+pre.length+(j / E.size*E.size+j')) undef)[j % E.size]!);simp_all
     have ax:=ah0 hO (fun p:β=>p.1.1);have G:=hS β ai enc (fun x y=>c x.1.1 y.1.1) L aj ax h.1 (h.2+pre.length) cp K.toArray w (fun m os dk aG x y=>hcmp _ M' x.1.1 y.1.1 x.1.2 y.1.2 (fun b hb=>alu (V b hb) sQ) ⟨x.2.1,fun j d o=>⟨(x.2.2 j d o).1,z (x.2.2 j d o).2⟩⟩ ⟨y.2.1,fun j d o=>⟨(y.2.2 j d o).1,z (y.2.2 j d o).2⟩⟩) hH av (by simp_all);have X:K.toArray.size=l.length:=by simp[ae]
     rw[X]at G;refine G.mono fun e w' ⟨he,A,n,os,H,Y,hw⟩ =>?_;subst hw;have ao:=I7 (by rw[X];exact H);have al:A.size=l.length:=by have:=H.1;rw[this,X]
     have ay:A.toList.map (fun p=>p.1.1)=sS c l:=by
      have Z:(A.toList.map (fun p=>p.1.1)).Perm l:=by
       grind
      refine rK (Z.trans (j8 c l).symm) (fun x hx y hy h4 h5=>hanti x (Z.mem_iff.1 hx) y (Z.mem_iff.1 hy) ?_) ?_ (pT hO l)
      ·have:=hO.neg x y;omega
      ·rw[anr];rw[ans];intro i j I o az;simp only[Array.length_toList]at I o;have:=Y i j (alr _) az (by omega);simp only[ltOf,decide_eq_false_iff_not]at this;rw[getElem!_pos A j (by omega),getElem!_pos A i (by omega)]at this;simp only[Array.getElem_toList];have h6:=hO.neg A[j].1.1 A[i].1.1;omega
     have Q:(sortWorldK enc E.size w h.1 (h.2+pre.length) n A os).heap[h.1]? = some (.cells (Go.Sort.putCells id (h.2+pre.length) (Go.Sort.flatK enc E.size A) cs) ty (0,0)):=KA S;have R:(Go.Sort.putCells id (h.2+pre.length) (Go.Sort.flatK enc E.size A) cs).size=cs.size:=by simp[Go.Sort.putCells]
     refine⟨.tuple #[],he,⟨rfl,rfl,rfl,sQ,fun k hk hn=>A4 hk (fun e=>hn ⟨h,rfl,e⟩)⟩,⟨rfl,rfl,⟨rfl,rfl⟩,fun g' T =>?_,?_⟩,.tup [] [] rfl (fun j x o=>by simp at o)⟩
     ·cases T;simp[World.shape?,Q,S,R]
     ·refine⟨_,Q,?_,fun j d o =>?_⟩
      ·simp only[amu,bS,qT,R];exact h2
      ·have W:j<pre.length+(l.length*E.size+post.length):=by
        have:=(alT.1 o).1;simpa [bS,qT] using this
       show _∧RP _ (fun b=>M b∨xW (some h) b) d _;rw[U,Kv (by omega),al]
       by_cases aA:pre.length<=j∧j<pre.length+l.length*E.size
       ·rw[if_pos (by omega)];have e1:h.2+j-(h.2+pre.length)=j-pre.length:=by omega
        rw[e1];have hq:(j-pre.length) / E.size<l.length:=Nat.div_lt_of_lt_mul (by grind);have O:(j-pre.length) % E.size<E.size:=amf _ hk;have ak:(j-pre.length) / E.size*E.size+(j-pre.length) % E.size=j-pre.length:=by rw[Nat.mul_comm];exact Nat.div_add_mod _ _
        rw[amj aA.1,amh (by rw[bS,qT];omega),<- ak,<- ay,Xa E (x:=(A[(j-pre.length) / E.size]!).1.1) (by
         rw[aln,alE (by simp_all),getElem!_pos A _ (by omega)];simp) O]at o
        obtain⟨p1,p2⟩:=(A[(j-pre.length) / E.size]!).2.2 _ _ o;refine⟨p1,z ?_⟩;have e2:(enc A[(j-pre.length) / E.size]!)[(j-pre.length) % E.size]! = (A[(j-pre.length) / E.size]!).1.2.getD ((j-pre.length) % E.size) undef:=by
         rw[getElem!_pos _ _ (by simp_all)];simp only[al2];rw[alE (by grind)];rfl
        simp_all
       ·rw[if_neg (by omega)];have aH:(pre++(an E l++post))[j]? = some d:=by
         by_cases aI:j<pre.length
         ·grind
         ·rw[amj (by omega),amj (by rw[bS,qT];omega),bS,qT]at o;rw[amj (by omega),amj (by rw[bS];omega),bS];exact o
        grind
  simp_all
end Go.Proofs.YtobnihfgnbnncaaGreat.Am
namespace Go.Proofs.YtobnihfgnbnncaaGreat.P
def lQ {α:Type} (f g:α->Int) (x y:α):Int:=if Go.Lib.compareInt (f x) (f y)≠0 then Go.Lib.compareInt (f x) (f y) else Go.Lib.compareInt (g x) (g y)
def EE {α:Type} {f g:α->Int} {x y:α} : lQ f g x y<0↔f x<f y∨(f x=f y∧g x<g y):=by
 unfold lQ Go.Lib.compareInt;omega
def EG {α:Type} {f g:α->Int} {x y:α} : 0<lQ f g x y↔f y<f x∨(f x=f y∧g y<g x):=by
 unfold lQ Go.Lib.compareInt;omega
def zL {α:Type} {f g:α->Int} {x y:α} : lQ f g x y<=0↔f x<f y∨(f x=f y∧g x<=g y):=by
 have a:=@EE α f g x y;have b:=@EG α f g x y;omega
def VU {α:Type} {f g:α->Int} {x y:α} : lQ f g x y=0↔f x=f y∧g x=g y:=by
 have a:=@EE α f g x y;have b:=@EG α f g x y;omega
def zM {α:Type} (f g:α->Int):WO (lQ f g) where
 total x y:=by rw[zL,zL];omega
 neg x y:=by rw[EE,EG];omega
 trans x y z h1 h2:=by rw[zL]at *;omega
end Go.Proofs.YtobnihfgnbnncaaGreat.P
namespace Go.Proofs.YtobnihfgnbnncaaGreat.Am
open Go.RowKit Go.Lib Go.Sort Go.Shelf Go.Proofs.YtobnihfgnbnncaaGreat.P
def afy (x:Int) (w:World):Calls prog 153 #[.int .i64 x] w fun e w'=>e=.returned (.bool false)∧w'=w:=by
 go_enter func153,ntmps153
 go_wp2
 go_ret
 exact⟨by simp,rfl⟩
def Qv (x y:Int) (w:World):Calls prog 110 #[.int .i64 x,.int .i64 y] w fun e w'=>e=.returned (.int .i64 (Lib.compareInt x y))∧w'=w:=by
 go_enter func110,ntmps110
 go_wp2_with (go_at_call 153;refine (afy _ _).mono ?_;rintro e w' ⟨rfl,hw⟩;rw[hw])
 all_goals (go_ret;refine⟨?_,rfl⟩;unfold Lib.compareInt;(repeat' split)<;>first|rfl|(exfalso;omega))
def ahK (b off cap:Nat) (x y r:Int) (hr:r=if x≠0 then x else y) (w:World) (h0:w.cell? ⟨b,off,none⟩=some (.int .i64 x)) (h1:w.cell? ⟨b,off+1,none⟩=some (.int .i64 y)):Calls prog 115 #[.slice (some ⟨b,off,none⟩) 2 cap] w fun e w'=>e=.returned (.int .i64 r)∧w'=w:=by
 go_enter func115,ntmps115
 go_wp2
 refine wp_loop_rounds 3 ?_;repeat any_goals (rw[rounds_succ];go_wp2)
 all_goals (go_ret;refine⟨?_,rfl⟩;subst hr;simp_all)
def JM (W:World) (A B:Obj) (q:Nat):({ ((W.alloc A).alloc B) with drawn:=q } : World).heap[W.heap.size]? = some A∧({ ((W.alloc A).alloc B) with drawn:=q } : World).heap[W.heap.size+1]? = some B:=by
 constructor
 ·show ((W.heap.push A).push B)[W.heap.size]? = some A;grind
 ·show ((W.heap.push A).push B)[W.heap.size+1]? = some B;grind
def abq (w:World) (x y:Value) (t:TypeId):(w.alloc (.cells #[x,y] t)).cell? ⟨w.heap.size,0,none⟩=some x∧(w.alloc (.cells #[x,y] t)).cell? ⟨w.heap.size,0+1,none⟩=some y:=by
 simp_all
def aen (W:World) (A B:Obj):({ ((W.alloc A).alloc B) with drawn:=((W.alloc A).alloc B).drawn+1 } : World)=grow (W.drewN 1) #[A,B]:=by
 rw[alloc_eq_grow,alloc_eq_grow,grow_grow];rfl
def Tb {P:Program} {id:Nat} {Q:Exit->Act->World->Prop} {a:Act} {w b:World} {l:List Oper} (n:Nat) (d:b = { w with drawn:=w.drawn+1 }) (e:P.follows .mixedOrders=true) (f:Region.lexTailB .any l.toArray n=true)
  (h:wpStill P l.toArray b (fun g=>wpList P l.toArray Q (l.drop n) g b) (l.take n) a):(Code.region id l.toArray true).wp P Q a w:=by
 subst d;exact wp_region_still_tail n e f h
set_option maxRecDepth 100000 in
def PU (f1 t1 f2 t2:Int) (a b c d a' b' c' d':Value) (W:World) (h1:∀v∈[a,b,c,d],v.oneCell'=true) (h2:∀v∈[a',b',c',d'],v.oneCell'=true) :
  Calls prog 67 #[.agg #[.int .i64 f1,.int .i64 t1,a,b,c,d],.agg #[.int .i64 f2,.int .i64 t2,a',b',c',d']] W fun e w'=>e=.returned (.int .i64 (if Lib.compareInt f1 f2≠0 then Lib.compareInt f1 f2 else Lib.compareInt t1 t2))∧∃q os',w'=grow (W.drewN q) os':=by
 have hcon:=fun x y W'=>Qv x y W';have hor:=fun b off cap x y r hr W' h0 h1=>ahK b off cap x y r hr W' h0 h1;generalize hr:(if Lib.compareInt f1 f2≠0 then Lib.compareInt f1 f2 else Lib.compareInt t1 t2)=r;obtain⟨w1,hw1⟩:∃w1:World,w1 = { ((W.alloc (Obj.cells #[.int .i64 f1,.int .i64 t1,a,b,c,d] 118)).alloc (Obj.cells #[.int .i64 f2,.int .i64 t2,a',b',c',d'] 118)) with drawn:=((W.alloc (Obj.cells #[.int .i64 f1,.int .i64 t1,a,b,c,d] 118)).alloc (Obj.cells #[.int .i64 f2,.int .i64 t2,a',b',c',d'] 118)).drawn+1 }:=⟨_,rfl⟩;have hg:∃q os,w1=grow (W.drewN q) os:=⟨_,_,hw1.trans (aen _ _ _)⟩;have hA:w1.heap[W.heap.size]? = some (Obj.cells #[.int .i64 f1,.int .i64 t1,a,b,c,d] 118):=by rw[hw1];exact (JM _ _ _ _).1
 have hB:w1.heap[W.heap.size+1]? = some (Obj.cells #[.int .i64 f2,.int .i64 t2,a',b',c',d'] 118):=by rw[hw1];exact (JM _ _ _ _).2
 have c1:w1.cell? ⟨W.heap.size,0,none⟩=some (.int .i64 f1):=bm hA (j:=0) (by simp);have c2:w1.cell? ⟨W.heap.size,1,none⟩=some (.int .i64 t1):=bm hA (j:=1) (by simp);have c3:w1.cell? ⟨W.heap.size+1,0,none⟩=some (.int .i64 f2):=bm hB (j:=0) (by simp);have c4:w1.cell? ⟨W.heap.size+1,1,none⟩=some (.int .i64 t2):=bm hB (j:=1) (by simp);clear hA hB
 go_enter func67,ntmps67
 go_wp2
 refine Tb 10 hw1 (by kernel_rfl) (by kernel_rfl) ?_;clear hw1;simp only[List.take_succ_cons,List.take_zero,am9,am3]
 iterate 4 still_step
 still_call (hcon _ _ _)
 iterate 4 still_step
 still_call (hcon _ _ _)
 apply wpStill_nil;generalize Lib.compareInt f1 f2=r1 at *;generalize Lib.compareInt t1 t2=r2 at *
 go_wp2_with (go_at_call 115;refine (hor _ _ _ _ _ _ hr.symm _ (abq _ _ _ _).1 (abq _ _ _ _).2).mono ?_;rintro e w' ⟨rfl,rfl⟩)
 go_ret
 obtain⟨q,os,hq⟩:=hg;exact⟨rfl,q,_,by rw[hq,alloc_eq_grow,grow_grow]⟩
def adO {α:Type} {E:jr α} (m:E.size=6) {f g:α->Int} (q:∀x,(E.cells x)[0]? = some (.int .i64 (f x))) (r:∀x,(E.cells x)[1]? = some (.int .i64 (g x))) {w:World} {M:Nat->Prop} {x:α} {k:List Value} (h:IsV E w M x k) :
  ∃a b c d,k=[.int .i64 (f x),.int .i64 (g x),a,b,c,d]∧∀v∈[a,b,c,d],v.oneCell'=true:=by
 obtain⟨n,l⟩:=h;rw[m]at n
 match k,n with
 | [a0,o,a2,a3,a4,a5],_ =>
  have s:a0=.int .i64 (f x):=by
   have:=(l 0 _ (q x)).2;simp at this;cases this;rfl
  have t:o=.int .i64 (g x):=by
   have:=(l 1 _ (r x)).2;simp at this;cases this;rfl
  have i:=E.len x;rw[m]at i;have e:∀j,j<6->([a0,o,a2,a3,a4,a5].getD j undef).oneCell'=true:=fun j z=>by
   obtain⟨u,y⟩:=l j _ (alE (by omega));exact y.tw u
  subst s t;refine⟨a2,a3,a4,a5,rfl,fun v p =>?_⟩;simp only[alx,amM,or_false]at p;rcases p with rfl|rfl|rfl|rfl
  ·exact e 2 (by decide)
  ·exact e 3 (by decide)
  ·exact e 4 (by decide)
  ·exact e 5 (by decide)
def Y6 {α:Type} {E:jr α} (e:E.size=6) {f g:α->Int} (h:∀x,(E.cells x)[0]? = some (.int .i64 (f x))) (i:∀x,(E.cells x)[1]? = some (.int .i64 (g x))):aix prog 67 true E (lQ f g):=by
 intro w M x y r s t j k;obtain⟨a,b,c,d,rfl,p⟩:=adO e h i j;obtain⟨l,m,n,o,rfl,q⟩:=adO e h i k;exact PU _ _ _ _ a b c d l m n o w p q
def aav {P:Program} {ρ:Go.Shelf.Ren} (L:SlLaysF0.n6 P ρ) {k g:Nat} (l:∀w,(isAgg (ρ.t 24)).run P w=.ok true w) (n:∀w,(Go.sizeOf (ρ.t 24)).run P w=.ok k w) (o:∀a w,(callFunc g a).run P w=.ok (.enter g a) w):agl P (ρ.f 6) g true k :=
 fun β p enc q r s t e f h d w b u c i=>AnyQ.slices_SortFunc L k l n enc r s q t g #[] e f h d w o (fun m v z j x y=>by simpa [abt] using b m v z j x y) u c i
def OS {α:Type} {E:jr α} (b:E.size=6) {f g:α->Int} (c:∀x,(E.cells x)[0]? = some (.int .i64 (f x))) (d:∀x,(E.cells x)[1]? = some (.int .i64 (g x))) (e:Nat) :
  ck prog 66 (mkW e E (dM (PE 67)) (fun l (_:Unit)=>FJ (lQ f g) l) (fun _:Unit =>.clean (.tup []))) :=
 adU (F:=FJ (lQ f g)) func66 ⟨rfl,rfl⟩ (fun _=>rfl) (fun p a w=>AnyF.slices_SortFunc_none Tryz.adV p a _ w) (zM f g) (Y6 b c d)
  (by rw[b];exact aav Tryz.adV isAgg118 sizeOf118 (enters_of func67 (by kernel_rfl) rfl))
end Go.Proofs.YtobnihfgnbnncaaGreat.Am
namespace Go.Proofs.YtobnihfgnbnncaaGreat.Am
open Go.RowKit Go.Proofs.YtobnihfgnbnncaaGreat.P
def oo:Nat->Code->Code
 | 0,.seq a _=>a
 | k+1,.seq a b =>.seq a (oo k b)
 | _,c=>c
def ED:Nat->Code->Code
 | 0,.seq _ b=>b
 | k+1,.seq _ b=>ED k b
 | _,_ =>.skip
def spine:Nat->Code->Bool
 | 0,.seq _ _=>true
 | k+1,.seq _ b=>spine k b
 | _,_=>false
def abB (a:Func):Code:=match a.body with|some c=>c|none =>.skip
def Oi (a b:Code):oo 0 (.seq a b)=a:=rfl
def Oh (k:Nat) (a b:Code):oo (k+1) (.seq a b)=.seq a (oo k b):=rfl
section
variable {P:Program} {T:Nat->Option Ty} {N:Nat} {M:Nat->Prop} {L:lG} {w0:World} {Γ:Env}
def Fq (l:ke P T) (m:bV P Γ) (o:P.follows .mixedOrders=true) {F:Nat} {Q:Exit->Act->World->Prop} : ∀(k:Nat) (c:Code) (s:St) (x:Ex) (i:St) (a:Act) (w:World),spine k c=true->iF T Γ N F (oo k c) s=some (x,i)->codeOk (oo k c)=true->Holds N M L w0 s a w ->
  (x=.normal->∀e f,Holds N M L w0 i e f->(ED k c).wp P Q e f)->(x ≠ .normal->∀e f,Holds N M L w0 i e f->Q (HJ x) e f)->c.wp P Q a w
 | 0,.seq b c,s,x,i,a,w,_,j,g,hH,h1,h2=>by
  refine wp_seq (kL l m o b s x i _ a w j g hH fun e f d =>?_);cases x with
  | normal=>exact h1 rfl e f d
  | exit n=>exact h2 (by intro h;cases h) e f d
  | ret=>exact h2 (by intro h;cases h) e f d
 | k+1,.seq b c,s,x,i,a,w,hs,j,g,hH,h1,h2=>by
  simp only[oo,codeOk,al0]at g;simp only[oo,iF,ain]at j;apply wp_seq;split at j
  ·rename_i q p;exact kL l m o b s .normal q _ a w p g.1 hH fun e f d=>Fq l m o k c q x i e f hs j g.2 d h1 h2
  ·rename_i r t;refine kL l m o b s x i _ a w j g.1 hH fun e f d =>?_;cases x with
   | normal=>simp_all
   | exit n=>exact h2 (by intro h;cases h) e f d
   | ret=>exact h2 (by intro h;cases h) e f d
end
def Bq (T:Nat->Option Ty) (rs:List ResultVar) (r:RK×Option Row) (J:(Nat->D)->(Nat->Option Row)->Nat->Prop):Kt:=fun x t h e =>
 match x with
 | .normal=>J t h e
 | .ret=>gG .clean T none rs ⟨t,EH h,e⟩=some r
 | .exit _=>False
section
variable {T:Nat->Option Ty} {Γ:Env} {n F k:Nat} {rs:List ResultVar} {r:RK×Option Row} {J:(Nat->D)->(Nat->Option Row)->Nat->Prop} {t:Nat->D} {h:Nat->Option Row} {e:Nat}
def J7:Bq T rs r J .normal t h e=J t h e:=an3
def HN:Bq T rs r J .ret t h e=(gG .clean T none rs ⟨t,EH h,e⟩=some r):=an3
def Wb (T:Nat->Option Ty) (Γ:Env) (F k:Nat) (b:Func) (a:List D) (K:Kt):Prop:=∃c,b.body=some c∧∃x s,iF T Γ b.ntmps F (oo k c) (cP none a)=some (x,s)∧K x s.t s.h s.e
def aaS {b:Func} {c:Code} {a:List D} (d:b.body=some c) (e:b.ntmps=n) (h:b.results=rs.toArray) (f:eh T Γ n F [.code (oo k c)] (Bq T rs r J) .normal (Cj a) MF 0):Wb T Γ F k b a (Bq T b.results.toList r J):=by
 obtain⟨x,s,g,i⟩:=EL _ _ _ _ _ (show Py T Γ n F (oo k c) (Cj a) MF 0 (Bq T rs r J) from f);refine⟨c,d,x,s,?_,?_⟩
 ·rw[e];exact g
 simp_all
end
section
variable {P:Program} {T:Nat->Option Ty} {Γ:Env}
def TP {n:Nat} {a:List D} {w:World} {M:Nat->Prop} {f:Array Value} (m:∀b,M b->b<w.heap.size) (c:Cb w M a f) (z:a.length<=n) (h:n<=PK):Holds n M none w (cP none a) { tmps:=f++Array.replicate (n-f.size) undef,defers:=[] } w:=by
 have o:Inv n M none w (fun _=>none) (fun x v=>x<n∧v<0) (cP none a).t (cP none a).h { tmps:=f++Array.replicate (n-f.size) undef,defers:=[] } w:={
  tab:=fun b d=>(c.tab b d).less fun b d=>by
   rcases d with d|⟨x,r,g,e,_⟩
   ·exact d
   ·cases e
  below:=eV.refl _ _
  mlt:=m
  cc:=fun b d=>absurd d uY
  pin:=fun A p=>by cases p
  defers:=rfl
  tsz:=by have:=c.1;simp;omega
  slots:=fun i=>by
   simp only[cP];rcases zJ (n:=n) (i:=i) c.1 with he|he
   ·rw[he]
    by_cases q:i<a.length
    ·have t:=c.2 i _ (alE q);have j:a.getD i .und=a[i]:=by simp_all
     rw[j];exact ca (t.less fun b d=>by
      rcases d with d|⟨x,r,g,e,_⟩
      ·exact d
      ·cases e)
    ·have j:a.getD i .und=.und:=by simp_all
     rw[j];trivial
   ·rw[he];trivial
  rows:=fun x r e=>by cases e
  inj:=fun x y r s g B e=>by cases e
  big:=h
  pha:=fun y r g l=>by cases l
  ali:=fun y r g l=>by cases l }
 exact⟨_,⟨(by rw[GA (fun k r u=>by cases u)];exact o.weaken fun x v e=>absurd e.2 (Nat.not_lt_zero _)),fun x r C s E F e=>by cases e⟩⟩
def LW (q:ke P T) {e:Func} {M:Nat->Prop} {w d:World} {s:St} {a':Act} {n:RK} (r:Holds e.ntmps M none w s a' d) (c:gG .clean T none e.results.toList ⟨s.t,EH s.h,s.e⟩=some (n,none)) :
  a'.defers=[]∧∃v,(results e a'.tmps).run P d=.ok v d∧(∃p,Ending.returned v=.returned p∧Below w.heap.size w d∧yC w d M (fun _=>False) p n):=by
 obtain⟨f,k⟩:=r;obtain⟨j,g⟩:∃j:St,j=⟨s.t,EH s.h,s.e⟩:=⟨_,rfl⟩;have a:Inv e.ntmps M none w f (VE e.ntmps s.e [] s.h) j.t j.h a' d:=by rw[g];exact k.inv
 rw[<- g]at c;have h:Below w.heap.size w d:=a.below.below (fun b t=>absurd t uY);refine⟨a.defers,?_⟩;simp only[gG,ue,ov]at c;split at c<;>try (cases c;done)
 rename_i u fr o i x;split at c<;>try (cases c;done)
 simp only[alz,Prod.mk.injEq]at c;obtain⟨rfl,_⟩:=c;obtain⟨v,l,m⟩:=vw (P:=P) q a i (a.agO fr);exact⟨v,l,v,rfl,h,m⟩
def PN (P:Program) (b:Func) (c:Code) (f:RK) (J:(Nat->D)->(Nat->Option Row)->Nat->Prop):Prop:=∀(w0:World) (M:Nat->Prop) (s:St) (a:Act) (w:World),J s.t s.h s.e->Holds b.ntmps M none w0 s a w ->
 c.wp P (bodyPost P b fun e d=>∃v,e=.returned v∧Below w0.heap.size w0 d∧yC w0 d M (fun _=>False) v f) a w
def ck.front (m:ke P T) (u:bV P Γ) (v:P.follows .mixedOrders=true) {α β:Type} {A:kM α} {F:α->Option β} {R:β->RK} {f:FuncId} {b:Func} {c:Code} {k:Nat} {J:β->(Nat->D)->(Nat->Option Row)->Nat->Prop} (o:P.funcs[f]? = some b) (p:b.body=some c) (d:(codeOk (oo k c)&&spine k c)=true)
  (y:(b.name == "runtime.NumGoroutine")=false∧b.body.isNone=false) (z:∀a,(A.ds a).length<=b.ntmps) (i:b.ntmps<=1000000) (h:∀a r,F a=some r->Wb T Γ FU k b (A.ds a) (Bq T b.results.toList (R r,none) (J r))) (B:∀r,PN P b (ED k c) (R r) (J r)):ck P f (ej A F R) where
 calls cc K rk out C:=by
  obtain⟨rfl,rfl,a,r,rfl,E,rfl⟩:=wC C;rw[al0]at d;intro w M L G e;obtain⟨N,g,x,s,H,j⟩:=h a r E;rw[p]at g;cases g;apply calls_of_wp o p;refine Fq m u v k c (cP none (A.ds a)) x s _ _ d.2 H d.1 (TP G e (z a) (by rw[gh];exact i)) ?_ ?_
  ·rintro rfl q t l;exact B r w M s q t j l
  ·intro I q t l;cases x with
   | normal=>exact absurd rfl I
   | exit n=>exact j.elim
   | ret=>exact LW m l j
 callable:=⟨b,o,y⟩
end
end Go.Proofs.YtobnihfgnbnncaaGreat.Am
namespace Go.Proofs.YtobnihfgnbnncaaGreat.P
open Go.RowKit
structure aH where
 al:Int
 aa:(List Int)
structure ah where
 bn:aH
 bu:aH
structure sC where
 a8:Int
 aS:Int
 aB:Int
 Oe:ByteArray
structure iG where
 b8:Int
 aB:Int
structure ir where
 a8:Int
 aS:Int
 aB:Int
structure dR where
 aq:(List ir)
 aG:(List sC)
 aO:(List (List ah))
structure bo where
 av:dR
 bC:(List iG)
 aC:(List Int)
structure bf where
 aw:(List Int)
 au:(List bo)
structure cN where
 dA:Int
 lH:Int
 gE:ah
structure ik where
 aC:Int
 bq:(List cN)
structure gi where
 qP:Int
 jz:ah
structure aL where
 bT:ah
 cO:(List gi)
structure aY where
 aB:Int
 cJ:ah
def rM (b:(List Int)):Bd (Int) ((Int))
 | a =>
  if decide (a>0) then
   (P.idx b (IntKind.i64.wrap (a-1))).bind fun c =>
   if (c==0) then
    some (.inl (IntKind.i64.wrap (a-1)))
   else
    some (.inr a)
  else
   some (.inr a)
def fO (b:(List Int)):Option ((List Int)) :=
 (aR (rM b) (b.length:Int)).bind fun a =>
 (Ge b 0 a).bind fun c =>
 some c
def eE (b:Int) (c:(List Int)):Option (aH) :=
 (fO c).bind fun a =>
 if ((a.length:Int)==0) then
  some (aH.mk 0 ([]))
 else
  some (aH.mk b a)
def Aa:Bd (Int×(List Int)) (((List Int)))
 | (a,b) =>
  if decide (a>0) then
   (nB 8 b [IntKind.i64.wrap (nN .and .u64 a 1048575)]).bind fun d =>
   (B1 .u64 a 20).bind fun c =>
   some (.inl (c,d))
  else
   some (.inr b)
def xb (d:Int):Option (aH) :=
 (if decide (d<0) then
  some ((-1),IntKind.u64.wrap (0-(IntKind.u64.wrap d)))
 else
  some (1,IntKind.u64.wrap d)).bind fun q=>match q with
 | (a,b) =>
  (aR (Aa) (b,[])).bind fun c =>
  (eE a c).bind fun e =>
  some e
def s9 (b:aH):Bd (Int) ((Unit)⊕(Bool))
 | a =>
  if decide (a<(b.aa.length:Int)) then
   (P.idx b.aa a).bind fun c =>
   if decide (c<0) then
    some (.inr (.inr false))
   else
    if decide (c>1048575) then
     some (.inr (.inr false))
    else
     some (.inl (IntKind.i64.wrap (a+1)))
  else
   some (.inr (.inl ()))
def dZ (a:aH):Option (Bool) :=
 (aR (s9 a) 0).bind fun q=>match q with
 | (.inl _) =>
  if ((a.aa.length:Int)==0) then
   some (a.al==0)
  else
   if (a.al==1) then
    (P.idx a.aa (IntKind.i64.wrap ((a.aa.length:Int)-1))).bind fun b =>
    some (b != 0)
   else
    if (a.al==(-1)) then
     (P.idx a.aa (IntKind.i64.wrap ((a.aa.length:Int)-1))).bind fun c =>
     some (c != 0)
    else
     some false
 | (.inr d) =>
  some d
def cA (a:(List Int)):Option (List Int):=nB 8 [] a
def mB (a:aH):Option (aH) :=
 (dZ a).bind fun b =>
 if (!b) then
  some (aH.mk 0 ([]))
 else
  (cA a.aa).bind fun c =>
  (eE (IntKind.i64.wrap (0-a.al)) c).bind fun d =>
  some d
def fN (a:Bool) (b:aH):Option (aH×Int) :=
 if (!a) then
  some ((aH.mk 0 ([])),1)
 else
  some (b,0)
def tE (a:Int):Option (Bool) :=
 some (a != a)
def gZ (a:Int) (p1:Int):Option (Int) :=
 (tE a).bind fun c =>
 (tE p1).bind fun b =>
 if c then
  if b then
   some 0
  else
   some (-1)
 else
  if b then
   some 1
  else
   if decide (a<p1) then
    some (-1)
   else
    if decide (a>p1) then
     some 1
    else
     some 0
def pK (e:(List Int)) (f:(List Int)):Bd (Int) ((Unit)⊕(Int))
 | a =>
  if decide (a>=0) then
   (P.idx e a).bind fun b =>
   (P.idx f a).bind fun c =>
   if (b != c) then
    (gZ b c).bind fun d =>
    some (.inr (.inr d))
   else
    some (.inl (IntKind.i64.wrap (a-1)))
  else
   some (.inr (.inl ()))
def iN (a:(List Int)) (b:(List Int)):Option (Int) :=
 if ((a.length:Int) != (b.length:Int)) then
  (gZ (a.length:Int) (b.length:Int)).bind fun c =>
  some c
 else
  (aR (pK a b) (IntKind.i64.wrap ((a.length:Int)-1))).bind fun q=>match q with
  | (.inl _) =>
   some 0
  | (.inr d) =>
   some d
def te (i:(List Int)) (h:Int):Bd (Int×Int×(List Int)) ((Int×(List Int)))
 | (c,a,b) =>
  if decide (a>=0) then
   (Kz .i64 c 20).bind fun d =>
   (P.idx i a).bind fun e =>
   (Zo .i64 (nN .or .i64 d e) h).bind fun f =>
   (P.idx b a).bind fun j =>
   (Z7 .i64 (nN .or .i64 d e) h).bind fun g =>
   some (.inl (g,IntKind.i64.wrap (a-1),(b.set (a).toNat f)))
  else
   some (.inr (c,b))
def qI (c:(List Int)) (e:Int):Option ((List Int)×Int) :=
 (JV 8 (c.length:Int) (c.length:Int) 0).bind fun f =>
 (aR (te c e) (0,IntKind.i64.wrap ((c.length:Int)-1),f)).bind fun q=>match q with
 | (a,b) =>
  (fO b).bind fun d =>
  some (d,a)
def xh (i:(List Int)) (b:Int) (e:Int):Bd (Int×Int×(List Int)) ((Int×(List Int)))
 | (c,a,d) =>
  if decide (a<(i.length:Int)) then
   (P.idx i a).bind fun f =>
   (P.idx d (IntKind.i64.wrap (b+a))).bind fun g =>
   (B1 .i64 (IntKind.i64.wrap ((IntKind.i64.wrap (g+(IntKind.i64.wrap (e*f))))+c)) 20).bind fun h =>
   some (.inl (h,IntKind.i64.wrap (a+1),(d.set (IntKind.i64.wrap (b+a)).toNat (nN .and .i64 (IntKind.i64.wrap ((IntKind.i64.wrap (g+(IntKind.i64.wrap (e*f))))+c)) 1048575))))
  else
   some (.inr (c,d))
def xg (h:(List Int)) (e:(List Int)):Bd (Int×(List Int)) (((List Int)))
 | (a,c) =>
  if decide (a<(h.length:Int)) then
   (P.idx h a).bind fun f =>
   (aR (xh e a f) (0,0,c)).bind fun q=>match q with
   | (d,b) =>
    (P.idx b (IntKind.i64.wrap (a+(e.length:Int)))).bind fun g =>
    some (.inl (IntKind.i64.wrap (a+1),(b.set (IntKind.i64.wrap (a+(e.length:Int))).toNat (IntKind.i64.wrap (g+d)))))
  else
   some (.inr c)
def td (b:(List Int)) (c:(List Int)):Option ((List Int)) :=
 (JV 8 (IntKind.i64.wrap ((b.length:Int)+(c.length:Int))) (IntKind.i64.wrap ((b.length:Int)+(c.length:Int))) 0).bind fun e =>
 (aR (xg b c) (0,e)).bind fun a =>
 (fO a).bind fun d =>
 some d
def od (i:(List Int)) (h:(List Int)) (j:Int):Bd (Int×Int×(List Int)) ((Int×(List Int)))
 | (c,a,d) =>
  if decide (a<((i).length:Int)) then
   (P.idx d a).bind fun e =>
   (if decide (a<(h.length:Int)) then
    (P.idx h a).bind fun f =>
    some (IntKind.i64.wrap ((IntKind.i64.wrap (e-c))-(IntKind.i64.wrap (j*f))))
   else
    some (IntKind.i64.wrap (e-c))).bind fun b =>
   (B1 .i64 b 20).bind fun g =>
   some (.inl (IntKind.i64.wrap (0-g),IntKind.i64.wrap (a+1),(d.set (a).toNat (nN .and .i64 b 1048575))))
  else
   some (.inr (c,d))
def oe (i:(List Int)) (e:(List Int)):Bd (Int×Int×(List Int)) (((List Int)))
 | (c,a,d) =>
  if decide (a<((e).length:Int)) then
   (P.idx d a).bind fun f =>
   (if decide (a<(i.length:Int)) then
    (P.idx i a).bind fun g =>
    some (IntKind.i64.wrap ((IntKind.i64.wrap (c+f))+g))
   else
    some (IntKind.i64.wrap (c+f))).bind fun b =>
   (B1 .i64 b 20).bind fun h =>
   some (.inl (h,IntKind.i64.wrap (a+1),(d.set (a).toNat (nN .and .i64 b 1048575))))
  else
   some (.inr d)
def tS (e:(List Int)) (f:(List Int)) (d:Int):Option ((List Int)×(Int)) :=
 (aR (od e f d) (0,0,e)).bind fun q=>match q with
 | (b,a) =>
  if (b==0) then
   some (a,d)
  else
   (aR (oe f a) (0,0,a)).bind fun c =>
   some (c,IntKind.i64.wrap (d-1))
def iH (a:(List Int)) (b:(List Int)) (c:Int):Option ((List Int)×(Int)):=(tS a b c).bind fun r=>if r.1.length=a.length then some r else none
def D9 {a:(List Int)} {b:(List Int)} {c:Int} {r:(List Int)×(Int)} (h:iH a b c=some r):r.1.length=a.length:=by
 unfold iH at h;obtain⟨q,d,h⟩:=ae h;split at h
 ·cases h;assumption
 ·cases h
def xd (c:(List Int)):Bd (Int) ((Int))
 | a =>
  (P.idx c (IntKind.i64.wrap ((c.length:Int)-1))).bind fun b =>
  if decide ((IntKind.i64.wrap (b*a))<524288) then
   some (.inl (IntKind.i64.wrap (a*2)))
  else
   some (.inr a)
def xf (d:(List Int)) (e:Int) (f:(List Int)) (g:Int):Bd (Int×Int) ((Int))
 | (a,b) =>
  (if decide (a>=1048576) then
   some true
  else
   if decide (b<1048576) then
    (P.idx d (IntKind.i64.wrap (((d).length:Int)-2))).bind fun h =>
    (Kz .i64 b 20).bind fun i =>
    (P.idx f (IntKind.i64.wrap ((IntKind.i64.wrap (e+((d).length:Int)))-2))).bind fun j =>
    some (decide ((IntKind.i64.wrap (a*h))>(nN .or .i64 i j)))
   else
    some false).bind fun c =>
  if c then
   some (.inl (IntKind.i64.wrap (a-1),IntKind.i64.wrap (b+g)))
  else
   some (.inr a)
def xe (b:(List Int)):Bd (Int×(List Int)×(List Int)) (((List Int)×(List Int)))
 | (a,c,d) =>
  if decide (a>=0) then
   (P.idx c (IntKind.i64.wrap (a+((b).length:Int)))).bind fun j =>
   (Kz .i64 j 20).bind fun g =>
   (P.idx c (IntKind.i64.wrap ((IntKind.i64.wrap (a+((b).length:Int)))-1))).bind fun h =>
   (P.idx b (IntKind.i64.wrap (((b).length:Int)-1))).bind fun e =>
   (Zo .i64 (nN .or .i64 g h) e).bind fun k =>
   (Z7 .i64 (nN .or .i64 g h) e).bind fun l =>
   (aR (xf b a c e) (k,l)).bind fun f =>
   (Ge c a (IntKind.i64.wrap ((IntKind.i64.wrap (a+((b).length:Int)))+1))).bind fun m =>
   (iH m b f).bind fun i =>
   (P.idx d a).bind fun n =>
   some (.inl (IntKind.i64.wrap (a-1),(c.take (a).toNat++(i.1++c.drop (IntKind.i64.wrap ((IntKind.i64.wrap (a+((b).length:Int)))+1)).toNat)),(d.set (a).toNat i.2)))
  else
   some (.inr (c,d))
def xc (f:(List Int)) (g:(List Int)):Option ((List Int)×(List Int)) :=
 (iN f g).bind fun p =>
 if decide (p<0) then
  (cA f).bind fun r =>
  some ([],r)
 else
  if ((g.length:Int)==1) then
   (P.idx g 0).bind fun s =>
   (qI f s).bind fun o =>
   (fO ([o.2])).bind fun t =>
   some (o.1,t)
  else
   (aR (xd g) 1).bind fun a =>
   (td f ([a])).bind fun j =>
   (nB 8 j [0]).bind fun c =>
   (td g ([a])).bind fun d =>
   (if (((c).length:Int)==(f.length:Int)) then
    (nB 8 c [0]).bind fun k =>
    some k
   else
    some c).bind fun b =>
   (JV 8 (IntKind.i64.wrap (((b).length:Int)-((d).length:Int))) (IntKind.i64.wrap (((b).length:Int)-((d).length:Int))) 0).bind fun h =>
   (aR (xe d) (IntKind.i64.wrap (((h).length:Int)-1),b,h)).bind fun q=>match q with
   | (i,e) =>
    (fO i).bind fun l =>
    (qI l a).bind fun m =>
    (fO e).bind fun n =>
    some (n,m.1)
def tP:Bd ((List Int)×(List Int)) (((List Int)))
 | (b,a) =>
  if decide ((a.length:Int)>0) then
   (xc b a).bind fun c =>
   some (.inl (a,c.2))
  else
   some (.inr b)
def uZ (g:aH) (h:aH):Option (aH×Int) :=
 (dZ g).bind fun j =>
 (if (!j) then
  some true
 else
  (dZ h).bind fun d =>
  some (!d)).bind fun a =>
 if a then
  (fN false (aH.mk 0 ([]))).bind fun i =>
  some (i.1,i.2)
 else
  (cA g.aa).bind fun k =>
  (aR (tP) (k,h.aa)).bind fun b =>
  (cA b).bind fun e =>
  (eE 1 e).bind fun f =>
  (fN true f).bind fun c =>
  some (c.1,c.2)
def tR (b:(List Int)) (c:(List Int)):Bd (Int×Int×(List Int)) ((Int×(List Int)))
 | (e,a,f) =>
  if decide (a<(b.length:Int)) then
   (P.idx b a).bind fun g =>
   (if decide (a<(c.length:Int)) then
    (P.idx c a).bind fun h =>
    some (IntKind.i64.wrap ((IntKind.i64.wrap (e+g))+h))
   else
    some (IntKind.i64.wrap (e+g))).bind fun d =>
   (P.idx f a).bind fun j =>
   (B1 .i64 d 20).bind fun i =>
   some (.inl (i,IntKind.i64.wrap (a+1),(f.set (a).toNat (nN .and .i64 d 1048575))))
  else
   some (.inr (e,f))
def u3 (e:(List Int)) (f:(List Int)):Option ((List Int)) :=
 (if decide ((e.length:Int)<(f.length:Int)) then
  some (f,e)
 else
  some (e,f)).bind fun q=>match q with
 | (a,c) =>
  (JV 8 (IntKind.i64.wrap ((a.length:Int)+1)) (IntKind.i64.wrap ((a.length:Int)+1)) 0).bind fun h =>
  (aR (tR a c) (0,0,h)).bind fun q=>match q with
  | (d,b) =>
   (P.idx b (a.length:Int)).bind fun i =>
   (fO (b.set ((a.length:Int)).toNat d)).bind fun g =>
   some g
def xi (h:(List Int)) (i:(List Int)):Bd (Int×Int×(List Int)) (((List Int)))
 | (d,a,c) =>
  if decide (a<((i).length:Int)) then
   (P.idx c a).bind fun e =>
   (if decide (a<(h.length:Int)) then
    (P.idx h a).bind fun f =>
    some (IntKind.i64.wrap ((IntKind.i64.wrap (e-d))-f))
   else
    some (IntKind.i64.wrap (e-d))).bind fun b =>
   (B1 .i64 b 20).bind fun g =>
   some (.inl (nN .and .i64 g 1,IntKind.i64.wrap (a+1),(c.set (a).toNat (nN .and .i64 b 1048575))))
  else
   some (.inr c)
def u4 (d:(List Int)) (e:(List Int)):Option ((List Int)) :=
 (cA d).bind fun c =>
 (aR (xi e c) (0,0,c)).bind fun a =>
 (fO a).bind fun b =>
 some b
def s8 (c:aH) (a:aH):Option (aH×aH×Int) :=
 (dZ c).bind fun l =>
 (if (!l) then
  some true
 else
  (dZ a).bind fun f =>
  some (!f)).bind fun d =>
 if d then
  some ((aH.mk 0 ([])),(aH.mk 0 ([])),1)
 else
  if (a.al==0) then
   some ((aH.mk 0 ([])),(aH.mk 0 ([])),15)
  else
   (xc c.aa a.aa).bind fun e =>
   (if decide ((IntKind.i64.wrap (c.al*a.al))<0) then
    some (decide ((e.2.length:Int)>0))
   else
    some false).bind fun b =>
   if b then
    (u3 e.1 ([1])).bind fun m =>
    (eE (-1) m).bind fun g =>
    (u4 a.aa e.2).bind fun h =>
    (eE a.al h).bind fun i =>
    some (g,i,0)
   else
    (eE (IntKind.i64.wrap (c.al*a.al)) e.1).bind fun j =>
    (eE c.al e.2).bind fun k =>
    some (j,k,0)
def pP (i:aH) (f:aH):Option (ah×Int) :=
 (dZ i).bind fun l =>
 (if (!l) then
  some true
 else
  (dZ f).bind fun j =>
  some (!j)).bind fun e =>
 if e then
  some ((ah.mk (aH.mk 0 ([])) (aH.mk 0 ([]))),1)
 else
  if (f.al==0) then
   some ((ah.mk (aH.mk 0 ([])) (aH.mk 0 ([]))),15)
  else
   (if decide (f.al<0) then
    (mB i).bind fun g =>
    (mB f).bind fun h =>
    some (g.al,g.aa,h.al,h.aa)
   else
    some (i.al,i.aa,f.al,f.aa)).bind fun q=>match q with
   | (a,b,c,d) =>
    (uZ (aH.mk a b) (aH.mk c d)).bind fun k =>
    (s8 (aH.mk a b) k.1).bind fun m =>
    (s8 (aH.mk c d) k.1).bind fun n =>
    some ((ah.mk m.1 n.1),0)
def pQ (b:Int) (c:Int):Option (ah×Int) :=
 (xb b).bind fun d =>
 (xb c).bind fun e =>
 (pP d e).bind fun a =>
 some (a.1,a.2)
def um (a:Int) (b:Int):Option (ah) :=
 (pQ a b).bind fun c =>
 some c.1
def vd:Option (bf×(List (List ah))) :=
 (um 1 1).bind fun b =>
 (um 1 2).bind fun c =>
 (um 0 1).bind fun a =>
 (um 30 1).bind fun d =>
 some ((bf.mk ([10,4]) ([(bo.mk (dR.mk ([(ir.mk 0 0 0),(ir.mk 1 0 0)]) ([(sC.mk 0 0 0 (ByteArray.mk #[])),(sC.mk 2 0 0 (ByteArray.mk #[104,101,97,116]))]) ([[b,c],[a,c]])) ([(iG.mk 1 2)]) ([0])),(bo.mk (dR.mk ([(ir.mk 1 0 0)]) ([(sC.mk 0 0 0 (ByteArray.mk #[]))]) ([[b]])) ([(iG.mk 0 5)]) ([1]))])),[[d,a],[a]])
def fH (a:Int) (b:Int) (c:Int):Option (Bool) :=
 if decide (a>=b) then
  some (decide (a<=c))
 else
  some false
def fb (a:Int):Option (ah) :=
 (xb a).bind fun b =>
 (xb 1).bind fun c =>
 some (ah.mk b c)
def xa (f:aH):Bd (Int×Int) ((Int)⊕(Int×Bool))
 | (c,a) =>
  if decide (a<(f.aa.length:Int)) then
   (P.idx f.aa a).bind fun d =>
   (if (a==3) then
    some (decide (d>8))
   else
    some false).bind fun b =>
   if b then
    some (.inr (.inr (0,false)))
   else
    (Kz .u64 (IntKind.u64.wrap d) (IntKind.i64.wrap (20*a))).bind fun e =>
    some (.inl (nN .or .u64 c e,IntKind.i64.wrap (a+1)))
  else
   some (.inr (.inl c))
def z7 (d:aH):Option (Int×Bool) :=
 (dZ d).bind fun e =>
 (if (!e) then
  some true
 else
  some (decide ((d.aa.length:Int)>4))).bind fun b =>
 if b then
  some (0,false)
 else
  (aR (xa d) (0,0)).bind fun q=>match q with
  | (.inl a) =>
   (if decide (d.al<0) then
    some (decide (a<=9223372036854775808))
   else
    some false).bind fun c =>
   if c then
    some (IntKind.i64.wrap (IntKind.u64.wrap (0-a)),true)
   else
    if decide (d.al>=0) then
     if decide (a<9223372036854775808) then
      some (IntKind.i64.wrap a,true)
     else
      some (0,false)
    else
     some (0,false)
  | (.inr f) =>
   some f
def wz (b:aH):Option (Bool) :=
 (z7 b).bind fun a =>
 if a.2 then
  some (a.1==1)
 else
  some false
def cK (b:ah):Option (Bool) :=
 (dZ b.bn).bind fun d =>
 (if (!d) then
  some true
 else
  (dZ b.bu).bind fun e =>
  if (!e) then
   some true
  else
   some (b.bu.al != 1)).bind fun a =>
 if a then
  some false
 else
  (uZ b.bn b.bu).bind fun c =>
  if (c.2==0) then
   (wz c.1).bind fun f =>
   some f
  else
   some false
def fP (a:ah):Option (Int) :=
 (cK a).bind fun b =>
 if (!b) then
  some 0
 else
  some a.bn.al
def z8 (b:aH) (c:aH):Option (aH×Int) :=
 (dZ b).bind fun g =>
 (if (!g) then
  some true
 else
  (dZ c).bind fun d =>
  some (!d)).bind fun a =>
 if a then
  (fN false (aH.mk 0 ([]))).bind fun e =>
  some (e.1,e.2)
 else
  (td b.aa c.aa).bind fun h =>
  (eE (IntKind.i64.wrap (b.al*c.al)) h).bind fun i =>
  (fN true i).bind fun f =>
  some (f.1,f.2)
def da (a:aH) (b:aH):Option (aH) :=
 (z8 a b).bind fun c =>
 some c.1
def Ad (b:(List Int)):Bd (Int) ((Unit)⊕(Int))
 | a =>
  if decide (a<(b.length:Int)) then
   (P.idx b a).bind fun c =>
   if (c != 0) then
    some (.inr (.inr c))
   else
    some (.inl (IntKind.i64.wrap (a+1)))
  else
   some (.inr (.inl ()))
def yR (a:(List Int)):Option (Int) :=
 (aR (Ad a) 0).bind fun q=>match q with
 | (.inl _) =>
  some 0
 | (.inr b) =>
  some b
def z6 (a:aH) (b:aH):Option (aH×Int) :=
 (dZ a).bind fun o =>
 (if (!o) then
  some true
 else
  (dZ b).bind fun g =>
  some (!g)).bind fun c =>
 if c then
  (fN false (aH.mk 0 ([]))).bind fun n =>
  some (n.1,n.2)
 else
  if decide ((IntKind.i64.wrap (a.al*b.al))>=0) then
   (yR ([a.al,b.al])).bind fun p =>
   (u3 a.aa b.aa).bind fun q =>
   (eE p q).bind fun h =>
   (fN true h).bind fun d =>
   some (d.1,d.2)
  else
   (iN a.aa b.aa).bind fun i =>
   if decide (i<0) then
    (u4 b.aa a.aa).bind fun j =>
    (eE b.al j).bind fun k =>
    (fN true k).bind fun e =>
    some (e.1,e.2)
   else
    (u4 a.aa b.aa).bind fun l =>
    (eE a.al l).bind fun m =>
    (fN true m).bind fun f =>
    some (f.1,f.2)
def dY (b:ah) (c:ah):Option (ah×Int) :=
 (cK b).bind fun f =>
 (if (!f) then
  some true
 else
  (cK c).bind fun d =>
  some (!d)).bind fun a =>
 if a then
  some ((ah.mk (aH.mk 0 ([])) (aH.mk 0 ([]))),1)
 else
  (da b.bn c.bu).bind fun g =>
  (da c.bn b.bu).bind fun h =>
  (z6 g h).bind fun i =>
  (da b.bu c.bu).bind fun j =>
  (pP i.1 j).bind fun e =>
  some (e.1,e.2)
def tu (a:ah) (b:ah):Option (ah) :=
 (dY a b).bind fun c =>
 some c.1
def oX (b:aH) (c:aH):Option (Int) :=
 (dZ b).bind fun d =>
 (if (!d) then
  some true
 else
  (dZ c).bind fun e =>
  some (!e)).bind fun a =>
 if a then
  some 0
 else
  if (b.al != c.al) then
   (gZ b.al c.al).bind fun f =>
   some f
  else
   (iN b.aa c.aa).bind fun g =>
   some (IntKind.i64.wrap (b.al*g))
def kP (b:ah) (c:ah):Option (Int) :=
 (cK b).bind fun d =>
 (if (!d) then
  some true
 else
  (cK c).bind fun e =>
  some (!e)).bind fun a =>
 if a then
  some 0
 else
  (da b.bn c.bu).bind fun f =>
  (da c.bn b.bu).bind fun g =>
  (oX f g).bind fun h =>
  some h
def tv (j:(List ah)):Bd (Int×Int×(List Int)×Int×(List Int)) ((Int×(List Int)×Int×(List Int))⊕(Bool))
 | (f,a,b,c,d) =>
  if decide (f<(j.length:Int)) then
   (P.idx j f).bind fun g =>
   (cK g).bind fun h =>
   if (!h) then
    some (.inr (.inr false))
   else
    (fP g).bind fun i =>
    if decide (i<0) then
     some (.inr (.inr false))
    else
     (tu (ah.mk (aH.mk a b) (aH.mk c d)) g).bind fun e =>
     some (.inl (IntKind.i64.wrap (f+1),e.bn.al,e.bn.aa,e.bu.al,e.bu.aa))
  else
   some (.inr (.inl (a,b,c,d)))
def tH (h:(List ah)):Option (Bool) :=
 (fb 0).bind fun e =>
 (aR (tv h) (0,e.bn.al,e.bn.aa,e.bu.al,e.bu.aa)).bind fun q=>match q with
 | (.inl (a,b,c,d)) =>
  (fb 1).bind fun f =>
  (kP (ah.mk (aH.mk a b) (aH.mk c d)) f).bind fun g =>
  some (g==0)
 | (.inr i) =>
  some i
def mW (c:dR):Bd (Int) ((Unit)⊕(Bool))
 | a =>
  if decide (a<(c.aG.length:Int)) then
   (P.idx c.aG a).bind fun b =>
   (fH b.a8 0 3).bind fun d =>
   if (!d) then
    some (.inr (.inr false))
   else
    if decide (b.aS<0) then
     some (.inr (.inr false))
    else
     (P.idx c.aO a).bind fun e =>
     if ((e.length:Int) != (c.aq.length:Int)) then
      some (.inr (.inr false))
     else
      some (.inl (IntKind.i64.wrap (a+1)))
  else
   some (.inr (.inl ()))
def iW (f:dR) (c:Int):Bd (Int×(List ah)) (((List ah)))
 | (a,b) =>
  if decide (a<(f.aG.length:Int)) then
   (P.idx f.aO a).bind fun d =>
   (P.idx d c).bind fun e =>
   (P.idx b a).bind fun g =>
   some (.inl (IntKind.i64.wrap (a+1),(b.set (a).toNat e)))
  else
   some (.inr b)
def mX (b:dR):Bd (Int) ((Unit)⊕(Bool))
 | a =>
  if decide (a<(b.aq.length:Int)) then
   (P.idx b.aq a).bind fun c =>
   (JV 64 (b.aG.length:Int) (b.aG.length:Int) (ah.mk (aH.mk 0 ([])) (aH.mk 0 ([])))).bind fun e =>
   (aR (iW b a) (0,e)).bind fun d =>
   (fH c.a8 0 2).bind fun f =>
   if (!f) then
    some (.inr (.inr false))
   else
    if decide (c.aS<0) then
     some (.inr (.inr false))
    else
     (tH d).bind fun g =>
     if (!g) then
      some (.inr (.inr false))
     else
      some (.inl (IntKind.i64.wrap (a+1)))
  else
   some (.inr (.inl ()))
def lz (b:dR):Option (Bool) :=
 (if decide ((b.aq.length:Int)>100) then
  some true
 else
  if decide ((b.aG.length:Int)>100) then
   some true
  else
   some ((b.aO.length:Int) != (b.aG.length:Int))).bind fun a =>
 if a then
  some false
 else
  (aR (mW b) 0).bind fun q=>match q with
  | (.inl _) =>
   (aR (mX b) 0).bind fun q=>match q with
   | (.inl _) =>
    some true
   | (.inr rc) =>
    some rc
  | (.inr c) =>
   some c
def qX (a:iG) (b:Int):Option (Bool) :=
 (fH a.b8 0 (IntKind.i64.wrap (b-1))).bind fun c =>
 if (!c) then
  some true
 else
  (fH a.aB 1 1099511627776).bind fun d =>
  some (!d)
def qY (a:Int) (b:Int):Option (Bool) :=
 (fH a 0 (IntKind.i64.wrap (b-1))).bind fun c =>
 some (!c)
def rJ (a:(List Int)):Option (List Int):=Pu a
def dx (a:(List Int)):Option (List Int):=Gt a
def pY (b:(List Int)):Bd (Int) ((Unit)⊕(Bool))
 | a =>
  if decide (a<((b).length:Int)) then
   (P.idx b a).bind fun c =>
   if (a != c) then
    some (.inr (.inr false))
   else
    some (.inl (IntKind.i64.wrap (a+1)))
  else
   some (.inr (.inl ()))
def mi (b:(List Int)) (c:Int):Option (Bool) :=
 (rJ b).bind fun d =>
 (dx d).bind fun a =>
 (aR (pY a) 0).bind fun q=>match q with
 | (.inl _) =>
  some (((a).length:Int)==c)
 | (.inr e) =>
  some e
def ee (c:(List iG)) (b:Int):Bd (Int) ((Unit)⊕(Int))
 | a =>
  if decide (a<(c.length:Int)) then
   (P.idx c a).bind fun d =>
   (qX d b).bind fun e =>
   if e then
    some (.inr (.inr a))
   else
    some (.inl (IntKind.i64.wrap (a+1)))
  else
   some (.inr (.inl ()))
def dy (b:(List iG)) (a:Int):Option (Int) :=
 (aR (ee b a) 0).bind fun q=>match q with
 | (.inl _) =>
  some (-1)
 | (.inr c) =>
  some c
def cy (b:(List iG)) (a:Int):Option (Bool) :=
 (dy b a).bind fun c =>
 some (decide (c>=0))
def ef (c:(List Int)) (b:Int):Bd (Int) ((Unit)⊕(Int))
 | a =>
  if decide (a<(c.length:Int)) then
   (P.idx c a).bind fun d =>
   (qY d b).bind fun e =>
   if e then
    some (.inr (.inr a))
   else
    some (.inl (IntKind.i64.wrap (a+1)))
  else
   some (.inr (.inl ()))
def dz (b:(List Int)) (a:Int):Option (Int) :=
 (aR (ef b a) 0).bind fun q=>match q with
 | (.inl _) =>
  some (-1)
 | (.inr c) =>
  some c
def cz (b:(List Int)) (a:Int):Option (Bool) :=
 (dz b a).bind fun c =>
 some (decide (c>=0))
def pb (e:bo):Bd (Int×(List Int)) (((List Int)))
 | (a,b) =>
  if decide (a<(e.av.aq.length:Int)) then
   (P.idx e.av.aq a).bind fun c =>
   if (c.a8==1) then
    (nB 8 b [c.aS]).bind fun d =>
    some (.inl (IntKind.i64.wrap (a+1),d))
   else
    some (.inl (IntKind.i64.wrap (a+1),b))
  else
   some (.inr b)
def pc (e:bo):Bd (Int×(List Int)) (((List Int)))
 | (a,b) =>
  if decide (a<(e.av.aG.length:Int)) then
   (P.idx e.av.aG a).bind fun c =>
   if (c.a8==0) then
    (nB 8 b [c.aS]).bind fun d =>
    some (.inl (IntKind.i64.wrap (a+1),d))
   else
    some (.inl (IntKind.i64.wrap (a+1),b))
  else
   some (.inr b)
def wD (a:bo) (h:Int):Option (Bool) :=
 (lz a.av).bind fun i =>
 if (!i) then
  some false
 else
  (aR (pb a) (0,[])).bind fun b =>
  (aR (pc a) (0,[])).bind fun c =>
  (mi b (a.bC.length:Int)).bind fun d =>
  if d then
   (mi c (a.aC.length:Int)).bind fun e =>
   if e then
    (cy a.bC h).bind fun f =>
    if (!f) then
     (cz a.aC h).bind fun g =>
     some (!g)
    else
     some false
   else
    some false
  else
   some false
def mN (c:bf):Bd (Int) ((Unit)⊕(Int×Int))
 | a =>
  if decide (a<(c.aw.length:Int)) then
   (P.idx c.aw a).bind fun d =>
   (fH d 1 1099511627776).bind fun b =>
   if (!b) then
    some (.inr (.inr (3,a)))
   else
    some (.inl (IntKind.i64.wrap (a+1)))
  else
   some (.inr (.inl ()))
def mO (c:bo):Bd (Int×(List Int)) (((List Int)))
 | (a,b) =>
  if decide (a<(c.aC.length:Int)) then
   (P.idx c.aC a).bind fun d =>
   (P.idx b d).bind fun e =>
   some (.inl (IntKind.i64.wrap (a+1),(b.set (d).toNat (IntKind.i64.wrap (e+1)))))
  else
   some (.inr b)
def mP (d:bo):Bd (Int×(List Int)) (((List Int)))
 | (a,c) =>
  if decide (a<(d.bC.length:Int)) then
   (P.idx d.bC a).bind fun b =>
   (P.idx c b.b8).bind fun e =>
   some (.inl (IntKind.i64.wrap (a+1),(c.set (b.b8).toNat (if 1099511627777<(IntKind.i64.wrap (e+b.aB)) then 1099511627777 else IntKind.i64.wrap (e+b.aB)))))
  else
   some (.inr c)
def kU (g:bf):Bd (Int×(List Int)×(List Int)) (((List Int)×(List Int))⊕(Int×Int))
 | (a,c,d) =>
  if decide (a<(g.au.length:Int)) then
   (P.idx g.au a).bind fun b =>
   (wD b (g.aw.length:Int)).bind fun h =>
   if (!h) then
    some (.inr (.inr (1,a)))
   else
    (aR (mO b) (0,c)).bind fun e =>
    (aR (mP b) (0,d)).bind fun f =>
    some (.inl (IntKind.i64.wrap (a+1),e,f))
  else
   some (.inr (.inl (c,d)))
def mQ (b:(List Int)):Bd (Int) ((Unit)⊕(Int×Int))
 | a =>
  if decide (a<((b).length:Int)) then
   (P.idx b a).bind fun c =>
   if (c==0) then
    some (.inr (.inr (21,a)))
   else
    if decide (c>1) then
     some (.inr (.inr (5,a)))
    else
     some (.inl (IntKind.i64.wrap (a+1)))
  else
   some (.inr (.inl ()))
def mR (d:bf) (b:(List Int)):Bd (Int) ((Unit)⊕(Int×Int))
 | a =>
  if decide (a<((b).length:Int)) then
   (P.idx b a).bind fun c =>
   (P.idx d.aw a).bind fun x76 =>
   if decide (c>x76) then
    some (.inr (.inr (25,a)))
   else
    some (.inl (IntKind.i64.wrap (a+1)))
  else
   some (.inr (.inl ()))
def o0 (a:bf):Option (Int×Int) :=
 (if decide ((a.aw.length:Int)>2000) then
  some true
 else
  some (decide ((a.au.length:Int)>400))).bind fun b =>
 if b then
  some (6,0)
 else
  (aR (mN a) 0).bind fun q=>match q with
  | (.inl _) =>
   (JV 8 (a.aw.length:Int) (a.aw.length:Int) 0).bind fun c =>
   (aR (kU a) (0,c,c)).bind fun q=>match q with
   | (.inl (d,e)) =>
    (aR (mQ d) 0).bind fun q=>match q with
    | (.inl _) =>
     (aR (mR a e) 0).bind fun q=>match q with
     | (.inl _) =>
      some (0,0)
     | (.inr f) =>
      some f
    | (.inr g) =>
     some g
   | (.inr rc) =>
    some rc
  | (.inr h) =>
   some h
def nP (g:dR) (f:(List ah)):Bd (Int) ((Unit)⊕(Bool))
 | a =>
  if decide (a<(f.length:Int)) then
   (P.idx f a).bind fun b =>
   (cK b).bind fun c =>
   if (!c) then
    some (.inr (.inr false))
   else
    (P.idx g.aq a).bind fun d =>
    if (d.a8==1) then
     (fP b).bind fun e =>
     if (e != 0) then
      some (.inr (.inr false))
     else
      some (.inl (IntKind.i64.wrap (a+1)))
    else
     some (.inl (IntKind.i64.wrap (a+1)))
  else
   some (.inr (.inl ()))
def qJ (a:dR) (b:(List ah)):Option (Bool) :=
 if ((b.length:Int) != (a.aq.length:Int)) then
  some false
 else
  (aR (nP a b) 0).bind fun q=>match q with
  | (.inl _) =>
   some true
  | (.inr c) =>
   some c
def nO (a:ah):Option (Bool) :=
 (fP a).bind fun b =>
 some (decide (b<0))
def ez (b:(List ah)):Bd (Int) ((Unit)⊕(Int))
 | a =>
  if decide (a<(b.length:Int)) then
   (P.idx b a).bind fun c =>
   (nO c).bind fun d =>
   if d then
    some (.inr (.inr a))
   else
    some (.inl (IntKind.i64.wrap (a+1)))
  else
   some (.inr (.inl ()))
def dK (a:(List ah)):Option (Int) :=
 (aR (ez a) 0).bind fun q=>match q with
 | (.inl _) =>
  some (-1)
 | (.inr b) =>
  some b
def cI (a:(List ah)):Option (Bool) :=
 (dK a).bind fun b =>
 some (decide (b>=0))
def lY (d:bf) (e:(List (List ah))):Bd (Int) ((Unit)⊕(Int))
 | a =>
  if decide (a<(d.au.length:Int)) then
   (P.idx d.au a).bind fun f =>
   (P.idx e a).bind fun b =>
   (qJ f.av b).bind fun c =>
   if (!c) then
    some (.inr (.inr 1))
   else
    some (.inl (IntKind.i64.wrap (a+1)))
  else
   some (.inr (.inl ()))
def lZ (d:(List (List ah))):Bd (Int) ((Unit)⊕(Int))
 | a =>
  if decide (a<(d.length:Int)) then
   (P.idx d a).bind fun b =>
   (cI b).bind fun c =>
   if c then
    some (.inr (.inr 3))
   else
    some (.inl (IntKind.i64.wrap (a+1)))
  else
   some (.inr (.inl ()))
def lX (b:bf) (a:(List (List ah))):Option (Int) :=
 if ((a.length:Int) != (b.au.length:Int)) then
  some 1
 else
  (aR (lY b a) 0).bind fun q=>match q with
  | (.inl _) =>
   (aR (lZ a) 0).bind fun q=>match q with
   | (.inl _) =>
    some 0
   | (.inr c) =>
    some c
  | (.inr d) =>
   some d
def nS (b:ah) (c:ah):Option (ah×Int) :=
 (cK b).bind fun e =>
 (if (!e) then
  some true
 else
  (cK c).bind fun f =>
  some (!f)).bind fun a =>
 if a then
  some ((ah.mk (aH.mk 0 ([])) (aH.mk 0 ([]))),1)
 else
  (da b.bn c.bn).bind fun g =>
  (da b.bu c.bu).bind fun h =>
  (pP g h).bind fun d =>
  some (d.1,d.2)
def iV (g:bo) (e:Int) (c:iG) (j:ah×Int):Bd (Int×(List ((Int×Int)×ah))) (((List ((Int×Int)×ah))))
 | (a,b) =>
  if decide (a<(g.av.aG.length:Int)) then
   (P.idx g.av.aG a).bind fun h =>
   (if (h.a8 != 0) then
    some true
   else
    (P.idx g.av.aO a).bind fun k =>
    (P.idx k e).bind fun l =>
    (fP l).bind fun m =>
    some (m==0)).bind fun f =>
   if f then
    some (.inl (IntKind.i64.wrap (a+1),b))
   else
    (P.idx g.aC h.aS).bind fun d =>
    (P.idx g.av.aO a).bind fun n =>
    (P.idx n e).bind fun o =>
    (nS j.1 o).bind fun i =>
    if qu b (c.b8,d) then
     (tu (ah.mk ((gO (ah.mk (aH.mk 0 ([])) (aH.mk 0 ([]))) b (c.b8,d)).bn) ((gO (ah.mk (aH.mk 0 ([])) (aH.mk 0 ([]))) b (c.b8,d)).bu)) i.1).bind fun p =>
     some (.inl (IntKind.i64.wrap (a+1),(uC b (c.b8,d) p)))
    else
     some (.inl (IntKind.i64.wrap (a+1),(uC b (c.b8,d) i.1)))
  else
   some (.inr b)
def kE (i:(List Int)) (f:bo):Bd (Int×(List ((Int×Int)×ah))) (((List ((Int×Int)×ah))))
 | (a,b) =>
  if decide (a<(f.av.aq.length:Int)) then
   (P.idx f.av.aq a).bind fun d =>
   if (d.a8 != 1) then
    some (.inl (IntKind.i64.wrap (a+1),b))
   else
    (P.idx f.bC d.aS).bind fun c =>
    (P.idx i c.b8).bind fun g =>
    (pQ c.aB g).bind fun h =>
    (aR (iV f a c h) (0,b)).bind fun e =>
    some (.inl (IntKind.i64.wrap (a+1),e))
  else
   some (.inr b)
def ka (b:(List ((Int×Int)×ah))) (c:(List Int)) (d:bo):Option ((List ((Int×Int)×ah))×(Unit)) :=
 (aR (kE c d) (0,b)).bind fun a =>
 some (a,())
def qW (a:cN) (b:cN):Option (Int) :=
 (gZ a.dA b.dA).bind fun c =>
 (gZ a.lH b.lH).bind fun d =>
 (yR ([c,d])).bind fun e =>
 some e
def Gn (p:Int) (m:List ((Int×Int)×ah)):Option (ik×Int) :=
 if m.length<=8000∧(m.map (·.1)).Nodup then some (ik.mk p (sS (lQ cN.dA cN.lH) (m.map fun q=>cN.mk q.1.1 q.1.2 q.2)),0) else none
def tG (c:bf):Bd (Int×(List ((Int×Int)×ah))) (((List ((Int×Int)×ah))))
 | (a,b) =>
  if decide (a<(c.au.length:Int)) then
   (P.idx c.au a).bind fun e =>
   (ka b c.aw e).bind fun d =>
   some (.inl (IntKind.i64.wrap (a+1),d.1))
  else
   some (.inr b)
def Ef (b:bf):Option (ik×Int) :=
 (o0 b).bind fun c =>
 if (c.1 != 0) then
  some ((ik.mk 0 ([])),c.1)
 else
  (aR (tG b) (0,([]:(List ((Int×Int)×ah))))).bind fun a =>
  if decide ((a.length:Int)>8000) then
   some ((ik.mk 0 ([])),6)
  else
   Gn (b.aw.length:Int) a
def k9 (j:(List ah)) (i:(List ah)):Bd (Int×Int×(List Int)×Int×(List Int)) ((Int×(List Int)×Int×(List Int)))
 | (a,b,c,d,e) =>
  if decide (a<(i.length:Int)) then
   (P.idx i a).bind fun k =>
   (P.idx j a).bind fun g =>
   (nS g k).bind fun h =>
   (dY (ah.mk (aH.mk b c) (aH.mk d e)) h.1).bind fun f =>
   some (.inl (IntKind.i64.wrap (a+1),f.1.bn.al,f.1.bn.aa,f.1.bu.al,f.1.bu.aa))
  else
   some (.inr (b,c,d,e))
def jK (f:(List ah)) (g:(List ah)):Option (ah) :=
 (fb 0).bind fun e =>
 (aR (k9 f g) (0,e.bn.al,e.bn.aa,e.bu.al,e.bu.aa)).bind fun q=>match q with
 | (a,b,c,d) =>
  some (ah.mk (aH.mk a b) (aH.mk c d))
def jD (j:(List (List ah))) (d:Int) (b:bo):Bd (Int×(List ah)) (((List ah)))
 | (a,c) =>
  if decide (a<(b.av.aG.length:Int)) then
   (P.idx b.av.aG a).bind fun e =>
   if (e.a8==0) then
    (P.idx b.aC e.aS).bind fun f =>
    (P.idx b.av.aO a).bind fun g =>
    (P.idx j d).bind fun h =>
    (jK g h).bind fun i =>
    (P.idx c f).bind fun k =>
    some (.inl (IntKind.i64.wrap (a+1),(c.set (f).toNat i)))
   else
    some (.inl (IntKind.i64.wrap (a+1),c))
  else
   some (.inr c)
def jC (e:bf) (f:(List (List ah))):Bd (Int×(List ah)) (((List ah)))
 | (a,b) =>
  if decide (a<(e.au.length:Int)) then
   (P.idx e.au a).bind fun d =>
   (aR (jD f a d) (0,b)).bind fun c =>
   some (.inl (IntKind.i64.wrap (a+1),c))
  else
   some (.inr b)
def mC (b:bf) (c:(List (List ah))):Option ((List ah)) :=
 (JV 64 (b.aw.length:Int) (b.aw.length:Int) (ah.mk (aH.mk 0 ([])) (aH.mk 0 ([])))).bind fun d =>
 (aR (jC b c) (0,d)).bind fun a =>
 some a
def rT (c:ah) (b:ah):Option (ah×Int) :=
 (cK c).bind fun e =>
 (if (!e) then
  some true
 else
  (cK b).bind fun f =>
  some (!f)).bind fun a =>
 if a then
  some ((ah.mk (aH.mk 0 ([])) (aH.mk 0 ([]))),1)
 else
  (mB b.bn).bind fun g =>
  (dY c (ah.mk g b.bu)).bind fun d =>
  some (d.1,d.2)
def pW (c:(List ah)):Bd (Int×(List ah)) (((List ah)))
 | (a,b) =>
  if decide (a<((c).length:Int)) then
   (fb 1).bind fun d =>
   (P.idx b a).bind fun e =>
   some (.inl (IntKind.i64.wrap (a+1),(b.set (a).toNat d)))
  else
   some (.inr b)
def pX (f:ik):Bd (Int×(List ah)) (((List ah)))
 | (a,b) =>
  if decide (a<(f.bq.length:Int)) then
   (P.idx f.bq a).bind fun c =>
   (P.idx b c.dA).bind fun d =>
   (rT d c.gE).bind fun e =>
   some (.inl (IntKind.i64.wrap (a+1),(b.set (c.dA).toNat e.1)))
  else
   some (.inr b)
def qZ (c:ik):Option ((List ah)) :=
 (JV 64 c.aC c.aC (ah.mk (aH.mk 0 ([])) (aH.mk 0 ([])))).bind fun d =>
 (aR (pW d) (0,d)).bind fun a =>
 (aR (pX c) (0,a)).bind fun b =>
 some b
def sd (a:ah):Option (Bool) :=
 (fP a).bind fun b =>
 some (decide (b<0))
def eP (b:(List ah)):Bd (Int) ((Unit)⊕(Int))
 | a =>
  if decide (a<(b.length:Int)) then
   (P.idx b a).bind fun c =>
   (sd c).bind fun d =>
   if d then
    some (.inr (.inr a))
   else
    some (.inl (IntKind.i64.wrap (a+1)))
  else
   some (.inr (.inl ()))
def ep (a:(List ah)):Option (Int) :=
 (aR (eP a) 0).bind fun q=>match q with
 | (.inl _) =>
  some (-1)
 | (.inr b) =>
  some b
def cT (a:(List ah)):Option (Bool) :=
 (ep a).bind fun b =>
 some (decide (b>=0))
def pV (d:ik):Bd (Int) ((Unit)⊕(Bool))
 | a =>
  if decide (a<(d.bq.length:Int)) then
   (P.idx d.bq a).bind fun b =>
   (fH b.dA 0 (IntKind.i64.wrap (d.aC-1))).bind fun e =>
   (if (!e) then
    some true
   else
    (fH b.lH 0 (IntKind.i64.wrap (d.aC-1))).bind fun f =>
    if (!f) then
     some true
    else
     (cK b.gE).bind fun g =>
     if (!g) then
      some true
     else
      (fP b.gE).bind fun h =>
      some (decide (h<=0))).bind fun c =>
   if c then
    some (.inr (.inr false))
   else
    if decide (a>0) then
     (P.idx d.bq (IntKind.i64.wrap (a-1))).bind fun i =>
     (qW i b).bind fun j =>
     if decide (j>=0) then
      some (.inr (.inr false))
     else
      some (.inl (IntKind.i64.wrap (a+1)))
    else
     some (.inl (IntKind.i64.wrap (a+1)))
  else
   some (.inr (.inl ()))
def qV (b:ik):Option (Bool) :=
 (fH b.aC 0 2000).bind fun e =>
 (if (!e) then
  some true
 else
  some (decide ((b.bq.length:Int)>8000))).bind fun a =>
 if a then
  some false
 else
  (aR (pV b) 0).bind fun q=>match q with
  | (.inl _) =>
   (qZ b).bind fun c =>
   (cT c).bind fun d =>
   some (!d)
  | (.inr f) =>
   some f
def lp (a:ah):Option (Bool) :=
 (cK a).bind fun b =>
 some (!b)
def dV (b:(List ah)):Bd (Int) ((Unit)⊕(Int))
 | a =>
  if decide (a<(b.length:Int)) then
   (P.idx b a).bind fun c =>
   (lp c).bind fun d =>
   if d then
    some (.inr (.inr a))
   else
    some (.inl (IntKind.i64.wrap (a+1)))
  else
   some (.inr (.inl ()))
def dp (a:(List ah)):Option (Int) :=
 (aR (dV a) 0).bind fun q=>match q with
 | (.inl _) =>
  some (-1)
 | (.inr b) =>
  some b
def cV (a:(List ah)):Option (Bool) :=
 (dp a).bind fun b =>
 some (decide (b>=0))
def lC (a:(List ah)) (b:Int):Option (Bool) :=
 if ((a.length:Int)==b) then
  (cV a).bind fun c =>
  some (!c)
 else
  some false
def mS (f:ik):Bd (Int×(List (List Int))) (((List (List Int))))
 | (a,b) =>
  if decide (a<(f.bq.length:Int)) then
   (P.idx f.bq a).bind fun c =>
   (P.idx b c.lH).bind fun d =>
   (nB 8 d [c.dA]).bind fun e =>
   some (.inl (IntKind.i64.wrap (a+1),(b.set (c.lH).toNat e)))
  else
   some (.inr b)
def mT (d:(List ah)):Bd (Int×(List Int)×(List Int)) (((List Int)×(List Int)))
 | (a,b,c) =>
  if decide (a<(d.length:Int)) then
   (P.idx d a).bind fun e =>
   (P.idx b a).bind fun h =>
   (fP e).bind fun f =>
   if decide (f>0) then
    (P.idx (b.set (a).toNat (-1)) a).bind fun i =>
    (nB 8 c [a]).bind fun g =>
    some (.inl (IntKind.i64.wrap (a+1),((b.set (a).toNat (-1)).set (a).toNat 0),g))
   else
    some (.inl (IntKind.i64.wrap (a+1),(b.set (a).toNat (-1)),c))
  else
   some (.inr (b,c))
def mV (f:Int) (e:(List Int)):Bd (Int×(List Int)×(List Int)) (((List Int)×(List Int)))
 | (a,b,c) =>
  if decide (a<((e).length:Int)) then
   (P.idx e a).bind fun d =>
   (P.idx b d).bind fun g =>
   if (g==(-1)) then
    (P.idx b f).bind fun h =>
    (nB 8 c [d]).bind fun i =>
    some (.inl (IntKind.i64.wrap (a+1),(b.set (d).toNat (IntKind.i64.wrap (h+1))),i))
   else
    some (.inl (IntKind.i64.wrap (a+1),b,c))
  else
   some (.inr (b,c))
def mU (b:(List (List Int))):Bd ((List Int)×(List Int)) (((List Int)))
 | (c,a) =>
  if decide (((a).length:Int)>0) then
   (P.idx a 0).bind fun d =>
   (Ge a 1 (a.length:Int)).bind fun g =>
   (P.idx b d).bind fun h =>
   (aR (mV d h) (0,c,g)).bind fun q=>match q with
   | (e,f) =>
    some (.inl (e,f))
  else
   some (.inr c)
def kC (a:ik):Option ((List Int)) :=
 (qV a).bind fun h =>
 if (!h) then
  some ([])
 else
  (JV 24 a.aC a.aC ([])).bind fun i =>
  (aR (mS a) (0,i)).bind fun b =>
  (JV 8 a.aC a.aC 0).bind fun f =>
  (qZ a).bind fun g =>
  (aR (mT g) (0,f,[])).bind fun q=>match q with
  | (c,d) =>
   (aR (mU b) (c,d)).bind fun e =>
   some e
def kD (d:(List Int)):Bd (Int×(List Int)) (((List Int)))
 | (a,b) =>
  if decide (a<(d.length:Int)) then
   (P.idx d a).bind fun e =>
   if (e==(-1)) then
    (nB 8 b [a]).bind fun c =>
    some (.inl (IntKind.i64.wrap (a+1),c))
   else
    some (.inl (IntKind.i64.wrap (a+1),b))
  else
   some (.inr b)
def mh (b:ik):Option ((List Int)) :=
 (kC b).bind fun c =>
 (aR (kD c) (0,[])).bind fun a =>
 some a
def jk (e:(List ah)) (f:(List aL)):Bd (Int×(List aL)) (((List aL)))
 | (a,b) =>
  if decide (a<((f).length:Int)) then
   (P.idx e a).bind fun c =>
   (P.idx b a).bind fun d =>
   some (.inl (IntKind.i64.wrap (a+1),(b.set (a).toNat (aL.mk c d.cO))))
  else
   some (.inr b)
def jl (f:ik):Bd (Int×(List aL)) (((List aL)))
 | (a,b) =>
  if decide (a<(f.bq.length:Int)) then
   (P.idx f.bq a).bind fun c =>
   (P.idx b c.lH).bind fun d =>
   (nB 72 d.cO [(gi.mk c.dA c.gE)]).bind fun e =>
   some (.inl (IntKind.i64.wrap (a+1),(b.set (c.lH).toNat (aL.mk d.bT e))))
  else
   some (.inr b)
def gD (c:ik) (e:(List ah)):Option ((List aL)) :=
 (JV 88 c.aC c.aC (aL.mk (ah.mk (aH.mk 0 ([])) (aH.mk 0 ([]))) ([]))).bind fun d =>
 (aR (jk e d) (0,d)).bind fun a =>
 (aR (jl c) (0,a)).bind fun b =>
 some b
def eF (a:gi) (b:Int):Option (Int) :=
 (gZ a.qP b).bind fun c =>
 some c
def cv (f:(List gi)) (g:Int):Bd (Int×Int) ((Int))
 | (b,a) =>
  if decide (b<a) then
   (B1 .u64 (IntKind.u64.wrap (IntKind.i64.wrap (b+a))) 1).bind fun c =>
   (P.idx f (IntKind.i64.wrap c)).bind fun d =>
   (eF d g).bind fun e =>
   if decide (e<0) then
    some (.inl (IntKind.i64.wrap ((IntKind.i64.wrap c)+1),a))
   else
    some (.inl (b,IntKind.i64.wrap c))
  else
   some (.inr b)
def bK (b:(List gi)) (e:Int):Option (Int×Bool) :=
 (aR (cv b e) (0,(b.length:Int))).bind fun a =>
 if decide (a<(b.length:Int)) then
  (P.idx b a).bind fun c =>
  (eF c e).bind fun d =>
  some (a,(d==0))
 else
  some (a,false)
def dF (a:aL) (c:Int):Option (aL×(Int×Bool)) :=
 (bK a.cO c).bind fun b =>
 some (a,(b.1,b.2))
def iS (a:(List gi)) (b c:Int):Option (List gi):=abV a b c
def rS (c:ah) (b:ah):Option (ah×Int) :=
 (cK c).bind fun e =>
 (if (!e) then
  some true
 else
  (cK b).bind fun f =>
  some (!f)).bind fun a =>
 if a then
  some ((ah.mk (aH.mk 0 ([])) (aH.mk 0 ([]))),1)
 else
  if (b.bn.al==0) then
   some ((ah.mk (aH.mk 0 ([])) (aH.mk 0 ([]))),15)
  else
   (da c.bn b.bu).bind fun g =>
   (da c.bu b.bn).bind fun h =>
   (pP g h).bind fun d =>
   some (d.1,d.2)
def fR (f:ah×Int) (d:(List gi)):Bd (Int×(List gi)) (((List gi)))
 | (b,a) =>
  if decide (b<((d).length:Int)) then
   (P.idx a b).bind fun c =>
   (rS c.jz f.1).bind fun e =>
   some (.inl (IntKind.i64.wrap (b+1),(a.set (b).toNat (gi.mk c.qP e.1))))
  else
   some (.inr a)
def eQ (f:aL) (g:Int):Option (aL×(Unit)) :=
 (dF f g).bind fun b =>
 if (!b.2.2) then
  some (b.1,())
 else
  (fb 1).bind fun h =>
  (P.idx b.1.cO b.2.1).bind fun i =>
  (rT h i.jz).bind fun e =>
  (iS b.1.cO b.2.1 (IntKind.i64.wrap (b.2.1+1))).bind fun c =>
  (rS b.1.bT e.1).bind fun d =>
  (aR (fR e c) (0,c)).bind fun a =>
  some ((aL.mk d.1 a),())
def kb (a:ah) (b:ah) (c:ah):Option (ah) :=
 (nS b c).bind fun d =>
 (dY a d.1).bind fun e =>
 some e.1
def fI (f:aL) (c:Int) (d:ah):Option (aL×(Unit)) :=
 (dF f c).bind fun a =>
 if a.2.2 then
  (P.idx a.1.cO a.2.1).bind fun e =>
  (fb 1).bind fun g =>
  (kb e.jz d g).bind fun h =>
  some ((aL.mk a.1.bT (a.1.cO.set (a.2.1).toNat (gi.mk e.qP h))),())
 else
  (acR 72 a.1.cO a.2.1 [(gi.mk c d)]).bind fun b =>
  some ((aL.mk a.1.bT b),())
def gI (k:aL) (l:gi):Bd (Int×Int×(List Int)×Int×(List Int)×(List gi)) ((Int×(List Int)×Int×(List Int)×(List gi)))
 | (a,b,c,d,e,f) =>
  if decide (a<(k.cO.length:Int)) then
   (P.idx k.cO a).bind fun h =>
   (fb 0).bind fun i =>
   (kb i l.jz h.jz).bind fun j =>
   (fI (aL.mk (ah.mk (aH.mk b c) (aH.mk d e)) f) h.qP j).bind fun g =>
   some (.inl (IntKind.i64.wrap (a+1),g.1.bT.bn.al,g.1.bT.bn.aa,g.1.bT.bu.al,g.1.bT.bu.aa,g.1.cO))
  else
   some (.inr (b,c,d,e,f))
def fJ (j:aL) (k:Int) (h:aL):Option (aL×(Unit)) :=
 (dF j k).bind fun g =>
 if (!g.2.2) then
  some (g.1,())
 else
  (P.idx g.1.cO g.2.1).bind fun i =>
  (iS g.1.cO g.2.1 (IntKind.i64.wrap (g.2.1+1))).bind fun l =>
  (kb g.1.bT i.jz h.bT).bind fun a =>
  (aR (gI h i) (0,a.bn.al,a.bn.aa,a.bu.al,a.bu.aa,l)).bind fun q=>match q with
  | (b,c,d,e,f) =>
   some ((aL.mk (ah.mk (aH.mk b c) (aH.mk d e)) f),())
def pj (c:Int):Bd (Int×(List (Bool×aL))) (((List (Bool×aL))))
 | (b,a) =>
  if decide (b<((a).length:Int)) then
   (P.idx a b).bind fun d =>
   (P.idx a c).bind fun e =>
   (TC e).bind fun f =>
   (SZ d).bind fun g =>
   (fJ g c f).bind fun h =>
   some (.inl (IntKind.i64.wrap (b+1),(a.set (b).toNat (false,h.1))))
  else
   some (.inr a)
def mq (g:(List aL)):Bd (Int×(List (Bool×aL))) (((List (Bool×aL))))
 | (a,b) =>
  if decide (a<((g).length:Int)) then
   (P.idx b a).bind fun d =>
   (SZ d).bind fun e =>
   (eQ e a).bind fun f =>
   (aR (pj a) (IntKind.i64.wrap (a+1),(b.set (a).toNat (true,f.1)))).bind fun c =>
   some (.inl (IntKind.i64.wrap (a+1),c))
  else
   some (.inr b)
def sn (i:(List ah)) (g:aL):Bd (Int×Int×(List Int)×Int×(List Int)) ((Int×(List Int)×Int×(List Int)))
 | (e,a,b,c,d) =>
  if decide (e<(g.cO.length:Int)) then
   (P.idx g.cO e).bind fun h =>
   (P.idx i h.qP).bind fun j =>
   (kb (ah.mk (aH.mk a b) (aH.mk c d)) h.jz j).bind fun f =>
   some (.inl (IntKind.i64.wrap (e+1),f.bn.al,f.bn.aa,f.bu.al,f.bu.aa))
  else
   some (.inr (a,b,c,d))
def mu (h:(List (Bool×aL))):Bd (Int×(List ah)) (((List ah)))
 | (a,f) =>
  if decide (a>=0) then
   (P.idx h a).bind fun k =>
   (TC k).bind fun i =>
   (fb 0).bind fun j =>
   (kb i.bT j j).bind fun g =>
   (aR (sn f i) (0,g.bn.al,g.bn.aa,g.bu.al,g.bu.aa)).bind fun q=>match q with
   | (b,c,d,e) =>
    (P.idx f a).bind fun l =>
    some (.inl (IntKind.i64.wrap (a-1),(f.set (a).toNat (ah.mk (aH.mk b c) (aH.mk d e)))))
  else
   some (.inr f)
def ln (c:ik) (g:(List ah)):Option ((List ah)×Int) :=
 (qV c).bind fun i =>
 (if (!i) then
  some true
 else
  (lC g c.aC).bind fun e =>
  some (!e)).bind fun b =>
 if b then
  some ([],1)
 else
  (mh c).bind fun j =>
  if decide ((j.length:Int)>0) then
   some ([],24)
  else
   (gD c g).bind fun h =>
   (aR (mq h) (0,(L7 h))).bind fun a =>
   (JV 64 c.aC c.aC (ah.mk (aH.mk 0 ([])) (aH.mk 0 ([])))).bind fun f =>
   (aR (mu a) (IntKind.i64.wrap (((a).length:Int)-1),f)).bind fun d =>
   some (d,0)
def gV (a:(List ah)):Option (List ah):=nB 64 [] a
def l7 (b:bf) (c:(List ah)) (a:Int) (d:Int):Option (ah) :=
 (P.idx b.aw a).bind fun e =>
 (pQ d e).bind fun f =>
 (P.idx c a).bind fun g =>
 (nS f.1 g).bind fun h =>
 some h.1
def kq (g:bf) (h:(List ah)×Int) (c:bo):Bd (Int×(List ah)) (((List ah)))
 | (a,b) =>
  if decide (a<(c.av.aq.length:Int)) then
   (P.idx c.av.aq a).bind fun d =>
   if (d.a8==1) then
    (P.idx c.bC d.aS).bind fun e =>
    (l7 g h.1 e.b8 e.aB).bind fun f =>
    (P.idx b a).bind fun i =>
    some (.inl (IntKind.i64.wrap (a+1),(b.set (a).toNat f)))
   else
    some (.inl (IntKind.i64.wrap (a+1),b))
  else
   some (.inr b)
def kr (d:bo) (c:(List ah)):Bd (Int×(List ah)) (((List ah)))
 | (a,b) =>
  if decide (a<(d.av.aO.length:Int)) then
   (P.idx d.av.aO a).bind fun e =>
   (jK e c).bind fun f =>
   (nB 64 b [f]).bind fun g =>
   some (.inl (IntKind.i64.wrap (a+1),g))
  else
   some (.inr b)
def jd (f:bf) (j:(List (List ah))) (k:(List ah)×Int):Bd (Int×(List (List ah))) (((List (List ah))))
 | (a,d) =>
  if decide (a<(f.au.length:Int)) then
   (P.idx f.au a).bind fun e =>
   (P.idx j a).bind fun g =>
   (gV g).bind fun h =>
   (aR (kq f k e) (0,h)).bind fun b =>
   (aR (kr e b) (0,[])).bind fun c =>
   (nB 24 d [c]).bind fun i =>
   some (.inl (IntKind.i64.wrap (a+1),i))
  else
   some (.inr d)
def dW (a:bf) (d:(List (List ah))):Option ((List (List ah))×(List ah)×Int) :=
 (o0 a).bind fun f =>
 if (f.1 != 0) then
  some ([],[],f.1)
 else
  (lX a d).bind fun g =>
  if (g != 0) then
   some ([],[],g)
  else
   (Ef a).bind fun e =>
   if (e.2 != 0) then
    some ([],[],e.2)
   else
    (mC a d).bind fun h =>
    (ln e.1 h).bind fun c =>
    if (c.2 != 0) then
     some ([],[],c.2)
    else
     (aR (jd a d c) (0,[])).bind fun b =>
     some (b,c.1,0)
def rE (a:ah):Option (Bool) :=
 (cK a).bind fun b =>
 some (!b)
def jw (b:(List ah)):Bd (Int) ((Unit)⊕(Int))
 | a =>
  if decide (a<(b.length:Int)) then
   (P.idx b a).bind fun c =>
   (rE c).bind fun d =>
   if d then
    some (.inr (.inr a))
   else
    some (.inl (IntKind.i64.wrap (a+1)))
  else
   some (.inr (.inl ()))
def fa (a:(List ah)):Option (Int) :=
 (aR (jw a) 0).bind fun q=>match q with
 | (.inl _) =>
  some (-1)
 | (.inr b) =>
  some b
def ey (a:(List ah)):Option (Bool) :=
 (fa a).bind fun b =>
 some (decide (b>=0))
def yM (d:bo):Bd (Int×(List Int)) (((List Int)))
 | (a,b) =>
  if decide (a<(d.bC.length:Int)) then
   (P.idx d.bC a).bind fun c =>
   (P.idx b c.b8).bind fun e =>
   some (.inl (IntKind.i64.wrap (a+1),(b.set (c.b8).toNat (IntKind.i64.wrap (e-c.aB)))))
  else
   some (.inr b)
def yL (e:bf):Bd (Int×(List Int)) (((List Int)))
 | (a,b) =>
  if decide (a<(e.au.length:Int)) then
   (P.idx e.au a).bind fun d =>
   (aR (yM d) (0,b)).bind fun c =>
   some (.inl (IntKind.i64.wrap (a+1),c))
  else
   some (.inr b)
def yN (g:bf) (h:(List ah)) (b:(List Int)):Bd (Int×(List ah)) (((List ah)))
 | (a,c) =>
  if decide (a<((b).length:Int)) then
   (P.idx b a).bind fun d =>
   (l7 g h a d).bind fun e =>
   (nB 64 c [e]).bind fun f =>
   some (.inl (IntKind.i64.wrap (a+1),f))
  else
   some (.inr c)
def u5 (c:bf) (e:(List ah)):Option ((List ah)) :=
 (o0 c).bind fun g =>
 (if (g.1 != 0) then
  some true
 else
  if ((e.length:Int) != (c.aw.length:Int)) then
   some true
  else
   (ey e).bind fun f =>
   some f).bind fun a =>
 if a then
  some ([])
 else
  (cA c.aw).bind fun h =>
  (aR (yL c) (0,h)).bind fun d =>
  (aR (yN c e d) (0,[])).bind fun b =>
  some b
def zD (c:aH) (d:aH):Bd (Int) ((Unit)⊕(Bool))
 | a =>
  if decide (a<(c.aa.length:Int)) then
   (P.idx c.aa a).bind fun e =>
   (P.idx d.aa a).bind fun b =>
   if (e != b) then
    some (.inr (.inr false))
   else
    some (.inl (IntKind.i64.wrap (a+1)))
  else
   some (.inr (.inl ()))
def sh (b:aH) (c:aH):Option (Bool) :=
 (if (b.al != c.al) then
  some true
 else
  some ((b.aa.length:Int) != (c.aa.length:Int))).bind fun a =>
 if a then
  some false
 else
  (aR (zD b c) 0).bind fun q=>match q with
  | (.inl _) =>
   some true
  | (.inr d) =>
   some d
def Dc (a:ah) (b:ah):Option (Bool) :=
 (sh a.bn b.bn).bind fun c =>
 if c then
  (sh a.bu b.bu).bind fun d =>
  some d
 else
  some false
def FD (d:(List ah)) (e:(List ah)):Bd (Int) ((Unit)⊕(Bool))
 | a =>
  if decide (a<(d.length:Int)) then
   (P.idx d a).bind fun f =>
   (P.idx e a).bind fun b =>
   (Dc f b).bind fun c =>
   if (!c) then
    some (.inr (.inr false))
   else
    some (.inl (IntKind.i64.wrap (a+1)))
  else
   some (.inr (.inl ()))
def uH (a:(List ah)) (b:(List ah)):Option (Bool) :=
 if ((a.length:Int) != (b.length:Int)) then
  some false
 else
  (aR (FD a b) 0).bind fun q=>match q with
  | (.inl _) =>
   some true
  | (.inr c) =>
   some c
def zp:Option (Bool) :=
 (vd).bind fun c =>
 (dW c.1 c.2).bind fun b =>
 (u5 c.1 b.2.1).bind fun k =>
 (if (b.2.2 != 0) then
  some true
 else
  some ((b.1.length:Int) != 2)).bind fun a =>
 if a then
  some false
 else
  (um 240 7).bind fun i =>
  (um 120 7).bind fun j =>
  (uH b.2.1 ([i,j])).bind fun l =>
  if l then
   (P.idx b.1 0).bind fun d =>
   (um 30 7).bind fun e =>
   (uH d ([i,e])).bind fun f =>
   if f then
    (um 60 7).bind fun g =>
    (uH k ([j,g])).bind fun h =>
    some h
   else
    some false
  else
   some false
def vv (a:ah) (b:Int):Option (Bool) :=
 if decide ((a.bn.aa.length:Int)<=b) then
  some (decide ((a.bu.aa.length:Int)<=b))
 else
  some false
def fB (b:(List ah)):Bd (Int) ((Unit)⊕(Bool))
 | a =>
  if decide (a<(b.length:Int)) then
   (P.idx b a).bind fun c =>
   (vv c 4).bind fun d =>
   if (!d) then
    some (.inr (.inr false))
   else
    some (.inl (IntKind.i64.wrap (a+1)))
  else
   some (.inr (.inl ()))
def qe (c:dR):Bd (Int) ((Unit)⊕(Bool))
 | a =>
  if decide (a<(c.aO.length:Int)) then
   (P.idx c.aO a).bind fun b =>
   if decide ((b.length:Int)>8) then
    some (.inr (.inr false))
   else
    (aR (fB b) 0).bind fun q=>match q with
    | (.inl _) =>
     some (.inl (IntKind.i64.wrap (a+1)))
    | (.inr rd) =>
     some (.inr (.inr rd))
  else
   some (.inr (.inl ()))
def pf (b:dR):Option (Bool) :=
 (if decide ((b.aq.length:Int)>5) then
  some true
 else
  if decide ((b.aG.length:Int)>5) then
   some true
  else
   some (decide ((b.aO.length:Int)>8))).bind fun a =>
 if a then
  some false
 else
  (aR (qe b) 0).bind fun q=>match q with
  | (.inl _) =>
   some true
  | (.inr c) =>
   some c
def ky (e:(List aY)):Bd (Int) ((Unit)⊕(Bool))
 | a =>
  (if decide (a<(e.length:Int)) then
   some (decide (a<9))
  else
   some false).bind fun b =>
  if b then
   (P.idx e a).bind fun c =>
   (vv c.cJ 4).bind fun d =>
   if (!d) then
    some (.inr (.inr false))
   else
    some (.inl (IntKind.i64.wrap (a+1)))
  else
   some (.inr (.inl ()))
def ly (a:(List aY)):Option (Bool) :=
 (aR (ky a) 0).bind fun q=>match q with
 | (.inl _) =>
  some (decide ((a.length:Int)<=8))
 | (.inr b) =>
  some b
def q9 (b:(List ah)):Bd (Int) ((Unit)⊕(Bool))
 | a =>
  if decide (a<(b.length:Int)) then
   (P.idx b a).bind fun c =>
   (vv c 3).bind fun d =>
   if (!d) then
    some (.inr (.inr false))
   else
    some (.inl (IntKind.i64.wrap (a+1)))
  else
   some (.inr (.inl ()))
def uG (d:(List (List ah))):Bd (Int) ((Unit)⊕(Bool))
 | a =>
  (if decide (a<(d.length:Int)) then
   some (decide (a<9))
  else
   some false).bind fun b =>
  if b then
   (P.idx d a).bind fun c =>
   if decide ((c.length:Int)>8) then
    some (.inr (.inr false))
   else
    (aR (q9 c) 0).bind fun q=>match q with
    | (.inl _) =>
     some (.inl (IntKind.i64.wrap (a+1)))
    | (.inr e) =>
     some (.inr (.inr e))
  else
   some (.inr (.inl ()))
def xG (a:(List (List ah))):Option (Bool) :=
 (aR (uG a) 0).bind fun q=>match q with
 | (.inl _) =>
  some (decide ((a.length:Int)<=8))
 | (.inr b) =>
  some b
def qg (e:(List aY)):Bd (Int×Int) ((Unit)⊕(Bool))
 | (s3a,b) =>
  if decide (b<(e.length:Int)) then
   (P.idx e b).bind fun a =>
   if decide (a.aB<1) then
    some (.inr (.inr false))
   else
    if decide (a.aB>s3a) then
     some (.inr (.inr false))
    else
     (cK a.cJ).bind fun c =>
     if (!c) then
      some (.inr (.inr false))
     else
      (fP a.cJ).bind fun d =>
      if decide (d<0) then
       some (.inr (.inr false))
      else
       some (.inl (IntKind.i64.wrap (s3a-a.aB),IntKind.i64.wrap (b+1)))
  else
   some (.inr (.inl ()))
def eR (a:(List aY)):Option (Bool) :=
 (aR (qg a) (1099511627776,0)).bind fun q=>match q with
 | (.inl _) =>
  some (decide ((a.length:Int)<=200))
 | (.inr b) =>
  some b
def qh (h:(List aY)):Bd (Int×Int×Int×(List Int)×Int×(List Int)) ((Int×Int×(List Int)×Int×(List Int)))
 | (g,a,b,c,d,e) =>
  if decide (a<(h.length:Int)) then
   (P.idx h a).bind fun i =>
   (dY (ah.mk (aH.mk b c) (aH.mk d e)) i.cJ).bind fun f =>
   some (.inl (IntKind.i64.wrap (g+i.aB),IntKind.i64.wrap (a+1),f.1.bn.al,f.1.bn.aa,f.1.bu.al,f.1.bu.aa))
  else
   some (.inr (g,b,c,d,e))
def ig (g:(List aY)):Option (Int×ah) :=
 (eR g).bind fun h =>
 if (!h) then
  some (0,(ah.mk (aH.mk 0 ([])) (aH.mk 0 ([]))))
 else
  (fb 0).bind fun f =>
  (aR (qh g) (0,0,f.bn.al,f.bn.aa,f.bu.al,f.bu.aa)).bind fun q=>match q with
  | (e,a,b,c,d) =>
   some (e,(ah.mk (aH.mk a b) (aH.mk c d)))
def dG (a:(List aY)):Option (List aY):=nB 72 [] a
def kl:Bd (Int×Int×(List aY)) (((List aY)))
 | (a,b,c) =>
  if decide (a<b) then
   (P.idx c b).bind fun e =>
   (P.idx c a).bind fun d =>
   (P.idx (c.set (a).toNat e) b).bind fun f =>
   some (.inl (IntKind.i64.wrap (a+1),IntKind.i64.wrap (b-1),((c.set (a).toNat e).set (b).toNat d)))
  else
   some (.inr c)
def oS (b:(List aY)):Option ((List aY)×(Unit)) :=
 (aR (kl) (0,IntKind.i64.wrap (((b).length:Int)-1),b)).bind fun a =>
 some (a,())
def dL (a:(List aY)):Option ((List aY)×(Unit)):=(oS a).bind fun r=>if r.1.length=a.length then some r else none
def rU {a:(List aY)} {r:(List aY)×(Unit)} (h:dL a=some r):r.1.length=a.length:=by
 unfold dL at h;obtain⟨q,b,h⟩:=ae h;split at h
 ·cases h;assumption
 ·cases h
def qS (a:aH):Option (aH) :=
 (mB a).bind fun b =>
 (mB b).bind fun c =>
 some c
def ug (a:ah):Option (ah) :=
 (cK a).bind fun b =>
 if (!b) then
  some (ah.mk (aH.mk 0 ([])) (aH.mk 0 ([])))
 else
  (mB a.bn).bind fun c =>
  (qS a.bu).bind fun d =>
  some (ah.mk c d)
def pk (a:ah):Option (ah) :=
 (ug a).bind fun b =>
 (ug b).bind fun c =>
 some c
def tx (e:(List aY)):Bd (Int×(List aY)) (((List aY)))
 | (a,b) =>
  if decide (a<((e).length:Int)) then
   (P.idx b a).bind fun d =>
   (pk d.cJ).bind fun c =>
   some (.inl (IntKind.i64.wrap (a+1),(b.set (a).toNat (aY.mk d.aB c))))
  else
   some (.inr b)
def kG (b:(List aY)):Option ((List aY)) :=
 (aR (tx b) (0,b)).bind fun a =>
 some a
def kc:Bd (Int×(List aY)×Int×(List Int)×Int×(List Int)) (((List aY)×Int×(List Int)×Int×(List Int)))
 | (b,e,f,g,h,i) =>
  if decide (b>0) then
   (P.idx e 0).bind fun a =>
   (pQ (if a.aB<b then a.aB else b) a.aB).bind fun l =>
   (nS a.cJ l.1).bind fun k =>
   (dY (ah.mk (aH.mk f g) (aH.mk h i)) k.1).bind fun c =>
   (rT a.cJ k.1).bind fun j =>
   (P.idx (e.set (0:Int).toNat (aY.mk a.aB j.1)) 0).bind fun d =>
   (P.idx ((e.set (0:Int).toNat (aY.mk a.aB j.1)).set (0:Int).toNat (aY.mk (IntKind.i64.wrap (d.aB-(if a.aB<b then a.aB else b))) d.cJ)) 0).bind fun m =>
   if (m.aB==0) then
    (Ge ((e.set (0:Int).toNat (aY.mk a.aB j.1)).set (0:Int).toNat (aY.mk (IntKind.i64.wrap (d.aB-(if a.aB<b then a.aB else b))) d.cJ)) 1 (((e.set (0:Int).toNat (aY.mk a.aB j.1)).set (0:Int).toNat (aY.mk (IntKind.i64.wrap (d.aB-(if a.aB<b then a.aB else b))) d.cJ)).length:Int)).bind fun n =>
    some (.inl (IntKind.i64.wrap (b-(if a.aB<b then a.aB else b)),n,c.1.bn.al,c.1.bn.aa,c.1.bu.al,c.1.bu.aa))
   else
    some (.inl (IntKind.i64.wrap (b-(if a.aB<b then a.aB else b)),((e.set (0:Int).toNat (aY.mk a.aB j.1)).set (0:Int).toNat (aY.mk (IntKind.i64.wrap (d.aB-(if a.aB<b then a.aB else b))) d.cJ)),c.1.bn.al,c.1.bn.aa,c.1.bu.al,c.1.bu.aa))
  else
   some (.inr (e,f,g,h,i))
def kX (l:(List aY)) (i:Int) (k:Int):Option ((List aY)×ah×Int) :=
 (eR l).bind fun s =>
 (if (!s) then
  some true
 else
  if decide (i<0) then
   some true
  else
   some (decide (i>=3))).bind fun g =>
 if g then
  some ([],(ah.mk (aH.mk 0 ([])) (aH.mk 0 ([]))),1)
 else
  (if decide (k<1) then
   some true
  else
   some (decide (k>1099511627776))).bind fun h =>
  if h then
   some ([],(ah.mk (aH.mk 0 ([])) (aH.mk 0 ([]))),3)
  else
   (ig l).bind fun r6 =>
   if decide (k>r6.1) then
    some ([],(ah.mk (aH.mk 0 ([])) (aH.mk 0 ([]))),25)
   else
    (dG l).bind fun r =>
    (if (i==1) then
     (dL r).bind fun m =>
     some m.1
    else
     if (i==2) then
      some ([(aY.mk r6.1 r6.2)])
     else
      some r).bind fun j =>
    (fb 0).bind fun e =>
    (aR (kc) (k,j,e.bn.al,e.bn.aa,e.bu.al,e.bu.aa)).bind fun q=>match q with
    | (f,a,b,c,d) =>
     if (i==1) then
      (dL f).bind fun n =>
      (kG n.1).bind fun o =>
      some (o,(ah.mk (aH.mk a b) (aH.mk c d)),0)
     else
      (kG f).bind fun p =>
      some (p,(ah.mk (aH.mk a b) (aH.mk c d)),0)
def ng (d:(List aY)) (e:Int) (f:ah):Option ((List aY)×Int) :=
 (eR d).bind fun k =>
 (if (!k) then
  some true
 else
  (cK f).bind fun g =>
  some (!g)).bind fun a =>
 if a then
  some ([],1)
 else
  (if decide (e<1) then
   some true
  else
   if decide (e>1099511627776) then
    some true
   else
    (fP f).bind fun h =>
    some (decide (h<0))).bind fun b =>
  if b then
   some ([],3)
  else
   (ig d).bind fun l =>
   (if ((d.length:Int)==200) then
    some true
   else
    some (decide (e>(IntKind.i64.wrap (1099511627776-l.1))))).bind fun c =>
   if c then
    some ([],6)
   else
    (dG d).bind fun m =>
    (nB 72 m [(aY.mk e f)]).bind fun i =>
    (kG i).bind fun j =>
    some (j,0)
def oB (b:(List Int)) (c:(List Int)):Bd (Int) ((Unit)⊕(Bool))
 | a =>
  if decide (a<(b.length:Int)) then
   (P.idx b a).bind fun d =>
   (P.idx c a).bind fun e =>
   if (d != e) then
    some (.inr (.inr false))
   else
    some (.inl (IntKind.i64.wrap (a+1)))
  else
   some (.inr (.inl ()))
def nf (a:(List Int)) (b:(List Int)):Option (Bool) :=
 if ((a.length:Int) != (b.length:Int)) then
  some false
 else
  (aR (oB a b) 0).bind fun q=>match q with
  | (.inl _) =>
   some true
  | (.inr c) =>
   some c
def tQ (a:aH) (b:aH):Option (Bool) :=
 if (a.al==b.al) then
  (nf a.aa b.aa).bind fun c =>
  some c
 else
  some false
def mH (a:ah) (b:ah):Option (Bool) :=
 (tQ a.bn b.bn).bind fun c =>
 if c then
  (tQ a.bu b.bu).bind fun d =>
  some d
 else
  some false
def dr (p:dR) (r:Int) (q:(List ah)) (s:Bool):Bd ((List aY)×Int×Int×(List Int)×Int×(List Int)×(List ah)) (((List aY)×Int×(List Int)×Int×(List Int)×(List ah))⊕(Bool))
 | (f,e,a,b,c,d,g) =>
  if decide (e<(p.aq.length:Int)) then
   (fb 0).bind fun l =>
   (P.idx p.aq e).bind fun j =>
   if (j.a8==2) then
    (kX f r j.aB).bind fun i =>
    if (i.2.2 != 0) then
     some (.inr (.inr s))
    else
     (nB 64 g [i.2.1]).bind fun m =>
     some (.inl (i.1,IntKind.i64.wrap (e+1),a,b,c,d,m))
   else
    if decide (e<(q.length:Int)) then
     (P.idx q e).bind fun k =>
     (dY (ah.mk (aH.mk a b) (aH.mk c d)) k).bind fun h =>
     (nB 64 g [k]).bind fun n =>
     some (.inl (f,IntKind.i64.wrap (e+1),h.1.bn.al,h.1.bn.aa,h.1.bu.al,h.1.bu.aa,n))
    else
     (nB 64 g [l]).bind fun o =>
     some (.inl (f,IntKind.i64.wrap (e+1),a,b,c,d,o))
  else
   some (.inr (.inl (f,a,b,c,d,g)))
def dt (o:dR) (p:Bool) (h:(List (List ah))×(List ah)×Int):Bd ((List aY)×Int×Int×(List Int)×Int×(List Int)) (((List aY)×Int×(List Int)×Int×(List Int))⊕(Bool))
 | (f,a,b,c,d,e) =>
  if decide (a<(o.aG.length:Int)) then
   (P.idx o.aG a).bind fun i =>
   if (i.a8 != 1) then
    (P.idx h.1 0).bind fun k =>
    (P.idx k a).bind fun l =>
    (dY (ah.mk (aH.mk b c) (aH.mk d e)) l).bind fun g =>
    some (.inl (f,IntKind.i64.wrap (a+1),g.1.bn.al,g.1.bn.aa,g.1.bu.al,g.1.bu.aa))
   else
    (P.idx h.1 0).bind fun m =>
    (P.idx m a).bind fun n =>
    (ng f i.aB n).bind fun j =>
    if (j.2 != 0) then
     some (.inr (.inr p))
    else
     some (.inl (j.1,IntKind.i64.wrap (a+1),b,c,d,e))
  else
   some (.inr (.inl (f,b,c,d,e)))
def iB (p:dR) (t:(List aY)) (B:Int) (A:(List ah)):Option (Bool) :=
 (zp).bind fun r =>
 (pf p).bind fun C =>
 (if (!C) then
  some true
 else
  (ly t).bind fun u =>
  if (!u) then
   some true
  else
   (xG ([A])).bind fun v =>
   some (!v)).bind fun l =>
 if l then
  some r
 else
  (ig t).bind fun s =>
  (aR (dr p B A r) (t,0,s.2.bn.al,s.2.bn.aa,s.2.bu.al,s.2.bu.aa,[])).bind fun q=>match q with
  | (.inl (m,a,b,c,d,n)) =>
   (dW (bf.mk ([]) ([(bo.mk p ([]) ([]))])) ([n])).bind fun i =>
   if (i.2.2 != 0) then
    some r
   else
    (if ((i.1.length:Int) != 1) then
     some true
    else
     (P.idx i.1 0).bind fun w =>
     some ((w.length:Int) != (p.aG.length:Int))).bind fun j =>
    if j then
     some false
    else
     (fb 0).bind fun k =>
     (aR (dt p r i) (m,0,k.bn.al,k.bn.aa,k.bu.al,k.bu.aa)).bind fun q=>match q with
     | (.inl (o,e,f,g,h)) =>
      (ig o).bind fun x =>
      (dY x.2 (ah.mk (aH.mk e f) (aH.mk g h))).bind fun y =>
      if r then
       (mH (ah.mk (aH.mk a b) (aH.mk c d)) y.1).bind fun z =>
       some z
      else
       some false
     | (.inr rd) =>
      some rd
  | (.inr D) =>
   some D
end Go.Proofs.YtobnihfgnbnncaaGreat.P
namespace Go.Proofs.YtobnihfgnbnncaaGreat.Am
open Go.RowKit Go.Proofs.YtobnihfgnbnncaaGreat.P
set_option maxRecDepth 100000
set_option maxHeartbeats 4000000
def ck.iZ {P:Program} {T:Nat->Option Ty} {Γ:Env} (i:ke P T) (j:bV P Γ) (k:P.follows .mixedOrders=true) {α β:Type} {A:kM α} {F:α->Option β} {R:β->RK} {mode:Mode} {f:FuncId} {b:Func} {G:Option (D×Row)->List D->Option (RK×Option Row)} (m:P.funcs[f]? = some b)
  (g:((match b.body with|some c=>codeOk c|none=>true)&&(!(b.name == "runtime.NumGoroutine") && !b.body.isNone))=true) (hG:∀l d,G l d=ej A F R l d) (n:∀a,Nat.ble (A.ds a).length b.ntmps=true) (h:∀a r,F a=some r->jx mode T Γ FU b none (A.ds a)=some (R r,none)):ck P f G:=by
 have e:G=ej A F R:=funext fun l=>funext fun d=>hG l d;subst e;exact ck.ofB i j k m g n h
def aff {α:Type} (E:jr α) {l:List α} {x:α} (h:P.idx l 0=some x):E.size<=l.length*E.size∧(an E l).take E.size=E.cells x:=by
 have a:=Ai E h;have b:=kR E h;simp only[Int.toNat_zero,am2,amr,am3]at a b;refine⟨b,?_⟩;rw[a,ang (by rw[E.len];exact alq _),am4 (by rw[E.len];exact alq _)]
def vmt:=ai @TT<|ai @ag1<|ai @aee<|ai @Pk<|ai @ad7<|ai @ad8<|ai @VQ<|ai @JC<|ai @VR<|ai @Pm<|ai @VS<|ai @VT<|ai @Pn<|ai @ad9<|ai @aea<|ai @Po<|ai @aeb<|ai @aec<|ai @aed<|ai @Pp<|ai @Pq<|ai @Yv<|ai @Yw<|ai @Yx<|ai @Yy<|ai @Yz<|ai @Pj<|ai @YA<|ai @Gv<|ai @YB<|ai @YC<|ai @YD<|@YE
def je:jr aH:=Bk (nQ (eI .i64) (fL (eI .i64))) (fun x=>(x.al,x.aa)) (by rintro⟨⟩ ⟨⟩ h;simpa using h)
def Fb (x:aH):je.cells x=[.int .i64 x.al,.sl false false x.aa.length (an (eI .i64) x.aa)]:=an3
def Q4 (x:aH):aH.mk x.al x.aa=x:=an3
def ak:jr ah:=Bk (nQ je je) (fun x=>(x.bn,x.bu)) (by rintro⟨⟩ ⟨⟩ h;simpa using h)
def CD (x:ah):ak.cells x=[.int .i64 x.bn.al,.sl false false x.bn.aa.length (an (eI .i64) x.bn.aa),.int .i64 x.bu.al,.sl false false x.bu.aa.length (an (eI .i64) x.bu.aa)]:=an3
def Fc:ak.size=4:=an3
def LZ (x:ah):ah.mk x.bn x.bu=x:=an3
def dX:jr sC:=Bk (nQ (eI .i64) (nQ (eI .i64) (nQ (eI .i64) ahm))) (fun x=>(x.a8,x.aS,x.aB,x.Oe)) (by rintro⟨⟩ ⟨⟩ h;simpa using h)
def Fg (x:sC):dX.cells x=[.int .i64 x.a8,.int .i64 x.aS,.int .i64 x.aB,.str x.Oe]:=an3
def Hq:dX.size=4:=an3
def hZ:jr iG:=Bk (nQ (eI .i64) (eI .i64)) (fun x=>(x.b8,x.aB)) (by rintro⟨⟩ ⟨⟩ h;simpa using h)
def Fh (x:iG):hZ.cells x=[.int .i64 x.b8,.int .i64 x.aB]:=an3
def Hr:hZ.size=2:=an3
def Q6 (x:iG):iG.mk x.b8 x.aB=x:=an3
def bl:jr ir:=Bk (nQ (eI .i64) (nQ (eI .i64) (eI .i64))) (fun x=>(x.a8,x.aS,x.aB)) (by rintro⟨⟩ ⟨⟩ h;simpa using h)
def yZ (x:ir):bl.cells x=[.int .i64 x.a8,.int .i64 x.aS,.int .i64 x.aB]:=an3
end Go.Proofs.YtobnihfgnbnncaaGreat.Am
