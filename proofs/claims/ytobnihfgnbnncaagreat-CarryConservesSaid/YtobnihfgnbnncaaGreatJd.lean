import Derived.Test.YtobnihfgnbnncaaGreatJc
set_option linter.unusedSimpArgs false
set_option linter.unusedVariables false
set_option linter.defProp false
noncomputable section
open Go.Proofs.Tryz
namespace Go.Proofs.YtobnihfgnbnncaaGreat.Am
open Go.RowKit Go.Proofs.YtobnihfgnbnncaaGreat.P
def mkE {α γ:Type} (b:Nat) (E:jb γ) (A:km α) (F:List γ->α->Option (List γ)):Option (D×Row)->List D->Option (RK×Option Row):=fun a c =>
 match a with
 | some (.buf 0 0 s o n,⟨0,ty',cells,false,true,false⟩)=>open Classical in
  if h:ty'=b∧s=E.size∧∃p:List D×List γ×List D×α,cells=p.1++(av E p.2.1++p.2.2.1)∧o=p.1.length∧n=p.2.1.length∧c=A.ds p.2.2.2 then
   (F (Classical.choose h.2.2).2.1 (Classical.choose h.2.2).2.2.2).map fun r=>(.fresh b E.size r.length (av E r),none)
  else none
 | _=>none
def abx {α γ:Type} (b:Nat) (E:jb γ) (A:km α) (F:List γ->α->Option (List γ)) (pre post:List D) (l:List γ) (a:α) :
  mkE b E A F (some (.buf 0 0 E.size pre.length l.length,⟨0,b,pre++(av E l++post),false,true,false⟩)) (A.ds a)=(F l a).map fun r=>(.fresh b E.size r.length (av E r),none):=by
 have h:b=b∧E.size=E.size∧∃p:List D×List γ×List D×α,pre++(av E l++post)=p.1++(av E p.2.1++p.2.2.1)∧pre.length=p.1.length∧l.length=p.2.1.length∧A.ds a=A.ds p.2.2.2:=⟨rfl,rfl,(pre,l,post,a),rfl,rfl,rfl,rfl⟩;simp only[mkE];rw[dif_pos h];obtain⟨c,d,e,f⟩:=Classical.choose_spec h.2.2;obtain⟨i,g,j⟩:=Xc c d e;rw[<- A.inj _ _ f,<- g]
def QH {α γ:Type} {d:Nat} {E:jb γ} {A:km α} {F:List γ->α->Option (List γ)} {b:Option (D×Row)} {e:List D} {f:RK} {c:Option Row} (h:mkE d E A F b e=some (f,c)) :
  ∃pre l post a r,b=some (.buf 0 0 E.size pre.length l.length,⟨0,d,pre++(av E l++post),false,true,false⟩)∧e=A.ds a∧F l a=some r∧f=.fresh d E.size r.length (av E r)∧c=none:=by
 unfold mkE at h;split at h
 ·split at h
  ·rename_i g;obtain⟨rfl,rfl,g⟩:=g;rw[ajx]at h;grind
  ·cases h
 ·cases h
def cr.ag5 {P:Program} {T:Nat->Option Ty} {Γ:Env} (i:jN P T) (j:bY P Γ) (k:P.follows .mixedOrders=true) {α γ:Type} {d:Nat} {E:jb γ} {A:km α} {F:List γ->α->Option (List γ)} {f:FuncId} {b:Func} (g:P.funcs[f]? = some b) (e:(match b.body with|some c=>codeOk c|none=>true)=true)
  (m:(b.name == "runtime.NumGoroutine")=false∧b.body.isNone=false) (n:∀a,(A.ds a).length+1<=b.ntmps)
  (h:∀pre post l a r,F l a=some r->kM (.fresh d E.size) T Γ FU b (some (.buf 0 0 E.size pre.length l.length,⟨0,d,pre++(av E l++post),false,true,false⟩)) (A.ds a)=some (.fresh d E.size r.length (av E r),none)):cr P f (mkE d E A F) where
 calls lent aju rk out o:=by
  obtain⟨pre,l,post,a,r,rfl,rfl,p,rfl,rfl⟩:=QH o;exact lU i j k g e (n a) rfl (h pre post l a r p)
 callable:=⟨b,g,m⟩
def cr.zero {P:Program} {f:FuncId} {b:Func} (c:P.funcs[f]? = some b) (d:(b.name == "runtime.NumGoroutine")=false∧b.body.isNone=false) {α β:Type} {A:km α} {F:α->Option β} {R:β->RK} (g:∀a,F a=none):cr P f (er A F R) where
 calls lent aju rk out e:=by
  obtain⟨rfl,rfl,a,r,rfl,h,rfl⟩:=vr e;simp_all
 callable:=⟨b,c,d⟩
section
variable {h:Nat->Option Row} {Γ:Env} {g e x v d:Nat} {dst:Option Nat} {fr:List Nat} {aju rest:List D} {d0:D} {T:Nat->Option Ty} {rs:List ResultVar}
def Oi (h:Nat->Option Row) (e:Nat) (dst:Option Nat) (x v:Nat) (fr:List Nat):Option (RK×Option Row)->Option cw
 | some (.clean c,some a)=>some ⟨c,kG h fr++[(x,some { a with v:=v })]⟩
 | some (.same s o n,some a)=>some ⟨.buf x v s o n,kG h fr++[(x,some { a with v:=v })]⟩
 | some (.fresh b s n cells,none) =>
  match dst with
  | some d=>if fr.contains d=false then some ⟨.buf d e s 0 n,kG h fr++[(x,none),(d,some ⟨e,b,cells,false,true,false⟩)]⟩ else none
  | none=>none
 | _=>none
def ZX (Γ:Env) (h:Nat->Option Row) (e:Nat) (dst:Option Nat) (g x v:Nat) (d0:D) (r:Row):Option (List D×List Nat)->Option cw
 | some (aju,fr)=>if fr.contains x=false then Oi h e dst x v fr (Γ.sem g (some (d0,r)) aju) else none
 | none=>none
def Oh (Γ:Env) (h:Nat->Option Row) (e:Nat) (dst:Option Nat) (g x v:Nat) (d0:D) (rest:List D):Option Row->Option cw
 | some r=>if r.fz=false then ZX Γ h e dst g x v d0 { r with v:=0 } (bX h rest) else none
 | none=>none
def Oj {s o n:Nat} : Ey true Γ h e dst g (.buf x v s o n::rest)=Oh Γ h e dst g x v (.buf 0 0 s o n) rest (live h x v):=by
 simp only[Ey,if_true,sU,BT];cases live h x v with
 | none=>rfl
 | some r =>
  simp only[Oh];cases bX h rest with
  | none=>rfl
  | some p=>rfl
def lvR (v:Nat):Option Row->Option Row
 | some r=>if r.v=v∧r.mp=true∧xr r=true then some r else none
 | none=>none
def Qy {v b:Nat} {d:List dY} {e:List D} {f a:Bool} (c:b<900000):lvR v (some ⟨v,b,[.mpc d e],f,a,true⟩)=some ⟨v,b,[.mpc d e],f,a,true⟩:=by simp[lvR,xr,c]
def Vb:Ey true Γ h e dst g (.mp x v::rest)=Oh Γ h e dst g x v (.mp 0 0) rest (lvR v (h x)):=by
 simp only[Ey,if_true,sU,BT];have:AL h x v=lvR v (h x):=by unfold AL lvR;cases h x<;>rfl
 rw[this];cases lvR v (h x) with
 | none=>rfl
 | some r =>
  simp only[Oh];cases bX h rest with
  | none=>rfl
  | some p=>rfl
def Bj {c:D} {f b:Nat} {cells:List D} {d a:Bool} : Oi h e dst x v fr (some (.clean c,some ⟨f,b,cells,d,a,true⟩))=some ⟨c,kG h fr++[(x,some ⟨v,b,cells,d,a,true⟩)]⟩:=amh
def FD {r:Row} : Oh Γ h e dst g x v d0 rest (some r)=if r.fz=false then ZX Γ h e dst g x v d0 { r with v:=0 } (bX h rest) else none:=amh
def FE {r:Row} : ZX Γ h e dst g x v d0 r (some (aju,fr))=if fr.contains x=false then Oi h e dst x v fr (Γ.sem g (some (d0,r)) aju) else none:=amh
def DE {c:D} {f b:Nat} {cells:List D} {d a:Bool} : Oi h e dst x v fr (some (.clean c,some ⟨f,b,cells,d,a,false⟩))=some ⟨c,kG h fr++[(x,some ⟨v,b,cells,d,a,false⟩)]⟩:=amh
def DF {s n a:Nat} {cells:List D} : Oi h e (some d) x v fr (some (.fresh a s n cells,none))=if fr.contains d=false then some ⟨.buf d e s 0 n,kG h fr++[(x,none),(d,some ⟨e,a,cells,false,true,false⟩)]⟩ else none:=amh
def D2 {a b i:Nat} {t:Nat->D} {l:D×Row} : gu (.fresh a b) T (some l) [.tmp i] ⟨t,h,e⟩=sA a b h (t i):=amh
def agX (y v s o:Nat):Option Row->Option Ty->Option (Nat×Nat)->Option cw
 | some _,some φ,some (l,k)=>if φ.size=s∧0<s then some ⟨.buf y v s (o+l*s) (k-l),[]⟩ else none
 | _,_,_=>none
def Ki {y v s o l k:Nat} {r:Row} {φ:Ty} : agX y v s o (some r) (some φ) (some (l,k))=if φ.size=s∧0<s then some ⟨.buf y v s (o+l*s) (k-l),[]⟩ else none:=amh
def VA {el b c y v s o n:Nat} {z:List Value} {q:Bool} {a d:Option D} : iN T ⟨.slice el,b,c,z,q⟩ h (.buf y v s o n) a d none=agX y v s o (live h y v) (T el) (Ai n a d):=by
 simp only[iN];cases live h y v with
 | none=>rfl
 | some r =>
  simp only;cases T el with
  | none=>rfl
  | some φ =>
   cases Ai n a d with
   | none=>rfl
   | some p=>rfl
def afB (a:Nat):Option (List D×List Nat)->Option Row->Option (RK×Option Row)
 | some (b,fr),some r=>if r.v=0∧r.fz=false∧r.ty=a∧r.mp=false∧fr.contains 0=false then some (.clean (nX b),some r) else none
 | _,_=>none
def Ke {a:Nat} {b:List D} {r:Row} : afB a (some (b,fr)) (some r)=if r.v=0∧r.fz=false∧r.ty=a∧r.mp=false∧fr.contains 0=false then some (.clean (nX b),some r) else none:=amh
def Kf {t:Nat->D} {b v:Nat} {cells:List D} {d c:Bool} : gu .clean T (some (d0,⟨v,b,cells,d,c,false⟩)) rs ⟨t,h,e⟩=afB b (xx T ⟨t,h,e⟩ rs) (h 0):=by
 simp only[gu,s9,nI,abJ,afB];cases xx T ⟨t,h,e⟩ rs with
 | none=>rfl
 | some p =>
  obtain⟨f,fr⟩:=p;cases h 0 with
  | none=>rfl
  | some r =>
   simp only
   by_cases a:r.v=0∧r.fz=false∧r.ty=b∧r.mp=false
   ·rw[if_pos ⟨a.1,a.2.1,a.2.2.1,a.2.2.2,G1 a.2.2.2⟩];simp_all
   simp_all
def Vx (a:Nat):Option (List D×List Nat)->Option Row->Option (RK×Option Row)
 | some (b,fr),some r=>if r.v=0∧r.fz=false∧r.ty=a∧(r.mp=true∧xr r=true)∧fr.contains 0=false then some (.clean (nX b),some r) else none
 | _,_=>none
def Gh {b:Nat} {d:List D} {e:List dY} {f:List D} {a:Bool} (c:b<900000):Vx b (some (d,fr)) (some ⟨0,b,[.mpc e f],false,a,true⟩)=if fr.contains 0=false then some (.clean (nX d),some ⟨0,b,[.mpc e f],false,a,true⟩) else none:=by
 simp[Vx,xr,c]
def Gk {t:Nat->D} {b v:Nat} {cells:List D} {c a:Bool} : gu .clean T (some (d0,⟨v,b,cells,c,a,true⟩)) rs ⟨t,h,e⟩=Vx b (xx T ⟨t,h,e⟩ rs) (h 0):=by
 simp only[gu,s9,nI,abJ,Vx];grind
end
section
variable {α:Type} (E:jb α) {l m u x:List α} {y y':α} {i a b:Int} {pre post:List D}
def ael (h:Fa l a b=some x):av E (l.take a.toNat)++(av E x++av E (l.drop b.toNat))=av E l:=by
 unfold Fa at h;split at h
 ·rename_i c;cases h;rw[<- ju,<- ju];congr 1;have e:l.drop b.toNat=(l.drop a.toNat).drop (b.toNat-a.toNat):=by rw[alc];congr 1;omega
  rw[e,ald,ald]
 ·cases h
def aem (h:Fa l a b=some x):(av E (l.take a.toNat)).length=a.toNat*E.size:=by
 unfold Fa at h;split at h
 ·rw[bT,ajP,alw (by omega)]
 ·cases h
def afh (h:Fa l a b=some x):x.length=b.toNat-a.toNat:=by
 unfold Fa at h;grind
def aek:av E (l.take i.toNat)++(av E u++av E (l.drop b.toNat))=av E (l.take i.toNat++(u++l.drop b.toNat)):=by rw[ju,ju]
def aa1 (h:P.idx l i=some y):(pre++(av E l++post)).drop (pre.length+i.toNat*E.size)=E.cells y++(av E (l.drop (i.toNat+1))++post):=by
 rw[<- alc,List.drop_left,akK (by rw[bT];have:=lp E h;omega),zi E h,akJ]
def aa2 (h:P.idx l i=some y):pre.length+i.toNat*E.size+E.size<=(pre++(av E l++post)).length:=by
 have:=lp E h;rw[aky,aky,bT];omega
def P0 (h:P.idx l i=some y):(0<=i∧i<l.length)∧(pre++(av E l++post)).drop (pre.length+i.toNat*E.size)=E.cells y++(av E (l.drop (i.toNat+1))++post)∧pre.length+i.toNat*E.size+E.size<=(pre++(av E l++post)).length:=⟨tp h,aa1 E h,aa2 E h⟩
def Rt (h:P.idx l i=some y):putCells (pre++(av E l++post)) (pre.length+i.toNat*E.size) (E.cells y')=pre++(av E (l.set i.toNat y')++post):=by
 have a:=abT E (x':=y') h;have b:=lp E h;have c:=bT E l;unfold putCells at a ⊢;rw[<- a,E.len];have d:(pre++(av E l++post)).take (pre.length+i.toNat*E.size)=pre++(av E l).take (i.toNat*E.size):=by
  grind
 have e:(pre++(av E l++post)).drop (pre.length+i.toNat*E.size+E.size)=(av E l).drop (i.toNat*E.size+E.size)++post:=by
  rw[ajR,ak8,ak9 (by omega),akL,ak6,akK (by omega)]
 simp_all
def acL (h:Fa l a b=some x) (c:u.length=x.length):(l.take a.toNat++(u++l.drop b.toNat)).length=l.length:=by
 have d:=afh h;unfold Fa at h;grind
def ad8 (h:Fa l 0 b=some x):pre.length+x.length*E.size<=(pre++(av E l++post)).length∧((pre++(av E l++post)).drop pre.length).take (x.length*E.size)=av E x:=by
 obtain⟨d,e,a,f,c⟩:=T8 E h;have:=akd E.size a;refine⟨by rw[aky,aky,bT];omega,?_⟩;rw[List.drop_left,akM (by rw[bT];exact this),c]
end
section
variable {h:Nat->Option Row} {Γ:Env} {e:Nat} {dst:Option Nat}
def caP:Option (D×List Nat)->Option (List D×List Nat)->Option (List D×List Nat)
 | some (d,fr),some (ds,a)=>some (d::ds,fr++a)
 | _,_=>none
def Og {d:D} {b:List D} {fr a:List Nat} : caP (some (d,fr)) (some (b,a))=some (d::b,fr++a):=amh
def Oy:dZ h []=some ([],[]):=amh
def JK {d:D} {a:List D} : dZ h (d::a)=caP (bR h d) (dZ h a):=by
 simp only[dZ];cases bR h d with
 | none=>rfl
 | some x=>cases dZ h a<;>rfl
def clC (f k:Nat):Option (List D×List Nat)->Option (D×List Nat)
 | some (a,fr)=>some (.clo f k a,fr)
 | none=>none
def OJ {f k:Nat} {a:List D} {fr:List Nat} : clC f k (some (a,fr))=some (.clo f k a,fr):=amh
def OB {f k:Nat} {a:List D} : cR h (.clo f k a)=clC f k (dZ h a):=by
 simp only[cR]<;>cases dZ h a<;>rfl
def Ov {g k:Nat} {a b:List D} : jQ Γ h e dst (.clo g k a) b=if a.all uk then Ey false Γ h e dst g (a.take k++(b++a.drop k)) else none:=by
 simp only[jQ,Ey,aj4,if_false]
end
def HM:nX []=.tup []:=amh
def NX (f:Nat):Arg Unit:=⟨fun _ =>.fn f,fun _ _ _=>rfl⟩
def aex {f:Nat} {x:Unit} : (NX f).d x=.fn f:=amh
def Md {α:Type} (f k:Nat) (a:km α):Arg α:=⟨fun x =>.clo f k (a.ds x),fun x y h=>a.inj _ _ (by simpa using h)⟩
def ZA {α:Type} {f k:Nat} {a:km α} {x:α} : (Md f k a).d x=.clo f k (a.ds x):=amh
def vm7:=ai @Og<|ai @Oy<|ai @JK<|ai @OJ<|ai @OB<|ai @Ov<|ai @HM<|ai @Bt<|@EZ
def vm6:=ai @RB<|ai @akr<|ai @VA<|ai @Ki<|ai @DF<|ai @D2<|ai @Oj<|ai @Vb<|ai @Qy<|ai @Bj<|ai @Gh<|ai @Gk<|ai @FD<|ai @FE<|ai @DE<|ai @Ke<|@Kf
section
variable {T:Nat->Option Ty} {h:Nat->Option Row} {τ:Ty} {q:Nat->Bool}
def abg {x v o:Nat} : sZ τ h (.ptr x v o)=uH τ h x v o (live h x v):=amh
def aeM {a:List D} : sZ τ h (.ip a)=fK τ h (.ip a):=amh
def aeK {x v o a b:Nat} {c:List D} {d:Bool} : uH τ h x v o (some ⟨a,b,c,d,true,false⟩)=fK τ h (.ptr x v o):=by
 simp only[uH,akP,Bool.and_false,aj4,if_false]
def aeL {x v o b d:Nat} {c:List D} {a:Bool} : uH τ h x v o (some ⟨b,d,c,false,a,false⟩)=fK τ h (.ptr x v o):=by
 simp only[uH,als,aj4,if_false]
def WM {p:D} {k:IntKind} {n:Int} : iO τ h p (.int k n)=iP τ h p (.int k n):=amh
def WL {p:D} {x v s o n:Nat} : iO τ h p (.buf x v s o n)=iP τ h p (.buf x v s o n):=amh
def WK {p:D} {a:List D} : iO τ h p (.agg a)=iP τ h p (.agg a):=amh
def agR (b:Bool) (T:Nat->Option Ty) (τ:Ty) (h:Nat->Option Row) (c:List (Nat×D)):Option cw :=
 if b then iM T τ h c else
  match τ.ds,c with
  | .struct a,[(0,.buf x v s o n)]=>if (alive h (.buf x v s o n))∧(a.all fun f=>(T f.1).isSome)∧fieldAt T a 0=some (0,1)∧τ.zero.length=1 then some ⟨.box1 x v s o n,[]⟩ else none
  | .struct a,[(0,.box1 x v s o n)]=>if (alive h (.buf x v s o n))∧(a.all fun f=>(T f.1).isSome)∧fieldAt T a 0=some (0,1)∧τ.zero.length=1 then some ⟨.box1 x v s o n,[]⟩ else none
  | _,_=>cE (iM T τ h c)
def U8 {d:Nat} {a:List (Nat×D)} : sX q T τ h (some d) a=agR (q d) T τ h a:=amh
def Ju {a:List (Nat×D)} : agR true T τ h a=iM T τ h a:=amh
def Jk {x v s o n:Nat} : alive h (.buf x v s o n)=(qV h x v).isSome:=amh
end
def vm8:=ai @abg<|ai @aeM<|ai @aeK<|ai @aeL<|ai @WM<|ai @WL<|ai @WK<|ai @U8<|ai @Ju<|@Jk
def aik:=ai @Zj<|ai @aen<|ai @Lx<|ai @WA<|ai @ab4<|ai @QO<|ai @QN<|ai @ae8<|ai @KA<|ai @Kz<|ai @PB<|ai @K4<|ai @G9<|ai @QQ<|ai @Wt<|ai @Wy<|ai @Qn<|ai @abr<|ai @VZ<|ai @KF<|ai @VX<|ai @Qg<|ai @VY<|ai @WH<|ai @LM<|ai @LN<|ai @LJ<|ai @R6<|ai @LR<|ai @Rm<|ai @Rl<|ai @VW<|ai @abe<|ai @abf<|ai @KE<|ai @WD<|ai @acg<|ai @ach<|ai @R9<|ai @R8<|ai @L2<|ai @L3<|ai @Iu<|ai @Xg<|ai @Xf<|ai @Sw<|ai @W8<|ai @acD<|ai @Wj<|ai @abK<|@lk
def ail:=ai @VD<|ai @Qb<|ai @KX<|ai @Q1<|ai @Hd<|ai @Q4<|ai @Q3<|ai @K8<|ai @Q0<|ai @QZ<|ai @LG<|ai @LP<|ai @LD<|ai @LO<|ai @WE<|ai @WI<|ai @LH<|ai @LQ<|ai @KP<|ai @KQ<|ai @N7<|ai @N8<|ai @R4<|ai @LI<|ai @R5<|ai @Jp<|ai @Jo<|@qV.eq_1
def aim:=ai @aaK<|ai @VS<|ai @VP<|ai @Wh<|ai @KW<|ai @KZ<|ai @Qq<|ai @Qt<|ai @GY<|ai @Qu<|ai @Qs<|ai @KK<|ai @Qp<|ai @Qo<|ai @Qr<|ai @QX<|ai @QU<|ai @Hc<|ai @QY<|ai @QW<|ai @K7<|ai @QT<|ai @QS<|ai @QV<|ai @JG<|ai @DK<|ai @DI<|ai @DJ<|ai @OQ<|ai @OR<|ai @aaB<|ai @Vq<|ai @aaA<|ai @Vp<|ai @Pd<|ai @Pe<|ai @Oo<|ai @JF<|ai @R1<|ai @LC<|ai @R2<|ai @BJ<|ai @Kd<|ai @Kc<|ai @Vy<|ai @Pr<|ai @Vv<|ai @Kb<|@Pp
def v:=ai @vmc<|ai @vmk<|ai @vm1<|ai @vm2<|ai @vm3<|ai @vm4<|ai @vm5<|ai @vm6<|ai @vm7<|ai @vm8<|ai @aij<|ai @aik<|ai @ail<|ai @aim<|ai @vmu<|ai @Option.toList_some.{0}<|@Option.toList_none.{0}
class DB (κ:Type) where
 k:κ->dY
 inj:∀x y,k x=k y->x=y
instance:DB Int:=⟨fun n=>(n,none),fun x y h=>by simpa using h⟩
instance:DB (Int×Int):=⟨fun p=>(p.1,some p.2),fun x y h=>by
 grind⟩
def fE {κ α:Type} [DB κ]:List (κ×α)->List dY
 | []=>[]
 | (k,_)::m=>DB.k k::fE m
def iu {κ α:Type} (A:Arg α):List (κ×α)->List D
 | []=>[]
 | (_,v)::m=>A.d v::iu A m
section
variable {κ α:Type} [DB κ] {A:Arg α}
def VT (k n:κ):DB.k k=DB.k n↔k=n:=⟨DB.inj _ _,fun h=>by rw[h]⟩
def QC [DecidableEq κ] (n:κ):∀m:List (κ×α),(fE m).contains (DB.k n)=pG m n
 | []=>rfl
 | (k,v)::m=>by
  have:=QC n m;simp only[fE,akr,pG,this];congr 1
  by_cases h:k=n
  ·simp_all
  ·rw[beq_eq_false_iff_ne.2 h,beq_eq_false_iff_ne.2 (fun e=>h (DB.inj _ _ e.symm))]
def QD:∀m:List (κ×α),(fE m).length=m.length
 | []=>rfl
 | (k,v)::m=>by simp[fE,QD m]
def KL [DecidableEq κ] (z:α) (n:κ):∀m:List (κ×α),ui (A.d z) (fE m) (iu A m) (DB.k n)=A.d (gI z m n)
 | []=>rfl
 | (k,v)::m=>by
  simp only[fE,iu,ui,gI,KL z n m,VT];grind
def Rq [DecidableEq κ] (n:κ) (v:α):∀m:List (κ×α),AU (fE m) (DB.k n)=fE (tD m n v)
 | []=>rfl
 | (k,x)::m=>by
  have a:=Rq n v m;unfold AU at a ⊢;simp only[fE,tD,akr]
  by_cases h:k=n
  ·subst h;simp[fE]
  ·have b:(DB.k n==DB.k k)=false:=by simpa [VT] using Ne.symm h
   rw[b,aks,if_neg h];simp only[fE];grind
def Rs [DecidableEq κ] (n:κ) (v:α):∀m:List (κ×α),ER (fE m) (iu A m) (DB.k n) (A.d v)=iu A (tD m n v)
 | []=>rfl
 | (k,x)::m=>by
  have a:=Rs n v m;unfold ER at a ⊢;simp only[fE,iu,tD,akr]
  by_cases h:k=n
  ·subst h;simp[iu,akq]
  ·have b:(DB.k n==DB.k k)=false:=by simpa [VT] using Ne.symm h
   have c:(DB.k k==DB.k n)=false:=by grind
   rw[b,aks,if_neg h];simp only[iu,akq,c,cond_false];grind
def map_inj:∀ {m a:List (κ×α)},fE m=fE a->iu A m=iu A a->m=a
 | [],[],_,_=>rfl
 | [],(k,v)::a,h,_=>by simp[fE]at h
 | (k,v)::m,[],h,_=>by simp[fE]at h
 | (k,v)::m,(k',v')::a,h,g=>by
  simp only[fE,ajU,VT]at h;simp only[iu,ajU]at g;rw[h.1,A.inj _ _ g.1,map_inj h.2 g.2]
end
def KD {α:Type} {a b:Int} {m:List ((Int×Int)×α)} : uV true (a,some b) (fE m)=true:=by
 unfold uV;simp only[aj6];refine⟨rfl,?_⟩
 induction m with
 | nil=>rfl
 | cons p m c=>simp only[fE,List.all_cons,aj6];exact⟨rfl,c⟩
def kr {κ ν α β:Type} [DB κ] (b:Nat) (V:Arg ν) (A:km α) (F:List (κ×ν)->α->Option (List (κ×ν)×β)) (R:β->RK):Option (D×Row)->List D->Option (RK×Option Row):=fun a c =>
 match a with
 | some (.mp 0 0,⟨0,ty',[.mpc ks vs],false,true,true⟩)=>open Classical in
  if h:ty'=b∧∃p:List (κ×ν)×α,ks=fE p.1∧vs=iu V p.1∧c=A.ds p.2 then
   (F (Classical.choose h.2).1 (Classical.choose h.2).2).map fun r=>(R r.2,some ⟨0,b,[.mpc (fE r.1) (iu V r.1)],false,true,true⟩)
  else none
 | _=>none
def afP {κ ν α β:Type} [DB κ] (b:Nat) (V:Arg ν) (A:km α) (F:List (κ×ν)->α->Option (List (κ×ν)×β)) (R:β->RK) (l:List (κ×ν)) (a:α) :
  kr b V A F R (some (.mp 0 0,⟨0,b,[.mpc (fE l) (iu V l)],false,true,true⟩)) (A.ds a)=(F l a).map fun r=>(R r.2,some ⟨0,b,[.mpc (fE r.1) (iu V r.1)],false,true,true⟩):=by
 have h:b=b∧∃p:List (κ×ν)×α,fE l=fE p.1∧iu V l=iu V p.1∧A.ds a=A.ds p.2:=⟨rfl,(l,a),rfl,rfl,rfl⟩;simp only[kr];rw[dif_pos h];obtain⟨c,d,e⟩:=Classical.choose_spec h.2;rw[<- A.inj _ _ e,<- map_inj c d]
def abz {κ ν α β:Type} [DB κ] {d:Nat} {V:Arg ν} {A:km α} {F:List (κ×ν)->α->Option (List (κ×ν)×β)} {R:β->RK} {b:Option (D×Row)} {f:List D} {g:RK} {c:Option Row} (h:kr d V A F R b f=some (g,c)) :
  ∃l a e r,b=some (.mp 0 0,⟨0,d,[.mpc (fE l) (iu V l)],false,true,true⟩)∧f=A.ds a∧F l a=some (e,r)∧g=R r∧c=some ⟨0,d,[.mpc (fE e) (iu V e)],false,true,true⟩:=by
 unfold kr at h;split at h
 ·split at h
  ·rename_i i;obtain⟨rfl,i⟩:=i;rw[ajx]at h;grind
  ·cases h
 ·cases h
def cr.abn {P:Program} {T:Nat->Option Ty} {Γ:Env} (j:jN P T) (k:bY P Γ) (m:P.follows .mixedOrders=true) {κ ν α β:Type} [DB κ] {e:Nat} {V:Arg ν} {A:km α} {F:List (κ×ν)->α->Option (List (κ×ν)×β)} {R:β->RK} {f:FuncId} {b:Func} (i:P.funcs[f]? = some b) (g:(match b.body with|some c=>codeOk c|none=>true)=true)
  (n:(b.name == "runtime.NumGoroutine")=false∧b.body.isNone=false) (o:∀a,(A.ds a).length+1<=b.ntmps)
  (h:∀l a d r,F l a=some (d,r)->kM .clean T Γ FU b (some (.mp 0 0,⟨0,e,[.mpc (fE l) (iu V l)],false,true,true⟩)) (A.ds a)=some (R r,some ⟨0,e,[.mpc (fE d) (iu V d)],false,true,true⟩)):cr P f (kr e V A F R) where
 calls lent aju rk out p:=by
  obtain⟨l,a,d,r,rfl,rfl,q,rfl,rfl⟩:=abz p;exact lU j k m i g (o a) rfl (h l a d r q)
 callable:=⟨b,i,n⟩
def Sv {T:Nat->Option Ty} {Γ:Env} {F:Nat} {a:Mode} {e:Func} {c:Code} {n:Nat} {rs:List ResultVar} {d0:D} {f:Nat} {cells:List D} {g d:Bool} {b:List D} {r:RK×Option Row} (j:e.body=some c) (i:e.ntmps=n) (k:e.results=rs.toArray)
  (l:dM T Γ n F [.code c] (aaI a T (some (d0,⟨0,f,cells,g,d,true⟩)) rs r) .normal (Bg (d0::b)) (oI ⟨0,f,cells,g,d,true⟩) 1) (h:n<=1000000:=by exact ak7 rfl):kM a T Γ F e (some (d0,⟨0,f,cells,g,d,true⟩)) b=some r:=by
 refine UD ?_ (by rw[i];exact h);unfold wpf;rw[j,i,k];exact l
def Xk {α:Type} (e:jb α):Arg α:=⟨fun x =>.ip (e.cells x),fun x y h=>e.inj _ _ (by simpa using h)⟩
def UZ {α:Type} (e:jb α) (x:α):(Xk e).d x=.ip (e.cells x):=amh
section
variable {T:Nat->Option Ty} {h:Nat->Option Row} {Γ:Env} {e:Nat} {dst:Option Nat}
def lvM (v:Nat):Option Row->Option (List dY×List D)
 | some r=>if r.v=v∧r.mp=true∧r.ty<900000 then (match r.cells with | [.mpc a b]=>some (a,b)|_=>none) else none
 | none=>none
def Qm {x v:Nat} : mK h x v=lvM v (h x):=by
 unfold mK lvM;cases h x<;>rfl
def Qx {v c:Nat} {d:List dY} {e:List D} {f a:Bool} (b:c<900000):lvM v (some ⟨v,c,[.mpc d e],f,a,true⟩)=some (d,e):=by simp[lvM,b]
def lkK (a:List dY) (n:dY):Bool:=a.contains n
def V1 {α:Type} {m:List ((Int×Int)×α)} {a b:Int} : lkK (fE m) (a,some b)=pG m (a,b):=QC (a,b) m
def lkE (b d:Bool) (z:D) (n:dY):Option (List dY×List D)->Option cw
 | some (a,c)=>if uV b n a=true then some ⟨if d then .tup [ui z a c n,.bool (lkK a n)] else ui z a c n,[]⟩ else none
 | none=>none
def aeZ {b:Bool} {z:D} {n:dY} {a:List dY} {c:List D} : lkE b true z n (some (a,c))=if uV b n a=true then some ⟨.tup [ui z a c n,.bool (lkK a n)],[]⟩ else none:=amh
def Xe (T:Nat->Option Ty) (τ:Ty) (b:Bool) (d:D):Prop:=∃φ z,G2 T τ=some (b,φ)∧lI φ (φ.zero.map qH)=some z∧(φ.zero.map qH).all bA=true∧jU z=d
def afM {τ:Ty} {b:Bool} {d:D} (c:Xe T τ b d) {m i:D} {n:dY} {a:Bool} (e:X2 i=some n):jj T τ h m i a=lkE b a d n (mapOf h m):=by
 obtain⟨φ,z,f,g,j,rfl⟩:=c;simp only[jj,f,e,lkE,lkK];grind
def QF {x v:Nat} : mapOf h (.mp x v)=mK h x v:=amh
def muR (b:Bool) (h:Nat->Option Row) (y:Nat) (n:dY) (d:D) (fr:List Nat) (a:List dY) (c:List D):Option Row->Option cw
 | some r=>if uV b n a=true∧r.fz=false∧fr.contains y=false then some ⟨.und,kG h fr++[(y,some ⟨r.v,r.ty,[.mpc (AU a n) (ER a c n d)],false,true,true⟩)]⟩ else none
 | none=>none
def QL {b:Bool} {y v e:Nat} {n:dY} {d:D} {fr:List Nat} {a:List dY} {f:List D} {cells:List D} {c mp:Bool} : muR b h y n d fr a f (some ⟨v,e,cells,false,c,mp⟩)=if uV b n a=true then (if fr.contains y=false then some ⟨.und,kG h fr++[(y,some ⟨v,e,[.mpc (AU a n) (ER a f n d)],false,true,true⟩)]⟩ else none) else none:=by
 simp only[muR,true_and];grind
def muM (b:Bool) (h:Nat->Option Row) (y:Nat) (n:dY) (d:D) (fr:List Nat):Option (List dY×List D)->Option cw
 | some (ks,vs)=>muR b h y n d fr ks vs (h y)
 | none=>none
def QK {b:Bool} {y:Nat} {n:dY} {d:D} {fr:List Nat} {a:List dY} {c:List D} : muM b h y n d fr (some (a,c))=muR b h y n d fr a c (h y):=amh
def muE (b:Bool) (h:Nat->Option Row) (y v:Nat) (n:dY):Option (D×List Nat)->Option cw
 | some (d,fr)=>muM b h y n d fr (mK h y v)
 | none=>none
def QJ {b:Bool} {y v:Nat} {n:dY} {d:D} {fr:List Nat} : muE b h y v n (some (d,fr))=muM b h y n d fr (mK h y v):=amh
def afR {τ:Ty} {b:Bool} {d:D} (a:Xe T τ b d) {y v:Nat} {n:dY} {i x:D} (c:X2 i=some n):eO T τ h (.mp y v) i x=muE b h y v n (zN h x):=by
 obtain⟨φ,z,e,_⟩:=a;simp only[eO,e,c];cases zN h x with
 | none=>rfl
 | some p =>
  obtain⟨d,fr⟩:=p;simp only[muE];cases f:mK h y v with
  | none=>simp only[muM]<;>cases h y<;>rfl
  | some q =>
   obtain⟨g,j⟩:=q;simp only[muM]<;>cases h y<;>rfl
def KN {κ α:Type} [DB κ] {m:List (κ×α)} : (fE m).length=m.length:=QD m
def Sr {a:List D} : zN h (.agg a)=some (.agg (a.map canon),[]):=amh
def adI {τ:Ty} {b:Bool} {d:D} (g:Xe T τ b d) {a c:Nat} (f:a<900000):abD T (some τ) a e c=some ⟨.mp c e,[(c,some ⟨e,a,[.mpc [] []],false,true,true⟩)]⟩:=by
 obtain⟨φ,z,h,_⟩:=g;exact abE h f
def Z2 {a:List D} : bR h (.ip a)=some (.ip a,[]):=amh
def Vd {x v o:Nat} : bR h (.ptr x v o)=clP x o (live h x v):=by
 simp only[bR];cases live h x v with
 | none=>rfl
 | some r=>simp only[clP]
def Wk {x v o:Nat} : uk (.ptr x v o)=true:=amh
def abL {a:List D} : uk (.ip a)=true:=amh
def aaS {v a:Nat} {cells:List D} {b mp:Bool} : xm ⟨v,a,cells,b,true,mp⟩=⟨v,a,cells,true,true,mp⟩:=by cases b<;>rfl
def VM {d:Nat} : bs.hint d=none:=amh
def PZ {f:Nat} {l:Bool} {G:Option (D×Row)->List D->Option (RK×Option Row)} {d:Nat} : (Am.ext Γ f l G).hint d=Γ.hint d:=amh
def KC {d i:Nat} : (Am.keep d Γ).hint i=Γ.hint i:=amh
end
structure xk {α:Type} (E:jb α) (C:List D) (o:Nat) (l:List α):Prop where
 fit:o+l.length*E.size<=C.length
 eq:(C.drop o).take (l.length*E.size)=av E l
def xk.self {α:Type} (E:jb α) (l:List α):xk E (av E l) 0 l:=⟨by rw[bT];omega,by rw[akO,<- bT,alx]⟩
def xk.split {α:Type} {E:jb α} {C:List D} {o:Nat} {l:List α} (F:xk E C o l):C.drop o=av E l++C.drop (o+l.length*E.size):=by
 rw[<- alc]
 conv=>lhs;rw[<- ald (l.length*E.size) (C.drop o)]
 rw[F.eq]
def xk.idx {α:Type} {E:jb α} {C:List D} {o:Nat} {l:List α} {i:Int} {x:α} (F:xk E C o l) (h:P.idx l i=some x):o+i.toNat*E.size+E.size<=C.length∧∃rest,C.drop (o+i.toNat*E.size)=E.cells x++rest:=by
 have a:=lp E h;have b:=F.fit;refine⟨by omega,av E (l.drop (i.toNat+1))++C.drop (o+l.length*E.size),?_⟩;rw[<- alc,F.split,akK (by rw[bT];omega),zi E h,akJ]
def xk.tail {α:Type} {E:jb α} {C:List D} {o:Nat} {l m:List α} {a:Int} (F:xk E C o l) (h:Fa l a (l.length:Int)=some m):xk E C (o+a.toNat*E.size) m:=by
 obtain⟨c,d,e,f,b⟩:=ab5 E h;have g:=F.fit;have i:a.toNat*E.size+m.length*E.size=l.length*E.size:=by rw[<- Nat.add_mul];congr 1;omega
 refine⟨by omega,?_⟩;rw[<- alc,F.split,akK (by rw[bT];omega),akM (by rw[ajQ,bT];omega),b]
def ain:=ai @Qm<|ai @Qx<|ai @V1<|ai @KD<|ai @KN<|ai @aeZ<|ai @QF<|ai @QL<|ai @QK<|ai @QJ<|@Sr
def aio:=ai @Z2<|ai @Vd<|ai @Wk<|ai @abL<|ai @aaS<|ai @VM<|ai @PZ<|ai @KC<|ai @Le<|@UZ
def aip:=ai @DR<|ai @FT<|ai @zS<|@ZP
def cr.ofB {P:Program} {T:Nat->Option Ty} {Γ:Env} (g:jN P T) (i:bY P Γ) (j:P.follows .mixedOrders=true) {α β:Type} {A:km α} {F:α->Option β} {R:β->RK} {e:Mode} {f:FuncId} {d:Func} (k:P.funcs[f]? = some d)
  (b:((match d.body with|some c=>codeOk c|none=>true)&&(!(d.name == "runtime.NumGoroutine") && !d.body.isNone))=true) (l:∀a,Nat.ble (A.ds a).length d.ntmps=true) (h:∀a r,F a=some r->kM e T Γ FU d none (A.ds a)=some (R r,none)):cr P f (er A F R):=by
 rw[aj6,aj6]at b;exact cr.of g i j k b.1 ⟨by simpa using b.2.1,by simpa using b.2.2⟩ (fun a=>ak7 (l a)) h
def ZN {α β:Type} (a:Arg α) (b:km β) (x:α×β):(gG a b).ds x=a.d x.1::b.ds x.2:=amh
def ZM {α:Type} (a:Arg α) (x:α):(dN a).ds x=[a.d x]:=amh
def ZL (x:Unit):as0.ds x=[]:=amh
def jo:=ai @ZN<|ai @ZM<|ai @ZL<|ai @agL<|ai @UY<|ai @aey<|ai @Zz<|ai @aex<|ai @ZA<|@UZ
def sF {α:Type} (E:jb α) (l:List α):D := .sl false false l.length (av E l)
def sN (n:Int):D := .int .i64 n
def sI (l:List Int):D := .sl false false l.length (av (eI .i64) l)
def rW (v a:Nat) (c:List D):Option Row:=some ⟨v,a,c,false,true,false⟩
def rV (v a:Nat) (c:List D):Option Row:=some ⟨v,a,c,false,false,false⟩
def aht {α:Type} {E:jb α} {l:List α} : sF E l=.sl false false l.length (av E l):=amh
def ahv {n:Int} : sN n=.int .i64 n:=amh
def ahu {l:List Int} : sI l=.sl false false l.length (av (eI .i64) l):=amh
def ahq {v a:Nat} {c:List D} : rW v a c=some ⟨v,a,c,false,true,false⟩:=amh
def ahp {v a:Nat} {c:List D} : rV v a c=some ⟨v,a,c,false,false,false⟩:=amh
def vab:=ai @aht<|ai @ahu<|ai @ahv<|ai @ahq<|@ahp
def vi:=ai @ain<|ai @aio<|@aip
def agJ (P:Program) (f:FuncId):Prop:=∀(blk a b:Nat) (zs:List Int) (w:World),Go.Sort.Holds (Value.int .i64) w blk a zs.toArray->blk<w.heap.size->zs.length<4611686018427387904 ->
 Calls P f #[.slice (some ⟨blk,a,none⟩) zs.length b] w fun e c=>e=.returned (.tuple #[])∧∃n d,c=Go.Sort.grow (Go.Sort.putRow (Value.int .i64) (Go.Sort.ahead w n) blk a (rN zs).toArray) d
def ye (k:IntKind):∀(l:List Int) (j:Nat),(av (eI k) l)[j]? = l[j]?.map fun n =>.int k n
 | [],j=>by simp[av]
 | x::l,0=>by simp[av,eI]
 | x::l,j+1=>by
  have:=ye k l j;simp only[av,By,List.cons_append,List.nil_append,List.getElem?_cons_succ];exact this
def sg (k:IntKind) (l:List Int):(av (eI k) l).length=l.length:=by rw[bT];show l.length*1=_;omega
def Rr {w:World} {b a:Nat} {d:List Int} {c:Array Value} {e:Nat} {fr:Nat×Nat} (h:w.heap[b]? = some (.cells c e fr)):(Go.Sort.putRow (Value.int .i64) w b a d.toArray).heap[b]? = some (.cells (Go.Sort.putCells (Value.int .i64) a d.toArray c) e fr):=by
 simp[Go.Sort.putRow,Go.Sort.mapBlock,ajI,h,Go.Sort.onCells]
def HK {w:World} {b c a:Nat} {d:List Int} (h:c≠b):(Go.Sort.putRow (Value.int .i64) w b a d.toArray).heap[c]? = w.heap[c]?:=by
 simp[Go.Sort.putRow,Go.Sort.mapBlock,ajI,Ne.symm h]
def Nd {a:Nat} {d:List Int} {b:Array Value} {k:Nat} (c:k<b.size):(Go.Sort.putCells (Value.int .i64) a d.toArray b).getD k undef=if a<=k∧k<a+d.length then .int .i64 (d.getD (k-a) 0) else b.getD k undef:=by
 have e:(Go.Sort.putCells (Value.int .i64) a d.toArray b)[k]? = some (if a<=k∧k<a+d.length then .int .i64 (d.getD (k-a) 0) else b[k]):=by
  simp only[Go.Sort.putCells,Array.getElem?_mapIdx,akC c,Option.map_some,akH];congr 1;split
  ·rename_i f;congr 1;have:k-a<d.length:=by omega
   simp[List.getD,this]
  ·rfl
 rw[ajD,e];simp[ajD,c]
end Go.Proofs.YtobnihfgnbnncaaGreat.Am
namespace Go.Proofs.YtobnihfgnbnncaaGreat.P
open Go.RowKit
def wrap64 {x:Int} (a : -9223372036854775808<=x) (b:x<9223372036854775808):IntKind.i64.wrap x=x:=by
 have key:IntKind.i64.wrap x=if x % 18446744073709551616>=9223372036854775808 then x % 18446744073709551616-18446744073709551616 else x % 18446744073709551616:=by
  unfold IntKind.wrap
  by_cases h:x % 18446744073709551616>=9223372036854775808
  ·rw[if_pos h];exact if_pos (by simpa [IntKind.bits,IntKind.signed] using h)
  ·rw[if_neg h];exact if_neg (by simpa [IntKind.bits,IntKind.signed] using h)
 rw[key];split<;>omega
def P3 {α:Type} {l:List α} {i:Int} {x:α} (a:0<=i) (h:l[i.toNat]? = some x):P.idx l i=some x:=by
 have:=(ajZ.1 h).1;unfold P.idx;rw[if_pos ⟨a,by omega⟩,h]
def ej {α:Type} {l:List α} {i:Nat} (h:i<l.length):P.idx l (i:Int)=some (l[i]):=P3 (by omega) (by simp[h])
def ad9 {α:Type} {l:List α} {i:Nat} (h:i<=l.length):Fa l 0 (i:Int)=some (l.take i):=by
 unfold Fa;rw[if_pos ⟨by omega,by omega,by omega⟩];simp
end Go.Proofs.YtobnihfgnbnncaaGreat.P
namespace Go.Proofs.YtobnihfgnbnncaaGreat.Am
open Go.RowKit Go.Deep Go.ChangeShapes Go.WideShapes
def EY (T:Nat->Option Ty):Nat->Nat->List D->Prop
 | 0,_,_=>False
 | n+1,t,xs =>
  match T t with
  | none=>False
  | some τ=>xs.length=τ.size ∧
   match τ.ds with
   | .int k=>∃i,xs=[.int k i]∧(Lit.int k i).wf=true
   | .bool=>∃b,xs=[.bool b]
   | .str=>∃s:ByteArray,xs=[.str s]∧s.size<=140737488351232
   | .slice e=>∃len a φ,xs=[.sl false false len a]∧len*φ.bytes<=140737488351232∧T e=some φ∧a.length=len*φ.size∧∀i,i<len->EY T n e ((a.drop (i*φ.size)).take φ.size)
   | .struct c=>∀f∈c,∃φ,T f.1=some φ∧EY T n f.1 ((xs.drop f.2).take φ.size)
   | .arr m e=>∃φ,T e=some φ∧∀i,i<m->EY T n e ((xs.drop (i*φ.size)).take φ.size)
   | .map _ _=>False
   | .other=>False
def Ea (T:Nat->Option Ty):Nat->List (Nat×Nat)->Nat->Bool
 | o,[],z=>o==z
 | o,(a,off)::b,z=>off==o&&match T a with|some φ=>Ea T (o+φ.size) b z|none=>false
def Yo (T:Nat->Option Ty):Nat->Nat->Bool
 | 0,_=>false
 | n+1,t =>
  match T t with
  | none=>false
  | some τ =>
   match τ.ds with
   | .int _ | .bool | .str=>τ.size==1
   | .slice e=>τ.size==1&&Yo T n e&&(match T e with|some φ=>decide (0<φ.size)|none=>false)
   | .struct fs=>Ea T 0 fs τ.size&&fs.all fun f=>Yo T n f.1
   | .arr m e=>Yo T n e&&(match T e with|some φ=>τ.size==m*φ.size|none=>false)
   | .map _ _=>false
   | .other=>false
def pM (w:World) (M:Nat->Prop) (a:List D) (b:List Value):Prop:=a.length=b.length∧∀(j:Nat) (x:D),a[j]? = some x->bA x=true∧∃v,b[j]? = some v∧RP w M x v
def pM.append {w:World} {M:Nat->Prop} {c d:List D} {e f:List Value} (h:pM w M c e) (k:pM w M d f):pM w M (c++d) (e++f):=by
 refine⟨by simp[h.1,k.1],fun j x b =>?_⟩;rw[List.getElem?_append]at b ⊢;rw[<- h.1];split at b
 ·rename_i a;rw[if_pos a];exact h.2 j x b
 ·rename_i a;rw[if_neg a];exact k.2 _ x b
def Gq {α:Type} (s:Nat):∀(ls:List (List α)),(∀l∈ls,l.length=s)->∀(i:Nat) (l:List α),ls[i]? = some l->(ls.flatten.drop (i*s)).take s=l
 | [],_,i,l,h=>by simp at h
 | a::ls,hl,0,l,h=>by
  simp_all
 | a::ls,hl,i+1,l,h=>by
  have b:a.length=s:=hl a (by simp);rw[List.flatten_cons,ak8,ak9 (by grind),ak6,b,ala,alb];exact Gq s ls (fun x c=>hl x (akV _ c)) i l h
def qS {α:Type} (s:Nat):∀(ls:List (List α)),(∀l∈ls,l.length=s)->ls.flatten.length=ls.length*s
 | [],_=>by simp
 | a::ls,hl=>by
  rw[List.flatten_cons,aky,qS s ls (fun x b=>hl x (akV _ b)),hl a (by simp),akf,ala];omega
section
variable {H:Type} {enc:TypeId×Value->H} {P:Program} {w:World} {base:Nat} {spare:Nat->Bool} {held:Bool} {T:Nat->Option Ty}
def eG.bytesOf {P:Program} {t:Nat} {τ:Ty} (h:eG P t τ):P.bytesOf t=τ.bytes:=by
 have:=h.info;unfold Program.bytesOf;cases a:P.info? t with
 | none=>simp_all
 | some i=>simp_all
def Reach (P:Program) (t:Nat) (d:DataW H):Prop:=∀k∈d.weights P t,k<=140737488351232
def Dh {e:TypeId} : ∀(l:List (DataW H)) (j:Nat) (d:DataW H),l[j]? = some d->∀k∈d.weights P e,k∈DataW.weightsAll P e l
 | x::l,0,d,h,k,hk=>by
  simp only[List.getElem?_cons_zero,ajH]at h;subst h;simp only[DataW.weightsAll,akT];exact .inl hk
 | x::l,j+1,d,h,k,hk=>by
  simp only[DataW.weightsAll,akT];exact .inr (Dh l j d (by simpa using h) k hk)
 | [],j,d,h,k,hk=>by simp at h
def eG.cells {P:Program} {t:Nat} {τ:Ty} (h:eG P t τ):P.cellsOf t=τ.size:=by
 have:=h.info;unfold Program.cellsOf;cases a:P.info? t with
 | none=>simp_all
 | some i=>simp_all
def VV {T:Nat->Option Ty} {w:World} {M:Nat->Prop} {cs:List Value} : ∀(c:List (Nat×Nat)) (o z:Nat) (f:Nat×Nat->List D),Ea T o c z=true->cs.length=z ->
  (∀p∈c,∃φ,T p.1=some φ∧pM w M (f p) ((cs.drop p.2).take φ.size))->o<=z->∃e,pM w M e (cs.drop o)∧∀p∈c,∃φ,T p.1=some φ∧o<=p.2∧(e.drop (p.2-o)).take φ.size=f p
 | [],o,z,f,d,g,_,_=>by
  simp only[Ea,beq_iff_eq]at d;refine⟨[],⟨by simp_all,fun j x n=>by simp at n⟩,fun p hp=>by simp at hp⟩
 | (i,off)::c,o,z,f,d,g,hp,q=>by
  simp only[Ea,aj6,beq_iff_eq]at d;obtain⟨rfl,d⟩:=d;obtain⟨φ,r,m⟩:=hp (i,off) (by simp);simp only[r]at d;have s:off+φ.size<=z:=by
   have:∀(c:List (Nat×Nat)) (o:Nat),Ea T o c z=true->o<=z:=by
    intro c
    induction c with
    | nil=>intro o h;simp only[Ea,beq_iff_eq]at h;omega
    | cons p c v =>
     intro o h;obtain⟨a,b⟩:=p;simp only[Ea,aj6]at h;grind
   exact this c _ d
  obtain⟨e,t,k⟩:=VV c (off+φ.size) z f d g (fun p h=>hp p (akV _ h)) s;have l:(f (i,off)).length=φ.size:=by
   rw[m.1,ajP,ajQ,g];omega
  refine⟨f (i,off)++e,?_,fun p h =>?_⟩
  ·have:=m.append t;rw[<- alc,ald]at this;exact this
  ·rcases ajF.1 h with rfl|h
   ·simp_all
   ·obtain⟨ψ,u,y,A⟩:=k p h;refine⟨ψ,u,by omega,?_⟩;rw[ak8,ak9 (by omega),ak6,l];grind
def pM.one {w:World} {M:Nat->Prop} {x:D} {v:Value} (a:bA x=true) (h:RP w M x v):pM w M [x] [v]:=by
 refine⟨rfl,fun j y b =>?_⟩;grind
def pM.flat {w:World} {M:Nat->Prop} {b:List Value} {s:Nat} : ∀(ls:List (List D)) (o:Nat),(∀(i:Nat) l,ls[i]? = some l->pM w M l ((b.drop (o+i*s)).take s))->(∀l∈ls,l.length=s)->pM w M ls.flatten ((b.drop o).take (ls.length*s))
 | [],o,_,_=>⟨by simp,fun j x c=>by simp at c⟩
 | a::ls,o,h,hl=>by
  have d:=h 0 a rfl;have e:=pM.flat ls (o+s) (fun i l f=>by
   have:=h (i+1) l (by simpa using f);rw[ala]at this;rw[show o+s+i*s=o+(i*s+s) by omega];exact this) (fun l g=>hl l (akV _ g))
  have:=d.append e;rw[ale,aj5]at this;rw[List.flatten_cons,akf,ala,Nat.add_comm (ls.length*s) s,List.take_add,alc];exact this
def afr (W:jN P T) {M:Nat->Prop} (hM:∀b,base<=b->b<w.heap.size->¬M b):∀(n t J:Nat) (X:List Value) (x:DataW H×List MemPlace),Yo T n t=true->DataW.trod enc P w base spare held J t X=some x->Reach P t x.1->∃xs,EY T n t xs∧pM w M xs X:=by
 intro n
 induction n with
 | zero=>intro t J X x h;cases h
 | succ n ih =>
  intro t J X x c h Y;unfold Yo at c;unfold EY;cases hτ:T t with
  | none=>simp_all
  | some τ =>
   rw[hτ]at c;simp only at c ⊢;obtain⟨d,O,I⟩:=under W hτ;cases D:τ.ds with
   | int k =>
    rw[D]at c I;simp only[beq_iff_eq]at c;have r:=Bp I;subst r;obtain⟨i,rfl,_,Y⟩:=DataW.trod_int O h;exact⟨[.int k i],⟨by rw[c];rfl,i,rfl,Y⟩,.one rfl (.int k i)⟩
   | bool =>
    rw[D]at c I;simp only[beq_iff_eq]at c;have r:=zd I;subst r;obtain⟨b,rfl,_⟩:=DataW.trod_bool O h;exact⟨[.bool b],⟨by rw[c];rfl,b,rfl⟩,.one rfl (.bool b)⟩
   | str =>
    rw[D]at c I;simp only[beq_iff_eq]at c;have r:=ve I;subst r;obtain⟨s,rfl,rfl,hs⟩:=DataW.trod_string O h;have al:s.size<=140737488351232:=by
     have:=Y s.data.toList.length (by simp[DataW.weights]);simpa using this
    exact⟨[.str s],⟨by rw[c];rfl,s,rfl,al⟩,.one rfl (.str s)⟩
   | map _ _=>simp_all
   | other=>simp_all
   | struct fs =>
    rw[D]at c I;simp only[aj6,ajJ]at c;obtain⟨F,rfl,hF⟩:=jt I;obtain⟨ys,m,_,rfl,g,ao,hf⟩:=DataW.trod_struct O h;have R:∀(i:Nat) (f:Field) y,F[i]? = some f->ys[i]? = some y->Reach P f.type y.1:=by
     intro i f y aD Z k hk;apply Y k;simp only[DataW.weights,O];exact DataW.weights_mem_each (j:=i) (t:=f.type) (d:=y.1) (by simp_all) (by simp[Z]) k hk
    rw[(W t τ hτ).cells]at g;have q:∀p:Nat×Nat,∃E,p∈fs->∃φ,T p.1=some φ∧EY T n p.1 E∧pM w M E ((X.drop p.2).take φ.size):=by
     intro p
     by_cases V:p∈fs
     ·have A:=c.2 p V;rw[<- hF]at V;obtain⟨f,aq,rfl⟩:=ajy.1 V;obtain⟨i,u⟩:=List.mem_iff_getElem?.1 aq;have h1:=hf i f (by simpa using u);simp only at A ⊢;cases Q:T f.type with
      | none=>cases n with
       | zero=>cases A
       | succ n=>simp only[Yo,Q]at A;cases A
      | some φ =>
       rw[(W _ φ Q).cells]at h1;have G:i<ys.length:=by
        grind
       rw[ajL G]at h1;obtain⟨E,aa,S⟩:=ih _ _ _ _ A h1 (R i f _ (by simpa using u) (ajL G));exact⟨E,fun _=>⟨φ,rfl,aa,S⟩⟩
     simp_all
    obtain⟨f,K⟩:=Classical.axiomOfChoice q;obtain⟨xs,hx,ak⟩:=VV fs 0 τ.size f c.1 g (fun p V=>by obtain⟨φ,a,_,b⟩:=K p V;exact⟨φ,a,b⟩) (ajA _);rw[akO]at hx;refine⟨xs,⟨by rw[hx.1,g],fun p V =>?_⟩,hx⟩;grind
   | arr m e =>
    rw[D]at c I;simp only[aj6]at c;have r:=Bn I;subst r;obtain⟨ys,k,_,rfl,g,ao,hf⟩:=DataW.trod_array O h;have R:∀(i:Nat) y,ys[i]? = some y->Reach P e y.1:=by
     intro i y Z k hk;apply Y k;simp only[DataW.weights,O];exact Dh _ i y.1 (by simp[Z]) k hk
    rw[(W t τ hτ).cells]at g;obtain⟨aA,B⟩:=c;split at B
    ·rename_i φ Q;simp only[beq_iff_eq]at B;have q:∀i:Nat,∃E,i<m->EY T n e E∧pM w M E ((X.drop (i*φ.size)).take φ.size):=by
      intro i
      by_cases u:i<m
      ·have h1:=hf i u;rw[(W _ φ Q).cells,ajL (by omega)]at h1;grind
      ·exact⟨[],fun h=>(u h).elim⟩
     obtain⟨f,K⟩:=Classical.axiomOfChoice q;have L:∀l∈(List.range m).map f,l.length=φ.size:=by
      intro l hl;obtain⟨i,u,rfl⟩:=ajy.1 hl;have u:=ak2.1 u;rw[(K i u).2.1,ajP,ajQ,g,B];have:(i+1)*φ.size<=m*φ.size:=akd _ u;grind
     have aB:∀(i:Nat) l,((List.range m).map f)[i]? = some l->i<m∧l=f i:=by
      grind
     have N:pM w M ((List.range m).map f).flatten ((X.drop 0).take (((List.range m).map f).length*φ.size)):=by
      refine pM.flat _ 0 (fun i l hl =>?_) L;grind
     rw[aj0,aj1,akO,akN (by omega)]at N;refine⟨_,⟨by rw[N.1,g],φ,Q,fun i u =>?_⟩,N⟩;have G:((List.range m).map f)[i]? = some (f i):=by simp[u]
     rw[Gq φ.size _ L i _ G];exact (K i u).1
    ·cases B
   | slice e =>
    rw[D]at c I;simp only[aj6,beq_iff_eq]at c;have r:=ij I;subst r;obtain⟨⟨q,ad⟩,C⟩:=c;split at C
    ·rename_i φ Q;simp only[decide_eq_true_eq]at C;rcases open_slice O h with⟨rfl,_⟩|⟨a,len,ar,m,k,D',Pl,rfl,hb,hl,hm,aE,rfl,u⟩
     ·refine⟨[.sl false false 0 []],⟨by rw[q];rfl,0,[],φ,rfl,by omega,Q,by simp,fun i u=>by omega⟩,.one rfl ?_⟩;exact .sl none 0 false false 0 [] (fun _=>undef) (ajz _) (ajA _) (fun h=>by cases h) (fun _=>⟨rfl,rfl⟩) (fun h=>by cases h) (fun h=>(h rfl).elim) (fun j x hj=>by simp at hj) (fun x hx=>by simp at hx)
     ·have aF:len<=m:=by grind
      have au:len*φ.bytes<=140737488351232:=by
       have h1:=Y ((((List.range len).map D').length+((List.range (m-len)).map fun j=>D' (len+j)).length)*P.bytesOf e) (by simp[DataW.weights,O]);rw[(W _ φ Q).bytesOf]at h1;grind
      have R:∀i,i<len->Reach P e (D' i):=by
       intro i G k hk;apply Y k;simp only[DataW.weights,O,ajF,akT];exact .inr (.inl (Dh _ i (D' i) (by simp[G]) k hk))
      have ab:∀i:Nat,∃E,i<len->EY T n e E∧E.length=φ.size∧∀(j:Nat) z,E[j]? = some z->bA z=true∧∃v,w.cell? (a.add (i*φ.size+j))=some v∧RP w M z v:=by
       intro i
       by_cases ae:i<len
       ·obtain⟨aG,ag,av⟩:=u i (by omega);rw[(W _ φ Q).cells]at ag;obtain⟨_,g1,g2⟩:=World.cells?_some ag;obtain⟨E,aa,S⟩:=ih _ _ _ _ ad av (R i ae);refine⟨E,fun _=>⟨aa,by rw[S.1,g1],fun j z hj =>?_⟩⟩;obtain⟨p1,v,p2,p3⟩:=S.2 j z hj;refine⟨p1,v,?_,p3⟩;have aw:j<φ.size:=by grind
        rw[<- Go.Deep.add_add,g2 j aw,p2]
       ·exact⟨[],fun h=>(ae h).elim⟩
      obtain⟨f,K⟩:=Classical.axiomOfChoice ab;have L:∀l∈(List.range len).map f,l.length=φ.size:=by
       simp_all
      have ah:((List.range len).map f).flatten.length=len*φ.size:=by rw[qS φ.size _ L];simp
      have aC:∀i,i<len->(((List.range len).map f).flatten.drop (i*φ.size)).take φ.size=f i:=fun i u=>Gq φ.size _ L i (f i) (by simp[u]);have ai:∀(p:Nat) z,((List.range len).map f).flatten[p]? = some z->bA z=true∧∃v,w.cell? (a.add p)=some v∧RP w M z v:=by
       intro p z V;have ax:=(ajZ.1 V).1;rw[ah]at ax;have hq:p / φ.size<len:=Nat.div_lt_of_lt_mul (by rwa [Nat.mul_comm]);have hr:p % φ.size<φ.size:=akk _ C;have he:p / φ.size*φ.size+p % φ.size=p:=Nat.div_add_mod' p φ.size;have hz:(f (p / φ.size))[p % φ.size]? = some z:=by
        grind
       grind
      refine⟨[.sl false false len ((List.range len).map f).flatten],⟨by rw[q];rfl,len,_,φ,rfl,au,Q,ah,fun i u=>by simp_all⟩,.one rfl ?_⟩;refine .sl (some a) ar false false len _ (fun j=>(w.cell? (a.add j)).getD undef) hl hm (fun h=>by cases h) (fun h=>by cases h) (fun h=>by cases h) (fun ay =>?_) (fun j z hj =>?_) (fun z hz =>?_)
      ·have h0:0<((List.range len).map f).flatten.length:=alf.2 ay;obtain⟨_,v,U,_⟩:=ai 0 _ (ajL h0);obtain⟨b,o,sp⟩:=a;have az:sp=none:=by
        unfold World.cell? at U;split at U
        ·split at U
         ·cases U
         ·rename_i h;simpa [Addr.add] using h
        ·cases U
       subst az;have aj:b<w.heap.size:=by
        unfold World.cell? at U;split at U
        ·rename_i hh;exact (akx.1 hh).1
        ·cases U
       refine⟨b,o,rfl,aj,hM b hb aj,fun j hj =>?_⟩;obtain⟨_,v,U,_⟩:=ai j _ (ajL hj);have ha:Addr.add ⟨b,o,none⟩ j=⟨b,o+j,none⟩:=by
        unfold Addr.add;simp_all
       simp_all
      ·grind
      ·obtain⟨j,hj⟩:=List.mem_iff_getElem?.1 hz;grind
    ·cases C
def xz (T:Nat->Option Ty) (n t:Nat) (d:D):Prop :=
 match T t with
 | some τ=>if τ.ds.vo then ∃a,d=.agg a∧EY T n t a else EY T n t [d]
 | none=>False
def pM.agg {w:World} {M:Nat->Prop} {a:List D} {b:Array Value} (h:pM w M a b.toList):RP w M (.agg a) (.agg b):=by
 have:=RP.agg (w:=w) (M:=M) a b.toList h.1.symm (fun j x c=>by
  obtain⟨_,v,e,f⟩:=h.2 j x c;simp_all) (fun x d=>by
  obtain⟨j,c⟩:=List.mem_iff_getElem?.1 d;exact (h.2 j x c).1)
 simpa using this
def pM.single {w:World} {M:Nat->Prop} {a:List D} {v:Value} (h:pM w M a [v]):∃x,a=[x]∧RP w M x v:=by
 match a,h with
 | [],h=>have:=h.1;simp at this
 | [x],h=>obtain⟨_,u,b,c⟩:=h.2 0 x rfl;simp_all
 | x::y::a,h=>have:=h.1;simp at this
def ac7 (A:jN P T) {M:Nat->Prop} (C:∀b,base<=b->b<w.heap.size->¬M b) {n t D:Nat} {v:Value} {d:DataW H} {E:List MemPlace} (f:Yo T n t=true) (o:Value.okWide P w .any D t v) (h:DataW.Trod enc P w base spare held t v d E) (G:Reach P t d) :
  ∃x,xz T n t x∧RP w M x v:=by
 obtain⟨r,h⟩:=h;obtain⟨B,p,q⟩:=afr A C n t r _ _ f h G;unfold xz;cases n with
 | zero=>cases f
 | succ n =>
 cases u:T t with
 | none=>simp only[Yo,u]at f;cases f
 | some τ =>
  simp only;obtain⟨I,s,j⟩:=under A u;cases g:τ.ds with
  | int k =>
   rw[g]at j;have c:=Bp j;subst c;obtain⟨i,rfl⟩:=okWide_int s o;obtain⟨x,rfl,l⟩:=pM.single (v := .int k i) q;exact⟨x,by simpa [Ds.vo] using p,l⟩
  | bool =>
   rw[g]at j;have c:=zd j;subst c;obtain⟨i,rfl⟩:=okWide_bool s o;obtain⟨x,rfl,l⟩:=pM.single (v := .bool i) q;exact⟨x,by simpa [Ds.vo] using p,l⟩
  | str =>
   rw[g]at j;have c:=ve j;subst c;obtain⟨i,rfl⟩:=okWide_string s o;obtain⟨x,rfl,l⟩:=pM.single (v := .string i) q;exact⟨x,by simpa [Ds.vo] using p,l⟩
  | slice e =>
   rw[g]at j;have c:=ij j;subst c;obtain⟨a,len,y,rfl⟩:=okWide_slice s o;obtain⟨x,rfl,l⟩:=pM.single (v := .slice a len y) q;exact⟨x,by simpa [Ds.vo] using p,l⟩
  | struct fs =>
   rw[g]at j;obtain⟨F,rfl,_⟩:=jt j;obtain⟨z,rfl,_⟩:=okWide_struct s o;exact⟨.agg B,by simpa [Ds.vo] using p,pM.agg q⟩
  | arr m e =>
   rw[g]at j;have c:=Bn j;subst c;have:∃z,v=.agg z:=by
    unfold Value.okWide at o;grind
   obtain⟨z,rfl⟩:=this;exact⟨.agg B,by simpa [Ds.vo] using p,pM.agg q⟩
  | map _ _=>simp only[Yo,u,g]at f;cases f
  | other=>simp only[Yo,u,g]at f;cases f
def Jw (o:jN P T) {M:Nat->Prop} (r:∀b,base<=b->b<w.heap.size->¬M b) {n b0:Nat} : ∀(c:List TypeId) (vs:List Value) (g:List (DataW H)) (l:List MemPlace),DataW.TrodAll enc P w base spare held c vs g l ->
  (∀(j:Nat) t v,c[j]? = some t->vs[j]? = some v->Value.okWide P w .any b0 t v)->(∀t∈c,Yo T n t=true)->(∀k∈DataW.weightsEach P c g,k<=140737488351232) ->
  ∃e:List D,e.length=vs.length∧(∀(j:Nat) x,e[j]? = some x->∃v,vs[j]? = some v∧RP w M x v)∧e.length=c.length∧∀(j:Nat) t,c[j]? = some t->∃x,e[j]? = some x∧xz T n t x
 | [],[],[],l,_,_,_,_=>⟨[],rfl,fun j x f=>by simp at f,rfl,fun j t f=>by simp at f⟩
 | t::c,v::vs,d::g,l,h,hv,hok,hw=>by
  obtain⟨p,q,s,u,_⟩:=h;obtain⟨x,z,A⟩:=ac7 o r (hok t (by simp)) (hv 0 t v rfl rfl) s (fun k m=>hw k (by simp only[DataW.weightsEach,akT];exact .inl m));obtain⟨e,B,G,C,I⟩:=Jw o r c vs g q u (fun j i E a b=>hv (j+1) i E (by simpa using a) (by simpa using b)) (fun i F=>hok i (akV _ F)) (fun k m=>hw k (by simp only[DataW.weightsEach,akT];exact .inr m));refine⟨x::e,by simp[B],fun j y f =>?_,by simp[C],fun j i f =>?_⟩
  ·grind
  grind
 | [],[],_::_,_,h,_,_,_=>h.elim
 | [],_::_,_,_,h,_,_,_=>h.elim
 | _::_,[],_,_,h,_,_,_=>h.elim
 | _::_,_::_,[],_,h,_,_,_=>h.elim
end
end Go.Proofs.YtobnihfgnbnncaaGreat.Am
namespace Go.Proofs.YtobnihfgnbnncaaGreat.Am
open Go.RowKit Go.Deep Go.ChangeShapes Go.WideShapes Go.ChangeAt
section
variable {H:Type} {enc:TypeId×Value->H} {P:Program}
def I3 {f:Func} {s:ChangeSpec} {c fresh d l:Bool} {W m:World} {e:Array Value} {v:Value} {n o:List (DataW H)} {a pa pv:List MemPlace}
  (hW:DataW.Whole enc P f.params.toList s.vars c W e.toList n o a)
  (i:∀(b:Nat) (sp:Nat->Bool) (A:Bool),DataW.TrodAll enc P m b sp A f.resultTypes.toList (v.resultList f.resultTypes.size) (s.fn H (n++o)).results [])
  (g:∀sp:Nat->Bool,(∀p∈a,sp p.block=true)->DataW.TrodAll enc P m 0 sp true f.params.toList e.toList (s.fn H (n++o)).args pa)
  (h:∀sp:Nat->Bool,(∀p∈a,sp p.block=true)->DataW.TrodVars enc P m sp s.vars (s.fn H (n++o)).vars pv)
  (B:a=pa++pv) (z:Below W.heap.size W m)
  (x:∀(j:Nat) (t:TypeId) (r:Value),f.resultTypes[j]? = some t->(v.resultList f.resultTypes.size)[j]? = some r->Value.okWide P m .any 0 t r) :
  s.post enc P f c fresh d l W e v m:=by
 have y:∀p∈a,p.block<W.heap.size:=fun p q=>hW.lt p q;have k:∀p∈a,(fun b=>decide (b<W.heap.size)) p.block=true:=fun p q=>by simp_all
 refine⟨n,o,a,[],pa,pv,hW,i _ _ _,g _ k,h _ k,World.keptBut_mono (fun p q=>⟨q,?_⟩) (z.frame (·∈a)),fun _ =>?_⟩
 ·simp_all
 ·obtain⟨_,_,_,_,_,C,D⟩:=hW;refine⟨x,_,_,([]++pa)++pv,⟨[]++pa,pv,trodAll_append (g _ (fun _ _=>rfl)) (i _ _ _),h _ (fun _ _=>rfl),rfl,?_,?_⟩,?_⟩
  ·intro b u q;have w:MemPlace.cell b u∈a:=by simp_all
   rw[z.frozen (y _ w)];exact C b u w
  ·simp_all
  simp_all
def Ad (k:laidOutB P=true) {W l:World} {b:Nat->Bool} : ∀ {c:List TypeId} {i:List Value} {j:List (DataW H)} {f:List MemPlace},(∀t∈c,P.readableRec t=true∧t<P.types.size)->DataW.TrodAll enc P W 0 (fun _=>true) true c i j f ->
  (∀p∈f,W.sameAt l p)->(∀p∈f,b p.block=true)->DataW.TrodAll enc P l 0 b true c i j f
 | [],[],[],_,_,h,_,_=>h
 | t::c,v::i,d::j,_,hr,⟨p,q,h1,h2,e⟩,hs,hp=>by
  subst e;have g:=hr t (by simp);exact⟨p,q,WideElems.Trod_stays k g.1 g.2 h1 (fun x a=>hs x (ajM _ a)) (fun x a=>hp x (ajM _ a)),
   Ad k (fun t g=>hr t (akV _ g)) h2 (fun x a=>hs x (ajN _ a)) (fun x a=>hp x (ajN _ a)),rfl⟩
end
def abW {H:Type} {enc:TypeId×Value->H} {C:Checked} {T:Nat->Option Ty} {f:FuncId} {c:Func} {s:ChangeSpec} {g fresh i o:Bool} {V n:Nat} (hT:jN C.prog T)
  (hl:laidOutB C.prog=true) (F:(c.params.toList.all fun t=>C.prog.readableRec t&&decide (t<C.prog.types.size)&&Yo T n t)=true)
  (m:c.resultTypes = #[V]) (w:C.prog.underlying V=some .bool) (G:s.vars=[])
  (hs:∀ds:List (DataW H),ds.length=c.params.toList.length->(s.fn H ds).results=[.lit (.bool true)]∧(s.fn H ds).args=ds∧(s.fn H ds).vars=[])
  (I:∀y:List D,y.length=c.params.toList.length->(∀(j:Nat) t,c.params.toList[j]? = some t->∃x,y[j]? = some x∧xz T n t x)->SC C.prog f y (.bool true))
  {W:World} {base:Nat} {args:Array Value} {ds X:List (DataW H)} {l:List MemPlace}
  (hval:∀(j:Nat) t v,c.params[j]? = some t->args[j]? = some v->Value.okWide C.prog W .any base t v) (Y:DataW.Whole enc C.prog c.params.toList s.vars g W args.toList ds X l)
  (r:(DataW.weightsEach C.prog (c.params.toList++s.plain.varTypes C.prog) (ds++X)).all (·<=reachBytes)=true) (z:Xj W (fun _=>False)) :
  Calls C.prog f args W fun e J=>∃v,e=.returned v∧s.post enc C.prog c g fresh i o W args v J:=by
 have A:=Y;obtain⟨p,q,K,Z,rfl,aa,ab⟩:=Y;rw[G]at Z;obtain⟨rfl,rfl⟩:=trodVars_none Z;simp only[ajJ,aj6,decide_eq_true_eq]at F;obtain⟨y,h1,L,h3,h4⟩:=Jw (P:=C.prog) hT (M:=fun _=>False) (fun b _ _ h=>h) (n:=n) (b0:=base) c.params.toList args.toList ds p K
  (fun j t v a b=>hval j t v (by simpa using a) (by simpa using b)) (fun t N=>(F t N).2) (fun k hk=>by
   rw[ajJ]at r;have O:s.plain.varTypes C.prog=[]:=by unfold ChangeSpec.plain;simp only[G];rfl
   rw[O,alg,alg]at r;have h:=r k hk;rw[decide_eq_true_eq]at h;exact h)
 refine (I y h3 h4 W (fun _=>False) args (fun b h=>h.elim) ⟨by simpa using h1.symm,fun j x hj =>?_,z⟩).mono fun e J hG =>?_
 ·obtain⟨v,g1,g2⟩:=L j x hj;simp_all
 ·obtain⟨v,rfl,hb,Q⟩:=hG;have R:RP J (fun _=>False) (.bool true) v:=Q;cases R;have B:ds.length=c.params.toList.length:=by
   have:∀ {E:List TypeId} {u:List Value} {ds:List (DataW H)} {S:List MemPlace},DataW.TrodAll enc C.prog W 0 (fun _=>true) true E u ds S->ds.length=E.length:=by
    intro E
    induction E with
    | nil=>intro u ds S h;cases u<;>cases ds<;>first|rfl|exact h.elim
    | cons t E ih =>
     intro u ds S h;cases u with
     | nil=>exact h.elim
     | cons v u=>cases ds with
      | nil=>exact h.elim
      | cons d ds=>obtain⟨_,_,_,L,_⟩:=h;simp[ih L]
   exact this K
  obtain⟨e1,e2,e3⟩:=hs ds B;refine⟨_,rfl,I3 (pa:=p) (pv:=[]) A ?_ ?_ ?_ (by simp) hb ?_⟩
  ·intro b sp hd;rw[alg,e1,m];exact trodAll_mk1 ⟨1,by simp[DataW.trod,w,Value.cells]⟩
  ·intro sp hsp;rw[alg,e2];refine Ad hl (fun t N=>(F t N).1) K (fun x U=>hb.same (A.lt x (by simpa using U))) (fun x U=>hsp x (by simpa using U))
  ·intro sp _;rw[alg,e3,G];rfl
  ·exact ok_one m rfl (by simp[Value.okWide,w,Cell.okWide,Cell.ok])
def T3 {H:Type} {enc:TypeId×Value->H} {C:Checked} {u:Os} {T:Nat->Option Ty} {f:FuncId} {k:Func} {s:ChangeSpec} {d:List PathCond} {a fresh e m:Bool} {tb n:Nat}
  (F:jN C.prog T) (own:ownKnob C.prog.godebug=none) (g:u.Started) (l:C.prog.inits.idxOf? f=none) (v:C.prog.funcs[f]? = some k)
  (h:∃(w:World) (c:Tape) (i:Input),w.os=u∧(w.forCall c i).Shaped C.prog∧i.vars=[]∧Input.okWide C.prog (w.forCall c i) .any w.heap.size f i ∧
   s.pre6 enc C.prog k d a (w.forCall c i).memory i.args∧({} : Assume).holds C.prog (lone (Frame.enter C.prog f i.args .normal) [] (w.forCall c i)))
  (G:laidOutB C.prog=true) (I:(k.params.toList.all fun t=>C.prog.readableRec t&&decide (t<C.prog.types.size)&&Yo T n t)=true)
  (p:k.resultTypes = #[tb]) (y:C.prog.underlying tb=some .bool) (J:s.vars=[])
  (K:∀o:List (DataW H),o.length=k.params.toList.length->(s.fn H o).results=[.lit (.bool true)]∧(s.fn H o).args=o∧(s.fn H o).vars=[])
  (z:∀A:List D,A.length=k.params.toList.length->(∀(j:Nat) t,k.params.toList[j]? = some t->∃x,A[j]? = some x∧xz T n t x)->SC C.prog f A (.bool true)) (L:aco=none:=by rfl) :
  ReturnsInHanded {} C u f .any (s.pre6 enc C.prog k d a) (s.post enc C.prog k a fresh e m):=by
 apply returnsInHanded_of_change_sized own g l v h;intro W base E o N r q M _ B _;exact abW F G I p y J K z q M B (fun b O=>by simp_all)
end Go.Proofs.YtobnihfgnbnncaaGreat.Am
namespace Go.Proofs.YtobnihfgnbnncaaGreat.Am
open Go.RowKit
def agO {T:Nat->Option Ty} {n t:Nat} {b:List D} (h:b.length=[t].length) (c:∀(j:Nat) u,[t][j]? = some u->∃x,b[j]? = some x∧xz T n u x):∃a,b=[a]∧xz T n t a:=by
 match b,h with
 | [a],_=>obtain⟨x,d,e⟩:=c 0 t rfl;cases d;exact⟨a,rfl,e⟩
def agP {T:Nat->Option Ty} {n t:Nat} {b:List Nat} {c:List D} (h:c.length=(t::b).length) (d:∀(j:Nat) u,(t::b)[j]? = some u->∃x,c[j]? = some x∧xz T n u x) :
  ∃a aju,c=a::aju∧xz T n t a∧aju.length=b.length∧∀(j:Nat) u,b[j]? = some u->∃x,aju[j]? = some x∧xz T n u x:=by
 match c,h with
 | a::aju,h =>
  obtain⟨x,e,f⟩:=d 0 t rfl;cases e;exact⟨a,aju,rfl,f,by simpa using h,fun j u g=>by simpa using d (j+1) u (by simpa using g)⟩
section
variable {T:Nat->Option Ty} {n t:Nat} {τ:Ty} {d:D}
def SP {b:List (Nat×Nat)} (h:xz T n t d) (c:T t=some τ) (e:τ.ds=.struct b):∃a,d=.agg a∧EY T n t a:=by
 simp only[xz,c,e,Ds.vo,if_true]at h;exact h
def Xo {e:Nat} (h:xz T n t d) (a:T t=some τ) (b:τ.ds=.slice e):EY T n t [d]:=by
 simp only[xz,a,b,Ds.vo,aj4,if_false]at h;exact h
def aef {k:IntKind} {a:List D} (h:EY T (n+1) t a) (b:T t=some τ) (c:τ.ds=.int k):∃i,a=[.int k i]∧(Lit.int k i).wf=true:=by
 simp only[EY,b,c]at h;exact h.2
def aeg {a:List D} (h:EY T (n+1) t a) (b:T t=some τ) (c:τ.ds=.str):∃s:ByteArray,a=[.str s]∧s.size<=140737488351232:=by
 simp only[EY,b,c]at h;exact h.2
def YR {e:Nat} {φ:Ty} {b:List D} (h:EY T (n+1) t b) (d:T t=some τ) (f:τ.ds=.slice e) (g:T e=some φ) :
  ∃len a,b=[.sl false false len a]∧len*φ.bytes<=140737488351232∧a.length=len*φ.size∧∀i,i<len->EY T n e ((a.drop (i*φ.size)).take φ.size):=by
 simp only[EY,d,f]at h;obtain⟨_,len,a,ψ,j,k,c,l,m⟩:=h;rw[g]at c;cases c;exact⟨len,a,j,k,l,m⟩
def Ut {b:List (Nat×Nat)} {a:List D} (h:EY T (n+1) t a) (c:T t=some τ) (d:τ.ds=.struct b):a.length=τ.size∧∀f∈b,∃φ,T f.1=some φ∧EY T n f.1 ((a.drop f.2).take φ.size):=by
 simp only[EY,c,d]at h;exact h
end
end Go.Proofs.YtobnihfgnbnncaaGreat.Am
namespace Go.Proofs.YtobnihfgnbnncaaGreat.Am
open Go.RowKit Go.Proofs.YtobnihfgnbnncaaGreat.P
def DC {α:Type} (T:Nat->Option Ty) (n t:Nat) (E:jb α) (b:α->Prop):Prop:=(∃φ,T t=some φ∧φ.size=E.size)∧∀a,EY T n t a->∃x,a=E.cells x∧b x
section
variable {T:Nat->Option Ty} {n t:Nat} {τ:Ty}
def opI {k:IntKind} (a:T t=some τ) (b:τ.ds=.int k) (c:τ.size=1):DC T (n+1) t (eI k) (fun i=>(Lit.int k i).wf=true):=⟨⟨τ,a,c⟩,fun _ h=>aef h a b⟩
def aha (a:T t=some τ) (b:τ.ds=.str) (c:τ.size=1):DC T (n+1) t afx (fun s=>s.size<=140737488351232):=⟨⟨τ,a,c⟩,fun _ h=>aeg h a b⟩
def ae9 {α:Type} (E:jb α) (d:α->Prop):∀(len:Nat) (a:List D),a.length=len*E.size->(∀i,i<len->∃x,(a.drop (i*E.size)).take E.size=E.cells x∧d x)->∃l:List α,l.length=len∧a=av E l∧∀x∈l,d x
 | 0,a,e,_=>⟨[],rfl,by simpa [av] using e,fun x c=>by simp at c⟩
 | len+1,a,e,h=>by
  obtain⟨x,c,f⟩:=h 0 (by omega);obtain⟨l,j,k,m⟩:=ae9 E d len (a.drop E.size) (by rw[ajQ,e,ala];omega) (fun i n=>by
   obtain⟨y,b,g⟩:=h (i+1) (by omega);refine⟨y,?_,g⟩;rw[alc];rw[ala,Nat.add_comm]at b;exact b)
  rw[ale,akO]at c;refine⟨x::l,by simp[j],?_,fun y b =>?_⟩
  ·rw[ck,<- k,<- c,ald]
  ·rcases ajF.1 b with rfl|b
   ·exact f
   ·exact m y b
def TV {α:Type} {E:jb α} {a:α->Prop} {e:Nat} (b:T t=some τ) (k:τ.ds=.slice e) (m:τ.size=1) {B:Nat} (c:(T e).map (·.bytes)=some B) (o:DC T n e E a):DC T (n+1) t (fk E) (fun l=>l.length*B<=140737488351232∧∀x∈l,a x):=by
 obtain⟨⟨φ,d,p⟩,hx⟩:=o;have q:φ.bytes=B:=by rw[d]at c;simpa using c
 refine⟨⟨τ,b,m⟩,fun z h =>?_⟩;obtain⟨len,r,s,f,g,j⟩:=YR h b k d;rw[p]at g j;rw[q]at f;obtain⟨l,u,v,w⟩:=ae9 E a len r g fun i y=>hx _ (j i y);subst u v;exact⟨l,s,f,w⟩
def OpF {α:Type} (T:Nat->Option Ty) (n:Nat) (b:List (Nat×Nat)) (o:Nat) (E:jb α) (c:α->Prop):Prop :=
 ∀a:List D,a.length=o+E.size->(∀f∈b,∃φ,T f.1=some φ∧EY T n f.1 ((a.drop f.2).take φ.size))->∃x,a.drop o=E.cells x∧c x
def Ri {α:Type} {E:jb α} {b:α->Prop} {a o:Nat} (h:DC T n a E b):OpF T n [(a,o)] o E b:=by
 obtain⟨⟨φ,d,i⟩,e⟩:=h;intro j k f;obtain⟨ψ,g,c⟩:=f (a,o) (by simp);cases d.symm.trans g;rw[akN (by rw[ajQ];omega)]at c;exact e _ c
def Da {α β:Type} {E:jb α} {ok:α->Prop} {b:jb β} {a:β->Prop} {c o k:Nat} {l:List (Nat×Nat)} (h:DC T n c E ok) (p:k=o+E.size) (q:OpF T n l k b a):OpF T n ((c,o)::l) o (og E b) (fun x=>ok x.1∧a x.2):=by
 subst p;obtain⟨⟨φ,r,s⟩,t⟩:=h;intro m u hf;obtain⟨ψ,v,w⟩:=hf (c,o) (by simp);cases r.symm.trans v;obtain⟨x,d,e⟩:=t _ w;obtain⟨y,g,i⟩:=q m (by rw[u];show o+(E.size+b.size)=_;omega) fun f j=>hf f (akV _ j);refine⟨(x,y),?_,e,i⟩;show m.drop o=E.cells x++b.cells y;rw[<- d,<- g,<- s,<- alc,ald]
def opS {α β:Type} {E:jb β} {ok:β->Prop} {f:α->β} {i:∀x y,f x=f y->x=y} {g:β->α} {a:List (Nat×Nat)} (b:T t=some τ) (j:τ.ds=.struct a) (c:τ.size=E.size) (d:∀y,f (g y)=y) (h:OpF T n a 0 E ok):DC T (n+1) t (BG E f i) (fun x=>ok (f x)):=by
 refine⟨⟨τ,b,c⟩,fun e k =>?_⟩;obtain⟨l,m⟩:=Ut k b j;obtain⟨y,o,p⟩:=h e (by rw[l,c,akw]) m;refine⟨g y,?_,?_⟩
 ·show e=E.cells (f (g y));rw[d,<- o,akO]
 ·show ok (f (g y));rw[d];exact p
def OpA {α:Type} (T:Nat->Option Ty) (n t:Nat) (A:Arg α) (a:α->Prop):Prop:=∀d,xz T n t d->∃x,d=A.d x∧a x
def aiT {α:Type} {E:jb α} {a:List α->Prop} {e:Nat} (c:T t=some τ) (f:τ.ds=.slice e) (g:DC T n t (fk E) a):OpA T n t (ko E) a:=fun d h=>by
 obtain⟨x,b,i⟩:=g.2 _ (Xo h c f);simp only[Cu,ajU,and_true]at b;exact⟨x,b,i⟩
def oaS {α:Type} {E:jb α} {b:α->Prop} {c:List (Nat×Nat)} (e:T t=some τ) (f:τ.ds=.struct c) (g:DC T n t E b):OpA T n t (bV E) b:=fun d h=>by
 obtain⟨j,rfl,a⟩:=SP h e f;obtain⟨x,a,i⟩:=g.2 _ a;exact⟨x,by rw[a];rfl,i⟩
def Zv {α:Type} (T:Nat->Option Ty) (n:Nat) (b:List Nat) (A:km α) (c:α->Prop):Prop:=∀a:List D,a.length=b.length->(∀(j:Nat) u,b[j]? = some u->∃x,a[j]? = some x∧xz T n u x)->∃x,a=A.ds x∧c x
def aiU {α:Type} {A:Arg α} {b:α->Prop} (h:OpA T n t A b):Zv T n [t] (dN A) b:=fun g c d=>by
 obtain⟨a,rfl,e⟩:=agO c d;obtain⟨x,rfl,f⟩:=h a e;exact⟨x,rfl,f⟩
def aiV {α β:Type} {A:Arg α} {ok:α->Prop} {B:km β} {b:β->Prop} {e:List Nat} (h:OpA T n t A ok) (g:Zv T n e B b):Zv T n (t::e) (gG A B) (fun x=>ok x.1∧b x.2):=fun f i j=>by
 obtain⟨a,f,rfl,k,c,d⟩:=agP i j;obtain⟨x,rfl,l⟩:=h a k;obtain⟨y,rfl,m⟩:=g f c d;exact⟨(x,y),rfl,l,m⟩
def afJ {P:Program} {f:FuncId} {α:Type} {A:km α} {F:α->Option Bool} {c:α->Prop} {b:List Nat} (d:Zv T n b A c) (e:cr P f (er A F (fun r =>.clean (.bool r)))) (h:∀x,c x->F x=some true) (a:List D) (g:a.length=b.length)
  (i:∀(j:Nat) u,b[j]? = some u->∃x,a[j]? = some x∧xz T n u x):SC P f a (.bool true):=by
 obtain⟨x,rfl,k⟩:=d a g i;refine e.calls none _ _ none ?_;rw[cK,h x k];rfl
end
end Go.Proofs.YtobnihfgnbnncaaGreat.Am
namespace Go.Proofs.YtobnihfgnbnncaaGreat.P
open Go.RowKit
def NN (l:List Int):Option (List Int):=some l
def Fb (l:List Int):Option (List Int):=if l.length*8<=140737488351232 then some (rN l) else none
end Go.Proofs.YtobnihfgnbnncaaGreat.P
namespace Go.Proofs
open Go.Shelf
def Tryz.Qf:Go.Shelf.Ren:=⟨fun|189=>194|125=>122|257=>201|128=>164|129=>165|294=>203|295=>204|296=>205|297=>206|298=>207|299=>208|216=>209|300=>210|301=>211|328=>213|329=>188|330=>189|331=>214|332=>215|215=>153|343=>216|n=>n,fun|28=>22|3=>3|46=>153|0=>0|51=>190|53=>152|4=>4|183=>184|182=>183|131=>172|5=>5|9=>9|218=>207|222=>211|228=>216|229=>217|n=>n,fun|n=>n⟩
def Tryz.VU:Go.Proofs.Lays.n189 prog Tryz.Qf:={
 mixed:=by kernel_rfl
 f125:=Tryz.func122.trans (congrArg some (by kernel_rfl))
 f128:=Tryz.func164.trans (congrArg some (by kernel_rfl))
 f129:=Tryz.func165.trans (congrArg some (by kernel_rfl))
 f189:=Tryz.func194.trans (congrArg some (by kernel_rfl))
 f215:=Tryz.func153.trans (congrArg some (by kernel_rfl))
 f216:=Tryz.func209.trans (congrArg some (by kernel_rfl))
 f257:=Tryz.func201.trans (congrArg some (by kernel_rfl))
 f294:=Tryz.func203.trans (congrArg some (by kernel_rfl))
 f295:=Tryz.func204.trans (congrArg some (by kernel_rfl))
 f296:=Tryz.func205.trans (congrArg some (by kernel_rfl))
 f297:=Tryz.func206.trans (congrArg some (by kernel_rfl))
 f298:=Tryz.func207.trans (congrArg some (by kernel_rfl))
 f299:=Tryz.func208.trans (congrArg some (by kernel_rfl))
 f300:=Tryz.func210.trans (congrArg some (by kernel_rfl))
 f301:=Tryz.func211.trans (congrArg some (by kernel_rfl))
 f328:=Tryz.func213.trans (congrArg some (by kernel_rfl))
 f329:=Tryz.func188.trans (congrArg some (by kernel_rfl))
 f330:=Tryz.func189.trans (congrArg some (by kernel_rfl))
 f331:=Tryz.func214.trans (congrArg some (by kernel_rfl))
 f332:=Tryz.func215.trans (congrArg some (by kernel_rfl))
 f343:=Tryz.func216.trans (congrArg some (by kernel_rfl))
 t0:=underlying0
 a0:=isAgg0
 z0:=sizeOf0
 v0:=zeroValue0
 t3:=underlying3
 a3:=isAgg3
 z3:=sizeOf3
 v3:=zeroValue3
 t4:=underlying4
 a4:=isAgg4
 z4:=sizeOf4
 v4:=zeroValue4
 t5:=underlying5
 a5:=isAgg5
 z5:=sizeOf5
 v5:=zeroValue5
 t9:=underlying9
 a9:=isAgg9
 z9:=sizeOf9
 v9:=zeroValue9
 t28:=underlying22
 a28:=isAgg22
 z28:=sizeOf22
 v28:=zeroValue22
 t46:=underlying153
 a46:=isAgg153
 z46:=sizeOf153
 v46:=zeroValue153
 t51:=underlying190
 a51:=isAgg190
 z51:=sizeOf190
 v51:=zeroValue190
 t53:=underlying152
 a53:=isAgg152
 z53:=sizeOf152
 v53:=zeroValue152
 t131:=underlying172
 a131:=isAgg172
 z131:=sizeOf172
 v131:=zeroValue172
 t182:=underlying183
 a182:=isAgg183
 z182:=sizeOf183
 v182:=zeroValue183
 t183:=underlying184
 a183:=isAgg184
 z183:=sizeOf184
 v183:=zeroValue184
 t218:=underlying207
 a218:=isAgg207
 z218:=sizeOf207
 v218:=zeroValue207
 t222:=underlying211
 a222:=isAgg211
 z222:=sizeOf211
 v222:=zeroValue211
 t228:=underlying216
 a228:=isAgg216
 z228:=sizeOf216
 v228:=zeroValue216
 t229:=underlying217
 a229:=isAgg217
 z229:=sizeOf217
 v229:=zeroValue217 }
def Tryz.Ua:Go.Shelf.Ren:=⟨fun|6=>66|15=>122|14=>121|28=>164|29=>165|20=>156|21=>157|22=>158|23=>159|24=>160|25=>161|26=>162|27=>163|46=>187|47=>188|48=>189|49=>190|50=>191|57=>199|n=>n,fun|22=>64|24=>118|25=>120|3=>3|39=>153|0=>0|53=>190|55=>152|4=>4|46=>184|45=>183|50=>172|5=>5|9=>9|66=>207|70=>211|76=>216|77=>217|n=>n,fun|n=>n⟩
def Tryz.acb:Go.Proofs.SlLaysF0.n6 prog Tryz.Ua:={
 mixed:=by kernel_rfl
 f6:=⟨Tryz.f66.name,by decide,Tryz.func66.trans (congrArg some (by kernel_rfl))⟩
 f14:=⟨Tryz.f121.name,by decide,Tryz.func121.trans (congrArg some (by kernel_rfl))⟩
 f15:=Tryz.func122.trans (congrArg some (by kernel_rfl))
 f20:=⟨Tryz.f156.name,by decide,Tryz.func156.trans (congrArg some (by kernel_rfl))⟩
 f21:=⟨Tryz.f157.name,by decide,Tryz.func157.trans (congrArg some (by kernel_rfl))⟩
 f22:=⟨Tryz.f158.name,by decide,Tryz.func158.trans (congrArg some (by kernel_rfl))⟩
 f23:=⟨Tryz.f159.name,by decide,Tryz.func159.trans (congrArg some (by kernel_rfl))⟩
 f24:=⟨Tryz.f160.name,by decide,Tryz.func160.trans (congrArg some (by kernel_rfl))⟩
 f25:=⟨Tryz.f161.name,by decide,Tryz.func161.trans (congrArg some (by kernel_rfl))⟩
 f26:=⟨Tryz.f162.name,by decide,Tryz.func162.trans (congrArg some (by kernel_rfl))⟩
 f27:=⟨Tryz.f163.name,by decide,Tryz.func163.trans (congrArg some (by kernel_rfl))⟩
 f28:=Tryz.func164.trans (congrArg some (by kernel_rfl))
 f29:=Tryz.func165.trans (congrArg some (by kernel_rfl))
 f46:=⟨Tryz.f187.name,by decide,Tryz.func187.trans (congrArg some (by kernel_rfl))⟩
 f47:=Tryz.func188.trans (congrArg some (by kernel_rfl))
 f48:=Tryz.func189.trans (congrArg some (by kernel_rfl))
 f49:=⟨Tryz.f190.name,by decide,Tryz.func190.trans (congrArg some (by kernel_rfl))⟩
 f50:=⟨Tryz.f191.name,by decide,Tryz.func191.trans (congrArg some (by kernel_rfl))⟩
 f57:=⟨Tryz.f199.name,by decide,Tryz.func199.trans (congrArg some (by kernel_rfl))⟩
 t0:=underlying0
 a0:=isAgg0
 z0:=sizeOf0
 v0:=zeroValue0
 t3:=underlying3
 a3:=isAgg3
 z3:=sizeOf3
 v3:=zeroValue3
 t4:=underlying4
 a4:=isAgg4
 z4:=sizeOf4
 v4:=zeroValue4
 t5:=underlying5
 a5:=isAgg5
 z5:=sizeOf5
 v5:=zeroValue5
 t9:=underlying9
 a9:=isAgg9
 z9:=sizeOf9
 v9:=zeroValue9
 t22:=underlying64
 a22:=isAgg64
 z22:=sizeOf64
 v22:=zeroValue64
 t25:=underlying120
 a25:=isAgg120
 z25:=sizeOf120
 v25:=zeroValue120
 t39:=underlying153
 a39:=isAgg153
 z39:=sizeOf153
 v39:=zeroValue153
 t45:=underlying183
 a45:=isAgg183
 z45:=sizeOf183
 v45:=zeroValue183
 t46:=underlying184
 a46:=isAgg184
 z46:=sizeOf184
 v46:=zeroValue184
 t50:=underlying172
 a50:=isAgg172
 z50:=sizeOf172
 v50:=zeroValue172
 t53:=underlying190
 a53:=isAgg190
 z53:=sizeOf190
 v53:=zeroValue190
 t55:=underlying152
 a55:=isAgg152
 z55:=sizeOf152
 v55:=zeroValue152
 t66:=underlying207
 a66:=isAgg207
 z66:=sizeOf207
 v66:=zeroValue207
 t70:=underlying211
 a70:=isAgg211
 z70:=sizeOf211
 v70:=zeroValue211
 t76:=underlying216
 a76:=isAgg216
 z76:=sizeOf216
 v76:=zeroValue216
 t77:=underlying217
 a77:=isAgg217
 z77:=sizeOf217
 v77:=zeroValue217 }
end Go.Proofs
namespace Go.Proofs.YtobnihfgnbnncaaGreat.Am
open Go.RowKit Go.Proofs.YtobnihfgnbnncaaGreat.P
def UR {w:World} {M:Nat->Prop} {k:IntKind} {l:List Int} {u:Value} (h:RP w M (.sl false false l.length (av (eI k) l)) u) :
  ∃A c,u=.slice A l.length c∧l.length<=c∧c<=maxLen∧(A=none->l.length=0∧c=0)∧(l≠[]->∃b o,A=some ⟨b,o,none⟩∧b<w.heap.size∧¬M b∧∀j,j<l.length->w.cell? ⟨b,o+j,none⟩=some (.int k (l.getD j 0))):=by
 cases h with
 | sl A c nl tight n xs us h1 h2 h3 h4 h5 h6 h7 h8 =>
  refine⟨A,c,rfl,h1,h2,h4,fun p =>?_⟩;have a:av (eI k) l≠[]:=by
   intro d;have:=congrArg List.length d;rw[sg]at this;simp_all
  obtain⟨b,o,rfl,e,f,g⟩:=h6 a;refine⟨b,o,rfl,e,f,fun j i =>?_⟩;rw[g j (by rw[sg];exact i)];have m:(av (eI k) l)[j]? = some (.int k (l.getD j 0)):=by rw[ye];simp_all
  rw[SJ (h7 j _ m)]
end Go.Proofs.YtobnihfgnbnncaaGreat.Am
namespace Go.Proofs.YtobnihfgnbnncaaGreat.Am
open Go.RowKit Go.Shelf Go.Proofs.YtobnihfgnbnncaaGreat.P
attribute [local go_sem] Oper.semAt_some
def upto (f:Nat->Int) (k:Nat):List Int:=(List.range k).map f
def L0 (f:Nat->Int) (k:Nat):upto f (k+1)=upto f k++[f k]:=by simp[upto,al5]
def Sn (f:Nat->Int) (k:Nat):(upto f k).length=k:=by simp[upto]
def acF (zs:List Int):upto (fun j=>zs[j]?.getD 0) zs.length=zs:=by
 apply List.ext_getElem
 ·simp[upto]
 ·intro i b a;simp[upto,a]
def YU (zs:List Int) {k:Nat} (a:k<=zs.length):upto (fun j=>zs[j]?.getD 0) k=zs.take k:=by
 apply List.ext_getElem
 ·simp[upto,a]
 ·intro i b c;have:i<zs.length:=by grind
  simp[upto,this]
set_option maxRecDepth 100000 in
set_option maxHeartbeats 2000000 in
def Uy (F:Fence) (n:Nat) (h7:F.fn 195) (hro:F.round=none) (hn:1<=n) (l Bs Bo n₀ b off len cap:Nat) (zs:List Int) (hreach:len*8<=140737488351232) (hb:b<n₀) (J Jx:List Int->World->Prop)
  (hY:∀pre x W,J pre W->pre.length<len->YieldAt F (n-1) prog l #[.int .i64 x] W fun e W' =>
   (e=.returned (.bool true)∧J (pre++[x]) W'∧Below n₀ W W')∨(e=.returned (.bool false)∧Jx (pre++[x]) W'))
  (W:World) (hBs:W.cell? ⟨Bs,Bo,none⟩=some (.slice (some ⟨b,off,none⟩) len cap)) (hc:∀j,j<len->W.cell? ⟨b,off+j,none⟩=some (.int .i64 (zs[j]?.getD 0))) (h0:J [] W) :
  CallsIn F n prog 195 #[.func (.yield l) #[] #[],.pointer (some ⟨Bs,Bo,none⟩)] W fun e W'=>(∃v,e=.returned v) ∧
   ((∃ys,ys=upto (fun j=>zs[j]?.getD 0) len∧J ys W')∨(∃pre,(∃k,k<=len∧pre=upto (fun j=>zs[j]?.getD 0) k)∧Jx pre W')):=by
 refine callsIn_of_wp func195 rfl h7 ?_ hro;simp only[ntmps195,akH,List.length_cons,List.length_nil,Nat.reduceAdd,Nat.reduceSub,amc,Array.replicate_zero,ame,amf,List.nil_append,List.cons_append]
 gi_wp2
 gi_loopw [7] (fun i wr=>∃k:Nat,k<=len∧i=.int .i64 k∧J (upto (fun j=>zs[j]?.getD 0) k) wr∧Below n₀ W wr)
  (fun i _=>len-(intOf i).toNat)
 case atStart=>exact⟨0,ajA _,rfl,h0,Below.refl _ _⟩
 case round =>
  obtain⟨k,hk,rfl,hJs,hnx⟩:=hrel;have hcx:k<len->wr.cell? ⟨b,off+k,none⟩=some (.int .i64 (zs[k]?.getD 0)):=fun h=>(hnx.cell (p:=⟨b,off+k,none⟩) hb).trans (hc k h)
  by_cases hlt:k<len
  ·obtain⟨fn,tmps,assign,body,hy,hR⟩:=hY _ (zs[k]?.getD 0) wr hJs (by rw[Sn];exact hlt);have hcx':=hcx hlt
   gi_wp2
   apply hR.mono;rintro e W3 (⟨rfl,hJ3,hk3⟩|⟨rfl,hJx3⟩)
   ·gi_wp2
    go_roundw
    case rel=>exact⟨k+1,by omega,by simp,by rw[L0];exact hJ3,hnx.trans hk3⟩
    case measure=>simp[intOf];omega
   ·gi_wp2
    refine bodyPost_ret (results_none rfl _ _ _) rfl ?_;exact⟨⟨_,rfl⟩,.inr ⟨_,⟨k+1,by omega,(L0 _ _).symm⟩,hJx3⟩⟩
  ·obtain rfl:k=len:=by omega
   gi_wp2
   go_end0
   exact⟨⟨_,rfl⟩,.inl ⟨_,rfl,hJs⟩⟩
set_option maxRecDepth 100000 in
set_option maxHeartbeats 1000000 in
def Ip (F:Fence) (n:Nat) (h7:F.fn 195) (hro:F.round=none) (l Bs Bo cap:Nat) (A:Option Addr) (J:List Int->World->Prop) (W:World) (hBs:W.cell? ⟨Bs,Bo,none⟩=some (.slice A 0 cap)) (h0:J [] W) :
  CallsIn F n prog 195 #[.func (.yield l) #[] #[],.pointer (some ⟨Bs,Bo,none⟩)] W fun e W'=>(∃v,e=.returned v)∧J [] W':=by
 refine callsIn_of_wp func195 rfl h7 ?_ hro;simp only[ntmps195,akH,List.length_cons,List.length_nil,Nat.reduceAdd,Nat.reduceSub,amc,Array.replicate_zero,ame,amf,List.nil_append,List.cons_append]
 gi_wp2
 gi_loopw [7] (fun i wr=>i=.int .i64 0∧J [] wr) (fun _ _=>0)
 case atStart=>exact⟨rfl,h0⟩
 case round =>
  obtain⟨rfl,hJs⟩:=hrel
  gi_wp2
  go_end0
  exact⟨⟨_,rfl⟩,hJs⟩
def Ints (g:Nat) (W:World) (f:Value) (d:List Int):Prop :=
 (∃A c,f=.slice A 0 c∧d=[])∨∃b a e,f=.slice (some ⟨b,a,none⟩) d.length e∧b<g∧∀j,j<d.length->W.cell? ⟨b,a+j,none⟩=some (.int .i64 (d[j]?.getD 0))
def Ints.below {a:Nat} {A B:World} (h:Below a A B) {c:Value} {d:List Int} : Ints a A c d->Ints a B c d
 | .inl e =>.inl e
 | .inr ⟨b,off,cap,e,f,g⟩ =>.inr ⟨b,off,cap,e,f,fun j i=>(h.cell (p:=⟨b,off+j,none⟩) f).trans (g j i)⟩
def NO (F:Fence) (n:Nat) (v:F.fn 195) (g:F.round=none) (C:1<=n) (f h m:Nat) (y:Value) (a:List Int) (d:a.length*8<=140737488351232) (w:World) (q:f<w.heap.size) (r:m<=w.heap.size)
  (D:w.cell? ⟨f,h,none⟩=some y) (E:Ints m w y a) :
  SeqStopsK F n prog 195 #[.pointer (some ⟨f,h,none⟩)] (fun x:Int=>#[Value.int .i64 x]) (Below m) (fun ys=>ys=a) (fun pre=>pre <+: a) a.length w:=fun l J G W z _ _ H B=>by
 have i:=(z.cell (p:=⟨f,h,none⟩) q).trans D;rcases E.below (z.mono r) with⟨A,c,rfl,rfl⟩|⟨b,s,t,rfl,I,u⟩
 ·exact (Ip F n v g l f h _ _ J W i B).mono fun e K ⟨o,j⟩=>⟨o,.inl ⟨_,rfl,j⟩⟩
 ·refine (Uy F n v g C l f h m b s a.length t a d I J G H W i u B).mono ?_;rintro e K ⟨o,⟨ys,rfl,j⟩|⟨pre,⟨k,L,rfl⟩,j⟩⟩
  ·exact⟨o,.inl ⟨_,acF a,j⟩⟩
  ·exact⟨o,.inr ⟨_,by rw[YU a L];exact List.take_prefix _ _,j⟩⟩
def ag0:(Tryz.prog.info? 3).map (fun i=>(i.zero,i.size,i.bytes))=some (some (.int .i64 0),1,8):=by kernel_rfl
set_option maxRecDepth 100000 in
set_option maxHeartbeats 2000000 in
def appendSeq_in (F:Fence) (n:Nat) (h3:F.fn 200) (h7:F.fn 195) (hro:F.round=none) (hn:3<=n) (Bs Bo:Nat) (sv:Value) (zs:List Int) (hreach:zs.length*8<=140737488351232) (w:World)
  (hBs:Bs<w.heap.size) (hc:w.cell? ⟨Bs,Bo,none⟩=some sv) (hI:Ints w.heap.size w sv zs) :
  CallsIn F n prog 200 #[.slice none 0 0,.func (.func 195) #[] #[.pointer (some ⟨Bs,Bo,none⟩)]] w fun e W'=>∃v,e=.returned v∧W'.ownsRow w.heap.size 3 1 v zs.length (zs.map (Value.int .i64))∧(v=.slice none 0 0↔zs=[])∧Below w.heap.size w W':=by
 have h1:1<=n:=by omega
 obtain⟨i0,hi,hz0,hz1,hz2⟩:=info_parts ag0;refine callsIn_of_wp_marks func200 rfl h3 ?_ hro;simp only[ntmps200,akH,List.length_cons,List.length_nil,Nat.reduceAdd,Nat.reduceSub,amc,Array.replicate_zero,ame,amf,List.nil_append,List.cons_append]
 gi_wp2
 have bO:=Boxed.new w 22 (.slice none 0 0);have hB0:Below w.heap.size w (w.alloc (.cells #[.slice none 0 0] 22)):=(Below.refl _ w).alloc (ajz _) _;refine wpIn_rangeFunc_ownG hro h1 (gf:=195) (lb:=#[.pointer (some ⟨Bs,Bo,none⟩)]) rfl h7 (enters_of func195 (by kernel_rfl) rfl)
  (NO F (n-1) h7 hro (by omega) Bs Bo w.heap.size sv zs hreach _ (by simp;omega) (by simp) ((hB0.cell (p:=⟨Bs,Bo,none⟩) hBs).trans hc) (hI.below hB0)) belowK_t (belowK_b (by simp)) (Below.refl _ _) (fun _=>rfl)
  (fun pre W=>(∃v,Boxed W w.heap.size 22 v∧W.ownsRow w.heap.size 3 1 v pre.length (pre.map (Value.int .i64))∧(v=.slice none 0 0↔pre=[]))∧Below w.heap.size w W)
  (fun _ _ _=>False)
  (OwnFrom.and (Own.from (holdsRow_own w.heap.size w.heap.size 22 3 1 (fun pre=>pre.length) (fun pre=>pre.map (Value.int .i64)) (fun pre v=>v=.slice none 0 0↔pre=[])) _) (ownFrom_below (ajz _) (by simp)))
  (fun _ _ _ _ _ hs _ _=>hs)
  ⟨⟨_,bO,World.ownsRow_nil _ _ _ _,by simp⟩,hB0⟩
  (fun x=>{ tmps:=#[.slice none 0 0,.func (.func 195) #[] #[.pointer (some ⟨Bs,Bo,none⟩)],.pointer (some ⟨w.heap.size,0,none⟩),undef,.slice none 0 0,.int .i64 x,.func (.func 195) #[] #[.pointer (some ⟨Bs,Bo,none⟩)],.int .i64 x,undef,undef,undef,undef,undef],defers:=[] }) ?assign ?body ?done ?stop
 case assign =>
  intro l x W K hK
  gi_wp2
  exact hK
 case body =>
  rintro l pre x W ⟨⟨v,hv,hrow,hnil⟩,hB⟩ hlt;have hc:=hv.cell
  gi_wp2_with (gi_at_builtin;refine wpListIn_append_own _ rfl _ _ 22 rfl w.heap.size 3 i0 (.int .i64 0) 1 8 underlying22 hi hz0 hz1 hz2 rfl (by decide) _ _ _ rfl (hrow.alloc _) ⟨W.heap.size,0,none⟩ 1 1 [.int .i64 x] rfl rfl (cell_one_new _ _ _) (by simp[Value.oneCell']) (by unfold maxLen;omega) (by omega) (by have:=hB.size;simp;omega) ?_;intro v' w1 hown' hgrow _;obtain⟨g',cap',rfl⟩:=ownsRow_succ hown';obtain⟨hv1,hv2,hr2,hk2,hb2⟩:=hv.appended (by decide) hrow hB.size (ajz _) hown' hgrow;have hc1:=hv1.cell;have hf1:=hv1.frozen)
  exact⟨hk2.from _,hb2,⟨_,hv2,by simpa using hr2,by simp⟩,hB.trans hb2⟩
 case done =>
  rintro D ys W hD rfl ⟨⟨v,hv,hrow,hnil⟩,hB⟩ hK;have hc:=hv.cell
  gi_wp2
  refine⟨by simp,.inl ⟨_,_,rfl,run_takeDeferred hK,?_⟩⟩;exact⟨_,results_tmp rfl _ _ _,v,rfl,ownsRow_putObj hrow _ hK rfl,hnil,hB.trans (belowK_b (w:=w) (ajz _) W D _ _ (by simp at hD;omega) hK rfl rfl)⟩
 case stop =>
  rintro D c pre W _ _ h _;exact h.elim
set_option maxHeartbeats 1000000 in
def collect_in (F:Fence) (n:Nat) (h2:F.fn 193) (h3:F.fn 200) (h7:F.fn 195) (hro:F.round=none) (hn:4<=n) (Bs Bo:Nat) (sv:Value) (zs:List Int) (hreach:zs.length*8<=140737488351232) (w:World)
  (hBs:Bs<w.heap.size) (hc:w.cell? ⟨Bs,Bo,none⟩=some sv) (hI:Ints w.heap.size w sv zs) :
  CallsIn F n prog 193 #[.func (.func 195) #[] #[.pointer (some ⟨Bs,Bo,none⟩)]] w fun e W'=>∃v,e=.returned v∧W'.ownsRow w.heap.size 3 1 v zs.length (zs.map (Value.int .i64))∧(v=.slice none 0 0↔zs=[])∧Below w.heap.size w W':=by
 have h1:1<=n:=by omega
 refine callsIn_of_wp func193 rfl h2 ?_ hro;simp only[ntmps193,akH,List.length_cons,List.length_nil,Nat.reduceAdd,Nat.reduceSub,amc,Array.replicate_zero,ame,amf,List.nil_append,List.cons_append]
 gi_wp2_with (gi_at_call 200;refine (appendSeq_in F (n-1) h3 h7 hro (by omega) Bs Bo sv zs hreach _ hBs hc hI).mono ?_;rintro e w' ⟨v,rfl,hrow,hnil,hb⟩)
 go_ret
 exact⟨v,rfl,hrow,hnil,hb⟩
def aej (a:Option Addr) (len cap:Nat) (w:World) :
  Calls prog 174 #[.slice a len cap] w fun e w'=>e=.returned (.func (.func 195) #[] #[.pointer (some ⟨w.heap.size,0,none⟩)])∧w'=w.alloc (.cells #[.slice a len cap] 22):=by
 go_enter func174,ntmps174
 go_wp2
 go_ret
 exact⟨rfl,rfl⟩
set_option maxHeartbeats 1000000 in
def aeb (Bs Bo:Nat) (sv:Value) (zs:List Int) (hreach:zs.length*8<=140737488351232) (w:World) (hBs:Bs<w.heap.size) (hc:w.cell? ⟨Bs,Bo,none⟩=some sv) (hI:Ints w.heap.size w sv zs) :
  Calls prog 173 #[.func (.func 195) #[] #[.pointer (some ⟨Bs,Bo,none⟩)]] w fun e w'=>∃v,e=.returned v∧Below w.heap.size w w' ∧
   ((zs=[]∧v=.slice none 0 0)∨∃g cap cs,v=.slice (some ⟨g,0,none⟩) zs.length cap∧w.heap.size<=g∧w'.heap[g]? = some (.cells cs 3 (0,0))∧zs.length<=cap∧cap<=maxLen∧cs.size=cap∧∀j,j<zs.length->cs.getD j undef=.int .i64 ((rN zs).getD j 0)):=by
 refine (callsIn_wide (n:=6)).1 ?_;have hN:(1:Nat)<=6:=by omega
 have cC:=collect_in Fence.wide 5 trivial trivial trivial rfl (by omega) Bs Bo sv zs hreach w hBs hc hI;refine callsIn_of_wp func173 rfl trivial ?_ rfl;simp only[ntmps173,akH,List.length_cons,List.length_nil,Nat.reduceAdd,Nat.reduceSub,amc,Array.replicate_zero,ame,amf,List.nil_append,List.cons_append];have hf1:Fence.wide.fn 193:=trivial;have hf2:Fence.wide.fn 194:=trivial;have cS:agJ prog 194:=fun blk off cap zs w hH hb hl=>Any.slices_Sort_int Tryz.VU blk off cap zs w hH hb hl
 by_cases hz:zs=[]
 ·subst hz
  gi_wp2_with (first
   | (gi_at_call 193;refine cC.mono ?_;clear cC;rintro e w' ⟨v,rfl,hrow,hnil,hb⟩;obtain rfl:v=.slice none 0 0:=hnil.2 rfl)
   | (gi_at_call 194;refine (callsIn_wide.2 (Any.slices_Sort_int_none Tryz.VU _ _ _)).mono ?_;rintro e2 w2 ⟨rfl,rfl⟩))
  go_ret
  first|exact⟨_,rfl,hb,.inl rfl⟩|exact⟨_,rfl,hb,.inl ⟨rfl,rfl⟩⟩
 ·gi_wp2_with (gi_at_call 193;refine cC.mono ?_;clear cC;rintro e w' ⟨v,rfl,hrow,hnil,hb⟩;obtain⟨g,cap,cur,rfl,k1,k2,k3,k4,k5,k6⟩:∃g cap cur,v=.slice (some ⟨g,0,none⟩) zs.length cap∧w.heap.size<=g∧w'.heap[g]? = some (.cells cur 3 (0,0))∧zs.length<=cap∧cap<=maxLen∧cur.size=cap*1∧cur.toList.take (zs.length*1)=zs.map (Value.int .i64):=hrow.2.resolve_left (fun hv=>hz (hnil.1 hv.1)))
  rw[Nat.mul_one]at k5 k6;have hcur:∀j,j<zs.length->cur[j]? = some (.int .i64 (zs.getD j 0)):=by
   intro j hj;have:(cur.toList.take zs.length)[j]? = (zs.map (Value.int .i64))[j]?:=by rw[k6]
   rw[ajY,if_pos hj,ajw,akA]at this;rw[this];simp[List.getD,hj]
  have hH:Go.Sort.Holds (Value.int .i64) w' g 0 zs.toArray:=by
   intro j hj;simp only[akH]at hj;refine⟨?_,by simp[World.frozen?,k2]⟩;simp only[World.cell?,k2,akw];rw[hcur j hj];simp[List.getD,hj]
  have hlt:g<w'.heap.size:=(akx.1 k2).1
  gi_wp2_with (gi_at_call 194;refine (callsIn_wide.2 (cS g 0 cap zs w' hH hlt (by omega))).mono ?_;rintro e2 w2 ⟨rfl,q,os,rfl⟩)
  go_ret
  refine⟨_,rfl,?_,.inr ⟨g,cap,Go.Sort.putCells (Value.int .i64) 0 (rN zs).toArray cur,rfl,k1,?_,k3,k4,?_,fun j hj =>?_⟩⟩
  ·refine⟨hb.os,hb.tape,hb.output,ajB hb.size (by simp[Go.Sort.grow,Go.Sort.ahead]),fun k hk =>?_⟩;have hk':k<w'.heap.size:=ajC hk hb.size;rw[Go.Sort.heap_grow_old _ _ (by simpa [Go.Sort.ahead] using hk'),HK (by omega)];exact hb.block k hk
  ·rw[Go.Sort.heap_grow_old _ _ (by simpa [Go.Sort.ahead] using hlt)];exact Rr k2
  ·simp[Go.Sort.putCells,k5]
  ·rw[Nd (by omega),if_pos (by rw[sD];omega),Nat.sub_zero]
def YZ:cr prog 174 (er (dN (ko (eI .i64))) NN (fun r =>.clean (.clo 195 0 [.ip [.sl false false r.length (av (eI .i64) r)]]))) where
 callable:=⟨_,func174,by kernel_rfl,by kernel_rfl⟩
 calls lent ds rk out n:=by
  obtain⟨rfl,rfl,l,r,rfl,o,rfl⟩:=vr n;cases o;intro w M i p a;have g:i.size=1:=a.size;rw[acH g];have q:=a.at_ 0 _ rfl;generalize i.getD 0 undef=u at *;have f:RP w M (.sl false false l.length (av (eI .i64) l)) u:=q;obtain⟨A,c,rfl,-⟩:=UR f;refine (aej A l.length c w).mono fun e B ⟨s,t⟩ =>?_;subst t;have k:Below w.heap.size w (w.alloc (.cells #[.slice A l.length c] 22)):=(Below.refl _ w).alloc (ajz _) _;have v:∀b,b<w.heap.size->¬M b->b<(w.alloc (.cells #[.slice A l.length c] 22)).heap.size∧¬M b∧(w.alloc (.cells #[.slice A l.length c] 22)).heap[b]? = w.heap[b]?:=fun b y z=>⟨by simp;omega,z,k.block b y⟩;refine⟨_,s,k,RP.clo _ 0 _ [.pointer (some ⟨w.heap.size,0,none⟩)] rfl fun j x d =>?_⟩;cases j with
  | succ j=>simp at d
  | zero =>
   simp only[List.getElem?_cons_zero,ajH]at d;subst d;refine RP.ip _ ⟨w.heap.size,0,none⟩ (fun _ =>.slice A l.length c) (fun _=>⟨w.heap.size,0,rfl,by simp,fun h=>by have:=p _ h;omega,fun j d =>?_⟩) (fun j x d =>?_) (fun x m =>?_)
   ·simp only[List.length_cons,List.length_nil]at d;have:j=0:=by omega
    subst this;exact (bg (heap_alloc_new w _) (j:=0) (by simp)).trans rfl
   ·cases j with
    | succ j=>simp at d
    | zero =>
     simp only[List.getElem?_cons_zero,ajH]at d;subst d;exact f.keep v
   ·simp only[ajT]at m;subst m;rfl
def YG:cr prog 173 (er (dN (Md 195 0 (dN (Xk (fk (eI .i64)))))) Fb (fun r =>.fresh 3 1 r.length (av (eI .i64) r))) where
 callable:=⟨_,func173,by kernel_rfl,by kernel_rfl⟩
 calls lent ds rk out O:=by
  obtain⟨rfl,rfl,l,r,rfl,s,rfl⟩:=vr O;unfold Fb at s;split at s;rotate_left
  ·cases s
  rename_i i;cases s;intro w M I hM h;have y:I.size=1:=h.size;rw[acH y];have P:=h.at_ 0 _ rfl;generalize I.getD 0 undef=u at *;have B:RP w M (.clo 195 0 [.ip [.sl false false l.length (av (eI .i64) l)]]) u:=P;cases B with
  | clo f kk xs t Q h2 =>
   have R:=h2 0 _ rfl;have C:t=[t.getD 0 undef]:=by
    match t,Q with
    | [x],_=>rfl
   rw[C];generalize t.getD 0 undef=q at *;cases R with
   | ip xs ad m h6 h7 h8 =>
    obtain⟨b,o,rfl,S,T,k⟩:=h6 (by simp);have a:=k 0 (by simp);rw[aj5]at a;have U:=h7 0 _ rfl;have V:Ints w.heap.size w (m 0) l:=by
     obtain⟨A,c,W,J,K,L,D⟩:=UR U;rw[W]
     by_cases N:l=[]
     ·subst N;exact .inl ⟨A,c,rfl,rfl⟩
     ·obtain⟨X,Y,rfl,E,Z,F⟩:=D N;exact .inr ⟨X,Y,c,rfl,E,fun j n=>by rw[F j n];simp[List.getD]⟩
    refine (aeb b o (m 0) l i w S a V).mono fun e w' ⟨v,he,G,hv⟩ =>?_;refine⟨v,he,G,?_⟩;rcases hv with⟨rfl,rfl⟩|⟨g,H,cs,rfl,J,K,L,D,k5,k6⟩
    ·refine .inr ⟨?_,?_,none,rfl⟩
     ·rw[LA];rfl
     ·rw[LA];rfl
    ·refine .inl ⟨(g,0),H,cs,by rw[sD],.inl J,K,by rw[sD];exact L,D,by simp only;omega,by rw[sg,sD];simp only;omega,fun j d n =>?_⟩;have p:=(ajZ.1 n).1;rw[sg,sD]at p;rw[ye,ajx]at n;obtain⟨z,hz,rfl⟩:=n;simp only[akw];rw[k6 j p];have:(rN l).getD j 0=z:=by simp[List.getD,hz]
     rw[this];exact⟨rfl,.int _ _⟩
end Go.Proofs.YtobnihfgnbnncaaGreat.Am
namespace Go.Proofs.YtobnihfgnbnncaaGreat.Am
open Go.RowKit Go.Proofs.YtobnihfgnbnncaaGreat.P
def Pf {α:Type} (e:jb α):jb (List α):=⟨fun l=>[.nx l.length (av e l)],1,fun _=>rfl,by decide,fun x y h=>by
 simp only[ajU,D.nx.injEq,and_true]at h;exact yd e _ _ h.2⟩
def zf {α:Type} (e:jb α) (l:List α):(Pf e).cells l=[.nx l.length (av e l)]:=amh
def Bz {α:Type} (e:jb α):(Pf e).size=1:=amh
section
variable {α:Type} (E:jb α) {l:List α} {i:Int} {x x':α}
def Nf (a:List D) (o:Nat) (d:D) (h:o<a.length):(putCells a o [d]).length=a.length:=by
 simp[putCells];omega
def Ng (a:List D) (o:Nat) (d b:D) (h:o<a.length):putCells (putCells a o [d]) o [b]=putCells a o [b]:=by
 unfold putCells;have f:(a.take o).length=o:=by simp;omega
 have c:(a.take o++[d]++a.drop (o+[d].length)).take o=a.take o:=by
  simp_all
 have e:(a.take o++[d]++a.drop (o+[d].length)).drop (o+[b].length)=a.drop (o+[b].length):=by
  rw[akK (by simp;omega),ak9 (by simp;omega),ak6];rfl
 rw[c,e]
def MX (a:Nat) (h:P.idx l i=some x) (b:a+1<=E.size):i.toNat*E.size+a<(av E l).length:=by
 have:=lp E h;rw[bT];omega
def Rp (a:Nat) (d c:D) (h:P.idx l i=some x) (e:E.cells x'=putCells (E.cells x) a [c]) (b:a+1<=E.size):putCells (putCells (av E l) (i.toNat*E.size+a) [d]) (i.toNat*E.size+a) [c]=av E (l.set i.toNat x'):=by
 rw[Ng _ _ _ _ (MX E a h b)];exact fL E a [c] h e b
def Wr (a:Nat) (d:D) (h:P.idx l i=some x) (b:a+1<=E.size):i.toNat*E.size+a+1<=(putCells (av E l) (i.toNat*E.size+a) [d]).length:=by
 rw[Nf _ _ _ (MX E a h b)];exact MX E a h b
end
def Lu {t s a n o:Nat} {c:Bool} {b d:List D} : HZ t s a c b o none (some (.nx n d))=[.nr t s a (putCells b o [.und])]:=amh
def Wa {α:Type} {E:jb α} {T:Nat->Option Ty} {el B ty' s f:Nat} {φ:Ty} {k:IntKind} {n:Int} {z:α} {m:List α} (o:T el=some φ) (p:pD φ f=E.cells z) (y:φ.size=E.size) (r:(φ.zero.map qH).all gH=true) (t:φ.zero.length=φ.size) (u:abI ((φ.zero.map qH).drop f).head? = true) (A:φ.bytes=B) (h:Iv B n n z=some m)
  : ∀(b c:Nat) (i:List Value) (q:Bool) (e d:Nat),d<1000000->rE T ⟨.slice el,b,c,i,q⟩ e d ty' s f (.int k n) (.int k n)=some ⟨.buf d e φ.size 0 m.length,[(d,some ⟨e,el,[.nr ty' s (4*e+2) (av E m)],false,true,true⟩)]⟩:=by
 intro b c i q e d g;obtain⟨v,j,w,x,C⟩:=mk_one E h;have a:tv (.int k n)=some n.toNat:=by simp[tv,v]
 have l:=E.pos;unfold rE;simp only[o,a];rw[if_pos ⟨ajz _,by rw[j];exact w,by simp_all,by omega,r,t,by rw[dx];exact g,u⟩,p,j,x]
def JS {k:IntKind} {n:Int} : gH (.int k n)=true:=amh
def OV {a b:Bool} {n:Nat} {c:List D} : gH (.sl a b n c)=true:=amh
def b7 {α β:Type} (A:km α) (F:α->Option β) (R:β->Nat×Nat×Nat×Nat×Nat×List D):List D->Option (Nat×Nat×Nat×Nat×Nat×List D):=fun b=>open Classical in if h:∃a,A.ds a=b then (F (Classical.choose h)).map R else none
def afO {α β:Type} (A:km α) (F:α->Option β) (R:β->Nat×Nat×Nat×Nat×Nat×List D) (a:α):b7 A F R (A.ds a)=(F a).map R:=by
 have h:∃b,A.ds b=A.ds a:=⟨a,rfl⟩;simp only[b7];rw[dif_pos h,A.inj _ _ (Classical.choose_spec h)]
def aby {α β:Type} {A:km α} {F:α->Option β} {R:β->Nat×Nat×Nat×Nat×Nat×List D} {b:List D} {q:Nat×Nat×Nat×Nat×Nat×List D} (h:b7 A F R b=some q):∃a r,b=A.ds a∧F a=some r∧q=R r:=by
 unfold b7 at h;split at h
 ·rename_i c;rw[ajx]at h;grind
 ·cases h
structure FOk (P:Program) (f:FuncId) (p:List D->Option (Nat×Nat×Nat×Nat×Nat×List D)):Prop where
 callable:eY P f
 calls:∀args ty t s S n cs,p args=some (ty,t,s,S,n,cs)->L4 P f args ty t s S n cs
def FOk.of {P:Program} {T:Nat->Option Ty} {Γ:Env} (g:jN P T) (i:bY P Γ) (j:P.follows .mixedOrders=true) {α β:Type} {A:km α} {F:α->Option β} {R:β->Nat×Nat×Nat×Nat×Nat×List D} {f:FuncId} {b:Func} (e:P.funcs[f]? = some b) (d:(match b.body with|some c=>codeOk c|none=>true)=true)
  (k:(b.name == "runtime.NumGoroutine")=false∧b.body.isNone=false) (l:∀a,(A.ds a).length<=b.ntmps) (h:∀a r,F a=some r->A4 T Γ FU b (A.ds a)=some (R r)):FOk P f (b7 A F R) where
 callable:=⟨b,e,k⟩
 calls args ty t s S n cs m:=by
  obtain⟨a,r,rfl,o,p⟩:=aby m;exact NP g i j e d (l a) ((h a r o).trans (by rw[p]))
def IV {α β γ:Type} (d t s:Nat) (c:jb γ) (A:km α) (F:γ->α->Option (γ×β)) (R:β->D):Nat->Nat->Nat->Nat->List D->List D->Option (D×List D):=fun b e f o g a =>
 open Classical in if h:∃p:List D×List D×γ×α,b=d∧e=t∧f=s∧g=p.1++(c.cells p.2.2.1++p.2.1)∧o=p.1.length∧a=A.ds p.2.2.2 then
  (F (Classical.choose h).2.2.1 (Classical.choose h).2.2.2).map fun r=>(R r.2,(Classical.choose h).1++(c.cells r.1++(Classical.choose h).2.1)) else none
def MV {α β γ:Type} (c t s:Nat) (b:jb γ) (A:km α) (F:γ->α->Option (γ×β)) (R:β->D) (pre post:List D) (x:γ) (a:α) :
  IV c t s b A F R c t s pre.length (pre++(b.cells x++post)) (A.ds a)=(F x a).map fun r=>(R r.2,pre++(b.cells r.1++post)):=by
 have h:∃p:List D×List D×γ×α,c=c∧t=t∧s=s∧pre++(b.cells x++post)=p.1++(b.cells p.2.2.1++p.2.1)∧pre.length=p.1.length∧A.ds a=A.ds p.2.2.2:=⟨(pre,post,x,a),rfl,rfl,rfl,rfl,rfl,rfl⟩;obtain⟨_,_,_,d,e,f⟩:=Classical.choose_spec h;obtain⟨g,i⟩:=aln d e;obtain⟨j,k⟩:=aln i (by rw[b.len,b.len]);unfold IV;rw[dif_pos h,<- g,<- k,<- b.inj _ _ j,<- A.inj _ _ f]
def Yj {α β γ:Type} {f t s:Nat} {e:jb γ} {A:km α} {F:γ->α->Option (γ×β)} {R:β->D} {ty' g i o:Nat} {j b:List D} {d:D} {c:List D} (h:IV f t s e A F R ty' g i o j b=some (d,c)) :
  ty'=f∧g=t∧i=s∧∃pre post x a r,j=pre++(e.cells x++post)∧o=pre.length∧b=A.ds a∧F x a=some r∧d=R r.2∧c=pre++(e.cells r.1++post):=by
 unfold IV at h;split at h
 ·rename_i k;obtain⟨l,m,n,p,q,u⟩:=Classical.choose_spec k;rw[ajx]at h;obtain⟨r,v,w⟩:=h;grind
 ·cases h
structure NOk (P:Program) (f:FuncId) (p:Nat->Nat->Nat->Nat->List D->List D->Option (D×List D)):Prop where
 callable:eY P f
 calls:∀ty t s o cs args d cs',p ty t s o cs args=some (d,cs')->L5 P f ty t s o cs args d cs'
def NOk.of {P:Program} {T:Nat->Option Ty} {Γ:Env} (k:jN P T) (l:bY P Γ) (m:P.follows .mixedOrders=true) {α β γ:Type} {i t s:Nat} {e:jb γ} {A:km α} {F:γ->α->Option (γ×β)} {R:β->D} {f:FuncId} {b:Func} (j:P.funcs[f]? = some b) (g:(match b.body with|some c=>codeOk c|none=>true)=true)
  (n:(b.name == "runtime.NumGoroutine")=false∧b.body.isNone=false) (p:∀a,(A.ds a).length+1<=b.ntmps) (h:∀pre post x a x' r,F x a=some (x',r)->wR T Γ FU b i t s pre.length (pre++(e.cells x++post)) (A.ds a)=some (R r,pre++(e.cells x'++post))):NOk P f (IV i t s e A F R) where
 callable:=⟨b,j,n⟩
 calls ty' v w o cs args d cs' q:=by
  obtain⟨rfl,rfl,rfl,pre,post,x,a,r,rfl,rfl,rfl,u,rfl,rfl⟩:=Yj q;exact NQ k l m j g (p a) (h pre post x a r.1 r.2 u)
def Rk {α:Type} {x:Bool×α} {q:α} (h:Rj x=some q):x=(false,q):=by
 obtain⟨b,y⟩:=x;cases b
 ·cases h;rfl
 ·cases h
def RZ {α:Type} {x:Bool×α} {q:α} (h:RY x=some q):x=(true,q):=by
 obtain⟨b,y⟩:=x;cases b
 ·cases h
 ·cases h;rfl
def agW {α:Type} (E EN:jb α) (a:EN.size=E.size) (d:∀x y,E.cells x≠EN.cells y):jb (Bool×α):=⟨fun p=>match p.1 with|true=>E.cells p.2|false=>EN.cells p.2,E.size,fun p=>by
  obtain⟨b,x⟩:=p;cases b
  ·exact (EN.len x).trans a
  ·exact E.len x,E.pos,fun p q h=>by
  obtain⟨b,x⟩:=p;obtain⟨c,y⟩:=q;cases b<;>cases c
  ·exact congrArg (Prod.mk false) (EN.inj x y h)
  ·grind
  ·simp_all
  ·exact congrArg (Prod.mk true) (E.inj x y h)⟩
def Kv {α:Type} {a:jb α} {b:jb (Bool×α)} (c:∀x,b.cells (false,x)=a.cells x):∀l:List α,av a l=av b (Ku l)
 | []=>rfl
 | x::l=>by
  have d:=Kv c l;rw[ck,d,<- c x];rfl
def Kw {α:Type} {l:List α} : (Ku l).length=l.length:=aj0 ..
def Gg {γ:Type} {E:jb γ} {C:List γ} {i:Int} {x:γ} (h:P.idx C i=some x) (y:γ):av E (C.set i.toNat y)=av E (C.take i.toNat)++(E.cells y++av E (C.drop (i.toNat+1)))∧(av E (C.take i.toNat)).length=i.toNat*E.size:=by
 have a:=tp h;refine⟨?_,by rw[bT,ajP];congr 1;omega⟩;rw[T5 E C i.toNat x (MM h) y,<- kR,akJ];congr 2;have:i.toNat*E.size+E.size=(i.toNat+1)*E.size:=by rw[ala]
 rw[this,p7]
def aaD {γ:Type} {E:jb γ} {C:List γ} {i:Int} {x:γ} (h:P.idx C i=some x):av E C=av E (C.take i.toNat)++(E.cells x++av E (C.drop (i.toNat+1))):=by
 have a:=(Gg (E:=E) h x).1;have b:C.set i.toNat x=C:=by
  obtain⟨c,d⟩:=ajZ.1 (MM h);rw[<- d,List.set_getElem_self]
 rwa [b]at a
def V9 {α β γ:Type} {c t s:Nat} {d:jb γ} {b:jb (Bool×γ)} (e:∀x,b.cells (false,x)=d.cells x) {A:km α} {F:γ->α->Option (γ×β)} {R:β->D} {C:List (Bool×γ)} {i:Int} {q:γ} (h:P.idx C i=some (false,q)) (a:α) :
  IV c t s d A F R c t s (i.toNat*b.size) (av b C) (A.ds a)=(F q a).map fun r=>(R r.2,av b (C.set i.toNat (false,r.1))):=by
 have f:=aaD (E:=b) h;have g:=(Gg (E:=b) h (false,q)).2;rw[f,<- g,e,MV];congr 1;funext r;rw[(Gg (E:=b) h (false,r.1)).1,e]
def acJ {K:Nat} (pre a post:List D) (b:a.length=K):pC K pre.length (pre++(a++post))=pre++(a.map Uu++post):=by
 apply aly;intro j;rw[wS];grind
def agZ {γ:Type} {s:Nat} {E b:jb γ} {a:jb (Bool×γ)} (c:∀x,a.cells (false,x)=b.cells x) (d:∀x,a.cells (true,x)=E.cells x) (e:∀x,(b.cells x).map Uu=E.cells x) (k:∀x,(b.cells x).all (AO s)=true) {C:List (Bool×γ)} {i:Int} {x:Bool×γ} (h:P.idx C i=some x) (q:γ) :
  (((av a (C.set i.toNat (false,q))).drop (i.toNat*a.size)).take a.size).all (AO s)=true∧pC a.size (i.toNat*a.size) (av a (C.set i.toNat (false,q)))=av a (C.set i.toNat (true,q)):=by
 obtain⟨f,g⟩:=Gg (E:=a) h (false,q);have j:=a.len (false,q);have l:=tp h;refine⟨?_,?_⟩
 ·grind
 ·rw[(Gg (E:=a) h (true,q)).1,f,<- g,acJ _ _ _ j,c,e,d]
section
variable {pre l:List D} {k m:Nat}
def acy:(pre++l).take (pre.length+k)=pre++l.take k:=List.take_length_add_append ..
def W5:(pre++l).take pre.length=pre:=List.take_left' rfl
def S7:(pre++l).drop (pre.length+k)=l.drop k:=List.drop_length_add_append ..
def Vn:(pre++l).drop pre.length=l:=List.drop_left' rfl
def Vo:(pre++l).drop (pre.length+k+m)=l.drop (k+m):=by rw[ajR,S7]
def abh:(pre.length+k<=(pre++l).length)=(k<=l.length):=by simp_all
def V0:(pre.length+k+m<=(pre++l).length)=(k+m<=l.length):=by grind
end
def QR {a t s b:Nat} {c:List D} : jz a t s b c=⟨0,a,[.nr t s b c],false,true,true⟩:=amh
def vnp:=ai @QR<|ai @acy<|ai @W5<|ai @S7<|ai @Vn<|ai @Vo<|ai @abh<|ai @V0<|@akJ
def Qh {τ:Ty} {h:Nat->Option Row} {x v o:Nat} : uH τ h x v o none=none:=amh
def VL {d:D} {l:List D} : (d::l).head? = some d:=amh
def Wv {r:Row} {f:Row->Option Row} : (some r).bind f=f r:=amh
def OL {x o:Nat} : clP x o none=none:=amh
def Oe {q:Option (List D×List Nat)} : caC none q=none:=amh
def Jy {Γ:Env} {h:Nat->Option Row} {e g:Nat} {dst:Option Nat} : ac9 Γ h e dst g none=none:=amh
def acK {o:Nat} {a:List D} : pC 0 o a=a:=L1 o a
def aep {x o n:Nat} (h:n<1000000):(NK x o=n)=False:=by
 have:=gR x o;have:=dx;grind
def Ef {g:Nat} : bs.lends g=false:=amh
def K3 {g:Nat} {l:Option (D×Row)} {aju:List D} : bs.sem g l aju=none:=amh
def vnl:=ai @Ef<|@K3
def vn:=ai @Lu<|ai @Kw<|ai @aep<|ai @adw.eq_1<|ai @OL<|ai @Oe<|ai @Jy<|ai @acK<|ai @Wv<|ai @Qh<|ai @VL<|ai @zf<|ai @JS<|ai @OV<|@Bz
end Go.Proofs.YtobnihfgnbnncaaGreat.Am
namespace Go.Proofs.YtobnihfgnbnncaaGreat.Am
open Go.RowKit Go.Proofs.YtobnihfgnbnncaaGreat.P Go.Shelf Go.Lib
section
variable {P:Program}
def wO (w:World) (n q r c:TypeId) (K b o d g:Nat) (a:Addr) (e h:Nat) (f:List Value)
  (s:P.underlying n=some (.slice c)) (p:(P.info? c).map (·.size)=some K) (t:f.length=Nat.min e d*K)
  (k:∀j v,f[j]? = some v->w.cell? (a.add j)=some v) (u:∀j,j<f.length->(w.cell? ⟨b,o+j,none⟩).isSome=true) (x:∀j,j<f.length->w.frozen? ⟨b,o+j,none⟩=false) (y:∀v∈f,v.oneCell'=true) :
  (Builtin.copy_ #[n,q] r #[.slice (some ⟨b,o,none⟩) d g,.slice (some a) e h]).run P w=.ok (goInt (Nat.min e d)) (w.setCells b o f):=by
 have z:=run_loadCells_list (P:=P) w a f k;have l:=run_storeCells_cells (P:=P) b o f 0 w (by simpa using u) (by simpa using x) y;cases m:P.info? c with
 | none=>simp[m]at p
 | some i =>
  have A:i.size=K:=by simpa [m] using p
  simp[Builtin.copy_,run_underlying s,Builtin.lenOf,Builtin.firstCells,sizeOf,typeInfo,m,A,<- t,z,l]
def Dx (w:World) {b:Array Oper} {rest:List Oper} {o:Oper} {a:Act} {Q:Exit->Act->World->Prop} (c:o.guard=none) (s:Operand) (t:TypeId)
  (f:o.op=.call { callee := .builtin .clear,args:=#[s],argTypes:=#[t] }) (v:Value) (g:a.eval s=v) {d:Value} {e:World}
  (i:(Builtin.clear_ #[t] o.type #[v]).run P w=.ok d e) (h:wpList P b Q rest (a.put o.dst d) e):wpList P b Q (o::rest) a w :=
 wpList_plain c fun _ j=>by
  unfold Oper.wp execOp;simp only[f,resolve,invoke,builtin,aj2,Sem.run_pure,Result.andThen_ok,List.map_toArray,ajE,akg,g,i];exact j _ _ h
def RI (w:World) (t e g:TypeId) (z:Value) (h:P.underlying t=some (.slice e)) (i:∀w,(zeroValue e).run P w=.ok z w) (b o n c:Nat) (q:0<n) (a:List Value) (f:(Builtin.zeroCells z.cells n).toList=a) (k:∀v∈a,v.oneCell'=true)
  (l:∀j,j<a.length->(w.cell? ⟨b,o+j,none⟩).isSome=true) (p:∀j,j<a.length->w.frozen? ⟨b,o+j,none⟩=false) :
  (Builtin.clear_ #[t] g #[.slice (some ⟨b,o,none⟩) n c]).run P w=.ok (.tuple #[]) (w.setCells b o a):=by
 have d:=run_storeCells_cells (P:=P) b o a 0 w (by simpa using l) (by simpa using p) k;simp only[Nat.add_zero]at d;obtain⟨m,rfl⟩:∃m,n=m+1:=⟨n-1,by omega⟩;simp[Builtin.clear_,run_underlying h,i,f,d]
end
def MN:(Tryz.prog.info? 130).map (fun i=>(i.zero,i.size,i.bytes))=some (some (Value.agg #[.int .i64 0,.int .i64 0,.slice none 0 0,.int .i64 0,.slice none 0 0]),5,72):=by kernel_rfl
def ab3:(Tryz.prog.info? 130).map (·.size)=some 5:=by kernel_rfl
set_option maxHeartbeats 4000000 in
set_option maxRecDepth 100000 in
def OW (a:Option Addr) (n c i:Nat) (w:World) (hi:i<=n) (hn:n<=c) (hc:c<=9223372036854775807) (ha:a=none->c=0) :
  Calls prog 138 #[.slice a n c,.int .i64 i,.int .i64 i] w fun e w'=>e=.returned (.slice a n c)∧w'=w:=by
 go_enter func138,ntmps138
 cases a with
 | none =>
  have:=ha rfl;subst this;obtain rfl:n=0:=by omega
  obtain rfl:i=0:=by omega
  go_wp2
  all_goals (go_ret;exact⟨rfl,rfl⟩)
 | some a =>
  obtain⟨ab,ao,asp⟩:=a
  go_wp2
  all_goals (go_ret;exact⟨rfl,rfl⟩)
def oD:Value := .agg #[.int .i64 0,.int .i64 0,.slice none 0 0,.int .i64 0,.slice none 0 0]
def Ev:oD.cells = #[.int .i64 0,.int .i64 0,.slice none 0 0,.int .i64 0,.slice none 0 0]:=rfl
def qw (n:Nat):(Builtin.zeroCells oD.cells n).toList.length=n*5:=by
 simp[Builtin.zeroCells,Ev]
def Y6 (n:Nat):∀v∈(Builtin.zeroCells oD.cells n).toList,v.oneCell'=true:=by
 intro v a;simp only[Builtin.zeroCells,Ev,akj,ajy]at a;obtain⟨i,_,rfl⟩:=a;have b:i % 5<5:=akk _ (by decide);simp only[akH,List.length_cons,List.length_nil,akw,Nat.reduceAdd];generalize i % 5=k at *
 match k,b with
 | 0,_=>rfl
 | 1,_=>rfl
 | 2,_=>rfl
 | 3,_=>rfl
 | 4,_=>rfl
set_option maxHeartbeats 4000000 in
set_option maxRecDepth 100000 in
def aad (b off n c i j:Nat) (cs:List Value) (w:World) (hl:cs.length=n*5) (hcs:∀k v,cs[k]? = some v->w.cell? ⟨b,off+k,none⟩=some v) (hfz:∀k,w.frozen? ⟨b,k,none⟩=false) (h1:∀v∈cs,v.oneCell'=true)
  (hnc:n<=c) (hc:c<=9223372036854775807) (hij:i<j) (hj:j<=n) :
  Calls prog 138 #[.slice (some ⟨b,off,none⟩) n c,.int .i64 i,.int .i64 j] w fun e w'=>e=.returned (.slice (some ⟨b,off,none⟩) (i+(n-j)) c) ∧
   w'=(w.drew.setCells b (off+i*5) (cs.drop (j*5))).setCells b (off+(i+(n-j))*5) (Builtin.zeroCells oD.cells (n-(i+(n-j)))).toList:=by
 have t0:=underlying126;obtain⟨i0,hi0,hz0,hz1,hz2⟩:=info_parts MN;have v0:∀w,(zeroValue 130).run prog w=.ok oD w:=fun w=>by simp[zeroValue,typeInfo,hi0,hz0,oD]
 obtain⟨A,hA,hsrc⟩:∃A:Addr,(if c=j then some (⟨b,off,none⟩:Addr) else some ⟨b,off+j*5,none⟩)=some A∧Hid (∀t u,(cs.drop (j*5))[t]? = some u->w.drew.cell? (A.add t)=some u):=by
  by_cases h:c=j
  ·refine⟨⟨b,off,none⟩,by simp[h],fun t u hu =>?_⟩;have h0:(cs.drop (j*5)).length=0:=by rw[ajQ,hl];omega
   rw[List.length_eq_zero_iff.1 h0]at hu;simp at hu
  ·refine⟨⟨b,off+j*5,none⟩,by simp[h],fun t u hu =>?_⟩;rw[ajV]at hu;rw[amg,ajR];exact hcs _ _ hu
 have hdl:(cs.drop (j*5)).length=(n-j)*5:=by rw[ajQ,hl,Nat.sub_mul]
 have hsp:∀k,k<n*5->(w.cell? ⟨b,off+k,none⟩).isSome=true:=fun k hk=>by
  rw[hcs k _ (ajL (by omega))];rfl
 have s1:Hid ((cs.drop (j*5)).length=(n-j)*5):=hdl;have s2:Hid (∀u∈cs.drop (j*5),u.oneCell'=true):=fun u hu=>h1 u (aj9 hu);have s3:Hid (∀t,t<(cs.drop (j*5)).length->(w.drew.cell? ⟨b,off+i*5+t,none⟩).isSome=true∧w.drew.frozen? ⟨b,off+i*5+t,none⟩=false):=by
  intro t ht;rw[hdl]at ht;rw[ajR];exact⟨hsp _ (by omega),hfz _⟩
 obtain⟨W1,hW1⟩:∃W1,W1=w.drew.setCells b (off+i*5) (cs.drop (j*5)):=⟨_,rfl⟩;have hcl:∀ty,(Builtin.clear_ #[126] ty #[.slice (some ⟨b,off+(i+(n-j))*5,none⟩) (n-(i+(n-j))) (c-(i+(n-j)))]).run prog W1=.ok (.tuple #[]) (W1.setCells b (off+(i+(n-j))*5) (Builtin.zeroCells oD.cells (n-(i+(n-j)))).toList) :=
  fun ty=>RI W1 _ _ ty oD t0 v0 b _ _ _ (by omega) _ rfl (Y6 _) (fun k hk=>by
   rw[qw]at hk;rw[hW1,ajR];exact isSome_setCells b _ _ _ (fun t ht=>(s3.out t ht).1) _ (hsp _ (by omega))) (fun k hk=>by rw[hW1,World.frozen?_setCells];exact hfz _)
 have hW:Hid (W1=w.drew.setCells b (off+i*5) (cs.drop (j*5))):=hW1;rw[<- hW1];have hic:i<=c:=by omega
 have hjc:j<=c:=by omega
 have hne:¬(i=j):=by omega
 have mixed:Tryz.prog.follows .mixedOrders=true:=by kernel_rfl
 generalize (Builtin.zeroCells oD.cells (n-(i+(n-j)))).toList=Z at hcl ⊢;clear hW1 hcs hdl hsp
 go_enter func138,ntmps138
 go_wp2_with fail
 go_region_law_o (refine step_append_room rfl (.tmp 22) (.tmp 25) 126 rfl 130 i0 5 t0 hi0 hz1 b off i c (by simp[Act.eval,Act.put]) A (n-j) (c-j) (cs.drop (j*5)) (by simp[Act.eval,Act.put]) s1.out hsrc.out s2.out (by omega) s3.out ?_;rw[<- hW.out])
 go_wp2_with (at_builtin;refine Dx _ rfl _ 126 rfl _ rfl (hcl _) ?_)
 go_ret
 exact⟨rfl,rfl⟩
set_option maxHeartbeats 4000000 in
set_option maxRecDepth 100000 in
def X0 (b off n c i vb voff m vc:Nat) (cs vs:List Value) (w:World) (hi:i<n) (hm:0<m) (hroom:n+m<=c) (hc63:c<=9223372036854775807) (hvb:vb≠b)
  (hcl:cs.length=n*5) (hvl:vs.length=m*5)
  (hcs:∀j v,cs[j]? = some v->w.cell? ⟨b,off+j,none⟩=some v) (hsp:∀j,j<(n+m)*5->(w.cell? ⟨b,off+j,none⟩).isSome=true) (hfz:∀j,w.frozen? ⟨b,j,none⟩=false)
  (hvs:∀j v,vs[j]? = some v->w.cell? ⟨vb,voff+j,none⟩=some v) (h1c:∀v∈cs,v.oneCell'=true) (h1v:∀v∈vs,v.oneCell'=true)
  (tA tB:TypeId) (kA kB:Nat) (hsa:w.shape? vb=some (tA,kA)) (hsb:w.shape? b=some (tB,kB)) (hkB:kB≠0) (hfa:w.frozen? ⟨vb,voff,none⟩=false) (hfe:w.frozen? ⟨vb,kA,none⟩=false) :
  Calls prog 179 #[.slice (some ⟨b,off,none⟩) n c,.int .i64 i,.slice (some ⟨vb,voff,none⟩) m vc] w fun e w' =>
   e=.returned (.slice (some ⟨b,off,none⟩) (n+m) c)∧w'=(w.drew.setCells b (off+(i+m)*5) (cs.drop (i*5))).setCells b (off+i*5) vs:=by
 have t0:=underlying126;have hz1:¬((m:Int)=0):=by omega
 have hz2:¬((i:Int)=(n:Int)):=by omega
 have hsz:=ab3;have hov:∀lb cb,(callFunc 196 #[.slice (some ⟨vb,voff,none⟩) m vc,.slice (some ⟨b,off+(i+m)*5,none⟩) lb cb]).run prog w=.ok (.value (.bool false)) w:=fun lb cb=>by
  rw[run_callFunc_extern func196 (by kernel_rfl) (by kernel_rfl) (by kernel_rfl) (e:=Extern.SlicesOverlaps.overlaps #[126,126] #[4]) (by kernel_rfl),
   Lib.run_overlaps_apart w 126 4 130 t0 5 sizeOf130 ⟨vb,voff,none⟩ ⟨b,off+(i+m)*5,none⟩ m vc lb cb hvb tA tB kA kB hsa hsb hkB hfa hfe]
  rfl
 have hdl:(cs.drop (i*5)).length=(n-i)*5:=by rw[ajQ,hcl,Nat.sub_mul]
 have mixed:Tryz.prog.follows .mixedOrders=true:=by kernel_rfl
 have hw1:IntKind.i64.wrap ((i:Int)+(m:Int))=(i:Int)+(m:Int):=by rw[IntKind.wrap_i64];omega
 have hb1:(0:Int)<=(i:Int)+(m:Int):=by omega
 have hin:i<=n:=by omega
 have htn:((i:Int)+(m:Int)).toNat=i+m:=by omega
 have hb2:¬(c=i+m):=by omega
 have hb3:(i:Int)<=(n:Int)+(m:Int):=by omega
 have hb4:¬(c=i):=by omega
 have hcp1:∀ty dc sc,(Builtin.copy_ #[126,126] ty #[.slice (some ⟨b,off+(i+m)*5,none⟩) (n+m-(i+m)) dc,.slice (some ⟨b,off+i*5,none⟩) (n+m-i) sc]).run prog w.drew=.ok (goInt (Nat.min (n+m-i) (n+m-(i+m)))) (w.drew.setCells b (off+(i+m)*5) (cs.drop (i*5))):=fun ty dc sc =>
  wO w.drew _ _ ty 130 5 b (off+(i+m)*5) (n+m-(i+m)) dc ⟨b,off+i*5,none⟩ (n+m-i) sc (cs.drop (i*5)) t0 hsz (by rw[hdl];congr 1;simp only[Nat.min_def];split<;>omega)
   (fun j v hj=>by rw[amg,ajR];exact hcs (i*5+j) v (by rwa [ajV]at hj))
   (fun j hj=>by rw[ajR];exact hsp _ (by omega)) (fun j hj=>hfz _) (fun v hv=>h1c v (aj9 hv))
 obtain⟨W1,hW1⟩:∃W1,W1=w.drew.setCells b (off+(i+m)*5) (cs.drop (i*5)):=⟨_,rfl⟩;have hsp1:∀k,k<(n+m)*5->(W1.cell? ⟨b,off+k,none⟩).isSome=true:=fun k hk=>by
  rw[hW1];exact isSome_setCells b _ _ _ (fun j hj=>by rw[ajR];exact hsp _ (by omega)) _ (hsp k hk)
 have hcp2:∀(W:World),(∀x,W.cell? x=W1.cell? x)->(∀x,W.frozen? x=W1.frozen? x)->∀ty dc,(Builtin.copy_ #[126,126] ty #[.slice (some ⟨b,off+i*5,none⟩) (n+m-i) dc,.slice (some ⟨vb,voff,none⟩) m vc]).run prog W=.ok (goInt (Nat.min m (n+m-i))) (W.setCells b (off+i*5) vs):=fun W hWc hWf ty dc =>
  wO W _ _ ty 130 5 b (off+i*5) (n+m-i) dc ⟨vb,voff,none⟩ m vc vs t0 hsz (by rw[hvl];congr 1;simp only[Nat.min_def];split<;>omega)
   (fun j v hj=>by
    rw[amg,hWc,hW1,World.cell?_setCells_out b _ _ _ _ (fun h _=>absurd h hvb)];exact hvs j v hj)
   (fun j hj=>by rw[hWc,ajR];exact hsp1 _ (by omega)) (fun j hj=>by rw[hWf,hW1,World.frozen?_setCells];exact hfz _) h1v
 rw[<- hW1]at hcp1
 go_enter func179,ntmps179
 go_wp2_with (simp only[hov])
 go_region_law_o (refine step_copy_runI rfl _ _ 126 126 rfl _ _ (by simp[Act.eval,Act.put]) (by simp[Act.eval,Act.put]) (hcp1 _ _ _) ?_)
 go_wp2_with (at_builtin;refine wpList_copy_runI _ rfl _ _ 126 126 rfl _ _ rfl rfl (hcp2 _ (fun _=>rfl) (fun _=>rfl) _ _) ?_)
 go_ret
 first|exact⟨rfl,rfl⟩|exact⟨rfl,by rw[hW1]⟩
set_option maxHeartbeats 4000000 in
set_option maxRecDepth 100000 in
def MP (b off n c vb voff m vc:Nat) (vs:List Value) (w:World) (hm:0<m) (hroom:n+m<=c) (hc63:c<=9223372036854775807)
  (hvl:vs.length=m*5) (hsp:∀j,j<m*5->(w.cell? ⟨b,off+n*5+j,none⟩).isSome=true) (hfz:∀j,w.frozen? ⟨b,j,none⟩=false)
  (hvs:∀j v,vs[j]? = some v->w.cell? ⟨vb,voff+j,none⟩=some v) (h1v:∀v∈vs,v.oneCell'=true) :
  Calls prog 179 #[.slice (some ⟨b,off,none⟩) n c,.int .i64 n,.slice (some ⟨vb,voff,none⟩) m vc] w fun e w' =>
   e=.returned (.slice (some ⟨b,off,none⟩) (n+m) c)∧w'=w.setCells b (off+n*5) vs:=by
 have t0:=underlying126;have mixed:Tryz.prog.follows .mixedOrders=true:=by kernel_rfl
 obtain⟨i0,hi0,hz0,hzs,hzb⟩:=info_parts MN;have hz1:¬((m:Int)=0):=by omega
 have hsrc:Src prog i0.size 126 (.slice (some ⟨vb,voff,none⟩) m vc) m vs w:=Src.ofSlice w t0 ⟨vb,voff,none⟩ m vc vs (by rw[hzs];omega) (fun j u hj=>by rw[amg];exact hvs j u hj) h1v;have e5:off+n*i0.size=off+n*5:=by rw[hzs]
 have hsp':Hid (∀j,j<vs.length->(w.cell? ⟨b,off+n*i0.size+j,none⟩).isSome=true):=fun j hj=>by rw[e5];exact hsp j (by omega)
 rw[<- e5];have hin:n<=c:=by omega
 go_enter func179,ntmps179
 go_wp2_with (at_builtin;refine wpList_append_room_src _ rfl _ _ 126 126 rfl 130 i0 t0 hi0 b off n c rfl _ rfl m vs hsrc hroom hsp'.out (fun _ _=>hfz _) ?_)
 go_ret
 exact⟨rfl,by rw[hzs]⟩
set_option maxHeartbeats 4000000 in
set_option maxRecDepth 100000 in
def BS (base:Option Addr) (n c vb voff m vc:Nat) (cs vs:List Value) (w:World) (hm:0<m) (hnc:n<=c) (hc63:c<=9223372036854775807) (hroom:c<n+m) (hbig:(n+m)*72<=140737488355328)
  (hcl:cs.length=n*5) (hvl:vs.length=m*5) (hnil:base=none->n=0)
  (hcs:∀a,base=some a->∀j v,cs[j]? = some v->w.cell? (a.add j)=some v)
  (hvs:∀j v,vs[j]? = some v->w.cell? ⟨vb,voff+j,none⟩=some v) (h1v:∀v∈vs,v.oneCell'=true) :
  Calls prog 179 #[.slice base n c,.int .i64 n,.slice (some ⟨vb,voff,none⟩) m vc] w fun e w' =>
   e=.returned (.slice (some ⟨w.heap.size,0,none⟩) (n+m) (grownCap w (n+m) c 130)) ∧
   w'=w.drew.alloc (.cells ((cs++vs).toArray++Builtin.zeroCells oD.cells (grownCap w (n+m) c 130-(n+m))) 130):=by
 have t0:=underlying126;have mixed:Tryz.prog.follows .mixedOrders=true:=by kernel_rfl
 obtain⟨i0,hi0,hz0,hzs,hzb⟩:=info_parts MN;have hz1:¬((m:Int)=0):=by omega
 have hsrc:Src prog i0.size 126 (.slice (some ⟨vb,voff,none⟩) m vc) m vs w:=by
  rw[hzs];exact Src.ofSlice w t0 ⟨vb,voff,none⟩ m vc vs (by omega) (fun j u hj=>by rw[amg];exact hvs j u hj) h1v
 have hold:(Builtin.firstCells i0.size n (.slice base n c)).run prog w.drew=.ok cs.toArray w.drew:=by
  rw[hzs];cases base with
  | none =>
   have h0:=hnil rfl;subst h0;obtain rfl:cs=[]:=List.length_eq_zero_iff.1 (by omega);exact run_firstCells_none w.drew 5 0 0 c
  | some a=>exact run_firstCells_some w.drew 5 n a n c cs (by omega) (fun j v hj=>hcs a rfl j v hj)
 have hrun:∀ty,(Builtin.append_ #[126,126] ty #[.slice base n c,.slice (some ⟨vb,voff,none⟩) m vc]).run prog w=_:=fun ty =>
  run_append_grow_src w 126 126 ty 130 i0 _ t0 hi0 hz0 base n c cs hold _ m vs hsrc hroom (by omega) (by rw[hzb];exact growslice_fits hroom hbig)
 generalize hR:w.drew.alloc (.cells ((cs++vs).toArray++Builtin.zeroCells oD.cells (grownCap w (n+m) c 130-(n+m))) 130)=R;have hrun':∀ty,(Builtin.append_ #[126,126] ty #[.slice base n c,.slice (some ⟨vb,voff,none⟩) m vc]).run prog w=.ok (.slice (some ⟨w.heap.size,0,none⟩) (n+m) (grownCap w (n+m) c 130)) R:=fun ty=>by rw[hrun ty,<- hR];rfl
 clear hrun hold hR
 go_enter func179,ntmps179
 cases base with
 | none =>
  have h0:=hnil rfl;subst h0
  go_wp2_with (at_builtin;refine Lib.wpList_append_run _ rfl _ _ _ _ rfl _ _ rfl rfl _ _ (hrun' _) ?_)
  go_ret
  exact⟨rfl,rfl⟩
 | some a =>
  obtain⟨ab,ao,asp⟩:=a
  go_wp2_with (at_builtin;refine Lib.wpList_append_run _ rfl _ _ _ _ rfl _ _ rfl rfl _ _ (hrun' _) ?_)
  all_goals (go_ret;exact⟨rfl,rfl⟩)
set_option maxHeartbeats 4000000 in
set_option maxRecDepth 100000 in
def aa7 (b off n c i vb voff m vc:Nat) (cs vs:List Value) (w:World) (hi:i<n) (hm:0<m) (hnc:n<=c) (hroom:c<n+m) (hbig:(n+m)*72<=140737488355328)
  (hcl:cs.length=n*5) (hvl:vs.length=m*5)
  (hcs:∀j v,cs[j]? = some v->w.cell? ⟨b,off+j,none⟩=some v)
  (hvs:∀j v,vs[j]? = some v->w.cell? ⟨vb,voff+j,none⟩=some v) (h1c:∀v∈cs,v.oneCell'=true) (h1v:∀v∈vs,v.oneCell'=true) :
  Calls prog 179 #[.slice (some ⟨b,off,none⟩) n c,.int .i64 i,.slice (some ⟨vb,voff,none⟩) m vc] w fun e w' =>
   e=.returned (.slice (some ⟨w.heap.size,0,none⟩) (n+m) (grownCap w (n+m) c 130)) ∧
   w'=(((w.alloc (.cells ((cs.take (i*5)).toArray++Builtin.zeroCells oD.cells (n+m-i)++Builtin.zeroCells oD.cells (grownCap w (n+m) c 130-(n+m))) 130)).drew.setCells w.heap.size (i*5) vs).drew).setCells w.heap.size ((i+m)*5) (cs.drop (i*5)):=by
 have t0:=underlying126;have mixed:Tryz.prog.follows .mixedOrders=true:=by kernel_rfl
 obtain⟨i0,hi0,hz0,hzs,hzb⟩:=info_parts MN;have hz1:¬((m:Int)=0):=by omega
 have hz2:¬((i:Int)=(n:Int)):=by omega
 have hz3:(c:Int)<(n:Int)+(m:Int):=by omega
 have hsz:=ab3;have hbw:b<w.heap.size:=block_lt_of_cell (hcs 0 _ (ajL (by omega)));have hvw:vb<w.heap.size:=block_lt_of_cell (hvs 0 _ (ajL (by omega)));have hkk:(n:Int)+(m:Int)-(i:Int)=((n+m-i:Nat):Int):=by omega
 have hik:i+(n+m-i)=n+m:=by omega
 have hold:(Builtin.firstCells i0.size i (.slice (some ⟨b,off,none⟩) i c)).run prog w.drew=.ok (cs.take (i*5)).toArray w.drew:=by
  rw[hzs];exact run_firstCells_some w.drew 5 i ⟨b,off,none⟩ i c (cs.take (i*5)) (by rw[ajP];omega) (fun j v hj=>by
   rw[amg];rw[ajY]at hj;split at hj
   ·exact hcs j v hj
   ·cases hj)
 obtain⟨G,hG⟩:∃G,G=grownCap w (n+m) c 130:=⟨_,rfl⟩;obtain⟨ROW,hROW⟩:∃ROW:Array Value,ROW=(cs.take (i*5)).toArray++Builtin.zeroCells oD.cells (n+m-i)++Builtin.zeroCells oD.cells (G-(n+m)):=⟨_,rfl⟩;have hrz:∀ty,(Builtin.append_ #[126,3] ty #[.slice (some ⟨b,off,none⟩) i c,.int .i64 ((n:Int)+(m:Int)-(i:Int))]).run prog w =
   .ok (.slice (some ⟨w.heap.size,0,none⟩) (n+m) G) (w.drew.alloc (.cells ROW 130)):=fun ty=>by
  have h:=Lib.run_append_grow_zeros w 126 3 ty 130 i0 oD .i64 .i64 t0 underlying3 hi0 hz0 (some ⟨b,off,none⟩) i c (cs.take (i*5)) hold (n+m-i) (by omega) (by omega) (by omega) (by omega) (by rw[hzb];omega) (by rw[hzb,hik];exact growslice_fits hroom hbig);rw[hik]at h;rw[hkk,hROW,hG];exact h
 rw[<- hG];rw[<- hROW];have hRl:(n+m)*5<=ROW.size:=by
  have h1:(Builtin.zeroCells oD.cells (n+m-i)).size=(n+m-i)*5:=by have:=qw (n+m-i);simpa using this
  rw[hROW,akG,akG,h1];simp only[akH,ajP];omega
 obtain⟨W1,hW1⟩:∃W1,W1=w.drew.alloc (.cells ROW 130):=⟨_,rfl⟩;rw[<- hW1]at hrz;have hN:∀j,j<(n+m)*5->(W1.cell? ⟨w.heap.size,j,none⟩).isSome=true:=fun j hj=>by
  rw[hW1,World.cell?_alloc_at (w:=w.drew) ROW _ w.heap.size j rfl,akC (by omega)];rfl
 have hNf:∀j,W1.frozen? ⟨w.heap.size,j,none⟩=false:=fun j=>by rw[hW1];exact World.frozen?_alloc_at (w:=w.drew) ROW _ w.heap.size j rfl
 have hOb:∀j v,w.cell? ⟨b,j,none⟩=some v->W1.cell? ⟨b,j,none⟩=some v:=fun j v h=>by rw[hW1,World.cell?_alloc_past (w:=w.drew) _ b j hbw];exact h
 have hOv:∀j v,w.cell? ⟨vb,j,none⟩=some v->W1.cell? ⟨vb,j,none⟩=some v:=fun j v h=>by rw[hW1,World.cell?_alloc_past (w:=w.drew) _ vb j hvw];exact h
 have hcpA:∀(W:World),(∀x,W.cell? x=W1.cell? x)->(∀x,W.frozen? x=W1.frozen? x)->∀ty dc,(Builtin.copy_ #[126,126] ty #[.slice (some ⟨w.heap.size,i*5,none⟩) (n+m-i) dc,.slice (some ⟨vb,voff,none⟩) m vc]).run prog W=.ok (goInt (Nat.min m (n+m-i))) (W.setCells w.heap.size (i*5) vs):=fun W hWc hWf ty dc =>
  wO W _ _ ty 130 5 w.heap.size (i*5) (n+m-i) dc ⟨vb,voff,none⟩ m vc vs t0 hsz (by rw[hvl];congr 1;simp only[Nat.min_def];split<;>omega)
   (fun j v hj=>by rw[amg,hWc];exact hOv _ v (hvs j v hj))
   (fun j hj=>by rw[hWc];exact hN _ (by omega)) (fun j hj=>by rw[hWf];exact hNf _) h1v
 have hGn:n+m<=G:=by rw[hG];exact grownCap_ge w _ _ _
 have hG63:G<=9223372036854775807:=by
  have:=grownCap_le_maxLen w (n+m) c 130 (by unfold maxLen;omega);rw[<- hG]at this;unfold maxLen at this;omega
 have hGi:¬(G=i):=by omega
 have hGim:¬(G=i+m):=by omega
 have hci:¬(c=i):=by omega
 have hbN:b≠w.heap.size:=by omega
 have hdl:(cs.drop (i*5)).length=(n-i)*5:=by rw[ajQ,hcl,Nat.sub_mul]
 have hcpB:∀(W:World),(∀x,W.cell? x=(W1.setCells w.heap.size (i*5) vs).cell? x)->(∀x,W.frozen? x=(W1.setCells w.heap.size (i*5) vs).frozen? x)->∀ty dc sc,(Builtin.copy_ #[126,126] ty #[.slice (some ⟨w.heap.size,(i+m)*5,none⟩) (n+m-(i+m)) dc,.slice (some ⟨b,off+i*5,none⟩) (n-i) sc]).run prog W=.ok (goInt (Nat.min (n-i) (n+m-(i+m)))) (W.setCells w.heap.size ((i+m)*5) (cs.drop (i*5))):=fun W hWc hWf ty dc sc =>
  wO W _ _ ty 130 5 w.heap.size ((i+m)*5) (n+m-(i+m)) dc ⟨b,off+i*5,none⟩ (n-i) sc (cs.drop (i*5)) t0 hsz (by rw[hdl];congr 1;simp only[Nat.min_def];split<;>omega)
   (fun j v hj=>by
    rw[amg,hWc,World.cell?_setCells_out _ _ _ _ _ (fun h _=>absurd h hbN),ajR];exact hOb _ v (hcs (i*5+j) v (by rwa [ajV]at hj)))
   (fun j hj=>by rw[hWc];exact isSome_setCells _ _ _ _ (fun t ht=>hN _ (by omega)) _ (hN _ (by omega)))
   (fun j hj=>by rw[hWf,World.frozen?_setCells];exact hNf _) (fun v hv=>h1c v (aj9 hv))
 subst hW1;have hE1:∀x,((w.alloc (.cells ROW 130)).drew).cell? x=(w.drew.alloc (.cells ROW 130)).cell? x:=fun x=>rfl;have hE2:∀x,((w.alloc (.cells ROW 130)).drew).frozen? x=(w.drew.alloc (.cells ROW 130)).frozen? x:=fun x=>rfl;have hF1:∀x,(((w.alloc (.cells ROW 130)).drew.setCells w.heap.size (i*5) vs).drew).cell? x=((w.drew.alloc (.cells ROW 130)).setCells w.heap.size (i*5) vs).cell? x:=fun x=>rfl;have hF2:∀x,(((w.alloc (.cells ROW 130)).drew.setCells w.heap.size (i*5) vs).drew).frozen? x=((w.drew.alloc (.cells ROW 130)).setCells w.heap.size (i*5) vs).frozen? x:=fun x=>rfl;have hw1:IntKind.i64.wrap ((i:Int)+(m:Int))=(i:Int)+(m:Int):=by rw[IntKind.wrap_i64];omega
 have hb1:(0:Int)<=(i:Int)+(m:Int):=by omega
 have hin:i<=n:=by omega
 have htn:((i:Int)+(m:Int)).toNat=i+m:=by omega
 have hb3:(i:Int)<=(n:Int):=by omega
 clear hkk hik hold hROW hG hRl
 go_enter func179,ntmps179
 go_wp2_with (first
  | (at_builtin;refine Lib.wpList_append_run _ rfl _ _ _ _ rfl _ _ rfl rfl _ _ (hrz _) ?_)
  | (at_builtin;refine wpList_copy_runI _ rfl _ _ 126 126 rfl _ _ rfl rfl (hcpA _ hE1 hE2 _ _) ?_)
  | (at_builtin;refine wpList_copy_runI _ rfl _ _ 126 126 rfl _ _ rfl rfl (hcpB _ (fun _=>rfl) (fun _=>rfl) _ _ _) ?_))
 go_region_law_o (refine step_copy_runI rfl _ _ 126 126 rfl (.slice (some ⟨w.heap.size,(i+m)*5,none⟩) (n+m-(i+m)) (G-(i+m))) (.slice (some ⟨b,off+i*5,none⟩) (n-i) (c-i)) (by simp[Act.eval,Act.put]) (by simp[Act.eval,Act.put]) (hcpB _ hF1 hF2 3 (G-(i+m)) (c-i)) ?_)
 go_wp2
 go_ret
 exact⟨rfl,rfl⟩
end Go.Proofs.YtobnihfgnbnncaaGreat.Am
namespace Go.Proofs.YtobnihfgnbnncaaGreat.Am
open Go.RowKit Go.Proofs.YtobnihfgnbnncaaGreat.P
def adu:Zm prog 179 (130,5,72) where
 callable:=⟨_,func179,by kernel_rfl,by kernel_rfl⟩
 pos:=by decide
 calls w go Y u u' i n m cs cs' h1 h2 Z hl p ho q hi hm D:=by
  simp only at *;obtain⟨o,I,J,rfl,rfl,V,b2,b3,b4,b5⟩:∃g c arr,Y=some g∧u'=.slice (some ⟨g.1,g.2,none⟩) m c∧w.heap[g.1]? = some (.cells arr 130 (0,0))∧c*5+g.2=arr.size∧m<=c∧c<=maxLen∧∀(j:Nat) x,cs'[j]? = some x->arr[g.2+j]? = some x:=by
   rcases h2 with⟨g,c,arr,k⟩|⟨_,rfl,_⟩
   ·exact⟨g,c,arr,by simpa using k⟩
   ·omega
  have r:∀(j:Nat) v,cs'[j]? = some v->w.cell? ⟨o.1,o.2+j,none⟩=some v:=fun j v b=>by simp[World.cell?,V,b5 j v b]
  rcases h1 with⟨g,c,arr,rfl,rfl,F,a2,a3,K,a5⟩|⟨rfl,rfl,rfl,A,rfl⟩
  ·have H:∀(j:Nat) v,cs[j]? = some v->w.cell? ⟨g.1,g.2+j,none⟩=some v:=fun j v b=>by simp[World.cell?,F,a5 j v b]
   have L:∀j,w.frozen? ⟨g.1,j,none⟩=false:=fun j=>by simp[World.frozen?,F]
   have aa:g.1≠o.1:=Z g o rfl rfl;have ah:g.1<w.heap.size:=(akx.1 F).1;have hsp:∀j,j<(n+m)*5->n+m<=c->(w.cell? ⟨g.1,g.2+j,none⟩).isSome=true:=fun j b hr=>by
    simp only[World.cell?,F];rw[akC (by omega)];rfl
   by_cases ab:i=n
   ·subst ab;have ht:cs.take (i*5)=cs:=akN (by omega);have hd:cs.drop (i*5)=[]:=ak9 (by omega);rw[ht,hd,alg]
    by_cases d:i+m<=c
    ·refine (MP g.1 g.2 i c o.1 o.2 m I cs' w hm d (by unfold maxLen at K;omega) p (fun j b=>by have:=hsp (i*5+j) (by omega) d;rwa [<- ajR]at this) L r q).mono fun e W ⟨z,B⟩ =>?_;subst B;obtain⟨M,N,O,X,e5,l,P,e7,Q⟩:=iC g.1 cs' (g.2+i*5) w arr F (by omega);refine⟨_,z,⟨M,N,O,by omega,fun k hk hn=>e5 k (fun h=>hn ⟨g,rfl,h⟩)⟩,g,c,l,rfl,.inr ⟨g,rfl,rfl⟩,P,d,K,by omega,fun j x b =>?_⟩;rw[Q]
     by_cases S:j<i*5
     ·rw[if_neg (by omega)];rw[akm (by omega)]at b;exact a5 j x b
     ·have f:=(ajZ.1 b).1;rw[aky]at f;rw[ako (by omega)]at b;rw[if_pos (by omega)];rw[<- b];congr 1;omega
    ·refine (BS (some ⟨g.1,g.2,none⟩) i c o.1 o.2 m I cs cs' w hm a3 (by unfold maxLen at K;omega) (by omega) D hl p (fun h=>by cases h) (fun a ha j v b=>by cases ha;rw[amg];exact H j v b) r q).mono fun e W ⟨z,B⟩ =>?_;subst B;have s:=grownCap_ge w (i+m) c 130;have t:=qw (grownCap w (i+m) c 130-(i+m));refine⟨_,z,eK.vv ((Below.refl _ w).drew.alloc (by simp) _),(w.heap.size,0),_,_,rfl,.inl (ajz _),heap_alloc_new w.drew _,s,grownCap_le_maxLen _ _ _ _ (by unfold maxLen;omega),?_,fun j x b =>?_⟩
     ·rw[aj8]at t;simp only[akG,akH,aky,t];omega
     ·have f:=(ajZ.1 b).1;rw[akw,ak4 (by simpa using f)];simpa using b
   ·have E:i<n:=by omega
    by_cases d:n+m<=c
    ·refine (X0 g.1 g.2 n c i o.1 o.2 m I cs cs' w E hm d (by unfold maxLen at K;omega) (Ne.symm aa) hl p H (fun j b=>hsp j b d) L r ho q 130 130 J.size arr.size (by simp[World.shape?,V]) (by simp[World.shape?,F]) (by omega) (by simp[World.frozen?,V]) (by simp[World.frozen?,V])).mono fun e W ⟨z,B⟩ =>?_;subst B;obtain⟨M,N,O,X,e5,l,P,e7,Q⟩:=iC g.1 (cs.drop (i*5)) (g.2+(i+m)*5) w.drew arr F (by simp;omega);obtain⟨f1,f2,f3,f4,f5,y,f6,f7,f8⟩:=iC g.1 cs' (g.2+i*5) _ l P (by omega);refine⟨_,z,⟨f1.trans M,f2.trans N,f3.trans O,by rw[f4,X];exact ajz _,fun k hk hn=>(f5 k (fun h=>hn ⟨g,rfl,h⟩)).trans (e5 k (fun h=>hn ⟨g,rfl,h⟩))⟩,g,c,y,rfl,.inr ⟨g,rfl,rfl⟩,f6,d,K,by omega,fun j x b =>?_⟩;have f:=(ajZ.1 b).1;simp only[aky,ajP,ajQ]at f;rw[f8,Q]
     by_cases C:j<i*5
     ·rw[akm (by rw[ajP];omega),ajY,if_pos C]at b;rw[if_neg (by omega),if_neg (by simp;omega)];exact a5 j x b
     ·rw[ako (by rw[ajP];omega),ajP,alw (by omega)]at b
      by_cases S:j<(i+m)*5
      ·rw[akm (by omega)]at b;rw[if_pos (by omega),<- b];congr 1;omega
      ·rw[ako (by omega)]at b;rw[if_neg (by omega),if_pos (by simp;omega),<- b];congr 1;omega
    ·refine (aa7 g.1 g.2 n c i o.1 o.2 m I cs cs' w E hm a3 (by omega) D hl p H r ho q).mono fun e W ⟨z,B⟩ =>?_;subst B;have s:=grownCap_ge w (n+m) c 130;generalize hG:grownCap w (n+m) c 130=G at *;have T:=qw (n+m-i);have U:=qw (G-(n+m));rw[aj8]at T U;generalize hR:((cs.take (i*5)).toArray++Builtin.zeroCells oD.cells (n+m-i)++Builtin.zeroCells oD.cells (G-(n+m)))=R;have ai:R.size=G*5:=by subst hR;simp only[akG,akH,ajP,T,U];omega
     have ad:∀j,j<i*5->R[j]? = cs[j]?:=fun j b=>by
      subst hR;rw[Array.append_assoc,ak4 (by simp;omega)];simp[ajY,b]
     have ae:(w.alloc (.cells R 130)).drew.heap[w.heap.size]? = some (.cells R 130 (0,0)):=heap_alloc_new w _;obtain⟨M,N,O,X,e5,l,P,e7,Q⟩:=iC w.heap.size cs' (i*5) _ R ae (by omega);obtain⟨f1,f2,f3,f4,f5,y,f6,f7,f8⟩:=iC w.heap.size (cs.drop (i*5)) ((i+m)*5) (((w.alloc (.cells R 130)).drew.setCells w.heap.size (i*5) cs').drew) l P (by simp;omega);refine⟨_,z,⟨f1.trans M,f2.trans N,f3.trans O,?_,fun k hk hn =>?_⟩,(w.heap.size,0),G,y,rfl,.inl (ajz _),f6,s,hG ▸ grownCap_le_maxLen _ _ _ _ (by unfold maxLen;omega),by simp only;omega,fun j x b =>?_⟩
     ·rw[f4];show _<=((w.alloc (.cells R 130)).drew.setCells w.heap.size (i*5) cs').heap.size;rw[X];show _<=(w.alloc (.cells R 130)).heap.size;simp
     ·rw[f5 k (by omega)];show ((w.alloc (.cells R 130)).drew.setCells w.heap.size (i*5) cs').heap[k]? = _;rw[e5 k (by omega)];exact Below.heap_alloc w _ k hk
     ·have f:=(ajZ.1 b).1;simp only[aky,ajP,ajQ]at f;rw[akw,f8,Q]
      by_cases C:j<i*5
      ·rw[akm (by rw[ajP];omega),ajY,if_pos C]at b;rw[if_neg (by omega),if_neg (by omega),ad j C,b]
      ·rw[ako (by rw[ajP];omega),ajP,alw (by omega)]at b
       by_cases S:j<(i+m)*5
       ·rw[akm (by omega)]at b;rw[if_neg (by omega),if_pos (by omega),<- b]
       ·rw[ako (by omega)]at b;rw[if_pos (by simp;omega),<- b];congr 1;omega
  ·have ag:i=0:=by omega
   subst ag;refine (BS A 0 0 o.1 o.2 m I [] cs' w hm (ajz _) (by omega) (by omega) (by omega) rfl p (fun _=>rfl) (fun a ha j v b=>by simp at b) r q).mono fun e W ⟨z,B⟩ =>?_;subst B;have s:=grownCap_ge w (0+m) 0 130;have t:=qw (grownCap w (0+m) 0 130-(0+m));refine⟨_,z,eK.vv ((Below.refl _ w).drew.alloc (by simp) _),(w.heap.size,0),_,_,rfl,.inl (ajz _),heap_alloc_new w.drew _,s,grownCap_le_maxLen _ _ _ _ (by unfold maxLen;omega),?_,fun j x b =>?_⟩
   ·rw[aj8]at t;simp only[akG,akH,List.nil_append,t];omega
   ·simp only[ale,List.take_nil,List.drop_nil,List.nil_append,alg]at b;have f:=(ajZ.1 b).1;rw[akw,ak4 (by simpa using f)];simpa using b
def adf {α:Type} (E:jb α) (C:E.size=5):cr prog 138 (mkE 130 E (gG (aI .i64) (dN (aI .i64))) (fun (l:List α) (x:Int×Int)=>aab l x.1 x.2)) where
 callable:=⟨_,func138,by kernel_rfl,by kernel_rfl⟩
 calls lent ds rk out hg:=by
  obtain⟨pre,l,post,a,r,rfl,rfl,W,rfl,rfl⟩:=QH hg;obtain⟨ai,X⟩:=a;unfold aab at W;split at W;rotate_left
  ·cases W
  rename_i D;obtain⟨aa,ab,ad,ar⟩:=D;simp only at aa ab ad;cases W;intro w M go u0 vs hM au hz ay K ae m;have ag:vs = #[.int .i64 ai,.int .i64 X]:=by
   have F:vs.size=2:=m.size;have e0:=SJ (m.at_ 0 (.int .i64 ai) rfl);have e1:=SJ (m.at_ 1 (.int .i64 X) rfl);apply akD
   ·simp[F]
   ·intro k Y h3;have:k=0∨k=1:=by omega
    rcases this with rfl|rfl
    ·simpa [ajD,akC Y] using e0
    ·simpa [ajD,akC Y] using e1
  subst ag;simp only;obtain⟨i,rfl⟩:∃i:Nat,ai=(i:Int):=⟨ai.toNat,by omega⟩;obtain⟨j,rfl⟩:∃j:Nat,X=(j:Int):=⟨X.toNat,by omega⟩;simp only[Int.toNat_natCast];have aw:i<=j:=by omega
  have G:j<=l.length:=by omega
  have s:(l.take i++l.drop j).length=i+(l.length-j):=by rw[aky,ajP,ajQ];omega
  have L:(av E l).length=l.length*5:=by rw[bT,C]
  have O:av E (l.take i++l.drop j)=(av E l).take (i*5)++(av E l).drop (j*5):=by rw[ju,<- C,kR,p7]
  rcases ae.2 ⟨0,0,[],false,false,false⟩ rfl rfl with⟨g,o',c,N,t,k0,k1,k2,k3,k4,k5⟩|⟨k0,ah,A,k1⟩
  ·cases k0;subst k1;rw[C]at k2;obtain⟨cs,F,Y,h3⟩:=K;simp only[aky,L]at Y;have hN:N=cs.size:=by
    simp only[World.shape?,F,ajH,Prod.mk.injEq]at k5;exact k5.2.symm
   have y:c<=9223372036854775807:=by unfold maxLen at k4;omega
   by_cases ak:i=j
   ·subst ak;have H:l.take i++l.drop i=l:=ald i l;rw[H];refine (OW (some ⟨g.1,o',none⟩) l.length c i w G k3 y (fun h=>by cases h)).mono fun e Z ⟨P,Q⟩ =>?_;subst Q;refine⟨_,P,⟨rfl,rfl,rfl,ajz _,fun k _ _=>rfl⟩,trivial,?_⟩
    by_cases al:0<c∨pre.length=0
    ·obtain⟨k6,k7⟩:=k2 al;refine .inl ⟨(g.1,o'),c,cs,rfl,.inr ⟨g,rfl,rfl⟩,F,k3,k4,by rw[C];omega,?_,fun k d f =>?_⟩
     ·simp only;rw[L];omega
     ·have n:=(ajZ.1 f).1;have:=h3 (pre.length+k) d (by rw[ako (by omega),akL,akm n];exact f);simp only;rw[k6,ajR];exact⟨this.1,this.2.less fun b hb=>hb.imp id fun h=>⟨g,rfl,h⟩⟩
    ·have:c=0:=by omega
     subst this;have I:l=[]:=akF (by omega);subst I;exact .inr ⟨rfl,rfl,_,rfl⟩
   ·have ao:i<j:=by omega
    obtain⟨k6,k7⟩:=k2 (.inl (by omega));subst k6;obtain⟨Dw,o⟩:∃Dw:List Value,Dw=(List.range (l.length*5)).map fun k=>cs.getD (g.2+(pre.length+k)) undef:=⟨_,rfl⟩;have R:Dw.length=l.length*5:=by rw[o];simp
    have u:∀k,k<l.length*5->Dw[k]? = some (cs.getD (g.2+(pre.length+k)) undef):=fun k f=>by rw[o,ajw,List.getElem?_range f];rfl
    have z:∀k d,(av E l)[k]? = some d->bA d=true∧RP w (fun b=>M b∨wW (some g) b) d (cs.getD (g.2+(pre.length+k)) undef):=fun k d f=>by
     have n:=(ajZ.1 f).1;exact h3 (pre.length+k) d (by rw[ako (by omega),akL,akm n];exact f)
    have J:∀k v,Dw[k]? = some v->w.cell? ⟨g.1,g.2+pre.length+k,none⟩=some v:=fun k v f=>by
     have n:=(ajZ.1 f).1;rw[u k (by omega)]at f;have:=bg F (j:=g.2+pre.length+k) (by omega);rw[this,ajR];exact f
    have S:∀v∈Dw,v.oneCell'=true:=fun v hv=>by
     obtain⟨k,f⟩:=ajS hv;have n:=(ajZ.1 f).1;rw[u k (by omega)]at f;obtain⟨p1,p2⟩:=z k _ (ajL (by omega));have:=p2.so p1
     rwa [alz f]at this
    refine (aad g.1 (g.2+pre.length) l.length c i j Dw w R J (fun k=>by simp[World.frozen?,F]) S k3 y ao G).mono fun e Z ⟨P,Q⟩ =>?_;have az:=qw (l.length-(i+(l.length-j)));have aA:(Dw.drop (j*5)).length=(l.length-j)*5:=by rw[ajQ,R,Nat.sub_mul]
    obtain⟨e1,e2,e3,e4,e5,T,e6,e7,e8⟩:=iC g.1 (Dw.drop (j*5)) (g.2+pre.length+i*5) w.drew cs F (by omega);obtain⟨f1,f2,f3,f4,f5,p,f6,f7,f8⟩:=iC g.1 (Builtin.zeroCells oD.cells (l.length-(i+(l.length-j)))).toList (g.2+pre.length+(i+(l.length-j))*5) _ T e6 (by omega);rw[<- Q]at f1 f2 f3 f4 f5 f6;have q:eK (wW (some g)) w Z:=⟨f1.trans e1,f2.trans e2,f3.trans e3,by rw[f4,e4];exact ajz _,fun k f hn=>(f5 k (fun h=>hn ⟨g,rfl,h⟩)).trans (e5 k (fun h=>hn ⟨g,rfl,h⟩))⟩;refine⟨_,P,q,trivial,.inl ⟨(g.1,g.2+pre.length),c,p,by rw[s],.inr ⟨g,rfl,rfl⟩,f6,by rw[s];omega,k4,by rw[C];simp only;omega,?_,fun k d f =>?_⟩⟩
    ·simp only;rw[bT,C,s];omega
    ·have n:=(ajZ.1 f).1;rw[bT,C,s]at n;rw[O]at f;have B:∀U:Nat,(av E l)[U]? = some d->Dw[U]? = p[g.2+pre.length+k]?->bA d=true∧RP Z (fun b=>M b∨b=g.1) d (p.getD (g.2+pre.length+k) undef):=by
      intro U V hv;have ax:=(ajZ.1 V).1;obtain⟨p1,p2⟩:=z U d V;rw[u U (by omega)]at hv;refine⟨p1,?_⟩;rw[ajD,<- hv];refine p2.keep fun b q1 q2=>⟨ajC q1 q.size,?_,q.block b q1 (fun hn=>q2 (.inr hn))⟩;rintro (hb|hb)
      ·exact q2 (.inl hb)
      ·exact q2 (.inr ⟨g,rfl,hb⟩)
     simp only
     by_cases aq:k<i*5
     ·rw[akm (by rw[ajP];omega),ajY,if_pos aq]at f;apply B k f;rw[f8,if_neg (by omega),e8,if_neg (by omega),u k (by omega),ajD,ajR,akC (show g.2+(pre.length+k)<cs.size by omega)];rfl
     ·rw[ako (by rw[ajP];omega),ajP,alw (by omega),ajV]at f;refine B (j*5+(k-i*5)) f ?_;rw[f8,if_neg (by omega),e8,if_pos (by omega),ajV];congr 1;omega
  ·subst k1;have I:l=[]:=akF ah;subst I;simp only[List.length_nil]at G;obtain rfl:j=0:=by omega
   obtain rfl:i=0:=by omega
   refine (OW A 0 0 0 w (ajz _) (ajz _) (by decide) (fun _=>rfl)).mono fun e Z ⟨P,Q⟩ =>?_;subst Q;exact⟨_,P,⟨rfl,rfl,rfl,ajz _,fun k _ _=>rfl⟩,trivial,.inr ⟨rfl,rfl,_,rfl⟩⟩
end Go.Proofs.YtobnihfgnbnncaaGreat.Am
namespace Go.Proofs.YtobnihfgnbnncaaGreat.P
def XZ {α:Type} (c:α->α->Int) (x:α):List α->List α
 | []=>[x]
 | y::l=>if c x y<=0 then x::y::l else y::XZ c x l
def rK {α:Type} (c:α->α->Int):List α->List α
 | []=>[]
 | x::l=>XZ c x (rK c l)
def CW {α:Type} (c:α->α->Int) (x:α):∀l:List α,(XZ c x l).Perm (x::l)
 | []=>List.Perm.refl _
 | y::l=>by
  unfold XZ;split
  ·simp_all
  ·exact ((CW c x l).cons y).trans (List.Perm.swap x y l)
def jJ {α:Type} (c:α->α->Int):∀l:List α,(rK c l).Perm l
 | []=>List.Perm.refl _
 | x::l=>(CW c x _).trans ((jJ c l).cons x)
def qf {α:Type} (c:α->α->Int) (l:List α):(rK c l).length=l.length:=(jJ c l).length_eq
structure WO {α:Type} (c:α->α->Int):Prop where
 total:∀x y,c x y<=0∨c y x<=0
 neg:∀x y,c x y<0↔0<c y x
 trans:∀x y z,c x y<=0->c y z<=0->c x z<=0
def D9 {α:Type} {c:α->α->Int} (h:WO c) (x:α):∀l:List α,l.Pairwise (fun x y=>c x y<=0)->(XZ c x l).Pairwise (fun x y=>c x y<=0)
 | [],_=>List.pairwise_singleton _ _
 | y::l,hs=>by
  unfold XZ;obtain⟨e,f⟩:=ak1.1 hs;split
  ·rename_i b;refine ak1.2 ⟨fun z a =>?_,hs⟩;rcases ajF.1 a with rfl|a
   ·exact b
   ·exact h.trans _ _ _ b (e z a)
  ·rename_i b;have d:c y x<=0:=(h.total x y).resolve_left b;refine ak1.2 ⟨fun z a =>?_,D9 h x l f⟩;rcases ajF.1 ((CW c x l).mem_iff.1 a) with rfl|a
   ·exact d
   ·exact e z a
def oZ {α:Type} {c:α->α->Int} (h:WO c):∀l:List α,(rK c l).Pairwise (fun x y=>c x y<=0)
 | []=>List.Pairwise.nil
 | x::l=>D9 h x _ (oZ h l)
def qL {α:Type} {c:α->α->Int} : ∀ {l m:List α},l.Perm m->(∀x∈l,∀y∈l,c x y<=0->c y x<=0->x=y)->l.Pairwise (fun x y=>c x y<=0)->m.Pairwise (fun x y=>c x y<=0)->l=m
 | [],m,d,_,_,_=>(List.Perm.nil_eq d)
 | x::l,[],d,_,_,_=>absurd d.symm (by simp_all)
 | x::l,y::m,d,ha,f,hm=>by
  obtain⟨n,g⟩:=ak1.1 f;obtain⟨o,h⟩:=ak1.1 hm;have e:x=y:=by
   by_cases i:x=y
   ·exact i
   ·have p:y∈l:=by
     grind
    grind
  subst e;rw[qL ((List.perm_cons x).1 d) (fun a j b k=>ha a (akV _ j) b (akV _ k)) g h]
open Classical in
def En {α:Type} (c:α->α->Int) (l:List α):Option (List α×Unit):=if l.length<4611686018427387904∧∀x∈l,∀y∈l,c x y=0->x=y then some (rK c l,()) else none
end Go.Proofs.YtobnihfgnbnncaaGreat.P
namespace Go.Proofs.YtobnihfgnbnncaaGreat.Am
open Go.RowKit Go.Proofs.YtobnihfgnbnncaaGreat.P
def ZK (b:Bool) (a:List Value):Value:=if b then .agg a.toArray else a.getD 0 undef
def IsV {α:Type} (E:jb α) (w:World) (M:Nat->Prop) (x:α) (a:List Value):Prop:=a.length=E.size∧∀j d,(E.cells x)[j]? = some d->bA d=true∧RP w M d (a.getD j undef)
def agE {α:Type} (P:Program) (g:FuncId) (a:Bool) (E:jb α) (c:α->α->Int):Prop:=∀(w:World) (M:Nat->Prop) (x y:α) (d f:List Value),(∀b,M b->b<w.heap.size)->IsV E w M x d->IsV E w M y f ->
 Calls P g #[ZK a d,ZK a f] w fun e h=>e=.returned (.int .i64 (c x y))∧∃q i,h=Go.Sort.grow (w.drewN q) i
def aeu (P:Program) (f g:FuncId) (p:Bool) (k:Nat):Prop:=∀(β:Type) (_:Inhabited β) (enc:β->List Value) (c:β->β->Int),(∀x,(enc x).length=k)->(∀x,∀v∈enc x,v.oneCell'=true)->Go.Sort.SWO (ltOf c)->∀(blk a h:Nat) (d:Array β) (w:World),
 (∀(m:Nat) (b:Array Obj) (i:Array β),i.size=d.size->∀x y:β,Calls P g #[ZK p (enc x),ZK p (enc y)] (sortWorldK enc k w blk a m i b) fun e j=>e=.returned (.int .i64 (c x y))∧∃q l,j=Go.Sort.grow ((sortWorldK enc k w blk a m i b).drewN q) l) ->
 Go.Sort.HoldsK enc k w blk a d->blk<w.heap.size->d.size<4611686018427387904 ->
 Calls P f #[.slice (some ⟨blk,a,none⟩) d.size h,.func (.func g) #[] #[]] w fun e j=>e=.returned (.tuple #[])∧∃o n b,Go.Sort.PermIn 0 d.size d o∧Go.Sort.SortedIn (ltOf c) 0 d.size o∧j=sortWorldK enc k w blk a n o b
def Vt {α:Type} (E:jb α) {l:List α} {i j:Nat} {x:α} (a:l[i]? = some x) (b:j<E.size):(av E l)[i*E.size+j]? = (E.cells x)[j]?:=by
 have c:((av E l).drop (i*E.size))[j]? = (av E l)[i*E.size+j]?:=ajV;have d:l.drop i=x::l.drop (i+1):=by
  obtain⟨e,rfl⟩:=ajZ.1 a;simp_all
 rw[<- c,p7,d,ck,akm (by rw[E.len];exact b)]
section
variable {β:Type} [Inhabited β] {enc:β->List Value} {k:Nat}
def Nh {w:World} {b a:Nat} {d:Array β} {c:Array Value} {e:Nat} {fr:Nat×Nat} (h:w.heap[b]? = some (.cells c e fr)):(Go.Sort.putRowK enc k w b a d).heap[b]? = some (.cells (Go.Sort.putCells id a (Go.Sort.flatK enc k d) c) e fr):=by
 simp[Go.Sort.putRowK,Go.Sort.putRow,Go.Sort.mapBlock,ajI,h,Go.Sort.onCells]
def EP {w:World} {b c a:Nat} {d:Array β} (h:c≠b):(Go.Sort.putRowK enc k w b a d).heap[c]? = w.heap[c]?:=by
 simp[Go.Sort.putRowK,Go.Sort.putRow,Go.Sort.mapBlock,ajI,Ne.symm h]
def Aa {w:World} {b c a m:Nat} {d:Array β} {e:Array Obj} (f:c<w.heap.size) (h:c≠b):(sortWorldK enc k w b a m d e).heap[c]? = w.heap[c]?:=by
 unfold sortWorldK;rw[Go.Sort.heap_grow_old _ _ (by simpa [Go.Sort.putRowK,Go.Sort.ahead] using f),EP h];rfl
def rH {w:World} {b a m:Nat} {d:Array β} {c:Array Obj} : w.heap.size<=(sortWorldK enc k w b a m d c).heap.size:=by
 simp[sortWorldK,Go.Sort.putRowK,Go.Sort.ahead]
def I8 {w:World} {b a m:Nat} {d:Array β} {f:Array Obj} {c:Array Value} {e:Nat} {fr:Nat×Nat} (h:w.heap[b]? = some (.cells c e fr)):(sortWorldK enc k w b a m d f).heap[b]? = some (.cells (Go.Sort.putCells id a (Go.Sort.flatK enc k d) c) e fr):=by
 have g:=(akx.1 h).1;unfold sortWorldK;rw[Go.Sort.heap_grow_old _ _ (by simpa [Go.Sort.putRowK,Go.Sort.ahead] using g)];exact Nh h
def I4 {a:Nat} {d:Array β} {b:Array Value} {j:Nat} (c:j<b.size):(Go.Sort.putCells id a (Go.Sort.flatK enc k d) b).getD j undef=if a<=j∧j<a+d.size*k then (enc d[(j-a) / k]!)[(j-a) % k]! else b.getD j undef:=by
 have e:(Go.Sort.putCells id a (Go.Sort.flatK enc k d) b)[j]? = some (if a<=j∧j<a+d.size*k then (enc d[(j-a) / k]!)[(j-a) % k]! else b[j]):=by
  simp only[Go.Sort.putCells,Array.getElem?_mapIdx,akC c,Option.map_some,Go.Sort.size_flatK];congr 1;split
  ·rename_i f;rw[Go.Sort.get_flatK _ _ _ _ (by omega)];rfl
  ·rfl
 simp_all
end
def af9 {α β:Type} {c:α->α->Int} (h:WO c) (f:β->α):Go.Sort.SWO (ltOf fun x y=>c (f x) (f y)) where
 irrefl x:=by
  simp only[ltOf,decide_eq_false_iff_not];intro e;have:=(h.neg _ _).1 e;omega
 trans x y z h1 h2:=by
  simp only[ltOf,decide_eq_true_eq]at h1 h2 ⊢
  by_cases a:c (f x) (f z)<0
  ·exact a
  ·have b:c (f z) (f x)<=0:=by
    have:=(h.neg (f z) (f x));rcases Int.lt_trichotomy (c (f z) (f x)) 0 with q|q|q
    ·omega
    ·omega
    ·exact absurd ((h.neg (f x) (f z)).2 q) a
   have d:=h.trans _ _ _ b (Int.le_of_lt h1);have g:=(h.neg _ _).1 h2;omega
 ntrans x y z h1 h2:=by
  simp only[ltOf,decide_eq_false_iff_not]at h1 h2 ⊢;intro a;have b:c (f y) (f x)<=0:=by
   by_cases q:0<c (f y) (f x)
   ·exact absurd ((h.neg _ _).2 q) h1
   ·omega
  have d:c (f z) (f y)<=0:=by
   by_cases q:0<c (f z) (f y)
   ·exact absurd ((h.neg _ _).2 q) h2
   ·omega
  have g:=h.trans _ _ _ d b;have i:=(h.neg _ _).1 a;omega
def HF {β:Type} [Inhabited β] {d a:Array β} (h:Go.Sort.PermIn 0 d.size d a):a.toList.Perm d.toList:=by
 obtain⟨b,-,c⟩:=h;have e:(d.extract 0 d.size)=d:=by simp
 have f:(a.extract 0 d.size)=a:=by rw[<- b];simp
 rwa [e,f]at c
def aca {α:Type} {E:jb α} {c:α->α->Int} {P:Program} {f g:FuncId} {fn:Func} {ag:Bool} {ty:Nat} {F:List α->Option (List α×Unit)} (hf:P.funcs[f]? = some fn) (hc:(fn.name == "runtime.NumGoroutine")=false∧fn.body.isNone=false)
  (hF:∀l,F l=En c l) (h0:∀p ao w,Calls P f #[.slice p 0 ao,.func (.func g) #[] #[]] w fun e w'=>e=.returned (.tuple #[])∧w'=w) (hO:WO c) (hcmp:agE P g ag E c) (hS:aeu P f g ag E.size) :
  cr P f (mkW ty E (dN (NX g)) (fun l (_:Unit)=>F l) (fun _:Unit =>.clean (.tup []))) where
 callable:=⟨fn,hf,hc⟩
 calls lent la rk out hg:=by
  obtain⟨pre,l,post,a,l',r,rfl,rfl,hr,rfl,rfl⟩:=QI hg;rw[hF]at hr;unfold En at hr
  by_cases B:l.length<4611686018427387904∧∀x∈l,∀y∈l,c x y=0->x=y
  ·rw[if_pos B]at hr;obtain⟨aB,hanti⟩:=B;obtain rfl:rK c l=l':=congrArg Prod.fst (alz hr);intro w M h u0 vs hM aC hz aE C aa s;have aq:vs = #[.func (.func g) #[] #[]]:=by
    have S:=s.1;have h2:=s.2 0 (.fn g) rfl;have h3:vs.size=1:=S;cases hv:vs.getD 0 undef<;>rw[hv]at h2<;>cases h2;apply akD
    ·simp[h3]
    ·intro i i1 i2;have:i=0:=by omega
     subst this;simpa [Array.getD,h3] using hv
   subst aq
   by_cases hl:l=[]
   ·subst hl;have hu:∃p cp,u0=.slice p 0 cp:=by
     rcases aa.2 ⟨0,0,[],false,false,false⟩ rfl rfl with⟨g',o',cp,N,t,k0,k1,k2,k3,k4,k5⟩|k0
     ·simp_all
     grind
    obtain⟨p,cp,rfl⟩:=hu;refine (h0 p cp w).mono fun e w' ⟨he,hw⟩ =>?_;subst hw;exact⟨.tuple #[],he,⟨rfl,rfl,rfl,ajz _,fun _ _ _=>rfl⟩,⟨rfl,rfl,⟨rfl,rfl⟩,fun g' T=>rfl,C⟩,.tup [] [] rfl (fun j x o=>by simp at o)⟩
   ·have hk:=E.pos;have J:0<l.length:=alf.2 hl;cases h with
    | none =>
     have ar:pre++(av E l++post)=[]:=C;have:=congrArg List.length ar;rw[aky,aky,bT,akz]at this;have:=Nat.mul_pos J hk;omega
    | some h =>
     obtain⟨cs,S,h2,h3⟩:=C;simp only[aky,bT]at h2;generalize U:(fun b=>M b∨wW (some h) b)=M' at h3 s ⊢;have ab:M' h.1:=by rw[<- U];exact .inr ⟨h,rfl,rfl⟩
     have au:h.1<w.heap.size:=(akx.1 S).1;have V:∀b,M' b->b<w.heap.size:=by
      intro b hb;rw[<- U]at hb;rcases hb with hb|⟨g',T,rfl⟩
      ·exact hM b hb
      simp_all
     rcases aa.2 ⟨0,0,[],false,false,false⟩ rfl rfl with⟨g',o',cp,N,t,k0,k1,k2,k3,k4,k5⟩|⟨k0,_⟩;rotate_left
     ·cases k0
     cases k0;obtain⟨rfl,k6⟩:=k2 (.inl (by omega));subst k1;have ad:∀i,i<l.length->i*E.size+E.size<=l.length*E.size:=by
      intro i I;have:=akd E.size (show i+1<=l.length from I);grind
     have q:∀i (I:i<l.length),IsV E w M' l[i] ((List.range E.size).map fun j=>cs.getD (h.2+pre.length+(i*E.size+j)) undef):=by
      intro i I;refine⟨by simp,fun j d o =>?_⟩;have aw:j<E.size:=by
       have:=(ajZ.1 o).1
       rwa [E.len]at this
      have hd:(pre++(av E l++post))[pre.length+(i*E.size+j)]? = some d:=by
       have:=ad i I;rw[ako (by omega),akL,akm (by rw[bT];omega),Vt E (ajL I) aw,o]
      have:=h3 _ _ hd;rw[<- ajR]at this;simp_all
     let β:={ p:α×List Value // IsV E w M' p.1 p.2 }
     let enc:β->List Value:=fun p=>p.1.2
     let K:List β:=List.ofFn fun i:Fin l.length=>(⟨(l[i.1],_),q i.1 i.2⟩:β)
     have ae:K.length=l.length:=by simp[K]
     have aF:∀i (I:i<l.length),K[i]? = some ⟨(l[i],_),q i I⟩:=by
      grind
     have ah:Inhabited β:=⟨⟨(l[0],_),q 0 J⟩⟩;have aD:K.map (fun p=>p.1.1)=l:=by
      apply aly;grind
     have L:∀x:β,(enc x).length=E.size:=fun x=>x.2.1;have ai:∀x:β,∀v∈enc x,v.oneCell'=true:=by
      intro x v hv;obtain⟨j,o⟩:=ajS hv;have W:=(ajZ.1 o).1;rw[L]at W;obtain⟨p1,p2⟩:=x.2.2 j _ (ajL (by rw[E.len];exact W));have:x.1.2.getD j undef=v:=by grind
      rw[this]at p2;exact p2.so p1
     have z:∀ {m:Nat} {dk:Array β} {os:Array Obj} {d:D} {u:Value},RP w M' d u->RP (sortWorldK enc E.size w h.1 (h.2+pre.length) m dk os) M' d u:=by
      intro m dk os d u hu;refine hu.keep fun b q1 q2=>⟨ajC q1 rH,q2,?_⟩;exact Aa q1 (fun e=>q2 (e ▸ ab))
     have hH:Go.Sort.HoldsK enc E.size w h.1 (h.2+pre.length) K.toArray:=by
      intro j o;simp only[Go.Sort.size_flatK,akH,ae]at o;refine⟨?_,by simp[World.frozen?,S]⟩;have hq:j / E.size<l.length:=Nat.div_lt_of_lt_mul (by rwa [Nat.mul_comm]);have O:j % E.size<E.size:=akk _ hk;have aj:j / E.size*E.size+j % E.size=j:=by rw[Nat.mul_comm];exact Nat.div_add_mod j E.size
      rw[Go.Sort.get_flatK _ _ _ _ (by simp_all),bg S (j:=h.2+pre.length+j) (by omega)];have e1:(K.toArray)[j / E.size]! = ⟨(l[j / E.size],_),q _ hq⟩:=by
       simp_all
      rw[e1];show some _=some (((List.range E.size).map fun j'=>cs.getD (h.2+pre.length+(j / E.size*E.size+j')) undef)[j % E.size]!);simp_all
     have ax:=af9 hO (fun p:β=>p.1.1);have G:=hS β ah enc (fun x y=>c x.1.1 y.1.1) L ai ax h.1 (h.2+pre.length) cp K.toArray w (fun m os dk aG x y=>hcmp _ M' x.1.1 y.1.1 x.1.2 y.1.2 (fun b hb=>ajC (V b hb) rH) ⟨x.2.1,fun j d o=>⟨(x.2.2 j d o).1,z (x.2.2 j d o).2⟩⟩ ⟨y.2.1,fun j d o=>⟨(y.2.2 j d o).1,z (y.2.2 j d o).2⟩⟩) hH au (by simp_all);have X:K.toArray.size=l.length:=by simp[ae]
     rw[X]at G;refine G.mono fun e w' ⟨he,A,n,os,H,Y,hw⟩ =>?_;subst hw;have al:=HF (by rw[X];exact H);have ak:A.size=l.length:=by have:=H.1;rw[this,X]
     have ay:A.toList.map (fun p=>p.1.1)=rK c l:=by
      have Z:(A.toList.map (fun p=>p.1.1)).Perm l:=by
       grind
      refine qL (Z.trans (jJ c l).symm) (fun x hx y hy h4 h5=>hanti x (Z.mem_iff.1 hx) y (Z.mem_iff.1 hy) ?_) ?_ (oZ hO l)
      ·have:=hO.neg x y;omega
      ·rw[alA];rw[alB];intro i j I o az;simp only[Array.length_toList]at I o;have:=Y i j (ajA _) az (by omega);simp only[ltOf,decide_eq_false_iff_not]at this;rw[getElem!_pos A j (by omega),getElem!_pos A i (by omega)]at this;simp only[Array.getElem_toList];have h6:=hO.neg A[j].1.1 A[i].1.1;omega
     have Q:(sortWorldK enc E.size w h.1 (h.2+pre.length) n A os).heap[h.1]? = some (.cells (Go.Sort.putCells id (h.2+pre.length) (Go.Sort.flatK enc E.size A) cs) ty (0,0)):=I8 S;have R:(Go.Sort.putCells id (h.2+pre.length) (Go.Sort.flatK enc E.size A) cs).size=cs.size:=by simp[Go.Sort.putCells]
     refine⟨.tuple #[],he,⟨rfl,rfl,rfl,rH,fun k hk hn=>Aa hk (fun e=>hn ⟨h,rfl,e⟩)⟩,⟨rfl,rfl,⟨rfl,rfl⟩,fun g' T =>?_,?_⟩,.tup [] [] rfl (fun j x o=>by simp at o)⟩
     ·cases T;simp[World.shape?,Q,S,R]
     ·refine⟨_,Q,?_,fun j d o =>?_⟩
      ·simp only[aky,bT,qf,R];exact h2
      ·have W:j<pre.length+(l.length*E.size+post.length):=by
        have:=(ajZ.1 o).1;simpa [bT,qf] using this
       show _∧RP _ (fun b=>M b∨wW (some h) b) d _;rw[U,I4 (by omega),ak]
       by_cases aA:pre.length<=j∧j<pre.length+l.length*E.size
       ·rw[if_pos (by omega)];have e1:h.2+j-(h.2+pre.length)=j-pre.length:=by omega
        rw[e1];have hq:(j-pre.length) / E.size<l.length:=Nat.div_lt_of_lt_mul (by grind);have O:(j-pre.length) % E.size<E.size:=akk _ hk;have aj:(j-pre.length) / E.size*E.size+(j-pre.length) % E.size=j-pre.length:=by rw[Nat.mul_comm];exact Nat.div_add_mod _ _
        rw[ako aA.1,akm (by rw[bT,qf];omega),<- aj,<- ay,Vt E (x:=(A[(j-pre.length) / E.size]!).1.1) (by
         rw[ajw,ajL (by simp_all),getElem!_pos A _ (by omega)];simp) O]at o
        obtain⟨p1,p2⟩:=(A[(j-pre.length) / E.size]!).2.2 _ _ o;refine⟨p1,z ?_⟩;have e2:(enc A[(j-pre.length) / E.size]!)[(j-pre.length) % E.size]! = (A[(j-pre.length) / E.size]!).1.2.getD ((j-pre.length) % E.size) undef:=by
         rw[getElem!_pos _ _ (by simp_all)];simp only[aj7];rw[ajL (by grind)];rfl
        simp_all
       ·rw[if_neg (by omega)];have aH:(pre++(av E l++post))[j]? = some d:=by
         by_cases aI:j<pre.length
         ·grind
         ·rw[ako (by omega),ako (by rw[bT,qf];omega),bT,qf]at o;rw[ako (by omega),ako (by rw[bT];omega),bT];exact o
        grind
  simp_all
end Go.Proofs.YtobnihfgnbnncaaGreat.Am
namespace Go.Proofs.YtobnihfgnbnncaaGreat.P
def lq {α:Type} (f g:α->Int) (x y:α):Int:=if Go.Lib.compareInt (f x) (f y)≠0 then Go.Lib.compareInt (f x) (f y) else Go.Lib.compareInt (g x) (g y)
def Dt {α:Type} {f g:α->Int} {x y:α} : lq f g x y<0↔f x<f y∨(f x=f y∧g x<g y):=by
 unfold lq Go.Lib.compareInt;omega
def Du {α:Type} {f g:α->Int} {x y:α} : 0<lq f g x y↔f y<f x∨(f x=f y∧g y<g x):=by
 unfold lq Go.Lib.compareInt;omega
def yJ {α:Type} {f g:α->Int} {x y:α} : lq f g x y<=0↔f x<f y∨(f x=f y∧g x<=g y):=by
 have a:=@Dt α f g x y;have b:=@Du α f g x y;omega
def Uk {α:Type} {f g:α->Int} {x y:α} : lq f g x y=0↔f x=f y∧g x=g y:=by
 have a:=@Dt α f g x y;have b:=@Du α f g x y;omega
def vC {α:Type} (f g:α->Int):WO (lq f g) where
 total x y:=by rw[yJ,yJ];omega
 neg x y:=by rw[Dt,Du];omega
 trans x y z h1 h2:=by rw[yJ]at *;omega
end Go.Proofs.YtobnihfgnbnncaaGreat.P
namespace Go.Proofs.YtobnihfgnbnncaaGreat.Am
open Go.RowKit Go.Lib Go.Sort Go.Shelf Go.Proofs.YtobnihfgnbnncaaGreat.P
def adJ (x:Int) (w:World):Calls prog 153 #[.int .i64 x] w fun e w'=>e=.returned (.bool false)∧w'=w:=by
 go_enter func153,ntmps153
 go_wp2
 go_ret
 exact⟨by simp,rfl⟩
def OS (x y:Int) (w:World):Calls prog 110 #[.int .i64 x,.int .i64 y] w fun e w'=>e=.returned (.int .i64 (Lib.compareInt x y))∧w'=w:=by
 go_enter func110,ntmps110
 go_wp2_with (go_at_call 153;refine (adJ _ _).mono ?_;rintro e w' ⟨rfl,hw⟩;rw[hw])
 all_goals (go_ret;refine⟨?_,rfl⟩;unfold Lib.compareInt;(repeat' split)<;>first|rfl|(exfalso;omega))
def afU (b off cap:Nat) (x y r:Int) (hr:r=if x≠0 then x else y) (w:World) (h0:w.cell? ⟨b,off,none⟩=some (.int .i64 x)) (h1:w.cell? ⟨b,off+1,none⟩=some (.int .i64 y)):Calls prog 115 #[.slice (some ⟨b,off,none⟩) 2 cap] w fun e w'=>e=.returned (.int .i64 r)∧w'=w:=by
 go_enter func115,ntmps115
 go_wp2
 refine wp_loop_rounds 3 ?_;repeat any_goals (rw[rounds_succ];go_wp2)
 all_goals (go_ret;refine⟨?_,rfl⟩;subst hr;simp_all)
def Ik (W:World) (A B:Obj) (q:Nat):({ ((W.alloc A).alloc B) with drawn:=q } : World).heap[W.heap.size]? = some A∧({ ((W.alloc A).alloc B) with drawn:=q } : World).heap[W.heap.size+1]? = some B:=by
 constructor
 ·show ((W.heap.push A).push B)[W.heap.size]? = some A;grind
 ·show ((W.heap.push A).push B)[W.heap.size+1]? = some B;grind
def ZI (w:World) (x y:Value) (t:TypeId):(w.alloc (.cells #[x,y] t)).cell? ⟨w.heap.size,0,none⟩=some x∧(w.alloc (.cells #[x,y] t)).cell? ⟨w.heap.size,0+1,none⟩=some y:=by
 simp_all
def acC (W:World) (A B:Obj):({ ((W.alloc A).alloc B) with drawn:=((W.alloc A).alloc B).drawn+1 } : World)=grow (W.drewN 1) #[A,B]:=by
 rw[alloc_eq_grow,alloc_eq_grow,grow_grow];rfl
def Rw {P:Program} {id:Nat} {Q:Exit->Act->World->Prop} {a:Act} {w b:World} {l:List Oper} (n:Nat) (d:b = { w with drawn:=w.drawn+1 }) (e:P.follows .mixedOrders=true) (f:Region.lexTailB .any l.toArray n=true)
  (h:wpStill P l.toArray b (fun g=>wpList P l.toArray Q (l.drop n) g b) (l.take n) a):(Code.region id l.toArray true).wp P Q a w:=by
 subst d;exact wp_region_still_tail n e f h
set_option maxRecDepth 100000 in
def Oc (f1 t1 f2 t2:Int) (a b c d a' b' c' d':Value) (W:World) (h1:∀v∈[a,b,c,d],v.oneCell'=true) (h2:∀v∈[a',b',c',d'],v.oneCell'=true) :
  Calls prog 67 #[.agg #[.int .i64 f1,.int .i64 t1,a,b,c,d],.agg #[.int .i64 f2,.int .i64 t2,a',b',c',d']] W fun e w'=>e=.returned (.int .i64 (if Lib.compareInt f1 f2≠0 then Lib.compareInt f1 f2 else Lib.compareInt t1 t2))∧∃q os',w'=grow (W.drewN q) os':=by
 have hcon:=fun x y W'=>OS x y W';have hor:=fun b off cap x y r hr W' h0 h1=>afU b off cap x y r hr W' h0 h1;generalize hr:(if Lib.compareInt f1 f2≠0 then Lib.compareInt f1 f2 else Lib.compareInt t1 t2)=r;obtain⟨w1,hw1⟩:∃w1:World,w1 = { ((W.alloc (Obj.cells #[.int .i64 f1,.int .i64 t1,a,b,c,d] 118)).alloc (Obj.cells #[.int .i64 f2,.int .i64 t2,a',b',c',d'] 118)) with drawn:=((W.alloc (Obj.cells #[.int .i64 f1,.int .i64 t1,a,b,c,d] 118)).alloc (Obj.cells #[.int .i64 f2,.int .i64 t2,a',b',c',d'] 118)).drawn+1 }:=⟨_,rfl⟩;have hg:∃q os,w1=grow (W.drewN q) os:=⟨_,_,hw1.trans (acC _ _ _)⟩;have hA:w1.heap[W.heap.size]? = some (Obj.cells #[.int .i64 f1,.int .i64 t1,a,b,c,d] 118):=by rw[hw1];exact (Ik _ _ _ _).1
 have hB:w1.heap[W.heap.size+1]? = some (Obj.cells #[.int .i64 f2,.int .i64 t2,a',b',c',d'] 118):=by rw[hw1];exact (Ik _ _ _ _).2
 have c1:w1.cell? ⟨W.heap.size,0,none⟩=some (.int .i64 f1):=bg hA (j:=0) (by simp);have c2:w1.cell? ⟨W.heap.size,1,none⟩=some (.int .i64 t1):=bg hA (j:=1) (by simp);have c3:w1.cell? ⟨W.heap.size+1,0,none⟩=some (.int .i64 f2):=bg hB (j:=0) (by simp);have c4:w1.cell? ⟨W.heap.size+1,1,none⟩=some (.int .i64 t2):=bg hB (j:=1) (by simp);clear hA hB
 go_enter func67,ntmps67
 go_wp2
 refine Rw 10 hw1 (by kernel_rfl) (by kernel_rfl) ?_;clear hw1;simp only[List.take_succ_cons,List.take_zero,alj,akO]
 iterate 4 still_step
 still_call (hcon _ _ _)
 iterate 4 still_step
 still_call (hcon _ _ _)
 apply wpStill_nil;generalize Lib.compareInt f1 f2=r1 at *;generalize Lib.compareInt t1 t2=r2 at *
 go_wp2_with (go_at_call 115;refine (hor _ _ _ _ _ _ hr.symm _ (ZI _ _ _ _).1 (ZI _ _ _ _).2).mono ?_;rintro e w' ⟨rfl,rfl⟩)
 go_ret
 obtain⟨q,os,hq⟩:=hg;exact⟨rfl,q,_,by rw[hq,alloc_eq_grow,grow_grow]⟩
def ab2 {α:Type} {E:jb α} (m:E.size=6) {f g:α->Int} (q:∀x,(E.cells x)[0]? = some (.int .i64 (f x))) (r:∀x,(E.cells x)[1]? = some (.int .i64 (g x))) {w:World} {M:Nat->Prop} {x:α} {k:List Value} (h:IsV E w M x k) :
  ∃a b c d,k=[.int .i64 (f x),.int .i64 (g x),a,b,c,d]∧∀v∈[a,b,c,d],v.oneCell'=true:=by
 obtain⟨n,l⟩:=h;rw[m]at n
 match k,n with
 | [a0,o,a2,a3,a4,a5],_ =>
  have s:a0=.int .i64 (f x):=by
   have:=(l 0 _ (q x)).2;simp at this;cases this;rfl
  have t:o=.int .i64 (g x):=by
   have:=(l 1 _ (r x)).2;simp at this;cases this;rfl
  have i:=E.len x;rw[m]at i;have e:∀j,j<6->([a0,o,a2,a3,a4,a5].getD j undef).oneCell'=true:=fun j z=>by
   obtain⟨u,y⟩:=l j _ (ajL (by omega));exact y.so u
  subst s t;refine⟨a2,a3,a4,a5,rfl,fun v p =>?_⟩;simp only[ajF,akY,or_false]at p;rcases p with rfl|rfl|rfl|rfl
  ·exact e 2 (by decide)
  ·exact e 3 (by decide)
  ·exact e 4 (by decide)
  ·exact e 5 (by decide)
def Xt {α:Type} {E:jb α} (e:E.size=6) {f g:α->Int} (h:∀x,(E.cells x)[0]? = some (.int .i64 (f x))) (i:∀x,(E.cells x)[1]? = some (.int .i64 (g x))):agE prog 67 true E (lq f g):=by
 intro w M x y r s t j k;obtain⟨a,b,c,d,rfl,p⟩:=ab2 e h i j;obtain⟨l,m,n,o,rfl,q⟩:=ab2 e h i k;exact Oc _ _ _ _ a b c d l m n o w p q
def YE {P:Program} {ρ:Go.Shelf.Ren} (L:SlLaysF0.n6 P ρ) {k g:Nat} (l:∀w,(isAgg (ρ.t 24)).run P w=.ok true w) (n:∀w,(Go.sizeOf (ρ.t 24)).run P w=.ok k w) (o:∀a w,(callFunc g a).run P w=.ok (.enter g a) w):aeu P (ρ.f 6) g true k :=
 fun β p enc q r s t e f h d w b u c i=>AnyQ.slices_SortFunc L k l n enc r s q t g #[] e f h d w o (fun m v z j x y=>by simpa [ZK] using b m v z j x y) u c i
def M9 {α:Type} {E:jb α} (b:E.size=6) {f g:α->Int} (c:∀x,(E.cells x)[0]? = some (.int .i64 (f x))) (d:∀x,(E.cells x)[1]? = some (.int .i64 (g x))) (e:Nat) :
  cr prog 66 (mkW e E (dN (NX 67)) (fun l (_:Unit)=>En (lq f g) l) (fun _:Unit =>.clean (.tup []))) :=
 aca (F:=En (lq f g)) func66 ⟨rfl,rfl⟩ (fun _=>rfl) (fun p a w=>AnyF.slices_SortFunc_none Tryz.acb p a _ w) (vC f g) (Xt b c d)
  (by rw[b];exact YE Tryz.acb isAgg118 sizeOf118 (enters_of func67 (by kernel_rfl) rfl))
end Go.Proofs.YtobnihfgnbnncaaGreat.Am
namespace Go.Proofs.YtobnihfgnbnncaaGreat.Am
open Go.RowKit Go.Proofs.YtobnihfgnbnncaaGreat.P
def nF:Nat->Code->Code
 | 0,.seq a _=>a
 | k+1,.seq a b =>.seq a (nF k b)
 | _,c=>c
def Dr:Nat->Code->Code
 | 0,.seq _ b=>b
 | k+1,.seq _ b=>Dr k b
 | _,_ =>.skip
def spine:Nat->Code->Bool
 | 0,.seq _ _=>true
 | k+1,.seq _ b=>spine k b
 | _,_=>false
def ZS (a:Func):Code:=match a.body with|some c=>c|none =>.skip
def MC (a b:Code):nF 0 (.seq a b)=a:=rfl
def MB (k:Nat) (a b:Code):nF (k+1) (.seq a b)=.seq a (nF k b):=rfl
section
variable {P:Program} {T:Nat->Option Ty} {N:Nat} {M:Nat->Prop} {L:kZ} {w0:World} {Γ:Env}
def D8 (l:jN P T) (m:bY P Γ) (o:P.follows .mixedOrders=true) {F:Nat} {Q:Exit->Act->World->Prop} : ∀(k:Nat) (c:Code) (s:St) (x:Ex) (i:St) (a:Act) (w:World),spine k c=true->il T Γ N F (nF k c) s=some (x,i)->codeOk (nF k c)=true->Holds N M L w0 s a w ->
  (x=.normal->∀e f,Holds N M L w0 i e f->(Dr k c).wp P Q e f)->(x ≠ .normal->∀e f,Holds N M L w0 i e f->Q (Gn x) e f)->c.wp P Q a w
 | 0,.seq b c,s,x,i,a,w,_,j,g,hH,h1,h2=>by
  refine wp_seq (kl l m o b s x i _ a w j g hH fun e f d =>?_);cases x with
  | normal=>exact h1 rfl e f d
  | exit n=>exact h2 (by intro h;cases h) e f d
  | ret=>exact h2 (by intro h;cases h) e f d
 | k+1,.seq b c,s,x,i,a,w,hs,j,g,hH,h1,h2=>by
  simp only[nF,codeOk,aj6]at g;simp only[nF,il,agw]at j;apply wp_seq;split at j
  ·rename_i q p;exact kl l m o b s .normal q _ a w p g.1 hH fun e f d=>D8 l m o k c q x i e f hs j g.2 d h1 h2
  ·rename_i r t;refine kl l m o b s x i _ a w j g.1 hH fun e f d =>?_;cases x with
   | normal=>simp_all
   | exit n=>exact h2 (by intro h;cases h) e f d
   | ret=>exact h2 (by intro h;cases h) e f d
end
def As (T:Nat->Option Ty) (rs:List ResultVar) (r:RK×Option Row) (J:(Nat->D)->(Nat->Option Row)->Nat->Prop):Kt:=fun x t h e =>
 match x with
 | .normal=>J t h e
 | .ret=>gu .clean T none rs ⟨t,EH h,e⟩=some r
 | .exit _=>False
section
variable {T:Nat->Option Ty} {Γ:Env} {n F k:Nat} {rs:List ResultVar} {r:RK×Option Row} {J:(Nat->D)->(Nat->Option Row)->Nat->Prop} {t:Nat->D} {h:Nat->Option Row} {e:Nat}
def IJ:As T rs r J .normal t h e=J t h e:=amh
def Gs:As T rs r J .ret t h e=(gu .clean T none rs ⟨t,EH h,e⟩=some r):=amh
def UA (T:Nat->Option Ty) (Γ:Env) (F k:Nat) (b:Func) (a:List D) (K:Kt):Prop:=∃c,b.body=some c∧∃x s,il T Γ b.ntmps F (nF k c) (cG none a)=some (x,s)∧K x s.t s.h s.e
def Y0 {b:Func} {c:Code} {a:List D} (d:b.body=some c) (e:b.ntmps=n) (h:b.results=rs.toArray) (f:dM T Γ n F [.code (nF k c)] (As T rs r J) .normal (Bg a) K5 0):UA T Γ F k b a (As T b.results.toList r J):=by
 obtain⟨x,s,g,i⟩:=Dy _ _ _ _ _ (show NR T Γ n F (nF k c) (Bg a) K5 0 (As T rs r J) from f);refine⟨c,d,x,s,?_,?_⟩
 ·rw[e];exact g
 simp_all
end
section
variable {P:Program} {T:Nat->Option Ty} {Γ:Env}
def Sa {n:Nat} {a:List D} {w:World} {M:Nat->Prop} {f:Array Value} (m:∀b,M b->b<w.heap.size) (c:A9 w M a f) (z:a.length<=n) (h:n<=PK):Holds n M none w (cG none a) { tmps:=f++Array.replicate (n-f.size) undef,defers:=[] } w:=by
 have o:Inv n M none w (fun _=>none) (fun x v=>x<n∧v<0) (cG none a).t (cG none a).h { tmps:=f++Array.replicate (n-f.size) undef,defers:=[] } w:={
  tab:=fun b d=>(c.tab b d).less fun b d=>by
   rcases d with d|⟨x,r,g,e,_⟩
   ·exact d
   ·cases e
  below:=eK.refl _ _
  mlt:=m
  lent:=fun b d=>absurd d tX
  pin:=fun A p=>by cases p
  defers:=rfl
  tsz:=by have:=c.1;simp;omega
  slots:=fun i=>by
   simp only[cG];rcases yH (n:=n) (i:=i) c.1 with he|he
   ·rw[he]
    by_cases q:i<a.length
    ·have t:=c.2 i _ (ajL q);have j:a.getD i .und=a[i]:=by simp_all
     rw[j];exact bZ (t.less fun b d=>by
      rcases d with d|⟨x,r,g,e,_⟩
      ·exact d
      ·cases e)
    ·have j:a.getD i .und=.und:=by simp_all
     rw[j];trivial
   ·rw[he];trivial
  rows:=fun x r e=>by cases e
  inj:=fun x y r s g B e=>by cases e
  big:=h
  pha:=fun y r g l=>by cases l
  ali:=fun y r g l=>by cases l }
 exact⟨_,⟨(by rw[Fh (fun k r u=>by cases u)];exact o.weaken fun x v e=>absurd e.2 (Nat.not_lt_zero _)),fun x r C s E F e=>by cases e⟩⟩
def Kh (q:jN P T) {e:Func} {M:Nat->Prop} {w d:World} {s:St} {a':Act} {n:RK} (r:Holds e.ntmps M none w s a' d) (c:gu .clean T none e.results.toList ⟨s.t,EH s.h,s.e⟩=some (n,none)) :
  a'.defers=[]∧∃v,(results e a'.tmps).run P d=.ok v d∧(∃p,Ending.returned v=.returned p∧Below w.heap.size w d∧xC w d M (fun _=>False) p n):=by
 obtain⟨f,k⟩:=r;obtain⟨j,g⟩:∃j:St,j=⟨s.t,EH s.h,s.e⟩:=⟨_,rfl⟩;have a:Inv e.ntmps M none w f (VE e.ntmps s.e [] s.h) j.t j.h a' d:=by rw[g];exact k.inv
 rw[<- g]at c;have h:Below w.heap.size w d:=a.below.below (fun b t=>absurd t tX);refine⟨a.defers,?_⟩;simp only[gu,s9,nI]at c;split at c<;>try (cases c;done)
 rename_i u fr o i x;split at c<;>try (cases c;done)
 simp only[ajH,Prod.mk.injEq]at c;obtain⟨rfl,_⟩:=c;obtain⟨v,l,m⟩:=uw (P:=P) q a i (a.aeW fr);exact⟨v,l,v,rfl,h,m⟩
def N6 (P:Program) (b:Func) (c:Code) (f:RK) (J:(Nat->D)->(Nat->Option Row)->Nat->Prop):Prop:=∀(w0:World) (M:Nat->Prop) (s:St) (a:Act) (w:World),J s.t s.h s.e->Holds b.ntmps M none w0 s a w ->
 c.wp P (bodyPost P b fun e d=>∃v,e=.returned v∧Below w0.heap.size w0 d∧xC w0 d M (fun _=>False) v f) a w
def cr.front (m:jN P T) (u:bY P Γ) (v:P.follows .mixedOrders=true) {α β:Type} {A:km α} {F:α->Option β} {R:β->RK} {f:FuncId} {b:Func} {c:Code} {k:Nat} {J:β->(Nat->D)->(Nat->Option Row)->Nat->Prop} (o:P.funcs[f]? = some b) (p:b.body=some c) (d:(codeOk (nF k c)&&spine k c)=true)
  (y:(b.name == "runtime.NumGoroutine")=false∧b.body.isNone=false) (z:∀a,(A.ds a).length<=b.ntmps) (i:b.ntmps<=1000000) (h:∀a r,F a=some r->UA T Γ FU k b (A.ds a) (As T b.results.toList (R r,none) (J r))) (B:∀r,N6 P b (Dr k c) (R r) (J r)):cr P f (er A F R) where
 calls lent K rk out C:=by
  obtain⟨rfl,rfl,a,r,rfl,E,rfl⟩:=vr C;rw[aj6]at d;intro w M L G e;obtain⟨N,g,x,s,H,j⟩:=h a r E;rw[p]at g;cases g;apply calls_of_wp o p;refine D8 m u v k c (cG none (A.ds a)) x s _ _ d.2 H d.1 (Sa G e (z a) (by rw[dx];exact i)) ?_ ?_
  ·rintro rfl q t l;exact B r w M s q t j l
  ·intro I q t l;cases x with
   | normal=>exact absurd rfl I
   | exit n=>exact j.elim
   | ret=>exact Kh m l j
 callable:=⟨b,o,y⟩
end
end Go.Proofs.YtobnihfgnbnncaaGreat.Am
namespace Go.Proofs.YtobnihfgnbnncaaGreat.P
open Go.RowKit
structure aK where
 ax:Int
 aa:(List Int)
structure an where
 bL:aK
 bQ:aK
structure rU where
 aY:Int
 aR:Int
 aQ:Int
 Mz:ByteArray
structure gC where
 bJ:Int
 aQ:Int
structure ib where
 aY:Int
 aR:Int
 aQ:Int
structure fa where
 aw:(List ib)
 aF:(List rU)
 aN:(List (List an))
structure bj where
 au:fa
 bc:(List gC)
 aA:(List Int)
structure aX where
 al:(List Int)
 ah:(List bj)
structure cA where
 dh:Int
 kF:Int
 gp:an
structure gY where
 aA:Int
 bk:(List cA)
structure fR where
 p8:Int
 je:an
structure aH where
 bK:an
 cF:(List fR)
def qM (b:(List Int)):Bd (Int) ((Int))
 | a =>
  if decide (a>0) then
   (P.idx b (IntKind.i64.wrap (a-1))).bind fun c =>
   if (c==0) then
    some (.inl (IntKind.i64.wrap (a-1)))
   else
    some (.inr a)
  else
   some (.inr a)
def fD (b:(List Int)):Option ((List Int)) :=
 (aS (qM b) (b.length:Int)).bind fun a =>
 (Fa b 0 a).bind fun c =>
 some c
def ec (b:Int) (c:(List Int)):Option (aK) :=
 (fD c).bind fun a =>
 if ((a.length:Int)==0) then
  some (aK.mk 0 ([]))
 else
  some (aK.mk b a)
def y9:Bd (Int×(List Int)) (((List Int)))
 | (a,b) =>
  if decide (a>0) then
   (pE 8 b [IntKind.i64.wrap (mX .and .u64 a 1048575)]).bind fun d =>
   (AY .u64 a 20).bind fun c =>
   some (.inl (c,d))
  else
   some (.inr b)
def vX (d:Int):Option (aK) :=
 (if decide (d<0) then
  some ((-1),IntKind.u64.wrap (0-(IntKind.u64.wrap d)))
 else
  some (1,IntKind.u64.wrap d)).bind fun q=>match q with
 | (a,b) =>
  (aS (y9) (b,[])).bind fun c =>
  (ec a c).bind fun e =>
  some e
def rZ (b:aK):Bd (Int) ((Unit)⊕(Bool))
 | a =>
  if decide (a<(b.aa.length:Int)) then
   (P.idx b.aa a).bind fun c =>
   if decide (c<0) then
    some (.inr (.inr false))
   else
    if decide (c>1048575) then
     some (.inr (.inr false))
    else
     some (.inl (IntKind.i64.wrap (a+1)))
  else
   some (.inr (.inl ()))
def dF (a:aK):Option (Bool) :=
 (aS (rZ a) 0).bind fun q=>match q with
 | (.inl _) =>
  if ((a.aa.length:Int)==0) then
   some (a.ax==0)
  else
   if (a.ax==1) then
    (P.idx a.aa (IntKind.i64.wrap ((a.aa.length:Int)-1))).bind fun b =>
    some (b != 0)
   else
    if (a.ax==(-1)) then
     (P.idx a.aa (IntKind.i64.wrap ((a.aa.length:Int)-1))).bind fun c =>
     some (c != 0)
    else
     some false
 | (.inr d) =>
  some d
def cc (a:(List Int)):Option (List Int):=pE 8 [] a
def rY (a:aK):Option (aK) :=
 (dF a).bind fun b =>
 if (!b) then
  some (aK.mk 0 ([]))
 else
  (cc a.aa).bind fun c =>
  (ec (IntKind.i64.wrap (0-a.ax)) c).bind fun d =>
  some d
def fC (a:Bool) (b:aK):Option (aK×Int) :=
 if (!a) then
  some ((aK.mk 0 ([])),1)
 else
  some (b,0)
def sw (a:Int):Option (Bool) :=
 some (a != a)
def gT (a:Int) (p1:Int):Option (Int) :=
 (sw a).bind fun c =>
 (sw p1).bind fun b =>
 if c then
  if b then
   some 0
  else
   some (-1)
 else
  if b then
   some 1
  else
   if decide (a<p1) then
    some (-1)
   else
    if decide (a>p1) then
     some 1
    else
     some 0
def oR (e:(List Int)) (f:(List Int)):Bd (Int) ((Unit)⊕(Int))
 | a =>
  if decide (a>=0) then
   (P.idx e a).bind fun b =>
   (P.idx f a).bind fun c =>
   if (b != c) then
    (gT b c).bind fun d =>
    some (.inr (.inr d))
   else
    some (.inl (IntKind.i64.wrap (a-1)))
  else
   some (.inr (.inl ()))
def iz (a:(List Int)) (b:(List Int)):Option (Int) :=
 if ((a.length:Int) != (b.length:Int)) then
  (gT (a.length:Int) (b.length:Int)).bind fun c =>
  some c
 else
  (aS (oR a b) (IntKind.i64.wrap ((a.length:Int)-1))).bind fun q=>match q with
  | (.inl _) =>
   some 0
  | (.inr d) =>
   some d
def sb (i:(List Int)) (h:Int):Bd (Int×Int×(List Int)) ((Int×(List Int)))
 | (c,a,b) =>
  if decide (a>=0) then
   (I7 .i64 c 20).bind fun d =>
   (P.idx i a).bind fun e =>
   (XB .i64 (mX .or .i64 d e) h).bind fun f =>
   (P.idx b a).bind fun j =>
   (Yk .i64 (mX .or .i64 d e) h).bind fun g =>
   some (.inl (g,IntKind.i64.wrap (a-1),(b.set (a).toNat f)))
  else
   some (.inr (c,b))
def pV (c:(List Int)) (e:Int):Option ((List Int)×Int) :=
 (Iv 8 (c.length:Int) (c.length:Int) 0).bind fun f =>
 (aS (sb c e) (0,IntKind.i64.wrap ((c.length:Int)-1),f)).bind fun q=>match q with
 | (a,b) =>
  (fD b).bind fun d =>
  some (d,a)
def wb (i:(List Int)) (b:Int) (e:Int):Bd (Int×Int×(List Int)) ((Int×(List Int)))
 | (c,a,d) =>
  if decide (a<(i.length:Int)) then
   (P.idx i a).bind fun f =>
   (P.idx d (IntKind.i64.wrap (b+a))).bind fun g =>
   (AY .i64 (IntKind.i64.wrap ((IntKind.i64.wrap (g+(IntKind.i64.wrap (e*f))))+c)) 20).bind fun h =>
   some (.inl (h,IntKind.i64.wrap (a+1),(d.set (IntKind.i64.wrap (b+a)).toNat (mX .and .i64 (IntKind.i64.wrap ((IntKind.i64.wrap (g+(IntKind.i64.wrap (e*f))))+c)) 1048575))))
  else
   some (.inr (c,d))
def wa (h:(List Int)) (e:(List Int)):Bd (Int×(List Int)) (((List Int)))
 | (a,c) =>
  if decide (a<(h.length:Int)) then
   (P.idx h a).bind fun f =>
   (aS (wb e a f) (0,0,c)).bind fun q=>match q with
   | (d,b) =>
    (P.idx b (IntKind.i64.wrap (a+(e.length:Int)))).bind fun g =>
    some (.inl (IntKind.i64.wrap (a+1),(b.set (IntKind.i64.wrap (a+(e.length:Int))).toNat (IntKind.i64.wrap (g+d)))))
  else
   some (.inr c)
def sa (b:(List Int)) (c:(List Int)):Option ((List Int)) :=
 (Iv 8 (IntKind.i64.wrap ((b.length:Int)+(c.length:Int))) (IntKind.i64.wrap ((b.length:Int)+(c.length:Int))) 0).bind fun e =>
 (aS (wa b c) (0,e)).bind fun a =>
 (fD a).bind fun d =>
 some d
def nC (i:(List Int)) (h:(List Int)) (j:Int):Bd (Int×Int×(List Int)) ((Int×(List Int)))
 | (c,a,d) =>
  if decide (a<((i).length:Int)) then
   (P.idx d a).bind fun e =>
   (if decide (a<(h.length:Int)) then
    (P.idx h a).bind fun f =>
    some (IntKind.i64.wrap ((IntKind.i64.wrap (e-c))-(IntKind.i64.wrap (j*f))))
   else
    some (IntKind.i64.wrap (e-c))).bind fun b =>
   (AY .i64 b 20).bind fun g =>
   some (.inl (IntKind.i64.wrap (0-g),IntKind.i64.wrap (a+1),(d.set (a).toNat (mX .and .i64 b 1048575))))
  else
   some (.inr (c,d))
def nD (i:(List Int)) (e:(List Int)):Bd (Int×Int×(List Int)) (((List Int)))
 | (c,a,d) =>
  if decide (a<((e).length:Int)) then
   (P.idx d a).bind fun f =>
   (if decide (a<(i.length:Int)) then
    (P.idx i a).bind fun g =>
    some (IntKind.i64.wrap ((IntKind.i64.wrap (c+f))+g))
   else
    some (IntKind.i64.wrap (c+f))).bind fun b =>
   (AY .i64 b 20).bind fun h =>
   some (.inl (h,IntKind.i64.wrap (a+1),(d.set (a).toNat (mX .and .i64 b 1048575))))
  else
   some (.inr d)
def sS (e:(List Int)) (f:(List Int)) (d:Int):Option ((List Int)×(Int)) :=
 (aS (nC e f d) (0,0,e)).bind fun q=>match q with
 | (b,a) =>
  if (b==0) then
   some (a,d)
  else
   (aS (nD f a) (0,0,a)).bind fun c =>
   some (c,IntKind.i64.wrap (d-1))
def im (a:(List Int)) (b:(List Int)) (c:Int):Option ((List Int)×(Int)):=(sS a b c).bind fun r=>if r.1.length=a.length then some r else none
def CX {a:(List Int)} {b:(List Int)} {c:Int} {r:(List Int)×(Int)} (h:im a b c=some r):r.1.length=a.length:=by
 unfold im at h;obtain⟨q,d,h⟩:=ae h;split at h
 ·cases h;assumption
 ·cases h
def vZ (c:(List Int)):Bd (Int) ((Int))
 | a =>
  (P.idx c (IntKind.i64.wrap ((c.length:Int)-1))).bind fun b =>
  if decide ((IntKind.i64.wrap (b*a))<524288) then
   some (.inl (IntKind.i64.wrap (a*2)))
  else
   some (.inr a)
def v8 (d:(List Int)) (e:Int) (f:(List Int)) (g:Int):Bd (Int×Int) ((Int))
 | (a,b) =>
  (if decide (a>=1048576) then
   some true
  else
   if decide (b<1048576) then
    (P.idx d (IntKind.i64.wrap (((d).length:Int)-2))).bind fun h =>
    (I7 .i64 b 20).bind fun i =>
    (P.idx f (IntKind.i64.wrap ((IntKind.i64.wrap (e+((d).length:Int)))-2))).bind fun j =>
    some (decide ((IntKind.i64.wrap (a*h))>(mX .or .i64 i j)))
   else
    some false).bind fun c =>
  if c then
   some (.inl (IntKind.i64.wrap (a-1),IntKind.i64.wrap (b+g)))
  else
   some (.inr a)
def v7 (b:(List Int)):Bd (Int×(List Int)×(List Int)) (((List Int)×(List Int)))
 | (a,c,d) =>
  if decide (a>=0) then
   (P.idx c (IntKind.i64.wrap (a+((b).length:Int)))).bind fun j =>
   (I7 .i64 j 20).bind fun g =>
   (P.idx c (IntKind.i64.wrap ((IntKind.i64.wrap (a+((b).length:Int)))-1))).bind fun h =>
   (P.idx b (IntKind.i64.wrap (((b).length:Int)-1))).bind fun e =>
   (XB .i64 (mX .or .i64 g h) e).bind fun k =>
   (Yk .i64 (mX .or .i64 g h) e).bind fun l =>
   (aS (v8 b a c e) (k,l)).bind fun f =>
   (Fa c a (IntKind.i64.wrap ((IntKind.i64.wrap (a+((b).length:Int)))+1))).bind fun m =>
   (im m b f).bind fun i =>
   (P.idx d a).bind fun n =>
   some (.inl (IntKind.i64.wrap (a-1),(c.take (a).toNat++(i.1++c.drop (IntKind.i64.wrap ((IntKind.i64.wrap (a+((b).length:Int)))+1)).toNat)),(d.set (a).toNat i.2)))
  else
   some (.inr (c,d))
def vY (f:(List Int)) (g:(List Int)):Option ((List Int)×(List Int)) :=
 (iz f g).bind fun p =>
 if decide (p<0) then
  (cc f).bind fun r =>
  some ([],r)
 else
  if ((g.length:Int)==1) then
   (P.idx g 0).bind fun s =>
   (pV f s).bind fun o =>
   (fD ([o.2])).bind fun t =>
   some (o.1,t)
  else
   (aS (vZ g) 1).bind fun a =>
   (sa f ([a])).bind fun j =>
   (pE 8 j [0]).bind fun c =>
   (sa g ([a])).bind fun d =>
   (if (((c).length:Int)==(f.length:Int)) then
    (pE 8 c [0]).bind fun k =>
    some k
   else
    some c).bind fun b =>
   (Iv 8 (IntKind.i64.wrap (((b).length:Int)-((d).length:Int))) (IntKind.i64.wrap (((b).length:Int)-((d).length:Int))) 0).bind fun h =>
   (aS (v7 d) (IntKind.i64.wrap (((h).length:Int)-1),b,h)).bind fun q=>match q with
   | (i,e) =>
    (fD i).bind fun l =>
    (pV l a).bind fun m =>
    (fD e).bind fun n =>
    some (n,m.1)
def sP:Bd ((List Int)×(List Int)) (((List Int)))
 | (b,a) =>
  if decide ((a.length:Int)>0) then
   (vY b a).bind fun c =>
   some (.inl (a,c.2))
  else
   some (.inr b)
def tY (g:aK) (h:aK):Option (aK×Int) :=
 (dF g).bind fun j =>
 (if (!j) then
  some true
 else
  (dF h).bind fun d =>
  some (!d)).bind fun a =>
 if a then
  (fC false (aK.mk 0 ([]))).bind fun i =>
  some (i.1,i.2)
 else
  (cc g.aa).bind fun k =>
  (aS (sP) (k,h.aa)).bind fun b =>
  (cc b).bind fun e =>
  (ec 1 e).bind fun f =>
  (fC true f).bind fun c =>
  some (c.1,c.2)
def sR (b:(List Int)) (c:(List Int)):Bd (Int×Int×(List Int)) ((Int×(List Int)))
 | (e,a,f) =>
  if decide (a<(b.length:Int)) then
   (P.idx b a).bind fun g =>
   (if decide (a<(c.length:Int)) then
    (P.idx c a).bind fun h =>
    some (IntKind.i64.wrap ((IntKind.i64.wrap (e+g))+h))
   else
    some (IntKind.i64.wrap (e+g))).bind fun d =>
   (P.idx f a).bind fun j =>
   (AY .i64 d 20).bind fun i =>
   some (.inl (i,IntKind.i64.wrap (a+1),(f.set (a).toNat (mX .and .i64 d 1048575))))
  else
   some (.inr (e,f))
def tZ (e:(List Int)) (f:(List Int)):Option ((List Int)) :=
 (if decide ((e.length:Int)<(f.length:Int)) then
  some (f,e)
 else
  some (e,f)).bind fun q=>match q with
 | (a,c) =>
  (Iv 8 (IntKind.i64.wrap ((a.length:Int)+1)) (IntKind.i64.wrap ((a.length:Int)+1)) 0).bind fun h =>
  (aS (sR a c) (0,0,h)).bind fun q=>match q with
  | (d,b) =>
   (P.idx b (a.length:Int)).bind fun i =>
   (fD (b.set ((a.length:Int)).toNat d)).bind fun g =>
   some g
def wc (h:(List Int)) (i:(List Int)):Bd (Int×Int×(List Int)) (((List Int)))
 | (d,a,c) =>
  if decide (a<((i).length:Int)) then
   (P.idx c a).bind fun e =>
   (if decide (a<(h.length:Int)) then
    (P.idx h a).bind fun f =>
    some (IntKind.i64.wrap ((IntKind.i64.wrap (e-d))-f))
   else
    some (IntKind.i64.wrap (e-d))).bind fun b =>
   (AY .i64 b 20).bind fun g =>
   some (.inl (mX .and .i64 g 1,IntKind.i64.wrap (a+1),(c.set (a).toNat (mX .and .i64 b 1048575))))
  else
   some (.inr c)
def ua (d:(List Int)) (e:(List Int)):Option ((List Int)) :=
 (cc d).bind fun c =>
 (aS (wc e c) (0,0,c)).bind fun a =>
 (fD a).bind fun b =>
 some b
def rX (c:aK) (a:aK):Option (aK×aK×Int) :=
 (dF c).bind fun l =>
 (if (!l) then
  some true
 else
  (dF a).bind fun f =>
  some (!f)).bind fun d =>
 if d then
  some ((aK.mk 0 ([])),(aK.mk 0 ([])),1)
 else
  if (a.ax==0) then
   some ((aK.mk 0 ([])),(aK.mk 0 ([])),15)
  else
   (vY c.aa a.aa).bind fun e =>
   (if decide ((IntKind.i64.wrap (c.ax*a.ax))<0) then
    some (decide ((e.2.length:Int)>0))
   else
    some false).bind fun b =>
   if b then
    (tZ e.1 ([1])).bind fun m =>
    (ec (-1) m).bind fun g =>
    (ua a.aa e.2).bind fun h =>
    (ec a.ax h).bind fun i =>
    some (g,i,0)
   else
    (ec (IntKind.i64.wrap (c.ax*a.ax)) e.1).bind fun j =>
    (ec c.ax e.2).bind fun k =>
    some (j,k,0)
def oX (i:aK) (f:aK):Option (an×Int) :=
 (dF i).bind fun l =>
 (if (!l) then
  some true
 else
  (dF f).bind fun j =>
  some (!j)).bind fun e =>
 if e then
  some ((an.mk (aK.mk 0 ([])) (aK.mk 0 ([]))),1)
 else
  if (f.ax==0) then
   some ((an.mk (aK.mk 0 ([])) (aK.mk 0 ([]))),15)
  else
   (if decide (f.ax<0) then
    (rY i).bind fun g =>
    (rY f).bind fun h =>
    some (g.ax,g.aa,h.ax,h.aa)
   else
    some (i.ax,i.aa,f.ax,f.aa)).bind fun q=>match q with
   | (a,b,c,d) =>
    (tY (aK.mk a b) (aK.mk c d)).bind fun k =>
    (rX (aK.mk a b) k.1).bind fun m =>
    (rX (aK.mk c d) k.1).bind fun n =>
    some ((an.mk m.1 n.1),0)
def ue (b:Int) (c:Int):Option (an×Int) :=
 (vX b).bind fun d =>
 (vX c).bind fun e =>
 (oX d e).bind fun a =>
 some (a.1,a.2)
def tq (a:Int) (b:Int):Option (an) :=
 (ue a b).bind fun c =>
 some c.1
def ug:Option (aX×(List (List an))) :=
 (tq 1 1).bind fun b =>
 (tq 1 2).bind fun c =>
 (tq 0 1).bind fun a =>
 (tq 30 1).bind fun d =>
 some ((aX.mk ([10,4]) ([(bj.mk (fa.mk ([(ib.mk 0 0 0),(ib.mk 1 0 0)]) ([(rU.mk 0 0 0 (ByteArray.mk #[])),(rU.mk 2 0 0 (ByteArray.mk #[104,101,97,116]))]) ([[b,c],[a,c]])) ([(gC.mk 1 2)]) ([0])),(bj.mk (fa.mk ([(ib.mk 1 0 0)]) ([(rU.mk 0 0 0 (ByteArray.mk #[]))]) ([[b]])) ([(gC.mk 0 5)]) ([1]))])),[[d,a],[a]])
def fu (a:Int) (b:Int) (c:Int):Option (Bool) :=
 if decide (a>=b) then
  some (decide (a<=c))
 else
  some false
def fY (a:Int):Option (an) :=
 (vX a).bind fun b =>
 (vX 1).bind fun c =>
 some (an.mk b c)
def vW (f:aK):Bd (Int×Int) ((Int)⊕(Int×Bool))
 | (c,a) =>
  if decide (a<(f.aa.length:Int)) then
   (P.idx f.aa a).bind fun d =>
   (if (a==3) then
    some (decide (d>8))
   else
    some false).bind fun b =>
   if b then
    some (.inr (.inr (0,false)))
   else
    (I7 .u64 (IntKind.u64.wrap d) (IntKind.i64.wrap (20*a))).bind fun e =>
    some (.inl (mX .or .u64 c e,IntKind.i64.wrap (a+1)))
  else
   some (.inr (.inl c))
def y7 (d:aK):Option (Int×Bool) :=
 (dF d).bind fun e =>
 (if (!e) then
  some true
 else
  some (decide ((d.aa.length:Int)>4))).bind fun b =>
 if b then
  some (0,false)
 else
  (aS (vW d) (0,0)).bind fun q=>match q with
  | (.inl a) =>
   (if decide (d.ax<0) then
    some (decide (a<=9223372036854775808))
   else
    some false).bind fun c =>
   if c then
    some (IntKind.i64.wrap (IntKind.u64.wrap (0-a)),true)
   else
    if decide (d.ax>=0) then
     if decide (a<9223372036854775808) then
      some (IntKind.i64.wrap a,true)
     else
      some (0,false)
    else
     some (0,false)
  | (.inr f) =>
   some f
def vk (b:aK):Option (Bool) :=
 (y7 b).bind fun a =>
 if a.2 then
  some (a.1==1)
 else
  some false
def cT (b:an):Option (Bool) :=
 (dF b.bL).bind fun d =>
 (if (!d) then
  some true
 else
  (dF b.bQ).bind fun e =>
  if (!e) then
   some true
  else
   some (b.bQ.ax != 1)).bind fun a =>
 if a then
  some false
 else
  (tY b.bL b.bQ).bind fun c =>
  if (c.2==0) then
   (vk c.1).bind fun f =>
   some f
  else
   some false
def gj (a:an):Option (Int) :=
 (cT a).bind fun b =>
 if (!b) then
  some 0
 else
  some a.bL.ax
def y8 (b:aK) (c:aK):Option (aK×Int) :=
 (dF b).bind fun g =>
 (if (!g) then
  some true
 else
  (dF c).bind fun d =>
  some (!d)).bind fun a =>
 if a then
  (fC false (aK.mk 0 ([]))).bind fun e =>
  some (e.1,e.2)
 else
  (sa b.aa c.aa).bind fun h =>
  (ec (IntKind.i64.wrap (b.ax*c.ax)) h).bind fun i =>
  (fC true i).bind fun f =>
  some (f.1,f.2)
def cU (a:aK) (b:aK):Option (aK) :=
 (y8 a b).bind fun c =>
 some c.1
def zc (b:(List Int)):Bd (Int) ((Unit)⊕(Int))
 | a =>
  if decide (a<(b.length:Int)) then
   (P.idx b a).bind fun c =>
   if (c != 0) then
    some (.inr (.inr c))
   else
    some (.inl (IntKind.i64.wrap (a+1)))
  else
   some (.inr (.inl ()))
def xO (a:(List Int)):Option (Int) :=
 (aS (zc a) 0).bind fun q=>match q with
 | (.inl _) =>
  some 0
 | (.inr b) =>
  some b
def y6 (a:aK) (b:aK):Option (aK×Int) :=
 (dF a).bind fun o =>
 (if (!o) then
  some true
 else
  (dF b).bind fun g =>
  some (!g)).bind fun c =>
 if c then
  (fC false (aK.mk 0 ([]))).bind fun n =>
  some (n.1,n.2)
 else
  if decide ((IntKind.i64.wrap (a.ax*b.ax))>=0) then
   (xO ([a.ax,b.ax])).bind fun p =>
   (tZ a.aa b.aa).bind fun q =>
   (ec p q).bind fun h =>
   (fC true h).bind fun d =>
   some (d.1,d.2)
  else
   (iz a.aa b.aa).bind fun i =>
   if decide (i<0) then
    (ua b.aa a.aa).bind fun j =>
    (ec b.ax j).bind fun k =>
    (fC true k).bind fun e =>
    some (e.1,e.2)
   else
    (ua a.aa b.aa).bind fun l =>
    (ec a.ax l).bind fun m =>
    (fC true m).bind fun f =>
    some (f.1,f.2)
def ik (b:an) (c:an):Option (an×Int) :=
 (cT b).bind fun f =>
 (if (!f) then
  some true
 else
  (cT c).bind fun d =>
  some (!d)).bind fun a =>
 if a then
  some ((an.mk (aK.mk 0 ([])) (aK.mk 0 ([]))),1)
 else
  (cU b.bL c.bQ).bind fun g =>
  (cU c.bL b.bQ).bind fun h =>
  (y6 g h).bind fun i =>
  (cU b.bQ c.bQ).bind fun j =>
  (oX i.1 j).bind fun e =>
  some (e.1,e.2)
def sk (a:an) (b:an):Option (an) :=
 (ik a b).bind fun c =>
 some c.1
def oc (b:aK) (c:aK):Option (Int) :=
 (dF b).bind fun d =>
 (if (!d) then
  some true
 else
  (dF c).bind fun e =>
  some (!e)).bind fun a =>
 if a then
  some 0
 else
  if (b.ax != c.ax) then
   (gT b.ax c.ax).bind fun f =>
   some f
  else
   (iz b.aa c.aa).bind fun g =>
   some (IntKind.i64.wrap (b.ax*g))
def jv (b:an) (c:an):Option (Int) :=
 (cT b).bind fun d =>
 (if (!d) then
  some true
 else
  (cT c).bind fun e =>
  some (!e)).bind fun a =>
 if a then
  some 0
 else
  (cU b.bL c.bQ).bind fun f =>
  (cU c.bL b.bQ).bind fun g =>
  (oc f g).bind fun h =>
  some h
def sn (j:(List an)):Bd (Int×Int×(List Int)×Int×(List Int)) ((Int×(List Int)×Int×(List Int))⊕(Bool))
 | (f,a,b,c,d) =>
  if decide (f<(j.length:Int)) then
   (P.idx j f).bind fun g =>
   (cT g).bind fun h =>
   if (!h) then
    some (.inr (.inr false))
   else
    (gj g).bind fun i =>
    if decide (i<0) then
     some (.inr (.inr false))
    else
     (sk (an.mk (aK.mk a b) (aK.mk c d)) g).bind fun e =>
     some (.inl (IntKind.i64.wrap (f+1),e.bL.ax,e.bL.aa,e.bQ.ax,e.bQ.aa))
  else
   some (.inr (.inl (a,b,c,d)))
def sC (h:(List an)):Option (Bool) :=
 (fY 0).bind fun e =>
 (aS (sn h) (0,e.bL.ax,e.bL.aa,e.bQ.ax,e.bQ.aa)).bind fun q=>match q with
 | (.inl (a,b,c,d)) =>
  (fY 1).bind fun f =>
  (jv (an.mk (aK.mk a b) (aK.mk c d)) f).bind fun g =>
  some (g==0)
 | (.inr i) =>
  some i
def mv (c:fa):Bd (Int) ((Unit)⊕(Bool))
 | a =>
  if decide (a<(c.aF.length:Int)) then
   (P.idx c.aF a).bind fun b =>
   (fu b.aY 0 3).bind fun d =>
   if (!d) then
    some (.inr (.inr false))
   else
    if decide (b.aR<0) then
     some (.inr (.inr false))
    else
     (P.idx c.aN a).bind fun e =>
     if ((e.length:Int) != (c.aw.length:Int)) then
      some (.inr (.inr false))
     else
      some (.inl (IntKind.i64.wrap (a+1)))
  else
   some (.inr (.inl ()))
def iG (f:fa) (c:Int):Bd (Int×(List an)) (((List an)))
 | (a,b) =>
  if decide (a<(f.aF.length:Int)) then
   (P.idx f.aN a).bind fun d =>
   (P.idx d c).bind fun e =>
   (P.idx b a).bind fun g =>
   some (.inl (IntKind.i64.wrap (a+1),(b.set (a).toNat e)))
  else
   some (.inr b)
def mw (b:fa):Bd (Int) ((Unit)⊕(Bool))
 | a =>
  if decide (a<(b.aw.length:Int)) then
   (P.idx b.aw a).bind fun c =>
   (Iv 64 (b.aF.length:Int) (b.aF.length:Int) (an.mk (aK.mk 0 ([])) (aK.mk 0 ([])))).bind fun e =>
   (aS (iG b a) (0,e)).bind fun d =>
   (fu c.aY 0 2).bind fun f =>
   if (!f) then
    some (.inr (.inr false))
   else
    if decide (c.aR<0) then
     some (.inr (.inr false))
    else
     (sC d).bind fun g =>
     if (!g) then
      some (.inr (.inr false))
     else
      some (.inl (IntKind.i64.wrap (a+1)))
  else
   some (.inr (.inl ()))
def kS (b:fa):Option (Bool) :=
 (if decide ((b.aw.length:Int)>100) then
  some true
 else
  if decide ((b.aF.length:Int)>100) then
   some true
  else
   some ((b.aN.length:Int) != (b.aF.length:Int))).bind fun a =>
 if a then
  some false
 else
  (aS (mv b) 0).bind fun q=>match q with
  | (.inl _) =>
   (aS (mw b) 0).bind fun q=>match q with
   | (.inl _) =>
    some true
   | (.inr rc) =>
    some rc
  | (.inr c) =>
   some c
def ql (a:gC) (b:Int):Option (Bool) :=
 (fu a.bJ 0 (IntKind.i64.wrap (b-1))).bind fun c =>
 if (!c) then
  some true
 else
  (fu a.aQ 1 1099511627776).bind fun d =>
  some (!d)
def qm (a:Int) (b:Int):Option (Bool) :=
 (fu a 0 (IntKind.i64.wrap (b-1))).bind fun c =>
 some (!c)
def qK (a:(List Int)):Option (List Int):=NN a
def dn (a:(List Int)):Option (List Int):=Fb a
def pf (b:(List Int)):Bd (Int) ((Unit)⊕(Bool))
 | a =>
  if decide (a<((b).length:Int)) then
   (P.idx b a).bind fun c =>
   if (a != c) then
    some (.inr (.inr false))
   else
    some (.inl (IntKind.i64.wrap (a+1)))
  else
   some (.inr (.inl ()))
def lL (b:(List Int)) (c:Int):Option (Bool) :=
 (qK b).bind fun d =>
 (dn d).bind fun a =>
 (aS (pf a) 0).bind fun q=>match q with
 | (.inl _) =>
  some (((a).length:Int)==c)
 | (.inr e) =>
  some e
def dK (c:(List gC)) (b:Int):Bd (Int) ((Unit)⊕(Int))
 | a =>
  if decide (a<(c.length:Int)) then
   (P.idx c a).bind fun d =>
   (ql d b).bind fun e =>
   if e then
    some (.inr (.inr a))
   else
    some (.inl (IntKind.i64.wrap (a+1)))
  else
   some (.inr (.inl ()))
def dp (b:(List gC)) (a:Int):Option (Int) :=
 (aS (dK b a) 0).bind fun q=>match q with
 | (.inl _) =>
  some (-1)
 | (.inr c) =>
  some c
def ct (b:(List gC)) (a:Int):Option (Bool) :=
 (dp b a).bind fun c =>
 some (decide (c>=0))
def dL (c:(List Int)) (b:Int):Bd (Int) ((Unit)⊕(Int))
 | a =>
  if decide (a<(c.length:Int)) then
   (P.idx c a).bind fun d =>
   (qm d b).bind fun e =>
   if e then
    some (.inr (.inr a))
   else
    some (.inl (IntKind.i64.wrap (a+1)))
  else
   some (.inr (.inl ()))
def dq (b:(List Int)) (a:Int):Option (Int) :=
 (aS (dL b a) 0).bind fun q=>match q with
 | (.inl _) =>
  some (-1)
 | (.inr c) =>
  some c
def cu (b:(List Int)) (a:Int):Option (Bool) :=
 (dq b a).bind fun c =>
 some (decide (c>=0))
def ot (e:bj):Bd (Int×(List Int)) (((List Int)))
 | (a,b) =>
  if decide (a<(e.au.aw.length:Int)) then
   (P.idx e.au.aw a).bind fun c =>
   if (c.aY==1) then
    (pE 8 b [c.aR]).bind fun d =>
    some (.inl (IntKind.i64.wrap (a+1),d))
   else
    some (.inl (IntKind.i64.wrap (a+1),b))
  else
   some (.inr b)
def ou (e:bj):Bd (Int×(List Int)) (((List Int)))
 | (a,b) =>
  if decide (a<(e.au.aF.length:Int)) then
   (P.idx e.au.aF a).bind fun c =>
   if (c.aY==0) then
    (pE 8 b [c.aR]).bind fun d =>
    some (.inl (IntKind.i64.wrap (a+1),d))
   else
    some (.inl (IntKind.i64.wrap (a+1),b))
  else
   some (.inr b)
def vt (a:bj) (h:Int):Option (Bool) :=
 (kS a.au).bind fun i =>
 if (!i) then
  some false
 else
  (aS (ot a) (0,[])).bind fun b =>
  (aS (ou a) (0,[])).bind fun c =>
  (lL b (a.bc.length:Int)).bind fun d =>
  if d then
   (lL c (a.aA.length:Int)).bind fun e =>
   if e then
    (ct a.bc h).bind fun f =>
    if (!f) then
     (cu a.aA h).bind fun g =>
     some (!g)
    else
     some false
   else
    some false
  else
   some false
def mh (c:aX):Bd (Int) ((Unit)⊕(Int×Int))
 | a =>
  if decide (a<(c.al.length:Int)) then
   (P.idx c.al a).bind fun d =>
   (fu d 1 1099511627776).bind fun b =>
   if (!b) then
    some (.inr (.inr (3,a)))
   else
    some (.inl (IntKind.i64.wrap (a+1)))
  else
   some (.inr (.inl ()))
def mi (c:bj):Bd (Int×(List Int)) (((List Int)))
 | (a,b) =>
  if decide (a<(c.aA.length:Int)) then
   (P.idx c.aA a).bind fun d =>
   (P.idx b d).bind fun e =>
   some (.inl (IntKind.i64.wrap (a+1),(b.set (d).toNat (IntKind.i64.wrap (e+1)))))
  else
   some (.inr b)
def mj (d:bj):Bd (Int×(List Int)) (((List Int)))
 | (a,c) =>
  if decide (a<(d.bc.length:Int)) then
   (P.idx d.bc a).bind fun b =>
   (P.idx c b.bJ).bind fun e =>
   some (.inl (IntKind.i64.wrap (a+1),(c.set (b.bJ).toNat (if 1099511627777<(IntKind.i64.wrap (e+b.aQ)) then 1099511627777 else IntKind.i64.wrap (e+b.aQ)))))
  else
   some (.inr c)
def ku (g:aX):Bd (Int×(List Int)×(List Int)) (((List Int)×(List Int))⊕(Int×Int))
 | (a,c,d) =>
  if decide (a<(g.ah.length:Int)) then
   (P.idx g.ah a).bind fun b =>
   (vt b (g.al.length:Int)).bind fun h =>
   if (!h) then
    some (.inr (.inr (1,a)))
   else
    (aS (mi b) (0,c)).bind fun e =>
    (aS (mj b) (0,d)).bind fun f =>
    some (.inl (IntKind.i64.wrap (a+1),e,f))
  else
   some (.inr (.inl (c,d)))
def ml (b:(List Int)):Bd (Int) ((Unit)⊕(Int×Int))
 | a =>
  if decide (a<((b).length:Int)) then
   (P.idx b a).bind fun c =>
   if (c==0) then
    some (.inr (.inr (21,a)))
   else
    if decide (c>1) then
     some (.inr (.inr (5,a)))
    else
     some (.inl (IntKind.i64.wrap (a+1)))
  else
   some (.inr (.inl ()))
def mm (d:aX) (b:(List Int)):Bd (Int) ((Unit)⊕(Int×Int))
 | a =>
  if decide (a<((b).length:Int)) then
   (P.idx b a).bind fun c =>
   (P.idx d.al a).bind fun x76 =>
   if decide (c>x76) then
    some (.inr (.inr (25,a)))
   else
    some (.inl (IntKind.i64.wrap (a+1)))
  else
   some (.inr (.inl ()))
def oo (a:aX):Option (Int×Int) :=
 (if decide ((a.al.length:Int)>2000) then
  some true
 else
  some (decide ((a.ah.length:Int)>400))).bind fun b =>
 if b then
  some (6,0)
 else
  (aS (mh a) 0).bind fun q=>match q with
  | (.inl _) =>
   (Iv 8 (a.al.length:Int) (a.al.length:Int) 0).bind fun c =>
   (aS (ku a) (0,c,c)).bind fun q=>match q with
   | (.inl (d,e)) =>
    (aS (ml d) 0).bind fun q=>match q with
    | (.inl _) =>
     (aS (mm a e) 0).bind fun q=>match q with
     | (.inl _) =>
      some (0,0)
     | (.inr f) =>
      some f
    | (.inr g) =>
     some g
   | (.inr rc) =>
    some rc
  | (.inr h) =>
   some h
def nc (g:fa) (f:(List an)):Bd (Int) ((Unit)⊕(Bool))
 | a =>
  if decide (a<(f.length:Int)) then
   (P.idx f a).bind fun b =>
   (cT b).bind fun c =>
   if (!c) then
    some (.inr (.inr false))
   else
    (P.idx g.aw a).bind fun d =>
    if (d.aY==1) then
     (gj b).bind fun e =>
     if (e != 0) then
      some (.inr (.inr false))
     else
      some (.inl (IntKind.i64.wrap (a+1)))
    else
     some (.inl (IntKind.i64.wrap (a+1)))
  else
   some (.inr (.inl ()))
def pW (a:fa) (b:(List an)):Option (Bool) :=
 if ((b.length:Int) != (a.aw.length:Int)) then
  some false
 else
  (aS (nc a b) 0).bind fun q=>match q with
  | (.inl _) =>
   some true
  | (.inr c) =>
   some c
def mZ (a:an):Option (Bool) :=
 (gj a).bind fun b =>
 some (decide (b<0))
def dW (b:(List an)):Bd (Int) ((Unit)⊕(Int))
 | a =>
  if decide (a<(b.length:Int)) then
   (P.idx b a).bind fun c =>
   (mZ c).bind fun d =>
   if d then
    some (.inr (.inr a))
   else
    some (.inl (IntKind.i64.wrap (a+1)))
  else
   some (.inr (.inl ()))
def dA (a:(List an)):Option (Int) :=
 (aS (dW a) 0).bind fun q=>match q with
 | (.inl _) =>
  some (-1)
 | (.inr b) =>
  some b
def cz (a:(List an)):Option (Bool) :=
 (dA a).bind fun b =>
 some (decide (b>=0))
def lB (d:aX) (e:(List (List an))):Bd (Int) ((Unit)⊕(Int))
 | a =>
  if decide (a<(d.ah.length:Int)) then
   (P.idx d.ah a).bind fun f =>
   (P.idx e a).bind fun b =>
   (pW f.au b).bind fun c =>
   if (!c) then
    some (.inr (.inr 1))
   else
    some (.inl (IntKind.i64.wrap (a+1)))
  else
   some (.inr (.inl ()))
def lC (d:(List (List an))):Bd (Int) ((Unit)⊕(Int))
 | a =>
  if decide (a<(d.length:Int)) then
   (P.idx d a).bind fun b =>
   (cz b).bind fun c =>
   if c then
    some (.inr (.inr 3))
   else
    some (.inl (IntKind.i64.wrap (a+1)))
  else
   some (.inr (.inl ()))
def lA (b:aX) (a:(List (List an))):Option (Int) :=
 if ((a.length:Int) != (b.ah.length:Int)) then
  some 1
 else
  (aS (lB b a) 0).bind fun q=>match q with
  | (.inl _) =>
   (aS (lC a) 0).bind fun q=>match q with
   | (.inl _) =>
    some 0
   | (.inr c) =>
    some c
  | (.inr d) =>
   some d
def oW (b:an) (c:an):Option (an×Int) :=
 (cT b).bind fun e =>
 (if (!e) then
  some true
 else
  (cT c).bind fun f =>
  some (!f)).bind fun a =>
 if a then
  some ((an.mk (aK.mk 0 ([])) (aK.mk 0 ([]))),1)
 else
  (cU b.bL c.bL).bind fun g =>
  (cU b.bQ c.bQ).bind fun h =>
  (oX g h).bind fun d =>
  some (d.1,d.2)
def iF (g:bj) (e:Int) (c:gC) (j:an×Int):Bd (Int×(List ((Int×Int)×an))) (((List ((Int×Int)×an))))
 | (a,b) =>
  if decide (a<(g.au.aF.length:Int)) then
   (P.idx g.au.aF a).bind fun h =>
   (if (h.aY != 0) then
    some true
   else
    (P.idx g.au.aN a).bind fun k =>
    (P.idx k e).bind fun l =>
    (gj l).bind fun m =>
    some (m==0)).bind fun f =>
   if f then
    some (.inl (IntKind.i64.wrap (a+1),b))
   else
    (P.idx g.aA h.aR).bind fun d =>
    (P.idx g.au.aN a).bind fun n =>
    (P.idx n e).bind fun o =>
    (oW j.1 o).bind fun i =>
    if pG b (c.bJ,d) then
     (sk (an.mk ((gI (an.mk (aK.mk 0 ([])) (aK.mk 0 ([]))) b (c.bJ,d)).bL) ((gI (an.mk (aK.mk 0 ([])) (aK.mk 0 ([]))) b (c.bJ,d)).bQ)) i.1).bind fun p =>
     some (.inl (IntKind.i64.wrap (a+1),(tD b (c.bJ,d) p)))
    else
     some (.inl (IntKind.i64.wrap (a+1),(tD b (c.bJ,d) i.1)))
  else
   some (.inr b)
def kd (i:(List Int)) (f:bj):Bd (Int×(List ((Int×Int)×an))) (((List ((Int×Int)×an))))
 | (a,b) =>
  if decide (a<(f.au.aw.length:Int)) then
   (P.idx f.au.aw a).bind fun d =>
   if (d.aY != 1) then
    some (.inl (IntKind.i64.wrap (a+1),b))
   else
    (P.idx f.bc d.aR).bind fun c =>
    (P.idx i c.bJ).bind fun g =>
    (ue c.aQ g).bind fun h =>
    (aS (iF f a c h) (0,b)).bind fun e =>
    some (.inl (IntKind.i64.wrap (a+1),e))
  else
   some (.inr b)
def jL (b:(List ((Int×Int)×an))) (c:(List Int)) (d:bj):Option ((List ((Int×Int)×an))×(Unit)) :=
 (aS (kd c d) (0,b)).bind fun a =>
 some (a,())
def qk (a:cA) (b:cA):Option (Int) :=
 (gT a.dh b.dh).bind fun c =>
 (gT a.kF b.kF).bind fun d =>
 (xO ([c,d])).bind fun e =>
 some e
def E4 (p:Int) (m:List ((Int×Int)×an)):Option (gY×Int) :=
 if m.length<=8000∧(m.map (·.1)).Nodup then some (gY.mk p (rK (lq cA.dh cA.kF) (m.map fun q=>cA.mk q.1.1 q.1.2 q.2)),0) else none
def sB (c:aX):Bd (Int×(List ((Int×Int)×an))) (((List ((Int×Int)×an))))
 | (a,b) =>
  if decide (a<(c.ah.length:Int)) then
   (P.idx c.ah a).bind fun e =>
   (jL b c.al e).bind fun d =>
   some (.inl (IntKind.i64.wrap (a+1),d.1))
  else
   some (.inr b)
def C3 (b:aX):Option (gY×Int) :=
 (oo b).bind fun c =>
 if (c.1 != 0) then
  some ((gY.mk 0 ([])),c.1)
 else
  (aS (sB b) (0,([]:(List ((Int×Int)×an))))).bind fun a =>
  if decide ((a.length:Int)>8000) then
   some ((gY.mk 0 ([])),6)
  else
   E4 (b.al.length:Int) a
def kD (j:(List an)) (i:(List an)):Bd (Int×Int×(List Int)×Int×(List Int)) ((Int×(List Int)×Int×(List Int)))
 | (a,b,c,d,e) =>
  if decide (a<(i.length:Int)) then
   (P.idx i a).bind fun k =>
   (P.idx j a).bind fun g =>
   (oW g k).bind fun h =>
   (ik (an.mk (aK.mk b c) (aK.mk d e)) h.1).bind fun f =>
   some (.inl (IntKind.i64.wrap (a+1),f.1.bL.ax,f.1.bL.aa,f.1.bQ.ax,f.1.bQ.aa))
  else
   some (.inr (b,c,d,e))
def jr (f:(List an)) (g:(List an)):Option (an) :=
 (fY 0).bind fun e =>
 (aS (kD f g) (0,e.bL.ax,e.bL.aa,e.bQ.ax,e.bQ.aa)).bind fun q=>match q with
 | (a,b,c,d) =>
  some (an.mk (aK.mk a b) (aK.mk c d))
def ji (j:(List (List an))) (d:Int) (b:bj):Bd (Int×(List an)) (((List an)))
 | (a,c) =>
  if decide (a<(b.au.aF.length:Int)) then
   (P.idx b.au.aF a).bind fun e =>
   if (e.aY==0) then
    (P.idx b.aA e.aR).bind fun f =>
    (P.idx b.au.aN a).bind fun g =>
    (P.idx j d).bind fun h =>
    (jr g h).bind fun i =>
    (P.idx c f).bind fun k =>
    some (.inl (IntKind.i64.wrap (a+1),(c.set (f).toNat i)))
   else
    some (.inl (IntKind.i64.wrap (a+1),c))
  else
   some (.inr c)
def jh (e:aX) (f:(List (List an))):Bd (Int×(List an)) (((List an)))
 | (a,b) =>
  if decide (a<(e.ah.length:Int)) then
   (P.idx e.ah a).bind fun d =>
   (aS (ji f a d) (0,b)).bind fun c =>
   some (.inl (IntKind.i64.wrap (a+1),c))
  else
   some (.inr b)
def lZ (b:aX) (c:(List (List an))):Option ((List an)) :=
 (Iv 64 (b.al.length:Int) (b.al.length:Int) (an.mk (aK.mk 0 ([])) (aK.mk 0 ([])))).bind fun d =>
 (aS (jh b c) (0,d)).bind fun a =>
 some a
def te (c:an) (b:an):Option (an×Int) :=
 (cT c).bind fun e =>
 (if (!e) then
  some true
 else
  (cT b).bind fun f =>
  some (!f)).bind fun a =>
 if a then
  some ((an.mk (aK.mk 0 ([])) (aK.mk 0 ([]))),1)
 else
  (rY b.bL).bind fun g =>
  (ik c (an.mk g b.bQ)).bind fun d =>
  some (d.1,d.2)
def pc (c:(List an)):Bd (Int×(List an)) (((List an)))
 | (a,b) =>
  if decide (a<((c).length:Int)) then
   (fY 1).bind fun d =>
   (P.idx b a).bind fun e =>
   some (.inl (IntKind.i64.wrap (a+1),(b.set (a).toNat d)))
  else
   some (.inr b)
def pe (f:gY):Bd (Int×(List an)) (((List an)))
 | (a,b) =>
  if decide (a<(f.bk.length:Int)) then
   (P.idx f.bk a).bind fun c =>
   (P.idx b c.dh).bind fun d =>
   (te d c.gp).bind fun e =>
   some (.inl (IntKind.i64.wrap (a+1),(b.set (c.dh).toNat e.1)))
  else
   some (.inr b)
def qn (c:gY):Option ((List an)) :=
 (Iv 64 c.aA c.aA (an.mk (aK.mk 0 ([])) (aK.mk 0 ([])))).bind fun d =>
 (aS (pc d) (0,d)).bind fun a =>
 (aS (pe c) (0,a)).bind fun b =>
 some b
def qZ (a:an):Option (Bool) :=
 (gj a).bind fun b =>
 some (decide (b<0))
def ez (b:(List an)):Bd (Int) ((Unit)⊕(Int))
 | a =>
  if decide (a<(b.length:Int)) then
   (P.idx b a).bind fun c =>
   (qZ c).bind fun d =>
   if d then
    some (.inr (.inr a))
   else
    some (.inl (IntKind.i64.wrap (a+1)))
  else
   some (.inr (.inl ()))
def dO (a:(List an)):Option (Int) :=
 (aS (ez a) 0).bind fun q=>match q with
 | (.inl _) =>
  some (-1)
 | (.inr b) =>
  some b
def cI (a:(List an)):Option (Bool) :=
 (dO a).bind fun b =>
 some (decide (b>=0))
def pb (d:gY):Bd (Int) ((Unit)⊕(Bool))
 | a =>
  if decide (a<(d.bk.length:Int)) then
   (P.idx d.bk a).bind fun b =>
   (fu b.dh 0 (IntKind.i64.wrap (d.aA-1))).bind fun e =>
   (if (!e) then
    some true
   else
    (fu b.kF 0 (IntKind.i64.wrap (d.aA-1))).bind fun f =>
    if (!f) then
     some true
    else
     (cT b.gp).bind fun g =>
     if (!g) then
      some true
     else
      (gj b.gp).bind fun h =>
      some (decide (h<=0))).bind fun c =>
   if c then
    some (.inr (.inr false))
   else
    if decide (a>0) then
     (P.idx d.bk (IntKind.i64.wrap (a-1))).bind fun i =>
     (qk i b).bind fun j =>
     if decide (j>=0) then
      some (.inr (.inr false))
     else
      some (.inl (IntKind.i64.wrap (a+1)))
    else
     some (.inl (IntKind.i64.wrap (a+1)))
  else
   some (.inr (.inl ()))
def qh (b:gY):Option (Bool) :=
 (fu b.aA 0 2000).bind fun e =>
 (if (!e) then
  some true
 else
  some (decide ((b.bk.length:Int)>8000))).bind fun a =>
 if a then
  some false
 else
  (aS (pb b) 0).bind fun q=>match q with
  | (.inl _) =>
   (qn b).bind fun c =>
   (cI c).bind fun d =>
   some (!d)
  | (.inr f) =>
   some f
def kL (a:an):Option (Bool) :=
 (cT a).bind fun b =>
 some (!b)
def dE (b:(List an)):Bd (Int) ((Unit)⊕(Int))
 | a =>
  if decide (a<(b.length:Int)) then
   (P.idx b a).bind fun c =>
   (kL c).bind fun d =>
   if d then
    some (.inr (.inr a))
   else
    some (.inl (IntKind.i64.wrap (a+1)))
  else
   some (.inr (.inl ()))
def de (a:(List an)):Option (Int) :=
 (aS (dE a) 0).bind fun q=>match q with
 | (.inl _) =>
  some (-1)
 | (.inr b) =>
  some b
def cN (a:(List an)):Option (Bool) :=
 (de a).bind fun b =>
 some (decide (b>=0))
def kV (a:(List an)) (b:Int):Option (Bool) :=
 if ((a.length:Int)==b) then
  (cN a).bind fun c =>
  some (!c)
 else
  some false
def mn (f:gY):Bd (Int×(List (List Int))) (((List (List Int))))
 | (a,b) =>
  if decide (a<(f.bk.length:Int)) then
   (P.idx f.bk a).bind fun c =>
   (P.idx b c.kF).bind fun d =>
   (pE 8 d [c.dh]).bind fun e =>
   some (.inl (IntKind.i64.wrap (a+1),(b.set (c.kF).toNat e)))
  else
   some (.inr b)
def mo (d:(List an)):Bd (Int×(List Int)×(List Int)) (((List Int)×(List Int)))
 | (a,b,c) =>
  if decide (a<(d.length:Int)) then
   (P.idx d a).bind fun e =>
   (P.idx b a).bind fun h =>
   (gj e).bind fun f =>
   if decide (f>0) then
    (P.idx (b.set (a).toNat (-1)) a).bind fun i =>
    (pE 8 c [a]).bind fun g =>
    some (.inl (IntKind.i64.wrap (a+1),((b.set (a).toNat (-1)).set (a).toNat 0),g))
   else
    some (.inl (IntKind.i64.wrap (a+1),(b.set (a).toNat (-1)),c))
  else
   some (.inr (b,c))
def mu (f:Int) (e:(List Int)):Bd (Int×(List Int)×(List Int)) (((List Int)×(List Int)))
 | (a,b,c) =>
  if decide (a<((e).length:Int)) then
   (P.idx e a).bind fun d =>
   (P.idx b d).bind fun g =>
   if (g==(-1)) then
    (P.idx b f).bind fun h =>
    (pE 8 c [d]).bind fun i =>
    some (.inl (IntKind.i64.wrap (a+1),(b.set (d).toNat (IntKind.i64.wrap (h+1))),i))
   else
    some (.inl (IntKind.i64.wrap (a+1),b,c))
  else
   some (.inr (b,c))
def mq (b:(List (List Int))):Bd ((List Int)×(List Int)) (((List Int)))
 | (c,a) =>
  if decide (((a).length:Int)>0) then
   (P.idx a 0).bind fun d =>
   (Fa a 1 (a.length:Int)).bind fun g =>
   (P.idx b d).bind fun h =>
   (aS (mu d h) (0,c,g)).bind fun q=>match q with
   | (e,f) =>
    some (.inl (e,f))
  else
   some (.inr c)
def kb (a:gY):Option ((List Int)) :=
 (qh a).bind fun h =>
 if (!h) then
  some ([])
 else
  (Iv 24 a.aA a.aA ([])).bind fun i =>
  (aS (mn a) (0,i)).bind fun b =>
  (Iv 8 a.aA a.aA 0).bind fun f =>
  (qn a).bind fun g =>
  (aS (mo g) (0,f,[])).bind fun q=>match q with
  | (c,d) =>
   (aS (mq b) (c,d)).bind fun e =>
   some e
def kc (d:(List Int)):Bd (Int×(List Int)) (((List Int)))
 | (a,b) =>
  if decide (a<(d.length:Int)) then
   (P.idx d a).bind fun e =>
   if (e==(-1)) then
    (pE 8 b [a]).bind fun c =>
    some (.inl (IntKind.i64.wrap (a+1),c))
   else
    some (.inl (IntKind.i64.wrap (a+1),b))
  else
   some (.inr b)
def lK (b:gY):Option ((List Int)) :=
 (kb b).bind fun c =>
 (aS (kc c) (0,[])).bind fun a =>
 some a
def iS (e:(List an)) (f:(List aH)):Bd (Int×(List aH)) (((List aH)))
 | (a,b) =>
  if decide (a<((f).length:Int)) then
   (P.idx e a).bind fun c =>
   (P.idx b a).bind fun d =>
   some (.inl (IntKind.i64.wrap (a+1),(b.set (a).toNat (aH.mk c d.cF))))
  else
   some (.inr b)
def iT (f:gY):Bd (Int×(List aH)) (((List aH)))
 | (a,b) =>
  if decide (a<(f.bk.length:Int)) then
   (P.idx f.bk a).bind fun c =>
   (P.idx b c.kF).bind fun d =>
   (pE 72 d.cF [(fR.mk c.dh c.gp)]).bind fun e =>
   some (.inl (IntKind.i64.wrap (a+1),(b.set (c.kF).toNat (aH.mk d.bK e))))
  else
   some (.inr b)
def gn (c:gY) (e:(List an)):Option ((List aH)) :=
 (Iv 88 c.aA c.aA (aH.mk (an.mk (aK.mk 0 ([])) (aK.mk 0 ([]))) ([]))).bind fun d =>
 (aS (iS e d) (0,d)).bind fun a =>
 (aS (iT c) (0,a)).bind fun b =>
 some b
def ee (a:fR) (b:Int):Option (Int) :=
 (gT a.p8 b).bind fun c =>
 some c
def cn (f:(List fR)) (g:Int):Bd (Int×Int) ((Int))
 | (b,a) =>
  if decide (b<a) then
   (AY .u64 (IntKind.u64.wrap (IntKind.i64.wrap (b+a))) 1).bind fun c =>
   (P.idx f (IntKind.i64.wrap c)).bind fun d =>
   (ee d g).bind fun e =>
   if decide (e<0) then
    some (.inl (IntKind.i64.wrap ((IntKind.i64.wrap c)+1),a))
   else
    some (.inl (b,IntKind.i64.wrap c))
  else
   some (.inr b)
def bE (b:(List fR)) (e:Int):Option (Int×Bool) :=
 (aS (cn b e) (0,(b.length:Int))).bind fun a =>
 if decide (a<(b.length:Int)) then
  (P.idx b a).bind fun c =>
  (ee c e).bind fun d =>
  some (a,(d==0))
 else
  some (a,false)
def dw (a:aH) (c:Int):Option (aH×(Int×Bool)) :=
 (bE a.cF c).bind fun b =>
 some (a,(b.1,b.2))
def iD (a:(List fR)) (b c:Int):Option (List fR):=aab a b c
def qT (c:an) (b:an):Option (an×Int) :=
 (cT c).bind fun e =>
 (if (!e) then
  some true
 else
  (cT b).bind fun f =>
  some (!f)).bind fun a =>
 if a then
  some ((an.mk (aK.mk 0 ([])) (aK.mk 0 ([]))),1)
 else
  if (b.bL.ax==0) then
   some ((an.mk (aK.mk 0 ([])) (aK.mk 0 ([]))),15)
  else
   (cU c.bL b.bQ).bind fun g =>
   (cU c.bQ b.bL).bind fun h =>
   (oX g h).bind fun d =>
   some (d.1,d.2)
def fF (f:an×Int) (d:(List fR)):Bd (Int×(List fR)) (((List fR)))
 | (b,a) =>
  if decide (b<((d).length:Int)) then
   (P.idx a b).bind fun c =>
   (qT c.je f.1).bind fun e =>
   some (.inl (IntKind.i64.wrap (b+1),(a.set (b).toNat (fR.mk c.p8 e.1))))
  else
   some (.inr a)
def eF (f:aH) (g:Int):Option (aH×(Unit)) :=
 (dw f g).bind fun b =>
 if (!b.2.2) then
  some (b.1,())
 else
  (fY 1).bind fun h =>
  (P.idx b.1.cF b.2.1).bind fun i =>
  (te h i.je).bind fun e =>
  (iD b.1.cF b.2.1 (IntKind.i64.wrap (b.2.1+1))).bind fun c =>
  (qT b.1.bK e.1).bind fun d =>
  (aS (fF e c) (0,c)).bind fun a =>
  some ((aH.mk d.1 a),())
def jM (a:an) (b:an) (c:an):Option (an) :=
 (oW b c).bind fun d =>
 (ik a d.1).bind fun e =>
 some e.1
def fv (f:aH) (c:Int) (d:an):Option (aH×(Unit)) :=
 (dw f c).bind fun a =>
 if a.2.2 then
  (P.idx a.1.cF a.2.1).bind fun e =>
  (fY 1).bind fun g =>
  (jM e.je d g).bind fun h =>
  some ((aH.mk a.1.bK (a.1.cF.set (a.2.1).toNat (fR.mk e.p8 h))),())
 else
  (aa6 72 a.1.cF a.2.1 [(fR.mk c d)]).bind fun b =>
  some ((aH.mk a.1.bK b),())
def gx (k:aH) (l:fR):Bd (Int×Int×(List Int)×Int×(List Int)×(List fR)) ((Int×(List Int)×Int×(List Int)×(List fR)))
 | (a,b,c,d,e,f) =>
  if decide (a<(k.cF.length:Int)) then
   (P.idx k.cF a).bind fun h =>
   (fY 0).bind fun i =>
   (jM i l.je h.je).bind fun j =>
   (fv (aH.mk (an.mk (aK.mk b c) (aK.mk d e)) f) h.p8 j).bind fun g =>
   some (.inl (IntKind.i64.wrap (a+1),g.1.bK.bL.ax,g.1.bK.bL.aa,g.1.bK.bQ.ax,g.1.bK.bQ.aa,g.1.cF))
  else
   some (.inr (b,c,d,e,f))
def fw (j:aH) (k:Int) (h:aH):Option (aH×(Unit)) :=
 (dw j k).bind fun g =>
 if (!g.2.2) then
  some (g.1,())
 else
  (P.idx g.1.cF g.2.1).bind fun i =>
  (iD g.1.cF g.2.1 (IntKind.i64.wrap (g.2.1+1))).bind fun l =>
  (jM g.1.bK i.je h.bK).bind fun a =>
  (aS (gx h i) (0,a.bL.ax,a.bL.aa,a.bQ.ax,a.bQ.aa,l)).bind fun q=>match q with
  | (b,c,d,e,f) =>
   some ((aH.mk (an.mk (aK.mk b c) (aK.mk d e)) f),())
def oB (c:Int):Bd (Int×(List (Bool×aH))) (((List (Bool×aH))))
 | (b,a) =>
  if decide (b<((a).length:Int)) then
   (P.idx a b).bind fun d =>
   (P.idx a c).bind fun e =>
   (RY e).bind fun f =>
   (Rj d).bind fun g =>
   (fw g c f).bind fun h =>
   some (.inl (IntKind.i64.wrap (b+1),(a.set (b).toNat (false,h.1))))
  else
   some (.inr a)
def lR (g:(List aH)):Bd (Int×(List (Bool×aH))) (((List (Bool×aH))))
 | (a,b) =>
  if decide (a<((g).length:Int)) then
   (P.idx b a).bind fun d =>
   (Rj d).bind fun e =>
   (eF e a).bind fun f =>
   (aS (oB a) (IntKind.i64.wrap (a+1),(b.set (a).toNat (true,f.1)))).bind fun c =>
   some (.inl (IntKind.i64.wrap (a+1),c))
  else
   some (.inr b)
def rl (i:(List an)) (g:aH):Bd (Int×Int×(List Int)×Int×(List Int)) ((Int×(List Int)×Int×(List Int)))
 | (e,a,b,c,d) =>
  if decide (e<(g.cF.length:Int)) then
   (P.idx g.cF e).bind fun h =>
   (P.idx i h.p8).bind fun j =>
   (jM (an.mk (aK.mk a b) (aK.mk c d)) h.je j).bind fun f =>
   some (.inl (IntKind.i64.wrap (e+1),f.bL.ax,f.bL.aa,f.bQ.ax,f.bQ.aa))
  else
   some (.inr (a,b,c,d))
def lS (h:(List (Bool×aH))):Bd (Int×(List an)) (((List an)))
 | (a,f) =>
  if decide (a>=0) then
   (P.idx h a).bind fun k =>
   (RY k).bind fun i =>
   (fY 0).bind fun j =>
   (jM i.bK j j).bind fun g =>
   (aS (rl f i) (0,g.bL.ax,g.bL.aa,g.bQ.ax,g.bQ.aa)).bind fun q=>match q with
   | (b,c,d,e) =>
    (P.idx f a).bind fun l =>
    some (.inl (IntKind.i64.wrap (a-1),(f.set (a).toNat (an.mk (aK.mk b c) (aK.mk d e)))))
  else
   some (.inr f)
def kK (c:gY) (g:(List an)):Option ((List an)×Int) :=
 (qh c).bind fun i =>
 (if (!i) then
  some true
 else
  (kV g c.aA).bind fun e =>
  some (!e)).bind fun b =>
 if b then
  some ([],1)
 else
  (lK c).bind fun j =>
  if decide ((j.length:Int)>0) then
   some ([],24)
  else
   (gn c g).bind fun h =>
   (aS (lR h) (0,(Ku h))).bind fun a =>
   (Iv 64 c.aA c.aA (an.mk (aK.mk 0 ([])) (aK.mk 0 ([])))).bind fun f =>
   (aS (lS a) (IntKind.i64.wrap (((a).length:Int)-1),f)).bind fun d =>
   some (d,0)
def gP (a:(List an)):Option (List an):=pE 64 [] a
def kp (b:aX) (c:(List an)) (a:Int) (d:Int):Option (an) :=
 (P.idx b.al a).bind fun e =>
 (ue d e).bind fun f =>
 (P.idx c a).bind fun g =>
 (oW f.1 g).bind fun h =>
 some h.1
def jV (g:aX) (h:(List an)×Int) (c:bj):Bd (Int×(List an)) (((List an)))
 | (a,b) =>
  if decide (a<(c.au.aw.length:Int)) then
   (P.idx c.au.aw a).bind fun d =>
   if (d.aY==1) then
    (P.idx c.bc d.aR).bind fun e =>
    (kp g h.1 e.bJ e.aQ).bind fun f =>
    (P.idx b a).bind fun i =>
    some (.inl (IntKind.i64.wrap (a+1),(b.set (a).toNat f)))
   else
    some (.inl (IntKind.i64.wrap (a+1),b))
  else
   some (.inr b)
def jW (d:bj) (c:(List an)):Bd (Int×(List an)) (((List an)))
 | (a,b) =>
  if decide (a<(d.au.aN.length:Int)) then
   (P.idx d.au.aN a).bind fun e =>
   (jr e c).bind fun f =>
   (pE 64 b [f]).bind fun g =>
   some (.inl (IntKind.i64.wrap (a+1),g))
  else
   some (.inr b)
def iL (f:aX) (j:(List (List an))) (k:(List an)×Int):Bd (Int×(List (List an))) (((List (List an))))
 | (a,d) =>
  if decide (a<(f.ah.length:Int)) then
   (P.idx f.ah a).bind fun e =>
   (P.idx j a).bind fun g =>
   (gP g).bind fun h =>
   (aS (jV f k e) (0,h)).bind fun b =>
   (aS (jW e b) (0,[])).bind fun c =>
   (pE 24 d [c]).bind fun i =>
   some (.inl (IntKind.i64.wrap (a+1),i))
  else
   some (.inr d)
def gm (a:aX) (d:(List (List an))):Option ((List (List an))×(List an)×Int) :=
 (oo a).bind fun f =>
 if (f.1 != 0) then
  some ([],[],f.1)
 else
  (lA a d).bind fun g =>
  if (g != 0) then
   some ([],[],g)
  else
   (C3 a).bind fun e =>
   if (e.2 != 0) then
    some ([],[],e.2)
   else
    (lZ a d).bind fun h =>
    (kK e.1 h).bind fun c =>
    if (c.2 != 0) then
     some ([],[],c.2)
    else
     (aS (iL a d c) (0,[])).bind fun b =>
     some (b,c.1,0)
def mY (a:an):Option (Bool) :=
 (cT a).bind fun b =>
 some (!b)
def dV (b:(List an)):Bd (Int) ((Unit)⊕(Int))
 | a =>
  if decide (a<(b.length:Int)) then
   (P.idx b a).bind fun c =>
   (mY c).bind fun d =>
   if d then
    some (.inr (.inr a))
   else
    some (.inl (IntKind.i64.wrap (a+1)))
  else
   some (.inr (.inl ()))
def dz (a:(List an)):Option (Int) :=
 (aS (dV a) 0).bind fun q=>match q with
 | (.inl _) =>
  some (-1)
 | (.inr b) =>
  some b
def cy (a:(List an)):Option (Bool) :=
 (dz a).bind fun b =>
 some (decide (b>=0))
def jY (d:bj):Bd (Int×(List Int)) (((List Int)))
 | (a,b) =>
  if decide (a<(d.bc.length:Int)) then
   (P.idx d.bc a).bind fun c =>
   (P.idx b c.bJ).bind fun e =>
   some (.inl (IntKind.i64.wrap (a+1),(b.set (c.bJ).toNat (IntKind.i64.wrap (e-c.aQ)))))
  else
   some (.inr b)
def jX (e:aX):Bd (Int×(List Int)) (((List Int)))
 | (a,b) =>
  if decide (a<(e.ah.length:Int)) then
   (P.idx e.ah a).bind fun d =>
   (aS (jY d) (0,b)).bind fun c =>
   some (.inl (IntKind.i64.wrap (a+1),c))
  else
   some (.inr b)
def jZ (g:aX) (h:(List an)) (b:(List Int)):Bd (Int×(List an)) (((List an)))
 | (a,c) =>
  if decide (a<((b).length:Int)) then
   (P.idx b a).bind fun d =>
   (kp g h a d).bind fun e =>
   (pE 64 c [e]).bind fun f =>
   some (.inl (IntKind.i64.wrap (a+1),f))
  else
   some (.inr c)
def iA (c:aX) (e:(List an)):Option ((List an)) :=
 (oo c).bind fun g =>
 (if (g.1 != 0) then
  some true
 else
  if ((e.length:Int) != (c.al.length:Int)) then
   some true
  else
   (cy e).bind fun f =>
   some f).bind fun a =>
 if a then
  some ([])
 else
  (cc c.al).bind fun h =>
  (aS (jX c) (0,h)).bind fun d =>
  (aS (jZ c e d) (0,[])).bind fun b =>
  some b
def yD (c:aK) (d:aK):Bd (Int) ((Unit)⊕(Bool))
 | a =>
  if decide (a<(c.aa.length:Int)) then
   (P.idx c.aa a).bind fun e =>
   (P.idx d.aa a).bind fun b =>
   if (e != b) then
    some (.inr (.inr false))
   else
    some (.inl (IntKind.i64.wrap (a+1)))
  else
   some (.inr (.inl ()))
def q9 (b:aK) (c:aK):Option (Bool) :=
 (if (b.ax != c.ax) then
  some true
 else
  some ((b.aa.length:Int) != (c.aa.length:Int))).bind fun a =>
 if a then
  some false
 else
  (aS (yD b c) 0).bind fun q=>match q with
  | (.inl _) =>
   some true
  | (.inr d) =>
   some d
def B6 (a:an) (b:an):Option (Bool) :=
 (q9 a.bL b.bL).bind fun c =>
 if c then
  (q9 a.bQ b.bQ).bind fun d =>
  some d
 else
  some false
def Ek (d:(List an)) (e:(List an)):Bd (Int) ((Unit)⊕(Bool))
 | a =>
  if decide (a<(d.length:Int)) then
   (P.idx d a).bind fun f =>
   (P.idx e a).bind fun b =>
   (B6 f b).bind fun c =>
   if (!c) then
    some (.inr (.inr false))
   else
    some (.inl (IntKind.i64.wrap (a+1)))
  else
   some (.inr (.inl ()))
def tH (a:(List an)) (b:(List an)):Option (Bool) :=
 if ((a.length:Int) != (b.length:Int)) then
  some false
 else
  (aS (Ek a b) 0).bind fun q=>match q with
  | (.inl _) =>
   some true
  | (.inr c) =>
   some c
def yt:Option (Bool) :=
 (ug).bind fun c =>
 (gm c.1 c.2).bind fun b =>
 (iA c.1 b.2.1).bind fun k =>
 (if (b.2.2 != 0) then
  some true
 else
  some ((b.1.length:Int) != 2)).bind fun a =>
 if a then
  some false
 else
  (tq 240 7).bind fun i =>
  (tq 120 7).bind fun j =>
  (tH b.2.1 ([i,j])).bind fun l =>
  if l then
   (P.idx b.1 0).bind fun d =>
   (tq 30 7).bind fun e =>
   (tH d ([i,e])).bind fun f =>
   if f then
    (tq 60 7).bind fun g =>
    (tH k ([j,g])).bind fun h =>
    some h
   else
    some false
  else
   some false
def wI (a:an) (b:Int):Option (Bool) :=
 if decide ((a.bL.aa.length:Int)<=b) then
  some (decide ((a.bQ.aa.length:Int)<=b))
 else
  some false
def fh (b:(List an)):Bd (Int) ((Unit)⊕(Bool))
 | a =>
  if decide (a<(b.length:Int)) then
   (P.idx b a).bind fun c =>
   (wI c 4).bind fun d =>
   if (!d) then
    some (.inr (.inr false))
   else
    some (.inl (IntKind.i64.wrap (a+1)))
  else
   some (.inr (.inl ()))
def pq (c:fa):Bd (Int) ((Unit)⊕(Bool))
 | a =>
  if decide (a<(c.aN.length:Int)) then
   (P.idx c.aN a).bind fun b =>
   if decide ((b.length:Int)>8) then
    some (.inr (.inr false))
   else
    (aS (fh b) 0).bind fun q=>match q with
    | (.inl _) =>
     some (.inl (IntKind.i64.wrap (a+1)))
    | (.inr rd) =>
     some (.inr (.inr rd))
  else
   some (.inr (.inl ()))
def lO (b:fa):Option (Bool) :=
 (if decide ((b.aw.length:Int)>5) then
  some true
 else
  if decide ((b.aF.length:Int)>5) then
   some true
  else
   some (decide ((b.aN.length:Int)>8))).bind fun a =>
 if a then
  some false
 else
  (aS (pq b) 0).bind fun q=>match q with
  | (.inl _) =>
   some true
  | (.inr c) =>
   some c
def wJ (d:aX):Bd (Int) ((Unit)⊕(Bool))
 | a =>
  if decide (a<(d.ah.length:Int)) then
   (P.idx d.ah a).bind fun b =>
   (lO b.au).bind fun c =>
   if (!c) then
    some (.inr (.inr false))
   else
    if decide ((b.bc.length:Int)>6) then
     some (.inr (.inr false))
    else
     if decide ((b.aA.length:Int)>6) then
      some (.inr (.inr false))
     else
      some (.inl (IntKind.i64.wrap (a+1)))
  else
   some (.inr (.inl ()))
def zm (b:aX):Option (Bool) :=
 (if decide ((b.al.length:Int)>6) then
  some true
 else
  some (decide ((b.ah.length:Int)>5))).bind fun a =>
 if a then
  some false
 else
  (aS (wJ b) 0).bind fun q=>match q with
  | (.inl _) =>
   some true
  | (.inr c) =>
   some c
def qp (b:(List an)):Bd (Int) ((Unit)⊕(Bool))
 | a =>
  if decide (a<(b.length:Int)) then
   (P.idx b a).bind fun c =>
   (wI c 3).bind fun d =>
   if (!d) then
    some (.inr (.inr false))
   else
    some (.inl (IntKind.i64.wrap (a+1)))
  else
   some (.inr (.inl ()))
def tG (d:(List (List an))):Bd (Int) ((Unit)⊕(Bool))
 | a =>
  (if decide (a<(d.length:Int)) then
   some (decide (a<9))
  else
   some false).bind fun b =>
  if b then
   (P.idx d a).bind fun c =>
   if decide ((c.length:Int)>8) then
    some (.inr (.inr false))
   else
    (aS (qp c) 0).bind fun q=>match q with
    | (.inl _) =>
     some (.inl (IntKind.i64.wrap (a+1)))
    | (.inr e) =>
     some (.inr (.inr e))
  else
   some (.inr (.inl ()))
def zn (a:(List (List an))):Option (Bool) :=
 (aS (tG a) 0).bind fun q=>match q with
 | (.inl _) =>
  some (decide ((a.length:Int)<=8))
 | (.inr b) =>
  some b
def tr (g:(List an)):Bd (Int×Int×(List Int)×Int×(List Int)) ((Int×(List Int)×Int×(List Int)))
 | (e,a,b,c,d) =>
  if decide (e<(g.length:Int)) then
   (P.idx g e).bind fun h =>
   (ik (an.mk (aK.mk a b) (aK.mk c d)) h).bind fun f =>
   some (.inl (IntKind.i64.wrap (e+1),f.1.bL.ax,f.1.bL.aa,f.1.bQ.ax,f.1.bQ.aa))
  else
   some (.inr (a,b,c,d))
def wC (f:(List an)):Option (an) :=
 (fY 0).bind fun e =>
 (aS (tr f) (0,e.bL.ax,e.bL.aa,e.bQ.ax,e.bQ.aa)).bind fun q=>match q with
 | (a,b,c,d) =>
  some (an.mk (aK.mk a b) (aK.mk c d))
def nK (b:(List Int)) (c:(List Int)):Bd (Int) ((Unit)⊕(Bool))
 | a =>
  if decide (a<(b.length:Int)) then
   (P.idx b a).bind fun d =>
   (P.idx c a).bind fun e =>
   if (d != e) then
    some (.inr (.inr false))
   else
    some (.inl (IntKind.i64.wrap (a+1)))
  else
   some (.inr (.inl ()))
def mC (a:(List Int)) (b:(List Int)):Option (Bool) :=
 if ((a.length:Int) != (b.length:Int)) then
  some false
 else
  (aS (nK a b) 0).bind fun q=>match q with
  | (.inl _) =>
   some true
  | (.inr c) =>
   some c
def sQ (a:aK) (b:aK):Option (Bool) :=
 if (a.ax==b.ax) then
  (mC a.aa b.aa).bind fun c =>
  some c
 else
  some false
def qe (a:an) (b:an):Option (Bool) :=
 (sQ a.bL b.bL).bind fun c =>
 if c then
  (sQ a.bQ b.bQ).bind fun d =>
  some d
 else
  some false
def gw (g:(List an)) (i:bj):Bd (Int×Int×(List Int)×Int×(List Int)) ((Int×(List Int)×Int×(List Int))⊕(Bool))
 | (e,a,b,c,d) =>
  if decide (e<(g.length:Int)) then
   (P.idx g e).bind fun h =>
   (gj h).bind fun j =>
   if decide (j<0) then
    some (.inr (.inr false))
   else
    (P.idx i.au.aF e).bind fun k =>
    if (k.aY != 0) then
     (ik (an.mk (aK.mk a b) (aK.mk c d)) h).bind fun f =>
     some (.inl (IntKind.i64.wrap (e+1),f.1.bL.ax,f.1.bL.aa,f.1.bQ.ax,f.1.bQ.aa))
    else
     some (.inl (IntKind.i64.wrap (e+1),a,b,c,d))
  else
   some (.inr (.inl (a,b,c,d)))
def eW (u:aX) (v:(List (List an))) (t:(List (List an))×(List an)×Int):Bd (Int×Int×(List Int)×Int×(List Int)×Int×(List Int)×Int×(List Int)) ((Int×(List Int)×Int×(List Int)×Int×(List Int)×Int×(List Int))⊕(Bool))
 | (a,b,c,d,e,f,g,h,i) =>
  if decide (a<(t.1.length:Int)) then
   (P.idx v a).bind fun r =>
   (wC r).bind fun s =>
   (ik (an.mk (aK.mk b c) (aK.mk d e)) s).bind fun n =>
   (P.idx t.1 a).bind fun o =>
   (P.idx u.ah a).bind fun p =>
   if ((o.length:Int) != (p.au.aF.length:Int)) then
    some (.inr (.inr false))
   else
    (aS (gw o p) (0,f,g,h,i)).bind fun q=>match q with
    | (.inl (j,k,l,m)) =>
     some (.inl (IntKind.i64.wrap (a+1),n.1.bL.ax,n.1.bL.aa,n.1.bQ.ax,n.1.bQ.aa,j,k,l,m))
    | (.inr w) =>
     some (.inr (.inr w))
  else
   some (.inr (.inl (b,c,d,e,f,g,h,i)))
def iZ (g:(List (List an))×(List an)×Int) (h:(List an)):Bd (Int) ((Unit)⊕(Bool))
 | a =>
  if decide (a<(g.2.1.length:Int)) then
   (P.idx g.2.1 a).bind fun b =>
   (gj b).bind fun d =>
   if decide (d<0) then
    some (.inr (.inr false))
   else
    (P.idx h a).bind fun c =>
    (gj c).bind fun e =>
    if decide (e<0) then
     some (.inr (.inr false))
    else
     (jv c b).bind fun f =>
     if decide (f>0) then
      some (.inr (.inr false))
     else
      some (.inl (IntKind.i64.wrap (a+1)))
  else
   some (.inr (.inl ()))
def fp (n:aX) (p:(List (List an))):Option (Bool) :=
 (yt).bind fun r =>
 (zm n).bind fun v =>
 (if (!v) then
  some true
 else
  (zn p).bind fun s =>
  some (!s)).bind fun l =>
 if l then
  some r
 else
  (gm n p).bind fun i =>
  (iA n i.2.1).bind fun t =>
  if (i.2.2 != 0) then
   (if r then
    if ((i.1.length:Int)==0) then
     some ((i.2.1.length:Int)==0)
    else
     some false
   else
    some false).bind fun o =>
   some o
  else
   (if ((i.1.length:Int) != (n.ah.length:Int)) then
    some true
   else
    if ((i.2.1.length:Int) != (n.al.length:Int)) then
     some true
    else
     if ((t.length:Int) != (i.2.1.length:Int)) then
      some true
     else
      some ((p.length:Int) != (i.1.length:Int))).bind fun m =>
   if m then
    some false
   else
    (fY 0).bind fun j =>
    (wC t).bind fun k =>
    (aS (eW n p i) (0,j.bL.ax,j.bL.aa,j.bQ.ax,j.bQ.aa,k.bL.ax,k.bL.aa,k.bQ.ax,k.bQ.aa)).bind fun q=>match q with
    | (.inl (a,b,c,d,e,f,g,h)) =>
     (aS (iZ i t) 0).bind fun q=>match q with
     | (.inl _) =>
      if r then
       (qe (an.mk (aK.mk a b) (aK.mk c d)) (an.mk (aK.mk e f) (aK.mk g h))).bind fun u =>
       some u
      else
       some false
     | (.inr rg) =>
      some rg
    | (.inr rd) =>
     some rd
end Go.Proofs.YtobnihfgnbnncaaGreat.P
namespace Go.Proofs.YtobnihfgnbnncaaGreat.Am
open Go.RowKit Go.Proofs.YtobnihfgnbnncaaGreat.P
set_option maxRecDepth 100000
set_option maxHeartbeats 4000000
def cr.jl {P:Program} {T:Nat->Option Ty} {Γ:Env} (i:jN P T) (j:bY P Γ) (k:P.follows .mixedOrders=true) {α β:Type} {A:km α} {F:α->Option β} {R:β->RK} {mode:Mode} {f:FuncId} {b:Func} {G:Option (D×Row)->List D->Option (RK×Option Row)} (m:P.funcs[f]? = some b)
  (g:((match b.body with|some c=>codeOk c|none=>true)&&(!(b.name == "runtime.NumGoroutine") && !b.body.isNone))=true) (hG:∀l d,G l d=er A F R l d) (n:∀a,Nat.ble (A.ds a).length b.ntmps=true) (h:∀a r,F a=some r->kM mode T Γ FU b none (A.ds a)=some (R r,none)):cr P f G:=by
 have e:G=er A F R:=funext fun l=>funext fun d=>hG l d;subst e;exact cr.ofB i j k m g n h
def aiQ {α:Type} (E:jb α) {l:List α} {x:α} (h:P.idx l 0=some x):E.size<=l.length*E.size∧(av E l).take E.size=E.cells x:=by
 have a:=zi E h;have b:=lp E h;simp only[Int.toNat_zero,ale,akw,akO]at a b;refine⟨b,?_⟩;rw[a,akM (by rw[E.len];exact ajz _),akN (by rw[E.len];exact ajz _)]
def vmt:=ai @W2<|ai @afd<|ai @afe<|ai @acr<|ai @Nz<|ai @Ue<|ai @NA<|ai @NB<|ai @NC<|ai @Uf<|ai @ND<|ai @Ug<|ai @Uh<|ai @Ui<|ai @Uj<|ai @NF<|ai @NG<|ai @acp<|ai @acq<|ai @NH<|ai @NI<|ai @WR<|ai @WS<|ai @WT<|ai @WU<|ai @WV<|ai @Ny<|ai @WW<|ai @WX<|ai @WY<|ai @WZ<|@W0
def jc:jb aK:=BG (og (eI .i64) (fk (eI .i64))) (fun x=>(x.ax,x.aa)) (by rintro⟨⟩ ⟨⟩ h;simpa using h)
def DV (x:aK):jc.cells x=[.int .i64 x.ax,.sl false false x.aa.length (av (eI .i64) x.aa)]:=amh
def Ps (x:aK):aK.mk x.ax x.aa=x:=amh
def ak:jb an:=BG (og jc jc) (fun x=>(x.bL,x.bQ)) (by rintro⟨⟩ ⟨⟩ h;simpa using h)
def BB (x:an):ak.cells x=[.int .i64 x.bL.ax,.sl false false x.bL.aa.length (av (eI .i64) x.bL.aa),.int .i64 x.bQ.ax,.sl false false x.bQ.aa.length (av (eI .i64) x.bQ.aa)]:=amh
def DW:ak.size=4:=amh
def Kk (x:an):an.mk x.bL x.bQ=x:=amh
def eA:jb rU:=BG (og (eI .i64) (og (eI .i64) (og (eI .i64) afx))) (fun x=>(x.aY,x.aR,x.aQ,x.Mz)) (by rintro⟨⟩ ⟨⟩ h;simpa using h)
def DZ (x:rU):eA.cells x=[.int .i64 x.aY,.int .i64 x.aR,.int .i64 x.aQ,.str x.Mz]:=amh
def F5:eA.size=4:=amh
def gr:jb gC:=BG (og (eI .i64) (eI .i64)) (fun x=>(x.bJ,x.aQ)) (by rintro⟨⟩ ⟨⟩ h;simpa using h)
def D0 (x:gC):gr.cells x=[.int .i64 x.bJ,.int .i64 x.aQ]:=amh
def F6:gr.size=2:=amh
def Pu (x:gC):gC.mk x.bJ x.aQ=x:=amh
def bz:jb ib:=BG (og (eI .i64) (og (eI .i64) (eI .i64))) (fun x=>(x.aY,x.aR,x.aQ)) (by rintro⟨⟩ ⟨⟩ h;simpa using h)
def xX (x:ib):bz.cells x=[.int .i64 x.aY,.int .i64 x.aR,.int .i64 x.aQ]:=amh
def zW:bz.size=3:=amh
def xW:jb fa:=BG (og (fk bz) (og (fk eA) (fk (fk ak)))) (fun x=>(x.aw,x.aF,x.aN)) (by rintro⟨⟩ ⟨⟩ h;simpa using h)
def BA (x:fa):xW.cells x=[.sl false false x.aw.length (av bz x.aw),.sl false false x.aF.length (av eA x.aF),.sl false false x.aN.length (av (fk ak) x.aN)]:=amh
def Kj (x:fa):fa.mk x.aw x.aF x.aN=x:=amh
def bx:jb bj:=BG (og xW (og (fk gr) (fk (eI .i64)))) (fun x=>(x.au,x.bc,x.aA)) (by rintro⟨⟩ ⟨⟩ h;simpa using h)
def BC (x:bj):bx.cells x=[.sl false false x.au.aw.length (av bz x.au.aw),.sl false false x.au.aF.length (av eA x.au.aF),.sl false false x.au.aN.length (av (fk ak) x.au.aN),.sl false false x.bc.length (av gr x.bc),.sl false false x.aA.length (av (eI .i64) x.aA)]:=amh
def DX:bx.size=5:=amh
def Kl (x:bj):bj.mk x.au x.bc x.aA=x:=amh
def jP:jb aX:=BG (og (fk (eI .i64)) (fk bx)) (fun x=>(x.al,x.ah)) (by rintro⟨⟩ ⟨⟩ h;simpa using h)
def zX (x:aX):jP.cells x=[.sl false false x.al.length (av (eI .i64) x.al),.sl false false x.ah.length (av bx x.ah)]:=amh
def Gm (x:aX):aX.mk x.al x.ah=x:=amh
def cv:jb cA:=BG (og (eI .i64) (og (eI .i64) ak)) (fun x=>(x.dh,x.kF,x.gp)) (by rintro⟨⟩ ⟨⟩ h;simpa using h)
def se (x:cA):cv.cells x=[.int .i64 x.dh,.int .i64 x.kF,.int .i64 x.gp.bL.ax,.sl false false x.gp.bL.aa.length (av (eI .i64) x.gp.bL.aa),.int .i64 x.gp.bQ.ax,.sl false false x.gp.bQ.aa.length (av (eI .i64) x.gp.bQ.aa)]:=amh
def xY:cv.size=6:=amh
def Km (x:cA):cA.mk x.dh x.kF x.gp=x:=amh
def BD:jb gY:=BG (og (eI .i64) (fk cv)) (fun x=>(x.aA,x.bk)) (by rintro⟨⟩ ⟨⟩ h;simpa using h)
def DY (x:gY):BD.cells x=[.int .i64 x.aA,.sl false false x.bk.length (av cv x.bk)]:=amh
def Pt (x:gY):gY.mk x.aA x.bk=x:=amh
def ch:jb fR:=BG (og (eI .i64) ak) (fun x=>(x.p8,x.je)) (by rintro⟨⟩ ⟨⟩ h;simpa using h)
def BE (x:fR):ch.cells x=[.int .i64 x.p8,.int .i64 x.je.bL.ax,.sl false false x.je.bL.aa.length (av (eI .i64) x.je.bL.aa),.int .i64 x.je.bQ.ax,.sl false false x.je.bQ.aa.length (av (eI .i64) x.je.bQ.aa)]:=amh
def xZ:ch.size=5:=amh
def Kn (x:fR):fR.mk x.p8 x.je=x:=amh
def nN:jb aH:=BG (og ak (fk ch)) (fun x=>(x.bK,x.cF)) (by rintro⟨⟩ ⟨⟩ h;simpa using h)
def pY (x:aH):nN.cells x=[.int .i64 x.bK.bL.ax,.sl false false x.bK.bL.aa.length (av (eI .i64) x.bK.bL.aa),.int .i64 x.bK.bQ.ax,.sl false false x.bK.bQ.aa.length (av (eI .i64) x.bK.bQ.aa),.sl false false x.cF.length (av ch x.cF)]:=amh
def w7:nN.size=5:=amh
def a7:jb aH:=BG (og ak (Pf ch)) (fun x=>(x.bK,x.cF)) (by rintro⟨⟩ ⟨⟩ h;simpa using h)
def eT (x:aH):a7.cells x=[.int .i64 x.bK.bL.ax,.sl false false x.bK.bL.aa.length (av (eI .i64) x.bK.bL.aa),.int .i64 x.bK.bQ.ax,.sl false false x.bK.bQ.aa.length (av (eI .i64) x.bK.bQ.aa),.nx (x.cF).length (av ch (x.cF))]:=amh
def vf:a7.size=5:=amh
def F9 (x:aH):(a7.cells x).map Uu=nN.cells x:=amh
def F8 (x:aH):(a7.cells x).all (AO 5)=true:=by simp[eT,AO,gH,bT,xZ]
def bS:jb (Bool×aH):=agW nN a7 rfl (by intro x y h;simp[pY,eT]at h)
def zY (x:aH):bS.cells (true,x)=[.int .i64 x.bK.bL.ax,.sl false false x.bK.bL.aa.length (av (eI .i64) x.bK.bL.aa),.int .i64 x.bK.bQ.ax,.sl false false x.bK.bQ.aa.length (av (eI .i64) x.bK.bQ.aa),.sl false false x.cF.length (av ch x.cF)]:=amh
def oU (x:aH):bS.cells (false,x)=a7.cells x:=amh
def F7 (x:aH):bS.cells (true,x)=nN.cells x:=amh
def pX:bS.size=5:=amh
def zZ (x:aH):aH.mk x.bK x.cF=x:=amh
def aeN {l:List _} : (av (eI .i64) l).length=l.length*1:=bT _ l
def Ul {l:List _} : (av (eI .i64) l).take (l.length*1)=av (eI .i64) l:=by
 have:=kR (eI .i64) l l.length;rw[alx]at this;exact this
def acw {l:List _} {i:Nat} {x:_} : (av (eI .i64) (l.set i x)).take (l.length*1)=av (eI .i64) (l.set i x):=by
 have:=@Ul (l.set i x)
 rwa [alv]at this
def aeO {l:List _} : (av (fk ak) l).length=l.length*1:=bT _ l
def acs {l:List _} : (av (fk ak) l).take (l.length*1)=av (fk ak) l:=by
 have:=kR (fk ak) l l.length;rw[alx]at this;exact this
def aeP {l:List _} : (av ak l).length=l.length*4:=bT _ l
def acu {l:List _} : (av ak l).take (l.length*4)=av ak l:=by
 have:=kR ak l l.length;rw[alx]at this;exact this
def aeQ {l:List _} : (av bx l).length=l.length*5:=bT _ l
def aeR {l:List _} : (av eA l).length=l.length*4:=bT _ l
def aeS {l:List _} : (av bz l).length=l.length*3:=bT _ l
def aeT {l:List _} : (av cv l).length=l.length*6:=bT _ l
def acv {l:List _} : (av cv l).take (l.length*6)=av cv l:=by
 have:=kR cv l l.length;rw[alx]at this;exact this
def aeU {l:List _} : (av gr l).length=l.length*2:=bT _ l
def abi {l:List _} : (av nN l).length=l.length*5:=bT _ l
def abj {l:List _} : (av bS l).length=l.length*5:=bT _ l
def abk {l:List _} : (av a7 l).length=l.length*5:=bT _ l
end Go.Proofs.YtobnihfgnbnncaaGreat.Am
