import Derived.Test.YtobnihfgnbnncaaGreatLc
set_option linter.unusedSimpArgs false
set_option linter.unusedVariables false
set_option linter.defProp false
noncomputable section
open Go.Proofs.Tryz
namespace Go.Proofs.YtobnihfgnbnncaaGreat.Am
open Go.RowKit Go.Proofs.YtobnihfgnbnncaaGreat.P
def mkW{α β γ:Type}(a:Nat)(E:jq γ)(A:kZ α)(F:List γ->α->Option (List γ×β))(R:β->RK):Option (D×Row)->List D->Option (RK×Option Row):=fun cg b =>
 match cg with
 | some (.buf 0 0 s o n,⟨0,ty',cells,false,true,false⟩)=>open Classical in
  if h:ty'=a∧s=E.size∧∃p:List D×List γ×List D×α,cells=p.1++(aq E p.2.1++p.2.2.1)∧o=p.1.length∧n=p.2.1.length∧b=A.ds p.2.2.2 then
   (F (Classical.choose h.2.2).2.1 (Classical.choose h.2.2).2.2.2).map fun r=>(R r.2,some ⟨0,a,(Classical.choose h.2.2).1++(aq E r.1++(Classical.choose h.2.2).2.2.1),false,true,false⟩)
  else none
 | _=>none
def aam{γ:Type}{E:jq γ}{p a q c:List D}{l b:List γ}(h:p++(aq E l++q)=a++(aq E b++c))(d:p.length=a.length)(e:l.length=b.length):p=a∧l=b∧q=c:=by
 obtain⟨f,g⟩:=aoN h d;obtain⟨i,j⟩:=aoN g (by rw[bQ,bQ,e]);exact⟨f,zP E _ _ i,j⟩
def aeJ{α β γ:Type}(b:Nat)(E:jq γ)(A:kZ α)(F:List γ->α->Option (List γ×β))(R:β->RK)(pre post:List D)(l:List γ)(a:α) :
  mkW b E A F R (some (.buf 0 0 E.size pre.length l.length,⟨0,b,pre++(aq E l++post),false,true,false⟩)) (A.ds a)=(F l a).map fun r=>(R r.2,some ⟨0,b,pre++(aq E r.1++post),false,true,false⟩):=by
 have h:b=b∧E.size=E.size∧∃p:List D×List γ×List D×α,pre++(aq E l++post)=p.1++(aq E p.2.1++p.2.2.1)∧pre.length=p.1.length∧l.length=p.2.1.length∧A.ds a=A.ds p.2.2.2:=⟨rfl,rfl,(pre,l,post,a),rfl,rfl,rfl,rfl⟩;simp only[mkW];rw[dif_pos h];obtain⟨c,d,e,f⟩:=Classical.choose_spec h.2.2;obtain⟨g,i,j⟩:=aam c d e;rw[<- A.inj _ _ f,<- g,<- i,<- j]
def TK{α β γ:Type}{c:Nat}{E:jq γ}{A:kZ α}{F:List γ->α->Option (List γ×β)}{R:β->RK}{cg:Option (D×Row)}{d:List D}{e:RK}{b:Option Row}(h:mkW c E A F R cg d=some (e,b)) :
  ∃pre l post a f r,cg=some (.buf 0 0 E.size pre.length l.length,⟨0,c,pre++(aq E l++post),false,true,false⟩)∧d=A.ds a∧F l a=some (f,r)∧e=R r∧b=some ⟨0,c,pre++(aq E f++post),false,true,false⟩:=by
 unfold mkW at h;split at h
 ·split at h
  ·rename_i g;obtain⟨rfl,rfl,g⟩:=g;rw[am4]at h;grind
  ·cases h
 ·cases h
def b6.aks{P:Program}{T:Nat->Option Ty}{Γ:Env}(j:km P T)(k:bN P Γ)(m:P.follows .mixedOrders=true){α β γ:Type}{e:Nat}{E:jq γ}{A:kZ α}{F:List γ->α->Option (List γ×β)}{R:β->RK}{mode:Mode}{f:FuncId}{b:Func}(i:P.funcs[f]? = some b)(g:(match b.body with|some c=>codeOk c|none=>true)=true)
  (n:(b.name == "runtime.NumGoroutine")=false∧b.body.isNone=false) (o:∀a,(A.ds a).length+1<=b.ntmps)
  (h:∀pre post l a d r,F l a=some (d,r)->lP mode T Γ FU b (some (.buf 0 0 E.size pre.length l.length,⟨0,e,pre++(aq E l++post),false,true,false⟩)) (A.ds a)=some (R r,some ⟨0,e,pre++(aq E d++post),false,true,false⟩)):b6 P f (mkW e E A F R) where
 calls cg am1 rk out p:=by
  obtain⟨pre,l,post,a,d,r,rfl,rfl,q,rfl,rfl⟩:=TK p;exact mT j k m i g (o a) rfl (h pre post l a d r q)
 callable:=⟨b,i,n⟩
def mkE{α γ:Type}(a:Nat)(E:jq γ)(A:kZ α)(F:List γ->α->Option (List γ)):Option (D×Row)->List D->Option (RK×Option Row):=fun cg b =>
 match cg with
 | some (.buf 0 0 s o n,⟨0,ty',cells,false,true,false⟩)=>open Classical in
  if h:ty'=a∧s=E.size∧∃p:List D×List γ×List D×α,cells=p.1++(aq E p.2.1++p.2.2.1)∧o=p.1.length∧n=p.2.1.length∧b=A.ds p.2.2.2 then
   (F (Classical.choose h.2.2).2.1 (Classical.choose h.2.2).2.2.2).map fun r=>(.fresh a E.size r.length (aq E r),none)
  else none
 | _=>none
def aeG{α γ:Type}(b:Nat)(E:jq γ)(A:kZ α)(F:List γ->α->Option (List γ))(pre post:List D)(l:List γ)(a:α) :
  mkE b E A F (some (.buf 0 0 E.size pre.length l.length,⟨0,b,pre++(aq E l++post),false,true,false⟩)) (A.ds a)=(F l a).map fun r=>(.fresh b E.size r.length (aq E r),none):=by
 have h:b=b∧E.size=E.size∧∃p:List D×List γ×List D×α,pre++(aq E l++post)=p.1++(aq E p.2.1++p.2.2.1)∧pre.length=p.1.length∧l.length=p.2.1.length∧A.ds a=A.ds p.2.2.2:=⟨rfl,rfl,(pre,l,post,a),rfl,rfl,rfl,rfl⟩;simp only[mkE];rw[dif_pos h];obtain⟨c,d,e,f⟩:=Classical.choose_spec h.2.2;obtain⟨i,g,j⟩:=aam c d e;rw[<- A.inj _ _ f,<- g]
def TJ{α γ:Type}{c:Nat}{E:jq γ}{A:kZ α}{F:List γ->α->Option (List γ)}{cg:Option (D×Row)}{d:List D}{e:RK}{b:Option Row}(h:mkE c E A F cg d=some (e,b)) :
  ∃pre l post a r,cg=some (.buf 0 0 E.size pre.length l.length,⟨0,c,pre++(aq E l++post),false,true,false⟩)∧d=A.ds a∧F l a=some r∧e=.fresh c E.size r.length (aq E r)∧b=none:=by
 unfold mkE at h;split at h
 ·split at h
  ·rename_i f;obtain⟨rfl,rfl,f⟩:=f;rw[am4]at h;grind
  ·cases h
 ·cases h
def b6.akr{P:Program}{T:Nat->Option Ty}{Γ:Env}(i:km P T)(j:bN P Γ)(k:P.follows .mixedOrders=true){α γ:Type}{d:Nat}{E:jq γ}{A:kZ α}{F:List γ->α->Option (List γ)}{f:FuncId}{b:Func}(g:P.funcs[f]? = some b)(e:(match b.body with|some c=>codeOk c|none=>true)=true)
  (m:(b.name == "runtime.NumGoroutine")=false∧b.body.isNone=false) (n:∀a,(A.ds a).length+1<=b.ntmps)
  (h:∀pre post l a r,F l a=some r->lP (.fresh d E.size) T Γ FU b (some (.buf 0 0 E.size pre.length l.length,⟨0,d,pre++(aq E l++post),false,true,false⟩)) (A.ds a)=some (.fresh d E.size r.length (aq E r),none)):b6 P f (mkE d E A F) where
 calls cg am1 rk out o:=by
  obtain⟨pre,l,post,a,r,rfl,rfl,p,rfl,rfl⟩:=TJ o;exact mT i j k g e (n a) rfl (h pre post l a r p)
 callable:=⟨b,g,m⟩
def b6.zero{P:Program}{f:FuncId}{b:Func}(c:P.funcs[f]? = some b)(d:(b.name == "runtime.NumGoroutine")=false∧b.body.isNone=false){α β:Type}{A:kZ α}{F:α->Option β}{R:β->RK}(g:∀a,F a=none):b6 P f (dx A F R) where
 calls cg am1 rk out e:=by
  obtain⟨rfl,rfl,a,r,rfl,h,rfl⟩:=uV e;simp_all
 callable:=⟨b,c,d⟩
section
variable {h:Nat->Option Row} {Γ:Env} {g e x v d:Nat} {dst:Option Nat} {fr:List Nat} {am1 rest:List D} {d0:D} {T:Nat->Option Ty} {rs:List ResultVar}
def Rg(h:Nat->Option Row)(e:Nat)(dst:Option Nat)(x v:Nat)(fr:List Nat):Option (RK×Option Row)->Option cI
 | some (.clean c,some a)=>some ⟨c,lJ h fr++[(x,some { a with v:=v })]⟩
 | some (.same s o n,some a)=>some ⟨.buf x v s o n,lJ h fr++[(x,some { a with v:=v })]⟩
 | some (.fresh b s n cells,none) =>
  match dst with
  | some d=>if fr.contains d=false then some ⟨.buf d e s 0 n,lJ h fr++[(x,none),(d,some ⟨e,b,cells,false,true,false⟩)]⟩ else none
  | none=>none
 | _=>none
def ac7(Γ:Env)(h:Nat->Option Row)(e:Nat)(dst:Option Nat)(g x v:Nat)(d0:D)(r:Row):Option (List D×List Nat)->Option cI
 | some (am1,fr)=>if fr.contains x=false then Rg h e dst x v fr (Γ.sem g (some (d0,r)) am1) else none
 | none=>none
def Rf(Γ:Env)(h:Nat->Option Row)(e:Nat)(dst:Option Nat)(g x v:Nat)(d0:D)(rest:List D):Option Row->Option cI
 | some r=>if r.fz=false then ac7 Γ h e dst g x v d0 { r with v:=0 } (cc h rest) else none
 | none=>none
def Rh{s o n:Nat}:GZ true Γ h e dst g (.buf x v s o n::rest)=Rf Γ h e dst g x v (.buf 0 0 s o n) rest (live h x v):=by
 simp only[GZ,if_true,uw,DO];cases live h x v with
 | none=>rfl
 | some r =>
  simp only[Rf];cases cc h rest with
  | none=>rfl
  | some p=>rfl
def lvR(v:Nat):Option Row->Option Row
 | some r=>if r.v=v∧r.mp=true∧ze r=true then some r else none
 | none=>none
def TC{v b:Nat}{d:List eE}{e:List D}{f a:Bool}(c:b<900000):lvR v (some ⟨v,b,[.mpc d e],f,a,true⟩)=some ⟨v,b,[.mpc d e],f,a,true⟩:=by simp[lvR,ze,c]
def Ym:GZ true Γ h e dst g (.mp x v::rest)=Rf Γ h e dst g x v (.mp 0 0) rest (lvR v (h x)):=by
 simp only[GZ,if_true,uw,DO];have:CH h x v=lvR v (h x):=by unfold CH lvR;cases h x<;>rfl
 rw[this];cases lvR v (h x) with
 | none=>rfl
 | some r =>
  simp only[Rf];cases cc h rest with
  | none=>rfl
  | some p=>rfl
def Dh{c:D}{f b:Nat}{cells:List D}{d a:Bool}:Rg h e dst x v fr (some (.clean c,some ⟨f,b,cells,d,a,true⟩))=some ⟨c,lJ h fr++[(x,some ⟨v,b,cells,d,a,true⟩)]⟩:=apL
def H3{r:Row}:Rf Γ h e dst g x v d0 rest (some r)=if r.fz=false then ac7 Γ h e dst g x v d0 { r with v:=0 } (cc h rest) else none:=apL
def H4{r:Row}:ac7 Γ h e dst g x v d0 r (some (am1,fr))=if fr.contains x=false then Rg h e dst x v fr (Γ.sem g (some (d0,r)) am1) else none:=apL
def FX{c:D}{f b:Nat}{cells:List D}{d a:Bool}:Rg h e dst x v fr (some (.clean c,some ⟨f,b,cells,d,a,false⟩))=some ⟨c,lJ h fr++[(x,some ⟨v,b,cells,d,a,false⟩)]⟩:=apL
def FY{s n a:Nat}{cells:List D}:Rg h e (some d) x v fr (some (.fresh a s n cells,none))=if fr.contains d=false then some ⟨.buf d e s 0 n,lJ h fr++[(x,none),(d,some ⟨e,a,cells,false,true,false⟩)]⟩ else none:=apL
def Gl{a b i:Nat}{t:Nat->D}{l:D×Row}:gF (.fresh a b) T (some l) [.tmp i] ⟨t,h,e⟩=tU a b h (t i):=apL
def aki(y v s o:Nat):Option Row->Option Ty->Option (Nat×Nat)->Option cI
 | some _,some φ,some (l,k)=>if φ.size=s∧0<s then some ⟨.buf y v s (o+l*s) (k-l),[]⟩ else none
 | _,_,_=>none
def M6{y v s o l k:Nat}{r:Row}{φ:Ty}:aki y v s o (some r) (some φ) (some (l,k))=if φ.size=s∧0<s then some ⟨.buf y v s (o+l*s) (k-l),[]⟩ else none:=apL
def YI{el b c y v s o n:Nat}{z:List Value}{q:Bool}{a d:Option D}:jx T ⟨.slice el,b,c,z,q⟩ h (.buf y v s o n) a d none=aki y v s o (live h y v) (T el) (Ce n a d):=by
 simp only[jx];cases live h y v with
 | none=>rfl
 | some r =>
  simp only;cases T el with
  | none=>rfl
  | some φ =>
   cases Ce n a d with
   | none=>rfl
   | some p=>rfl
def aiQ(a:Nat):Option (List D×List Nat)->Option Row->Option (RK×Option Row)
 | some (b,fr),some r=>if r.v=0∧r.fz=false∧r.ty=a∧r.mp=false∧fr.contains 0=false then some (.clean (pe b),some r) else none
 | _,_=>none
def M0{a:Nat}{b:List D}{r:Row}:aiQ a (some (b,fr)) (some r)=if r.v=0∧r.fz=false∧r.ty=a∧r.mp=false∧fr.contains 0=false then some (.clean (pe b),some r) else none:=apL
def M3{t:Nat->D}{b v:Nat}{cells:List D}{d c:Bool}:gF .clean T (some (d0,⟨v,b,cells,d,c,false⟩)) rs ⟨t,h,e⟩=aiQ b (AB T ⟨t,h,e⟩ rs) (h 0):=by
 simp only[gF,uJ,oN,aeV,aiQ];cases AB T ⟨t,h,e⟩ rs with
 | none=>rfl
 | some p =>
  obtain⟨f,fr⟩:=p;cases h 0 with
  | none=>rfl
  | some r =>
   simp only
   by_cases a:r.v=0∧r.fz=false∧r.ty=b∧r.mp=false
   ·rw[if_pos ⟨a.1,a.2.1,a.2.2.1,a.2.2.2,Jy a.2.2.2⟩];simp_all
   simp_all
def YG(a:Nat):Option (List D×List Nat)->Option Row->Option (RK×Option Row)
 | some (b,fr),some r=>if r.v=0∧r.fz=false∧r.ty=a∧(r.mp=true∧ze r=true)∧fr.contains 0=false then some (.clean (pe b),some r) else none
 | _,_=>none
def IK{b:Nat}{d:List D}{e:List eE}{f:List D}{a:Bool}(c:b<900000):YG b (some (d,fr)) (some ⟨0,b,[.mpc e f],false,a,true⟩)=if fr.contains 0=false then some (.clean (pe d),some ⟨0,b,[.mpc e f],false,a,true⟩) else none:=by
 simp[YG,ze,c]
def IN{t:Nat->D}{b v:Nat}{cells:List D}{c a:Bool}:gF .clean T (some (d0,⟨v,b,cells,c,a,true⟩)) rs ⟨t,h,e⟩=YG b (AB T ⟨t,h,e⟩ rs) (h 0):=by
 simp only[gF,uJ,oN,aeV,YG];grind
end
section
variable {α:Type} (E:jq α) {l m u x:List α} {y y':α} {i a b:Int} {pre post:List D}
def ahA(h:Hj l a b=some x):aq E (l.take a.toNat)++(aq E x++aq E (l.drop b.toNat))=aq E l:=by
 unfold Hj at h;split at h
 ·rename_i c;cases h;rw[<- je,<- je];congr 1;have e:l.drop b.toNat=(l.drop a.toNat).drop (b.toNat-a.toNat):=by rw[aoB];congr 1;omega
  rw[e,aoC,aoC]
 ·cases h
def ahB(h:Hj l a b=some x):(aq E (l.take a.toNat)).length=a.toNat*E.size:=by
 unfold Hj at h;split at h
 ·rw[bQ,ann,aoX (by omega)]
 ·cases h
def aiv(h:Hj l a b=some x):x.length=b.toNat-a.toNat:=by
 unfold Hj at h;grind
def ahz:aq E (l.take i.toNat)++(aq E u++aq E (l.drop b.toNat))=aq E (l.take i.toNat++(u++l.drop b.toNat)):=by rw[je,je]
def aeb(h:P.idx l i=some y):(pre++(aq E l++post)).drop (pre.length+i.toNat*E.size)=E.cells y++(aq E (l.drop (i.toNat+1))++post):=by
 rw[<- aoB,List.drop_left,aoS (by rw[bQ];have:=lq E h;omega),Bj E h,aoK]
def aec(h:P.idx l i=some y):pre.length+i.toNat*E.size+E.size<=(pre++(aq E l++post)).length:=by
 have:=lq E h;rw[an7,an7,bQ];omega
def S3(h:P.idx l i=some y):(0<=i∧i<l.length)∧(pre++(aq E l++post)).drop (pre.length+i.toNat*E.size)=E.cells y++(aq E (l.drop (i.toNat+1))++post)∧pre.length+i.toNat*E.size+E.size<=(pre++(aq E l++post)).length:=⟨uQ h,aeb E h,aec E h⟩
def Uu(h:P.idx l i=some y):putCells (pre++(aq E l++post)) (pre.length+i.toNat*E.size) (E.cells y')=pre++(aq E (l.set i.toNat y')++post):=by
 have a:=ae5 E (x':=y') h;have b:=lq E h;have c:=bQ E l;unfold putCells at a ⊢;rw[<- a,E.len];have d:(pre++(aq E l++post)).take (pre.length+i.toNat*E.size)=pre++(aq E l).take (i.toNat*E.size):=by
  grind
 have e:(pre++(aq E l++post)).drop (pre.length+i.toNat*E.size+E.size)=(aq E l).drop (i.toNat*E.size+E.size)++post:=by
  rw[anp,aow,aox (by omega),aoQ,aoy,aoS (by omega)]
 simp_all
def afY(h:Hj l a b=some x)(c:u.length=x.length):(l.take a.toNat++(u++l.drop b.toNat)).length=l.length:=by
 have d:=aiv h;unfold Hj at h;grind
def ahn(h:Hj l 0 b=some x):pre.length+x.length*E.size<=(pre++(aq E l++post)).length∧((pre++(aq E l++post)).drop pre.length).take (x.length*E.size)=aq E x:=by
 obtain⟨d,e,a,f,c⟩:=Qm E h;have:=anM E.size a;refine⟨by rw[an7,an7,bQ];omega,?_⟩;rw[List.drop_left,aoR (by rw[bQ];exact this),c]
end
section
variable {h:Nat->Option Row} {Γ:Env} {e:Nat} {dst:Option Nat}
def caP:Option (D×List Nat)->Option (List D×List Nat)->Option (List D×List Nat)
 | some (d,fr),some (ds,a)=>some (d::ds,fr++a)
 | _,_=>none
def Re{d:D}{b:List D}{fr a:List Nat}:caP (some (d,fr)) (some (b,a))=some (d::b,fr++a):=apL
def Rs:eF h []=some ([],[]):=apL
def Ms{d:D}{a:List D}:eF h (d::a)=caP (b7 h d) (eF h a):=by
 simp only[eF];cases b7 h d with
 | none=>rfl
 | some x=>cases eF h a<;>rfl
def clC(f k:Nat):Option (List D×List Nat)->Option (D×List Nat)
 | some (a,fr)=>some (.clo f k a,fr)
 | none=>none
def RD{f k:Nat}{a:List D}{fr:List Nat}:clC f k (some (a,fr))=some (.clo f k a,fr):=apL
def Rv{f k:Nat}{a:List D}:cO h (.clo f k a)=clC f k (eF h a):=by
 simp only[cO]<;>cases eF h a<;>rfl
def Rp{g k:Nat}{a b:List D}:kD Γ h e dst (.clo g k a) b=if a.all vT then GZ false Γ h e dst g (a.take k++(b++a.drop k)) else none:=by
 simp only[kD,GZ,anD,if_false]
end
def Kn:pe []=.tup []:=apL
def QT(f:Nat):Arg Unit:=⟨fun _ =>.fn f,fun _ _ _=>rfl⟩
def ahM{f:Nat}{x:Unit}:(QT f).d x=.fn f:=apL
def OY{α:Type}(f k:Nat)(a:kZ α):Arg α:=⟨fun x =>.clo f k (a.ds x),fun x y h=>a.inj _ _ (by simpa using h)⟩
def acK{α:Type}{f k:Nat}{a:kZ α}{x:α}:(OY f k a).d x=.clo f k (a.ds x):=apL
def vm7:=ai @Re<|ai @Rs<|ai @Ms<|ai @RD<|ai @Rv<|ai @Rp<|ai @Kn<|ai @Dq<|@Hq
def vm6:=ai @UD<|ai @an0<|ai @YI<|ai @M6<|ai @FY<|ai @Gl<|ai @Rh<|ai @Ym<|ai @TC<|ai @Dh<|ai @IK<|ai @IN<|ai @H3<|ai @H4<|ai @FX<|ai @M0<|@M3
section
variable {T:Nat->Option Ty} {h:Nat->Option Row} {τ:Ty} {q:Nat->Bool}
def aep{x v o:Nat}:uD τ h (.ptr x v o)=wz τ h x v o (live h x v):=apL
def ah1{a:List D}:uD τ h (.ip a)=gi τ h (.ip a):=apL
def ahZ{x v o a b:Nat}{c:List D}{d:Bool}:wz τ h x v o (some ⟨a,b,c,d,true,false⟩)=gi τ h (.ptr x v o):=by
 simp only[wz,aor,Bool.and_false,anD,if_false]
def ah0{x v o b d:Nat}{c:List D}{a:Bool}:wz τ h x v o (some ⟨b,d,c,false,a,false⟩)=gi τ h (.ptr x v o):=by
 simp only[wz,Bool.false_and,anD,if_false]
def ZY{p:D}{k:IntKind}{n:Int}:jy τ h p (.int k n)=jz τ h p (.int k n):=apL
def ZX{p:D}{x v s o n:Nat}:jy τ h p (.buf x v s o n)=jz τ h p (.buf x v s o n):=apL
def ZW{p:D}{a:List D}:jy τ h p (.agg a)=jz τ h p (.agg a):=apL
def akd(b:Bool)(T:Nat->Option Ty)(τ:Ty)(h:Nat->Option Row)(c:List (Nat×D)):Option cI :=
 if b then jw T τ h c else
  match τ.ds,c with
  | .struct a,[(0,.buf x v s o n)]=>if (alive h (.buf x v s o n))∧(a.all fun f=>(T f.1).isSome)∧fieldAt T a 0=some (0,1)∧τ.zero.length=1 then some ⟨.box1 x v s o n,[]⟩ else none
  | .struct a,[(0,.box1 x v s o n)]=>if (alive h (.buf x v s o n))∧(a.all fun f=>(T f.1).isSome)∧fieldAt T a 0=some (0,1)∧τ.zero.length=1 then some ⟨.box1 x v s o n,[]⟩ else none
  | _,_=>cE (jw T τ h c)
def Yj{d:Nat}{a:List (Nat×D)}:uB q T τ h (some d) a=akd (q d) T τ h a:=apL
def Md{a:List (Nat×D)}:akd true T τ h a=jw T τ h a:=apL
def L3{x v s o n:Nat}:alive h (.buf x v s o n)=(sC h x v).isSome:=apL
end
def vm8:=ai @aep<|ai @ah1<|ai @ahZ<|ai @ah0<|ai @ZY<|ai @ZX<|ai @ZW<|ai @Yj<|ai @Md<|@L3
def alO:=ai @acp<|ai @ahC<|ai @Oj<|ai @ZM<|ai @afh<|ai @TQ<|ai @TP<|ai @aio<|ai @No<|ai @Nn<|ai @Sz<|ai @NQ<|ai @JI<|ai @TS<|ai @ZE<|ai @ZK<|ai @Tq<|ai @aeC<|ai @Y5<|ai @Nt<|ai @Y3<|ai @Ti<|ai @Y4<|ai @ZT<|ai @Ow<|ai @Ox<|ai @Ov<|ai @U6<|ai @OB<|ai @Um<|ai @Ul<|ai @Y2<|ai @aen<|ai @aeo<|ai @Ns<|ai @ZQ<|ai @afs<|ai @aft<|ai @U9<|ai @U8<|ai @ON<|ai @OO<|ai @K5<|ai @aaq<|ai @aap<|ai @Vu<|ai @aai<|ai @afP<|ai @Zw<|ai @aeW<|@mj
def alP:=ai @YL<|ai @Td<|ai @NM<|ai @T3<|ai @JM<|ai @T5<|ai @T4<|ai @NU<|ai @T2<|ai @T1<|ai @Oq<|ai @Oz<|ai @Oo<|ai @Oy<|ai @ZR<|ai @ZU<|ai @Ot<|ai @OA<|ai @NC<|ai @ND<|ai @Q4<|ai @Q5<|ai @U4<|ai @Ou<|ai @U5<|ai @L8<|ai @L7<|@sC.eq_1
def alQ:=ai @adW<|ai @YY<|ai @YV<|ai @Zu<|ai @NL<|ai @NO<|ai @Tt<|ai @Tw<|ai @Ju<|ai @Tx<|ai @Tv<|ai @Nx<|ai @Ts<|ai @Tr<|ai @Tu<|ai @TZ<|ai @TW<|ai @JL<|ai @T0<|ai @TY<|ai @NT<|ai @TV<|ai @TU<|ai @TX<|ai @Mo<|ai @F3<|ai @F1<|ai @F2<|ai @RJ<|ai @RL<|ai @adM<|ai @Yz<|ai @adL<|ai @Yy<|ai @Sb<|ai @Sc<|ai @Rl<|ai @Mn<|ai @U1<|ai @On<|ai @U2<|ai @DF<|ai @MZ<|ai @MY<|ai @YH<|ai @Sn<|ai @YE<|ai @MX<|@Sl
def v:=ai @vmc<|ai @vmk<|ai @vm1<|ai @vm2<|ai @vm3<|ai @vm4<|ai @vm5<|ai @vm6<|ai @vm7<|ai @vm8<|ai @alM<|ai @alO<|ai @alP<|ai @alQ<|ai @vmu<|ai @Option.toList_some.{0}<|@Option.toList_none.{0}
class FT(κ:Type) where
 k:κ->eE
 inj:∀x y,k x=k y->x=y
instance:FT Int:=⟨fun n=>(n,none),fun x y h=>by simpa using h⟩
instance:FT (Int×Int):=⟨fun p=>(p.1,some p.2),fun x y h=>by
 grind⟩
def fW{κ α:Type}[FT κ]:List (κ×α)->List eE
 | []=>[]
 | (k,_)::m=>FT.k k::fW m
def iW{κ α:Type}(A:Arg α):List (κ×α)->List D
 | []=>[]
 | (_,v)::m=>A.d v::iW A m
section
variable {κ α:Type} [FT κ] {A:Arg α}
def YZ(k n:κ):FT.k k=FT.k n↔k=n:=⟨FT.inj _ _,fun h=>by rw[h]⟩
def TG[DecidableEq κ](n:κ):∀m:List (κ×α),(fW m).contains (FT.k n)=qG m n
 | []=>rfl
 | (k,v)::m=>by
  have:=TG n m;simp only[fW,an0,qG,this];congr 1
  by_cases h:k=n
  ·simp_all
  ·rw[beq_eq_false_iff_ne.2 h,beq_eq_false_iff_ne.2 (fun e=>h (FT.inj _ _ e.symm))]
def TH:∀m:List (κ×α),(fW m).length=m.length
 | []=>rfl
 | (k,v)::m=>by simp[fW,TH m]
def Ny[DecidableEq κ](z:α)(n:κ):∀m:List (κ×α),vP (A.d z) (fW m) (iW A m) (FT.k n)=A.d (ib z m n)
 | []=>rfl
 | (k,v)::m=>by
  simp only[fW,iW,vP,ib,Ny z n m,YZ];grind
def Ur[DecidableEq κ](n:κ)(v:α):∀m:List (κ×α),CT (fW m) (FT.k n)=fW (u4 m n v)
 | []=>rfl
 | (k,x)::m=>by
  have a:=Ur n v m;unfold CT at a ⊢;simp only[fW,u4,an0]
  by_cases h:k=n
  ·subst h;simp[fW]
  ·have b:(FT.k n==FT.k k)=false:=by simpa [YZ] using Ne.symm h
   rw[b,an1,if_neg h];simp only[fW];grind
def Ut[DecidableEq κ](n:κ)(v:α):∀m:List (κ×α),Hg (fW m) (iW A m) (FT.k n) (A.d v)=iW A (u4 m n v)
 | []=>rfl
 | (k,x)::m=>by
  have a:=Ut n v m;unfold Hg at a ⊢;simp only[fW,iW,u4,an0]
  by_cases h:k=n
  ·subst h;simp[iW,anZ]
  ·have b:(FT.k n==FT.k k)=false:=by simpa [YZ] using Ne.symm h
   have c:(FT.k k==FT.k n)=false:=by grind
   rw[b,an1,if_neg h];simp only[iW,anZ,c,cond_false];grind
def map_inj:∀{m a:List (κ×α)},fW m=fW a->iW A m=iW A a->m=a
 | [],[],_,_=>rfl
 | [],(k,v)::a,h,_=>by simp[fW]at h
 | (k,v)::m,[],h,_=>by simp[fW]at h
 | (k,v)::m,(k',v')::a,h,g=>by
  simp only[fW,ans,YZ]at h;simp only[iW,ans]at g;rw[h.1,A.inj _ _ g.1,map_inj h.2 g.2]
end
def Nr{α:Type}{a b:Int}{m:List ((Int×Int)×α)}:wP true (a,some b) (fW m)=true:=by
 unfold wP;simp only[anF];refine⟨rfl,?_⟩
 induction m with
 | nil=>rfl
 | cons p m c=>simp only[fW,List.all_cons,anF];exact⟨rfl,c⟩
def kE{κ ν α β:Type}[FT κ](a:Nat)(V:Arg ν)(A:kZ α)(F:List (κ×ν)->α->Option (List (κ×ν)×β))(R:β->RK):Option (D×Row)->List D->Option (RK×Option Row):=fun cg b =>
 match cg with
 | some (.mp 0 0,⟨0,ty',[.mpc ks vs],false,true,true⟩)=>open Classical in
  if h:ty'=a∧∃p:List (κ×ν)×α,ks=fW p.1∧vs=iW V p.1∧b=A.ds p.2 then
   (F (Classical.choose h.2).1 (Classical.choose h.2).2).map fun r=>(R r.2,some ⟨0,a,[.mpc (fW r.1) (iW V r.1)],false,true,true⟩)
  else none
 | _=>none
def ai4{κ ν α β:Type}[FT κ](b:Nat)(V:Arg ν)(A:kZ α)(F:List (κ×ν)->α->Option (List (κ×ν)×β))(R:β->RK)(l:List (κ×ν))(a:α) :
  kE b V A F R (some (.mp 0 0,⟨0,b,[.mpc (fW l) (iW V l)],false,true,true⟩)) (A.ds a)=(F l a).map fun r=>(R r.2,some ⟨0,b,[.mpc (fW r.1) (iW V r.1)],false,true,true⟩):=by
 have h:b=b∧∃p:List (κ×ν)×α,fW l=fW p.1∧iW V l=iW V p.1∧A.ds a=A.ds p.2:=⟨rfl,(l,a),rfl,rfl,rfl⟩;simp only[kE];rw[dif_pos h];obtain⟨c,d,e⟩:=Classical.choose_spec h.2;rw[<- A.inj _ _ e,<- map_inj c d]
def aeI{κ ν α β:Type}[FT κ]{c:Nat}{V:Arg ν}{A:kZ α}{F:List (κ×ν)->α->Option (List (κ×ν)×β)}{R:β->RK}{cg:Option (D×Row)}{e:List D}{f:RK}{b:Option Row}(h:kE c V A F R cg e=some (f,b)) :
  ∃l a d r,cg=some (.mp 0 0,⟨0,c,[.mpc (fW l) (iW V l)],false,true,true⟩)∧e=A.ds a∧F l a=some (d,r)∧f=R r∧b=some ⟨0,c,[.mpc (fW d) (iW V d)],false,true,true⟩:=by
 unfold kE at h;split at h
 ·split at h
  ·rename_i g;obtain⟨rfl,g⟩:=g;rw[am4]at h;grind
  ·cases h
 ·cases h
def b6.aew{P:Program}{T:Nat->Option Ty}{Γ:Env}(j:km P T)(k:bN P Γ)(m:P.follows .mixedOrders=true){κ ν α β:Type}[FT κ]{e:Nat}{V:Arg ν}{A:kZ α}{F:List (κ×ν)->α->Option (List (κ×ν)×β)}{R:β->RK}{f:FuncId}{b:Func}(i:P.funcs[f]? = some b)(g:(match b.body with|some c=>codeOk c|none=>true)=true)
  (n:(b.name == "runtime.NumGoroutine")=false∧b.body.isNone=false) (o:∀a,(A.ds a).length+1<=b.ntmps)
  (h:∀l a d r,F l a=some (d,r)->lP .clean T Γ FU b (some (.mp 0 0,⟨0,e,[.mpc (fW l) (iW V l)],false,true,true⟩)) (A.ds a)=some (R r,some ⟨0,e,[.mpc (fW d) (iW V d)],false,true,true⟩)):b6 P f (kE e V A F R) where
 calls cg am1 rk out p:=by
  obtain⟨l,a,d,r,rfl,rfl,q,rfl,rfl⟩:=aeI p;exact mT j k m i g (o a) rfl (h l a d r q)
 callable:=⟨b,i,n⟩
def Vt{T:Nat->Option Ty}{Γ:Env}{F:Nat}{a:Mode}{e:Func}{c:Code}{n:Nat}{rs:List ResultVar}{d0:D}{f:Nat}{cells:List D}{g d:Bool}{b:List D}{r:RK×Option Row}(j:e.body=some c)(i:e.ntmps=n)(k:e.results=rs.toArray)
  (l:er T Γ n F [.code c] (adT a T (some (d0,⟨0,f,cells,g,d,true⟩)) rs r) .normal (Dd (d0::b)) (pP ⟨0,f,cells,g,d,true⟩) 1) (h:n<=1000000:=by exact aov rfl):lP a T Γ F e (some (d0,⟨0,f,cells,g,d,true⟩)) b=some r:=by
 refine XO ?_ (by rw[i];exact h);unfold wpf;rw[j,i,k];exact l
def aIp{α:Type}(e:jq α):Arg α:=⟨fun x =>.ip (e.cells x),fun x y h=>e.inj _ _ (by simpa using h)⟩
def Ya{α:Type}(e:jq α)(x:α):(aIp e).d x=.ip (e.cells x):=apL
section
variable {T:Nat->Option Ty} {h:Nat->Option Row} {Γ:Env} {e:Nat} {dst:Option Nat}
def lvM(v:Nat):Option Row->Option (List eE×List D)
 | some r=>if r.v=v∧r.mp=true∧r.ty<900000 then (match r.cells with | [.mpc a b]=>some (a,b)|_=>none) else none
 | none=>none
def Tp{x v:Nat}:nP h x v=lvM v (h x):=by
 unfold nP lvM;cases h x<;>rfl
def TB{v c:Nat}{d:List eE}{e:List D}{f a:Bool}(b:c<900000):lvM v (some ⟨v,c,[.mpc d e],f,a,true⟩)=some (d,e):=by simp[lvM,b]
def lkK(a:List eE)(n:eE):Bool:=a.contains n
def Y8{α:Type}{m:List ((Int×Int)×α)}{a b:Int}:lkK (fW m) (a,some b)=qG m (a,b):=TG (a,b) m
def lkE(b d:Bool)(z:D)(n:eE):Option (List eE×List D)->Option cI
 | some (a,c)=>if wP b n a=true then some ⟨if d then .tup [vP z a c n,.bool (lkK a n)] else vP z a c n,[]⟩ else none
 | none=>none
def aid{b:Bool}{z:D}{n:eE}{a:List eE}{c:List D}:lkE b true z n (some (a,c))=if wP b n a=true then some ⟨.tup [vP z a c n,.bool (lkK a n)],[]⟩ else none:=apL
def aao(T:Nat->Option Ty)(τ:Ty)(b:Bool)(d:D):Prop:=∃φ z,Jz T τ=some (b,φ)∧mE φ (φ.zero.map sf)=some z∧(φ.zero.map sf).all bH=true∧kJ z=d
def ai1{τ:Ty}{b:Bool}{d:D}(c:aao T τ b d){m i:D}{n:eE}{a:Bool}(e:abd i=some n):jT T τ h m i a=lkE b a d n (mapOf h m):=by
 obtain⟨φ,z,f,g,j,rfl⟩:=c;simp only[jT,f,e,lkE,lkK];grind
def TI{x v:Nat}:mapOf h (.mp x v)=nP h x v:=apL
def muR(b:Bool)(h:Nat->Option Row)(y:Nat)(n:eE)(d:D)(fr:List Nat)(a:List eE)(c:List D):Option Row->Option cI
 | some r=>if wP b n a=true∧r.fz=false∧fr.contains y=false then some ⟨.und,lJ h fr++[(y,some ⟨r.v,r.ty,[.mpc (CT a n) (Hg a c n d)],false,true,true⟩)]⟩ else none
 | none=>none
def TN{b:Bool}{y v e:Nat}{n:eE}{d:D}{fr:List Nat}{a:List eE}{f:List D}{cells:List D}{c mp:Bool}:muR b h y n d fr a f (some ⟨v,e,cells,false,c,mp⟩)=if wP b n a=true then (if fr.contains y=false then some ⟨.und,lJ h fr++[(y,some ⟨v,e,[.mpc (CT a n) (Hg a f n d)],false,true,true⟩)]⟩ else none) else none:=by
 simp only[muR,true_and];grind
def muM(b:Bool)(h:Nat->Option Row)(y:Nat)(n:eE)(d:D)(fr:List Nat):Option (List eE×List D)->Option cI
 | some (ks,vs)=>muR b h y n d fr ks vs (h y)
 | none=>none
def TM{b:Bool}{y:Nat}{n:eE}{d:D}{fr:List Nat}{a:List eE}{c:List D}:muM b h y n d fr (some (a,c))=muR b h y n d fr a c (h y):=apL
def muE(b:Bool)(h:Nat->Option Row)(y v:Nat)(n:eE):Option (D×List Nat)->Option cI
 | some (d,fr)=>muM b h y n d fr (nP h y v)
 | none=>none
def TL{b:Bool}{y v:Nat}{n:eE}{d:D}{fr:List Nat}:muE b h y v n (some (d,fr))=muM b h y n d fr (nP h y v):=apL
def ai6{τ:Ty}{b:Bool}{d:D}(a:aao T τ b d){y v:Nat}{n:eE}{i x:D}(c:abd i=some n):fh T τ h (.mp y v) i x=muE b h y v n (BO h x):=by
 obtain⟨φ,z,e,_⟩:=a;simp only[fh,e,c];cases BO h x with
 | none=>rfl
 | some p =>
  obtain⟨d,fr⟩:=p;simp only[muE];cases f:nP h y v with
  | none=>simp only[muM]<;>cases h y<;>rfl
  | some q =>
   obtain⟨g,j⟩:=q;simp only[muM]<;>cases h y<;>rfl
def NA{κ α:Type}[FT κ]{m:List (κ×α)}:(fW m).length=m.length:=TH m
def Vr{a:List D}:BO h (.agg a)=some (.agg (a.map canon),[]):=apL
def agW{τ:Ty}{b:Bool}{d:D}(g:aao T τ b d){a c:Nat}(f:a<900000):aeN T (some τ) a e c=some ⟨.mp c e,[(c,some ⟨e,a,[.mpc [] []],false,true,true⟩)]⟩:=by
 obtain⟨φ,z,h,_⟩:=g;exact aeO h f
def ade{a:List D}:b7 h (.ip a)=some (.ip a,[]):=apL
def Yo{x v o:Nat}:b7 h (.ptr x v o)=clP x o (live h x v):=by
 simp only[b7];cases live h x v with
 | none=>rfl
 | some r=>simp only[clP]
def Zx{x v o:Nat}:vT (.ptr x v o)=true:=apL
def aeX{a:List D}:vT (.ip a)=true:=apL
def ad4{v a:Nat}{cells:List D}{b mp:Bool}:y9 ⟨v,a,cells,b,true,mp⟩=⟨v,a,cells,true,true,mp⟩:=by cases b<;>rfl
def YS{d:Nat}:bd.hint d=none:=apL
def S2{f:Nat}{l:Bool}{G:Option (D×Row)->List D->Option (RK×Option Row)}{d:Nat}:(Am.ext Γ f l G).hint d=Γ.hint d:=apL
def Nq{d i:Nat}:(Am.keep d Γ).hint i=Γ.hint i:=apL
end
structure n9{α:Type}(E:jq α)(C:List D)(o:Nat)(l:List α):Prop where
 fit:o+l.length*E.size<=C.length
 eq:(C.drop o).take (l.length*E.size)=aq E l
def n9.self{α:Type}(E:jq α)(l:List α):n9 E (aq E l) 0 l:=⟨by rw[bQ];omega,by rw[aoE,<- bQ,aoY]⟩
def n9.split{α:Type}{E:jq α}{C:List D}{o:Nat}{l:List α}(F:n9 E C o l):C.drop o=aq E l++C.drop (o+l.length*E.size):=by
 rw[<- aoB]
 conv=>lhs;rw[<- aoC (l.length*E.size) (C.drop o)]
 rw[F.eq]
def n9.idx{α:Type}{E:jq α}{C:List D}{o:Nat}{l:List α}{i:Int}{x:α}(F:n9 E C o l)(h:P.idx l i=some x):o+i.toNat*E.size+E.size<=C.length∧∃rest,C.drop (o+i.toNat*E.size)=E.cells x++rest:=by
 have a:=lq E h;have b:=F.fit;refine⟨by omega,aq E (l.drop (i.toNat+1))++C.drop (o+l.length*E.size),?_⟩;rw[<- aoB,F.split,aoS (by rw[bQ];omega),Bj E h,aoK]
def n9.tail{α:Type}{E:jq α}{C:List D}{o:Nat}{l m:List α}{a:Int}(F:n9 E C o l)(h:Hj l a (l.length:Int)=some m):n9 E C (o+a.toNat*E.size) m:=by
 obtain⟨c,d,e,f,b⟩:=afi E h;have g:=F.fit;have i:a.toNat*E.size+m.length*E.size=l.length*E.size:=by rw[<- Nat.add_mul];congr 1;omega
 refine⟨by omega,?_⟩;rw[<- aoB,F.split,aoS (by rw[bQ];omega),aoR (by rw[ano,bQ];omega),b]
def alR:=ai @Tp<|ai @TB<|ai @Y8<|ai @Nr<|ai @NA<|ai @aid<|ai @TI<|ai @TN<|ai @TM<|ai @TL<|@Vr
def alS:=ai @ade<|ai @Yo<|ai @Zx<|ai @aeX<|ai @ad4<|ai @YS<|ai @S2<|ai @Nq<|ai @N4<|@Ya
def alT:=ai @Ga<|ai @Il<|ai @BT<|@acZ
def b6.ofB{P:Program}{T:Nat->Option Ty}{Γ:Env}(g:km P T)(i:bN P Γ)(j:P.follows .mixedOrders=true){α β:Type}{A:kZ α}{F:α->Option β}{R:β->RK}{e:Mode}{f:FuncId}{d:Func}(k:P.funcs[f]? = some d)
  (b:((match d.body with|some c=>codeOk c|none=>true)&&(!(d.name == "runtime.NumGoroutine") && !d.body.isNone))=true) (l:∀a,Nat.ble (A.ds a).length d.ntmps=true) (h:∀a r,F a=some r->lP e T Γ FU d none (A.ds a)=some (R r,none)):b6 P f (dx A F R):=by
 rw[anF,anF]at b;exact b6.of g i j k b.1 ⟨by simpa using b.2.1,by simpa using b.2.2⟩ (fun a=>aov (l a)) h
def acX{α β:Type}(a:Arg α)(b:kZ β)(x:α×β):(eZ a b).ds x=a.d x.1::b.ds x.2:=apL
def acW{α:Type}(a:Arg α)(x:α):(dp a).ds x=[a.d x]:=apL
def acV(x:Unit):as0.ds x=[]:=apL
def gP:=ai @acX<|ai @acW<|ai @acV<|ai @aj6<|ai @X9<|ai @ahN<|ai @acJ<|ai @ahM<|ai @acK<|@Ya
def sF{α:Type}(E:jq α)(l:List α):D:=.sl false false l.length (aq E l)
def sN(n:Int):D:=.int .i64 n
def sI(l:List Int):D:=.sl false false l.length (aq (eI .i64) l)
def rW(v a:Nat)(c:List D):Option Row:=some ⟨v,a,c,false,true,false⟩
def rV(v a:Nat)(c:List D):Option Row:=some ⟨v,a,c,false,false,false⟩
def akO{α:Type}{E:jq α}{l:List α}:sF E l=.sl false false l.length (aq E l):=apL
def akQ{n:Int}:sN n=.int .i64 n:=apL
def akP{l:List Int}:sI l=.sl false false l.length (aq (eI .i64) l):=apL
def akL{v a:Nat}{c:List D}:rW v a c=some ⟨v,a,c,false,true,false⟩:=apL
def akK{v a:Nat}{c:List D}:rV v a c=some ⟨v,a,c,false,false,false⟩:=apL
def vab:=ai @akO<|ai @akP<|ai @akQ<|ai @akL<|@akK
def vi:=ai @alR<|ai @alS<|@alT
def ae3{pre C post a:List D}{o:Nat}(h:o+a.length<=C.length):putCells (pre++(C++post)) (pre.length+o) a=pre++(putCells C o a++post):=by
 unfold putCells;have b:(pre++(C++post)).take (pre.length+o)=pre++C.take o:=by
  rw[List.take_append,aoF (by omega),aoQ,aoR (by omega)]
 have c:(pre++(C++post)).drop (pre.length+o+a.length)=C.drop (o+a.length)++post:=by
  rw[anp,aow,aox (by omega),aoQ,aoy,aoS (by omega)]
 rw[b,c];simp only[aoK]
section
variable {α:Type} (E:jq α) {l:List α} {x x':α} {i:Int} {pre post C:List D} {o:Nat}
def abC(a:Nat)(b:List D)(h:P.idx l i=some x)(d:E.cells x'=putCells (E.cells x) a b)(c:a+b.length<=E.size):putCells (pre++(aq E l++post)) (pre.length+i.toNat*E.size+a) b=pre++(aq E (l.set i.toNat x')++post):=by
 have e:=eN E a b h d c;have f:=lq E h;have g:=bQ E l;rw[anp,ae3 (by omega),e]
def n9.aeL(l:List α)(pre post:List D):n9 E (pre++(aq E l++post)) pre.length l:=by
 have h:=bQ E l;refine⟨by simp only[an7];omega,?_⟩;rw[List.drop_left,<- h,List.take_left]
variable {E}
def n9.len(F:n9 E C o l):(C.take o).length=o:=by
 have:=F.fit;rw[ann];omega
def n9.cells(F:n9 E C o l):C.take o++(aq E l++C.drop (o+l.length*E.size))=C:=by
 rw[<- F.split,aoC]
def n9.put(F:n9 E C o l)(a:Nat)(b:List D)(h:P.idx l i=some x)(f:E.cells x'=putCells (E.cells x) a b)(c:a+b.length<=E.size):∃d,putCells C (o+i.toNat*E.size+a) b=d∧n9 E d o (l.set i.toNat x'):=by
 refine⟨_,rfl,?_⟩;have e:=abC (pre:=C.take o) (post:=C.drop (o+l.length*E.size)) E a b h f c;rw[F.cells,F.len]at e;rw[e];have:=n9.aeL E (l.set i.toNat x') (C.take o) (C.drop (o+l.length*E.size))
 rwa [F.len]at this
def n9.cg(F:n9 E C o l)(m:List α):n9 E (C.take o++(aq E m++C.drop (o+l.length*E.size))) o m:=by
 have:=n9.aeL E m (C.take o) (C.drop (o+l.length*E.size))
 rwa [F.len]at this
end
def aj4(P:Program)(f:FuncId):Prop:=∀(blk a b:Nat)(zs:List Int)(w:World),Go.Sort.Holds (Value.int .i64) w blk a zs.toArray->blk<w.heap.size->zs.length<4611686018427387904 ->
 Calls P f #[.slice (some ⟨blk,a,none⟩) zs.length b] w fun e c=>e=.returned (.tuple #[])∧∃n d,c=Go.Sort.grow (Go.Sort.putRow (Value.int .i64) (Go.Sort.ahead w n) blk a (vk zs).toArray) d
def zQ(k:IntKind):∀(l:List Int)(j:Nat),(aq (eI k) l)[j]? = l[j]?.map fun n =>.int k n
 | [],j=>by simp[aq]
 | x::l,0=>by simp[aq,eI]
 | x::l,j+1=>by
  have:=zQ k l j;simp only[aq,Dw,List.cons_append,List.nil_append,List.getElem?_cons_succ];exact this
def tF(k:IntKind)(l:List Int):(aq (eI k) l).length=l.length:=by rw[bQ];show l.length*1=_;omega
def Us{w:World}{b a:Nat}{d:List Int}{c:Array Value}{e:Nat}{fr:Nat×Nat}(h:w.heap[b]? = some (.cells c e fr)):(Go.Sort.putRow (Value.int .i64) w b a d.toArray).heap[b]? = some (.cells (Go.Sort.putCells (Value.int .i64) a d.toArray c) e fr):=by
 simp[Go.Sort.putRow,Go.Sort.mapBlock,ang,h,Go.Sort.onCells]
def Kk{w:World}{b c a:Nat}{d:List Int}(h:c≠b):(Go.Sort.putRow (Value.int .i64) w b a d.toArray).heap[c]? = w.heap[c]?:=by
 simp[Go.Sort.putRow,Go.Sort.mapBlock,ang,Ne.symm h]
def P9{a:Nat}{d:List Int}{b:Array Value}{k:Nat}(c:k<b.size):(Go.Sort.putCells (Value.int .i64) a d.toArray b).getD k undef=if a<=k∧k<a+d.length then .int .i64 (d.getD (k-a) 0) else b.getD k undef:=by
 have e:(Go.Sort.putCells (Value.int .i64) a d.toArray b)[k]? = some (if a<=k∧k<a+d.length then .int .i64 (d.getD (k-a) 0) else b[k]):=by
  simp only[Go.Sort.putCells,Array.getElem?_mapIdx,aob c,Option.map_some,aoe];simp_all
 simp_all
end Go.Proofs.YtobnihfgnbnncaaGreat.Am
namespace Go.Proofs.YtobnihfgnbnncaaGreat.P
open Go.RowKit
theorem wrap64{x:Int}(a : -9223372036854775808<=x)(b:x<9223372036854775808):IntKind.i64.wrap x=x:=by
 have key:IntKind.i64.wrap x=if x % 18446744073709551616>=9223372036854775808 then x % 18446744073709551616-18446744073709551616 else x % 18446744073709551616:=by
  unfold IntKind.wrap
  by_cases h:x % 18446744073709551616>=9223372036854775808
  ·rw[if_pos h];exact if_pos (by simpa [IntKind.bits,IntKind.signed] using h)
  ·rw[if_neg h];exact if_neg (by simpa [IntKind.bits,IntKind.signed] using h)
 rw[key];split<;>omega
def S4{α:Type}{l:List α}{i:Int}{x:α}(a:0<=i)(h:l[i.toNat]? = some x):P.idx l i=some x:=by
 have:=(anx.1 h).1;unfold P.idx;rw[if_pos ⟨a,by omega⟩,h]
def cW{α:Type}{l:List α}{i:Nat}(h:i<l.length):P.idx l (i:Int)=some (l[i]):=S4 (by omega) (by simp[h])
theorem ZN{α:Type}{l:List α}{i:Nat}(h:i<=l.length):Hj l 0 (i:Int)=some (l.take i):=by
 unfold Hj;rw[if_pos ⟨by omega,by omega,by omega⟩];simp
end Go.Proofs.YtobnihfgnbnncaaGreat.P
namespace Go.Proofs.YtobnihfgnbnncaaGreat.Am
open Go.RowKit Go.Deep Go.ChangeShapes Go.WideShapes
def Hp(T:Nat->Option Ty):Nat->Nat->List D->Prop
 | 0,_,_=>False
 | n+1,t,xs =>
  match T t with
  | none=>False
  | some τ=>xs.length=τ.size ∧
   match τ.ds with
   | .int k=>∃i,xs=[.int k i]∧(Lit.int k i).wf=true
   | .bool=>∃b,xs=[.bool b]
   | .str=>∃s:ByteArray,xs=[.str s]∧s.size<=140737488351232
   | .slice e=>∃len a φ,xs=[.sl false false len a]∧len*φ.bytes<=140737488351232∧T e=some φ∧a.length=len*φ.size∧∀i,i<len->Hp T n e ((a.drop (i*φ.size)).take φ.size)
   | .struct c=>∀f∈c,∃φ,T f.1=some φ∧Hp T n f.1 ((xs.drop f.2).take φ.size)
   | .arr m e=>∃φ,T e=some φ∧∀i,i<m->Hp T n e ((xs.drop (i*φ.size)).take φ.size)
   | .map _ _=>False
   | .other=>False
def Gv(T:Nat->Option Ty):Nat->List (Nat×Nat)->Nat->Bool
 | o,[],z=>o==z
 | o,(a,off)::b,z=>off==o&&match T a with|some φ=>Gv T (o+φ.size) b z|none=>false
def okT(T:Nat->Option Ty):Nat->Nat->Bool
 | 0,_=>false
 | n+1,t =>
  match T t with
  | none=>false
  | some τ =>
   match τ.ds with
   | .int _ | .bool | .str=>τ.size==1
   | .slice e=>τ.size==1&&okT T n e&&(match T e with|some φ=>decide (0<φ.size)|none=>false)
   | .struct fs=>Gv T 0 fs τ.size&&fs.all fun f=>okT T n f.1
   | .arr m e=>okT T n e&&(match T e with|some φ=>τ.size==m*φ.size|none=>false)
   | .map _ _=>false
   | .other=>false
def qL(w:World)(M:Nat->Prop)(a:List D)(b:List Value):Prop:=a.length=b.length∧∀(j:Nat)(x:D),a[j]? = some x->bH x=true∧∃v,b[j]? = some v∧RP w M x v
def qL.append{w:World}{M:Nat->Prop}{c d:List D}{e f:List Value}(h:qL w M c e)(k:qL w M d f):qL w M (c++d) (e++f):=by
 refine⟨by simp[h.1,k.1],fun j x b =>?_⟩;rw[List.getElem?_append]at b ⊢;rw[<- h.1];split at b
 ·rename_i a;rw[if_pos a];exact h.2 j x b
 ·rename_i a;rw[if_neg a];exact k.2 _ x b
def IU{α:Type}(s:Nat):∀(ls:List (List α)),(∀l∈ls,l.length=s)->∀(i:Nat)(l:List α),ls[i]? = some l->(ls.flatten.drop (i*s)).take s=l
 | [],_,i,l,h=>by simp at h
 | a::ls,hl,0,l,h=>by
  simp_all
 | a::ls,hl,i+1,l,h=>by
  have b:a.length=s:=hl a (by simp);rw[List.flatten_cons,aow,aox (by grind),aoy,b,aoz,aoA];exact IU s ls (fun x c=>hl x (aoj _ c)) i l h
def sw{α:Type}(s:Nat):∀(ls:List (List α)),(∀l∈ls,l.length=s)->ls.flatten.length=ls.length*s
 | [],_=>by simp
 | a::ls,hl=>by
  rw[List.flatten_cons,an7,sw s ls (fun x b=>hl x (aoj _ b)),hl a (by simp),anO,aoz];omega
section
variable {H:Type} {enc:TypeId×Value->H} {P:Program} {w:World} {base:Nat} {spare:Nat->Bool} {held:Bool} {T:Nat->Option Ty}
def eY.bytesOf{P:Program}{t:Nat}{τ:Ty}(h:eY P t τ):P.bytesOf t=τ.bytes:=by
 have:=h.info;unfold Program.bytesOf;cases a:P.info? t with
 | none=>simp_all
 | some i=>simp_all
def Reach(P:Program)(t:Nat)(d:DataW H):Prop:=∀k∈d.weights P t,k<=140737488351232
def Fy{e:TypeId}:∀(l:List (DataW H))(j:Nat)(d:DataW H),l[j]? = some d->∀k∈d.weights P e,k∈DataW.weightsAll P e l
 | x::l,0,d,h,k,hk=>by
  simp only[List.getElem?_cons_zero,anf]at h;subst h;simp only[DataW.weightsAll,aoh];exact .inl hk
 | x::l,j+1,d,h,k,hk=>by
  simp only[DataW.weightsAll,aoh];exact .inr (Fy l j d (by simpa using h) k hk)
 | [],j,d,h,k,hk=>by simp at h
def eY.cells{P:Program}{t:Nat}{τ:Ty}(h:eY P t τ):P.cellsOf t=τ.size:=by
 have:=h.info;unfold Program.cellsOf;cases a:P.info? t with
 | none=>simp_all
 | some i=>simp_all
def Y1{T:Nat->Option Ty}{w:World}{M:Nat->Prop}{cs:List Value}:∀(c:List (Nat×Nat))(o z:Nat)(f:Nat×Nat->List D),Gv T o c z=true->cs.length=z ->
  (∀p∈c,∃φ,T p.1=some φ∧qL w M (f p) ((cs.drop p.2).take φ.size))->o<=z->∃e,qL w M e (cs.drop o)∧∀p∈c,∃φ,T p.1=some φ∧o<=p.2∧(e.drop (p.2-o)).take φ.size=f p
 | [],o,z,f,d,g,_,_=>by
  simp only[Gv,beq_iff_eq]at d;refine⟨[],⟨by simp_all,fun j x n=>by simp at n⟩,fun p hp=>by simp at hp⟩
 | (i,off)::c,o,z,f,d,g,hp,q=>by
  simp only[Gv,anF,beq_iff_eq]at d;obtain⟨rfl,d⟩:=d;obtain⟨φ,r,m⟩:=hp (i,off) (by simp);simp only[r]at d;have s:off+φ.size<=z:=by
   have:∀(c:List (Nat×Nat))(o:Nat),Gv T o c z=true->o<=z:=by
    intro c
    induction c with
    | nil=>intro o h;simp only[Gv,beq_iff_eq]at h;omega
    | cons p c v =>
     intro o h;obtain⟨a,b⟩:=p;simp only[Gv,anF]at h;grind
   exact this c _ d
  obtain⟨e,t,k⟩:=Y1 c (off+φ.size) z f d g (fun p h=>hp p (aoj _ h)) s;have l:(f (i,off)).length=φ.size:=by
   rw[m.1,ann,ano,g];omega
  refine⟨f (i,off)++e,?_,fun p h =>?_⟩
  ·have:=m.append t;rw[<- aoB,aoC]at this;exact this
  ·rcases anc.1 h with rfl|h
   ·simp_all
   ·obtain⟨ψ,u,y,A⟩:=k p h;refine⟨ψ,u,by omega,?_⟩;rw[aow,aox (by omega),aoy,l];grind
def qL.one{w:World}{M:Nat->Prop}{x:D}{v:Value}(a:bH x=true)(h:RP w M x v):qL w M [x] [v]:=by
 refine⟨rfl,fun j y b =>?_⟩;grind
def qL.flat{w:World}{M:Nat->Prop}{b:List Value}{s:Nat}:∀(ls:List (List D))(o:Nat),(∀(i:Nat) l,ls[i]? = some l->qL w M l ((b.drop (o+i*s)).take s))->(∀l∈ls,l.length=s)->qL w M ls.flatten ((b.drop o).take (ls.length*s))
 | [],o,_,_=>⟨by simp,fun j x c=>by simp at c⟩
 | a::ls,o,h,hl=>by
  have d:=h 0 a rfl;have e:=qL.flat ls (o+s) (fun i l f=>by
   have:=h (i+1) l (by simpa using f);rw[aoz]at this;rw[show o+s+i*s=o+(i*s+s) by omega];exact this) (fun l g=>hl l (aoj _ g))
  have:=d.append e;rw[aoD,anE]at this;rw[List.flatten_cons,anO,aoz,Nat.add_comm (ls.length*s) s,List.take_add,aoB];exact this
def aiG(W:km P T){M:Nat->Prop}(hM:∀b,base<=b->b<w.heap.size->¬M b):∀(n t J:Nat)(X:List Value)(x:DataW H×List MemPlace),okT T n t=true->DataW.trod enc P w base spare held J t X=some x->Reach P t x.1->∃xs,Hp T n t xs∧qL w M xs X:=by
 intro n
 induction n with
 | zero=>intro t J X x h;cases h
 | succ n ih =>
  intro t J X x c h Y;unfold okT at c;unfold Hp;cases hτ:T t with
  | none=>simp_all
  | some τ =>
   rw[hτ]at c;simp only at c ⊢;obtain⟨d,O,I⟩:=under W hτ;cases D:τ.ds with
   | int k =>
    rw[D]at c I;simp only[beq_iff_eq]at c;have r:=Dl I;subst r;obtain⟨i,rfl,_,Y⟩:=DataW.trod_int O h;exact⟨[.int k i],⟨by rw[c];rfl,i,rfl,Y⟩,.one rfl (.int k i)⟩
   | bool =>
    rw[D]at c I;simp only[beq_iff_eq]at c;have r:=Bf I;subst r;obtain⟨b,rfl,_⟩:=DataW.trod_bool O h;exact⟨[.bool b],⟨by rw[c];rfl,b,rfl⟩,.one rfl (.bool b)⟩
   | str =>
    rw[D]at c I;simp only[beq_iff_eq]at c;have r:=w8 I;subst r;obtain⟨s,rfl,rfl,hs⟩:=DataW.trod_string O h;have al:s.size<=140737488351232:=by
     have:=Y s.data.toList.length (by simp[DataW.weights]);simpa using this
    exact⟨[.str s],⟨by rw[c];rfl,s,rfl,al⟩,.one rfl (.str s)⟩
   | map _ _=>simp_all
   | other=>simp_all
   | struct fs =>
    rw[D]at c I;simp only[anF,anh]at c;obtain⟨F,rfl,hF⟩:=j0 I;obtain⟨ys,m,_,rfl,g,ao,hf⟩:=DataW.trod_struct O h;have R:∀(i:Nat)(f:Field) y,F[i]? = some f->ys[i]? = some y->Reach P f.type y.1:=by
     intro i f y aD Z k hk;apply Y k;simp only[DataW.weights,O];exact DataW.weights_mem_each (j:=i) (t:=f.type) (d:=y.1) (by simp_all) (by simp[Z]) k hk
    rw[(W t τ hτ).cells]at g;have q:∀p:Nat×Nat,∃E,p∈fs->∃φ,T p.1=some φ∧Hp T n p.1 E∧qL w M E ((X.drop p.2).take φ.size):=by
     intro p
     by_cases V:p∈fs
     ·have A:=c.2 p V;rw[<- hF]at V;obtain⟨f,aq,rfl⟩:=am5.1 V;obtain⟨i,u⟩:=List.mem_iff_getElem?.1 aq;have h1:=hf i f (by simpa using u);simp only at A ⊢;cases Q:T f.type with
      | none=>cases n with
       | zero=>cases A
       | succ n=>simp only[okT,Q]at A;cases A
      | some φ =>
       rw[(W _ φ Q).cells]at h1;have G:i<ys.length:=by
        grind
       rw[anj G]at h1;obtain⟨E,aa,S⟩:=ih _ _ _ _ A h1 (R i f _ (by simpa using u) (anj G));exact⟨E,fun _=>⟨φ,rfl,aa,S⟩⟩
     simp_all
    obtain⟨f,K⟩:=Classical.axiomOfChoice q;obtain⟨xs,hx,ak⟩:=Y1 fs 0 τ.size f c.1 g (fun p V=>by obtain⟨φ,a,_,b⟩:=K p V;exact⟨φ,a,b⟩) (am7 _);rw[aoE]at hx;refine⟨xs,⟨by rw[hx.1,g],fun p V =>?_⟩,hx⟩;grind
   | arr m e =>
    rw[D]at c I;simp only[anF]at c;have r:=Dk I;subst r;obtain⟨ys,k,_,rfl,g,ao,hf⟩:=DataW.trod_array O h;have R:∀(i:Nat) y,ys[i]? = some y->Reach P e y.1:=by
     intro i y Z k hk;apply Y k;simp only[DataW.weights,O];exact Fy _ i y.1 (by simp[Z]) k hk
    rw[(W t τ hτ).cells]at g;obtain⟨aA,B⟩:=c;split at B
    ·rename_i φ Q;simp only[beq_iff_eq]at B;have q:∀i:Nat,∃E,i<m->Hp T n e E∧qL w M E ((X.drop (i*φ.size)).take φ.size):=by
      intro i
      by_cases u:i<m
      ·have h1:=hf i u;rw[(W _ φ Q).cells,anj (by omega)]at h1;grind
      ·exact⟨[],fun h=>(u h).elim⟩
     obtain⟨f,K⟩:=Classical.axiomOfChoice q;have L:∀l∈(List.range m).map f,l.length=φ.size:=by
      intro l hl;obtain⟨i,u,rfl⟩:=am5.1 hl;have u:=aos.1 u;rw[(K i u).2.1,ann,ano,g,B];have:(i+1)*φ.size<=m*φ.size:=anM _ u;grind
     have aB:∀(i:Nat) l,((List.range m).map f)[i]? = some l->i<m∧l=f i:=by
      grind
     have N:qL w M ((List.range m).map f).flatten ((X.drop 0).take (((List.range m).map f).length*φ.size)):=by
      refine qL.flat _ 0 (fun i l hl =>?_) L;grind
     rw[anz,anA,aoE,aoF (by omega)]at N;refine⟨_,⟨by rw[N.1,g],φ,Q,fun i u =>?_⟩,N⟩;have G:((List.range m).map f)[i]? = some (f i):=by simp[u]
     rw[IU φ.size _ L i _ G];exact (K i u).1
    ·cases B
   | slice e =>
    rw[D]at c I;simp only[anF,beq_iff_eq]at c;have r:=iN I;subst r;obtain⟨⟨q,ad⟩,C⟩:=c;split at C
    ·rename_i φ Q;simp only[decide_eq_true_eq]at C;rcases open_slice O h with⟨rfl,_⟩|⟨a,len,ar,m,k,D',Pl,rfl,hb,hl,hm,aE,rfl,u⟩
     ·refine⟨[.sl false false 0 []],⟨by rw[q];rfl,0,[],φ,rfl,by omega,Q,by simp,fun i u=>by omega⟩,.one rfl ?_⟩;exact .sl none 0 false false 0 [] (fun _=>undef) (am6 _) (am7 _) (fun h=>by cases h) (fun _=>⟨rfl,rfl⟩) (fun h=>by cases h) (fun h=>(h rfl).elim) (fun j x hj=>by simp at hj) (fun x hx=>by simp at hx)
     ·have aF:len<=m:=by grind
      have au:len*φ.bytes<=140737488351232:=by
       have h1:=Y ((((List.range len).map D').length+((List.range (m-len)).map fun j=>D' (len+j)).length)*P.bytesOf e) (by simp[DataW.weights,O]);rw[(W _ φ Q).bytesOf]at h1;grind
      have R:∀i,i<len->Reach P e (D' i):=by
       intro i G k hk;apply Y k;simp only[DataW.weights,O,anc,aoh];exact .inr (.inl (Fy _ i (D' i) (by simp[G]) k hk))
      have ab:∀i:Nat,∃E,i<len->Hp T n e E∧E.length=φ.size∧∀(j:Nat) z,E[j]? = some z->bH z=true∧∃v,w.cell? (a.add (i*φ.size+j))=some v∧RP w M z v:=by
       intro i
       by_cases ae:i<len
       ·obtain⟨aG,ag,av⟩:=u i (by omega);rw[(W _ φ Q).cells]at ag;obtain⟨_,g1,g2⟩:=World.cells?_some ag;obtain⟨E,aa,S⟩:=ih _ _ _ _ ad av (R i ae);refine⟨E,fun _=>⟨aa,by rw[S.1,g1],fun j z hj =>?_⟩⟩;obtain⟨p1,v,p2,p3⟩:=S.2 j z hj;refine⟨p1,v,?_,p3⟩;have aw:j<φ.size:=by grind
        rw[<- Go.Deep.add_add,g2 j aw,p2]
       ·exact⟨[],fun h=>(ae h).elim⟩
      obtain⟨f,K⟩:=Classical.axiomOfChoice ab;have L:∀l∈(List.range len).map f,l.length=φ.size:=by
       simp_all
      have ah:((List.range len).map f).flatten.length=len*φ.size:=by rw[sw φ.size _ L];simp
      have aC:∀i,i<len->(((List.range len).map f).flatten.drop (i*φ.size)).take φ.size=f i:=fun i u=>IU φ.size _ L i (f i) (by simp[u]);have ai:∀(p:Nat) z,((List.range len).map f).flatten[p]? = some z->bH z=true∧∃v,w.cell? (a.add p)=some v∧RP w M z v:=by
       intro p z V;have ax:=(anx.1 V).1;rw[ah]at ax;have hq:p / φ.size<len:=aoG (by rwa [Nat.mul_comm]);have hr:p % φ.size<φ.size:=anT _ C;have he:p / φ.size*φ.size+p % φ.size=p:=Nat.div_add_mod' p φ.size;have hz:(f (p / φ.size))[p % φ.size]? = some z:=by
        grind
       grind
      refine⟨[.sl false false len ((List.range len).map f).flatten],⟨by rw[q];rfl,len,_,φ,rfl,au,Q,ah,fun i u=>by simp_all⟩,.one rfl ?_⟩;refine .sl (some a) ar false false len _ (fun j=>(w.cell? (a.add j)).getD undef) hl hm (fun h=>by cases h) (fun h=>by cases h) (fun h=>by cases h) (fun ay =>?_) (fun j z hj =>?_) (fun z hz =>?_)
      ·have h0:0<((List.range len).map f).flatten.length:=aoH.2 ay;obtain⟨_,v,U,_⟩:=ai 0 _ (anj h0);obtain⟨b,o,sp⟩:=a;have az:sp=none:=by
        unfold World.cell? at U;split at U
        ·split at U
         ·cases U
         ·rename_i h;simpa [Addr.add] using h
        ·cases U
       subst az;have aj:b<w.heap.size:=by
        unfold World.cell? at U;split at U
        ·rename_i hh;exact (an6.1 hh).1
        ·cases U
       refine⟨b,o,rfl,aj,hM b hb aj,fun j hj =>?_⟩;obtain⟨_,v,U,_⟩:=ai j _ (anj hj);have ha:Addr.add ⟨b,o,none⟩ j=⟨b,o+j,none⟩:=by
        unfold Addr.add;simp_all
       simp_all
      ·grind
      ·obtain⟨j,hj⟩:=List.mem_iff_getElem?.1 hz;grind
    ·cases C
def zj(T:Nat->Option Ty)(n t:Nat)(d:D):Prop :=
 match T t with
 | some τ=>if τ.ds.xt then ∃a,d=.agg a∧Hp T n t a else Hp T n t [d]
 | none=>False
def qL.agg{w:World}{M:Nat->Prop}{a:List D}{b:Array Value}(h:qL w M a b.toList):RP w M (.agg a) (.agg b):=by
 have:=RP.agg (w:=w) (M:=M) a b.toList h.1.symm (fun j x c=>by
  obtain⟨_,v,e,f⟩:=h.2 j x c;simp_all) (fun x d=>by
  obtain⟨j,c⟩:=List.mem_iff_getElem?.1 d;exact (h.2 j x c).1)
 simpa using this
def qL.single{w:World}{M:Nat->Prop}{a:List D}{v:Value}(h:qL w M a [v]):∃x,a=[x]∧RP w M x v:=by
 match a,h with
 | [],h=>have:=h.1;simp at this
 | [x],h=>obtain⟨_,u,b,c⟩:=h.2 0 x rfl;simp_all
 | x::y::a,h=>have:=h.1;simp at this
def agl(A:km P T){M:Nat->Prop}(C:∀b,base<=b->b<w.heap.size->¬M b){n t D:Nat}{v:Value}{d:DataW H}{E:List MemPlace}(f:okT T n t=true)(o:Value.okWide P w .any D t v)(h:DataW.Trod enc P w base spare held t v d E)(G:Reach P t d) :
  ∃x,zj T n t x∧RP w M x v:=by
 obtain⟨r,h⟩:=h;obtain⟨B,p,q⟩:=aiG A C n t r _ _ f h G;unfold zj;cases n with
 | zero=>cases f
 | succ n =>
 cases u:T t with
 | none=>simp only[okT,u]at f;cases f
 | some τ =>
  simp only;obtain⟨I,s,j⟩:=under A u;cases g:τ.ds with
  | int k =>
   rw[g]at j;have c:=Dl j;subst c;obtain⟨i,rfl⟩:=okWide_int s o;obtain⟨x,rfl,l⟩:=qL.single (v:=.int k i) q;exact⟨x,by simpa [Ds.xt] using p,l⟩
  | bool =>
   rw[g]at j;have c:=Bf j;subst c;obtain⟨i,rfl⟩:=okWide_bool s o;obtain⟨x,rfl,l⟩:=qL.single (v:=.bool i) q;exact⟨x,by simpa [Ds.xt] using p,l⟩
  | str =>
   rw[g]at j;have c:=w8 j;subst c;obtain⟨i,rfl⟩:=okWide_string s o;obtain⟨x,rfl,l⟩:=qL.single (v:=.string i) q;exact⟨x,by simpa [Ds.xt] using p,l⟩
  | slice e =>
   rw[g]at j;have c:=iN j;subst c;obtain⟨a,len,y,rfl⟩:=okWide_slice s o;obtain⟨x,rfl,l⟩:=qL.single (v:=.slice a len y) q;exact⟨x,by simpa [Ds.xt] using p,l⟩
  | struct fs =>
   rw[g]at j;obtain⟨F,rfl,_⟩:=j0 j;obtain⟨z,rfl,_⟩:=okWide_struct s o;exact⟨.agg B,by simpa [Ds.xt] using p,qL.agg q⟩
  | arr m e =>
   rw[g]at j;have c:=Dk j;subst c;have:∃z,v=.agg z:=by
    unfold Value.okWide at o;grind
   obtain⟨z,rfl⟩:=this;exact⟨.agg B,by simpa [Ds.xt] using p,qL.agg q⟩
  | map _ _=>simp only[okT,u,g]at f;cases f
  | other=>simp only[okT,u,g]at f;cases f
def Mf(o:km P T){M:Nat->Prop}(r:∀b,base<=b->b<w.heap.size->¬M b){n b0:Nat}:∀(c:List TypeId)(vs:List Value)(g:List (DataW H))(l:List MemPlace),DataW.TrodAll enc P w base spare held c vs g l ->
  (∀(j:Nat) t v,c[j]? = some t->vs[j]? = some v->Value.okWide P w .any b0 t v)->(∀t∈c,okT T n t=true)->(∀k∈DataW.weightsEach P c g,k<=140737488351232) ->
  ∃e:List D,e.length=vs.length∧(∀(j:Nat) x,e[j]? = some x->∃v,vs[j]? = some v∧RP w M x v)∧e.length=c.length∧∀(j:Nat) t,c[j]? = some t->∃x,e[j]? = some x∧zj T n t x
 | [],[],[],l,_,_,_,_=>⟨[],rfl,fun j x f=>by simp at f,rfl,fun j t f=>by simp at f⟩
 | t::c,v::vs,d::g,l,h,hv,hok,hw=>by
  obtain⟨p,q,s,u,_⟩:=h;obtain⟨x,z,A⟩:=agl o r (hok t (by simp)) (hv 0 t v rfl rfl) s (fun k m=>hw k (by simp only[DataW.weightsEach,aoh];exact .inl m));obtain⟨e,B,G,C,I⟩:=Mf o r c vs g q u (fun j i E a b=>hv (j+1) i E (by simpa using a) (by simpa using b)) (fun i F=>hok i (aoj _ F)) (fun k m=>hw k (by simp only[DataW.weightsEach,aoh];exact .inr m));refine⟨x::e,by simp[B],fun j y f =>?_,by simp[C],fun j i f =>?_⟩
  ·grind
  grind
 | [],[],_::_,_,h,_,_,_=>h.elim
 | [],_::_,_,_,h,_,_,_=>h.elim
 | _::_,[],_,_,h,_,_,_=>h.elim
 | _::_,_::_,[],_,h,_,_,_=>h.elim
end
end Go.Proofs.YtobnihfgnbnncaaGreat.Am
namespace Go.Proofs.YtobnihfgnbnncaaGreat.Am
open Go.RowKit Go.Deep Go.ChangeShapes Go.WideShapes Go.ChangeAt
section
variable {H:Type} {enc:TypeId×Value->H} {P:Program}
def LI{f:Func}{s:ChangeSpec}{c fresh d l:Bool}{W m:World}{e:Array Value}{v:Value}{n o:List (DataW H)}{a pa pv:List MemPlace}
  (hW:DataW.Whole enc P f.params.toList s.vars c W e.toList n o a)
  (i:∀(b:Nat)(sp:Nat->Bool)(A:Bool),DataW.TrodAll enc P m b sp A f.resultTypes.toList (v.resultList f.resultTypes.size) (s.fn H (n++o)).results [])
  (g:∀sp:Nat->Bool,(∀p∈a,sp p.block=true)->DataW.TrodAll enc P m 0 sp true f.params.toList e.toList (s.fn H (n++o)).args pa)
  (h:∀sp:Nat->Bool,(∀p∈a,sp p.block=true)->DataW.TrodVars enc P m sp s.vars (s.fn H (n++o)).vars pv)
  (B:a=pa++pv) (z:Below W.heap.size W m)
  (x:∀(j:Nat)(t:TypeId)(r:Value),f.resultTypes[j]? = some t->(v.resultList f.resultTypes.size)[j]? = some r->Value.okWide P m .any 0 t r) :
  s.post enc P f c fresh d l W e v m:=by
 have y:∀p∈a,p.block<W.heap.size:=fun p q=>hW.lt p q;have k:∀p∈a,(fun b=>decide (b<W.heap.size)) p.block=true:=fun p q=>by simp_all
 refine⟨n,o,a,[],pa,pv,hW,i _ _ _,g _ k,h _ k,World.keptBut_mono (fun p q=>⟨q,?_⟩) (z.frame (·∈a)),fun _ =>?_⟩
 ·simp_all
 ·obtain⟨_,_,_,_,_,C,D⟩:=hW;refine⟨x,_,_,([]++pa)++pv,⟨[]++pa,pv,trodAll_append (g _ (fun _ _=>rfl)) (i _ _ _),h _ (fun _ _=>rfl),rfl,?_,?_⟩,?_⟩
  ·intro b u q;have w:MemPlace.cell b u∈a:=by simp_all
   rw[z.frozen (y _ w)];exact C b u w
  ·simp_all
  simp_all
def B8(k:laidOutB P=true){W l:World}{b:Nat->Bool}:∀{c:List TypeId}{i:List Value}{j:List (DataW H)}{f:List MemPlace},(∀t∈c,P.readableRec t=true∧t<P.types.size)->DataW.TrodAll enc P W 0 (fun _=>true) true c i j f ->
  (∀p∈f,W.sameAt l p)->(∀p∈f,b p.block=true)->DataW.TrodAll enc P l 0 b true c i j f
 | [],[],[],_,_,h,_,_=>h
 | t::c,v::i,d::j,_,hr,⟨p,q,h1,h2,e⟩,hs,hp=>by
  subst e;have g:=hr t (by simp);exact⟨p,q,WideElems.Trod_stays k g.1 g.2 h1 (fun x a=>hs x (ank _ a)) (fun x a=>hp x (ank _ a)),
   B8 k (fun t g=>hr t (aoj _ g)) h2 (fun x a=>hs x (anl _ a)) (fun x a=>hp x (anl _ a)),rfl⟩
end
def ae9{H:Type}{enc:TypeId×Value->H}{C:Checked}{T:Nat->Option Ty}{f:FuncId}{c:Func}{s:ChangeSpec}{g fresh i o:Bool}{V n:Nat}(hT:km C.prog T)
  (hl:laidOutB C.prog=true) (F:(c.params.toList.all fun t=>C.prog.readableRec t&&decide (t<C.prog.types.size)&&okT T n t)=true)
  (m:c.resultTypes = #[V]) (w:C.prog.underlying V=some .bool) (G:s.vars=[])
  (hs:∀ds:List (DataW H),ds.length=c.params.toList.length->(s.fn H ds).results=[.lit (.bool true)]∧(s.fn H ds).args=ds∧(s.fn H ds).vars=[])
  (I:∀y:List D,y.length=c.params.toList.length->(∀(j:Nat) t,c.params.toList[j]? = some t->∃x,y[j]? = some x∧zj T n t x)->Vz C.prog f y (.bool true))
  {W:World} {base:Nat} {args:Array Value} {ds X:List (DataW H)} {l:List MemPlace}
  (hval:∀(j:Nat) t v,c.params[j]? = some t->args[j]? = some v->Value.okWide C.prog W .any base t v) (Y:DataW.Whole enc C.prog c.params.toList s.vars g W args.toList ds X l)
  (r:(DataW.weightsEach C.prog (c.params.toList++s.plain.varTypes C.prog) (ds++X)).all (·<=reachBytes)=true) (z:aav W (fun _=>False)) :
  Calls C.prog f args W fun e J=>∃v,e=.returned v∧s.post enc C.prog c g fresh i o W args v J:=by
 have A:=Y;obtain⟨p,q,K,Z,rfl,aa,ab⟩:=Y;rw[G]at Z;obtain⟨rfl,rfl⟩:=trodVars_none Z;simp only[anh,anF,decide_eq_true_eq]at F;obtain⟨y,h1,L,h3,h4⟩:=Mf (P:=C.prog) hT (M:=fun _=>False) (fun b _ _ h=>h) (n:=n) (b0:=base) c.params.toList args.toList ds p K
  (fun j t v a b=>hval j t v (by simpa using a) (by simpa using b)) (fun t N=>(F t N).2) (fun k hk=>by
   rw[anh]at r;have O:s.plain.varTypes C.prog=[]:=by unfold ChangeSpec.plain;simp only[G];rfl
   rw[O,aoI,aoI]at r;have h:=r k hk;rw[decide_eq_true_eq]at h;exact h)
 refine (I y h3 h4 W (fun _=>False) args (fun b h=>h.elim) ⟨by simpa using h1.symm,fun j x hj =>?_,z⟩).mono fun e J hG =>?_
 ·obtain⟨v,g1,g2⟩:=L j x hj;simp_all
 ·obtain⟨v,rfl,hb,Q⟩:=hG;have R:RP J (fun _=>False) (.bool true) v:=Q;cases R;have B:ds.length=c.params.toList.length:=by
   have:∀{E:List TypeId}{u:List Value}{ds:List (DataW H)}{S:List MemPlace},DataW.TrodAll enc C.prog W 0 (fun _=>true) true E u ds S->ds.length=E.length:=by
    intro E
    induction E with
    | nil=>intro u ds S h;cases u<;>cases ds<;>first|rfl|exact h.elim
    | cons t E ih =>
     intro u ds S h;cases u with
     | nil=>exact h.elim
     | cons v u=>cases ds with
      | nil=>exact h.elim
      | cons d ds=>obtain⟨_,_,_,L,_⟩:=h;simp[ih L]
   exact this K
  obtain⟨e1,e2,e3⟩:=hs ds B;refine⟨_,rfl,LI (pa:=p) (pv:=[]) A ?_ ?_ ?_ (by simp) hb ?_⟩
  ·intro b sp hd;rw[aoI,e1,m];exact trodAll_mk1 ⟨1,by simp[DataW.trod,w,Value.cells]⟩
  ·intro sp hsp;rw[aoI,e2];refine B8 hl (fun t N=>(F t N).1) K (fun x U=>hb.same (A.lt x (by simpa using U))) (fun x U=>hsp x (by simpa using U))
  ·intro sp _;rw[aoI,e3,G];rfl
  ·exact ok_one m rfl (by simp[Value.okWide,w,Cell.okWide,Cell.ok])
def Xf{H:Type}{enc:TypeId×Value->H}{C:Checked}{u:Os}{T:Nat->Option Ty}{f:FuncId}{k:Func}{s:ChangeSpec}{d:List PathCond}{a fresh e m:Bool}{tb n:Nat}
  (F:km C.prog T) (own:ownKnob C.prog.godebug=none) (g:u.Started) (l:C.prog.inits.idxOf? f=none) (v:C.prog.funcs[f]? = some k)
  (h:∃(w:World)(c:Tape)(i:Input),w.os=u∧(w.forCall c i).Shaped C.prog∧i.vars=[]∧Input.okWide C.prog (w.forCall c i) .any w.heap.size f i ∧
   s.pre6 enc C.prog k d a (w.forCall c i).memory i.args∧({}:Assume).holds C.prog (lone (Frame.enter C.prog f i.args .normal) [] (w.forCall c i)))
  (G:laidOutB C.prog=true) (I:(k.params.toList.all fun t=>C.prog.readableRec t&&decide (t<C.prog.types.size)&&okT T n t)=true)
  (p:k.resultTypes = #[tb]) (y:C.prog.underlying tb=some .bool) (J:s.vars=[])
  (K:∀o:List (DataW H),o.length=k.params.toList.length->(s.fn H o).results=[.lit (.bool true)]∧(s.fn H o).args=o∧(s.fn H o).vars=[])
  (z:∀A:List D,A.length=k.params.toList.length->(∀(j:Nat) t,k.params.toList[j]? = some t->∃x,A[j]? = some x∧zj T n t x)->Vz C.prog f A (.bool true)) (L:afz=none:=by rfl) :
  ReturnsInHanded {} C u f .any (s.pre6 enc C.prog k d a) (s.post enc C.prog k a fresh e m):=by
 apply returnsInHanded_of_change_sized own g l v h;intro W base E o N r q M _ B _;exact ae9 F G I p y J K z q M B (fun b O=>by simp_all)
end Go.Proofs.YtobnihfgnbnncaaGreat.Am
namespace Go.Proofs.YtobnihfgnbnncaaGreat.Am
open Go.RowKit
def aka{T:Nat->Option Ty}{n t:Nat}{b:List D}(h:b.length=[t].length)(c:∀(j:Nat) u,[t][j]? = some u->∃x,b[j]? = some x∧zj T n u x):∃a,b=[a]∧zj T n t a:=by
 match b,h with
 | [a],_=>obtain⟨x,d,e⟩:=c 0 t rfl;cases d;exact⟨a,rfl,e⟩
def akb{T:Nat->Option Ty}{n t:Nat}{b:List Nat}{c:List D}(h:c.length=(t::b).length)(d:∀(j:Nat) u,(t::b)[j]? = some u->∃x,c[j]? = some x∧zj T n u x) :
  ∃a am1,c=a::am1∧zj T n t a∧am1.length=b.length∧∀(j:Nat) u,b[j]? = some u->∃x,am1[j]? = some x∧zj T n u x:=by
 match c,h with
 | a::am1,h =>
  obtain⟨x,e,f⟩:=d 0 t rfl;cases e;exact⟨a,am1,rfl,f,by simpa using h,fun j u g=>by simpa using d (j+1) u (by simpa using g)⟩
section
variable {T:Nat->Option Ty} {n t:Nat} {τ:Ty} {d:D}
def VJ{b:List (Nat×Nat)}(h:zj T n t d)(c:T t=some τ)(e:τ.ds=.struct b):∃a,d=.agg a∧Hp T n t a:=by
 simp only[zj,c,e,Ds.xt,if_true]at h;exact h
def aaz{e:Nat}(h:zj T n t d)(a:T t=some τ)(b:τ.ds=.slice e):Hp T n t [d]:=by
 simp only[zj,a,b,Ds.xt,anD,if_false]at h;exact h
def ahu{k:IntKind}{a:List D}(h:Hp T (n+1) t a)(b:T t=some τ)(c:τ.ds=.int k):∃i,a=[.int k i]∧(Lit.int k i).wf=true:=by
 simp only[Hp,b,c]at h;exact h.2
def ahv{a:List D}(h:Hp T (n+1) t a)(b:T t=some τ)(c:τ.ds=.str):∃s:ByteArray,a=[.str s]∧s.size<=140737488351232:=by
 simp only[Hp,b,c]at h;exact h.2
def ab2{e:Nat}{φ:Ty}{b:List D}(h:Hp T (n+1) t b)(d:T t=some τ)(f:τ.ds=.slice e)(g:T e=some φ) :
  ∃len a,b=[.sl false false len a]∧len*φ.bytes<=140737488351232∧a.length=len*φ.size∧∀i,i<len->Hp T n e ((a.drop (i*φ.size)).take φ.size):=by
 simp only[Hp,d,f]at h;obtain⟨_,len,a,ψ,j,k,c,l,m⟩:=h;rw[g]at c;cases c;exact⟨len,a,j,k,l,m⟩
def XE{b:List (Nat×Nat)}{a:List D}(h:Hp T (n+1) t a)(c:T t=some τ)(d:τ.ds=.struct b):a.length=τ.size∧∀f∈b,∃φ,T f.1=some φ∧Hp T n f.1 ((a.drop f.2).take φ.size):=by
 simp only[Hp,c,d]at h;exact h
end
end Go.Proofs.YtobnihfgnbnncaaGreat.Am
namespace Go.Proofs.YtobnihfgnbnncaaGreat.Am
open Go.RowKit Go.Proofs.YtobnihfgnbnncaaGreat.P
def FV{α:Type}(T:Nat->Option Ty)(n t:Nat)(E:jq α)(b:α->Prop):Prop:=(∃φ,T t=some φ∧φ.size=E.size)∧∀a,Hp T n t a->∃x,a=E.cells x∧b x
section
variable {T:Nat->Option Ty} {n t:Nat} {τ:Ty}
def opI{k:IntKind}(a:T t=some τ)(b:τ.ds=.int k)(c:τ.size=1):FV T (n+1) t (eI k) (fun i=>(Lit.int k i).wf=true):=⟨⟨τ,a,c⟩,fun _ h=>ahu h a b⟩
def aku(a:T t=some τ)(b:τ.ds=.str)(c:τ.size=1):FV T (n+1) t aiM (fun s=>s.size<=140737488351232):=⟨⟨τ,a,c⟩,fun _ h=>ahv h a b⟩
def aip{α:Type}(E:jq α)(c:α->Prop):∀(len:Nat)(a:List D),a.length=len*E.size->(∀i,i<len->∃x,(a.drop (i*E.size)).take E.size=E.cells x∧c x)->∃l:List α,l.length=len∧a=aq E l∧∀x∈l,c x
 | 0,a,e,_=>⟨[],rfl,by simpa [aq] using e,fun x b=>by simp at b⟩
 | len+1,a,e,h=>by
  obtain⟨x,b,f⟩:=h 0 (by omega);obtain⟨l,g,j,m⟩:=aip E c len (a.drop E.size) (by grind) (fun i n=>by
   obtain⟨y,k,d⟩:=h (i+1) (by omega);refine⟨y,?_,d⟩;rw[aoB];grind)
  rw[aoD,aoE]at b;refine⟨x::l,by simp[g],?_,fun y k =>?_⟩
  ·rw[bY,<- j,<- b,aoC]
  grind
def W5{α:Type}{E:jq α}{a:α->Prop}{e:Nat}(b:T t=some τ)(g:τ.ds=.slice e)(j:τ.size=1){B:Nat}(y:(T e).map (·.bytes)=some B)(k:FV T n e E a):FV T (n+1) t (fj E) (fun l=>l.length*B<=140737488351232∧∀x∈l,a x):=by
 obtain⟨⟨φ,m,o⟩,hx⟩:=k;have p:φ.bytes=B:=by simp_all
 refine⟨⟨τ,b,j⟩,fun z h =>?_⟩;obtain⟨len,q,r,c,d,f⟩:=ab2 h b g m;rw[o]at d f;rw[p]at c;obtain⟨l,s,u,v⟩:=aip E a len q d fun i w=>hx _ (f i w);subst s u;exact⟨l,r,c,v⟩
def OpF{α:Type}(T:Nat->Option Ty)(n:Nat)(b:List (Nat×Nat))(o:Nat)(E:jq α)(c:α->Prop):Prop :=
 ∀a:List D,a.length=o+E.size->(∀f∈b,∃φ,T f.1=some φ∧Hp T n f.1 ((a.drop f.2).take φ.size))->∃x,a.drop o=E.cells x∧c x
def Ui{α:Type}{E:jq α}{b:α->Prop}{a o:Nat}(h:FV T n a E b):OpF T n [(a,o)] o E b:=by
 obtain⟨⟨φ,d,i⟩,e⟩:=h;intro j k f;obtain⟨ψ,g,c⟩:=f (a,o) (by simp);cases d.symm.trans g;rw[aoF (by simp_all)]at c;exact e _ c
def Fs{α β:Type}{E:jq α}{ok:α->Prop}{b:jq β}{a:β->Prop}{c o k:Nat}{l:List (Nat×Nat)}(h:FV T n c E ok)(p:k=o+E.size)(q:OpF T n l k b a):OpF T n ((c,o)::l) o (pt E b) (fun x=>ok x.1∧a x.2):=by
 subst p;obtain⟨⟨φ,r,s⟩,t⟩:=h;intro m u hf;obtain⟨ψ,v,w⟩:=hf (c,o) (by simp);cases r.symm.trans v;obtain⟨x,d,e⟩:=t _ w;obtain⟨y,g,i⟩:=q m (by rw[u];show o+(E.size+b.size)=_;omega) fun f j=>hf f (aoj _ j);refine⟨(x,y),?_,e,i⟩;show m.drop o=E.cells x++b.cells y;rw[<- d,<- g,<- s,<- aoB,aoC]
def opS{α β:Type}{E:jq β}{ok:β->Prop}{f:α->β}{d:∀x y,f x=f y->x=y}{g:β->α}{a:List (Nat×Nat)}(b:T t=some τ)(e:τ.ds=.struct a)(i:τ.size=E.size)(l:∀y,f (g y)=y)(h:OpF T n a 0 E ok):FV T (n+1) t (DC E f d) (fun x=>ok (f x)):=by
 refine⟨⟨τ,b,i⟩,fun c j =>?_⟩;obtain⟨m,k⟩:=XE j b e;obtain⟨y,o,p⟩:=h c (by omega) k;refine⟨g y,?_,?_⟩
 ·show c=E.cells (f (g y));simp_all
 simp_all
def OpA{α:Type}(T:Nat->Option Ty)(n t:Nat)(A:Arg α)(a:α->Prop):Prop:=∀d,zj T n t d->∃x,d=A.d x∧a x
def amn{α:Type}{E:jq α}{a:List α->Prop}{e:Nat}(c:T t=some τ)(f:τ.ds=.slice e)(g:FV T n t (fj E) a):OpA T n t (iQ E) a:=fun d h=>by
 obtain⟨x,b,i⟩:=g.2 _ (aaz h c f);simp only[Eu,ans,and_true]at b;exact⟨x,b,i⟩
def oaS{α:Type}{E:jq α}{b:α->Prop}{c:List (Nat×Nat)}(e:T t=some τ)(f:τ.ds=.struct c)(g:FV T n t E b):OpA T n t (bC E) b:=fun d h=>by
 obtain⟨j,rfl,a⟩:=VJ h e f;obtain⟨x,a,i⟩:=g.2 _ a;exact⟨x,by rw[a];rfl,i⟩
def acD{α:Type}(T:Nat->Option Ty)(n:Nat)(b:List Nat)(A:kZ α)(c:α->Prop):Prop:=∀a:List D,a.length=b.length->(∀(j:Nat) u,b[j]? = some u->∃x,a[j]? = some x∧zj T n u x)->∃x,a=A.ds x∧c x
def amo{α:Type}{A:Arg α}{b:α->Prop}(h:OpA T n t A b):acD T n [t] (dp A) b:=fun g c d=>by
 obtain⟨a,rfl,e⟩:=aka c d;obtain⟨x,rfl,f⟩:=h a e;exact⟨x,rfl,f⟩
def amp{α β:Type}{A:Arg α}{ok:α->Prop}{B:kZ β}{b:β->Prop}{e:List Nat}(h:OpA T n t A ok)(g:acD T n e B b):acD T n (t::e) (eZ A B) (fun x=>ok x.1∧b x.2):=fun f i j=>by
 obtain⟨a,f,rfl,k,c,d⟩:=akb i j;obtain⟨x,rfl,l⟩:=h a k;obtain⟨y,rfl,m⟩:=g f c d;exact⟨(x,y),rfl,l,m⟩
def aiY{P:Program}{f:FuncId}{α:Type}{A:kZ α}{F:α->Option Bool}{c:α->Prop}{b:List Nat}(d:acD T n b A c)(e:b6 P f (dx A F (fun r =>.clean (.bool r))))(h:∀x,c x->F x=some true)(a:List D)(g:a.length=b.length)
  (i:∀(j:Nat) u,b[j]? = some u->∃x,a[j]? = some x∧zj T n u x):Vz P f a (.bool true):=by
 obtain⟨x,rfl,k⟩:=d a g i;refine e.calls none _ _ none ?_;rw[cF,h x k];rfl
end
end Go.Proofs.YtobnihfgnbnncaaGreat.Am
namespace Go.Proofs.YtobnihfgnbnncaaGreat.P
open Go.RowKit
def QI(l:List Int):Option (List Int):=some l
def HB(l:List Int):Option (List Int):=if l.length*8<=140737488351232 then some (vk l) else none
end Go.Proofs.YtobnihfgnbnncaaGreat.P
namespace Go.Proofs
open Go.Shelf
def Tryz.Th:Go.Shelf.Ren:=⟨fun|189=>194|125=>122|257=>201|128=>164|129=>165|294=>203|295=>204|296=>205|297=>206|298=>207|299=>208|216=>209|300=>210|301=>211|328=>213|329=>188|330=>189|331=>214|332=>215|215=>153|343=>216|n=>n,fun|28=>22|3=>3|46=>153|0=>0|51=>190|53=>152|4=>4|183=>184|182=>183|131=>172|5=>5|9=>9|218=>207|222=>211|228=>216|229=>217|n=>n,fun|n=>n⟩
def Tryz.Y0:Go.Proofs.Lays.n189 prog Tryz.Th:={
 mixed:=by kernel_rfl
 f125:=Tryz.func122.trans (congrArg some (by kernel_rfl))
 f128:=Tryz.func164.trans (congrArg some (by kernel_rfl))
 f129:=Tryz.func165.trans (congrArg some (by kernel_rfl))
 f189:=Tryz.func194.trans (congrArg some (by kernel_rfl))
 f215:=Tryz.func153.trans (congrArg some (by kernel_rfl))
 f216:=Tryz.func209.trans (congrArg some (by kernel_rfl))
 f257:=Tryz.func201.trans (congrArg some (by kernel_rfl))
 f294:=Tryz.func203.trans (congrArg some (by kernel_rfl))
 f295:=Tryz.func204.trans (congrArg some (by kernel_rfl))
 f296:=Tryz.func205.trans (congrArg some (by kernel_rfl))
 f297:=Tryz.func206.trans (congrArg some (by kernel_rfl))
 f298:=Tryz.func207.trans (congrArg some (by kernel_rfl))
 f299:=Tryz.func208.trans (congrArg some (by kernel_rfl))
 f300:=Tryz.func210.trans (congrArg some (by kernel_rfl))
 f301:=Tryz.func211.trans (congrArg some (by kernel_rfl))
 f328:=Tryz.func213.trans (congrArg some (by kernel_rfl))
 f329:=Tryz.func188.trans (congrArg some (by kernel_rfl))
 f330:=Tryz.func189.trans (congrArg some (by kernel_rfl))
 f331:=Tryz.func214.trans (congrArg some (by kernel_rfl))
 f332:=Tryz.func215.trans (congrArg some (by kernel_rfl))
 f343:=Tryz.func216.trans (congrArg some (by kernel_rfl))
 t0:=underlying0
 a0:=isAgg0
 z0:=sizeOf0
 v0:=zeroValue0
 t3:=underlying3
 a3:=isAgg3
 z3:=sizeOf3
 v3:=zeroValue3
 t4:=underlying4
 a4:=isAgg4
 z4:=sizeOf4
 v4:=zeroValue4
 t5:=underlying5
 a5:=isAgg5
 z5:=sizeOf5
 v5:=zeroValue5
 t9:=underlying9
 a9:=isAgg9
 z9:=sizeOf9
 v9:=zeroValue9
 t28:=underlying22
 a28:=isAgg22
 z28:=sizeOf22
 v28:=zeroValue22
 t46:=underlying153
 a46:=isAgg153
 z46:=sizeOf153
 v46:=zeroValue153
 t51:=underlying190
 a51:=isAgg190
 z51:=sizeOf190
 v51:=zeroValue190
 t53:=underlying152
 a53:=isAgg152
 z53:=sizeOf152
 v53:=zeroValue152
 t131:=underlying172
 a131:=isAgg172
 z131:=sizeOf172
 v131:=zeroValue172
 t182:=underlying183
 a182:=isAgg183
 z182:=sizeOf183
 v182:=zeroValue183
 t183:=underlying184
 a183:=isAgg184
 z183:=sizeOf184
 v183:=zeroValue184
 t218:=underlying207
 a218:=isAgg207
 z218:=sizeOf207
 v218:=zeroValue207
 t222:=underlying211
 a222:=isAgg211
 z222:=sizeOf211
 v222:=zeroValue211
 t228:=underlying216
 a228:=isAgg216
 z228:=sizeOf216
 v228:=zeroValue216
 t229:=underlying217
 a229:=isAgg217
 z229:=sizeOf217
 v229:=zeroValue217 }
def Tryz.Xk:Go.Shelf.Ren:=⟨fun|6=>66|15=>122|14=>121|28=>164|29=>165|20=>156|21=>157|22=>158|23=>159|24=>160|25=>161|26=>162|27=>163|46=>187|47=>188|48=>189|49=>190|50=>191|57=>199|n=>n,fun|22=>64|24=>118|25=>120|3=>3|39=>153|0=>0|53=>190|55=>152|4=>4|46=>184|45=>183|50=>172|5=>5|9=>9|66=>207|70=>211|76=>216|77=>217|n=>n,fun|n=>n⟩
def Tryz.afo:Go.Proofs.SlLaysF0.n6 prog Tryz.Xk:={
 mixed:=by kernel_rfl
 f6:=⟨Tryz.f66.name,by decide,Tryz.func66.trans (congrArg some (by kernel_rfl))⟩
 f14:=⟨Tryz.f121.name,by decide,Tryz.func121.trans (congrArg some (by kernel_rfl))⟩
 f15:=Tryz.func122.trans (congrArg some (by kernel_rfl))
 f20:=⟨Tryz.f156.name,by decide,Tryz.func156.trans (congrArg some (by kernel_rfl))⟩
 f21:=⟨Tryz.f157.name,by decide,Tryz.func157.trans (congrArg some (by kernel_rfl))⟩
 f22:=⟨Tryz.f158.name,by decide,Tryz.func158.trans (congrArg some (by kernel_rfl))⟩
 f23:=⟨Tryz.f159.name,by decide,Tryz.func159.trans (congrArg some (by kernel_rfl))⟩
 f24:=⟨Tryz.f160.name,by decide,Tryz.func160.trans (congrArg some (by kernel_rfl))⟩
 f25:=⟨Tryz.f161.name,by decide,Tryz.func161.trans (congrArg some (by kernel_rfl))⟩
 f26:=⟨Tryz.f162.name,by decide,Tryz.func162.trans (congrArg some (by kernel_rfl))⟩
 f27:=⟨Tryz.f163.name,by decide,Tryz.func163.trans (congrArg some (by kernel_rfl))⟩
 f28:=Tryz.func164.trans (congrArg some (by kernel_rfl))
 f29:=Tryz.func165.trans (congrArg some (by kernel_rfl))
 f46:=⟨Tryz.f187.name,by decide,Tryz.func187.trans (congrArg some (by kernel_rfl))⟩
 f47:=Tryz.func188.trans (congrArg some (by kernel_rfl))
 f48:=Tryz.func189.trans (congrArg some (by kernel_rfl))
 f49:=⟨Tryz.f190.name,by decide,Tryz.func190.trans (congrArg some (by kernel_rfl))⟩
 f50:=⟨Tryz.f191.name,by decide,Tryz.func191.trans (congrArg some (by kernel_rfl))⟩
 f57:=⟨Tryz.f199.name,by decide,Tryz.func199.trans (congrArg some (by kernel_rfl))⟩
 t0:=underlying0
 a0:=isAgg0
 z0:=sizeOf0
 v0:=zeroValue0
 t3:=underlying3
 a3:=isAgg3
 z3:=sizeOf3
 v3:=zeroValue3
 t4:=underlying4
 a4:=isAgg4
 z4:=sizeOf4
 v4:=zeroValue4
 t5:=underlying5
 a5:=isAgg5
 z5:=sizeOf5
 v5:=zeroValue5
 t9:=underlying9
 a9:=isAgg9
 z9:=sizeOf9
 v9:=zeroValue9
 t22:=underlying64
 a22:=isAgg64
 z22:=sizeOf64
 v22:=zeroValue64
 t25:=underlying120
 a25:=isAgg120
 z25:=sizeOf120
 v25:=zeroValue120
 t39:=underlying153
 a39:=isAgg153
 z39:=sizeOf153
 v39:=zeroValue153
 t45:=underlying183
 a45:=isAgg183
 z45:=sizeOf183
 v45:=zeroValue183
 t46:=underlying184
 a46:=isAgg184
 z46:=sizeOf184
 v46:=zeroValue184
 t50:=underlying172
 a50:=isAgg172
 z50:=sizeOf172
 v50:=zeroValue172
 t53:=underlying190
 a53:=isAgg190
 z53:=sizeOf190
 v53:=zeroValue190
 t55:=underlying152
 a55:=isAgg152
 z55:=sizeOf152
 v55:=zeroValue152
 t66:=underlying207
 a66:=isAgg207
 z66:=sizeOf207
 v66:=zeroValue207
 t70:=underlying211
 a70:=isAgg211
 z70:=sizeOf211
 v70:=zeroValue211
 t76:=underlying216
 a76:=isAgg216
 z76:=sizeOf216
 v76:=zeroValue216
 t77:=underlying217
 a77:=isAgg217
 z77:=sizeOf217
 v77:=zeroValue217 }
end Go.Proofs
namespace Go.Proofs.YtobnihfgnbnncaaGreat.Am
open Go.RowKit Go.Proofs.YtobnihfgnbnncaaGreat.P
def X3{w:World}{M:Nat->Prop}{k:IntKind}{l:List Int}{u:Value}(h:RP w M (.sl false false l.length (aq (eI k) l)) u) :
  ∃A c,u=.slice A l.length c∧l.length<=c∧c<=maxLen∧(A=none->l.length=0∧c=0)∧(l≠[]->∃b o,A=some ⟨b,o,none⟩∧b<w.heap.size∧¬M b∧∀j,j<l.length->w.cell? ⟨b,o+j,none⟩=some (.int k (l.getD j 0))):=by
 cases h with
 | sl A c nl tight n xs us h1 h2 h3 h4 h5 h6 h7 h8 =>
  refine⟨A,c,rfl,h1,h2,h4,fun p =>?_⟩;have a:aq (eI k) l≠[]:=by
   intro d;have:=congrArg List.length d;rw[tF]at this;simp_all
  obtain⟨b,o,rfl,e,f,g⟩:=h6 a;refine⟨b,o,rfl,e,f,fun j i =>?_⟩;rw[g j (by rw[tF];exact i)];have m:(aq (eI k) l)[j]? = some (.int k (l.getD j 0)):=by rw[zQ];simp_all
  rw[VD (h7 j _ m)]
end Go.Proofs.YtobnihfgnbnncaaGreat.Am
namespace Go.Proofs.YtobnihfgnbnncaaGreat.Am
open Go.RowKit Go.Shelf Go.Proofs.YtobnihfgnbnncaaGreat.P
attribute [local go_sem] Oper.semAt_some
def upto(f:Nat->Int)(k:Nat):List Int:=(List.range k).map f
def OL(f:Nat->Int)(k:Nat):upto f (k+1)=upto f k++[f k]:=by simp[upto,apz]
def Vp(f:Nat->Int)(k:Nat):(upto f k).length=k:=by simp[upto]
def afR(zs:List Int):upto (fun j=>zs[j]?.getD 0) zs.length=zs:=by
 apply List.ext_getElem
 ·simp[upto]
 ·intro i b a;simp[upto,a]
def ab5(zs:List Int){k:Nat}(a:k<=zs.length):upto (fun j=>zs[j]?.getD 0) k=zs.take k:=by
 apply List.ext_getElem
 ·simp[upto,a]
 ·intro i b c;have:i<zs.length:=by grind
  simp[upto,this]
set_option maxRecDepth 100000 in
set_option maxHeartbeats 2000000 in
def XI(F:Fence)(n:Nat)(h7:F.fn 195)(hro:F.round=none)(hn:1<=n)(l Bs Bo n₀ b off len cap:Nat)(zs:List Int)(hreach:len*8<=140737488351232)(hb:b<n₀)(J Jx:List Int->World->Prop)
  (hY:∀pre x W,J pre W->pre.length<len->YieldAt F (n-1) prog l #[.int .i64 x] W fun e W' =>
   (e=.returned (.bool true)∧J (pre++[x]) W'∧Below n₀ W W')∨(e=.returned (.bool false)∧Jx (pre++[x]) W'))
  (W:World) (hBs:W.cell? ⟨Bs,Bo,none⟩=some (.slice (some ⟨b,off,none⟩) len cap)) (hc:∀j,j<len->W.cell? ⟨b,off+j,none⟩=some (.int .i64 (zs[j]?.getD 0))) (h0:J [] W) :
  CallsIn F n prog 195 #[.func (.yield l) #[] #[],.pointer (some ⟨Bs,Bo,none⟩)] W fun e W'=>(∃v,e=.returned v) ∧
   ((∃ys,ys=upto (fun j=>zs[j]?.getD 0) len∧J ys W')∨(∃pre,(∃k,k<=len∧pre=upto (fun j=>zs[j]?.getD 0) k)∧Jx pre W')):=by
 refine callsIn_of_wp func195 rfl h7 ?_ hro;simp only[ntmps195,aoe,List.length_cons,List.length_nil,Nat.reduceAdd,Nat.reduceSub,apG,Array.replicate_zero,apI,apJ,List.nil_append,List.cons_append]
 gi_wp2
 gi_loopw [7] (fun i wr=>∃k:Nat,k<=len∧i=.int .i64 k∧J (upto (fun j=>zs[j]?.getD 0) k) wr∧Below n₀ W wr)
  (fun i _=>len-(intOf i).toNat)
 case atStart=>exact⟨0,am7 _,rfl,h0,Below.refl _ _⟩
 case round =>
  obtain⟨k,hk,rfl,hJs,hnx⟩:=hrel;have hcx:k<len->wr.cell? ⟨b,off+k,none⟩=some (.int .i64 (zs[k]?.getD 0)):=fun h=>(hnx.cell (p:=⟨b,off+k,none⟩) hb).trans (hc k h)
  by_cases hlt:k<len
  ·obtain⟨fn,tmps,assign,body,hy,hR⟩:=hY _ (zs[k]?.getD 0) wr hJs (by rw[Vp];exact hlt);have hcx':=hcx hlt
   gi_wp2
   apply hR.mono;rintro e W3 (⟨rfl,hJ3,hk3⟩|⟨rfl,hJx3⟩)
   ·gi_wp2
    go_roundw
    case rel=>exact⟨k+1,by omega,by simp,by rw[OL];exact hJ3,hnx.trans hk3⟩
    case measure=>simp[intOf];omega
   ·gi_wp2
    refine bodyPost_ret (results_none rfl _ _ _) rfl ?_;exact⟨⟨_,rfl⟩,.inr ⟨_,⟨k+1,by omega,(OL _ _).symm⟩,hJx3⟩⟩
  ·obtain rfl:k=len:=by omega
   gi_wp2
   go_end0
   exact⟨⟨_,rfl⟩,.inl ⟨_,rfl,hJs⟩⟩
set_option maxRecDepth 100000 in
set_option maxHeartbeats 1000000 in
def KY(F:Fence)(n:Nat)(h7:F.fn 195)(hro:F.round=none)(l Bs Bo cap:Nat)(A:Option Addr)(J:List Int->World->Prop)(W:World)(hBs:W.cell? ⟨Bs,Bo,none⟩=some (.slice A 0 cap))(h0:J [] W) :
  CallsIn F n prog 195 #[.func (.yield l) #[] #[],.pointer (some ⟨Bs,Bo,none⟩)] W fun e W'=>(∃v,e=.returned v)∧J [] W':=by
 refine callsIn_of_wp func195 rfl h7 ?_ hro;simp only[ntmps195,aoe,List.length_cons,List.length_nil,Nat.reduceAdd,Nat.reduceSub,apG,Array.replicate_zero,apI,apJ,List.nil_append,List.cons_append]
 gi_wp2
 gi_loopw [7] (fun i wr=>i=.int .i64 0∧J [] wr) (fun _ _=>0)
 case atStart=>exact⟨rfl,h0⟩
 case round =>
  obtain⟨rfl,hJs⟩:=hrel
  gi_wp2
  go_end0
  exact⟨⟨_,rfl⟩,hJs⟩
def Ints(g:Nat)(W:World)(f:Value)(d:List Int):Prop :=
 (∃A c,f=.slice A 0 c∧d=[])∨∃b a e,f=.slice (some ⟨b,a,none⟩) d.length e∧b<g∧∀j,j<d.length->W.cell? ⟨b,a+j,none⟩=some (.int .i64 (d[j]?.getD 0))
def Ints.below{a:Nat}{A B:World}(h:Below a A B){c:Value}{d:List Int}:Ints a A c d->Ints a B c d
 | .inl e =>.inl e
 | .inr ⟨b,off,cap,e,f,g⟩ =>.inr ⟨b,off,cap,e,f,fun j i=>(h.cell (p:=⟨b,off+j,none⟩) f).trans (g j i)⟩
def QJ(F:Fence)(n:Nat)(v:F.fn 195)(g:F.round=none)(C:1<=n)(f h m:Nat)(y:Value)(a:List Int)(d:a.length*8<=140737488351232)(w:World)(q:f<w.heap.size)(r:m<=w.heap.size)
  (D:w.cell? ⟨f,h,none⟩=some y) (E:Ints m w y a) :
  SeqStopsK F n prog 195 #[.pointer (some ⟨f,h,none⟩)] (fun x:Int=>#[Value.int .i64 x]) (Below m) (fun ys=>ys=a) (fun pre=>pre <+: a) a.length w:=fun l J G W z _ _ H B=>by
 have i:=(z.cell (p:=⟨f,h,none⟩) q).trans D;rcases E.below (z.mono r) with⟨A,c,rfl,rfl⟩|⟨b,s,t,rfl,I,u⟩
 ·exact (KY F n v g l f h _ _ J W i B).mono fun e K ⟨o,j⟩=>⟨o,.inl ⟨_,rfl,j⟩⟩
 ·refine (XI F n v g C l f h m b s a.length t a d I J G H W i u B).mono ?_;rintro e K ⟨o,⟨ys,rfl,j⟩|⟨pre,⟨k,L,rfl⟩,j⟩⟩
  ·exact⟨o,.inl ⟨_,afR a,j⟩⟩
  ·exact⟨o,.inr ⟨_,by rw[ab5 a L];exact List.take_prefix _ _,j⟩⟩
def akl:(Tryz.prog.info? 3).map (fun i=>(i.zero,i.size,i.bytes))=some (some (.int .i64 0),1,8):=by kernel_rfl
set_option maxRecDepth 100000 in
set_option maxHeartbeats 2000000 in
def appendSeq_in(F:Fence)(n:Nat)(h3:F.fn 200)(h7:F.fn 195)(hro:F.round=none)(hn:3<=n)(Bs Bo:Nat)(sv:Value)(zs:List Int)(hreach:zs.length*8<=140737488351232)(w:World)
  (hBs:Bs<w.heap.size) (hc:w.cell? ⟨Bs,Bo,none⟩=some sv) (hI:Ints w.heap.size w sv zs) :
  CallsIn F n prog 200 #[.slice none 0 0,.func (.func 195) #[] #[.pointer (some ⟨Bs,Bo,none⟩)]] w fun e W'=>∃v,e=.returned v∧W'.ownsRow w.heap.size 3 1 v zs.length (zs.map (Value.int .i64))∧(v=.slice none 0 0↔zs=[])∧Below w.heap.size w W':=by
 have h1:1<=n:=by omega
 obtain⟨i0,hi,hz0,hz1,hz2⟩:=info_parts akl;refine callsIn_of_wp_marks func200 rfl h3 ?_ hro;simp only[ntmps200,aoe,List.length_cons,List.length_nil,Nat.reduceAdd,Nat.reduceSub,apG,Array.replicate_zero,apI,apJ,List.nil_append,List.cons_append]
 gi_wp2
 have bO:=Boxed.new w 22 (.slice none 0 0);have hB0:Below w.heap.size w (w.alloc (.cells #[.slice none 0 0] 22)):=(Below.refl _ w).alloc (am6 _) _;refine wpIn_rangeFunc_ownG hro h1 (gf:=195) (lb:=#[.pointer (some ⟨Bs,Bo,none⟩)]) rfl h7 (enters_of func195 (by kernel_rfl) rfl)
  (QJ F (n-1) h7 hro (by omega) Bs Bo w.heap.size sv zs hreach _ (by simp;omega) (by simp) ((hB0.cell (p:=⟨Bs,Bo,none⟩) hBs).trans hc) (hI.below hB0)) belowK_t (belowK_b (by simp)) (Below.refl _ _) (fun _=>rfl)
  (fun pre W=>(∃v,Boxed W w.heap.size 22 v∧W.ownsRow w.heap.size 3 1 v pre.length (pre.map (Value.int .i64))∧(v=.slice none 0 0↔pre=[]))∧Below w.heap.size w W)
  (fun _ _ _=>False)
  (OwnFrom.and (Own.from (holdsRow_own w.heap.size w.heap.size 22 3 1 (fun pre=>pre.length) (fun pre=>pre.map (Value.int .i64)) (fun pre v=>v=.slice none 0 0↔pre=[])) _) (ownFrom_below (am6 _) (by simp)))
  (fun _ _ _ _ _ hs _ _=>hs)
  ⟨⟨_,bO,World.ownsRow_nil _ _ _ _,by simp⟩,hB0⟩
  (fun x=>{ tmps:=#[.slice none 0 0,.func (.func 195) #[] #[.pointer (some ⟨Bs,Bo,none⟩)],.pointer (some ⟨w.heap.size,0,none⟩),undef,.slice none 0 0,.int .i64 x,.func (.func 195) #[] #[.pointer (some ⟨Bs,Bo,none⟩)],.int .i64 x,undef,undef,undef,undef,undef],defers:=[] }) ?assign ?body ?done ?stop
 case assign =>
  intro l x W K hK
  gi_wp2
  exact hK
 case body =>
  rintro l pre x W ⟨⟨v,hv,hrow,hnil⟩,hB⟩ hlt;have hc:=hv.cell
  gi_wp2_with (gi_at_builtin;refine wpListIn_append_own _ rfl _ _ 22 rfl w.heap.size 3 i0 (.int .i64 0) 1 8 underlying22 hi hz0 hz1 hz2 rfl (by decide) _ _ _ rfl (hrow.alloc _) ⟨W.heap.size,0,none⟩ 1 1 [.int .i64 x] rfl rfl (cell_one_new _ _ _) (by simp[Value.oneCell']) (by unfold maxLen;omega) (by omega) (by have:=hB.size;simp;omega) ?_;intro v' w1 hown' hgrow _;obtain⟨g',cap',rfl⟩:=ownsRow_succ hown';obtain⟨hv1,hv2,hr2,hk2,hb2⟩:=hv.appended (by decide) hrow hB.size (am6 _) hown' hgrow;have hc1:=hv1.cell;have hf1:=hv1.frozen)
  exact⟨hk2.from _,hb2,⟨_,hv2,by simpa using hr2,by simp⟩,hB.trans hb2⟩
 case done =>
  rintro D ys W hD rfl ⟨⟨v,hv,hrow,hnil⟩,hB⟩ hK;have hc:=hv.cell
  gi_wp2
  refine⟨by simp,.inl ⟨_,_,rfl,run_takeDeferred hK,?_⟩⟩;exact⟨_,results_tmp rfl _ _ _,v,rfl,ownsRow_putObj hrow _ hK rfl,hnil,hB.trans (belowK_b (w:=w) (am6 _) W D _ _ (by simp at hD;omega) hK rfl rfl)⟩
 case stop =>
  rintro D c pre W _ _ h _;exact h.elim
set_option maxHeartbeats 1000000 in
def collect_in(F:Fence)(n:Nat)(h2:F.fn 193)(h3:F.fn 200)(h7:F.fn 195)(hro:F.round=none)(hn:4<=n)(Bs Bo:Nat)(sv:Value)(zs:List Int)(hreach:zs.length*8<=140737488351232)(w:World)
  (hBs:Bs<w.heap.size) (hc:w.cell? ⟨Bs,Bo,none⟩=some sv) (hI:Ints w.heap.size w sv zs) :
  CallsIn F n prog 193 #[.func (.func 195) #[] #[.pointer (some ⟨Bs,Bo,none⟩)]] w fun e W'=>∃v,e=.returned v∧W'.ownsRow w.heap.size 3 1 v zs.length (zs.map (Value.int .i64))∧(v=.slice none 0 0↔zs=[])∧Below w.heap.size w W':=by
 have h1:1<=n:=by omega
 refine callsIn_of_wp func193 rfl h2 ?_ hro;simp only[ntmps193,aoe,List.length_cons,List.length_nil,Nat.reduceAdd,Nat.reduceSub,apG,Array.replicate_zero,apI,apJ,List.nil_append,List.cons_append]
 gi_wp2_with (gi_at_call 200;refine (appendSeq_in F (n-1) h3 h7 hro (by omega) Bs Bo sv zs hreach _ hBs hc hI).mono ?_;rintro e w' ⟨v,rfl,hrow,hnil,hb⟩)
 go_ret
 exact⟨v,rfl,hrow,hnil,hb⟩
def ahy(a:Option Addr)(len cap:Nat)(w:World) :
  Calls prog 174 #[.slice a len cap] w fun e w'=>e=.returned (.func (.func 195) #[] #[.pointer (some ⟨w.heap.size,0,none⟩)])∧w'=w.alloc (.cells #[.slice a len cap] 22):=by
 go_enter func174,ntmps174
 go_wp2
 go_ret
 exact⟨rfl,rfl⟩
set_option maxHeartbeats 1000000 in
def ahp(Bs Bo:Nat)(sv:Value)(zs:List Int)(hreach:zs.length*8<=140737488351232)(w:World)(hBs:Bs<w.heap.size)(hc:w.cell? ⟨Bs,Bo,none⟩=some sv)(hI:Ints w.heap.size w sv zs) :
  Calls prog 173 #[.func (.func 195) #[] #[.pointer (some ⟨Bs,Bo,none⟩)]] w fun e w'=>∃v,e=.returned v∧Below w.heap.size w w' ∧
   ((zs=[]∧v=.slice none 0 0)∨∃g cap cs,v=.slice (some ⟨g,0,none⟩) zs.length cap∧w.heap.size<=g∧w'.heap[g]? = some (.cells cs 3 (0,0))∧zs.length<=cap∧cap<=maxLen∧cs.size=cap∧∀j,j<zs.length->cs.getD j undef=.int .i64 ((vk zs).getD j 0)):=by
 refine (callsIn_wide (n:=6)).1 ?_;have hN:(1:Nat)<=6:=by omega
 have cC:=collect_in Fence.wide 5 trivial trivial trivial rfl (by omega) Bs Bo sv zs hreach w hBs hc hI;refine callsIn_of_wp func173 rfl trivial ?_ rfl;simp only[ntmps173,aoe,List.length_cons,List.length_nil,Nat.reduceAdd,Nat.reduceSub,apG,Array.replicate_zero,apI,apJ,List.nil_append,List.cons_append];have hf1:Fence.wide.fn 193:=trivial;have hf2:Fence.wide.fn 194:=trivial;have cS:aj4 prog 194:=fun blk off cap zs w hH hb hl=>Any.slices_Sort_int Tryz.Y0 blk off cap zs w hH hb hl
 by_cases hz:zs=[]
 ·subst hz
  gi_wp2_with (first
   | (gi_at_call 193;refine cC.mono ?_;clear cC;rintro e w' ⟨v,rfl,hrow,hnil,hb⟩;obtain rfl:v=.slice none 0 0:=hnil.2 rfl)
   | (gi_at_call 194;refine (callsIn_wide.2 (Any.slices_Sort_int_none Tryz.Y0 _ _ _)).mono ?_;rintro e2 w2 ⟨rfl,rfl⟩))
  go_ret
  first|exact⟨_,rfl,hb,.inl rfl⟩|exact⟨_,rfl,hb,.inl ⟨rfl,rfl⟩⟩
 ·gi_wp2_with (gi_at_call 193;refine cC.mono ?_;clear cC;rintro e w' ⟨v,rfl,hrow,hnil,hb⟩;obtain⟨g,cap,cur,rfl,k1,k2,k3,k4,k5,k6⟩:∃g cap cur,v=.slice (some ⟨g,0,none⟩) zs.length cap∧w.heap.size<=g∧w'.heap[g]? = some (.cells cur 3 (0,0))∧zs.length<=cap∧cap<=maxLen∧cur.size=cap*1∧cur.toList.take (zs.length*1)=zs.map (Value.int .i64):=hrow.2.resolve_left (fun hv=>hz (hnil.1 hv.1)))
  rw[Nat.mul_one]at k5 k6;have hcur:∀j,j<zs.length->cur[j]? = some (.int .i64 (zs.getD j 0)):=by
   intro j hj;have:(cur.toList.take zs.length)[j]? = (zs.map (Value.int .i64))[j]?:=by rw[k6]
   rw[anw,if_pos hj,am3,an9]at this;rw[this];simp[List.getD,hj]
  have hH:Go.Sort.Holds (Value.int .i64) w' g 0 zs.toArray:=by
   intro j hj;simp only[aoe]at hj;refine⟨?_,by simp[World.frozen?,k2]⟩;simp only[World.cell?,k2,an5];rw[hcur j hj];simp[List.getD,hj]
  have hlt:g<w'.heap.size:=(an6.1 k2).1
  gi_wp2_with (gi_at_call 194;refine (callsIn_wide.2 (cS g 0 cap zs w' hH hlt (by omega))).mono ?_;rintro e2 w2 ⟨rfl,q,os,rfl⟩)
  go_ret
  refine⟨_,rfl,?_,.inr ⟨g,cap,Go.Sort.putCells (Value.int .i64) 0 (vk zs).toArray cur,rfl,k1,?_,k3,k4,?_,fun j hj =>?_⟩⟩
  ·refine⟨hb.os,hb.tape,hb.output,am8 hb.size (by simp[Go.Sort.grow,Go.Sort.ahead]),fun k hk =>?_⟩;have hk':k<w'.heap.size:=am9 hk hb.size;rw[Go.Sort.heap_grow_old _ _ (by simpa [Go.Sort.ahead] using hk'),Kk (by omega)];exact hb.block k hk
  ·rw[Go.Sort.heap_grow_old _ _ (by simpa [Go.Sort.ahead] using hlt)];exact Us k2
  ·simp[Go.Sort.putCells,k5]
  ·rw[P9 (by omega),if_pos (by rw[tZ];omega),Nat.sub_zero]
def aca:b6 prog 174 (dx (dp (iQ (eI .i64))) QI (fun r =>.clean (.clo 195 0 [.ip [.sl false false r.length (aq (eI .i64) r)]]))) where
 callable:=⟨_,func174,by kernel_rfl,by kernel_rfl⟩
 calls cg ds rk out n:=by
  obtain⟨rfl,rfl,l,r,rfl,o,rfl⟩:=uV n;cases o;intro w M i p a;have g:i.size=1:=a.size;rw[afU g];have q:=a.at_ 0 _ rfl;generalize i.getD 0 undef=u at *;have f:RP w M (.sl false false l.length (aq (eI .i64) l)) u:=q;obtain⟨A,c,rfl,-⟩:=X3 f;refine (ahy A l.length c w).mono fun e B ⟨s,t⟩ =>?_;subst t;have k:Below w.heap.size w (w.alloc (.cells #[.slice A l.length c] 22)):=(Below.refl _ w).alloc (am6 _) _;have v:∀b,b<w.heap.size->¬M b->b<(w.alloc (.cells #[.slice A l.length c] 22)).heap.size∧¬M b∧(w.alloc (.cells #[.slice A l.length c] 22)).heap[b]? = w.heap[b]?:=fun b y z=>⟨by simp;omega,z,k.block b y⟩;refine⟨_,s,k,RP.clo _ 0 _ [.pointer (some ⟨w.heap.size,0,none⟩)] rfl fun j x d =>?_⟩;cases j with
  | succ j=>simp at d
  | zero =>
   simp only[List.getElem?_cons_zero,anf]at d;subst d;refine RP.ip _ ⟨w.heap.size,0,none⟩ (fun _ =>.slice A l.length c) (fun _=>⟨w.heap.size,0,rfl,by simp,fun h=>by have:=p _ h;omega,fun j d =>?_⟩) (fun j x d =>?_) (fun x m =>?_)
   ·simp only[List.length_cons,List.length_nil]at d;have:j=0:=by omega
    subst this;exact (bm (heap_alloc_new w _) (j:=0) (by simp)).trans rfl
   ·cases j with
    | succ j=>simp at d
    | zero =>
     simp only[List.getElem?_cons_zero,anf]at d;subst d;exact f.keep v
   ·simp only[anr]at m;subst m;rfl
def abR:b6 prog 173 (dx (dp (OY 195 0 (dp (aIp (fj (eI .i64)))))) HB (fun r =>.fresh 3 1 r.length (aq (eI .i64) r))) where
 callable:=⟨_,func173,by kernel_rfl,by kernel_rfl⟩
 calls cg ds rk out O:=by
  obtain⟨rfl,rfl,l,r,rfl,s,rfl⟩:=uV O;unfold HB at s;split at s;rotate_left
  ·cases s
  rename_i i;cases s;intro w M I hM h;have y:I.size=1:=h.size;rw[afU y];have P:=h.at_ 0 _ rfl;generalize I.getD 0 undef=u at *;have B:RP w M (.clo 195 0 [.ip [.sl false false l.length (aq (eI .i64) l)]]) u:=P;cases B with
  | clo f kk xs t Q h2 =>
   have R:=h2 0 _ rfl;have C:t=[t.getD 0 undef]:=by
    match t,Q with
    | [x],_=>rfl
   rw[C];generalize t.getD 0 undef=q at *;cases R with
   | ip xs ad m h6 h7 h8 =>
    obtain⟨b,o,rfl,S,T,k⟩:=h6 (by simp);have a:=k 0 (by simp);rw[anE]at a;have U:=h7 0 _ rfl;have V:Ints w.heap.size w (m 0) l:=by
     obtain⟨A,c,W,J,K,L,D⟩:=X3 U;rw[W]
     by_cases N:l=[]
     ·subst N;exact .inl ⟨A,c,rfl,rfl⟩
     ·obtain⟨X,Y,rfl,E,Z,F⟩:=D N;exact .inr ⟨X,Y,c,rfl,E,fun j n=>by rw[F j n];simp[List.getD]⟩
    refine (ahp b o (m 0) l i w S a V).mono fun e w' ⟨v,he,G,hv⟩ =>?_;refine⟨v,he,G,?_⟩;rcases hv with⟨rfl,rfl⟩|⟨g,H,cs,rfl,J,K,L,D,k5,k6⟩
    ·refine .inr ⟨?_,?_,none,rfl⟩
     ·rw[Om];rfl
     ·rw[Om];rfl
    ·refine .inl ⟨(g,0),H,cs,by rw[tZ],.inl J,K,by rw[tZ];exact L,D,by simp only;omega,by rw[tF,tZ];simp only;omega,fun j d n =>?_⟩;have p:=(anx.1 n).1;rw[tF,tZ]at p;rw[zQ,am4]at n;obtain⟨z,hz,rfl⟩:=n;simp only[an5];rw[k6 j p];have:(vk l).getD j 0=z:=by simp[List.getD,hz]
     rw[this];exact⟨rfl,.int _ _⟩
end Go.Proofs.YtobnihfgnbnncaaGreat.Am
namespace Go.Proofs.YtobnihfgnbnncaaGreat.Am
open Go.RowKit Go.Proofs.YtobnihfgnbnncaaGreat.P
def Sd{α:Type}(e:jq α):jq (List α):=⟨fun l=>[.nx l.length (aq e l)],1,fun _=>rfl,by decide,fun x y h=>by
 simp only[ans,D.nx.injEq,and_true]at h;exact zP e _ _ h.2⟩
def Bg{α:Type}(e:jq α)(l:List α):(Sd e).cells l=[.nx l.length (aq e l)]:=apL
def Dx{α:Type}(e:jq α):(Sd e).size=1:=apL
section
variable {α:Type} (E:jq α) {l:List α} {i:Int} {x x':α}
def Qa(a:List D)(o:Nat)(d:D)(h:o<a.length):(putCells a o [d]).length=a.length:=by
 simp[putCells];omega
def Qb(a:List D)(o:Nat)(d b:D)(h:o<a.length):putCells (putCells a o [d]) o [b]=putCells a o [b]:=by
 unfold putCells;have f:(a.take o).length=o:=by simp;omega
 have c:(a.take o++[d]++a.drop (o+[d].length)).take o=a.take o:=by
  simp_all
 have e:(a.take o++[d]++a.drop (o+[d].length)).drop (o+[b].length)=a.drop (o+[b].length):=by
  rw[aoS (by simp;omega),aox (by simp;omega),aoy];rfl
 rw[c,e]
def PR(a:Nat)(h:P.idx l i=some x)(b:a+1<=E.size):i.toNat*E.size+a<(aq E l).length:=by
 have:=lq E h;rw[bQ];omega
def Uq(a:Nat)(d c:D)(h:P.idx l i=some x)(e:E.cells x'=putCells (E.cells x) a [c])(b:a+1<=E.size):putCells (putCells (aq E l) (i.toNat*E.size+a) [d]) (i.toNat*E.size+a) [c]=aq E (l.set i.toNat x'):=by
 rw[Qb _ _ _ _ (PR E a h b)];exact eN E a [c] h e b
def ZC(a:Nat)(d:D)(h:P.idx l i=some x)(b:a+1<=E.size):i.toNat*E.size+a+1<=(putCells (aq E l) (i.toNat*E.size+a) [d]).length:=by
 rw[Qa _ _ _ (PR E a h b)];exact PR E a h b
end
def Oi{t s a n o:Nat}{c:Bool}{b d:List D}:KB t s a c b o none (some (.nx n d))=[.nr t s a (putCells b o [.und])]:=apL
def Zp{α:Type}{E:jq α}{T:Nat->Option Ty}{el B ty' s f:Nat}{φ:Ty}{k:IntKind}{n:Int}{z:α}{m:List α}(o:T el=some φ)(p:qD φ f=E.cells z)(y:φ.size=E.size)(r:(φ.zero.map sf).all gD=true)(t:φ.zero.length=φ.size)(u:aeT ((φ.zero.map sf).drop f).head? = true)(A:φ.bytes=B)(h:Ha B n n z=some m)
  : ∀(b c:Nat)(i:List Value)(q:Bool)(e d:Nat),d<1000000->qK T ⟨.slice el,b,c,i,q⟩ e d ty' s f (.int k n) (.int k n)=some ⟨.buf d e φ.size 0 m.length,[(d,some ⟨e,el,[.nr ty' s (4*e+2) (aq E m)],false,true,true⟩)]⟩:=by
 intro b c i q e d g;obtain⟨v,j,w,x,C⟩:=mk_one E h;have a:uW (.int k n)=some n.toNat:=by simp[uW,v]
 have l:=E.pos;unfold qK;simp only[o,a];rw[if_pos ⟨am6 _,by rw[j];exact w,by simp_all,by omega,r,t,by rw[gr];exact g,u⟩,p,j,x]
def MA{k:IntKind}{n:Int}:gD (.int k n)=true:=apL
def RQ{a b:Bool}{n:Nat}{c:List D}:gD (.sl a b n c)=true:=apL
def b9{α β:Type}(A:kZ α)(F:α->Option β)(R:β->Nat×Nat×Nat×Nat×Nat×List D):List D->Option (Nat×Nat×Nat×Nat×Nat×List D):=fun b=>open Classical in if h:∃a,A.ds a=b then (F (Classical.choose h)).map R else none
def ai3{α β:Type}(A:kZ α)(F:α->Option β)(R:β->Nat×Nat×Nat×Nat×Nat×List D)(a:α):b9 A F R (A.ds a)=(F a).map R:=by
 have h:∃b,A.ds b=A.ds a:=⟨a,rfl⟩;simp only[b9];rw[dif_pos h,A.inj _ _ (Classical.choose_spec h)]
def aeH{α β:Type}{A:kZ α}{F:α->Option β}{R:β->Nat×Nat×Nat×Nat×Nat×List D}{b:List D}{q:Nat×Nat×Nat×Nat×Nat×List D}(h:b9 A F R b=some q):∃a r,b=A.ds a∧F a=some r∧q=R r:=by
 unfold b9 at h;split at h
 ·rename_i c;rw[am4]at h;grind
 ·cases h
structure FOk(P:Program)(f:FuncId)(p:List D->Option (Nat×Nat×Nat×Nat×Nat×List D)):Prop where
 callable:fB P f
 calls:∀args ty t s S n cs,p args=some (ty,t,s,S,n,cs)->OP P f args ty t s S n cs
def FOk.of{P:Program}{T:Nat->Option Ty}{Γ:Env}(g:km P T)(i:bN P Γ)(j:P.follows .mixedOrders=true){α β:Type}{A:kZ α}{F:α->Option β}{R:β->Nat×Nat×Nat×Nat×Nat×List D}{f:FuncId}{b:Func}(e:P.funcs[f]? = some b)(d:(match b.body with|some c=>codeOk c|none=>true)=true)
  (k:(b.name == "runtime.NumGoroutine")=false∧b.body.isNone=false) (l:∀a,(A.ds a).length<=b.ntmps) (h:∀a r,F a=some r->yI T Γ FU b (A.ds a)=some (R r)):FOk P f (b9 A F R) where
 callable:=⟨b,e,k⟩
 calls args ty t s S n cs m:=by
  obtain⟨a,r,rfl,o,p⟩:=aeH m;exact QK g i j e d (l a) ((h a r o).trans (by rw[p]))
def Vm{α:Type}{E a:jq α}(h:∀x,(a.cells x).map C8=E.cells x):∀l:List α,(aq a l).map C8=aq E l
 | []=>rfl
 | x::l=>by rw[bY,bY,aof,h x,Vm h l]
def NV{α:Type}{a:jq α}{s:Nat}(h:∀x,(a.cells x).all (wR s)=true):∀l:List α,(aq a l).all (wR s)=true
 | []=>rfl
 | x::l=>by rw[bY,List.all_append,h x,NV h l];rfl
def b6.ofW{P:Program}{T:Nat->Option Ty}{Γ:Env}(g:km P T)(i:bN P Γ)(j:P.follows .mixedOrders=true){α γ:Type}{A:kZ α}{F:α->Option (List γ)}{E EN:jq γ}{ty t s:Nat}{f:FuncId}{b:Func}(e:P.funcs[f]? = some b)(d:(match b.body with|some c=>codeOk c|none=>true)=true)
  (k:(b.name == "runtime.NumGoroutine")=false∧b.body.isNone=false) (l:∀a,(A.ds a).length<=b.ntmps) (m:EN.size=E.size) (n:∀x,(EN.cells x).map C8=E.cells x) (o:∀x,(EN.cells x).all (wR s)=true)
  (h:∀a r,F a=some r->yI T Γ FU b (A.ds a)=some (ty,t,s,E.size,r.length,aq EN r)):b6 P f (dx A F fun r =>.clean (.sl false false r.length (aq E r))) where
 calls cg am1 rk out p:=by
  obtain⟨rfl,rfl,a,r,rfl,q,rfl⟩:=uV p;refine QM (F:=FU) g i j e d (l a) ?_;unfold XL adU;rw[h a r q];simp only;have u:(aq EN r).length=r.length*E.size:=by rw[bQ,m]
  rw[if_pos ⟨by omega,NV o r⟩,Vm n r,aoF (by rw[bQ];exact am6 _)]
 callable:=⟨b,e,k⟩
def Lw{α β γ:Type}(d t s:Nat)(c:jq γ)(A:kZ α)(F:γ->α->Option (γ×β))(R:β->D):Nat->Nat->Nat->Nat->List D->List D->Option (D×List D):=fun b e f o g a =>
 open Classical in if h:∃p:List D×List D×γ×α,b=d∧e=t∧f=s∧g=p.1++(c.cells p.2.2.1++p.2.1)∧o=p.1.length∧a=A.ds p.2.2.2 then
  (F (Classical.choose h).2.2.1 (Classical.choose h).2.2.2).map fun r=>(R r.2,(Classical.choose h).1++(c.cells r.1++(Classical.choose h).2.1)) else none
def PO{α β γ:Type}(c t s:Nat)(b:jq γ)(A:kZ α)(F:γ->α->Option (γ×β))(R:β->D)(pre post:List D)(x:γ)(a:α) :
  Lw c t s b A F R c t s pre.length (pre++(b.cells x++post)) (A.ds a)=(F x a).map fun r=>(R r.2,pre++(b.cells r.1++post)):=by
 have h:∃p:List D×List D×γ×α,c=c∧t=t∧s=s∧pre++(b.cells x++post)=p.1++(b.cells p.2.2.1++p.2.1)∧pre.length=p.1.length∧A.ds a=A.ds p.2.2.2:=⟨(pre,post,x,a),rfl,rfl,rfl,rfl,rfl,rfl⟩;obtain⟨_,_,_,d,e,f⟩:=Classical.choose_spec h;obtain⟨g,i⟩:=aoN d e;obtain⟨j,k⟩:=aoN i (by rw[b.len,b.len]);unfold Lw;rw[dif_pos h,<- g,<- k,<- b.inj _ _ j,<- A.inj _ _ f]
def abr{α β γ:Type}{f t s:Nat}{e:jq γ}{A:kZ α}{F:γ->α->Option (γ×β)}{R:β->D}{ty' g i o:Nat}{j b:List D}{d:D}{c:List D}(h:Lw f t s e A F R ty' g i o j b=some (d,c)) :
  ty'=f∧g=t∧i=s∧∃pre post x a r,j=pre++(e.cells x++post)∧o=pre.length∧b=A.ds a∧F x a=some r∧d=R r.2∧c=pre++(e.cells r.1++post):=by
 unfold Lw at h;split at h
 ·rename_i k;obtain⟨l,m,n,p,q,u⟩:=Classical.choose_spec k;rw[am4]at h;obtain⟨r,v,w⟩:=h;grind
 ·cases h
structure NOk(P:Program)(f:FuncId)(p:Nat->Nat->Nat->Nat->List D->List D->Option (D×List D)):Prop where
 callable:fB P f
 calls:∀ty t s o cs args d cs',p ty t s o cs args=some (d,cs')->OQ P f ty t s o cs args d cs'
def NOk.of{P:Program}{T:Nat->Option Ty}{Γ:Env}(k:km P T)(l:bN P Γ)(m:P.follows .mixedOrders=true){α β γ:Type}{i t s:Nat}{e:jq γ}{A:kZ α}{F:γ->α->Option (γ×β)}{R:β->D}{f:FuncId}{b:Func}(j:P.funcs[f]? = some b)(g:(match b.body with|some c=>codeOk c|none=>true)=true)
  (n:(b.name == "runtime.NumGoroutine")=false∧b.body.isNone=false) (p:∀a,(A.ds a).length+1<=b.ntmps) (h:∀pre post x a x' r,F x a=some (x',r)->yJ T Γ FU b i t s pre.length (pre++(e.cells x++post)) (A.ds a)=some (R r,pre++(e.cells x'++post))):NOk P f (Lw i t s e A F R) where
 callable:=⟨b,j,n⟩
 calls ty' v s' o cs args d cs' q:=by
  obtain⟨rfl,rfl,rfl,pre,post,x,a,r,rfl,rfl,rfl,u,rfl,rfl⟩:=abr q;exact QL k l m j g (p a) (h pre post x a r.1 r.2 u)
def Uk{α:Type}{x:Bool×α}{q:α}(h:Uj x=some q):x=(false,q):=by
 obtain⟨b,y⟩:=x;cases b
 ·cases h;rfl
 ·cases h
def UY{α:Type}{x:Bool×α}{q:α}(h:UX x=some q):x=(true,q):=by
 obtain⟨b,y⟩:=x;cases b
 ·cases h
 ·cases h;rfl
def akh{α:Type}(E EN:jq α)(a:EN.size=E.size)(d:∀x y,E.cells x≠EN.cells y):jq (Bool×α):=⟨fun p=>match p.1 with|true=>E.cells p.2|false=>EN.cells p.2,E.size,fun p=>by
  obtain⟨b,x⟩:=p;cases b
  ·exact (EN.len x).trans a
  ·exact E.len x,E.pos,fun p q h=>by
  obtain⟨b,x⟩:=p;obtain⟨c,y⟩:=q;cases b<;>cases c
  ·exact congrArg (Prod.mk false) (EN.inj x y h)
  ·grind
  ·simp_all
  ·exact congrArg (Prod.mk true) (E.inj x y h)⟩
def Ni{α:Type}{a:jq α}{b:jq (Bool×α)}(c:∀x,b.cells (false,x)=a.cells x):∀l:List α,aq a l=aq b (Nh l)
 | []=>rfl
 | x::l=>by
  have d:=Ni c l;rw[bY,d,<- c x];rfl
def Nj{α:Type}{l:List α}:(Nh l).length=l.length:=anz ..
def IJ{γ:Type}{E:jq γ}{C:List γ}{i:Int}{x:γ}(h:P.idx C i=some x)(y:γ):aq E (C.set i.toNat y)=aq E (C.take i.toNat)++(E.cells y++aq E (C.drop (i.toNat+1)))∧(aq E (C.take i.toNat)).length=i.toNat*E.size:=by
 have a:=uQ h;refine⟨?_,by rw[bQ,ann];congr 1;omega⟩;rw[Xh E C i.toNat x (PF h) y,<- lV,aoK];congr 2;have:i.toNat*E.size+E.size=(i.toNat+1)*E.size:=by rw[aoz]
 rw[this,ru]
def adO{γ:Type}{E:jq γ}{C:List γ}{i:Int}{x:γ}(h:P.idx C i=some x):aq E C=aq E (C.take i.toNat)++(E.cells x++aq E (C.drop (i.toNat+1))):=by
 have a:=(IJ (E:=E) h x).1;have b:C.set i.toNat x=C:=by
  obtain⟨c,d⟩:=anx.1 (PF h);rw[<- d,List.set_getElem_self]
 rwa [b]at a
def Zo{α β γ:Type}{c t s:Nat}{d:jq γ}{b:jq (Bool×γ)}(e:∀x,b.cells (false,x)=d.cells x){A:kZ α}{F:γ->α->Option (γ×β)}{R:β->D}{C:List (Bool×γ)}{i:Int}{q:γ}(h:P.idx C i=some (false,q))(a:α) :
  Lw c t s d A F R c t s (i.toNat*b.size) (aq b C) (A.ds a)=(F q a).map fun r=>(R r.2,aq b (C.set i.toNat (false,r.1))):=by
 have f:=adO (E:=b) h;have g:=(IJ (E:=b) h (false,q)).2;rw[f,<- g,e,PO];congr 1;funext r;rw[(IJ (E:=b) h (false,r.1)).1,e]
def afW{K:Nat}(pre a post:List D)(b:a.length=K):pQ K pre.length (pre++(a++post))=pre++(a.map C8++post):=by
 apply aoZ;intro j;rw[wq];grind
def akk{γ:Type}{s:Nat}{E b:jq γ}{a:jq (Bool×γ)}(c:∀x,a.cells (false,x)=b.cells x)(d:∀x,a.cells (true,x)=E.cells x)(e:∀x,(b.cells x).map C8=E.cells x)(k:∀x,(b.cells x).all (wR s)=true){C:List (Bool×γ)}{i:Int}{x:Bool×γ}(h:P.idx C i=some x)(q:γ) :
  (((aq a (C.set i.toNat (false,q))).drop (i.toNat*a.size)).take a.size).all (wR s)=true∧pQ a.size (i.toNat*a.size) (aq a (C.set i.toNat (false,q)))=aq a (C.set i.toNat (true,q)):=by
 obtain⟨f,g⟩:=IJ (E:=a) h (false,q);have j:=a.len (false,q);have l:=uQ h;refine⟨?_,?_⟩
 ·grind
 ·rw[(IJ (E:=a) h (true,q)).1,f,<- g,afW _ _ _ j,c,e,d]
section
variable {pre l:List D} {k m:Nat}
def afJ:(pre++l).take (pre.length+k)=pre++l.take k:=List.take_length_add_append ..
def aaf:(pre++l).take pre.length=pre:=List.take_left' rfl
def VY:(pre++l).drop (pre.length+k)=l.drop k:=List.drop_length_add_append ..
def Yw:(pre++l).drop pre.length=l:=List.drop_left' rfl
def Yx:(pre++l).drop (pre.length+k+m)=l.drop (k+m):=by rw[anp,VY]
def aeq:(pre.length+k<=(pre++l).length)=(k<=l.length):=by simp_all
def Y6:(pre.length+k+m<=(pre++l).length)=(k+m<=l.length):=by grind
end
def TT{a t s b:Nat}{c:List D}:kd a t s b c=⟨0,a,[.nr t s b c],false,true,true⟩:=apL
def vnp:=ai @TT<|ai @afJ<|ai @aaf<|ai @VY<|ai @Yw<|ai @Yx<|ai @aeq<|ai @Y6<|@aoK
def Tj{τ:Ty}{h:Nat->Option Row}{x v o:Nat}:wz τ h x v o none=none:=apL
def YR{d:D}{l:List D}:(d::l).head? = some d:=apL
def ZH{r:Row}{f:Row->Option Row}:(some r).bind f=f r:=apL
def RF{x o:Nat}:clP x o none=none:=apL
def Rb{q:Option (List D×List Nat)}:caC none q=none:=apL
def Mg{Γ:Env}{h:Nat->Option Row}{e g:Nat}{dst:Option Nat}:agn Γ h e dst g none=none:=apL
def afX{o:Nat}{a:List D}:pQ 0 o a=a:=OM o a
def ahE{x o n:Nat}(h:n<1000000):(NK x o=n)=False:=by
 have:=jM x o;have:=gr;grind
def GA{g:Nat}:bd.lends g=false:=apL
def NP{g:Nat}{l:Option (D×Row)}{am1:List D}:bd.sem g l am1=none:=apL
def vnl:=ai @GA<|@NP
def vn:=ai @Oi<|ai @Nj<|ai @ahE<|ai @agK.eq_1<|ai @RF<|ai @Rb<|ai @Mg<|ai @afX<|ai @ZH<|ai @Tj<|ai @YR<|ai @Bg<|ai @MA<|ai @RQ<|@Dx
end Go.Proofs.YtobnihfgnbnncaaGreat.Am
namespace Go.Proofs.YtobnihfgnbnncaaGreat.Am
open Go.RowKit Go.Proofs.YtobnihfgnbnncaaGreat.P Go.Shelf Go.Lib
section
variable {P:Program}
def yA(w:World)(n q r c:TypeId)(K b o d g:Nat)(a:Addr)(e h:Nat)(f:List Value)
  (s:P.underlying n=some (.slice c)) (p:(P.info? c).map (·.size)=some K) (t:f.length=Nat.min e d*K)
  (k:∀j v,f[j]? = some v->w.cell? (a.add j)=some v) (u:∀j,j<f.length->(w.cell? ⟨b,o+j,none⟩).isSome=true) (x:∀j,j<f.length->w.frozen? ⟨b,o+j,none⟩=false) (y:∀v∈f,v.oneCell'=true) :
  (Builtin.copy_ #[n,q] r #[.slice (some ⟨b,o,none⟩) d g,.slice (some a) e h]).run P w=.ok (goInt (Nat.min e d)) (w.setCells b o f):=by
 have z:=run_loadCells_list (P:=P) w a f k;have l:=run_storeCells_cells (P:=P) b o f 0 w (by simpa using u) (by simpa using x) y;cases m:P.info? c with
 | none=>simp[m]at p
 | some i =>
  have A:i.size=K:=by simpa [m] using p
  simp[Builtin.copy_,run_underlying s,Builtin.lenOf,Builtin.firstCells,sizeOf,typeInfo,m,A,<- t,z,l]
def FN(w:World){b:Array Oper}{rest:List Oper}{o:Oper}{a:Act}{Q:Exit->Act->World->Prop}(c:o.guard=none)(s:Operand)(t:TypeId)
  (f:o.op=.call { callee:=.builtin .clear,args:=#[s],argTypes:=#[t] }) (v:Value) (g:a.eval s=v) {d:Value} {e:World}
  (i:(Builtin.clear_ #[t] o.type #[v]).run P w=.ok d e) (h:wpList P b Q rest (a.put o.dst d) e):wpList P b Q (o::rest) a w :=
 wpList_plain c fun _ j=>by
  unfold Oper.wp execOp;simp only[f,resolve,invoke,builtin,anB,Sem.run_pure,Result.andThen_ok,List.map_toArray,anb,anP,g,i];exact j _ _ h
def UJ(w:World)(t e g:TypeId)(z:Value)(h:P.underlying t=some (.slice e))(i:∀w,(zeroValue e).run P w=.ok z w)(b o n c:Nat)(q:0<n)(a:List Value)(f:(Builtin.zeroCells z.cells n).toList=a)(k:∀v∈a,v.oneCell'=true)
  (l:∀j,j<a.length->(w.cell? ⟨b,o+j,none⟩).isSome=true) (p:∀j,j<a.length->w.frozen? ⟨b,o+j,none⟩=false) :
  (Builtin.clear_ #[t] g #[.slice (some ⟨b,o,none⟩) n c]).run P w=.ok (.tuple #[]) (w.setCells b o a):=by
 have d:=run_storeCells_cells (P:=P) b o a 0 w (by simpa using l) (by simpa using p) k;simp only[Nat.add_zero]at d;obtain⟨m,rfl⟩:∃m,n=m+1:=⟨n-1,by omega⟩;simp[Builtin.clear_,run_underlying h,i,f,d]
end
def PG:(Tryz.prog.info? 130).map (fun i=>(i.zero,i.size,i.bytes))=some (some (Value.agg #[.int .i64 0,.int .i64 0,.slice none 0 0,.int .i64 0,.slice none 0 0]),5,72):=by kernel_rfl
def afg:(Tryz.prog.info? 130).map (·.size)=some 5:=by kernel_rfl
set_option maxHeartbeats 4000000 in
set_option maxRecDepth 100000 in
def RR(a:Option Addr)(n c i:Nat)(w:World)(hi:i<=n)(hn:n<=c)(hc:c<=9223372036854775807)(ha:a=none->c=0) :
  Calls prog 138 #[.slice a n c,.int .i64 i,.int .i64 i] w fun e w'=>e=.returned (.slice a n c)∧w'=w:=by
 go_enter func138,ntmps138
 cases a with
 | none =>
  have:=ha rfl;subst this;obtain rfl:n=0:=by omega
  obtain rfl:i=0:=by omega
  go_wp2
  all_goals (go_ret;simp_all)
 | some a =>
  obtain⟨ab,ao,asp⟩:=a
  go_wp2
  all_goals (go_ret;simp_all)
def pK:Value:=.agg #[.int .i64 0,.int .i64 0,.slice none 0 0,.int .i64 0,.slice none 0 0]
def GX:pK.cells = #[.int .i64 0,.int .i64 0,.slice none 0 0,.int .i64 0,.slice none 0 0]:=rfl
def rQ(n:Nat):(Builtin.zeroCells pK.cells n).toList.length=n*5:=by
 simp[Builtin.zeroCells,GX]
def acj(n:Nat):∀v∈(Builtin.zeroCells pK.cells n).toList,v.oneCell'=true:=by
 intro v a;simp only[Builtin.zeroCells,GX,anS,am5]at a;obtain⟨i,_,rfl⟩:=a;have b:i % 5<5:=anT _ (by decide);simp only[aoe,List.length_cons,List.length_nil,an5,Nat.reduceAdd];generalize i % 5=k at *
 match k,b with
 | 0,_=>rfl
 | 1,_=>rfl
 | 2,_=>rfl
 | 3,_=>rfl
 | 4,_=>rfl
set_option maxHeartbeats 4000000 in
set_option maxRecDepth 100000 in
def adp(b off n c i j:Nat)(cs:List Value)(w:World)(hl:cs.length=n*5)(hcs:∀k v,cs[k]? = some v->w.cell? ⟨b,off+k,none⟩=some v)(hfz:∀k,w.frozen? ⟨b,k,none⟩=false)(h1:∀v∈cs,v.oneCell'=true)
  (hnc:n<=c) (hc:c<=9223372036854775807) (hij:i<j) (hj:j<=n) :
  Calls prog 138 #[.slice (some ⟨b,off,none⟩) n c,.int .i64 i,.int .i64 j] w fun e w'=>e=.returned (.slice (some ⟨b,off,none⟩) (i+(n-j)) c) ∧
   w'=(w.drew.setCells b (off+i*5) (cs.drop (j*5))).setCells b (off+(i+(n-j))*5) (Builtin.zeroCells pK.cells (n-(i+(n-j)))).toList:=by
 have t0:=underlying126;obtain⟨i0,hi0,hz0,hz1,hz2⟩:=info_parts PG;have v0:∀w,(zeroValue 130).run prog w=.ok pK w:=fun w=>by simp[zeroValue,typeInfo,hi0,hz0,pK]
 obtain⟨A,hA,hsrc⟩:∃A:Addr,(if c=j then some (⟨b,off,none⟩:Addr) else some ⟨b,off+j*5,none⟩)=some A∧Hid (∀t u,(cs.drop (j*5))[t]? = some u->w.drew.cell? (A.add t)=some u):=by
  by_cases h:c=j
  ·refine⟨⟨b,off,none⟩,by simp[h],fun t u hu =>?_⟩;grind
  ·refine⟨⟨b,off+j*5,none⟩,by simp[h],fun t u hu =>?_⟩;rw[ant]at hu;rw[apK,anp];exact hcs _ _ hu
 have hdl:(cs.drop (j*5)).length=(n-j)*5:=by grind
 have hsp:∀k,k<n*5->(w.cell? ⟨b,off+k,none⟩).isSome=true:=fun k hk=>by
  simp_all
 have s1:Hid ((cs.drop (j*5)).length=(n-j)*5):=hdl;have s2:Hid (∀u∈cs.drop (j*5),u.oneCell'=true):=fun u hu=>h1 u (anI hu);have s3:Hid (∀t,t<(cs.drop (j*5)).length->(w.drew.cell? ⟨b,off+i*5+t,none⟩).isSome=true∧w.drew.frozen? ⟨b,off+i*5+t,none⟩=false):=by
  intro t ht;rw[hdl]at ht;rw[anp];exact⟨hsp _ (by omega),hfz _⟩
 obtain⟨W1,hW1⟩:∃W1,W1=w.drew.setCells b (off+i*5) (cs.drop (j*5)):=⟨_,rfl⟩;have hcl:∀ty,(Builtin.clear_ #[126] ty #[.slice (some ⟨b,off+(i+(n-j))*5,none⟩) (n-(i+(n-j))) (c-(i+(n-j)))]).run prog W1=.ok (.tuple #[]) (W1.setCells b (off+(i+(n-j))*5) (Builtin.zeroCells pK.cells (n-(i+(n-j)))).toList) :=
  fun ty=>UJ W1 _ _ ty pK t0 v0 b _ _ _ (by omega) _ rfl (acj _) (fun k hk=>by
   rw[rQ]at hk;rw[hW1,anp];exact isSome_setCells b _ _ _ (fun t ht=>(s3.out t ht).1) _ (hsp _ (by omega))) (fun k hk=>by rw[hW1,World.frozen?_setCells];exact hfz _)
 have hW:Hid (W1=w.drew.setCells b (off+i*5) (cs.drop (j*5))):=hW1;rw[<- hW1];have hic:i<=c:=by omega
 have hjc:j<=c:=by omega
 have hne:¬(i=j):=by omega
 have mixed:Tryz.prog.follows .mixedOrders=true:=by kernel_rfl
 generalize (Builtin.zeroCells pK.cells (n-(i+(n-j)))).toList=Z at hcl ⊢;clear hW1 hcs hdl hsp
 go_enter func138,ntmps138
 go_wp2_with fail
 go_region_law_o (refine step_append_room rfl (.tmp 22) (.tmp 25) 126 rfl 130 i0 5 t0 hi0 hz1 b off i c (by simp[Act.eval,Act.put]) A (n-j) (c-j) (cs.drop (j*5)) (by simp[Act.eval,Act.put]) s1.out hsrc.out s2.out (by omega) s3.out ?_;rw[<- hW.out])
 go_wp2_with (at_builtin;refine FN _ rfl _ 126 rfl _ rfl (hcl _) ?_)
 go_ret
 simp_all
set_option maxHeartbeats 4000000 in
set_option maxRecDepth 100000 in
def abb(b off n c i vb voff m vc:Nat)(cs vs:List Value)(w:World)(hi:i<n)(hm:0<m)(hroom:n+m<=c)(hc63:c<=9223372036854775807)(hvb:vb≠b)
  (hcl:cs.length=n*5) (hvl:vs.length=m*5)
  (hcs:∀j v,cs[j]? = some v->w.cell? ⟨b,off+j,none⟩=some v) (hsp:∀j,j<(n+m)*5->(w.cell? ⟨b,off+j,none⟩).isSome=true) (hfz:∀j,w.frozen? ⟨b,j,none⟩=false)
  (hvs:∀j v,vs[j]? = some v->w.cell? ⟨vb,voff+j,none⟩=some v) (h1c:∀v∈cs,v.oneCell'=true) (h1v:∀v∈vs,v.oneCell'=true)
  (tA tB:TypeId) (kA kB:Nat) (hsa:w.shape? vb=some (tA,kA)) (hsb:w.shape? b=some (tB,kB)) (hkB:kB≠0) (hfa:w.frozen? ⟨vb,voff,none⟩=false) (hfe:w.frozen? ⟨vb,kA,none⟩=false) :
  Calls prog 179 #[.slice (some ⟨b,off,none⟩) n c,.int .i64 i,.slice (some ⟨vb,voff,none⟩) m vc] w fun e w' =>
   e=.returned (.slice (some ⟨b,off,none⟩) (n+m) c)∧w'=(w.drew.setCells b (off+(i+m)*5) (cs.drop (i*5))).setCells b (off+i*5) vs:=by
 have t0:=underlying126;have hz1:¬((m:Int)=0):=by omega
 have hz2:¬((i:Int)=(n:Int)):=by omega
 have hsz:=afg;have hov:∀lb cb,(callFunc 196 #[.slice (some ⟨vb,voff,none⟩) m vc,.slice (some ⟨b,off+(i+m)*5,none⟩) lb cb]).run prog w=.ok (.value (.bool false)) w:=fun lb cb=>by
  rw[run_callFunc_extern func196 (by kernel_rfl) (by kernel_rfl) (by kernel_rfl) (e:=Extern.SlicesOverlaps.overlaps #[126,126] #[4]) (by kernel_rfl),
   Lib.run_overlaps_apart w 126 4 130 t0 5 sizeOf130 ⟨vb,voff,none⟩ ⟨b,off+(i+m)*5,none⟩ m vc lb cb hvb tA tB kA kB hsa hsb hkB hfa hfe]
  rfl
 have hdl:(cs.drop (i*5)).length=(n-i)*5:=by grind
 have mixed:Tryz.prog.follows .mixedOrders=true:=by kernel_rfl
 have hw1:IntKind.i64.wrap ((i:Int)+(m:Int))=(i:Int)+(m:Int):=by rw[IntKind.wrap_i64];omega
 have hb1:(0:Int)<=(i:Int)+(m:Int):=by omega
 have hin:i<=n:=by omega
 have htn:((i:Int)+(m:Int)).toNat=i+m:=by omega
 have hb2:¬(c=i+m):=by omega
 have hb3:(i:Int)<=(n:Int)+(m:Int):=by omega
 have hb4:¬(c=i):=by omega
 have hcp1:∀ty dc sc,(Builtin.copy_ #[126,126] ty #[.slice (some ⟨b,off+(i+m)*5,none⟩) (n+m-(i+m)) dc,.slice (some ⟨b,off+i*5,none⟩) (n+m-i) sc]).run prog w.drew=.ok (goInt (Nat.min (n+m-i) (n+m-(i+m)))) (w.drew.setCells b (off+(i+m)*5) (cs.drop (i*5))):=fun ty dc sc =>
  yA w.drew _ _ ty 130 5 b (off+(i+m)*5) (n+m-(i+m)) dc ⟨b,off+i*5,none⟩ (n+m-i) sc (cs.drop (i*5)) t0 hsz (by grind)
   (fun j v hj=>by rw[apK,anp];simp_all)
   (fun j hj=>by rw[anp];exact hsp _ (by omega)) (fun j hj=>hfz _) (fun v hv=>h1c v (anI hv))
 obtain⟨W1,hW1⟩:∃W1,W1=w.drew.setCells b (off+(i+m)*5) (cs.drop (i*5)):=⟨_,rfl⟩;have hsp1:∀k,k<(n+m)*5->(W1.cell? ⟨b,off+k,none⟩).isSome=true:=fun k hk=>by
  rw[hW1];exact isSome_setCells b _ _ _ (fun j hj=>by rw[anp];exact hsp _ (by omega)) _ (hsp k hk)
 have hcp2:∀(W:World),(∀x,W.cell? x=W1.cell? x)->(∀x,W.frozen? x=W1.frozen? x)->∀ty dc,(Builtin.copy_ #[126,126] ty #[.slice (some ⟨b,off+i*5,none⟩) (n+m-i) dc,.slice (some ⟨vb,voff,none⟩) m vc]).run prog W=.ok (goInt (Nat.min m (n+m-i))) (W.setCells b (off+i*5) vs):=fun W hWc hWf ty dc =>
  yA W _ _ ty 130 5 b (off+i*5) (n+m-i) dc ⟨vb,voff,none⟩ m vc vs t0 hsz (by grind)
   (fun j v hj=>by
    rw[apK,hWc,hW1,World.cell?_setCells_out b _ _ _ _ (fun h _=>absurd h hvb)];exact hvs j v hj)
   (fun j hj=>by rw[hWc,anp];exact hsp1 _ (by omega)) (fun j hj=>by rw[hWf,hW1,World.frozen?_setCells];exact hfz _) h1v
 rw[<- hW1]at hcp1
 go_enter func179,ntmps179
 go_wp2_with (simp only[hov])
 go_region_law_o (refine step_copy_runI rfl _ _ 126 126 rfl _ _ (by simp[Act.eval,Act.put]) (by simp[Act.eval,Act.put]) (hcp1 _ _ _) ?_)
 go_wp2_with (at_builtin;refine wpList_copy_runI _ rfl _ _ 126 126 rfl _ _ rfl rfl (hcp2 _ (fun _=>rfl) (fun _=>rfl) _ _) ?_)
 go_ret
 simp_all
set_option maxHeartbeats 4000000 in
set_option maxRecDepth 100000 in
def PI(b off n c vb voff m vc:Nat)(vs:List Value)(w:World)(hm:0<m)(hroom:n+m<=c)(hc63:c<=9223372036854775807)
  (hvl:vs.length=m*5) (hsp:∀j,j<m*5->(w.cell? ⟨b,off+n*5+j,none⟩).isSome=true) (hfz:∀j,w.frozen? ⟨b,j,none⟩=false)
  (hvs:∀j v,vs[j]? = some v->w.cell? ⟨vb,voff+j,none⟩=some v) (h1v:∀v∈vs,v.oneCell'=true) :
  Calls prog 179 #[.slice (some ⟨b,off,none⟩) n c,.int .i64 n,.slice (some ⟨vb,voff,none⟩) m vc] w fun e w' =>
   e=.returned (.slice (some ⟨b,off,none⟩) (n+m) c)∧w'=w.setCells b (off+n*5) vs:=by
 have t0:=underlying126;have mixed:Tryz.prog.follows .mixedOrders=true:=by kernel_rfl
 obtain⟨i0,hi0,hz0,hzs,hzb⟩:=info_parts PG;have hz1:¬((m:Int)=0):=by omega
 have hsrc:Src prog i0.size 126 (.slice (some ⟨vb,voff,none⟩) m vc) m vs w:=Src.ofSlice w t0 ⟨vb,voff,none⟩ m vc vs (by rw[hzs];omega) (fun j u hj=>by rw[apK];exact hvs j u hj) h1v;have e5:off+n*i0.size=off+n*5:=by rw[hzs]
 have hsp':Hid (∀j,j<vs.length->(w.cell? ⟨b,off+n*i0.size+j,none⟩).isSome=true):=fun j hj=>by simp_all
 rw[<- e5];have hin:n<=c:=by omega
 go_enter func179,ntmps179
 go_wp2_with (at_builtin;refine wpList_append_room_src _ rfl _ _ 126 126 rfl 130 i0 t0 hi0 b off n c rfl _ rfl m vs hsrc hroom hsp'.out (fun _ _=>hfz _) ?_)
 go_ret
 simp_all
set_option maxHeartbeats 4000000 in
set_option maxRecDepth 100000 in
def DN(base:Option Addr)(n c vb voff m vc:Nat)(cs vs:List Value)(w:World)(hm:0<m)(hnc:n<=c)(hc63:c<=9223372036854775807)(hroom:c<n+m)(hbig:(n+m)*72<=140737488355328)
  (hcl:cs.length=n*5) (hvl:vs.length=m*5) (hnil:base=none->n=0)
  (hcs:∀a,base=some a->∀j v,cs[j]? = some v->w.cell? (a.add j)=some v)
  (hvs:∀j v,vs[j]? = some v->w.cell? ⟨vb,voff+j,none⟩=some v) (h1v:∀v∈vs,v.oneCell'=true) :
  Calls prog 179 #[.slice base n c,.int .i64 n,.slice (some ⟨vb,voff,none⟩) m vc] w fun e w' =>
   e=.returned (.slice (some ⟨w.heap.size,0,none⟩) (n+m) (grownCap w (n+m) c 130)) ∧
   w'=w.drew.alloc (.cells ((cs++vs).toArray++Builtin.zeroCells pK.cells (grownCap w (n+m) c 130-(n+m))) 130):=by
 have t0:=underlying126;have mixed:Tryz.prog.follows .mixedOrders=true:=by kernel_rfl
 obtain⟨i0,hi0,hz0,hzs,hzb⟩:=info_parts PG;have hz1:¬((m:Int)=0):=by omega
 have hsrc:Src prog i0.size 126 (.slice (some ⟨vb,voff,none⟩) m vc) m vs w:=by
  rw[hzs];exact Src.ofSlice w t0 ⟨vb,voff,none⟩ m vc vs (by omega) (fun j u hj=>by rw[apK];exact hvs j u hj) h1v
 have hold:(Builtin.firstCells i0.size n (.slice base n c)).run prog w.drew=.ok cs.toArray w.drew:=by
  rw[hzs];cases base with
  | none =>
   have h0:=hnil rfl;subst h0;obtain rfl:cs=[]:=List.length_eq_zero_iff.1 (by omega);exact run_firstCells_none w.drew 5 0 0 c
  | some a=>exact run_firstCells_some w.drew 5 n a n c cs (by omega) (fun j v hj=>hcs a rfl j v hj)
 have hrun:∀ty,(Builtin.append_ #[126,126] ty #[.slice base n c,.slice (some ⟨vb,voff,none⟩) m vc]).run prog w=_:=fun ty =>
  run_append_grow_src w 126 126 ty 130 i0 _ t0 hi0 hz0 base n c cs hold _ m vs hsrc hroom (by omega) (by rw[hzb];exact growslice_fits hroom hbig)
 generalize hR:w.drew.alloc (.cells ((cs++vs).toArray++Builtin.zeroCells pK.cells (grownCap w (n+m) c 130-(n+m))) 130)=R;have hrun':∀ty,(Builtin.append_ #[126,126] ty #[.slice base n c,.slice (some ⟨vb,voff,none⟩) m vc]).run prog w=.ok (.slice (some ⟨w.heap.size,0,none⟩) (n+m) (grownCap w (n+m) c 130)) R:=fun ty=>by rw[hrun ty,<- hR];rfl
 clear hrun hold hR
 go_enter func179,ntmps179
 cases base with
 | none =>
  have h0:=hnil rfl;subst h0
  go_wp2_with (at_builtin;refine Lib.wpList_append_run _ rfl _ _ _ _ rfl _ _ rfl rfl _ _ (hrun' _) ?_)
  go_ret
  simp_all
 | some a =>
  obtain⟨ab,ao,asp⟩:=a
  go_wp2_with (at_builtin;refine Lib.wpList_append_run _ rfl _ _ _ _ rfl _ _ rfl rfl _ _ (hrun' _) ?_)
  all_goals (go_ret;simp_all)
set_option maxHeartbeats 4000000 in
set_option maxRecDepth 100000 in
def aeh(b off n c i vb voff m vc:Nat)(cs vs:List Value)(w:World)(hi:i<n)(hm:0<m)(hnc:n<=c)(hroom:c<n+m)(hbig:(n+m)*72<=140737488355328)
  (hcl:cs.length=n*5) (hvl:vs.length=m*5)
  (hcs:∀j v,cs[j]? = some v->w.cell? ⟨b,off+j,none⟩=some v)
  (hvs:∀j v,vs[j]? = some v->w.cell? ⟨vb,voff+j,none⟩=some v) (h1c:∀v∈cs,v.oneCell'=true) (h1v:∀v∈vs,v.oneCell'=true) :
  Calls prog 179 #[.slice (some ⟨b,off,none⟩) n c,.int .i64 i,.slice (some ⟨vb,voff,none⟩) m vc] w fun e w' =>
   e=.returned (.slice (some ⟨w.heap.size,0,none⟩) (n+m) (grownCap w (n+m) c 130)) ∧
   w'=(((w.alloc (.cells ((cs.take (i*5)).toArray++Builtin.zeroCells pK.cells (n+m-i)++Builtin.zeroCells pK.cells (grownCap w (n+m) c 130-(n+m))) 130)).drew.setCells w.heap.size (i*5) vs).drew).setCells w.heap.size ((i+m)*5) (cs.drop (i*5)):=by
 have t0:=underlying126;have mixed:Tryz.prog.follows .mixedOrders=true:=by kernel_rfl
 obtain⟨i0,hi0,hz0,hzs,hzb⟩:=info_parts PG;have hz1:¬((m:Int)=0):=by omega
 have hz2:¬((i:Int)=(n:Int)):=by omega
 have hz3:(c:Int)<(n:Int)+(m:Int):=by omega
 have hsz:=afg;have hbw:b<w.heap.size:=block_lt_of_cell (hcs 0 _ (anj (by omega)));have hvw:vb<w.heap.size:=block_lt_of_cell (hvs 0 _ (anj (by omega)));have hkk:(n:Int)+(m:Int)-(i:Int)=((n+m-i:Nat):Int):=by omega
 have hik:i+(n+m-i)=n+m:=by omega
 have hold:(Builtin.firstCells i0.size i (.slice (some ⟨b,off,none⟩) i c)).run prog w.drew=.ok (cs.take (i*5)).toArray w.drew:=by
  rw[hzs];exact run_firstCells_some w.drew 5 i ⟨b,off,none⟩ i c (cs.take (i*5)) (by grind) (fun j v hj=>by
   rw[apK];rw[anw]at hj;simp_all)
 obtain⟨G,hG⟩:∃G,G=grownCap w (n+m) c 130:=⟨_,rfl⟩;obtain⟨ROW,hROW⟩:∃ROW:Array Value,ROW=(cs.take (i*5)).toArray++Builtin.zeroCells pK.cells (n+m-i)++Builtin.zeroCells pK.cells (G-(n+m)):=⟨_,rfl⟩;have hrz:∀ty,(Builtin.append_ #[126,3] ty #[.slice (some ⟨b,off,none⟩) i c,.int .i64 ((n:Int)+(m:Int)-(i:Int))]).run prog w =
   .ok (.slice (some ⟨w.heap.size,0,none⟩) (n+m) G) (w.drew.alloc (.cells ROW 130)):=fun ty=>by
  have h:=Lib.run_append_grow_zeros w 126 3 ty 130 i0 pK .i64 .i64 t0 underlying3 hi0 hz0 (some ⟨b,off,none⟩) i c (cs.take (i*5)) hold (n+m-i) (by omega) (by omega) (by omega) (by omega) (by rw[hzb];omega) (by rw[hzb,hik];exact growslice_fits hroom hbig);simp_all
 rw[<- hG];rw[<- hROW];have hRl:(n+m)*5<=ROW.size:=by
  have h1:(Builtin.zeroCells pK.cells (n+m-i)).size=(n+m-i)*5:=by have:=rQ (n+m-i);simpa using this
  grind
 obtain⟨W1,hW1⟩:∃W1,W1=w.drew.alloc (.cells ROW 130):=⟨_,rfl⟩;rw[<- hW1]at hrz;have hN:∀j,j<(n+m)*5->(W1.cell? ⟨w.heap.size,j,none⟩).isSome=true:=fun j hj=>by
  rw[hW1,World.cell?_alloc_at (w:=w.drew) ROW _ w.heap.size j rfl,aob (by omega)];rfl
 have hNf:∀j,W1.frozen? ⟨w.heap.size,j,none⟩=false:=fun j=>by rw[hW1];exact World.frozen?_alloc_at (w:=w.drew) ROW _ w.heap.size j rfl
 have hOb:∀j v,w.cell? ⟨b,j,none⟩=some v->W1.cell? ⟨b,j,none⟩=some v:=fun j v h=>by rw[hW1,World.cell?_alloc_past (w:=w.drew) _ b j hbw];exact h
 have hOv:∀j v,w.cell? ⟨vb,j,none⟩=some v->W1.cell? ⟨vb,j,none⟩=some v:=fun j v h=>by rw[hW1,World.cell?_alloc_past (w:=w.drew) _ vb j hvw];exact h
 have hcpA:∀(W:World),(∀x,W.cell? x=W1.cell? x)->(∀x,W.frozen? x=W1.frozen? x)->∀ty dc,(Builtin.copy_ #[126,126] ty #[.slice (some ⟨w.heap.size,i*5,none⟩) (n+m-i) dc,.slice (some ⟨vb,voff,none⟩) m vc]).run prog W=.ok (goInt (Nat.min m (n+m-i))) (W.setCells w.heap.size (i*5) vs):=fun W hWc hWf ty dc =>
  yA W _ _ ty 130 5 w.heap.size (i*5) (n+m-i) dc ⟨vb,voff,none⟩ m vc vs t0 hsz (by grind)
   (fun j v hj=>by rw[apK,hWc];simp_all)
   (fun j hj=>by grind) (fun j hj=>by simp_all) h1v
 have hGn:n+m<=G:=by rw[hG];exact grownCap_ge w _ _ _
 have hG63:G<=9223372036854775807:=by
  have:=grownCap_le_maxLen w (n+m) c 130 (by unfold maxLen;omega);rw[<- hG]at this;unfold maxLen at this;omega
 have hGi:¬(G=i):=by omega
 have hGim:¬(G=i+m):=by omega
 have hci:¬(c=i):=by omega
 have hbN:b≠w.heap.size:=by omega
 have hdl:(cs.drop (i*5)).length=(n-i)*5:=by grind
 have hcpB:∀(W:World),(∀x,W.cell? x=(W1.setCells w.heap.size (i*5) vs).cell? x)->(∀x,W.frozen? x=(W1.setCells w.heap.size (i*5) vs).frozen? x)->∀ty dc sc,(Builtin.copy_ #[126,126] ty #[.slice (some ⟨w.heap.size,(i+m)*5,none⟩) (n+m-(i+m)) dc,.slice (some ⟨b,off+i*5,none⟩) (n-i) sc]).run prog W=.ok (goInt (Nat.min (n-i) (n+m-(i+m)))) (W.setCells w.heap.size ((i+m)*5) (cs.drop (i*5))):=fun W hWc hWf ty dc sc =>
  yA W _ _ ty 130 5 w.heap.size ((i+m)*5) (n+m-(i+m)) dc ⟨b,off+i*5,none⟩ (n-i) sc (cs.drop (i*5)) t0 hsz (by grind)
   (fun j v hj=>by
    rw[apK,hWc,World.cell?_setCells_out _ _ _ _ _ (fun h _=>absurd h hbN),anp];simp_all)
   (fun j hj=>by rw[hWc];exact isSome_setCells _ _ _ _ (fun t ht=>hN _ (by omega)) _ (hN _ (by omega)))
   (fun j hj=>by rw[hWf,World.frozen?_setCells];exact hNf _) (fun v hv=>h1c v (anI hv))
 subst hW1;have hE1:∀x,((w.alloc (.cells ROW 130)).drew).cell? x=(w.drew.alloc (.cells ROW 130)).cell? x:=fun x=>rfl;have hE2:∀x,((w.alloc (.cells ROW 130)).drew).frozen? x=(w.drew.alloc (.cells ROW 130)).frozen? x:=fun x=>rfl;have hF1:∀x,(((w.alloc (.cells ROW 130)).drew.setCells w.heap.size (i*5) vs).drew).cell? x=((w.drew.alloc (.cells ROW 130)).setCells w.heap.size (i*5) vs).cell? x:=fun x=>rfl;have hF2:∀x,(((w.alloc (.cells ROW 130)).drew.setCells w.heap.size (i*5) vs).drew).frozen? x=((w.drew.alloc (.cells ROW 130)).setCells w.heap.size (i*5) vs).frozen? x:=fun x=>rfl;have hw1:IntKind.i64.wrap ((i:Int)+(m:Int))=(i:Int)+(m:Int):=by rw[IntKind.wrap_i64];omega
 have hb1:(0:Int)<=(i:Int)+(m:Int):=by omega
 have hin:i<=n:=by omega
 have htn:((i:Int)+(m:Int)).toNat=i+m:=by omega
 have hb3:(i:Int)<=(n:Int):=by omega
 clear hkk hik hold hROW hG hRl
 go_enter func179,ntmps179
 go_wp2_with (first
  | (at_builtin;refine Lib.wpList_append_run _ rfl _ _ _ _ rfl _ _ rfl rfl _ _ (hrz _) ?_)
  | (at_builtin;refine wpList_copy_runI _ rfl _ _ 126 126 rfl _ _ rfl rfl (hcpA _ hE1 hE2 _ _) ?_)
  | (at_builtin;refine wpList_copy_runI _ rfl _ _ 126 126 rfl _ _ rfl rfl (hcpB _ (fun _=>rfl) (fun _=>rfl) _ _ _) ?_))
 go_region_law_o (refine step_copy_runI rfl _ _ 126 126 rfl (.slice (some ⟨w.heap.size,(i+m)*5,none⟩) (n+m-(i+m)) (G-(i+m))) (.slice (some ⟨b,off+i*5,none⟩) (n-i) (c-i)) (by simp[Act.eval,Act.put]) (by simp[Act.eval,Act.put]) (hcpB _ hF1 hF2 3 (G-(i+m)) (c-i)) ?_)
 go_wp2
 go_ret
 simp_all
end Go.Proofs.YtobnihfgnbnncaaGreat.Am
namespace Go.Proofs.YtobnihfgnbnncaaGreat.Am
open Go.RowKit Go.Proofs.YtobnihfgnbnncaaGreat.P
def agI:acs prog 179 (130,5,72) where
 callable:=⟨_,func179,by kernel_rfl,by kernel_rfl⟩
 pos:=by decide
 calls w go S u u' i n m cs cs' h1 h2 T U o ho p hi hm z:=by
  simp only at *;obtain⟨l,F,H,rfl,rfl,N,b2,b3,b4,b5⟩:∃g c arr,S=some g∧u'=.slice (some ⟨g.1,g.2,none⟩) m c∧w.heap[g.1]? = some (.cells arr 130 (0,0))∧c*5+g.2=arr.size∧m<=c∧c<=maxLen∧∀(j:Nat) x,cs'[j]? = some x->arr[g.2+j]? = some x:=by
   rcases h2 with⟨g,c,arr,k⟩|⟨_,rfl,_⟩
   ·simp_all
   ·omega
  have q:∀(j:Nat) v,cs'[j]? = some v->w.cell? ⟨l.1,l.2+j,none⟩=some v:=fun j v d=>by simp[World.cell?,N,b5 j v d]
  rcases h1 with⟨g,c,arr,rfl,rfl,C,a2,a3,O,a5⟩|⟨rfl,rfl,rfl,A,rfl⟩
  ·have D:∀(j:Nat) v,cs[j]? = some v->w.cell? ⟨g.1,g.2+j,none⟩=some v:=fun j v d=>by simp[World.cell?,C,a5 j v d]
   have I:∀j,w.frozen? ⟨g.1,j,none⟩=false:=fun j=>by simp[World.frozen?,C]
   have V:g.1≠l.1:=T g l rfl rfl;have ah:g.1<w.heap.size:=(an6.1 C).1;have hsp:∀j,j<(n+m)*5->n+m<=c->(w.cell? ⟨g.1,g.2+j,none⟩).isSome=true:=fun j d hr=>by
    simp only[World.cell?,C];grind
   by_cases W:i=n
   ·subst W;have ht:cs.take (i*5)=cs:=aoF (by omega);have hd:cs.drop (i*5)=[]:=aox (by omega);rw[ht,hd,aoI]
    by_cases b:i+m<=c
    ·refine (PI g.1 g.2 i c l.1 l.2 m F cs' w hm b (by unfold maxLen at O;omega) o (fun j d=>by grind) I q p).mono fun e P ⟨t,y⟩ =>?_;subst y;obtain⟨J,K,L,e4,e5,f,M,e7,Q⟩:=jg g.1 cs' (g.2+i*5) w arr C (by omega);refine⟨_,t,⟨J,K,L,by omega,fun k X hn=>e5 k (fun h=>hn ⟨g,rfl,h⟩)⟩,g,c,f,rfl,.inr ⟨g,rfl,rfl⟩,M,b,O,by omega,fun j x d =>?_⟩;grind
    ·refine (DN (some ⟨g.1,g.2,none⟩) i c l.1 l.2 m F cs cs' w hm a3 (by omega) (by omega) z U o (fun h=>by cases h) (fun a ha j v d=>by cases ha;rw[apK];exact D j v d) q p).mono fun e P ⟨t,y⟩ =>?_;subst y;have r:=grownCap_ge w (i+m) c 130;have Y:=rQ (grownCap w (i+m) c 130-(i+m));refine⟨_,t,fb.xi ((Below.refl _ w).drew.alloc (by simp) _),(w.heap.size,0),_,_,rfl,.inl (am6 _),heap_alloc_new w.drew _,r,grownCap_le_maxLen _ _ _ _ (by unfold maxLen;omega),?_,fun j x d =>?_⟩
     ·grind
     grind
   ·have B:i<n:=by omega
    by_cases b:n+m<=c
    ·refine (abb g.1 g.2 n c i l.1 l.2 m F cs cs' w B hm b (by unfold maxLen at O;omega) (Ne.symm V) U o D (fun j d=>hsp j d b) I q ho p 130 130 H.size arr.size (by simp[World.shape?,N]) (by simp[World.shape?,C]) (by omega) (by simp[World.frozen?,N]) (by simp[World.frozen?,N])).mono fun e P ⟨t,y⟩ =>?_;subst y;obtain⟨J,K,L,e4,e5,f,M,e7,Q⟩:=jg g.1 (cs.drop (i*5)) (g.2+(i+m)*5) w.drew arr C (by simp;omega);obtain⟨f1,f2,f3,f4,f5,s,f6,f7,f8⟩:=jg g.1 cs' (g.2+i*5) _ f M (by omega);refine⟨_,t,⟨f1.trans J,f2.trans K,f3.trans L,by simp_all,fun k X hn=>(f5 k (fun h=>hn ⟨g,rfl,h⟩)).trans (e5 k (fun h=>hn ⟨g,rfl,h⟩))⟩,g,c,s,rfl,.inr ⟨g,rfl,rfl⟩,f6,b,O,by omega,fun j x d =>?_⟩;have E:=(anx.1 d).1;simp only[an7,ann,ano]at E;rw[f8,Q]
     by_cases Z:j<i*5
     ·grind
     ·rw[anX (by simp_all),ann,aoX (by omega)]at d
      by_cases aa:j<(i+m)*5
      ·rw[anV (by omega)]at d;grind
      ·rw[anX (by omega)]at d;rw[if_neg (by omega),if_pos (by simp;omega),<- d];congr 1;omega
    ·refine (aeh g.1 g.2 n c i l.1 l.2 m F cs cs' w B hm a3 (by omega) z U o D q ho p).mono fun e P ⟨t,y⟩ =>?_;subst y;have r:=grownCap_ge w (n+m) c 130;generalize hG:grownCap w (n+m) c 130=G at *;have ab:=rQ (n+m-i);have ad:=rQ (G-(n+m));rw[anH]at ab ad;generalize hR:((cs.take (i*5)).toArray++Builtin.zeroCells pK.cells (n+m-i)++Builtin.zeroCells pK.cells (G-(n+m)))=R;have ai:R.size=G*5:=by grind
     have aj:∀j,j<i*5->R[j]? = cs[j]?:=fun j d=>by
      grind
     have ae:(w.alloc (.cells R 130)).drew.heap[w.heap.size]? = some (.cells R 130 (0,0)):=heap_alloc_new w _;obtain⟨J,K,L,e4,e5,f,M,e7,Q⟩:=jg w.heap.size cs' (i*5) _ R ae (by omega);obtain⟨f1,f2,f3,f4,f5,s,f6,f7,f8⟩:=jg w.heap.size (cs.drop (i*5)) ((i+m)*5) (((w.alloc (.cells R 130)).drew.setCells w.heap.size (i*5) cs').drew) f M (by simp;omega);refine⟨_,t,⟨f1.trans J,f2.trans K,f3.trans L,?_,fun k X hn =>?_⟩,(w.heap.size,0),G,s,rfl,.inl (am6 _),f6,r,hG ▸ grownCap_le_maxLen _ _ _ _ (by unfold maxLen;omega),by simp only;omega,fun j x d =>?_⟩
     ·simp_all
     ·rw[f5 k (by omega)];show ((w.alloc (.cells R 130)).drew.setCells w.heap.size (i*5) cs').heap[k]? = _;rw[e5 k (by omega)];exact Below.heap_alloc w _ k X
     ·have E:=(anx.1 d).1;simp only[an7,ann,ano]at E;rw[an5,f8,Q]
      by_cases Z:j<i*5
      ·grind
      ·rw[anX (by grind),ann,aoX (by omega)]at d
       by_cases aa:j<(i+m)*5
       ·grind
       ·rw[anX (by omega)]at d;grind
  ·have ag:i=0:=by omega
   subst ag;refine (DN A 0 0 l.1 l.2 m F [] cs' w hm (am6 _) (by omega) (by omega) (by omega) rfl o (fun _=>rfl) (fun a ha j v d=>by simp at d) q p).mono fun e P ⟨t,y⟩ =>?_;subst y;have r:=grownCap_ge w (0+m) 0 130;have Y:=rQ (grownCap w (0+m) 0 130-(0+m));refine⟨_,t,fb.xi ((Below.refl _ w).drew.alloc (by simp) _),(w.heap.size,0),_,_,rfl,.inl (am6 _),heap_alloc_new w.drew _,r,grownCap_le_maxLen _ _ _ _ (by omega),?_,fun j x d =>?_⟩
   ·grind
   grind
def agr{α:Type}(E:jq α)(J:E.size=5):b6 prog 138 (mkE 130 E (eZ (aI .i64) (dp (aI .i64))) (fun (l:List α) (x:Int×Int)=>adn l x.1 x.2)) where
 callable:=⟨_,func138,by kernel_rfl,by kernel_rfl⟩
 calls cg ds rk out hg:=by
  obtain⟨pre,l,post,a,r,rfl,rfl,U,rfl,rfl⟩:=TJ hg;obtain⟨ai,V⟩:=a;unfold adn at U;split at U;rotate_left
  ·cases U
  rename_i B;obtain⟨Y,Z,aa,au⟩:=B;simp only at Y Z aa;cases U;intro w M go u0 vs hM av hz ay K ab m;have ad:vs = #[.int .i64 ai,.int .i64 V]:=by
   have C:vs.size=2:=m.size;have e0:=VD (m.at_ 0 (.int .i64 ai) rfl);have e1:=VD (m.at_ 1 (.int .i64 V) rfl);apply aoc
   ·simp[C]
   ·intro k h2 h3;have:k=0∨k=1:=by omega
    rcases this with rfl|rfl
    ·simp_all
    simp_all
  subst ad;simp only;obtain⟨i,rfl⟩:∃i:Nat,ai=(i:Int):=⟨ai.toNat,by omega⟩;obtain⟨j,rfl⟩:∃j:Nat,V=(j:Int):=⟨V.toNat,by omega⟩;simp only[Int.toNat_natCast];have aw:i<=j:=by omega
  have D:j<=l.length:=by omega
  have q:(l.take i++l.drop j).length=i+(l.length-j):=by grind
  have ae:(aq E l).length=l.length*5:=by rw[bQ,J]
  have L:aq E (l.take i++l.drop j)=(aq E l).take (i*5)++(aq E l).drop (j*5):=by rw[je,<- J,lV,ru]
  rcases ab.2 ⟨0,0,[],false,false,false⟩ rfl rfl with⟨g,o',c,N,t,k0,k1,k2,k3,k4,k5⟩|⟨k0,ag,A,k1⟩
  ·cases k0;subst k1;rw[J]at k2;obtain⟨cs,C,h2,h3⟩:=K;simp only[an7,ae]at h2;have hN:N=cs.size:=by
    simp only[World.shape?,C,anf,Prod.mk.injEq]at k5;exact k5.2.symm
   have u:c<=9223372036854775807:=by unfold maxLen at k4;omega
   by_cases ah:i=j
   ·subst ah;have F:l.take i++l.drop i=l:=aoC i l;rw[F];refine (RR (some ⟨g.1,o',none⟩) l.length c i w D k3 u (fun h=>by cases h)).mono fun e W ⟨O,P⟩ =>?_;subst P;refine⟨_,O,⟨rfl,rfl,rfl,am6 _,fun k _ _=>rfl⟩,trivial,?_⟩
    by_cases ak:0<c∨pre.length=0
    ·obtain⟨k6,k7⟩:=k2 ak;refine .inl ⟨(g.1,o'),c,cs,rfl,.inr ⟨g,rfl,rfl⟩,C,k3,k4,by rw[J];omega,?_,fun k d f =>?_⟩
     ·omega
     ·have n:=(anx.1 f).1;have:=h3 (pre.length+k) d (by rw[anX (by omega),aoQ,anV n];exact f);simp only;rw[k6,anp];exact⟨this.1,this.2.less fun b hb=>hb.imp id fun h=>⟨g,rfl,h⟩⟩
    ·have:c=0:=by omega
     subst this;have G:l=[]:=aod (by omega);subst G;exact .inr ⟨rfl,rfl,_,rfl⟩
   ·have al:i<j:=by omega
    obtain⟨k6,k7⟩:=k2 (.inl (by omega));subst k6;obtain⟨FM,H⟩:∃FM:List Value,FM=(List.range (l.length*5)).map fun k=>cs.getD (g.2+(pre.length+k)) undef:=⟨_,rfl⟩;have ao:FM.length=l.length*5:=by rw[H];simp
    have s:∀k,k<l.length*5->FM[k]? = some (cs.getD (g.2+(pre.length+k)) undef):=fun k f=>by simp_all
    have y:∀k d,(aq E l)[k]? = some d->bH d=true∧RP w (fun b=>M b∨yN (some g) b) d (cs.getD (g.2+(pre.length+k)) undef):=fun k d f=>by
     have n:=(anx.1 f).1;exact h3 (pre.length+k) d (by rw[anX (by omega),aoQ,anV n];exact f)
    have I:∀k v,FM[k]? = some v->w.cell? ⟨g.1,g.2+pre.length+k,none⟩=some v:=fun k v f=>by
     have n:=(anx.1 f).1;rw[s k (by omega)]at f;have:=bm C (j:=g.2+pre.length+k) (by omega);grind
    have Q:∀v∈FM,v.oneCell'=true:=fun v X=>by
     obtain⟨k,f⟩:=anq X;have n:=(anx.1 f).1;rw[s k (by omega)]at f;obtain⟨p1,p2⟩:=y k _ (anj (by omega));have:=p2.tL p1;simp_all
    refine (adp g.1 (g.2+pre.length) l.length c i j FM w ao I (fun k=>by simp[World.frozen?,C]) Q k3 u al D).mono fun e W ⟨O,P⟩ =>?_;have az:=rQ (l.length-(i+(l.length-j)));have aA:(FM.drop (j*5)).length=(l.length-j)*5:=by grind
    obtain⟨e1,e2,e3,e4,e5,R,e6,e7,e8⟩:=jg g.1 (FM.drop (j*5)) (g.2+pre.length+i*5) w.drew cs C (by omega);obtain⟨f1,f2,f3,f4,f5,o,f6,f7,f8⟩:=jg g.1 (Builtin.zeroCells pK.cells (l.length-(i+(l.length-j)))).toList (g.2+pre.length+(i+(l.length-j))*5) _ R e6 (by omega);rw[<- P]at f1 f2 f3 f4 f5 f6;have p:fb (yN (some g)) w W:=⟨f1.trans e1,f2.trans e2,f3.trans e3,by rw[f4,e4];exact am6 _,fun k f hn=>(f5 k (fun h=>hn ⟨g,rfl,h⟩)).trans (e5 k (fun h=>hn ⟨g,rfl,h⟩))⟩;refine⟨_,O,p,trivial,.inl ⟨(g.1,g.2+pre.length),c,o,by rw[q],.inr ⟨g,rfl,rfl⟩,f6,by rw[q];omega,k4,by grind,?_,fun k d f =>?_⟩⟩
    ·simp only;rw[bQ,J,q];omega
    ·have n:=(anx.1 f).1;rw[bQ,J,q]at n;rw[L]at f;have z:∀S:Nat,(aq E l)[S]? = some d->FM[S]? = o[g.2+pre.length+k]?->bH d=true∧RP W (fun b=>M b∨b=g.1) d (o.getD (g.2+pre.length+k) undef):=by
      intro S T X;have ax:=(anx.1 T).1;obtain⟨p1,p2⟩:=y S d T;rw[s S (by omega)]at X;refine⟨p1,?_⟩;rw[ana,<- X];refine p2.keep fun b q1 q2=>⟨am9 q1 p.size,?_,p.block b q1 (fun hn=>q2 (.inr hn))⟩;rintro (hb|hb)
      ·exact q2 (.inl hb)
      ·exact q2 (.inr ⟨g,rfl,hb⟩)
     simp only
     by_cases ar:k<i*5
     ·rw[anV (by rw[ann];omega),anw,if_pos ar]at f;apply z k f;rw[f8,if_neg (by omega),e8,if_neg (by omega),s k (by omega),ana,anp,aob (show g.2+(pre.length+k)<cs.size by omega)];rfl
     ·rw[anX (by grind),ann,aoX (by omega),ant]at f;refine z (j*5+(k-i*5)) f ?_;rw[f8,if_neg (by omega),e8,if_pos (by omega),ant];congr 1;omega
  ·subst k1;have G:l=[]:=aod ag;subst G;simp only[List.length_nil]at D;obtain rfl:j=0:=by omega
   obtain rfl:i=0:=by omega
   refine (RR A 0 0 0 w (am6 _) (am6 _) (by decide) (fun _=>rfl)).mono fun e W ⟨O,P⟩ =>?_;subst P;exact⟨_,O,⟨rfl,rfl,rfl,am6 _,fun k _ _=>rfl⟩,trivial,.inr ⟨rfl,rfl,_,rfl⟩⟩
end Go.Proofs.YtobnihfgnbnncaaGreat.Am
namespace Go.Proofs.YtobnihfgnbnncaaGreat.P
def aba{α:Type}(c:α->α->Int)(x:α):List α->List α
 | []=>[x]
 | y::l=>if c x y<=0 then x::y::l else y::aba c x l
def te{α:Type}(c:α->α->Int):List α->List α
 | []=>[]
 | x::l=>aba c x (te c l)
def Fa{α:Type}(c:α->α->Int)(x:α):∀l:List α,(aba c x l).Perm (x::l)
 | []=>List.Perm.refl _
 | y::l=>by
  unfold aba;split
  ·simp_all
  ·exact ((Fa c x l).cons y).trans (List.Perm.swap x y l)
theorem lr{α:Type}(c:α->α->Int):∀l:List α,(te c l).Perm l
 | []=>List.Perm.refl _
 | x::l=>(Fa c x _).trans ((lr c l).cons x)
theorem rz{α:Type}(c:α->α->Int)(l:List α):(te c l).length=l.length:=(lr c l).length_eq
structure WO{α:Type}(c:α->α->Int):Prop where
 total:∀x y,c x y<=0∨c y x<=0
 neg:∀x y,c x y<0↔0<c y x
 trans:∀x y z,c x y<=0->c y z<=0->c x z<=0
def Gu{α:Type}{c:α->α->Int}(h:WO c)(x:α):∀l:List α,l.Pairwise (fun x y=>c x y<=0)->(aba c x l).Pairwise (fun x y=>c x y<=0)
 | [],_=>List.pairwise_singleton _ _
 | y::l,hs=>by
  unfold aba;obtain⟨e,f⟩:=aoq.1 hs;split
  ·rename_i b;refine aoq.2 ⟨fun z a =>?_,hs⟩;rcases anc.1 a with rfl|a
   ·exact b
   ·exact h.trans _ _ _ b (e z a)
  ·rename_i b;have d:c y x<=0:=(h.total x y).resolve_left b;refine aoq.2 ⟨fun z a =>?_,Gu h x l f⟩;rcases anc.1 ((Fa c x l).mem_iff.1 a) with rfl|a
   ·exact d
   ·exact e z a
def qe{α:Type}{c:α->α->Int}(h:WO c):∀l:List α,(te c l).Pairwise (fun x y=>c x y<=0)
 | []=>List.Pairwise.nil
 | x::l=>Gu h x _ (qe h l)
def sn{α:Type}{c:α->α->Int}:∀{l m:List α},l.Perm m->(∀x∈l,∀y∈l,c x y<=0->c y x<=0->x=y)->l.Pairwise (fun x y=>c x y<=0)->m.Pairwise (fun x y=>c x y<=0)->l=m
 | [],m,d,_,_,_=>(List.Perm.nil_eq d)
 | x::l,[],d,_,_,_=>absurd d.symm (by simp_all)
 | x::l,y::m,d,ha,f,hm=>by
  obtain⟨n,g⟩:=aoq.1 f;obtain⟨o,h⟩:=aoq.1 hm;have e:x=y:=by
   by_cases i:x=y
   ·exact i
   ·have p:y∈l:=by
     grind
    grind
  subst e;rw[sn ((List.perm_cons x).1 d) (fun a j b k=>ha a (aoj _ j) b (aoj _ k)) g h]
open Classical in
def GM{α:Type}(c:α->α->Int)(l:List α):Option (List α×Unit):=if l.length<4611686018427387904∧∀x∈l,∀y∈l,c x y=0->x=y then some (te c l,()) else none
end Go.Proofs.YtobnihfgnbnncaaGreat.P
namespace Go.Proofs.YtobnihfgnbnncaaGreat.Am
open Go.RowKit Go.Proofs.YtobnihfgnbnncaaGreat.P
def acU(b:Bool)(a:List Value):Value:=if b then .agg a.toArray else a.getD 0 undef
def IsV{α:Type}(E:jq α)(w:World)(M:Nat->Prop)(x:α)(a:List Value):Prop:=a.length=E.size∧∀j d,(E.cells x)[j]? = some d->bH d=true∧RP w M d (a.getD j undef)
def ajT{α:Type}(P:Program)(g:FuncId)(a:Bool)(E:jq α)(c:α->α->Int):Prop:=∀(w:World)(M:Nat->Prop)(x y:α)(d f:List Value),(∀b,M b->b<w.heap.size)->IsV E w M x d->IsV E w M y f ->
 Calls P g #[acU a d,acU a f] w fun e h=>e=.returned (.int .i64 (c x y))∧∃q i,h=Go.Sort.grow (w.drewN q) i
def ahK(P:Program)(f g:FuncId)(p:Bool)(k:Nat):Prop:=∀(β:Type)(_:Inhabited β)(enc:β->List Value)(c:β->β->Int),(∀x,(enc x).length=k)->(∀x,∀v∈enc x,v.oneCell'=true)->Go.Sort.SWO (ltOf c)->∀(blk a h:Nat)(d:Array β)(w:World),
 (∀(m:Nat)(b:Array Obj)(i:Array β),i.size=d.size->∀x y:β,Calls P g #[acU p (enc x),acU p (enc y)] (sortWorldK enc k w blk a m i b) fun e j=>e=.returned (.int .i64 (c x y))∧∃q l,j=Go.Sort.grow ((sortWorldK enc k w blk a m i b).drewN q) l) ->
 Go.Sort.HoldsK enc k w blk a d->blk<w.heap.size->d.size<4611686018427387904 ->
 Calls P f #[.slice (some ⟨blk,a,none⟩) d.size h,.func (.func g) #[] #[]] w fun e j=>e=.returned (.tuple #[])∧∃o n b,Go.Sort.PermIn 0 d.size d o∧Go.Sort.SortedIn (ltOf c) 0 d.size o∧j=sortWorldK enc k w blk a n o b
def YC{α:Type}(E:jq α){l:List α}{i j:Nat}{x:α}(a:l[i]? = some x)(b:j<E.size):(aq E l)[i*E.size+j]? = (E.cells x)[j]?:=by
 have c:((aq E l).drop (i*E.size))[j]? = (aq E l)[i*E.size+j]?:=ant;have d:l.drop i=x::l.drop (i+1):=by
  obtain⟨e,rfl⟩:=anx.1 a;simp_all
 rw[<- c,ru,d,bY,anV (by rw[E.len];exact b)]
section
variable {β:Type} [Inhabited β] {enc:β->List Value} {k:Nat}
def Qc{w:World}{b a:Nat}{d:Array β}{c:Array Value}{e:Nat}{fr:Nat×Nat}(h:w.heap[b]? = some (.cells c e fr)):(Go.Sort.putRowK enc k w b a d).heap[b]? = some (.cells (Go.Sort.putCells id a (Go.Sort.flatK enc k d) c) e fr):=by
 simp[Go.Sort.putRowK,Go.Sort.putRow,Go.Sort.mapBlock,ang,h,Go.Sort.onCells]
def Hf{w:World}{b c a:Nat}{d:Array β}(h:c≠b):(Go.Sort.putRowK enc k w b a d).heap[c]? = w.heap[c]?:=by
 simp[Go.Sort.putRowK,Go.Sort.putRow,Go.Sort.mapBlock,ang,Ne.symm h]
def B5{w:World}{b c a m:Nat}{d:Array β}{e:Array Obj}(f:c<w.heap.size)(h:c≠b):(sortWorldK enc k w b a m d e).heap[c]? = w.heap[c]?:=by
 unfold sortWorldK;rw[Go.Sort.heap_grow_old _ _ (by simpa [Go.Sort.putRowK,Go.Sort.ahead] using f),Hf h];rfl
def s7{w:World}{b a m:Nat}{d:Array β}{c:Array Obj}:w.heap.size<=(sortWorldK enc k w b a m d c).heap.size:=by
 simp[sortWorldK,Go.Sort.putRowK,Go.Sort.ahead]
def LQ{w:World}{b a m:Nat}{d:Array β}{f:Array Obj}{c:Array Value}{e:Nat}{fr:Nat×Nat}(h:w.heap[b]? = some (.cells c e fr)):(sortWorldK enc k w b a m d f).heap[b]? = some (.cells (Go.Sort.putCells id a (Go.Sort.flatK enc k d) c) e fr):=by
 have g:=(an6.1 h).1;unfold sortWorldK;rw[Go.Sort.heap_grow_old _ _ (by simpa [Go.Sort.putRowK,Go.Sort.ahead] using g)];exact Qc h
def LJ{a:Nat}{d:Array β}{b:Array Value}{j:Nat}(c:j<b.size):(Go.Sort.putCells id a (Go.Sort.flatK enc k d) b).getD j undef=if a<=j∧j<a+d.size*k then (enc d[(j-a) / k]!)[(j-a) % k]! else b.getD j undef:=by
 have e:(Go.Sort.putCells id a (Go.Sort.flatK enc k d) b)[j]? = some (if a<=j∧j<a+d.size*k then (enc d[(j-a) / k]!)[(j-a) % k]! else b[j]):=by
  simp only[Go.Sort.putCells,Array.getElem?_mapIdx,aob c,Option.map_some,Go.Sort.size_flatK];congr 1;split
  ·rename_i f;rw[Go.Sort.get_flatK _ _ _ _ (by omega)];rfl
  ·rfl
 simp_all
end
def ajp{α β:Type}{c:α->α->Int}(h:WO c)(f:β->α):Go.Sort.SWO (ltOf fun x y=>c (f x) (f y)) where
 irrefl x:=by
  simp only[ltOf,decide_eq_false_iff_not];intro e;have:=(h.neg _ _).1 e;omega
 trans x y z h1 h2:=by
  simp only[ltOf,decide_eq_true_eq]at h1 h2 ⊢
  by_cases a:c (f x) (f z)<0
  ·exact a
  ·have b:c (f z) (f x)<=0:=by
    have:=(h.neg (f z) (f x));rcases Int.lt_trichotomy (c (f z) (f x)) 0 with q|q|q
    ·omega
    ·omega
    ·exact absurd ((h.neg (f x) (f z)).2 q) a
   have d:=h.trans _ _ _ b (Int.le_of_lt h1);have g:=(h.neg _ _).1 h2;omega
 ntrans x y z h1 h2:=by
  simp only[ltOf,decide_eq_false_iff_not]at h1 h2 ⊢;intro a;have b:c (f y) (f x)<=0:=by
   by_cases q:0<c (f y) (f x)
   ·exact absurd ((h.neg _ _).2 q) h1
   ·omega
  have d:c (f z) (f y)<=0:=by
   by_cases q:0<c (f z) (f y)
   ·exact absurd ((h.neg _ _).2 q) h2
   ·omega
  have g:=h.trans _ _ _ d b;have i:=(h.neg _ _).1 a;omega
def Kg{β:Type}[Inhabited β]{d a:Array β}(h:Go.Sort.PermIn 0 d.size d a):a.toList.Perm d.toList:=by
 obtain⟨b,-,c⟩:=h;have e:(d.extract 0 d.size)=d:=by simp
 have f:(a.extract 0 d.size)=a:=by rw[<- b];simp
 rwa [e,f]at c
def afn{α:Type}{E:jq α}{c:α->α->Int}{P:Program}{f g:FuncId}{fn:Func}{ag:Bool}{ty:Nat}{F:List α->Option (List α×Unit)}(hf:P.funcs[f]? = some fn)(hc:(fn.name == "runtime.NumGoroutine")=false∧fn.body.isNone=false)
  (hF:∀l,F l=GM c l) (h0:∀p ao w,Calls P f #[.slice p 0 ao,.func (.func g) #[] #[]] w fun e w'=>e=.returned (.tuple #[])∧w'=w) (hO:WO c) (hcmp:ajT P g ag E c) (hS:ahK P f g ag E.size) :
  b6 P f (mkW ty E (dp (QT g)) (fun l (_:Unit)=>F l) (fun _:Unit =>.clean (.tup []))) where
 callable:=⟨fn,hf,hc⟩
 calls cg la rk out hg:=by
  obtain⟨pre,l,post,a,l',r,rfl,rfl,hr,rfl,rfl⟩:=TK hg;rw[hF]at hr;unfold GM at hr
  by_cases B:l.length<4611686018427387904∧∀x∈l,∀y∈l,c x y=0->x=y
  ·rw[if_pos B]at hr;obtain⟨aB,hanti⟩:=B;obtain rfl:te c l=l':=congrArg Prod.fst (ao0 hr);intro w M h u0 vs hM aC hz aE C aa s;have ar:vs = #[.func (.func g) #[] #[]]:=by
    have S:=s.1;have h2:=s.2 0 (.fn g) rfl;have h3:vs.size=1:=S;cases hv:vs.getD 0 undef<;>rw[hv]at h2<;>cases h2;apply aoc
    ·simp[h3]
    ·intro i i1 i2;have:i=0:=by omega
     subst this;simpa [Array.getD,h3] using hv
   subst ar
   by_cases hl:l=[]
   ·subst hl;have hu:∃p cp,u0=.slice p 0 cp:=by
     rcases aa.2 ⟨0,0,[],false,false,false⟩ rfl rfl with⟨g',o',cp,N,t,k0,k1,k2,k3,k4,k5⟩|k0
     ·simp_all
     grind
    obtain⟨p,cp,rfl⟩:=hu;refine (h0 p cp w).mono fun e w' ⟨he,hw⟩ =>?_;subst hw;exact⟨.tuple #[],he,⟨rfl,rfl,rfl,am6 _,fun _ _ _=>rfl⟩,⟨rfl,rfl,⟨rfl,rfl⟩,fun g' T=>rfl,C⟩,.tup [] [] rfl (fun j x o=>by simp at o)⟩
   ·have hk:=E.pos;have J:0<l.length:=aoH.2 hl;cases h with
    | none =>
     have au:pre++(aq E l++post)=[]:=C;have:=congrArg List.length au;rw[an7,an7,bQ,an8]at this;have:=ao1 J hk;omega
    | some h =>
     obtain⟨cs,S,h2,h3⟩:=C;simp only[an7,bQ]at h2;generalize U:(fun b=>M b∨yN (some h) b)=M' at h3 s ⊢;have ab:M' h.1:=by rw[<- U];exact .inr ⟨h,rfl,rfl⟩
     have av:h.1<w.heap.size:=(an6.1 S).1;have V:∀b,M' b->b<w.heap.size:=by
      intro b hb;rw[<- U]at hb;rcases hb with hb|⟨g',T,rfl⟩
      ·exact hM b hb
      simp_all
     rcases aa.2 ⟨0,0,[],false,false,false⟩ rfl rfl with⟨g',o',cp,N,t,k0,k1,k2,k3,k4,k5⟩|⟨k0,_⟩;rotate_left
     ·cases k0
     cases k0;obtain⟨rfl,k6⟩:=k2 (.inl (by omega));subst k1;have ad:∀i,i<l.length->i*E.size+E.size<=l.length*E.size:=by
      intro i I;have:=anM E.size (show i+1<=l.length from I);grind
     have q:∀i (I:i<l.length),IsV E w M' l[i] ((List.range E.size).map fun j=>cs.getD (h.2+pre.length+(i*E.size+j)) undef):=by
      intro i I;refine⟨by simp,fun j d o =>?_⟩;have aw:j<E.size:=by
       have:=(anx.1 o).1
       rwa [E.len]at this
      have hd:(pre++(aq E l++post))[pre.length+(i*E.size+j)]? = some d:=by
       have:=ad i I;rw[anX (by omega),aoQ,anV (by rw[bQ];omega),YC E (anj I) aw,o]
      have:=h3 _ _ hd;rw[<- anp]at this;simp_all
     let β:={ p:α×List Value // IsV E w M' p.1 p.2 }
     let enc:β->List Value:=fun p=>p.1.2
     let K:List β:=List.ofFn fun i:Fin l.length=>(⟨(l[i.1],_),q i.1 i.2⟩:β)
     have ae:K.length=l.length:=by simp[K]
     have aF:∀i (I:i<l.length),K[i]? = some ⟨(l[i],_),q i I⟩:=by
      grind
     have ah:Inhabited β:=⟨⟨(l[0],_),q 0 J⟩⟩;have aD:K.map (fun p=>p.1.1)=l:=by
      apply aoZ;grind
     have L:∀x:β,(enc x).length=E.size:=fun x=>x.2.1;have ai:∀x:β,∀v∈enc x,v.oneCell'=true:=by
      intro x v hv;obtain⟨j,o⟩:=anq hv;have W:=(anx.1 o).1;rw[L]at W;obtain⟨p1,p2⟩:=x.2.2 j _ (anj (by rw[E.len];exact W));have:x.1.2.getD j undef=v:=by grind
      rw[this]at p2;exact p2.tL p1
     have z:∀{m:Nat}{dk:Array β}{os:Array Obj}{d:D}{u:Value},RP w M' d u->RP (sortWorldK enc E.size w h.1 (h.2+pre.length) m dk os) M' d u:=by
      intro m dk os d u hu;refine hu.keep fun b q1 q2=>⟨am9 q1 s7,q2,?_⟩;exact B5 q1 (fun e=>q2 (e ▸ ab))
     have hH:Go.Sort.HoldsK enc E.size w h.1 (h.2+pre.length) K.toArray:=by
      intro j o;simp only[Go.Sort.size_flatK,aoe,ae]at o;refine⟨?_,by simp[World.frozen?,S]⟩;have hq:j / E.size<l.length:=aoG (by rwa [Nat.mul_comm]);have O:j % E.size<E.size:=anT _ hk;have aj:j / E.size*E.size+j % E.size=j:=by rw[Nat.mul_comm];exact ao2 j E.size
      rw[Go.Sort.get_flatK _ _ _ _ (by simp_all),bm S (j:=h.2+pre.length+j) (by omega)];have e1:(K.toArray)[j / E.size]! = ⟨(l[j / E.size],_),q _ hq⟩:=by
       simp_all
      rw[e1];show some _=some (((List.range E.size).map fun j'=>cs.getD (h.2+pre.length+(j / E.size*E.size+j')) undef)[j % E.size]!);simp_all
     have ax:=ajp hO (fun p:β=>p.1.1);have G:=hS β ah enc (fun x y=>c x.1.1 y.1.1) L ai ax h.1 (h.2+pre.length) cp K.toArray w (fun m os dk aG x y=>hcmp _ M' x.1.1 y.1.1 x.1.2 y.1.2 (fun b hb=>am9 (V b hb) s7) ⟨x.2.1,fun j d o=>⟨(x.2.2 j d o).1,z (x.2.2 j d o).2⟩⟩ ⟨y.2.1,fun j d o=>⟨(y.2.2 j d o).1,z (y.2.2 j d o).2⟩⟩) hH av (by simp_all);have X:K.toArray.size=l.length:=by simp[ae]
     rw[X]at G;refine G.mono fun e w' ⟨he,A,n,os,H,Y,hw⟩ =>?_;subst hw;have al:=Kg (by rw[X];exact H);have ak:A.size=l.length:=by have:=H.1;rw[this,X]
     have ay:A.toList.map (fun p=>p.1.1)=te c l:=by
      have Z:(A.toList.map (fun p=>p.1.1)).Perm l:=by
       grind
      refine sn (Z.trans (lr c l).symm) (fun x hx y hy h4 h5=>hanti x (Z.mem_iff.1 hx) y (Z.mem_iff.1 hy) ?_) ?_ (qe hO l)
      ·have:=hO.neg x y;omega
      ·rw[ao3];rw[ao4];intro i j I o az;simp only[Array.length_toList]at I o;have:=Y i j (am7 _) az (by omega);simp only[ltOf,decide_eq_false_iff_not]at this;rw[getElem!_pos A j (by omega),getElem!_pos A i (by omega)]at this;simp only[Array.getElem_toList];have h6:=hO.neg A[j].1.1 A[i].1.1;omega
     have Q:(sortWorldK enc E.size w h.1 (h.2+pre.length) n A os).heap[h.1]? = some (.cells (Go.Sort.putCells id (h.2+pre.length) (Go.Sort.flatK enc E.size A) cs) ty (0,0)):=LQ S;have R:(Go.Sort.putCells id (h.2+pre.length) (Go.Sort.flatK enc E.size A) cs).size=cs.size:=by simp[Go.Sort.putCells]
     refine⟨.tuple #[],he,⟨rfl,rfl,rfl,s7,fun k hk hn=>B5 hk (fun e=>hn ⟨h,rfl,e⟩)⟩,⟨rfl,rfl,⟨rfl,rfl⟩,fun g' T =>?_,?_⟩,.tup [] [] rfl (fun j x o=>by simp at o)⟩
     ·cases T;simp[World.shape?,Q,S,R]
     ·refine⟨_,Q,?_,fun j d o =>?_⟩
      ·simp only[an7,bQ,rz,R];exact h2
      ·have W:j<pre.length+(l.length*E.size+post.length):=by
        have:=(anx.1 o).1;simpa [bQ,rz] using this
       show _∧RP _ (fun b=>M b∨yN (some h) b) d _;rw[U,LJ (by omega),ak]
       by_cases aA:pre.length<=j∧j<pre.length+l.length*E.size
       ·rw[if_pos (by omega)];have e1:h.2+j-(h.2+pre.length)=j-pre.length:=by omega
        rw[e1];have hq:(j-pre.length) / E.size<l.length:=aoG (by grind);have O:(j-pre.length) % E.size<E.size:=anT _ hk;have aj:(j-pre.length) / E.size*E.size+(j-pre.length) % E.size=j-pre.length:=by rw[Nat.mul_comm];exact ao2 _ _
        rw[anX aA.1,anV (by rw[bQ,rz];omega),<- aj,<- ay,YC E (x:=(A[(j-pre.length) / E.size]!).1.1) (by
         rw[am3,anj (by simp_all),getElem!_pos A _ (by omega)];simp) O]at o
        obtain⟨p1,p2⟩:=(A[(j-pre.length) / E.size]!).2.2 _ _ o;refine⟨p1,z ?_⟩;have e2:(enc A[(j-pre.length) / E.size]!)[(j-pre.length) % E.size]! = (A[(j-pre.length) / E.size]!).1.2.getD ((j-pre.length) % E.size) undef:=by
         rw[getElem!_pos _ _ (by simp_all)];simp only[anG];rw[anj (by grind)];rfl
        simp_all
       ·rw[if_neg (by omega)];have aH:(pre++(aq E l++post))[j]? = some d:=by
         by_cases aI:j<pre.length
         ·grind
         ·rw[anX (by omega),anX (by rw[bQ,rz];omega),bQ,rz]at o;rw[anX (by omega),anX (by rw[bQ];omega),bQ];exact o
        grind
  simp_all
end Go.Proofs.YtobnihfgnbnncaaGreat.Am
namespace Go.Proofs.YtobnihfgnbnncaaGreat.P
def mo{α:Type}(f g:α->Int)(x y:α):Int:=if Go.Lib.compareInt (f x) (f y)≠0 then Go.Lib.compareInt (f x) (f y) else Go.Lib.compareInt (g x) (g y)
def FI{α:Type}{f g:α->Int}{x y:α}:mo f g x y<0↔f x<f y∨(f x=f y∧g x<g y):=by
 unfold mo Go.Lib.compareInt;omega
def FJ{α:Type}{f g:α->Int}{x y:α}:0<mo f g x y↔f y<f x∨(f x=f y∧g y<g x):=by
 unfold mo Go.Lib.compareInt;omega
theorem AJ{α:Type}{f g:α->Int}{x y:α}:mo f g x y<=0↔f x<f y∨(f x=f y∧g x<=g y):=by
 have a:=@FI α f g x y;have b:=@FJ α f g x y;omega
def Xu{α:Type}{f g:α->Int}{x y:α}:mo f g x y=0↔f x=f y∧g x=g y:=by
 have a:=@FI α f g x y;have b:=@FJ α f g x y;omega
def AK{α:Type}(f g:α->Int):WO (mo f g) where
 total x y:=by rw[AJ,AJ];omega
 neg x y:=by rw[FI,FJ];omega
 trans x y z h1 h2:=by rw[AJ]at *;omega
end Go.Proofs.YtobnihfgnbnncaaGreat.P
namespace Go.Proofs.YtobnihfgnbnncaaGreat.Am
open Go.RowKit Go.Lib Go.Sort Go.Shelf Go.Proofs.YtobnihfgnbnncaaGreat.P
def agY(x:Int)(w:World):Calls prog 153 #[.int .i64 x] w fun e w'=>e=.returned (.bool false)∧w'=w:=by
 go_enter func153,ntmps153
 go_wp2
 go_ret
 exact⟨by simp,rfl⟩
def RM(x y:Int)(w:World):Calls prog 110 #[.int .i64 x,.int .i64 y] w fun e w'=>e=.returned (.int .i64 (Lib.compareInt x y))∧w'=w:=by
 go_enter func110,ntmps110
 go_wp2_with (go_at_call 153;refine (agY _ _).mono ?_;rintro e w' ⟨rfl,hw⟩;rw[hw])
 all_goals (go_ret;refine⟨?_,rfl⟩;unfold Lib.compareInt;(repeat' split)<;>first|rfl|(exfalso;omega))
def ai9(b off cap:Nat)(x y r:Int)(hr:r=if x≠0 then x else y)(w:World)(h0:w.cell? ⟨b,off,none⟩=some (.int .i64 x))(h1:w.cell? ⟨b,off+1,none⟩=some (.int .i64 y)):Calls prog 115 #[.slice (some ⟨b,off,none⟩) 2 cap] w fun e w'=>e=.returned (.int .i64 r)∧w'=w:=by
 go_enter func115,ntmps115
 go_wp2
 refine wp_loop_rounds 3 ?_;repeat any_goals (rw[rounds_succ];go_wp2)
 all_goals (go_ret;refine⟨?_,rfl⟩;subst hr;simp_all)
def KU(W:World)(A B:Obj)(q:Nat):({ ((W.alloc A).alloc B) with drawn:=q }:World).heap[W.heap.size]? = some A∧({ ((W.alloc A).alloc B) with drawn:=q }:World).heap[W.heap.size+1]? = some B:=by
 constructor
 ·show ((W.heap.push A).push B)[W.heap.size]? = some A;grind
 ·show ((W.heap.push A).push B)[W.heap.size+1]? = some B;grind
def acS(w:World)(x y:Value)(t:TypeId):(w.alloc (.cells #[x,y] t)).cell? ⟨w.heap.size,0,none⟩=some x∧(w.alloc (.cells #[x,y] t)).cell? ⟨w.heap.size,0+1,none⟩=some y:=by
 simp_all
def afN(W:World)(A B:Obj):({ ((W.alloc A).alloc B) with drawn:=((W.alloc A).alloc B).drawn+1 }:World)=grow (W.drewN 1) #[A,B]:=by
 rw[alloc_eq_grow,alloc_eq_grow,grow_grow];rfl
def Ux{P:Program}{id:Nat}{Q:Exit->Act->World->Prop}{a:Act}{w b:World}{l:List Oper}(n:Nat)(d:b = { w with drawn:=w.drawn+1 })(e:P.follows .mixedOrders=true)(f:Region.lexTailB .any l.toArray n=true)
  (h:wpStill P l.toArray b (fun g=>wpList P l.toArray Q (l.drop n) g b) (l.take n) a):(Code.region id l.toArray true).wp P Q a w:=by
 subst d;exact wp_region_still_tail n e f h
set_option maxRecDepth 100000 in
def Q9(f1 t1 f2 t2:Int)(a b c d a' b' c' d':Value)(W:World)(h1:∀v∈[a,b,c,d],v.oneCell'=true)(h2:∀v∈[a',b',c',d'],v.oneCell'=true) :
  Calls prog 67 #[.agg #[.int .i64 f1,.int .i64 t1,a,b,c,d],.agg #[.int .i64 f2,.int .i64 t2,a',b',c',d']] W fun e w'=>e=.returned (.int .i64 (if Lib.compareInt f1 f2≠0 then Lib.compareInt f1 f2 else Lib.compareInt t1 t2))∧∃q os',w'=grow (W.drewN q) os':=by
 have hcon:=fun x y W'=>RM x y W';have hor:=fun b off cap x y r hr W' h0 h1=>ai9 b off cap x y r hr W' h0 h1;generalize hr:(if Lib.compareInt f1 f2≠0 then Lib.compareInt f1 f2 else Lib.compareInt t1 t2)=r;obtain⟨w1,hw1⟩:∃w1:World,w1 = { ((W.alloc (Obj.cells #[.int .i64 f1,.int .i64 t1,a,b,c,d] 118)).alloc (Obj.cells #[.int .i64 f2,.int .i64 t2,a',b',c',d'] 118)) with drawn:=((W.alloc (Obj.cells #[.int .i64 f1,.int .i64 t1,a,b,c,d] 118)).alloc (Obj.cells #[.int .i64 f2,.int .i64 t2,a',b',c',d'] 118)).drawn+1 }:=⟨_,rfl⟩;have hg:∃q os,w1=grow (W.drewN q) os:=⟨_,_,hw1.trans (afN _ _ _)⟩;have hA:w1.heap[W.heap.size]? = some (Obj.cells #[.int .i64 f1,.int .i64 t1,a,b,c,d] 118):=by rw[hw1];exact (KU _ _ _ _).1
 have hB:w1.heap[W.heap.size+1]? = some (Obj.cells #[.int .i64 f2,.int .i64 t2,a',b',c',d'] 118):=by rw[hw1];exact (KU _ _ _ _).2
 have c1:w1.cell? ⟨W.heap.size,0,none⟩=some (.int .i64 f1):=bm hA (j:=0) (by simp);have c2:w1.cell? ⟨W.heap.size,1,none⟩=some (.int .i64 t1):=bm hA (j:=1) (by simp);have c3:w1.cell? ⟨W.heap.size+1,0,none⟩=some (.int .i64 f2):=bm hB (j:=0) (by simp);have c4:w1.cell? ⟨W.heap.size+1,1,none⟩=some (.int .i64 t2):=bm hB (j:=1) (by simp);clear hA hB
 go_enter func67,ntmps67
 go_wp2
 refine Ux 10 hw1 (by kernel_rfl) (by kernel_rfl) ?_;clear hw1;simp only[List.take_succ_cons,List.take_zero,aoL,aoE]
 iterate 4 still_step
 still_call (hcon _ _ _)
 iterate 4 still_step
 still_call (hcon _ _ _)
 apply wpStill_nil;generalize Lib.compareInt f1 f2=r1 at *;generalize Lib.compareInt t1 t2=r2 at *
 go_wp2_with (go_at_call 115;refine (hor _ _ _ _ _ _ hr.symm _ (acS _ _ _ _).1 (acS _ _ _ _).2).mono ?_;rintro e w' ⟨rfl,rfl⟩)
 go_ret
 obtain⟨q,os,hq⟩:=hg;exact⟨rfl,q,_,by rw[hq,alloc_eq_grow,grow_grow]⟩
def aff{α:Type}{E:jq α}(m:E.size=6){f g:α->Int}(q:∀x,(E.cells x)[0]? = some (.int .i64 (f x)))(r:∀x,(E.cells x)[1]? = some (.int .i64 (g x))){w:World}{M:Nat->Prop}{x:α}{k:List Value}(h:IsV E w M x k) :
  ∃a b c d,k=[.int .i64 (f x),.int .i64 (g x),a,b,c,d]∧∀v∈[a,b,c,d],v.oneCell'=true:=by
 obtain⟨n,l⟩:=h;rw[m]at n
 match k,n with
 | [a0,o,a2,a3,a4,a5],_ =>
  have s:a0=.int .i64 (f x):=by
   have:=(l 0 _ (q x)).2;simp at this;cases this;rfl
  have t:o=.int .i64 (g x):=by
   have:=(l 1 _ (r x)).2;simp at this;cases this;rfl
  have i:=E.len x;rw[m]at i;have e:∀j,j<6->([a0,o,a2,a3,a4,a5].getD j undef).oneCell'=true:=fun j z=>by
   obtain⟨u,y⟩:=l j _ (anj (by omega));exact y.tL u
  subst s t;refine⟨a2,a3,a4,a5,rfl,fun v p =>?_⟩;simp only[anc,aon,or_false]at p;rcases p with rfl|rfl|rfl|rfl
  ·exact e 2 (by decide)
  ·exact e 3 (by decide)
  ·exact e 4 (by decide)
  ·exact e 5 (by decide)
def aaE{α:Type}{E:jq α}(e:E.size=6){f g:α->Int}(h:∀x,(E.cells x)[0]? = some (.int .i64 (f x)))(i:∀x,(E.cells x)[1]? = some (.int .i64 (g x))):ajT prog 67 true E (mo f g):=by
 intro w M x y r s t j k;obtain⟨a,b,c,d,rfl,p⟩:=aff e h i j;obtain⟨l,m,n,o,rfl,q⟩:=aff e h i k;exact Q9 _ _ _ _ a b c d l m n o w p q
def abP{P:Program}{ρ:Go.Shelf.Ren}(L:SlLaysF0.n6 P ρ){k g:Nat}(l:∀w,(isAgg (ρ.t 24)).run P w=.ok true w)(n:∀w,(Go.sizeOf (ρ.t 24)).run P w=.ok k w)(o:∀a w,(callFunc g a).run P w=.ok (.enter g a) w):ahK P (ρ.f 6) g true k :=
 fun β p enc q r s t e f h d w b u c i=>AnyQ.slices_SortFunc L k l n enc r s q t g #[] e f h d w o (fun m v z j x y=>by simpa [acU] using b m v z j x y) u c i
def P6{α:Type}{E:jq α}(b:E.size=6){f g:α->Int}(c:∀x,(E.cells x)[0]? = some (.int .i64 (f x)))(d:∀x,(E.cells x)[1]? = some (.int .i64 (g x)))(e:Nat) :
  b6 prog 66 (mkW e E (dp (QT 67)) (fun l (_:Unit)=>GM (mo f g) l) (fun _:Unit =>.clean (.tup []))) :=
 afn (F:=GM (mo f g)) func66 ⟨rfl,rfl⟩ (fun _=>rfl) (fun p a w=>AnyF.slices_SortFunc_none Tryz.afo p a _ w) (AK f g) (aaE b c d)
  (by rw[b];exact abP Tryz.afo isAgg118 sizeOf118 (enters_of func67 (by kernel_rfl) rfl))
end Go.Proofs.YtobnihfgnbnncaaGreat.Am
namespace Go.Proofs.YtobnihfgnbnncaaGreat.Am
open Go.RowKit Go.Proofs.YtobnihfgnbnncaaGreat.P
def oK:Nat->Code->Code
 | 0,.seq a _=>a
 | k+1,.seq a b =>.seq a (oK k b)
 | _,c=>c
def FH:Nat->Code->Code
 | 0,.seq _ b=>b
 | k+1,.seq _ b=>FH k b
 | _,_ =>.skip
def spine:Nat->Code->Bool
 | 0,.seq _ _=>true
 | k+1,.seq _ b=>spine k b
 | _,_=>false
def ac2(a:Func):Code:=match a.body with|some c=>c|none =>.skip
def Pr(a b:Code):oK 0 (.seq a b)=a:=rfl
def Pq(k:Nat)(a b:Code):oK (k+1) (.seq a b)=.seq a (oK k b):=rfl
section
variable {P:Program} {T:Nat->Option Ty} {N:Nat} {M:Nat->Prop} {L:mc} {w0:World} {Γ:Env}
def Gs(l:km P T)(m:bN P Γ)(o:P.follows .mixedOrders=true){F:Nat}{Q:Exit->Act->World->Prop}:∀(k:Nat)(c:Code)(s:St)(x:Ex)(i:St)(a:Act)(w:World),spine k c=true->iP T Γ N F (oK k c) s=some (x,i)->codeOk (oK k c)=true->Holds N M L w0 s a w ->
  (x=.normal->∀e f,Holds N M L w0 i e f->(FH k c).wp P Q e f)->(x ≠ .normal->∀e f,Holds N M L w0 i e f->Q (IS x) e f)->c.wp P Q a w
 | 0,.seq b c,s,x,i,a,w,_,j,g,hH,h1,h2=>by
  refine wp_seq (lj l m o b s x i _ a w j g hH fun e f d =>?_);cases x with
  | normal=>exact h1 rfl e f d
  | exit n=>exact h2 (by intro h;cases h) e f d
  | ret=>exact h2 (by intro h;cases h) e f d
 | k+1,.seq b c,s,x,i,a,w,hs,j,g,hH,h1,h2=>by
  simp only[oK,codeOk,anF]at g;simp only[oK,iP,ajL]at j;apply wp_seq;split at j
  ·rename_i q p;exact lj l m o b s .normal q _ a w p g.1 hH fun e f d=>Gs l m o k c q x i e f hs j g.2 d h1 h2
  ·rename_i r t;refine lj l m o b s x i _ a w j g.1 hH fun e f d =>?_;cases x with
   | normal=>simp_all
   | exit n=>exact h2 (by intro h;cases h) e f d
   | ret=>exact h2 (by intro h;cases h) e f d
end
def Cm(T:Nat->Option Ty)(rs:List ResultVar)(r:RK×Option Row)(J:(Nat->D)->(Nat->Option Row)->Nat->Prop):Kt:=fun x t h e =>
 match x with
 | .normal=>J t h e
 | .ret=>gF .clean T none rs ⟨t,EH h,e⟩=some r
 | .exit _=>False
section
variable {T:Nat->Option Ty} {Γ:Env} {n F k:Nat} {rs:List ResultVar} {r:RK×Option Row} {J:(Nat->D)->(Nat->Option Row)->Nat->Prop} {t:Nat->D} {h:Nat->Option Row} {e:Nat}
def Ll:Cm T rs r J .normal t h e=J t h e:=apL
def IW:Cm T rs r J .ret t h e=(gF .clean T none rs ⟨t,EH h,e⟩=some r):=apL
def XK(T:Nat->Option Ty)(Γ:Env)(F k:Nat)(b:Func)(a:List D)(K:Kt):Prop:=∃c,b.body=some c∧∃x s,iP T Γ b.ntmps F (oK k c) (cP none a)=some (x,s)∧K x s.t s.h s.e
def acb{b:Func}{c:Code}{a:List D}(d:b.body=some c)(e:b.ntmps=n)(h:b.results=rs.toArray)(f:er T Γ n F [.code (oK k c)] (Cm T rs r J) .normal (Dd a) NR 0):XK T Γ F k b a (Cm T b.results.toList r J):=by
 obtain⟨x,s,g,i⟩:=FO _ _ _ _ _ (show QN T Γ n F (oK k c) (Dd a) NR 0 (Cm T rs r J) from f);refine⟨c,d,x,s,?_,?_⟩
 ·rw[e];exact g
 simp_all
end
section
variable {P:Program} {T:Nat->Option Ty} {Γ:Env}
def Va{n:Nat}{a:List D}{w:World}{M:Nat->Prop}{f:Array Value}(m:∀b,M b->b<w.heap.size)(c:C9 w M a f)(z:a.length<=n)(h:n<=PK):Holds n M none w (cP none a) { tmps:=f++Array.replicate (n-f.size) undef,defers:=[] } w:=by
 have o:Inv n M none w (fun _=>none) (fun x v=>x<n∧v<0) (cP none a).t (cP none a).h { tmps:=f++Array.replicate (n-f.size) undef,defers:=[] } w:={
  tab:=fun b d=>(c.tab b d).less fun b d=>by
   rcases d with d|⟨x,r,g,e,_⟩
   ·exact d
   ·cases e
  below:=fb.refl _ _
  mlt:=m
  cg:=fun b d=>absurd d tq
  pin:=fun A p=>by cases p
  defers:=rfl
  tsz:=by have:=c.1;simp;omega
  slots:=fun i=>by
   simp only[cP];rcases AG (n:=n) (i:=i) c.1 with he|he
   ·rw[he]
    by_cases q:i<a.length
    ·have t:=c.2 i _ (anj q);have j:a.getD i .und=a[i]:=by simp_all
     rw[j];exact cd (t.less fun b d=>by
      rcases d with d|⟨x,r,g,e,_⟩
      ·exact d
      ·cases e)
    ·have j:a.getD i .und=.und:=by simp_all
     rw[j];trivial
   ·rw[he];trivial
  rows:=fun x r e=>by cases e
  inj:=fun x y r s g B e=>by cases e
  big:=h
  pha:=fun y r g l=>by cases l
  ali:=fun y r g l=>by cases l }
 exact⟨_,⟨(by rw[HG (fun k r u=>by cases u)];exact o.weaken fun x v e=>absurd e.2 (Nat.not_lt_zero _)),fun x r C s E F e=>by cases e⟩⟩
def M5(q:km P T){e:Func}{M:Nat->Prop}{w d:World}{s:St}{a':Act}{n:RK}(r:Holds e.ntmps M none w s a' d)(c:gF .clean T none e.results.toList ⟨s.t,EH s.h,s.e⟩=some (n,none)) :
  a'.defers=[]∧∃v,(results e a'.tmps).run P d=.ok v d∧(∃p,Ending.returned v=.returned p∧Below w.heap.size w d∧zm w d M (fun _=>False) p n):=by
 obtain⟨f,k⟩:=r;obtain⟨j,g⟩:∃j:St,j=⟨s.t,EH s.h,s.e⟩:=⟨_,rfl⟩;have a:Inv e.ntmps M none w f (VE e.ntmps s.e [] s.h) j.t j.h a' d:=by rw[g];exact k.inv
 rw[<- g]at c;have h:Below w.heap.size w d:=a.below.below (fun b t=>absurd t tq);refine⟨a.defers,?_⟩;simp only[gF,uJ,oN]at c;split at c<;>try (cases c;done)
 rename_i u fr o i x;split at c<;>try (cases c;done)
 simp only[anf,Prod.mk.injEq]at c;obtain⟨rfl,_⟩:=c;obtain⟨v,l,m⟩:=wg (P:=P) q a i (a.aey fr);exact⟨v,l,v,rfl,h,m⟩
def Q3(P:Program)(b:Func)(c:Code)(f:RK)(J:(Nat->D)->(Nat->Option Row)->Nat->Prop):Prop:=∀(w0:World)(M:Nat->Prop)(s:St)(a:Act)(w:World),J s.t s.h s.e->Holds b.ntmps M none w0 s a w ->
 c.wp P (bodyPost P b fun e d=>∃v,e=.returned v∧Below w0.heap.size w0 d∧zm w0 d M (fun _=>False) v f) a w
def b6.front(m:km P T)(u:bN P Γ)(v:P.follows .mixedOrders=true){α β:Type}{A:kZ α}{F:α->Option β}{R:β->RK}{f:FuncId}{b:Func}{c:Code}{k:Nat}{J:β->(Nat->D)->(Nat->Option Row)->Nat->Prop}(o:P.funcs[f]? = some b)(p:b.body=some c)(d:(codeOk (oK k c)&&spine k c)=true)
  (y:(b.name == "runtime.NumGoroutine")=false∧b.body.isNone=false) (z:∀a,(A.ds a).length<=b.ntmps) (i:b.ntmps<=1000000) (h:∀a r,F a=some r->XK T Γ FU k b (A.ds a) (Cm T b.results.toList (R r,none) (J r))) (B:∀r,Q3 P b (FH k c) (R r) (J r)):b6 P f (dx A F R) where
 calls cg K rk out C:=by
  obtain⟨rfl,rfl,a,r,rfl,E,rfl⟩:=uV C;rw[anF]at d;intro w M L G e;obtain⟨N,g,x,s,H,j⟩:=h a r E;rw[p]at g;cases g;apply calls_of_wp o p;refine Gs m u v k c (cP none (A.ds a)) x s _ _ d.2 H d.1 (Va G e (z a) (by rw[gr];exact i)) ?_ ?_
  ·rintro rfl q t l;exact B r w M s q t j l
  ·intro I q t l;cases x with
   | normal=>exact absurd rfl I
   | exit n=>exact j.elim
   | ret=>exact M5 m l j
 callable:=⟨b,o,y⟩
end
end Go.Proofs.YtobnihfgnbnncaaGreat.Am
namespace Go.Proofs.YtobnihfgnbnncaaGreat.P
open Go.RowKit
structure aF where
 al:Int
 aa:(List Int)
structure an where
 bF:aF
 bJ:aF
structure um where
 bj:Int
 aY:Int
 aR:Int
 Po:ByteArray
structure fE where
 bg:Int
 aR:Int
structure ie where
 bj:Int
 aY:Int
 aR:Int
structure eL where
 aw:(List ie)
 aN:(List um)
 aM:(List (List an))
structure bl where
 ax:eL
 aX:(List fE)
 aC:(List Int)
structure aT where
 ak:(List Int)
 au:(List bl)
structure cN where
 dG:Int
 mf:Int
 gN:an
structure gK where
 aC:Int
 bf:(List cN)
structure gu where
 oS:Int
 iU:an
structure aJ where
 bG:an
 ct:(List gu)
def pq(b:(List Int)):Bd (Int) ((Int))
 | a =>
  if decide (a>0) then
   (P.idx b (IntKind.i64.wrap (a-1))).bind fun c =>
   if (c==0) then
    some (.inl (IntKind.i64.wrap (a-1)))
   else
    some (.inr a)
  else
   some (.inr a)
def fF(b:(List Int)):Option ((List Int)) :=
 (aO (pq b) (b.length:Int)).bind fun a =>
 (Hj b 0 a).bind fun c =>
 some c
def ef(b:Int)(c:(List Int)):Option (aF) :=
 (fF c).bind fun a =>
 if ((a.length:Int)==0) then
  some (aF.mk 0 ([]))
 else
  some (aF.mk b a)
def Ba:Bd (Int×(List Int)) (((List Int)))
 | (a,b) =>
  if decide (a>0) then
   (me 8 b [IntKind.i64.wrap (nR .and .u64 a 1048575)]).bind fun d =>
   (CZ .u64 a 20).bind fun c =>
   some (.inl (c,d))
  else
   some (.inr b)
def xJ(d:Int):Option (aF) :=
 (if decide (d<0) then
  some ((-1),IntKind.u64.wrap (0-(IntKind.u64.wrap d)))
 else
  some (1,IntKind.u64.wrap d)).bind fun q=>match q with
 | (a,b) =>
  (aO (Ba) (b,[])).bind fun c =>
  (ef a c).bind fun e =>
  some e
def tx(b:aF):Bd (Int) ((Unit)⊕(Bool))
 | a =>
  if decide (a<(b.aa.length:Int)) then
   (P.idx b.aa a).bind fun c =>
   if decide (c<0) then
    some (.inr (.inr false))
   else
    if decide (c>1048575) then
     some (.inr (.inr false))
    else
     some (.inl (IntKind.i64.wrap (a+1)))
  else
   some (.inr (.inl ()))
def dX(a:aF):Option (Bool) :=
 (aO (tx a) 0).bind fun q=>match q with
 | (.inl _) =>
  if ((a.aa.length:Int)==0) then
   some (a.al==0)
  else
   if (a.al==1) then
    (P.idx a.aa (IntKind.i64.wrap ((a.aa.length:Int)-1))).bind fun b =>
    some (b != 0)
   else
    if (a.al==(-1)) then
     (P.idx a.aa (IntKind.i64.wrap ((a.aa.length:Int)-1))).bind fun c =>
     some (c != 0)
    else
     some false
 | (.inr d) =>
  some d
def cy(a:(List Int)):Option (List Int):=me 8 [] a
def tw(a:aF):Option (aF) :=
 (dX a).bind fun b =>
 if (!b) then
  some (aF.mk 0 ([]))
 else
  (cy a.aa).bind fun c =>
  (ef (IntKind.i64.wrap (0-a.al)) c).bind fun d =>
  some d
def fV(a:Bool)(b:aF):Option (aF×Int) :=
 if (!a) then
  some ((aF.mk 0 ([])),1)
 else
  some (b,0)
def tT(a:Int):Option (Bool) :=
 some (a != a)
def iu(a:Int)(p1:Int):Option (Int) :=
 (tT a).bind fun c =>
 (tT p1).bind fun b =>
 if c then
  if b then
   some 0
  else
   some (-1)
 else
  if b then
   some 1
  else
   if decide (a<p1) then
    some (-1)
   else
    if decide (a>p1) then
     some 1
    else
     some 0
def pX(e:(List Int))(f:(List Int)):Bd (Int) ((Unit)⊕(Int))
 | a =>
  if decide (a>=0) then
   (P.idx e a).bind fun b =>
   (P.idx f a).bind fun c =>
   if (b != c) then
    (iu b c).bind fun d =>
    some (.inr (.inr d))
   else
    some (.inl (IntKind.i64.wrap (a-1)))
  else
   some (.inr (.inl ()))
def jb(a:(List Int))(b:(List Int)):Option (Int) :=
 if ((a.length:Int) != (b.length:Int)) then
  (iu (a.length:Int) (b.length:Int)).bind fun c =>
  some c
 else
  (aO (pX a b) (IntKind.i64.wrap ((a.length:Int)-1))).bind fun q=>match q with
  | (.inl _) =>
   some 0
  | (.inr d) =>
   some d
def tC(i:(List Int))(h:Int):Bd (Int×Int×(List Int)) ((Int×(List Int)))
 | (c,a,b) =>
  if decide (a>=0) then
   (LP .i64 c 20).bind fun d =>
   (P.idx i a).bind fun e =>
   (Ep .i64 (nR .or .i64 d e) h).bind fun f =>
   (P.idx b a).bind fun j =>
   (JE .i64 (nR .or .i64 d e) h).bind fun g =>
   some (.inl (g,IntKind.i64.wrap (a-1),(b.set (a).toNat f)))
  else
   some (.inr (c,b))
def q8(c:(List Int))(e:Int):Option ((List Int)×Int) :=
 (Ha 8 (c.length:Int) (c.length:Int) 0).bind fun f =>
 (aO (tC c e) (0,IntKind.i64.wrap ((c.length:Int)-1),f)).bind fun q=>match q with
 | (a,b) =>
  (fF b).bind fun d =>
  some (d,a)
def xP(i:(List Int))(b:Int)(e:Int):Bd (Int×Int×(List Int)) ((Int×(List Int)))
 | (c,a,d) =>
  if decide (a<(i.length:Int)) then
   (P.idx i a).bind fun f =>
   (P.idx d (IntKind.i64.wrap (b+a))).bind fun g =>
   (CZ .i64 (IntKind.i64.wrap ((IntKind.i64.wrap (g+(IntKind.i64.wrap (e*f))))+c)) 20).bind fun h =>
   some (.inl (h,IntKind.i64.wrap (a+1),(d.set (IntKind.i64.wrap (b+a)).toNat (nR .and .i64 (IntKind.i64.wrap ((IntKind.i64.wrap (g+(IntKind.i64.wrap (e*f))))+c)) 1048575))))
  else
   some (.inr (c,d))
def xO(h:(List Int))(e:(List Int)):Bd (Int×(List Int)) (((List Int)))
 | (a,c) =>
  if decide (a<(h.length:Int)) then
   (P.idx h a).bind fun f =>
   (aO (xP e a f) (0,0,c)).bind fun q=>match q with
   | (d,b) =>
    (P.idx b (IntKind.i64.wrap (a+(e.length:Int)))).bind fun g =>
    some (.inl (IntKind.i64.wrap (a+1),(b.set (IntKind.i64.wrap (a+(e.length:Int))).toNat (IntKind.i64.wrap (g+d)))))
  else
   some (.inr c)
def tz(b:(List Int))(c:(List Int)):Option ((List Int)) :=
 (Ha 8 (IntKind.i64.wrap ((b.length:Int)+(c.length:Int))) (IntKind.i64.wrap ((b.length:Int)+(c.length:Int))) 0).bind fun e =>
 (aO (xO b c) (0,e)).bind fun a =>
 (fF a).bind fun d =>
 some d
def oH(i:(List Int))(h:(List Int))(j:Int):Bd (Int×Int×(List Int)) ((Int×(List Int)))
 | (c,a,d) =>
  if decide (a<((i).length:Int)) then
   (P.idx d a).bind fun e =>
   (if decide (a<(h.length:Int)) then
    (P.idx h a).bind fun f =>
    some (IntKind.i64.wrap ((IntKind.i64.wrap (e-c))-(IntKind.i64.wrap (j*f))))
   else
    some (IntKind.i64.wrap (e-c))).bind fun b =>
   (CZ .i64 b 20).bind fun g =>
   some (.inl (IntKind.i64.wrap (0-g),IntKind.i64.wrap (a+1),(d.set (a).toNat (nR .and .i64 b 1048575))))
  else
   some (.inr (c,d))
def oI(i:(List Int))(e:(List Int)):Bd (Int×Int×(List Int)) (((List Int)))
 | (c,a,d) =>
  if decide (a<((e).length:Int)) then
   (P.idx d a).bind fun f =>
   (if decide (a<(i.length:Int)) then
    (P.idx i a).bind fun g =>
    some (IntKind.i64.wrap ((IntKind.i64.wrap (c+f))+g))
   else
    some (IntKind.i64.wrap (c+f))).bind fun b =>
   (CZ .i64 b 20).bind fun h =>
   some (.inl (h,IntKind.i64.wrap (a+1),(d.set (a).toNat (nR .and .i64 b 1048575))))
  else
   some (.inr d)
def uv(e:(List Int))(f:(List Int))(d:Int):Option ((List Int)×(Int)) :=
 (aO (oH e f d) (0,0,e)).bind fun q=>match q with
 | (b,a) =>
  if (b==0) then
   some (a,d)
  else
   (aO (oI f a) (0,0,a)).bind fun c =>
   some (c,IntKind.i64.wrap (d-1))
def iS(a:(List Int))(b:(List Int))(c:Int):Option ((List Int)×(Int)):=(uv a b c).bind fun r=>if r.1.length=a.length then some r else none
def Fb{a:(List Int)}{b:(List Int)}{c:Int}{r:(List Int)×(Int)}(h:iS a b c=some r):r.1.length=a.length:=by
 unfold iS at h;obtain⟨q,d,h⟩:=ae h;split at h
 ·cases h;assumption
 ·cases h
def xL(c:(List Int)):Bd (Int) ((Int))
 | a =>
  (P.idx c (IntKind.i64.wrap ((c.length:Int)-1))).bind fun b =>
  if decide ((IntKind.i64.wrap (b*a))<524288) then
   some (.inl (IntKind.i64.wrap (a*2)))
  else
   some (.inr a)
def xN(d:(List Int))(e:Int)(f:(List Int))(g:Int):Bd (Int×Int) ((Int))
 | (a,b) =>
  (if decide (a>=1048576) then
   some true
  else
   if decide (b<1048576) then
    (P.idx d (IntKind.i64.wrap (((d).length:Int)-2))).bind fun h =>
    (LP .i64 b 20).bind fun i =>
    (P.idx f (IntKind.i64.wrap ((IntKind.i64.wrap (e+((d).length:Int)))-2))).bind fun j =>
    some (decide ((IntKind.i64.wrap (a*h))>(nR .or .i64 i j)))
   else
    some false).bind fun c =>
  if c then
   some (.inl (IntKind.i64.wrap (a-1),IntKind.i64.wrap (b+g)))
  else
   some (.inr a)
def xM(b:(List Int)):Bd (Int×(List Int)×(List Int)) (((List Int)×(List Int)))
 | (a,c,d) =>
  if decide (a>=0) then
   (P.idx c (IntKind.i64.wrap (a+((b).length:Int)))).bind fun j =>
   (LP .i64 j 20).bind fun g =>
   (P.idx c (IntKind.i64.wrap ((IntKind.i64.wrap (a+((b).length:Int)))-1))).bind fun h =>
   (P.idx b (IntKind.i64.wrap (((b).length:Int)-1))).bind fun e =>
   (Ep .i64 (nR .or .i64 g h) e).bind fun k =>
   (JE .i64 (nR .or .i64 g h) e).bind fun l =>
   (aO (xN b a c e) (k,l)).bind fun f =>
   (Hj c a (IntKind.i64.wrap ((IntKind.i64.wrap (a+((b).length:Int)))+1))).bind fun m =>
   (iS m b f).bind fun i =>
   (P.idx d a).bind fun n =>
   some (.inl (IntKind.i64.wrap (a-1),(c.take (a).toNat++(i.1++c.drop (IntKind.i64.wrap ((IntKind.i64.wrap (a+((b).length:Int)))+1)).toNat)),(d.set (a).toNat i.2)))
  else
   some (.inr (c,d))
def xK(f:(List Int))(g:(List Int)):Option ((List Int)×(List Int)) :=
 (jb f g).bind fun p =>
 if decide (p<0) then
  (cy f).bind fun r =>
  some ([],r)
 else
  if ((g.length:Int)==1) then
   (P.idx g 0).bind fun s =>
   (q8 f s).bind fun o =>
   (fF ([o.2])).bind fun t =>
   some (o.1,t)
  else
   (aO (xL g) 1).bind fun a =>
   (tz f ([a])).bind fun j =>
   (me 8 j [0]).bind fun c =>
   (tz g ([a])).bind fun d =>
   (if (((c).length:Int)==(f.length:Int)) then
    (me 8 c [0]).bind fun k =>
    some k
   else
    some c).bind fun b =>
   (Ha 8 (IntKind.i64.wrap (((b).length:Int)-((d).length:Int))) (IntKind.i64.wrap (((b).length:Int)-((d).length:Int))) 0).bind fun h =>
   (aO (xM d) (IntKind.i64.wrap (((h).length:Int)-1),b,h)).bind fun q=>match q with
   | (i,e) =>
    (fF i).bind fun l =>
    (q8 l a).bind fun m =>
    (fF e).bind fun n =>
    some (n,m.1)
def uq:Bd ((List Int)×(List Int)) (((List Int)))
 | (b,a) =>
  if decide ((a.length:Int)>0) then
   (xK b a).bind fun c =>
   some (.inl (a,c.2))
  else
   some (.inr b)
def vD(g:aF)(h:aF):Option (aF×Int) :=
 (dX g).bind fun j =>
 (if (!j) then
  some true
 else
  (dX h).bind fun d =>
  some (!d)).bind fun a =>
 if a then
  (fV false (aF.mk 0 ([]))).bind fun i =>
  some (i.1,i.2)
 else
  (cy g.aa).bind fun k =>
  (aO (uq) (k,h.aa)).bind fun b =>
  (cy b).bind fun e =>
  (ef 1 e).bind fun f =>
  (fV true f).bind fun c =>
  some (c.1,c.2)
def uu(b:(List Int))(c:(List Int)):Bd (Int×Int×(List Int)) ((Int×(List Int)))
 | (e,a,f) =>
  if decide (a<(b.length:Int)) then
   (P.idx b a).bind fun g =>
   (if decide (a<(c.length:Int)) then
    (P.idx c a).bind fun h =>
    some (IntKind.i64.wrap ((IntKind.i64.wrap (e+g))+h))
   else
    some (IntKind.i64.wrap (e+g))).bind fun d =>
   (P.idx f a).bind fun j =>
   (CZ .i64 d 20).bind fun i =>
   some (.inl (i,IntKind.i64.wrap (a+1),(f.set (a).toNat (nR .and .i64 d 1048575))))
  else
   some (.inr (e,f))
def vE(e:(List Int))(f:(List Int)):Option ((List Int)) :=
 (if decide ((e.length:Int)<(f.length:Int)) then
  some (f,e)
 else
  some (e,f)).bind fun q=>match q with
 | (a,c) =>
  (Ha 8 (IntKind.i64.wrap ((a.length:Int)+1)) (IntKind.i64.wrap ((a.length:Int)+1)) 0).bind fun h =>
  (aO (uu a c) (0,0,h)).bind fun q=>match q with
  | (d,b) =>
   (P.idx b (a.length:Int)).bind fun i =>
   (fF (b.set ((a.length:Int)).toNat d)).bind fun g =>
   some g
def xQ(h:(List Int))(i:(List Int)):Bd (Int×Int×(List Int)) (((List Int)))
 | (d,a,c) =>
  if decide (a<((i).length:Int)) then
   (P.idx c a).bind fun e =>
   (if decide (a<(h.length:Int)) then
    (P.idx h a).bind fun f =>
    some (IntKind.i64.wrap ((IntKind.i64.wrap (e-d))-f))
   else
    some (IntKind.i64.wrap (e-d))).bind fun b =>
   (CZ .i64 b 20).bind fun g =>
   some (.inl (nR .and .i64 g 1,IntKind.i64.wrap (a+1),(c.set (a).toNat (nR .and .i64 b 1048575))))
  else
   some (.inr c)
def vF(d:(List Int))(e:(List Int)):Option ((List Int)) :=
 (cy d).bind fun c =>
 (aO (xQ e c) (0,0,c)).bind fun a =>
 (fF a).bind fun b =>
 some b
def tv(c:aF)(a:aF):Option (aF×aF×Int) :=
 (dX c).bind fun l =>
 (if (!l) then
  some true
 else
  (dX a).bind fun f =>
  some (!f)).bind fun d =>
 if d then
  some ((aF.mk 0 ([])),(aF.mk 0 ([])),1)
 else
  if (a.al==0) then
   some ((aF.mk 0 ([])),(aF.mk 0 ([])),15)
  else
   (xK c.aa a.aa).bind fun e =>
   (if decide ((IntKind.i64.wrap (c.al*a.al))<0) then
    some (decide ((e.2.length:Int)>0))
   else
    some false).bind fun b =>
   if b then
    (vE e.1 ([1])).bind fun m =>
    (ef (-1) m).bind fun g =>
    (vF a.aa e.2).bind fun h =>
    (ef a.al h).bind fun i =>
    some (g,i,0)
   else
    (ef (IntKind.i64.wrap (c.al*a.al)) e.1).bind fun j =>
    (ef c.al e.2).bind fun k =>
    some (j,k,0)
def p8(i:aF)(f:aF):Option (an×Int) :=
 (dX i).bind fun l =>
 (if (!l) then
  some true
 else
  (dX f).bind fun j =>
  some (!j)).bind fun e =>
 if e then
  some ((an.mk (aF.mk 0 ([])) (aF.mk 0 ([]))),1)
 else
  if (f.al==0) then
   some ((an.mk (aF.mk 0 ([])) (aF.mk 0 ([]))),15)
  else
   (if decide (f.al<0) then
    (tw i).bind fun g =>
    (tw f).bind fun h =>
    some (g.al,g.aa,h.al,h.aa)
   else
    some (i.al,i.aa,f.al,f.aa)).bind fun q=>match q with
   | (a,b,c,d) =>
    (vD (aF.mk a b) (aF.mk c d)).bind fun k =>
    (tv (aF.mk a b) k.1).bind fun m =>
    (tv (aF.mk c d) k.1).bind fun n =>
    some ((an.mk m.1 n.1),0)
def vK(b:Int)(c:Int):Option (an×Int) :=
 (xJ b).bind fun d =>
 (xJ c).bind fun e =>
 (p8 d e).bind fun a =>
 some (a.1,a.2)
def uS(a:Int)(b:Int):Option (an) :=
 (vK a b).bind fun c =>
 some c.1
def vM:Option (aT×(List (List an))) :=
 (uS 1 1).bind fun b =>
 (uS 1 2).bind fun c =>
 (uS 0 1).bind fun a =>
 (uS 30 1).bind fun d =>
 some ((aT.mk ([10,4]) ([(bl.mk (eL.mk ([(ie.mk 0 0 0),(ie.mk 1 0 0)]) ([(um.mk 0 0 0 (ByteArray.mk #[])),(um.mk 2 0 0 (ByteArray.mk #[104,101,97,116]))]) ([[b,c],[a,c]])) ([(fE.mk 1 2)]) ([0])),(bl.mk (eL.mk ([(ie.mk 1 0 0)]) ([(um.mk 0 0 0 (ByteArray.mk #[]))]) ([[b]])) ([(fE.mk 0 5)]) ([1]))])),[[d,a],[a]])
def fP(a:Int)(b:Int)(c:Int):Option (Bool) :=
 if decide (a>=b) then
  some (decide (a<=c))
 else
  some false
def iy(a:Int):Option (an) :=
 (xJ a).bind fun b =>
 (xJ 1).bind fun c =>
 some (an.mk b c)
def xI(f:aF):Bd (Int×Int) ((Int)⊕(Int×Bool))
 | (c,a) =>
  if decide (a<(f.aa.length:Int)) then
   (P.idx f.aa a).bind fun d =>
   (if (a==3) then
    some (decide (d>8))
   else
    some false).bind fun b =>
   if b then
    some (.inr (.inr (0,false)))
   else
    (LP .u64 (IntKind.u64.wrap d) (IntKind.i64.wrap (20*a))).bind fun e =>
    some (.inl (nR .or .u64 c e,IntKind.i64.wrap (a+1)))
  else
   some (.inr (.inl c))
def A8(d:aF):Option (Int×Bool) :=
 (dX d).bind fun e =>
 (if (!e) then
  some true
 else
  some (decide ((d.aa.length:Int)>4))).bind fun b =>
 if b then
  some (0,false)
 else
  (aO (xI d) (0,0)).bind fun q=>match q with
  | (.inl a) =>
   (if decide (d.al<0) then
    some (decide (a<=9223372036854775808))
   else
    some false).bind fun c =>
   if c then
    some (IntKind.i64.wrap (IntKind.u64.wrap (0-a)),true)
   else
    if decide (d.al>=0) then
     if decide (a<9223372036854775808) then
      some (IntKind.i64.wrap a,true)
     else
      some (0,false)
    else
     some (0,false)
  | (.inr f) =>
   some f
def xc(b:aF):Option (Bool) :=
 (A8 b).bind fun a =>
 if a.2 then
  some (a.1==1)
 else
  some false
def de(b:an):Option (Bool) :=
 (dX b.bF).bind fun d =>
 (if (!d) then
  some true
 else
  (dX b.bJ).bind fun e =>
  if (!e) then
   some true
  else
   some (b.bJ.al != 1)).bind fun a =>
 if a then
  some false
 else
  (vD b.bF b.bJ).bind fun c =>
  if (c.2==0) then
   (xc c.1).bind fun f =>
   some f
  else
   some false
def jk(a:an):Option (Int) :=
 (de a).bind fun b =>
 if (!b) then
  some 0
 else
  some a.bF.al
def A9(b:aF)(c:aF):Option (aF×Int) :=
 (dX b).bind fun g =>
 (if (!g) then
  some true
 else
  (dX c).bind fun d =>
  some (!d)).bind fun a =>
 if a then
  (fV false (aF.mk 0 ([]))).bind fun e =>
  some (e.1,e.2)
 else
  (tz b.aa c.aa).bind fun h =>
  (ef (IntKind.i64.wrap (b.al*c.al)) h).bind fun i =>
  (fV true i).bind fun f =>
  some (f.1,f.2)
def df(a:aF)(b:aF):Option (aF) :=
 (A9 a b).bind fun c =>
 some c.1
def Be(b:(List Int)):Bd (Int) ((Unit)⊕(Int))
 | a =>
  if decide (a<(b.length:Int)) then
   (P.idx b a).bind fun c =>
   if (c != 0) then
    some (.inr (.inr c))
   else
    some (.inl (IntKind.i64.wrap (a+1)))
  else
   some (.inr (.inl ()))
def zB(a:(List Int)):Option (Int) :=
 (aO (Be a) 0).bind fun q=>match q with
 | (.inl _) =>
  some 0
 | (.inr b) =>
  some b
def A7(a:aF)(b:aF):Option (aF×Int) :=
 (dX a).bind fun o =>
 (if (!o) then
  some true
 else
  (dX b).bind fun g =>
  some (!g)).bind fun c =>
 if c then
  (fV false (aF.mk 0 ([]))).bind fun n =>
  some (n.1,n.2)
 else
  if decide ((IntKind.i64.wrap (a.al*b.al))>=0) then
   (zB ([a.al,b.al])).bind fun p =>
   (vE a.aa b.aa).bind fun q =>
   (ef p q).bind fun h =>
   (fV true h).bind fun d =>
   some (d.1,d.2)
  else
   (jb a.aa b.aa).bind fun i =>
   if decide (i<0) then
    (vF b.aa a.aa).bind fun j =>
    (ef b.al j).bind fun k =>
    (fV true k).bind fun e =>
    some (e.1,e.2)
   else
    (vF a.aa b.aa).bind fun l =>
    (ef a.al l).bind fun m =>
    (fV true m).bind fun f =>
    some (f.1,f.2)
def oo(b:an)(c:an):Option (an×Int) :=
 (de b).bind fun f =>
 (if (!f) then
  some true
 else
  (de c).bind fun d =>
  some (!d)).bind fun a =>
 if a then
  some ((an.mk (aF.mk 0 ([])) (aF.mk 0 ([]))),1)
 else
  (df b.bF c.bJ).bind fun g =>
  (df c.bF b.bJ).bind fun h =>
  (A7 g h).bind fun i =>
  (df b.bJ c.bJ).bind fun j =>
  (p8 i.1 j).bind fun e =>
  some (e.1,e.2)
def tI(a:an)(b:an):Option (an) :=
 (oo a b).bind fun c =>
 some c.1
def po(b:aF)(c:aF):Option (Int) :=
 (dX b).bind fun d =>
 (if (!d) then
  some true
 else
  (dX c).bind fun e =>
  some (!e)).bind fun a =>
 if a then
  some 0
 else
  if (b.al != c.al) then
   (iu b.al c.al).bind fun f =>
   some f
  else
   (jb b.aa c.aa).bind fun g =>
   some (IntKind.i64.wrap (b.al*g))
def j9(b:an)(c:an):Option (Int) :=
 (de b).bind fun d =>
 (if (!d) then
  some true
 else
  (de c).bind fun e =>
  some (!e)).bind fun a =>
 if a then
  some 0
 else
  (df b.bF c.bJ).bind fun f =>
  (df c.bF b.bJ).bind fun g =>
  (po f g).bind fun h =>
  some h
def tJ(j:(List an)):Bd (Int×Int×(List Int)×Int×(List Int)) ((Int×(List Int)×Int×(List Int))⊕(Bool))
 | (f,a,b,c,d) =>
  if decide (f<(j.length:Int)) then
   (P.idx j f).bind fun g =>
   (de g).bind fun h =>
   if (!h) then
    some (.inr (.inr false))
   else
    (jk g).bind fun i =>
    if decide (i<0) then
     some (.inr (.inr false))
    else
     (tI (an.mk (aF.mk a b) (aF.mk c d)) g).bind fun e =>
     some (.inl (IntKind.i64.wrap (f+1),e.bF.al,e.bF.aa,e.bJ.al,e.bJ.aa))
  else
   some (.inr (.inl (a,b,c,d)))
def tX(h:(List an)):Option (Bool) :=
 (iy 0).bind fun e =>
 (aO (tJ h) (0,e.bF.al,e.bF.aa,e.bJ.al,e.bJ.aa)).bind fun q=>match q with
 | (.inl (a,b,c,d)) =>
  (iy 1).bind fun f =>
  (j9 (an.mk (aF.mk a b) (aF.mk c d)) f).bind fun g =>
  some (g==0)
 | (.inr i) =>
  some i
def nC(c:eL):Bd (Int) ((Unit)⊕(Bool))
 | a =>
  if decide (a<(c.aN.length:Int)) then
   (P.idx c.aN a).bind fun b =>
   (fP b.bj 0 3).bind fun d =>
   if (!d) then
    some (.inr (.inr false))
   else
    if decide (b.aY<0) then
     some (.inr (.inr false))
    else
     (P.idx c.aM a).bind fun e =>
     if ((e.length:Int) != (c.aw.length:Int)) then
      some (.inr (.inr false))
     else
      some (.inl (IntKind.i64.wrap (a+1)))
  else
   some (.inr (.inl ()))
def jm(f:eL)(c:Int):Bd (Int×(List an)) (((List an)))
 | (a,b) =>
  if decide (a<(f.aN.length:Int)) then
   (P.idx f.aM a).bind fun d =>
   (P.idx d c).bind fun e =>
   (P.idx b a).bind fun g =>
   some (.inl (IntKind.i64.wrap (a+1),(b.set (a).toNat e)))
  else
   some (.inr b)
def nD(b:eL):Bd (Int) ((Unit)⊕(Bool))
 | a =>
  if decide (a<(b.aw.length:Int)) then
   (P.idx b.aw a).bind fun c =>
   (Ha 64 (b.aN.length:Int) (b.aN.length:Int) (an.mk (aF.mk 0 ([])) (aF.mk 0 ([])))).bind fun e =>
   (aO (jm b a) (0,e)).bind fun d =>
   (fP c.bj 0 2).bind fun f =>
   if (!f) then
    some (.inr (.inr false))
   else
    if decide (c.aY<0) then
     some (.inr (.inr false))
    else
     (tX d).bind fun g =>
     if (!g) then
      some (.inr (.inr false))
     else
      some (.inl (IntKind.i64.wrap (a+1)))
  else
   some (.inr (.inl ()))
def lW(b:eL):Option (Bool) :=
 (if decide ((b.aw.length:Int)>100) then
  some true
 else
  if decide ((b.aN.length:Int)>100) then
   some true
  else
   some ((b.aM.length:Int) != (b.aN.length:Int))).bind fun a =>
 if a then
  some false
 else
  (aO (nC b) 0).bind fun q=>match q with
  | (.inl _) =>
   (aO (nD b) 0).bind fun q=>match q with
   | (.inl _) =>
    some true
   | (.inr rc) =>
    some rc
  | (.inr c) =>
   some c
def rE(a:fE)(b:Int):Option (Bool) :=
 (fP a.bg 0 (IntKind.i64.wrap (b-1))).bind fun c =>
 if (!c) then
  some true
 else
  (fP a.aR 1 1099511627776).bind fun d =>
  some (!d)
def rF(a:Int)(b:Int):Option (Bool) :=
 (fP a 0 (IntKind.i64.wrap (b-1))).bind fun c =>
 some (!c)
def sk(a:(List Int)):Option (List Int):=QI a
def dD(a:(List Int)):Option (List Int):=HB a
def ql(b:(List Int)):Bd (Int) ((Unit)⊕(Bool))
 | a =>
  if decide (a<((b).length:Int)) then
   (P.idx b a).bind fun c =>
   if (a != c) then
    some (.inr (.inr false))
   else
    some (.inl (IntKind.i64.wrap (a+1)))
  else
   some (.inr (.inl ()))
def mG(b:(List Int))(c:Int):Option (Bool) :=
 (sk b).bind fun d =>
 (dD d).bind fun a =>
 (aO (ql a) 0).bind fun q=>match q with
 | (.inl _) =>
  some (((a).length:Int)==c)
 | (.inr e) =>
  some e
def eh(c:(List fE))(b:Int):Bd (Int) ((Unit)⊕(Int))
 | a =>
  if decide (a<(c.length:Int)) then
   (P.idx c a).bind fun d =>
   (rE d b).bind fun e =>
   if e then
    some (.inr (.inr a))
   else
    some (.inl (IntKind.i64.wrap (a+1)))
  else
   some (.inr (.inl ()))
def dE(b:(List fE))(a:Int):Option (Int) :=
 (aO (eh b a) 0).bind fun q=>match q with
 | (.inl _) =>
  some (-1)
 | (.inr c) =>
  some c
def cG(b:(List fE))(a:Int):Option (Bool) :=
 (dE b a).bind fun c =>
 some (decide (c>=0))
def ej(c:(List Int))(b:Int):Bd (Int) ((Unit)⊕(Int))
 | a =>
  if decide (a<(c.length:Int)) then
   (P.idx c a).bind fun d =>
   (rF d b).bind fun e =>
   if e then
    some (.inr (.inr a))
   else
    some (.inl (IntKind.i64.wrap (a+1)))
  else
   some (.inr (.inl ()))
def dF(b:(List Int))(a:Int):Option (Int) :=
 (aO (ej b a) 0).bind fun q=>match q with
 | (.inl _) =>
  some (-1)
 | (.inr c) =>
  some c
def cH(b:(List Int))(a:Int):Option (Bool) :=
 (dF b a).bind fun c =>
 some (decide (c>=0))
def pB(e:bl):Bd (Int×(List Int)) (((List Int)))
 | (a,b) =>
  if decide (a<(e.ax.aw.length:Int)) then
   (P.idx e.ax.aw a).bind fun c =>
   if (c.bj==1) then
    (me 8 b [c.aY]).bind fun d =>
    some (.inl (IntKind.i64.wrap (a+1),d))
   else
    some (.inl (IntKind.i64.wrap (a+1),b))
  else
   some (.inr b)
def pC(e:bl):Bd (Int×(List Int)) (((List Int)))
 | (a,b) =>
  if decide (a<(e.ax.aN.length:Int)) then
   (P.idx e.ax.aN a).bind fun c =>
   if (c.bj==0) then
    (me 8 b [c.aY]).bind fun d =>
    some (.inl (IntKind.i64.wrap (a+1),d))
   else
    some (.inl (IntKind.i64.wrap (a+1),b))
  else
   some (.inr b)
def xg(a:bl)(h:Int):Option (Bool) :=
 (lW a.ax).bind fun i =>
 if (!i) then
  some false
 else
  (aO (pB a) (0,[])).bind fun b =>
  (aO (pC a) (0,[])).bind fun c =>
  (mG b (a.aX.length:Int)).bind fun d =>
  if d then
   (mG c (a.aC.length:Int)).bind fun e =>
   if e then
    (cG a.aX h).bind fun f =>
    if (!f) then
     (cH a.aC h).bind fun g =>
     some (!g)
    else
     some false
   else
    some false
  else
   some false
def nk(c:aT):Bd (Int) ((Unit)⊕(Int×Int))
 | a =>
  if decide (a<(c.ak.length:Int)) then
   (P.idx c.ak a).bind fun d =>
   (fP d 1 1099511627776).bind fun b =>
   if (!b) then
    some (.inr (.inr (3,a)))
   else
    some (.inl (IntKind.i64.wrap (a+1)))
  else
   some (.inr (.inl ()))
def np(c:bl):Bd (Int×(List Int)) (((List Int)))
 | (a,b) =>
  if decide (a<(c.aC.length:Int)) then
   (P.idx c.aC a).bind fun d =>
   (P.idx b d).bind fun e =>
   some (.inl (IntKind.i64.wrap (a+1),(b.set (d).toNat (IntKind.i64.wrap (e+1)))))
  else
   some (.inr b)
def ns(d:bl):Bd (Int×(List Int)) (((List Int)))
 | (a,c) =>
  if decide (a<(d.aX.length:Int)) then
   (P.idx d.aX a).bind fun b =>
   (P.idx c b.bg).bind fun e =>
   some (.inl (IntKind.i64.wrap (a+1),(c.set (b.bg).toNat (if 1099511627777<(IntKind.i64.wrap (e+b.aR)) then 1099511627777 else IntKind.i64.wrap (e+b.aR)))))
  else
   some (.inr c)
def lv(g:aT):Bd (Int×(List Int)×(List Int)) (((List Int)×(List Int))⊕(Int×Int))
 | (a,c,d) =>
  if decide (a<(g.au.length:Int)) then
   (P.idx g.au a).bind fun b =>
   (xg b (g.ak.length:Int)).bind fun h =>
   if (!h) then
    some (.inr (.inr (1,a)))
   else
    (aO (np b) (0,c)).bind fun e =>
    (aO (ns b) (0,d)).bind fun f =>
    some (.inl (IntKind.i64.wrap (a+1),e,f))
  else
   some (.inr (.inl (c,d)))
def nt(b:(List Int)):Bd (Int) ((Unit)⊕(Int×Int))
 | a =>
  if decide (a<((b).length:Int)) then
   (P.idx b a).bind fun c =>
   if (c==0) then
    some (.inr (.inr (21,a)))
   else
    if decide (c>1) then
     some (.inr (.inr (5,a)))
    else
     some (.inl (IntKind.i64.wrap (a+1)))
  else
   some (.inr (.inl ()))
def nw(d:aT)(b:(List Int)):Bd (Int) ((Unit)⊕(Int×Int))
 | a =>
  if decide (a<((b).length:Int)) then
   (P.idx b a).bind fun c =>
   (P.idx d.ak a).bind fun x76 =>
   if decide (c>x76) then
    some (.inr (.inr (25,a)))
   else
    some (.inl (IntKind.i64.wrap (a+1)))
  else
   some (.inr (.inl ()))
def pz(a:aT):Option (Int×Int) :=
 (if decide ((a.ak.length:Int)>2000) then
  some true
 else
  some (decide ((a.au.length:Int)>400))).bind fun b =>
 if b then
  some (6,0)
 else
  (aO (nk a) 0).bind fun q=>match q with
  | (.inl _) =>
   (Ha 8 (a.ak.length:Int) (a.ak.length:Int) 0).bind fun c =>
   (aO (lv a) (0,c,c)).bind fun q=>match q with
   | (.inl (d,e)) =>
    (aO (nt d) 0).bind fun q=>match q with
    | (.inl _) =>
     (aO (nw a e) 0).bind fun q=>match q with
     | (.inl _) =>
      some (0,0)
     | (.inr f) =>
      some f
    | (.inr g) =>
     some g
   | (.inr rc) =>
    some rc
  | (.inr h) =>
   some h
def og(g:eL)(f:(List an)):Bd (Int) ((Unit)⊕(Bool))
 | a =>
  if decide (a<(f.length:Int)) then
   (P.idx f a).bind fun b =>
   (de b).bind fun c =>
   if (!c) then
    some (.inr (.inr false))
   else
    (P.idx g.aw a).bind fun d =>
    if (d.bj==1) then
     (jk b).bind fun e =>
     if (e != 0) then
      some (.inr (.inr false))
     else
      some (.inl (IntKind.i64.wrap (a+1)))
    else
     some (.inl (IntKind.i64.wrap (a+1)))
  else
   some (.inr (.inl ()))
def q9(a:eL)(b:(List an)):Option (Bool) :=
 if ((b.length:Int) != (a.aw.length:Int)) then
  some false
 else
  (aO (og a b) 0).bind fun q=>match q with
  | (.inl _) =>
   some true
  | (.inr c) =>
   some c
def oe(a:an):Option (Bool) :=
 (jk a).bind fun b =>
 some (decide (b<0))
def eC(b:(List an)):Bd (Int) ((Unit)⊕(Int))
 | a =>
  if decide (a<(b.length:Int)) then
   (P.idx b a).bind fun c =>
   (oe c).bind fun d =>
   if d then
    some (.inr (.inr a))
   else
    some (.inl (IntKind.i64.wrap (a+1)))
  else
   some (.inr (.inl ()))
def dO(a:(List an)):Option (Int) :=
 (aO (eC a) 0).bind fun q=>match q with
 | (.inl _) =>
  some (-1)
 | (.inr b) =>
  some b
def cK(a:(List an)):Option (Bool) :=
 (dO a).bind fun b =>
 some (decide (b>=0))
def mz(d:aT)(e:(List (List an))):Bd (Int) ((Unit)⊕(Int))
 | a =>
  if decide (a<(d.au.length:Int)) then
   (P.idx d.au a).bind fun f =>
   (P.idx e a).bind fun b =>
   (q9 f.ax b).bind fun c =>
   if (!c) then
    some (.inr (.inr 1))
   else
    some (.inl (IntKind.i64.wrap (a+1)))
  else
   some (.inr (.inl ()))
def mA(d:(List (List an))):Bd (Int) ((Unit)⊕(Int))
 | a =>
  if decide (a<(d.length:Int)) then
   (P.idx d a).bind fun b =>
   (cK b).bind fun c =>
   if c then
    some (.inr (.inr 3))
   else
    some (.inl (IntKind.i64.wrap (a+1)))
  else
   some (.inr (.inl ()))
def my(b:aT)(a:(List (List an))):Option (Int) :=
 if ((a.length:Int) != (b.au.length:Int)) then
  some 1
 else
  (aO (mz b a) 0).bind fun q=>match q with
  | (.inl _) =>
   (aO (mA a) 0).bind fun q=>match q with
   | (.inl _) =>
    some 0
   | (.inr c) =>
    some c
  | (.inr d) =>
   some d
def p7(b:an)(c:an):Option (an×Int) :=
 (de b).bind fun e =>
 (if (!e) then
  some true
 else
  (de c).bind fun f =>
  some (!f)).bind fun a =>
 if a then
  some ((an.mk (aF.mk 0 ([])) (aF.mk 0 ([]))),1)
 else
  (df b.bF c.bF).bind fun g =>
  (df b.bJ c.bJ).bind fun h =>
  (p8 g h).bind fun d =>
  some (d.1,d.2)
def jl(g:bl)(e:Int)(c:fE)(j:an×Int):Bd (Int×(List ((Int×Int)×an))) (((List ((Int×Int)×an))))
 | (a,b) =>
  if decide (a<(g.ax.aN.length:Int)) then
   (P.idx g.ax.aN a).bind fun h =>
   (if (h.bj != 0) then
    some true
   else
    (P.idx g.ax.aM a).bind fun k =>
    (P.idx k e).bind fun l =>
    (jk l).bind fun m =>
    some (m==0)).bind fun f =>
   if f then
    some (.inl (IntKind.i64.wrap (a+1),b))
   else
    (P.idx g.aC h.aY).bind fun d =>
    (P.idx g.ax.aM a).bind fun n =>
    (P.idx n e).bind fun o =>
    (p7 j.1 o).bind fun i =>
    if qG b (c.bg,d) then
     (tI (an.mk ((ib (an.mk (aF.mk 0 ([])) (aF.mk 0 ([]))) b (c.bg,d)).bF) ((ib (an.mk (aF.mk 0 ([])) (aF.mk 0 ([]))) b (c.bg,d)).bJ)) i.1).bind fun p =>
     some (.inl (IntKind.i64.wrap (a+1),(u4 b (c.bg,d) p)))
    else
     some (.inl (IntKind.i64.wrap (a+1),(u4 b (c.bg,d) i.1)))
  else
   some (.inr b)
def kU(i:(List Int))(f:bl):Bd (Int×(List ((Int×Int)×an))) (((List ((Int×Int)×an))))
 | (a,b) =>
  if decide (a<(f.ax.aw.length:Int)) then
   (P.idx f.ax.aw a).bind fun d =>
   if (d.bj != 1) then
    some (.inl (IntKind.i64.wrap (a+1),b))
   else
    (P.idx f.aX d.aY).bind fun c =>
    (P.idx i c.bg).bind fun g =>
    (vK c.aR g).bind fun h =>
    (aO (jl f a c h) (0,b)).bind fun e =>
    some (.inl (IntKind.i64.wrap (a+1),e))
  else
   some (.inr b)
def kx(b:(List ((Int×Int)×an)))(c:(List Int))(d:bl):Option ((List ((Int×Int)×an))×(Unit)) :=
 (aO (kU c d) (0,b)).bind fun a =>
 some (a,())
def rD(a:cN)(b:cN):Option (Int) :=
 (iu a.dG b.dG).bind fun c =>
 (iu a.mf b.mf).bind fun d =>
 (zB ([c,d])).bind fun e =>
 some e
def Hu(p:Int)(m:List ((Int×Int)×an)):Option (gK×Int) :=
 if m.length<=8000∧(m.map (·.1)).Nodup then some (gK.mk p (te (mo cN.dG cN.mf) (m.map fun q=>cN.mk q.1.1 q.1.2 q.2)),0) else none
def tW(c:aT):Bd (Int×(List ((Int×Int)×an))) (((List ((Int×Int)×an))))
 | (a,b) =>
  if decide (a<(c.au.length:Int)) then
   (P.idx c.au a).bind fun e =>
   (kx b c.ak e).bind fun d =>
   some (.inl (IntKind.i64.wrap (a+1),d.1))
  else
   some (.inr b)
def CL(b:aT):Option (gK×Int) :=
 (pz b).bind fun c =>
 if (c.1 != 0) then
  some ((gK.mk 0 ([])),c.1)
 else
  (aO (tW b) (0,([]:(List ((Int×Int)×an))))).bind fun a =>
  if decide ((a.length:Int)>8000) then
   some ((gK.mk 0 ([])),6)
  else
   Hu (b.ak.length:Int) a
def lG(j:(List an))(i:(List an)):Bd (Int×Int×(List Int)×Int×(List Int)) ((Int×(List Int)×Int×(List Int)))
 | (a,b,c,d,e) =>
  if decide (a<(i.length:Int)) then
   (P.idx i a).bind fun k =>
   (P.idx j a).bind fun g =>
   (p7 g k).bind fun h =>
   (oo (an.mk (aF.mk b c) (aF.mk d e)) h.1).bind fun f =>
   some (.inl (IntKind.i64.wrap (a+1),f.1.bF.al,f.1.bF.aa,f.1.bJ.al,f.1.bJ.aa))
  else
   some (.inr (b,c,d,e))
def jY(f:(List an))(g:(List an)):Option (an) :=
 (iy 0).bind fun e =>
 (aO (lG f g) (0,e.bF.al,e.bF.aa,e.bJ.al,e.bJ.aa)).bind fun q=>match q with
 | (a,b,c,d) =>
  some (an.mk (aF.mk a b) (aF.mk c d))
def jS(j:(List (List an)))(d:Int)(b:bl):Bd (Int×(List an)) (((List an)))
 | (a,c) =>
  if decide (a<(b.ax.aN.length:Int)) then
   (P.idx b.ax.aN a).bind fun e =>
   if (e.bj==0) then
    (P.idx b.aC e.aY).bind fun f =>
    (P.idx b.ax.aM a).bind fun g =>
    (P.idx j d).bind fun h =>
    (jY g h).bind fun i =>
    (P.idx c f).bind fun k =>
    some (.inl (IntKind.i64.wrap (a+1),(c.set (f).toNat i)))
   else
    some (.inl (IntKind.i64.wrap (a+1),c))
  else
   some (.inr c)
def jR(e:aT)(f:(List (List an))):Bd (Int×(List an)) (((List an)))
 | (a,b) =>
  if decide (a<(e.au.length:Int)) then
   (P.idx e.au a).bind fun d =>
   (aO (jS f a d) (0,b)).bind fun c =>
   some (.inl (IntKind.i64.wrap (a+1),c))
  else
   some (.inr b)
def mX(b:aT)(c:(List (List an))):Option ((List an)) :=
 (Ha 64 (b.ak.length:Int) (b.ak.length:Int) (an.mk (aF.mk 0 ([])) (aF.mk 0 ([])))).bind fun d =>
 (aO (jR b c) (0,d)).bind fun a =>
 some a
def sB(c:an)(b:an):Option (an×Int) :=
 (de c).bind fun e =>
 (if (!e) then
  some true
 else
  (de b).bind fun f =>
  some (!f)).bind fun a =>
 if a then
  some ((an.mk (aF.mk 0 ([])) (aF.mk 0 ([]))),1)
 else
  (tw b.bF).bind fun g =>
  (oo c (an.mk g b.bJ)).bind fun d =>
  some (d.1,d.2)
def qh(c:(List an)):Bd (Int×(List an)) (((List an)))
 | (a,b) =>
  if decide (a<((c).length:Int)) then
   (iy 1).bind fun d =>
   (P.idx b a).bind fun e =>
   some (.inl (IntKind.i64.wrap (a+1),(b.set (a).toNat d)))
  else
   some (.inr b)
def qk(f:gK):Bd (Int×(List an)) (((List an)))
 | (a,b) =>
  if decide (a<(f.bf.length:Int)) then
   (P.idx f.bf a).bind fun c =>
   (P.idx b c.dG).bind fun d =>
   (sB d c.gN).bind fun e =>
   some (.inl (IntKind.i64.wrap (a+1),(b.set (c.dG).toNat e.1)))
  else
   some (.inr b)
def rG(c:gK):Option ((List an)) :=
 (Ha 64 c.aC c.aC (an.mk (aF.mk 0 ([])) (aF.mk 0 ([])))).bind fun d =>
 (aO (qh d) (0,d)).bind fun a =>
 (aO (qk c) (0,a)).bind fun b =>
 some b
def sJ(a:an):Option (Bool) :=
 (jk a).bind fun b =>
 some (decide (b<0))
def eR(b:(List an)):Bd (Int) ((Unit)⊕(Int))
 | a =>
  if decide (a<(b.length:Int)) then
   (P.idx b a).bind fun c =>
   (sJ c).bind fun d =>
   if d then
    some (.inr (.inr a))
   else
    some (.inl (IntKind.i64.wrap (a+1)))
  else
   some (.inr (.inl ()))
def ew(a:(List an)):Option (Int) :=
 (aO (eR a) 0).bind fun q=>match q with
 | (.inl _) =>
  some (-1)
 | (.inr b) =>
  some b
def cU(a:(List an)):Option (Bool) :=
 (ew a).bind fun b =>
 some (decide (b>=0))
def qg(d:gK):Bd (Int) ((Unit)⊕(Bool))
 | a =>
  if decide (a<(d.bf.length:Int)) then
   (P.idx d.bf a).bind fun b =>
   (fP b.dG 0 (IntKind.i64.wrap (d.aC-1))).bind fun e =>
   (if (!e) then
    some true
   else
    (fP b.mf 0 (IntKind.i64.wrap (d.aC-1))).bind fun f =>
    if (!f) then
     some true
    else
     (de b.gN).bind fun g =>
     if (!g) then
      some true
     else
      (jk b.gN).bind fun h =>
      some (decide (h<=0))).bind fun c =>
   if c then
    some (.inr (.inr false))
   else
    if decide (a>0) then
     (P.idx d.bf (IntKind.i64.wrap (a-1))).bind fun i =>
     (rD i b).bind fun j =>
     if decide (j>=0) then
      some (.inr (.inr false))
     else
      some (.inl (IntKind.i64.wrap (a+1)))
    else
     some (.inl (IntKind.i64.wrap (a+1)))
  else
   some (.inr (.inl ()))
def pA(b:gK):Option (Bool) :=
 (fP b.aC 0 2000).bind fun e =>
 (if (!e) then
  some true
 else
  some (decide ((b.bf.length:Int)>8000))).bind fun a =>
 if a then
  some false
 else
  (aO (qg b) 0).bind fun q=>match q with
  | (.inl _) =>
   (rG b).bind fun c =>
   (cU c).bind fun d =>
   some (!d)
  | (.inr f) =>
   some f
def lO(a:an):Option (Bool) :=
 (de a).bind fun b =>
 some (!b)
def dV(b:(List an)):Bd (Int) ((Unit)⊕(Int))
 | a =>
  if decide (a<(b.length:Int)) then
   (P.idx b a).bind fun c =>
   (lO c).bind fun d =>
   if d then
    some (.inr (.inr a))
   else
    some (.inl (IntKind.i64.wrap (a+1)))
  else
   some (.inr (.inl ()))
def du(a:(List an)):Option (Int) :=
 (aO (dV a) 0).bind fun q=>match q with
 | (.inl _) =>
  some (-1)
 | (.inr b) =>
  some b
def cX(a:(List an)):Option (Bool) :=
 (du a).bind fun b =>
 some (decide (b>=0))
def ji(a:(List an))(b:Int):Option (Bool) :=
 if ((a.length:Int)==b) then
  (cX a).bind fun c =>
  some (!c)
 else
  some false
def ny(f:gK):Bd (Int×(List (List Int))) (((List (List Int))))
 | (a,b) =>
  if decide (a<(f.bf.length:Int)) then
   (P.idx f.bf a).bind fun c =>
   (P.idx b c.mf).bind fun d =>
   (me 8 d [c.dG]).bind fun e =>
   some (.inl (IntKind.i64.wrap (a+1),(b.set (c.mf).toNat e)))
  else
   some (.inr b)
def nz(d:(List an)):Bd (Int×(List Int)×(List Int)) (((List Int)×(List Int)))
 | (a,b,c) =>
  if decide (a<(d.length:Int)) then
   (P.idx d a).bind fun e =>
   (P.idx b a).bind fun h =>
   (jk e).bind fun f =>
   if decide (f>0) then
    (P.idx (b.set (a).toNat (-1)) a).bind fun i =>
    (me 8 c [a]).bind fun g =>
    some (.inl (IntKind.i64.wrap (a+1),((b.set (a).toNat (-1)).set (a).toNat 0),g))
   else
    some (.inl (IntKind.i64.wrap (a+1),(b.set (a).toNat (-1)),c))
  else
   some (.inr (b,c))
def nB(f:Int)(e:(List Int)):Bd (Int×(List Int)×(List Int)) (((List Int)×(List Int)))
 | (a,b,c) =>
  if decide (a<((e).length:Int)) then
   (P.idx e a).bind fun d =>
   (P.idx b d).bind fun g =>
   if (g==(-1)) then
    (P.idx b f).bind fun h =>
    (me 8 c [d]).bind fun i =>
    some (.inl (IntKind.i64.wrap (a+1),(b.set (d).toNat (IntKind.i64.wrap (h+1))),i))
   else
    some (.inl (IntKind.i64.wrap (a+1),b,c))
  else
   some (.inr (b,c))
def nA(b:(List (List Int))):Bd ((List Int)×(List Int)) (((List Int)))
 | (c,a) =>
  if decide (((a).length:Int)>0) then
   (P.idx a 0).bind fun d =>
   (Hj a 1 (a.length:Int)).bind fun g =>
   (P.idx b d).bind fun h =>
   (aO (nB d h) (0,c,g)).bind fun q=>match q with
   | (e,f) =>
    some (.inl (e,f))
  else
   some (.inr c)
def kS(a:gK):Option ((List Int)) :=
 (pA a).bind fun h =>
 if (!h) then
  some ([])
 else
  (Ha 24 a.aC a.aC ([])).bind fun i =>
  (aO (ny a) (0,i)).bind fun b =>
  (Ha 8 a.aC a.aC 0).bind fun f =>
  (rG a).bind fun g =>
  (aO (nz g) (0,f,[])).bind fun q=>match q with
  | (c,d) =>
   (aO (nA b) (c,d)).bind fun e =>
   some e
def kT(d:(List Int)):Bd (Int×(List Int)) (((List Int)))
 | (a,b) =>
  if decide (a<(d.length:Int)) then
   (P.idx d a).bind fun e =>
   if (e==(-1)) then
    (me 8 b [a]).bind fun c =>
    some (.inl (IntKind.i64.wrap (a+1),c))
   else
    some (.inl (IntKind.i64.wrap (a+1),b))
  else
   some (.inr b)
def mF(b:gK):Option ((List Int)) :=
 (kS b).bind fun c =>
 (aO (kT c) (0,[])).bind fun a =>
 some a
def jD(e:(List an))(f:(List aJ)):Bd (Int×(List aJ)) (((List aJ)))
 | (a,b) =>
  if decide (a<((f).length:Int)) then
   (P.idx e a).bind fun c =>
   (P.idx b a).bind fun d =>
   some (.inl (IntKind.i64.wrap (a+1),(b.set (a).toNat (aJ.mk c d.ct))))
  else
   some (.inr b)
def jE(f:gK):Bd (Int×(List aJ)) (((List aJ)))
 | (a,b) =>
  if decide (a<(f.bf.length:Int)) then
   (P.idx f.bf a).bind fun c =>
   (P.idx b c.mf).bind fun d =>
   (me 72 d.ct [(gu.mk c.dG c.gN)]).bind fun e =>
   some (.inl (IntKind.i64.wrap (a+1),(b.set (c.mf).toNat (aJ.mk d.bG e))))
  else
   some (.inr b)
def eX(c:gK)(e:(List an)):Option ((List aJ)) :=
 (Ha 88 c.aC c.aC (aJ.mk (an.mk (aF.mk 0 ([])) (aF.mk 0 ([]))) ([]))).bind fun d =>
 (aO (jD e d) (0,d)).bind fun a =>
 (aO (jE c) (0,a)).bind fun b =>
 some b
def eH(a:gu)(b:Int):Option (Int) :=
 (iu a.oS b).bind fun c =>
 some c
def cB(f:(List gu))(g:Int):Bd (Int×Int) ((Int))
 | (b,a) =>
  if decide (b<a) then
   (CZ .u64 (IntKind.u64.wrap (IntKind.i64.wrap (b+a))) 1).bind fun c =>
   (P.idx f (IntKind.i64.wrap c)).bind fun d =>
   (eH d g).bind fun e =>
   if decide (e<0) then
    some (.inl (IntKind.i64.wrap ((IntKind.i64.wrap c)+1),a))
   else
    some (.inl (b,IntKind.i64.wrap c))
  else
   some (.inr b)
def bP(b:(List gu))(e:Int):Option (Int×Bool) :=
 (aO (cB b e) (0,(b.length:Int))).bind fun a =>
 if decide (a<(b.length:Int)) then
  (P.idx b a).bind fun c =>
  (eH c e).bind fun d =>
  some (a,(d==0))
 else
  some (a,false)
def dK(a:aJ)(c:Int):Option (aJ×(Int×Bool)) :=
 (bP a.ct c).bind fun b =>
 some (a,(b.1,b.2))
def jh(a:(List gu))(b c:Int):Option (List gu):=adn a b c
def sA(c:an)(b:an):Option (an×Int) :=
 (de c).bind fun e =>
 (if (!e) then
  some true
 else
  (de b).bind fun f =>
  some (!f)).bind fun a =>
 if a then
  some ((an.mk (aF.mk 0 ([])) (aF.mk 0 ([]))),1)
 else
  if (b.bF.al==0) then
   some ((an.mk (aF.mk 0 ([])) (aF.mk 0 ([]))),15)
  else
   (df c.bF b.bJ).bind fun g =>
   (df c.bJ b.bF).bind fun h =>
   (p8 g h).bind fun d =>
   some (d.1,d.2)
def fX(f:an×Int)(d:(List gu)):Bd (Int×(List gu)) (((List gu)))
 | (b,a) =>
  if decide (b<((d).length:Int)) then
   (P.idx a b).bind fun c =>
   (sA c.iU f.1).bind fun e =>
   some (.inl (IntKind.i64.wrap (b+1),(a.set (b).toNat (gu.mk c.oS e.1))))
  else
   some (.inr a)
def eV(f:aJ)(g:Int):Option (aJ×(Unit)) :=
 (dK f g).bind fun b =>
 if (!b.2.2) then
  some (b.1,())
 else
  (iy 1).bind fun h =>
  (P.idx b.1.ct b.2.1).bind fun i =>
  (sB h i.iU).bind fun e =>
  (jh b.1.ct b.2.1 (IntKind.i64.wrap (b.2.1+1))).bind fun c =>
  (sA b.1.bG e.1).bind fun d =>
  (aO (fX e c) (0,c)).bind fun a =>
  some ((aJ.mk d.1 a),())
def jF(a:an)(b:an)(c:an):Option (an) :=
 (p7 b c).bind fun d =>
 (oo a d.1).bind fun e =>
 some e.1
def fQ(f:aJ)(c:Int)(d:an):Option (aJ×(Unit)) :=
 (dK f c).bind fun a =>
 if a.2.2 then
  (P.idx a.1.ct a.2.1).bind fun e =>
  (iy 1).bind fun g =>
  (jF e.iU d g).bind fun h =>
  some ((aJ.mk a.1.bG (a.1.ct.set (a.2.1).toNat (gu.mk e.oS h))),())
 else
  (aeg 72 a.1.ct a.2.1 [(gu.mk c d)]).bind fun b =>
  some ((aJ.mk a.1.bG b),())
def gR(k:aJ)(l:gu):Bd (Int×Int×(List Int)×Int×(List Int)×(List gu)) ((Int×(List Int)×Int×(List Int)×(List gu)))
 | (a,b,c,d,e,f) =>
  if decide (a<(k.ct.length:Int)) then
   (P.idx k.ct a).bind fun h =>
   (iy 0).bind fun i =>
   (jF i l.iU h.iU).bind fun j =>
   (fQ (aJ.mk (an.mk (aF.mk b c) (aF.mk d e)) f) h.oS j).bind fun g =>
   some (.inl (IntKind.i64.wrap (a+1),g.1.bG.bF.al,g.1.bG.bF.aa,g.1.bG.bJ.al,g.1.bG.bJ.aa,g.1.ct))
  else
   some (.inr (b,c,d,e,f))
def fR(j:aJ)(k:Int)(h:aJ):Option (aJ×(Unit)) :=
 (dK j k).bind fun g =>
 if (!g.2.2) then
  some (g.1,())
 else
  (P.idx g.1.ct g.2.1).bind fun i =>
  (jh g.1.ct g.2.1 (IntKind.i64.wrap (g.2.1+1))).bind fun l =>
  (jF g.1.bG i.iU h.bG).bind fun a =>
  (aO (gR h i) (0,a.bF.al,a.bF.aa,a.bJ.al,a.bJ.aa,l)).bind fun q=>match q with
  | (b,c,d,e,f) =>
   some ((aJ.mk (an.mk (aF.mk b c) (aF.mk d e)) f),())
def pI(c:Int):Bd (Int×(List (Bool×aJ))) (((List (Bool×aJ))))
 | (b,a) =>
  if decide (b<((a).length:Int)) then
   (P.idx a b).bind fun d =>
   (P.idx a c).bind fun e =>
   (UX e).bind fun f =>
   (Uj d).bind fun g =>
   (fR g c f).bind fun h =>
   some (.inl (IntKind.i64.wrap (b+1),(a.set (b).toNat (false,h.1))))
  else
   some (.inr a)
def mQ(g:(List aJ)):Bd (Int×(List (Bool×aJ))) (((List (Bool×aJ))))
 | (a,b) =>
  if decide (a<((g).length:Int)) then
   (P.idx b a).bind fun d =>
   (Uj d).bind fun e =>
   (eV e a).bind fun f =>
   (aO (pI a) (IntKind.i64.wrap (a+1),(b.set (a).toNat (true,f.1)))).bind fun c =>
   some (.inl (IntKind.i64.wrap (a+1),c))
  else
   some (.inr b)
def sQ(i:(List an))(g:aJ):Bd (Int×Int×(List Int)×Int×(List Int)) ((Int×(List Int)×Int×(List Int)))
 | (e,a,b,c,d) =>
  if decide (e<(g.ct.length:Int)) then
   (P.idx g.ct e).bind fun h =>
   (P.idx i h.oS).bind fun j =>
   (jF (an.mk (aF.mk a b) (aF.mk c d)) h.iU j).bind fun f =>
   some (.inl (IntKind.i64.wrap (e+1),f.bF.al,f.bF.aa,f.bJ.al,f.bJ.aa))
  else
   some (.inr (a,b,c,d))
def mR(h:(List (Bool×aJ))):Bd (Int×(List an)) (((List an)))
 | (a,f) =>
  if decide (a>=0) then
   (P.idx h a).bind fun k =>
   (UX k).bind fun i =>
   (iy 0).bind fun j =>
   (jF i.bG j j).bind fun g =>
   (aO (sQ f i) (0,g.bF.al,g.bF.aa,g.bJ.al,g.bJ.aa)).bind fun q=>match q with
   | (b,c,d,e) =>
    (P.idx f a).bind fun l =>
    some (.inl (IntKind.i64.wrap (a-1),(f.set (a).toNat (an.mk (aF.mk b c) (aF.mk d e)))))
  else
   some (.inr f)
def lN(c:gK)(g:(List an)):Option ((List an)×Int) :=
 (pA c).bind fun i =>
 (if (!i) then
  some true
 else
  (ji g c.aC).bind fun e =>
  some (!e)).bind fun b =>
 if b then
  some ([],1)
 else
  (mF c).bind fun j =>
  if decide ((j.length:Int)>0) then
   some ([],24)
  else
   (eX c g).bind fun h =>
   (aO (mQ h) (0,(Nh h))).bind fun a =>
   (Ha 64 c.aC c.aC (an.mk (aF.mk 0 ([])) (aF.mk 0 ([])))).bind fun f =>
   (aO (mR a) (IntKind.i64.wrap (((a).length:Int)-1),f)).bind fun d =>
   some (d,0)
def ik(a:(List an)):Option (List an):=me 64 [] a
def ln(b:aT)(c:(List an))(a:Int)(d:Int):Option (an) :=
 (P.idx b.ak a).bind fun e =>
 (vK d e).bind fun f =>
 (P.idx c a).bind fun g =>
 (p7 f.1 g).bind fun h =>
 some h.1
def kK(g:aT)(h:(List an)×Int)(c:bl):Bd (Int×(List an)) (((List an)))
 | (a,b) =>
  if decide (a<(c.ax.aw.length:Int)) then
   (P.idx c.ax.aw a).bind fun d =>
   if (d.bj==1) then
    (P.idx c.aX d.aY).bind fun e =>
    (ln g h.1 e.bg e.aR).bind fun f =>
    (P.idx b a).bind fun i =>
    some (.inl (IntKind.i64.wrap (a+1),(b.set (a).toNat f)))
   else
    some (.inl (IntKind.i64.wrap (a+1),b))
  else
   some (.inr b)
def kL(d:bl)(c:(List an)):Bd (Int×(List an)) (((List an)))
 | (a,b) =>
  if decide (a<(d.ax.aM.length:Int)) then
   (P.idx d.ax.aM a).bind fun e =>
   (jY e c).bind fun f =>
   (me 64 b [f]).bind fun g =>
   some (.inl (IntKind.i64.wrap (a+1),g))
  else
   some (.inr b)
def jv(f:aT)(j:(List (List an)))(k:(List an)×Int):Bd (Int×(List (List an))) (((List (List an))))
 | (a,d) =>
  if decide (a<(f.au.length:Int)) then
   (P.idx f.au a).bind fun e =>
   (P.idx j a).bind fun g =>
   (ik g).bind fun h =>
   (aO (kK f k e) (0,h)).bind fun b =>
   (aO (kL e b) (0,[])).bind fun c =>
   (me 24 d [c]).bind fun i =>
   some (.inl (IntKind.i64.wrap (a+1),i))
  else
   some (.inr d)
def gM(a:aT)(d:(List (List an))):Option ((List (List an))×(List an)×Int) :=
 (pz a).bind fun f =>
 if (f.1 != 0) then
  some ([],[],f.1)
 else
  (my a d).bind fun g =>
  if (g != 0) then
   some ([],[],g)
  else
   (CL a).bind fun e =>
   if (e.2 != 0) then
    some ([],[],e.2)
   else
    (mX a d).bind fun h =>
    (lN e.1 h).bind fun c =>
    if (c.2 != 0) then
     some ([],[],c.2)
    else
     (aO (jv a d c) (0,[])).bind fun b =>
     some (b,c.1,0)
def od(a:an):Option (Bool) :=
 (de a).bind fun b =>
 some (!b)
def eB(b:(List an)):Bd (Int) ((Unit)⊕(Int))
 | a =>
  if decide (a<(b.length:Int)) then
   (P.idx b a).bind fun c =>
   (od c).bind fun d =>
   if d then
    some (.inr (.inr a))
   else
    some (.inl (IntKind.i64.wrap (a+1)))
  else
   some (.inr (.inl ()))
def dN(a:(List an)):Option (Int) :=
 (aO (eB a) 0).bind fun q=>match q with
 | (.inl _) =>
  some (-1)
 | (.inr b) =>
  some b
def cJ(a:(List an)):Option (Bool) :=
 (dN a).bind fun b =>
 some (decide (b>=0))
def kN(d:bl):Bd (Int×(List Int)) (((List Int)))
 | (a,b) =>
  if decide (a<(d.aX.length:Int)) then
   (P.idx d.aX a).bind fun c =>
   (P.idx b c.bg).bind fun e =>
   some (.inl (IntKind.i64.wrap (a+1),(b.set (c.bg).toNat (IntKind.i64.wrap (e-c.aR)))))
  else
   some (.inr b)
def kM(e:aT):Bd (Int×(List Int)) (((List Int)))
 | (a,b) =>
  if decide (a<(e.au.length:Int)) then
   (P.idx e.au a).bind fun d =>
   (aO (kN d) (0,b)).bind fun c =>
   some (.inl (IntKind.i64.wrap (a+1),c))
  else
   some (.inr b)
def kO(g:aT)(h:(List an))(b:(List Int)):Bd (Int×(List an)) (((List an)))
 | (a,c) =>
  if decide (a<((b).length:Int)) then
   (P.idx b a).bind fun d =>
   (ln g h a d).bind fun e =>
   (me 64 c [e]).bind fun f =>
   some (.inl (IntKind.i64.wrap (a+1),f))
  else
   some (.inr c)
def jc(c:aT)(e:(List an)):Option ((List an)) :=
 (pz c).bind fun g =>
 (if (g.1 != 0) then
  some true
 else
  if ((e.length:Int) != (c.ak.length:Int)) then
   some true
  else
   (cJ e).bind fun f =>
   some f).bind fun a =>
 if a then
  some ([])
 else
  (cy c.ak).bind fun h =>
  (aO (kM c) (0,h)).bind fun d =>
  (aO (kO c e d) (0,[])).bind fun b =>
  some b
def qv(c:aF)(d:aF):Bd (Int) ((Unit)⊕(Bool))
 | a =>
  if decide (a<(c.aa.length:Int)) then
   (P.idx c.aa a).bind fun e =>
   (P.idx d.aa a).bind fun b =>
   if (e != b) then
    some (.inr (.inr false))
   else
    some (.inl (IntKind.i64.wrap (a+1)))
  else
   some (.inr (.inl ()))
def mK(b:aF)(c:aF):Option (Bool) :=
 (if (b.al != c.al) then
  some true
 else
  some ((b.aa.length:Int) != (c.aa.length:Int))).bind fun a =>
 if a then
  some false
 else
  (aO (qv b c) 0).bind fun q=>match q with
  | (.inl _) =>
   some true
  | (.inr d) =>
   some d
def u9(a:an)(b:an):Option (Bool) :=
 (mK a.bF b.bF).bind fun c =>
 if c then
  (mK a.bJ b.bJ).bind fun d =>
  some d
 else
  some false
def we(d:(List an))(e:(List an)):Bd (Int) ((Unit)⊕(Bool))
 | a =>
  if decide (a<(d.length:Int)) then
   (P.idx d a).bind fun f =>
   (P.idx e a).bind fun b =>
   (u9 f b).bind fun c =>
   if (!c) then
    some (.inr (.inr false))
   else
    some (.inl (IntKind.i64.wrap (a+1)))
  else
   some (.inr (.inl ()))
def ox(a:(List an))(b:(List an)):Option (Bool) :=
 if ((a.length:Int) != (b.length:Int)) then
  some false
 else
  (aO (we a b) 0).bind fun q=>match q with
  | (.inl _) =>
   some true
  | (.inr c) =>
   some c
def Ag:Option (Bool) :=
 (vM).bind fun c =>
 (gM c.1 c.2).bind fun b =>
 (jc c.1 b.2.1).bind fun k =>
 (if (b.2.2 != 0) then
  some true
 else
  some ((b.1.length:Int) != 2)).bind fun a =>
 if a then
  some false
 else
  (uS 240 7).bind fun i =>
  (uS 120 7).bind fun j =>
  (ox b.2.1 ([i,j])).bind fun l =>
  if l then
   (P.idx b.1 0).bind fun d =>
   (uS 30 7).bind fun e =>
   (ox d ([i,e])).bind fun f =>
   if f then
    (uS 60 7).bind fun g =>
    (ox k ([j,g])).bind fun h =>
    some h
   else
    some false
  else
   some false
def yr(a:an)(b:Int):Option (Bool) :=
 if decide ((a.bF.aa.length:Int)<=b) then
  some (decide ((a.bJ.aa.length:Int)<=b))
 else
  some false
def fK(b:(List an)):Bd (Int) ((Unit)⊕(Bool))
 | a =>
  if decide (a<(b.length:Int)) then
   (P.idx b a).bind fun c =>
   (yr c 4).bind fun d =>
   if (!d) then
    some (.inr (.inr false))
   else
    some (.inl (IntKind.i64.wrap (a+1)))
  else
   some (.inr (.inl ()))
def qw(c:eL):Bd (Int) ((Unit)⊕(Bool))
 | a =>
  if decide (a<(c.aM.length:Int)) then
   (P.idx c.aM a).bind fun b =>
   if decide ((b.length:Int)>8) then
    some (.inr (.inr false))
   else
    (aO (fK b) 0).bind fun q=>match q with
    | (.inl _) =>
     some (.inl (IntKind.i64.wrap (a+1)))
    | (.inr rd) =>
     some (.inr (.inr rd))
  else
   some (.inr (.inl ()))
def mL(b:eL):Option (Bool) :=
 (if decide ((b.aw.length:Int)>5) then
  some true
 else
  if decide ((b.aN.length:Int)>5) then
   some true
  else
   some (decide ((b.aM.length:Int)>8))).bind fun a =>
 if a then
  some false
 else
  (aO (qw b) 0).bind fun q=>match q with
  | (.inl _) =>
   some true
  | (.inr c) =>
   some c
def yv(d:aT):Bd (Int) ((Unit)⊕(Bool))
 | a =>
  if decide (a<(d.au.length:Int)) then
   (P.idx d.au a).bind fun b =>
   (mL b.ax).bind fun c =>
   if (!c) then
    some (.inr (.inr false))
   else
    if decide ((b.aX.length:Int)>6) then
     some (.inr (.inr false))
    else
     if decide ((b.aC.length:Int)>6) then
      some (.inr (.inr false))
     else
      some (.inl (IntKind.i64.wrap (a+1)))
  else
   some (.inr (.inl ()))
def Bq(b:aT):Option (Bool) :=
 (if decide ((b.ak.length:Int)>6) then
  some true
 else
  some (decide ((b.au.length:Int)>5))).bind fun a =>
 if a then
  some false
 else
  (aO (yv b) 0).bind fun q=>match q with
  | (.inl _) =>
   some true
  | (.inr c) =>
   some c
def rJ(b:(List an)):Bd (Int) ((Unit)⊕(Bool))
 | a =>
  if decide (a<(b.length:Int)) then
   (P.idx b a).bind fun c =>
   (yr c 3).bind fun d =>
   if (!d) then
    some (.inr (.inr false))
   else
    some (.inl (IntKind.i64.wrap (a+1)))
  else
   some (.inr (.inl ()))
def va(d:(List (List an))):Bd (Int) ((Unit)⊕(Bool))
 | a =>
  (if decide (a<(d.length:Int)) then
   some (decide (a<9))
  else
   some false).bind fun b =>
  if b then
   (P.idx d a).bind fun c =>
   if decide ((c.length:Int)>8) then
    some (.inr (.inr false))
   else
    (aO (rJ c) 0).bind fun q=>match q with
    | (.inl _) =>
     some (.inl (IntKind.i64.wrap (a+1)))
    | (.inr e) =>
     some (.inr (.inr e))
  else
   some (.inr (.inl ()))
def Br(a:(List (List an))):Option (Bool) :=
 (aO (va a) 0).bind fun q=>match q with
 | (.inl _) =>
  some (decide ((a.length:Int)<=8))
 | (.inr b) =>
  some b
def oP(b:(List Int))(c:(List Int)):Bd (Int) ((Unit)⊕(Bool))
 | a =>
  if decide (a<(b.length:Int)) then
   (P.idx b a).bind fun d =>
   (P.idx c a).bind fun e =>
   if (d != e) then
    some (.inr (.inr false))
   else
    some (.inl (IntKind.i64.wrap (a+1)))
  else
   some (.inr (.inl ()))
def nJ(a:(List Int))(b:(List Int)):Option (Bool) :=
 if ((a.length:Int) != (b.length:Int)) then
  some false
 else
  (aO (oP a b) 0).bind fun q=>match q with
  | (.inl _) =>
   some true
  | (.inr c) =>
   some c
def ur(a:aF)(b:aF):Option (Bool) :=
 if (a.al==b.al) then
  (nJ a.aa b.aa).bind fun c =>
  some c
 else
  some false
def tV(a:an)(b:an):Option (Bool) :=
 (ur a.bF b.bF).bind fun c =>
 if c then
  (ur a.bJ b.bJ).bind fun d =>
  some d
 else
  some false
def Az(b:(List Int)):Bd (Int) ((Int))
 | a =>
  if decide (a>0) then
   (P.idx b (IntKind.i64.wrap (a-1))).bind fun c =>
   if (c==0) then
    some (.inl (IntKind.i64.wrap (a-1)))
   else
    some (.inr a)
  else
   some (.inr a)
def kf(b:(List Int)):Option ((List Int)) :=
 (aO (Az b) (b.length:Int)).bind fun a =>
 (Hj b 0 a).bind fun c =>
 (me 8 [] c).bind fun _ =>
 some c
def gQ(b:Int)(c:(List Int)):Option (aF) :=
 (kf c).bind fun a =>
 if ((a.length:Int)==0) then
  some (aF.mk 0 ([]))
 else
  some (aF.mk b a)
def Bp:Bd (Int×(List Int)) (((List Int)))
 | (a,b) =>
  if (a != 0) then
   (JE .i64 a 1048576).bind fun c =>
   if decide (c<0) then
    (me 8 b [IntKind.i64.wrap (0-c)]).bind fun d =>
    (Ep .i64 a 1048576).bind fun e =>
    some (.inl (e,d))
   else
    (me 8 b [c]).bind fun f =>
    (Ep .i64 a 1048576).bind fun g =>
    some (.inl (g,f))
  else
   some (.inr b)
def Ax(c:Int):Option (aF) :=
 if (c==0) then
  some (aF.mk 0 ([]))
 else
  (if decide (c<0) then
   some (-1)
  else
   some 1).bind fun a =>
  (aO (Bp) (c,[])).bind fun b =>
  (gQ a b).bind fun d =>
  some d
def tN(b:aF):Bd (Int) ((Unit)⊕(Bool))
 | a =>
  if decide (a<(b.aa.length:Int)) then
   (P.idx b.aa a).bind fun c =>
   if decide (c<0) then
    some (.inr (.inr false))
   else
    if decide (c>=1048576) then
     some (.inr (.inr false))
    else
     some (.inl (IntKind.i64.wrap (a+1)))
  else
   some (.inr (.inl ()))
def eG(a:aF):Option (Bool) :=
 (aO (tN a) 0).bind fun q=>match q with
 | (.inl _) =>
  (if decide (a.al<(-1)) then
   some true
  else
   if decide (a.al>1) then
    some true
   else
    some (!(((a.aa.length:Int)==0)==(a.al==0)))).bind fun b =>
  if b then
   some false
  else
   if ((a.aa.length:Int)==0) then
    some true
   else
    (P.idx a.aa (IntKind.i64.wrap ((a.aa.length:Int)-1))).bind fun c =>
    some (c != 0)
 | (.inr d) =>
  some d
def yo(a:aF):Option (aF) :=
 (eG a).bind fun b =>
 if (!b) then
  some (aF.mk 0 ([]))
 else
  (gQ (IntKind.i64.wrap (0-a.al)) a.aa).bind fun c =>
  some c
def kV(a:(List Int))(b:Int):Option (Int) :=
 if decide (b<(a.length:Int)) then
  (P.idx a b).bind fun c =>
  some c
 else
  some 0
def tQ(l:(List Int))(k:(List Int))(b:Int):Bd (Int×Int×(List Int)) (((List Int)))
 | (c,a,d) =>
  (if decide (a<(k.length:Int)) then
   some true
  else
   some (decide (c>0))).bind fun e =>
  if e then
   (P.idx d (IntKind.i64.wrap (b+a))).bind fun f =>
   (P.idx l b).bind fun g =>
   (kV k a).bind fun h =>
   (JE .i64 (IntKind.i64.wrap ((IntKind.i64.wrap (f+(IntKind.i64.wrap (g*h))))+c)) 1048576).bind fun i =>
   (Ep .i64 (IntKind.i64.wrap ((IntKind.i64.wrap (f+(IntKind.i64.wrap (g*h))))+c)) 1048576).bind fun j =>
   some (.inl (j,IntKind.i64.wrap (a+1),(d.set (IntKind.i64.wrap (b+a)).toNat i)))
  else
   some (.inr d)
def tP(d:(List Int))(e:(List Int)):Bd (Int×(List Int)) (((List Int)))
 | (a,b) =>
  if decide (a<(d.length:Int)) then
   (aO (tQ d e a) (0,0,b)).bind fun c =>
   some (.inl (IntKind.i64.wrap (a+1),c))
  else
   some (.inr b)
def nH(b:(List Int))(c:(List Int)):Option ((List Int)) :=
 (Ha 8 (IntKind.i64.wrap ((b.length:Int)+(c.length:Int))) (IntKind.i64.wrap ((b.length:Int)+(c.length:Int))) 0).bind fun e =>
 (aO (tP b c) (0,e)).bind fun a =>
 (kf a).bind fun d =>
 some d
def v8(d:(List Int))(e:(List Int)):Bd (Int) ((Unit)⊕(Bool))
 | a =>
  if decide (a>=0) then
   (kV d a).bind fun b =>
   (kV e a).bind fun c =>
   if (b != c) then
    some (.inr (.inr (decide (b<c))))
   else
    some (.inl (IntKind.i64.wrap (a-1)))
  else
   some (.inr (.inl ()))
def sM(a:(List Int))(b:(List Int)):Option (Bool) :=
 (aO (v8 a b) (IntKind.i64.wrap ((if (b.length:Int)>(a.length:Int) then (b.length:Int) else (a.length:Int))-1))).bind fun q=>match q with
 | (.inl _) =>
  some false
 | (.inr c) =>
  some c
def tO(h:(List Int))(i:(List Int)):Bd (Int×Int×(List Int)) (((List Int)))
 | (b,a,c) =>
  if decide (a<(h.length:Int)) then
   (P.idx h a).bind fun d =>
   (kV i a).bind fun e =>
   if decide ((IntKind.i64.wrap ((IntKind.i64.wrap (d-e))-b))<0) then
    (me 8 c [IntKind.i64.wrap ((IntKind.i64.wrap ((IntKind.i64.wrap (d-e))-b))+1048576)]).bind fun f =>
    some (.inl (1,IntKind.i64.wrap (a+1),f))
   else
    (me 8 c [IntKind.i64.wrap ((IntKind.i64.wrap (d-e))-b)]).bind fun g =>
    some (.inl (0,IntKind.i64.wrap (a+1),g))
  else
   some (.inr c)
def nG(c:(List Int))(d:(List Int)):Option ((List Int)) :=
 (aO (tO c d) (0,0,[])).bind fun a =>
 (kf a).bind fun b =>
 some b
def sO(g:(List Int))(d:(List Int)):Bd (Int×Int) ((Int))
 | (b,a) =>
  if decide ((IntKind.i64.wrap (a-b))>1) then
   (Ep .i64 (IntKind.i64.wrap (b+a)) 2).bind fun c =>
   (nH g ([c])).bind fun e =>
   (sM d e).bind fun f =>
   if f then
    some (.inl (b,c))
   else
    some (.inl (c,a))
  else
   some (.inr b)
def wa(l:(List Int))(k:(List Int)):Bd ((List Int)×Int×(List Int)) (((List Int)×(List Int)))
 | (d,a,c) =>
  if decide (a>=0) then
   (P.idx l a).bind fun f =>
   (me 8 [f] d).bind fun g =>
   (kf g).bind fun e =>
   (aO (sO k e) (0,1048576)).bind fun b =>
   (P.idx c a).bind fun m =>
   (kf ([b])).bind fun h =>
   (nH k h).bind fun i =>
   (nG e i).bind fun j =>
   some (.inl (j,IntKind.i64.wrap (a-1),(c.set (a).toNat b)))
  else
   some (.inr (d,c))
def u7(c:(List Int))(e:(List Int)):Option ((List Int)×(List Int)) :=
 (Ha 8 (c.length:Int) (c.length:Int) 0).bind fun f =>
 (aO (wa c e) ([],IntKind.i64.wrap ((c.length:Int)-1),f)).bind fun q=>match q with
 | (a,b) =>
  (kf b).bind fun d =>
  some (d,a)
def u6:Bd ((List Int)×(List Int)) (((List Int)))
 | (b,a) =>
  if decide ((a.length:Int)>0) then
   (u7 b a).bind fun c =>
   some (.inl (a,c.2))
  else
   some (.inr b)
def v7(d:aF)(e:aF):Option (aF×Int) :=
 (eG d).bind fun f =>
 (if (!f) then
  some true
 else
  (eG e).bind fun c =>
  some (!c)).bind fun a =>
 if a then
  some ((aF.mk 0 ([])),1)
 else
  (aO (u6) (d.aa,e.aa)).bind fun b =>
  (gQ 1 b).bind fun g =>
  some (g,0)
def wb(j:(List Int))(k:(List Int)):Bd (Int×Int×(List Int)) (((List Int)))
 | (b,a,d) =>
  (if decide (a<(j.length:Int)) then
   some true
  else
   if decide (a<(k.length:Int)) then
    some true
   else
    some (decide (b>0))).bind fun c =>
  if c then
   (kV j a).bind fun e =>
   (kV k a).bind fun f =>
   (JE .i64 (IntKind.i64.wrap ((IntKind.i64.wrap (e+f))+b)) 1048576).bind fun g =>
   (me 8 d [g]).bind fun h =>
   (Ep .i64 (IntKind.i64.wrap ((IntKind.i64.wrap (e+f))+b)) 1048576).bind fun i =>
   some (.inl (i,IntKind.i64.wrap (a+1),h))
  else
   some (.inr d)
def sP(c:(List Int))(d:(List Int)):Option ((List Int)) :=
 (aO (wb c d) (0,0,[])).bind fun a =>
 (kf a).bind fun b =>
 some b
def tM(d:aF)(a:aF):Option (aF×aF×Int) :=
 (eG d).bind fun k =>
 (if (!k) then
  some true
 else
  (eG a).bind fun f =>
  some (!f)).bind fun b =>
 if b then
  some ((aF.mk 0 ([])),(aF.mk 0 ([])),1)
 else
  if (a.al==0) then
   some ((aF.mk 0 ([])),(aF.mk 0 ([])),15)
  else
   (u7 d.aa a.aa).bind fun e =>
   (if decide ((IntKind.i64.wrap (d.al*a.al))>=0) then
    some true
   else
    some ((e.2.length:Int)==0)).bind fun c =>
   if c then
    (gQ (IntKind.i64.wrap (d.al*a.al)) e.1).bind fun l =>
    (gQ d.al e.2).bind fun m =>
    some (l,m,0)
   else
    (sP e.1 ([1])).bind fun g =>
    (gQ (-1) g).bind fun h =>
    (nG a.aa e.2).bind fun i =>
    (gQ a.al i).bind fun j =>
    some (h,j,0)
end Go.Proofs.YtobnihfgnbnncaaGreat.P
