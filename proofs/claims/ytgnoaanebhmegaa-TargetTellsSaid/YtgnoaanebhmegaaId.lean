import Derived.Test.YtgnoaanebhmegaaIc
set_option linter.unusedSimpArgs false
set_option linter.unusedVariables false
noncomputable section
open Go.Proofs.Try
namespace Go.Proofs.Ytgnoaanebhmegaa.Am
open Go.RowKit Go.Proofs.Ytgnoaanebhmegaa.P
structure iS (α:Type) where
 cells:α->List D
 size:Nat
 len:∀x,(cells x).length=size
 pos:0<size
 inj:∀x y,cells x=cells y->x=y
def ae {α:Type} (e:iS α):List α->List D
 | []=>[]
 | x::l=>e.cells x++ae e l
section
variable {α β:Type} (e:iS α)
theorem so:ae e []=[]:=rfl
theorem aK (x:α) (l:List α):ae e (x::l)=e.cells x++ae e l:=rfl
theorem gi:∀l m:List α,ae e (l++m)=ae e l++ae e m
 | [],m=>rfl
 | x::l,m=>by rw[Xy,aK,aK,gi l m,W0]
theorem bR:∀l:List α,(ae e l).length=l.length*e.size
 | []=>by simp[ae]
 | x::l=>by rw[aK,WN,bR l,e.len,V6,WC];omega
theorem p5:∀(l:List α) (i:Nat),(ae e l).drop (i*e.size)=ae e (l.drop i)
 | l,0=>by simp
 | [],i+1=>by simp[ae]
 | x::l,i+1=>by
  rw[aK,Xz,<- p5 l i,Xq,e.len,Xr (by rw[e.len,WC];omega),Xo];congr 1;rw[WC];omega
theorem mG:∀(l:List α) (i:Nat),(ae e l).take (i*e.size)=ae e (l.take i)
 | l,0=>by simp[ae]
 | [],i+1=>by simp[ae]
 | x::l,i+1=>by
  rw[aK,XA,aK,W3,e.len,W5 (by rw[e.len,WC];omega),<- mG l i];congr 2;rw[WC];omega
theorem sk:∀l m:List α,ae e l=ae e m->l=m
 | [],[],_=>rfl
 | [],y::m,h=>by
  have:=congrArg List.length h;have O:=e.pos;rw[aK,WN,e.len]at this;simp[ae]at this;omega
 | x::l,[],h=>by
  have:=congrArg List.length h;have O:=e.pos;rw[aK,WN,e.len]at this;simp[ae]at this;omega
 | x::l,y::m,h=>by
  rw[aK,aK]at h;obtain⟨h1,h2⟩:=List.append_inj h (by rw[e.len,e.len]);rw[e.inj _ _ h1,sk l m h2]
theorem EZ:∀(n:Nat) (x:α),jK n (e.cells x)=ae e (List.replicate n x)
 | 0,x=>by simp[jK,ae]
 | n+1,x=>by rw[WA,aK,<- EZ n x];simp[jK,List.replicate_succ]
end
def eI (k:IntKind):iS Int:=⟨fun n=>[.int k n],1,fun _=>rfl,by decide,fun x y h=>by simpa using h⟩
def Rm:iS Bool:=⟨fun n=>[.bool n],1,fun _=>rfl,by decide,fun x y h=>by simpa using h⟩
def Ta:iS ByteArray:=⟨fun n=>[.str n],1,fun _=>rfl,by decide,fun x y h=>by simpa using h⟩
def dp {α:Type} (e:iS α):iS (List α):=⟨fun l=>[.sl false false l.length (ae e l)],1,fun _=>rfl,by decide,fun x y h=>by
 simp only[V4,D.sl.injEq,true_and,and_true]at h;exact sk e _ _ h.2⟩
def Ke {α β:Type} (e:iS α) (f:iS β):iS (α×β):=⟨fun x=>e.cells x.1++f.cells x.2,e.size+f.size,fun x=>by rw[WN,e.len,f.len],VJ e.pos (Nat.le_add_right _ _),fun x y h=>by
 obtain⟨h1,h2⟩:=List.append_inj h (by rw[e.len,e.len]);exact Prod.ext (e.inj _ _ h1) (f.inj _ _ h2)⟩
def Qx {α β:Type} (e:iS β) (f:α->β) (hf:∀x y,f x=f y->x=y):iS α:=⟨fun x=>e.cells (f x),e.size,fun x=>e.len _,e.pos,fun x y h=>hf _ _ (e.inj _ _ h)⟩
structure Arg (α:Type) where
 d:α->D
 inj:∀x y,d x=d y->x=y
def aI (k:IntKind):Arg Int:=⟨fun n =>.int k n,fun x y h=>by simpa using h⟩
def Rf:Arg Bool:=⟨fun n =>.bool n,fun x y h=>by simpa using h⟩
def UD:Arg ByteArray:=⟨fun n =>.str n,fun x y h=>by simpa using h⟩
def gf {α:Type} (e:iS α):Arg (List α):=⟨fun l =>.sl false false l.length (ae e l),fun x y h=>by
 simp only[D.sl.injEq,true_and]at h;exact sk e _ _ h.2⟩
def dm {α:Type} (e:iS α):Arg α:=⟨fun x =>.agg (e.cells x),fun x y h=>e.inj _ _ (by simpa using h)⟩
theorem S4 (k:IntKind) (n:Int):(aI k).d n=.int k n:=Yc
theorem Jy (n:Bool):Rf.d n=.bool n:=Yc
theorem Nd (n:ByteArray):UD.d n=.str n:=Yc
theorem Ri {α:Type} (e:iS α) (l:List α):(gf e).d l=.sl false false l.length (ae e l):=Yc
theorem Nb {α:Type} (e:iS α) (x:α):(dm e).d x=.agg (e.cells x):=Yc
theorem sh (k:IntKind) (n:Int):(eI k).cells n=[.int k n]:=Yc
theorem uz (n:Bool):Rm.cells n=[.bool n]:=Yc
theorem xb (n:ByteArray):Ta.cells n=[.str n]:=Yc
theorem tk {α:Type} (e:iS α) (l:List α):(dp e).cells l=[.sl false false l.length (ae e l)]:=Yc
structure fX (α:Type) where
 ds:α->List D
 inj:∀x y,ds x=ds y->x=y
def Uo:fX Unit:=⟨fun _=>[],fun _ _ _=>rfl⟩
def ee {α:Type} (a:Arg α):fX α:=⟨fun x=>[a.d x],fun x y h=>a.inj _ _ (by simpa using h)⟩
def gg {α β:Type} (a:Arg α) (b:fX β):fX (α×β):=⟨fun x=>a.d x.1::b.ds x.2,fun x y h=>by
 simp only[V4]at h;exact Prod.ext (a.inj _ _ h.1) (b.inj _ _ h.2)⟩
def dR {α β:Type} (A:fX α) (F:α->Option β) (R:β->RK):Option (D×Row)->List D->Option (RK×Option Row):=fun lent ds =>
 match lent with
 | none=>open Classical in if h:∃a,A.ds a=ds then (F (Classical.choose h)).map fun r=>(R r,none) else none
 | some _=>none
theorem b6 {α β:Type} (A:fX α) (F:α->Option β) (R:β->RK) (a:α):dR A F R none (A.ds a)=(F a).map fun r=>(R r,none):=by
 have h:∃b,A.ds b=A.ds a:=⟨a,rfl⟩;simp only[dR];rw[dif_pos h,A.inj _ _ (Classical.choose_spec h)]
theorem sG {α β:Type} {A:fX α} {F:α->Option β} {R:β->RK} {lent:Option (D×Row)} {ds:List D} {rk:RK} {out:Option Row} (h:dR A F R lent ds=some (rk,out)):lent=none∧out=none∧∃a r,ds=A.ds a∧F a=some r∧rk=R r:=by
 unfold dR at h;split at h
 ·split at h
  ·rename_i he;rw[VD]at h;obtain⟨r,h1,h2⟩:=h;simp only[Prod.mk.injEq]at h2;obtain⟨rfl,rfl⟩:=h2;exact⟨rfl,rfl,_,r,(Classical.choose_spec he).symm,h1,rfl⟩
  ·cases h
 ·cases h
structure bN (P:Program) (f:FuncId) (G:Option (D×Row)->List D->Option (RK×Option Row)):Prop where
 calls:∀lent VA rk out,G lent VA=some (rk,out)->mc P f lent VA rk out
 callable:cu P f
theorem bN.of {P:Program} {T:Nat->Option Ty} {Γ:Env} (X:fb P T) (Y:bt P Γ) (hm:P.follows .mixedOrders=true) {α β:Type} {A:fX α} {F:α->Option β} {R:β->RK} {mode:Mode} {f:FuncId} {fn:Func} (U:P.funcs[f]? = some fn) (O:(match fn.body with|some c=>codeOk c|none=>true)=true)
  (Z:(fn.name == "runtime.NumGoroutine")=false∧fn.body.isNone=false) (hn:∀a,(A.ds a).length<=fn.ntmps) (h:∀a r,F a=some r->iQ mode T Γ FU fn none (A.ds a)=some (R r,none)):bN P f (dR A F R) where
 calls lent VA rk out hg:=by
  obtain⟨rfl,rfl,a,r,rfl,hr,rfl⟩:=sG hg;exact gA X Y hm U O (hn a) rfl (h a r hr)
 callable:=⟨fn,U,Z⟩
theorem bt.add {P:Program} {Γ:Env} (O:bt P Γ) {f:Nat} {G:Option (D×Row)->List D->Option (RK×Option Row)} (h:bN P f G) (l:Bool):bt P (Am.ext Γ f l G):=O.ext h.calls h.callable
section
variable {T:Nat->Option Ty} {Γ:Env} {N e:Nat} {ws:List W} {Q:Kt} {t:Nat->D} {h:Nat->Option Row}
def LK {σ ρ:Type} (Rel:σ->(Nat->D)->(Nat->Option Row)->Nat->Prop) (O:ρ->Ex->(Nat->D)->(Nat->Option Row)->Nat->Prop) (c:σ⊕ρ):Kt:=fun x t h e =>
 match x with
 | .normal=>∃U,c=.inl U∧Rel U t h e
 | x=>∃o,c=.inr o∧O o x t h e
theorem jQ {σ ρ:Type} {Rel:σ->(Nat->D)->(Nat->Option Row)->Nat->Prop} {O:ρ->Ex->(Nat->D)->(Nat->Option Row)->Nat->Prop} {U:σ} (k:Rel U t h e):LK Rel O (.inl U) .normal t h e:=⟨U,rfl,k⟩
theorem ku {σ ρ:Type} {Rel:σ->(Nat->D)->(Nat->Option Row)->Nat->Prop} {O:ρ->Ex->(Nat->D)->(Nat->Option Row)->Nat->Prop} {o:ρ} {n:Nat} (k:O o (.exit n) t h e):LK Rel O (.inr o) (.exit n) t h e:=⟨o,rfl,k⟩
theorem DH {σ ρ:Type} {Rel:σ->(Nat->D)->(Nat->Option Row)->Nat->Prop} {O:ρ->Ex->(Nat->D)->(Nat->Option Row)->Nat->Prop} {o:ρ} (k:O o .ret t h e):LK Rel O (.inr o) .ret t h e:=⟨o,rfl,k⟩
theorem ax {σ ρ:Type} {body:σ->Option (σ⊕ρ)} {b:Code} (Rel:σ->(Nat->D)->(Nat->Option Row)->Nat->Prop) (O:ρ->Ex->(Nat->D)->(Nat->Option Row)->Nat->Prop) {s0:σ} {out:ρ} (hL:aQ body s0=some out) (h0:Rel s0 t h e)
  (Y:∀s t h e,Rel s t h e->∀c,body s=some c->bX T Γ N FU [.code b] (LK Rel O c) .normal t h e)
  (U:∀x t h e,O out x t h e->bX T Γ N FU ws Q x t h e):K6 T Γ N FU b ws Q t h e:=by
 have key:∀(n:Nat) (s:σ) (t:Nat->D) (h:Nat->Option Row) (e:Nat),Rel s t h e->kg body n s=some out->∃x Z,iter (dP T Γ N FU b) n ⟨t,h,e⟩=some (x,Z)∧bX T Γ N FU ws Q x Z.t Z.h Z.e:=by
  intro n
  induction n with
  | zero=>intro s t h e _ X;cases X
  | succ n ih =>
   intro s t h e hR X;simp only[kg]at X;cases hb:body s with
   | none=>rw[hb]at X;cases X
   | some c =>
    rw[hb]at X;obtain⟨x,s1,h1,h2⟩:=P8 _ _ _ _ _ (show HV T Γ N FU b t h e (LK Rel O c) from Y s t h e hR c hb);simp only[iter,h1];cases x with
    | normal =>
     obtain⟨Z,rfl,h4⟩:=h2;exact ih Z s1.t s1.h s1.e h4 X
    | exit m =>
     obtain⟨o,rfl,h4⟩:=h2;simp only[VP]at X;subst X;exact⟨_,_,rfl,U _ _ _ _ h4⟩
    | ret =>
     obtain⟨o,rfl,h4⟩:=h2;simp only[VP]at X;subst X;exact⟨_,_,rfl,U _ _ _ _ h4⟩
 exact key FU s0 t h e h0 hL
theorem sY {d:D} {g:Nat} {A B A' B':(Nat->D)->Prop} (hk:Jl d t g A B) (h1:∀t,A t->A' t) (h2:∀t,B t->B' t):Jl d t g A' B':=by
 cases d with
 | bool b=>exact⟨fun O=>h1 _ (hk.1 O),fun O=>h2 _ (hk.2 O)⟩
 | _=>exact hk
theorem y3 {d:D} {g:Nat} {A B S A' B' S':(Nat->D)->Prop} (hk:wpS d t g A B S) (h1:∀t,A t->A' t) (h2:∀t,B t->B' t) (h3:∀t,S t->S' t):wpS d t g A' B' S':=by
 unfold wpS at hk ⊢;split at hk
 ·exact h3 _ hk
 ·exact sY hk h1 h2
theorem yg {α:Type} {x:Option α} {K K':α->Prop} (hk:lx x K) (h1:∀a,K a->K' a):lx x K':=by
 cases x with
 | none=>exact hk
 | some a=>exact h1 a hk
theorem HR {ops:List Oper} {gd:Option (Nat×Bool)} {A B A' B':(Nat->D)->Prop} (hk:P5 ops t gd A B) (h1:∀t,A t->A' t) (h2:∀t,B t->B' t):P5 ops t gd A' B':=by
 unfold P5 at hk ⊢;split
 ·exact h1 _ hk
 ·rename_i j want;refine yg hk fun g O=>y3 O ?_ ?_ h2
  ·intro t U;cases want<;>simp_all
  ·intro t U;cases want<;>simp_all
theorem s3 {o:Oper} {K K':(Nat->D)->aR->Prop} (hk:HQ T Γ e o t h K) (h1:∀t E,K t E->K' t E):HQ T Γ e o t h K':=by
 unfold HQ at hk ⊢;split
 ·rename_i O;rw[O]at hk;exact sY hk (fun _ h=>h1 _ _ h) (fun _ h=>h1 _ _ h)
 ·rename_i U;split at hk
  ·rename_i c a b O;exact absurd O (U _ _ _)
  ·exact yg hk (fun _ h=>h1 _ _ h)
theorem qo {ops:List Oper} {K K':(Nat->D)->(Nat->Option Row)->Prop} (h1:∀t h,K t h->K' t h):∀(l:List Oper) (t:Nat->D) (h:Nat->Option Row),yE T Γ N e ops l t h K->yE T Γ N e ops l t h K'
 | [],t,h,hk=>h1 _ _ hk
 | o::l,t,h,hk=>by
  unfold yE at hk ⊢;exact⟨hk.1,HR hk.2 (fun t O=>s3 O fun t E U=>qo h1 l _ _ U) (fun t O=>qo h1 l _ _ O)⟩
theorem ql {ops:List Oper} {K K':(Nat->D)->(Nat->Option Row)->List gQ->Prop} (h1:∀t h fs,K t h fs->K' t h fs):∀(l:List Oper) (t:Nat->D) (h:Nat->Option Row) (fs:List gQ),runK T Γ N e ops l t h fs K->runK T Γ N e ops l t h fs K'
 | [],t,h,fs,hk=>h1 _ _ _ hk
 | o::l,t,h,fs,hk=>by
  unfold runK at hk ⊢;exact⟨hk.1,HR hk.2 (fun t O=>s3 O fun t E U=>ql h1 l _ _ _ U) (fun t O=>ql h1 l _ _ _ O)⟩
theorem P7 {ops:Array Oper} {draw:Bool} {K K':(Nat->D)->(Nat->Option Row)->Prop} (hk:Ui T Γ N ops draw t h e K) (h1:∀t h,K t h->K' t h):Ui T Γ N ops draw t h e K':=by
 unfold Ui at hk ⊢;cases draw with
 | true=>exact ql (fun t h fs O=>⟨O.1,h1 _ _ O.2⟩) _ _ _ _ hk
 | false=>exact qo h1 _ _ _ hk
theorem MU {F:Nat} : ∀(c:Code) (t:Nat->D) (h:Nat->Option Row) (e:Nat) (K K':Kt),HV T Γ N F c t h e K->(∀x t h e,K x t h e->K' x t h e)->HV T Γ N F c t h e K':=by
 intro c
 induction c with
 | skip=>intro t h e K K' hk hm;exact hm _ _ _ _ hk
 | region i ops draw=>intro t h e K K' hk hm;exact P7 hk fun t h hh=>hm _ _ _ _ hh
 | seq a b U X =>
  intro t h e K K' hk hm;refine U _ _ _ _ _ hk fun x t h e O =>?_;cases x with
  | normal=>exact X _ _ _ _ _ O hm
  | exit n=>exact hm _ _ _ _ O
  | ret=>exact hm _ _ _ _ O
 | cond c x y ihx ihy =>
  intro t h e K K' hk hm;unfold HV at hk ⊢;cases c with
  | tmp g=>exact sY hk (fun t Y=>ihx _ _ _ _ _ Y hm) (fun t Y=>ihy _ _ _ _ _ Y hm)
  | const v =>
   cases v with
   | bool b =>
    cases b with
    | true=>exact ihx _ _ _ _ _ hk hm
    | false=>exact ihy _ _ _ _ _ hk hm
   | _=>exact hk
  | _=>exact hk
 | block id b ih =>
  intro t h e K K' hk hm;refine ih _ _ _ _ _ hk fun x t h e O =>?_;cases x with
  | normal=>exact hm _ _ _ _ O
  | ret=>exact hm _ _ _ _ O
  | exit n =>
   unfold Nz at O ⊢;simp only at O ⊢;split at O
   ·rename_i Z;rw[if_pos Z];exact hm _ _ _ _ O
   ·rename_i Z;rw[if_neg Z];exact hm _ _ _ _ O
 | loop b ih =>
  intro t h e K K' hk hm;obtain⟨x,s,h1,h2⟩:=hk;exact⟨x,s,h1,hm _ _ _ _ h2⟩
 | exit id=>intro t h e K K' hk hm;exact hm _ _ _ _ hk
 | ret=>intro t h e K K' hk hm;exact hm _ _ _ _ hk
 | _=>intro t h e K K' hk;exact hk.elim
def CK {σ:Type} (J:σ->(Nat->D)->(Nat->Option Row)->Nat->Prop) (P:σ->Prop) (R:Kt):Kt:=fun x t h e =>
 match x with
 | .normal=>∃s,P s∧J s t h e
 | x=>R x t h e
theorem ao {σ:Type} {J:σ->(Nat->D)->(Nat->Option Row)->Nat->Prop} {P:σ->Prop} {R:Kt} : CK J P R .normal t h e = ∃s,P s∧J s t h e:=Yc
end
section
variable {h:Nat->Option Row}
theorem Ag {k:IntKind} {n:Int} : canon (.int k n)=.int k n:=Yc
theorem wL {b:Bool} : canon (.bool b)=.bool b:=Yc
theorem Ai {b:ByteArray} : canon (.str b)=.str b:=Yc
theorem D9 {a b:Bool} {n:Nat} {xs:List D} : canon (.sl a b n xs)=.sl false false n xs:=Yc
theorem wI {k:IntKind} {n:Int} : dT (.int k n)=.int k n:=Yc
theorem ug {b:Bool} : dT (.bool b)=.bool b:=Yc
theorem wK {b:ByteArray} : dT (.str b)=.str b:=Yc
theorem Af {a b:Bool} {n:Nat} {xs:List D} : dT (.sl a b n xs)=.sl false false n xs:=Yc
theorem wH {xs:List D} : dT (.agg xs)=.agg (xs.map canon):=Yc
def Qo (x s o n:Nat):Option Row->Option (D×List Nat)
 | some r=>if o+n*s<=r.cells.length then some (.sl false false n ((r.cells.drop o).take (n*s)),[x]) else none
 | none=>none
theorem Ek {x s o n:Nat} {r:Row} : Qo x s o n (some r)=if o+n*s<=r.cells.length then some (.sl false false n ((r.cells.drop o).take (n*s)),[x]) else none:=Yc
def S8 (x o:Nat):Option Row->Option (D×List Nat)
 | some r=>if o<=r.cells.length then some (.ip (r.cells.drop o),[x]) else none
 | none=>none
theorem Ep {x o:Nat} {r:Row} : S8 x o (some r)=if o<=r.cells.length then some (.ip (r.cells.drop o),[x]) else none:=Yc
theorem Eg {k:IntKind} {n:Int} : aV h (.int k n)=some (.int k n,[]):=Yc
theorem Ak {b:Bool} : aV h (.bool b)=some (.bool b,[]):=Yc
theorem Ej {b:ByteArray} : aV h (.str b)=some (.str b,[]):=Yc
theorem J3 {a b:Bool} {n:Nat} {xs:List D} : aV h (.sl a b n xs)=some (.sl false false n xs,[]):=Yc
theorem Ec {xs:List D} : aV h (.agg xs)=some (.agg (xs.map canon),[]):=Yc
theorem J1 {xs:List D} : aV h (.ip xs)=some (.ip xs,[]):=Yc
theorem J0 {f:Nat} : aV h (.fn f)=some (.fn f,[]):=Yc
theorem Ee {x v s o n:Nat} : aV h (.buf x v s o n)=Qo x s o n (live h x v):=by
 simp only[aV,aD,b9];cases live h x v with
 | none=>rfl
 | some r=>by_cases O:o+n*s<=r.cells.length<;>simp[Qo,O,canon]
theorem Ei {x v o:Nat} : aV h (.ptr x v o)=S8 x o (live h x v):=by
 simp only[aV,aD];cases live h x v with
 | none=>rfl
 | some r=>simp only[S8]
theorem NV {k:IntKind} {n:Int} : cT h (.int k n)=some ([.int k n],[]):=Yc
theorem J7 {b:Bool} : cT h (.bool b)=some ([.bool b],[]):=Yc
theorem NW {b:ByteArray} : cT h (.str b)=some ([.str b],[]):=Yc
theorem Rl {a b:Bool} {n:Nat} {xs:List D} : cT h (.sl a b n xs)=some ([.sl a b n xs],[]):=Yc
theorem NT {xs:List D} : cT h (.agg xs)=some (xs,[]):=Yc
def UK:Option (D×List Nat)->Option (List D×List Nat)
 | some (d,fr)=>some ([d],fr)
 | none=>none
theorem Ey {d:D} {fr:List Nat} : UK (some (d,fr))=some ([d],fr):=Yc
theorem NU {x v s o n:Nat} : cT h (.buf x v s o n)=UK (Qo x s o n (live h x v)):=by
 simp only[cT,b9];cases live h x v with
 | none=>rfl
 | some r=>by_cases O:o+n*s<=r.cells.length<;>simp[Qo,UK,O]
def UF (h:Nat->Option Row):Option (D×List Nat)->Option aR
 | some (d,fr)=>some ⟨d,fB h fr⟩
 | none=>none
theorem Em {d:D} {fr:List Nat} : UF h (some (d,fr))=some ⟨d,fB h fr⟩:=Yc
theorem JB {x v s o n:Nat} : eX h (.buf x v s o n)=UF h (Qo x s o n (live h x v)):=by
 simp only[eX,kS,b9];cases live h x v with
 | none=>rfl
 | some r=>by_cases O:o+n*s<=r.cells.length<;>simp[Qo,UF,O,canon,dT]
variable {Γ:Env} {f g e:Nat} {l:Bool} {G:Option (D×Row)->List D->Option (RK×Option Row)} {lent:Option (D×Row)} {VA:List D} {dst:Option Nat} {fr:List Nat}
theorem AW:(Am.ext Γ f l G).lends g=if g=f then l else Γ.lends g:=Yc
theorem Kr:(Am.ext Γ f l G).sem g lent VA=if g=f then G lent VA else Γ.sem g lent VA:=Yc
theorem Kq {d:Nat} : (Am.ext Γ f l G).own d=Γ.own d:=Yc
theorem Bw {d:Nat} : bk.own d=true:=Yc
theorem FR {d i:Nat} : (Am.keep d Γ).own i=(i != d&&Γ.own i):=Yc
theorem xL {d i:Nat} : (Am.keep d Γ).lends i=Γ.lends i:=Yc
theorem FT {d i:Nat} : (Am.keep d Γ).sem i lent VA=Γ.sem i lent VA:=Yc
def ve (lends:Bool) (Γ:Env) (h:Nat->Option Row) (e:Nat) (dst:Option Nat) (g:Nat) (args:List D):Option aR :=
 if lends then
  match args with
  | .buf x v s o n::rest=>kR Γ h e dst g x v (.buf 0 0 s o n) rest
  | .ptr x v o::rest=>kR Γ h e dst g x v (.ptr 0 0 o) rest
  | .mp x v::rest=>kR Γ h e dst g x v (.mp 0 0) rest
  | _=>none
 else oC Γ h e dst g args
def Qn (p:Option (Nat×Nat×Nat)) (Γ:Env) (h:Nat->Option Row) (e:Nat) (dst:Option Nat) (g:Nat) (args:List D):Option aR :=
 match p with
 | some p=>nX h e dst p args
 | none =>
  match Γ.grw g with
  | some p=>nW h p args
  | none=>ve (Γ.lends g) Γ h e dst g args
def Sf (p:Option Grow) (Γ:Env) (h:Nat->Option Row) (e:Nat) (dst:Option Nat) (g:Nat) (args:List D):Option aR :=
 match p with
 | some p=>nW h p args
 | none=>ve (Γ.lends g) Γ h e dst g args
theorem z7 {args:List D} : Qn none Γ h e dst g args=Sf (Γ.grw g) Γ h e dst g args:=Yc
theorem zY {args:List D} : Sf none Γ h e dst g args=ve (Γ.lends g) Γ h e dst g args:=Yc
theorem zZ {p:Grow} {args:List D} : Sf (some p) Γ h e dst g args=nW h p args:=Yc
theorem Kn {f:Nat} {l:Bool} {G:Option (D×Row)->List D->Option (RK×Option Row)} : (Am.ext Γ f l G).grw g=Γ.grw g:=Yc
theorem FO {d:Nat} : (Am.keep d Γ).grw g=Γ.grw g:=Yc
theorem FA {d y:Nat} : (Am.qJ d y Γ).grw g=Γ.grw g:=Yc
theorem FI {f:Nat} {p:Nat×Nat×Nat} : (Am.xJ f p Γ).grw g=Γ.grw g:=Yc
theorem Bs:bk.grw g=none:=Yc
theorem Ft {f:Nat} {p:Grow} : (Am.xD f p Γ).grw g=if g=f then some p else Γ.grw g:=Yc
theorem Fu {f:Nat} {p:Grow} : (Am.xD f p Γ).ins g=Γ.ins g:=Yc
theorem xE {f:Nat} {p:Grow} : (Am.xD f p Γ).lends g=Γ.lends g:=Yc
theorem Fx {f:Nat} {p:Grow} {l:Option (D×Row)} {VA:List D} : (Am.xD f p Γ).sem g l VA=Γ.sem g l VA:=Yc
theorem Fw {f:Nat} {p:Grow} {d:Nat} : (Am.xD f p Γ).own d=Γ.own d:=Yc
theorem A6 {f:Nat} {p:Grow} {d:Nat} : (Am.xD f p Γ).hint d=Γ.hint d:=Yc
def Uv (v:Nat):Option Row->Option (Row×Nat×Nat×Nat)
 | some r=>if r.v=v∧r.mp=true then (match r.cells with | [.ph y s n]=>some (r,y,s,n)|_=>none) else none
 | none=>none
theorem F6 {x v:Nat} : iL h x v=Uv v (h x):=by
 unfold iL Uv;cases h x<;>rfl
theorem Gh {v ty y s n:Nat} {fz lst:Bool} : Uv v (some ⟨v,ty,[.ph y s n],fz,lst,true⟩)=some (⟨v,ty,[.ph y s n],fz,lst,true⟩,y,s,n):=by simp[Uv]
def NB (p:Grow) (y k:Nat) (rest:List D):Option (Row×Nat×Nat×Nat)->Option Row->Option aR
 | some (O,k',s,n),some r =>
   if k'=k∧k=PK+y∧y<PK∧O.fz=false∧r.mp=false∧r.fz=false∧r.lst=true∧s=p.k∧r.ty=p.ty∧r.cells.length=n*p.k∧(n+1)*p.bytes<=140737488355328 then
    match p.sem r.cells rest with
    | some cs=>some ⟨.int .i64 (n:Int),[(k,some ⟨r.v,p.ty,r.cells++cs,false,true,false⟩),(y,some ⟨O.v,O.ty,[.ph k p.k (n+1)],false,false,true⟩)]⟩
    | none=>none
   else none
 | _,_=>none
theorem JR {p:Grow} {y v k:Nat} {rest:List D} : nW h p (.pm y v k::rest)=NB p y k rest (iL h y v) (h k):=Yc
def Rk (k y v ty U O k' n:Nat) (cells:List D):Option (List D)->Option aR
 | some cs=>some ⟨.int .i64 (n:Int),[(k,some ⟨U,O,cells++cs,false,true,false⟩),(y,some ⟨v,ty,[.ph k k' (n+1)],false,false,true⟩)]⟩
 | none=>none
theorem wx {O k' U:Nat} {sem:List D->List D->Option (List D)} {y k:Nat} {rest:List D} {v ty s n Y X:Nat} {cells:List D} : NB ⟨O,k',U,sem⟩ y k rest (some (⟨v,ty,[.ph k s n],false,false,true⟩,k,s,n)) (some ⟨Y,X,cells,false,true,false⟩) =
  if k=1000000+y∧y<1000000∧s=k'∧X=O∧cells.length=n*k'∧(n+1)*U<=140737488355328 then Rk k y v ty Y O k' n cells (sem cells rest) else none:=by
 simp only[NB,PK,true_and]<;>cases sem cells rest<;>rfl
theorem wy {k y v ty U O k' n:Nat} {cells cs:List D} : Rk k y v ty U O k' n cells (some cs)=some ⟨.int .i64 (n:Int),[(k,some ⟨U,O,cells++cs,false,true,false⟩),(y,some ⟨v,ty,[.ph k k' (n+1)],false,false,true⟩)]⟩:=Yc
theorem z8 {p:Nat×Nat×Nat} {args:List D} : Qn (some p) Γ h e dst g args=nX h e dst p args:=Yc
theorem Ko {f:Nat} {l:Bool} {G:Option (D×Row)->List D->Option (RK×Option Row)} : (Am.ext Γ f l G).ins g=Γ.ins g:=Yc
theorem FP {d:Nat} : (Am.keep d Γ).ins g=Γ.ins g:=Yc
theorem FB {d y:Nat} : (Am.qJ d y Γ).ins g=Γ.ins g:=Yc
theorem Bt:bk.ins g=none:=Yc
theorem FJ {f:Nat} {p:Nat×Nat×Nat} : (Am.xJ f p Γ).ins g=if g=f then some p else Γ.ins g:=Yc
theorem xK {f:Nat} {p:Nat×Nat×Nat} : (Am.xJ f p Γ).lends g=Γ.lends g:=Yc
theorem FM {f:Nat} {p:Nat×Nat×Nat} {l:Option (D×Row)} {VA:List D} : (Am.xJ f p Γ).sem g l VA=Γ.sem g l VA:=Yc
theorem FL {f:Nat} {p:Nat×Nat×Nat} {d:Nat} : (Am.xJ f p Γ).own d=Γ.own d:=Yc
theorem A9 {f:Nat} {p:Nat×Nat×Nat} {d:Nat} : (Am.xJ f p Γ).hint d=Γ.hint d:=Yc
def NC (ty k O x y s U o o' n m:Nat) (i:Int) (e:Nat) (d:Nat):Option Row->Option Row->Option aR
 | some r,some r' =>
   if r.fz=false∧r'.fz=false∧r.lst=true∧r'.lst=true∧x≠y∧s=k∧U=k∧r.ty=ty∧r'.ty=ty∧o=0∧o'=0∧r.cells.length=n*k∧r'.cells.length=m*k∧0<=i∧i<=n∧0<m∧(n+m)*O<=140737488355328 then
    some ⟨.buf d e k 0 (n+m),[(y,none),(x,none),(d,some ⟨e,ty,r.cells.take (i.toNat*k)++(r'.cells++r.cells.drop (i.toNat*k)),false,true,false⟩)]⟩
   else none
 | _,_=>none
theorem JS {ty k O x v s o n y U X o' m d:Nat} {i:Int} : nX h e (some d) (ty,k,O) [.buf x v s o n,.int .i64 i,.buf y U X o' m]=NC ty k O x y s X o o' n m i e d (live h x v) (live h y U):=by
 simp only[nX,NC];cases live h x v with
 | none=>rfl
 | some r=>cases live h y U<;>rfl
theorem wz {ty k O x y s U o o' n m : Nat} {i : Int} {d : Nat} {r r' : Row} : NC ty k O x y s U o o' n m i e d (some r) (some r') = if r.fz = false ∧ r'.fz = false ∧ r.lst = true ∧ r'.lst = true ∧ x ≠ y ∧ s = k ∧ U = k ∧ r.ty = ty ∧ r'.ty = ty ∧ o = 0 ∧ o' = 0 ∧ r.cells.length = n * k ∧ r'.cells.length = m * k ∧ 0 <= i ∧ i <= n ∧ 0 < m ∧ (n + m) * O <= 140737488355328 then
        some ⟨.buf d e k 0 (n + m), [(y, none), (x, none), (d, some ⟨e, ty, r.cells.take (i.toNat * k) ++ (r'.cells ++ r.cells.drop (i.toNat * k)), false, true, false⟩)]⟩
      else none := Eq.trans rfl rfl
theorem JU {args:List D} : eV Γ h e dst (.fn g) args=Qn (Γ.ins g) Γ h e dst g args:=by
 simp only[eV,Qn,ve];cases Γ.ins g with
 | none=>cases Γ.grw g<;>rfl
 | some p=>rfl
def LR (h:Nat->Option Row) (e:Nat) (dst:Option Nat) (fr:List Nat):Option (RK×Option Row)->Option aR
 | some (.clean r,_)=>some ⟨r,if ep r then [] else fB h fr⟩
 | some (.fresh ty s n cells,_) =>
  match dst with
  | some d=>if fr.contains d=false then some ⟨.buf d e s 0 n,(if ll cells then [] else fB h fr)++[(d,some ⟨e,ty,cells,false,true,false⟩)]⟩ else none
  | none=>none
 | _=>none
def Se (Γ:Env) (h:Nat->Option Row) (e:Nat) (dst:Option Nat) (g:Nat):Option (List D×List Nat)->Option aR
 | some (VA,fr)=>LR h e dst fr (Γ.sem g none VA)
 | none=>none
theorem Aa {args:List D} : ve false Γ h e dst g args=Se Γ h e dst g (aO h args):=by
 simp only[ve,Wg,if_false,oC,Se];cases aO h args with
 | none=>rfl
 | some p =>
  obtain⟨VA,fr⟩:=p;simp only;cases hs:Γ.sem g none VA with
  | none=>rfl
  | some q =>
   obtain⟨rk,o⟩:=q;cases rk<;>rfl
theorem zX:Se Γ h e dst g (some (VA,fr))=LR h e dst fr (Γ.sem g none VA):=Yc
def Ov (h:Nat->Option Row) (fr:List Nat):Bool->List (Nat×Option Row)
 | true=>[]
 | false=>fB h fr
theorem A5:Ov h fr true=[]:=Yc
theorem xq:Ov h fr false=fB h fr:=Yc
theorem Fg {b:Bool} : Ov h [] b=[]:=by cases b<;>rfl
theorem wD {r:D} {o:Option Row} : LR h e dst fr (some (.clean r,o))=some ⟨r,Ov h fr (ep r)⟩:=by
 simp only[LR]<;>cases ep r<;>rfl
theorem Ks:fB h []=[]:=Yc
theorem Fh {x:Nat} : fB h (x::fr)=(x,(h x).map mJ)::fB h fr:=Yc
theorem Oy {v ty:Nat} {cells:List D} {lst mp:Bool} : mJ ⟨v,ty,cells,true,lst,mp⟩=⟨v,ty,cells,true,lst,mp⟩:=Yc
theorem Ow {v ty:Nat} {cells:List D} {lst mp:Bool} : mJ ⟨v,ty,cells,false,lst,mp⟩=⟨v,ty,cells,true,true,mp⟩:=Yc
theorem Al:aO h []=some ([],[]):=Yc
def UE (p:Option (D×List Nat)) (q:Option (List D×List Nat)):Option (List D×List Nat) :=
 match p,q with
 | some (X,fr),some (O,U)=>some (X::O,fr++U)
 | _,_=>none
theorem DW {d:D} {fr O:List Nat} {ds:List D} : UE (some (d,fr)) (some (ds,O))=some (d::ds,fr++O):=Yc
theorem wM {d:D} {ds:List D} : aO h (d::ds)=UE (aV h d) (aO h ds):=by
 simp only[aO];cases aV h d with
 | none=>rfl
 | some p=>cases aO h ds<;>rfl
variable {T:Nat->Option Ty} {s:St} {rs:List ResultVar} {r:ResultVar}
theorem G5:nM T s []=some ([],[]):=Yc
theorem BN:nM T s (r::rs)=UE (G3 T s r) (nM T s rs):=by
 simp only[nM];cases G3 T s r with
 | none=>rfl
 | some p=>cases nM T s rs<;>rfl
theorem G4 {t:Nat->D} {i:Nat} : G3 T ⟨t,h,e⟩ (.tmp i)=aV h (t i):=Yc
def SJ (T:Nat->Option Ty) (h:Nat->Option Row) (d:D) (τ:Option Ty):Option (D×List Nat) :=
 match τ,d with
 | some τ,.ptr x v o=>match ch τ h (.ptr x v o) with|some E=>some (dT E.val,[])|none=>none
 | _,_=>none
theorem BL {t:Nat->D} {i ty:Nat} : G3 T ⟨t,h,e⟩ (.cell i ty)=SJ T h (t i) (T ty):=Yc
def SK:Option aR->Option (D×List Nat)
 | some E=>some (dT E.val,[])
 | none=>none
theorem BM {d:D} {w:List (Nat×Option Row)} : SK (some ⟨d,w⟩)=some (dT d,[]):=Yc
theorem G2 {τ:Ty} {x v o:Nat} : SJ T h (.ptr x v o) (some τ)=SK (ch τ h (.ptr x v o)):=by
 simp only[SJ,SK]
def Sj (p:Option (List D×List Nat)):Option (RK×Option Row) :=
 match p with
 | some (ds,_)=>some (.clean (iD ds),none)
 | none=>none
theorem AO {ds:List D} {fr:List Nat} : Sj (some (ds,fr))=some (.clean (iD ds),none):=Yc
theorem xk:fp .clean T none rs s=Sj (nM T s rs):=by
 simp only[fp,lk,gG,O0,Sj]<;>cases nM T s rs<;>rfl
theorem wE {ty O n d:Nat} {cells:List D} {o:Option Row} : LR h e (some d) fr (some (.fresh ty O n cells,o))=if fr.contains d=false then some ⟨.buf d e O 0 n,Ov h fr (ll cells)++[(d,some ⟨e,ty,cells,false,true,false⟩)]⟩ else none:=by
 simp only[LR]<;>cases ll cells<;>rfl
theorem tp {k:IntKind} : ∀l:List Int,ll (ae (eI k) l)=true
 | []=>rfl
 | x::l=>by
  have:=tp (k:=k) l;simp only[aK,sh,List.cons_append,List.nil_append,ll,ep,this,Bool.and_self]
theorem xl {ty O i:Nat} {t:Nat->D} : fp (.fresh ty O) T none [.tmp i] ⟨t,h,e⟩=jB ty O h (t i):=Yc
theorem xn {i:Nat} {t:Nat->D} : fp .tight T none [.tmp i] ⟨t,h,e⟩=p7 (t i):=Yc
theorem Oo {nl O:Bool} {n:Nat} {xs:List D} : p7 (.sl nl O n xs)=some (.clean (.sl nl O n xs),none):=Yc
theorem Kf {ty O x v o n:Nat} : jB ty O h (.buf x v O o n)=p6 ty O o n (live h x v):=by simp[jB]
theorem Oi {ty O:Nat} {nl U:Bool} {xs:List D} : jB ty O h (.sl nl U 0 xs)=if U=true then some (.fresh ty O 0 [],none) else none:=Yc
theorem EW {ty O o n:Nat} {r:Row} : p6 ty O o n (some r)=if r.fz=false∧r.ty=ty∧o+n*O<=r.cells.length then some (.fresh ty O n ((r.cells.drop o).take (n*O)),none) else none:=Yc
theorem yy {d:D} : iD [d]=d:=Yc
theorem yz {d O:D} {ds:List D} : iD (d::O::ds)=.tup (d::O::ds):=Yc
end
theorem Kd (k:IntKind):(eI k).size=1:=Yc
theorem xa:Rm.size=1:=Yc
theorem AL:Ta.size=1:=Yc
theorem EV {α:Type} (e:iS α):(dp e).size=1:=Yc
section
variable {α:Type} (E:iS α) {l m:List α} {x x' z:α} {i a b n c:Int} {B:Nat}
theorem IF (h:P.idx l i=some x):0<=i∧i<l.length:=by
 unfold P.idx at h;split at h
 ·assumption
 ·cases h
theorem OE (h:P.idx l i=some x):l[i.toNat]? = some x:=by
 unfold P.idx at h;split at h
 ·exact h
 ·cases h
theorem sA (h:P.idx l i=some x):(ae E l).drop (i.toNat*E.size)=E.cells x++ae E (l.drop (i.toNat+1)):=by
 have h':=OE h;obtain⟨O,rfl⟩:=V9.1 h';rw[p5,XB O];rfl
theorem ny (h:P.idx l i=some x):i.toNat*E.size+E.size<=l.length*E.size:=by
 have h':=IF h;have:i.toNat+1<=l.length:=by omega
 have:=Ws E.size this
 rwa [WC]at this
theorem cq (h:P.idx l i=some x):(0<=i∧i<l.length)∧(ae E l).drop (i.toNat*E.size)=E.cells x++ae E (l.drop (i.toNat+1))∧i.toNat*E.size+E.size<=l.length*E.size:=⟨IF h,sA E h,ny E h⟩
theorem Pk:∀(l:List α) (i:Nat) (x:α),l[i]? = some x->∀x',ae E (l.set i x')=(ae E l).take (i*E.size)++E.cells x'++(ae E l).drop (i*E.size+E.size)
 | [],i,x,h,x'=>by simp at h
 | y::l,0,x,h,x'=>by
  rw[List.set_cons_zero,aK,aK,Xu,List.take_zero,Xo,Wt,Xq,E.len,WR,W6,Xr (by rw[E.len];exact VG _),Xo]
 | y::l,i+1,x,h,x'=>by
  have U:=Pk l i x (by simpa using h) x';rw[List.set_cons_succ,aK,aK,U,WC];have O:=E.len y;have X:(E.cells y++ae E l).take (i*E.size+E.size)=E.cells y++(ae E l).take (i*E.size):=by rw[W3,O,W5 (by omega),Nat.add_sub_cancel]
  have Y:(E.cells y++ae E l).drop (i*E.size+E.size+E.size)=(ae E l).drop (i*E.size+E.size):=by
   rw[Xq,O,Xr (by omega),Xo,Nat.add_sub_cancel]
  rw[X,Y];simp only[W0]
theorem nI (fo:Nat) (cs:List D) (h:P.idx l i=some x) (X:E.cells x'=putCells (E.cells x) fo cs) (Y:fo+cs.length<=E.size):putCells (ae E l) (i.toNat*E.size+fo) cs=ae E (l.set i.toNat x'):=by
 have h':=OE h;rw[Pk E l i.toNat x h' x',X];have he:=sA E h;have hf:=ny E h;have hl:=bR E l;have Z:=E.len x;have O:ae E l=(ae E l).take (i.toNat*E.size)++(E.cells x++(ae E l).drop (i.toNat*E.size+E.size)):=by
  have h1:=Xt (i.toNat*E.size) (ae E l);have h2:(ae E l).drop (i.toNat*E.size+E.size)=ae E (l.drop (i.toNat+1)):=by
   rw[<- Xs,he,Xq,Z,WR,W6,Xr (by omega),Xo]
  rw[h2,<- he,h1]
 generalize (ae E l).drop (i.toNat*E.size+E.size)=r at *;generalize ht:(ae E l).take (i.toNat*E.size)=p at *;have U:p.length=i.toNat*E.size:=by rw[<- ht];simp;omega
 unfold putCells;rw[O];have e1:(p++(E.cells x++r)).take (i.toNat*E.size+fo)=p++(E.cells x).take fo:=by
  rw[W3,U,W5 (by omega),W2,W4 (by omega)]
 have e2:(p++(E.cells x++r)).drop (i.toNat*E.size+fo+cs.length)=(E.cells x).drop (fo+cs.length)++r:=by
  rw[V1,Xq,U,Xr (by omega),W2,Xo,W1 (by omega)]
 rw[e1,e2];simp only[W0]
theorem Pe (h:P.idx l i=some x):putCells (ae E l) (i.toNat*E.size) (E.cells x')=ae E (l.set i.toNat x'):=by
 have:=nI E (x':=x') 0 (E.cells x') h (by unfold putCells;simp[E.len]) (by rw[E.len];omega);simpa using this
theorem OV (h:Qa B n c z=some m):m=List.replicate n.toNat z∧0<=n∧n<=c∧c<=maxLen∧c.toNat*B<=140737488355328:=by
 unfold Qa at h;split at h
 ·cases h;exact⟨rfl,by assumption⟩
 ·cases h
theorem mk_one (h:Qa B n n z=some m):0<=n∧n.toNat=m.length∧m.length<=maxLen∧jK m.length (E.cells z)=ae E m∧m.length*B<=140737488355328:=by
 obtain⟨rfl,h1,_,h3,h4⟩:=OV h;refine⟨h1,by simp,by simp;omega,by rw[EZ];simp,by simpa using h4⟩
theorem BY (h:zw l a b=some m):0<=a∧0<=b∧a.toNat<=b.toNat∧b.toNat<=l.length∧b.toNat-a.toNat=m.length∧(List.take (m.length*E.size) (List.drop (a.toNat*E.size) (ae E l))=ae E m):=by
 unfold zw at h;split at h
 ·rename_i U;cases h;have O:((l.drop a.toNat).take (b.toNat-a.toNat)).length=b.toNat-a.toNat:=by simp;omega
  refine⟨U.1,by omega,by omega,by omega,O.symm,?_⟩;rw[O,p5,mG]
 ·cases h
theorem SN (h:zw l a b=some m):0<=a∧0<=b∧(a.toNat<=b.toNat∧b.toNat<=l.length)∧b.toNat-a.toNat=m.length∧(List.take (m.length*E.size) (List.drop (a.toNat*E.size) (ae E l))=ae E m):=by
 obtain⟨h1,h2,h3,h4,h5,h6⟩:=BY E h;exact⟨h1,h2,⟨h3,h4⟩,h5,h6⟩
theorem yK (h:zw l 0 b=some m):0<=b∧0<=b∧m.length<=l.length∧b.toNat=m.length∧(List.take (m.length*E.size) (ae E l)=ae E m):=by
 obtain⟨h1,h2,h3,h4,h5,h6⟩:=BY E h;have O:b.toNat=m.length:=by simpa using h5
 refine⟨h2,h2,by omega,O,by simpa using h6⟩
theorem s9 {n:List α} (h:iX B l m=some n):n=l++m∧n.length<=maxLen∧n.length*B<=140737488355328:=by
 unfold iX at h;split at h
 ·rename_i O;cases h;exact⟨rfl,by rw[WN];exact O.1,by rw[WN];exact O.2⟩
 ·cases h
theorem fT {n:List α} (h:iX B l [x]=some n):l.length+1=n.length∧ae E l++E.cells x=ae E n∧n.length<=maxLen∧n.length*B<=140737488355328:=by
 obtain⟨rfl,h1,h2⟩:=s9 h;exact⟨by simp,by rw[gi];simp[ae],h1,h2⟩
theorem vJ {n:List α} (h:iX B [] l=some n):n=l∧l.length<=maxLen∧l.length*B<=140737488355328:=by
 obtain⟨rfl,h1,h2⟩:=s9 h;exact⟨rfl,h1,h2⟩
theorem Qi {n:List α} (h:iX B l m=some n):l.length+m.length=n.length∧ae E l++ae E m=ae E n∧n.length<=maxLen∧n.length*B<=140737488355328:=by
 obtain⟨rfl,h1,h2⟩:=s9 h;exact⟨by simp,by rw[gi],h1,h2⟩
end
theorem pZ {k:IntKind} {x y z:Int} (h:vf k x y=some z):¬y=0∧k.wrap (x.tdiv y)=z:=by
 unfold vf at h;split at h
 ·cases h
 ·cases h;exact⟨by assumption,rfl⟩
theorem vO {k:IntKind} {x y z:Int} (h:zl k x y=some z):¬y=0∧x.tmod y=z:=by
 unfold zl at h;split at h
 ·cases h
 ·cases h;exact⟨by assumption,rfl⟩
theorem kD {k:IntKind} {x y z:Int} (h:mN k x y=some z):¬y<0∧k.wrap (x*2 ^ (min y.toNat k.bits))=z:=by
 unfold mN at h;split at h
 ·cases h
 ·cases h;exact⟨by assumption,rfl⟩
theorem kE {k:IntKind} {x y z:Int} (h:tR k x y=some z):¬y<0∧x.fdiv (2 ^ (min y.toNat k.bits))=z:=by
 unfold tR at h;split at h
 ·cases h
 ·cases h;exact⟨by assumption,rfl⟩
theorem JO (op:BinOp) (k:IntKind) (x y:Int):wo op k x y=gR op k x y:=Yc
theorem La {s:ByteArray} {i x:Int} (h:P.QV s i=some x):0<=i∧0<=i∧s[i.toNat]? = some (UInt8.ofNat x.toNat)∧((UInt8.ofNat x.toNat).toNat:Int)=x:=by
 unfold P.QV at h;split at h
 ·rename_i O;rw[VD]at h;obtain⟨b,h1,h2⟩:=h;subst h2;have:UInt8.ofNat (b.toNat:Int).toNat=b:=by simp
  exact⟨O,O,by rw[h1,this],by rw[this]⟩
 ·cases h
theorem mc.emp {P:Program} {f:FuncId} {rk:RK} {out:Option Row} (h1:mc P f none [.sl true true 0 []] rk out) (h2:mc P f none [.sl true false 0 []] rk out):mc P f none [.sl false false 0 []] rk out:=by
 intro w M vs Y O;have Z:=O.2 0 _ rfl;generalize hu:vs.getD 0 undef=u at Z;cases Z with
 | sl A c nl tight n xs us k1 k2 k3 X k5 k6 k7 k8 =>
  cases A with
  | none =>
   refine h1 w M vs Y ⟨O.1,fun j d U =>?_,O.tab⟩;cases j with
   | zero=>cases U;rw[hu];exact .sl none c true true 0 [] us k1 k2 (fun _=>⟨fun _=>⟨rfl,(X rfl).2⟩,fun h=>by cases h⟩) X (fun _=>(X rfl).2) k6 k7 k8
   | succ j=>simp at U
  | some A =>
   refine h2 w M vs Y ⟨O.1,fun j d U =>?_,O.tab⟩;cases j with
   | zero=>cases U;rw[hu];exact .sl (some A) c true false 0 [] us k1 k2 (fun _=>⟨(fun h=>by cases h),fun _ h=>by cases h⟩) X (fun h=>by cases h) k6 k7 k8
   | succ j=>simp at U
theorem bN.Tm {P:Program} {T:Nat->Option Ty} {Γ:Env} (X:fb P T) (Y:bt P Γ) (hm:P.follows .mixedOrders=true) {α β:Type} {E:iS α} {F:List α->Option β} {R:β->RK} {mode:Mode} {f:FuncId} {fn:Func} (U:P.funcs[f]? = some fn) (O:(match fn.body with|some c=>codeOk c|none=>true)=true)
  (hc:(fn.name == "runtime.NumGoroutine")=false∧fn.body.isNone=false) (Z:1<=fn.ntmps)
  (h0:∀r,F []=some r->iQ mode T Γ FU fn none [.sl true true 0 []]=some (R r,none))
  (h1:∀r,F []=some r->iQ mode T Γ FU fn none [.sl true false 0 []]=some (R r,none))
  (h2:∀l r,0<l.length->F l=some r->iQ mode T Γ FU fn none [.sl false false l.length (ae E l)]=some (R r,none)):bN P f (dR (ee (gf E)) F R) where
 calls lent VA rk out hg:=by
  obtain⟨rfl,rfl,l,r,rfl,hr,rfl⟩:=sG hg;cases l with
  | nil=>exact mc.emp (gA X Y hm U O Z rfl (h0 r hr)) (gA X Y hm U O Z rfl (h1 r hr))
  | cons x l=>exact gA X Y hm U O Z rfl (h2 (x::l) r (by simp) hr)
 callable:=⟨fn,U,hc⟩
theorem R6 {w:World} {M:Nat->Prop} {k:IntKind} {n:Int} {u:Value} (h:RP w M (.int k n) u):u=.int k n:=by cases h;rfl
theorem Vc:type_of% (ai @CC<|ai @wv<|ai @BT<|ai @Hb<|ai @Ha<|ai @BR<|ai @yF<|ai @BS<|ai @bf<|ai @aZ<|ai @od<|ai @bq<|ai @qL<|ai @u3<|ai @yI<|ai @BQ<|ai @Cn<|ai @yT<|ai @G8<|ai @BO<|ai @yC<|ai @Co<|ai @yU<|ai @yV<|ai @vc<|ai @G9<|ai @BP<|ai @yD<|ai @Cp<|ai @yW<|ai @yX<|ai @vd<|ai @Ho<|ai @Hw<|ai @Lf<|ai @Lk<|ai @yo<|ai @uX<|ai @yp<|ai @uY<|ai @ED<|ai @EK<|ai @EC<|ai @EJ<|ai @wS<|ai @wV<|ai @Aq<|ai @Az<|ai @EE<|ai @EL<|ai @EA<|@EG):=⟨@CC,@wv,@BT,@Hb,@Ha,@BR,@yF,@BS,@bf,@aZ,@od,@bq,@qL,@u3,@yI,@BQ,@Cn,@yT,@G8,@BO,@yC,@Co,@yU,@yV,@vc,@G9,@BP,@yD,@Cp,@yW,@yX,@vd,@Ho,@Hw,@Lf,@Lk,@yo,@uX,@yp,@uY,@ED,@EK,@EC,@EJ,@wS,@wV,@Aq,@Az,@EE,@EL,@EA,@EG⟩
theorem Vd:type_of% (ai @Ax<|ai @AG<|ai @sd<|ai @sg<|ai @qB<|ai @qF<|ai @As<|ai @AB<|ai @qC<|ai @qG<|ai @Au<|ai @AD<|ai @Av<|ai @AE<|ai @Ar<|ai @AA<|ai @oI<|ai @oJ<|ai @qD<|ai @qH<|ai @Ap<|ai @Ay<|ai @J9<|ai @Ka<|ai @uk<|ai @ur<|ai @um<|ai @uu<|ai @Ez<|ai @EF<|ai @uj<|ai @uq<|ai @GM<|ai @GV<|ai @zV<|ai @tY<|ai @Ao<|ai @E7<|ai @w6<|ai @w5<|ai @xG<|ai @xF<|ai @dD<|ai @uG<|ai @dA<|ai @nC<|ai @LA<|ai @DS<|ai @zL<|ai @zK<|ai @Bz<|@AY):=⟨@Ax,@AG,@sd,@sg,@qB,@qF,@As,@AB,@qC,@qG,@Au,@AD,@Av,@AE,@Ar,@AA,@oI,@oJ,@qD,@qH,@Ap,@Ay,@J9,@Ka,@uk,@ur,@um,@uu,@Ez,@EF,@uj,@uq,@GM,@GV,@zV,@tY,@Ao,@E7,@w6,@w5,@xG,@xF,@dD,@uG,@dA,@nC,@LA,@DS,@zL,@zK,@Bz,@AY⟩
theorem Ve:type_of% (ai @AZ<|ai @u5<|ai @yR<|ai @yQ<|ai @vb<|ai @pF<|ai @og<|ai @u7<|ai @oh<|ai @u9<|ai @oo<|ai @u4<|ai @Cl<|ai @qO<|ai @qP<|ai @u6<|ai @mO<|ai @va<|ai @yP<|ai @qN<|ai @sU<|ai @KT<|ai @Gx<|ai @BK<|ai @BJ<|ai @Bg<|ai @JH<|ai @DT<|ai @JL<|ai @Nw<|ai @JK<|ai @Nt<|ai @JF<|ai @JM<|ai @Ns<|ai @vK<|ai @JN<|ai @JG<|ai @zP<|ai @wg<|ai @JJ<|ai @zQ<|ai @Ag<|ai @wL<|ai @Ai<|ai @D9<|ai @wI<|ai @ug<|ai @wK<|ai @Af<|ai @wH<|@Ek):=⟨@AZ,@u5,@yR,@yQ,@vb,@pF,@og,@u7,@oh,@u9,@oo,@u4,@Cl,@qO,@qP,@u6,@mO,@va,@yP,@qN,@sU,@KT,@Gx,@BK,@BJ,@Bg,@JH,@DT,@JL,@Nw,@JK,@Nt,@JF,@JM,@Ns,@vK,@JN,@JG,@zP,@wg,@JJ,@zQ,@Ag,@wL,@Ai,@D9,@wI,@ug,@wK,@Af,@wH,@Ek⟩
theorem Vf:type_of% (ai @Ep<|ai @Eg<|ai @Ak<|ai @Ej<|ai @J3<|ai @Ec<|ai @J1<|ai @J0<|ai @Ee<|ai @Ei<|ai @NV<|ai @J7<|ai @NW<|ai @Rl<|ai @NT<|ai @NU<|ai @Ey<|ai @AW<|ai @Kr<|ai @JU<|ai @Aa<|ai @zX<|ai @wD<|ai @A5<|ai @xq<|ai @Fg<|ai @Ks<|ai @Fh<|ai @Al<|ai @wM<|ai @DW<|ai @G5<|ai @BN<|ai @G4<|ai @BL<|ai @G2<|ai @BM<|ai @xk<|ai @AO<|ai @wE<|ai @tp<|ai @xl<|ai @xn<|ai @Oo<|ai @Kf<|ai @Oi<|ai @EW<|ai @yy<|ai @yz<|ai @JO<|ai @so<|@aK):=⟨@Ep,@Eg,@Ak,@Ej,@J3,@Ec,@J1,@J0,@Ee,@Ei,@NV,@J7,@NW,@Rl,@NT,@NU,@Ey,@AW,@Kr,@JU,@Aa,@zX,@wD,@A5,@xq,@Fg,@Ks,@Fh,@Al,@wM,@DW,@G5,@BN,@G4,@BL,@G2,@BM,@xk,@AO,@wE,@tp,@xl,@xn,@Oo,@Kf,@Oi,@EW,@yy,@yz,@JO,@so,@aK⟩
theorem Vl:type_of% (And.intro (@HI)<|@HK):=⟨@HI,@HK⟩
theorem Vk:type_of% (ai @true_and<|ai @and_true<|ai @Wg<|ai @VM<|ai @Wu<|ai @Xz<|ai @W6<|ai @XA<|ai @List.take_zero.{0}<|ai @V6<|ai @V7<|ai @List.contains_nil.{0}<|ai @Xo<|ai @Xy<|ai @Xx<|ai @V5<|ai @WM<|ai @decide_true<|ai @decide_false<|ai @beq_self_eq_true.{0}<|ai @List.isEmpty_nil.{0}<|ai @List.isEmpty_cons.{0}<|ai @Option.map_none.{0,0}<|ai @VO<|ai @WJ<|ai @List.all_nil.{0}<|ai @Option.isSome_some.{0}<|ai @Bool.and_true<|ai @W8<|ai @XC<|ai @Bool.and_self<|ai @W7<|ai @XD<|ai @and_self<|ai @Wt<|ai @Wf<|ai @Xu<|ai @Nat.sub_zero<|ai @VH<|ai @VG<|ai @VP<|ai @Nat.le_zero_eq<|ai @Nat.one_ne_zero<|ai @Bool.or_self<|ai @Bool.or_true<|ai @Bool.true_or<|ai @Bool.or_false<|ai @Bool.false_or<|@XE):=⟨@true_and,@and_true,@Wg,@VM,@Wu,@Xz,@W6,@XA,@List.take_zero.{0},@V6,@V7,@List.contains_nil.{0},@Xo,@Xy,@Xx,@V5,@WM,@decide_true,@decide_false,@beq_self_eq_true.{0},@List.isEmpty_nil.{0},@List.isEmpty_cons.{0},@Option.map_none.{0,0},@VO,@WJ,@List.all_nil.{0},@Option.isSome_some.{0},@Bool.and_true,@W8,@XC,@Bool.and_self,@W7,@XD,@and_self,@Wt,@Wf,@Xu,@Nat.sub_zero,@VH,@VG,@VP,@Nat.le_zero_eq,@Nat.one_ne_zero,@Bool.or_self,@Bool.or_true,@Bool.true_or,@Bool.or_false,@Bool.false_or,@XE⟩
theorem Vg:type_of% (ai @yH<|ai @yG<|ai @Rj<|ai @zR<|ai @wh<|ai @JC<|ai @DM<|ai @JD<|ai @Nf<|ai @JA<|ai @JB<|ai @Em<|ai @Kq<|ai @Bw<|ai @FR<|ai @xL<|@FT):=⟨@yH,@yG,@Rj,@zR,@wh,@JC,@DM,@JD,@Nf,@JA,@JB,@Em,@Kq,@Bw,@FR,@xL,@FT⟩
theorem Vo:type_of% (ai @rA.eq_1<|ai @rA.eq_2<|ai @ev.eq_1<|ai @ev.eq_2<|ai @ev.eq_3<|ai @ev.eq_4<|ai @jR.eq_1<|ai @jR.eq_2<|ai @jR.eq_3<|ai @jR.eq_4<|ai @jR.eq_5<|ai @jR.eq_6<|ai @cP.eq_1<|ai @cP.eq_2<|ai @te.eq_1<|ai @te.eq_2<|ai @te.eq_3<|ai @ic.eq_1<|ai @ic.eq_2<|ai @ic.eq_3<|ai @dV.eq_1<|ai @dV.eq_2<|ai @dV.eq_3<|ai @dV.eq_4<|ai @dV.eq_5<|ai @dV.eq_6<|ai @dV.eq_7<|ai @dV.eq_8<|ai @dV.eq_9<|ai @dV.eq_10<|ai @dV.eq_11<|ai @dV.eq_12<|ai @dV.eq_13<|ai @dV.eq_14<|ai @dV.eq_15<|ai @dV.eq_16<|ai @zC.eq_1<|ai @zC.eq_2<|ai @zC.eq_3<|ai @zC.eq_4<|ai @zC.eq_5<|ai @zC.eq_6<|ai @QK.eq_1<|ai @ay.eq_1<|ai @ay.eq_2<|ai @cw.eq_1<|ai @cw.eq_2<|ai @cw.eq_3<|ai @ch.eq_1<|ai @ch.eq_2<|ai @ch.eq_3<|ai @live.eq_1<|ai @gP.eq_1<|ai @gP.eq_2<|ai @Ds.ko.eq_1<|ai @Ds.ko.eq_2<|ai @Ds.ko.eq_3<|ai @bu.eq_1<|ai @bu.eq_2<|ai @bu.eq_3<|ai @bu.eq_4<|ai @bu.eq_5<|ai @bu.eq_6<|ai @ep.eq_1<|ai @ep.eq_2<|ai @ep.eq_3<|ai @ep.eq_4<|ai @ep.eq_5<|ai @ep.eq_6<|ai @ll.eq_1<|ai @ll.eq_2<|ai @sB.eq_1<|ai @sB.eq_2<|ai @sB.eq_3<|ai @sB.eq_4<|ai @alive.eq_1<|ai @alive.eq_2<|ai @alive.eq_3<|ai @nm.eq_1<|ai @nm.eq_2<|ai @ey.eq_1<|ai @ey.eq_2<|ai @ey.eq_3<|ai @ey.eq_4<|ai @ey.eq_5<|ai @ey.eq_6<|ai @bQ.eq_1<|ai @bQ.eq_2<|ai @l3.eq_1<|ai @gh.eq_1<|ai @gh.eq_2<|ai @gh.eq_3<|ai @ja.eq_1<|ai @ja.eq_2<|ai @BE.eq_1<|ai @aU.eq_1<|ai @aU.eq_2<|ai @aU.eq_3<|ai @aU.eq_4<|ai @eh.eq_1<|ai @eh.eq_2<|ai @eh.eq_3<|ai @bJ.eq_1<|ai @bJ.eq_2<|ai @bJ.eq_3<|ai @bJ.eq_4<|ai @bJ.eq_5<|ai @bJ.eq_6<|ai @dj.eq_1<|ai @fh.eq_1<|ai @fh.eq_2<|ai @fieldAt.eq_1<|ai @cv.eq_1<|ai @lV.eq_1<|ai @fI.eq_1<|ai @content.eq_1<|ai @content.eq_2<|ai @content.eq_3<|ai @putCells.eq_1<|ai @MV.eq_1<|ai @MV.eq_2<|ai @MV.eq_3<|ai @MV.eq_4<|ai @HU.eq_1<|ai @HU.eq_2<|ai @HU.eq_3<|ai @HU.eq_4<|ai @Kl.eq_1<|ai @Kl.eq_2<|ai @Kl.eq_3<|ai @dq.eq_1<|ai @dq.eq_2<|ai @dq.eq_3<|ai @kindOk.eq_1<|ai @kindOk.eq_2<|ai @kindOk.eq_3<|ai @kindOk.eq_4<|ai @gZ.eq_1<|ai @gZ.eq_2<|ai @gZ.eq_3<|ai @gZ.eq_4<|ai @j5.eq_1<|ai @j5.eq_2<|ai @j5.eq_3<|ai @j5.eq_4<|ai @j5.eq_5<|ai @j5.eq_6<|ai @j5.eq_7<|ai @j5.eq_8<|ai @nS.eq_1<|ai @nS.eq_2<|ai @nS.eq_3<|ai @aF.eq_1<|ai @aF.eq_2<|ai @aF.eq_3<|ai @aF.eq_4<|ai @aF.eq_5<|ai @aF.eq_6<|ai @aF.eq_7<|ai @lv.eq_1<|ai @lv.eq_2<|ai @oB.eq_1<|ai @oB.eq_2<|ai @oB.eq_3<|@oB.eq_4):=⟨@rA.eq_1,@rA.eq_2,@ev.eq_1,@ev.eq_2,@ev.eq_3,@ev.eq_4,@jR.eq_1,@jR.eq_2,@jR.eq_3,@jR.eq_4,@jR.eq_5,@jR.eq_6,@cP.eq_1,@cP.eq_2,@te.eq_1,@te.eq_2,@te.eq_3,@ic.eq_1,@ic.eq_2,@ic.eq_3,@dV.eq_1,@dV.eq_2,@dV.eq_3,@dV.eq_4,@dV.eq_5,@dV.eq_6,@dV.eq_7,@dV.eq_8,@dV.eq_9,@dV.eq_10,@dV.eq_11,@dV.eq_12,@dV.eq_13,@dV.eq_14,@dV.eq_15,@dV.eq_16,@zC.eq_1,@zC.eq_2,@zC.eq_3,@zC.eq_4,@zC.eq_5,@zC.eq_6,@QK.eq_1,@ay.eq_1,@ay.eq_2,@cw.eq_1,@cw.eq_2,@cw.eq_3,@ch.eq_1,@ch.eq_2,@ch.eq_3,@live.eq_1,@gP.eq_1,@gP.eq_2,@Ds.ko.eq_1,@Ds.ko.eq_2,@Ds.ko.eq_3,@bu.eq_1,@bu.eq_2,@bu.eq_3,@bu.eq_4,@bu.eq_5,@bu.eq_6,@ep.eq_1,@ep.eq_2,@ep.eq_3,@ep.eq_4,@ep.eq_5,@ep.eq_6,@ll.eq_1,@ll.eq_2,@sB.eq_1,@sB.eq_2,@sB.eq_3,@sB.eq_4,@alive.eq_1,@alive.eq_2,@alive.eq_3,@nm.eq_1,@nm.eq_2,@ey.eq_1,@ey.eq_2,@ey.eq_3,@ey.eq_4,@ey.eq_5,@ey.eq_6,@bQ.eq_1,@bQ.eq_2,@l3.eq_1,@gh.eq_1,@gh.eq_2,@gh.eq_3,@ja.eq_1,@ja.eq_2,@BE.eq_1,@aU.eq_1,@aU.eq_2,@aU.eq_3,@aU.eq_4,@eh.eq_1,@eh.eq_2,@eh.eq_3,@bJ.eq_1,@bJ.eq_2,@bJ.eq_3,@bJ.eq_4,@bJ.eq_5,@bJ.eq_6,@dj.eq_1,@fh.eq_1,@fh.eq_2,@fieldAt.eq_1,@cv.eq_1,@lV.eq_1,@fI.eq_1,@content.eq_1,@content.eq_2,@content.eq_3,@putCells.eq_1,@MV.eq_1,@MV.eq_2,@MV.eq_3,@MV.eq_4,@HU.eq_1,@HU.eq_2,@HU.eq_3,@HU.eq_4,@Kl.eq_1,@Kl.eq_2,@Kl.eq_3,@dq.eq_1,@dq.eq_2,@dq.eq_3,@kindOk.eq_1,@kindOk.eq_2,@kindOk.eq_3,@kindOk.eq_4,@gZ.eq_1,@gZ.eq_2,@gZ.eq_3,@gZ.eq_4,@j5.eq_1,@j5.eq_2,@j5.eq_3,@j5.eq_4,@j5.eq_5,@j5.eq_6,@j5.eq_7,@j5.eq_8,@nS.eq_1,@nS.eq_2,@nS.eq_3,@aF.eq_1,@aF.eq_2,@aF.eq_3,@aF.eq_4,@aF.eq_5,@aF.eq_6,@aF.eq_7,@lv.eq_1,@lv.eq_2,@oB.eq_1,@oB.eq_2,@oB.eq_3,@oB.eq_4⟩
theorem Ua:type_of% (ai @z7<|ai @zY<|ai @zZ<|ai @Kn<|ai @FO<|ai @FA<|ai @FI<|ai @Bs<|ai @Ft<|ai @Fu<|ai @xE<|ai @Fx<|ai @Fw<|ai @A6<|ai @F6<|ai @Gh<|ai @JR<|ai @wx<|ai @wy<|ai @z8<|ai @Ko<|ai @FP<|ai @FB<|ai @Bt<|ai @FJ<|ai @xK<|ai @FM<|ai @FL<|ai @A9<|ai @JS<|@wz):=⟨@z7,@zY,@zZ,@Kn,@FO,@FA,@FI,@Bs,@Ft,@Fu,@xE,@Fx,@Fw,@A6,@F6,@Gh,@JR,@wx,@wy,@z8,@Ko,@FP,@FB,@Bt,@FJ,@xK,@FM,@FL,@A9,@JS,@wz⟩
section
variable {T:Nat->Option Ty} {Γ:Env} {N F e:Nat} {Q Q':Kt} {t:Nat->D} {h:Nat->Option Row}
theorem e9 (hm:∀x t h e,Q x t h e->Q' x t h e):∀(ws:List W) (x:Ex) (t:Nat->D) (h:Nat->Option Row) (e:Nat),bX T Γ N F ws Q x t h e->bX T Γ N F ws Q' x t h e
 | [],x,t,h,e,hk=>hm _ _ _ _ hk
 | .code c::ws,x,t,h,e,hk=>by
  unfold bX at hk ⊢;cases x with
  | normal=>exact MU c t h e _ _ hk (fun x t h e U=>e9 hm ws x t h e U)
  | exit n=>exact e9 hm ws _ t h e hk
  | ret=>exact e9 hm ws _ t h e hk
 | .blk id::ws,x,t,h,e,hk=>by
  unfold bX Nz at hk ⊢;cases x with
  | normal=>exact e9 hm ws _ t h e hk
  | exit n =>
   simp only at hk ⊢;split at hk
   ·rename_i O;rw[if_pos O];exact e9 hm ws _ t h e hk
   ·rename_i O;rw[if_neg O];exact e9 hm ws _ t h e hk
  | ret=>exact e9 hm ws _ t h e hk
theorem lG:∀(ws:List W) (k:Nat),bX T Γ N F ws Q=bX T Γ N F (ws.take k) (bX T Γ N F (ws.drop k) Q)
 | ws,0=>by simp[bX]
 | [],k+1=>by simp[bX]
 | .code c::ws,k+1=>by
  rw[XA,Xz];funext x t h e;unfold bX;rw[lG ws k]
 | .blk id::ws,k+1=>by
  rw[XA,Xz];funext x t h e;unfold bX;rw[lG ws k]
variable {σ:Type} {ops l:List Oper} {ws:List W} {dst:Option Nat} {fs:List gQ} {d:D} {g:Nat}
theorem nU {J:σ->(Nat->D)->(Nat->Option Row)->Nat->Prop} {P:σ->Prop} {R:Kt} (O:∀s t h e,J s t h e->P s->R .normal t h e):∀x t h e,CK J P R x t h e->R x t h e:=by
 intro x t h e U;cases x with
 | normal=>obtain⟨s,h1,h2⟩:=U;exact O s t h e h2 h1
 | exit n=>exact U
 | ret=>exact U
theorem qm (hm:∀x t h e,Q x t h e->Q' x t h e) (hk:iE T Γ N F ops l ws Q t h e):iE T Γ N F ops l ws Q' t h e:=qo (fun t h O=>e9 hm ws _ _ _ _ O) _ _ _ hk
theorem qn (hm:∀x t h e,Q x t h e->Q' x t h e) (hk:iF T Γ N F ops l ws Q t h e fs):iF T Γ N F ops l ws Q' t h e fs:=ql (fun t h fs O=>⟨O.1,e9 hm ws _ _ _ _ O.2⟩) _ _ _ _ hk
theorem nP (k:Nat):iE T Γ N F ops l ws Q t h e=iE T Γ N F ops l (ws.take k) (bX T Γ N F (ws.drop k) Q) t h e:=by unfold iE;rw[lG ws k]
theorem nQ (k:Nat):iF T Γ N F ops l ws Q t h e fs=iF T Γ N F ops l (ws.take k) (bX T Γ N F (ws.drop k) Q) t h e fs:=by unfold iF;rw[lG ws k]
theorem Aw (k:Nat) {o:Oper} : kH T Γ N F o ops l ws Q t h e=kH T Γ N F o ops l (ws.take k) (bX T Γ N F (ws.drop k) Q) t h e:=by
 unfold kH;congr 1;funext t E;rw[nP k]
theorem AF (k:Nat) {o:Oper} : kI T Γ N F o ops l ws Q t h e fs=kI T Γ N F o ops l (ws.take k) (bX T Γ N F (ws.drop k) Q) t h e fs:=by
 unfold kI;congr 1;funext t E;rw[nQ k]
theorem EB {o:Oper} (hm:∀x t h e,Q x t h e->Q' x t h e) (hk:kH T Γ N F o ops l ws Q t h e):kH T Γ N F o ops l ws Q' t h e:=s3 hk fun _ _ O=>qm hm O
theorem EI {o:Oper} (hm:∀x t h e,Q x t h e->Q' x t h e) (hk:kI T Γ N F o ops l ws Q t h e fs):kI T Γ N F o ops l ws Q' t h e fs:=s3 hk fun _ _ O=>qn hm O
variable (k:Nat) (J:σ->(Nat->D)->(Nat->Option Row)->Nat->Prop) (P:σ->Prop)
theorem j7 {x y:Code} (O:∀s t h e,J s t h e->P s->bX T Γ N F (ws.drop k) Q .normal t h e) (X:DA T Γ N F d g x y (ws.take k) (CK J P (bX T Γ N F (ws.drop k) Q)) t h e):DA T Γ N F d g x y ws Q t h e:=by
 unfold DA at X ⊢;have Y:∀c:Code,bX T Γ N F (.code c::ws) Q=bX T Γ N F (.code c::ws.take k) (bX T Γ N F (ws.drop k) Q):=fun c=>lG (.code c::ws) (k+1);rw[Y,Y];exact sY X (fun _ U=>e9 (nU O) _ _ _ _ _ U) (fun _ U=>e9 (nU O) _ _ _ _ _ U)
theorem b4 {want:Bool} {o:Oper} (O:∀s t h e,J s t h e->P s->bX T Γ N F (ws.drop k) Q .normal t h e) (X:qz T Γ N F d g want o ops l (ws.take k) (CK J P (bX T Γ N F (ws.drop k) Q)) t h e):qz T Γ N F d g want o ops l ws Q t h e:=by
 unfold qz at X ⊢;refine y3 X (fun t U =>?_) (fun t U =>?_) (fun t U =>?_)
 ·cases want
  ·simp only[Wg,if_false]at U ⊢;rw[nP k];exact qm (nU O) U
  ·simp only[if_true]at U ⊢;rw[Aw k];exact EB (nU O) U
 ·cases want
  ·simp only[Wg,if_false]at U ⊢;rw[Aw k];exact EB (nU O) U
  ·simp only[if_true]at U ⊢;rw[nP k];exact qm (nU O) U
 ·rw[nP k];exact qm (nU O) U
theorem PW {want:Bool} {o:Oper} (O:∀s t h e,J s t h e->P s->bX T Γ N F (ws.drop k) Q .normal t h e) (X:qA T Γ N F d g want o ops l (ws.take k) (CK J P (bX T Γ N F (ws.drop k) Q)) t h e fs):qA T Γ N F d g want o ops l ws Q t h e fs:=by
 unfold qA at X ⊢;refine y3 X (fun t U =>?_) (fun t U =>?_) (fun t U =>?_)
 ·cases want
  ·simp only[Wg,if_false]at U ⊢;rw[nQ k];exact qn (nU O) U
  ·simp only[if_true]at U ⊢;rw[AF k];exact EI (nU O) U
 ·cases want
  ·simp only[Wg,if_false]at U ⊢;rw[AF k];exact EI (nU O) U
  ·simp only[if_true]at U ⊢;rw[nQ k];exact qn (nU O) U
 ·rw[nQ k];exact qn (nU O) U
end
def QJ {α β γ:Type} (ty:Nat) (E:iS γ) (A:fX α) (F:List γ->α->Option (List γ×β)) (R:β->RK):Option (D×Row)->List D->Option (RK×Option Row):=fun lent ds =>
 match lent with
 | some (.buf 0 0 s o n,⟨0,O,cells,false,true,false⟩)=>open Classical in
  if h:O=ty∧s=E.size∧∃p:List D×List γ×List D×α,cells=p.1++(ae E p.2.1++p.2.2.1)∧o=p.1.length∧n=p.2.1.length∧ds=A.ds p.2.2.2 then
   (F (Classical.choose h.2.2).2.1 (Classical.choose h.2.2).2.2.2).map fun r=>(R r.2,some ⟨0,ty,(Classical.choose h.2.2).1++(ae E r.1++(Classical.choose h.2.2).2.2.1),false,true,false⟩)
  else none
 | _=>none
theorem LD {γ:Type} {E:iS γ} {p O q U:List D} {l l':List γ} (h:p++(ae E l++q)=O++(ae E l'++U)) (X:p.length=O.length) (Y:l.length=l'.length):p=O∧l=l'∧q=U:=by
 obtain⟨h1,h2⟩:=List.append_inj h X;obtain⟨h3,h4⟩:=List.append_inj h2 (by rw[bR,bR,Y]);exact⟨h1,sk E _ _ h3,h4⟩
theorem OU {α β γ:Type} (ty:Nat) (E:iS γ) (A:fX α) (F:List γ->α->Option (List γ×β)) (R:β->RK) (pre post:List D) (l:List γ) (a:α) :
  QJ ty E A F R (some (.buf 0 0 E.size pre.length l.length,⟨0,ty,pre++(ae E l++post),false,true,false⟩)) (A.ds a)=(F l a).map fun r=>(R r.2,some ⟨0,ty,pre++(ae E r.1++post),false,true,false⟩):=by
 have h:ty=ty∧E.size=E.size∧∃p:List D×List γ×List D×α,pre++(ae E l++post)=p.1++(ae E p.2.1++p.2.2.1)∧pre.length=p.1.length∧l.length=p.2.1.length∧A.ds a=A.ds p.2.2.2:=⟨rfl,rfl,(pre,l,post,a),rfl,rfl,rfl,rfl⟩;simp only[QJ];rw[dif_pos h];obtain⟨h1,h2,h3,h4⟩:=Classical.choose_spec h.2.2;obtain⟨O,U,X⟩:=LD h1 h2 h3;rw[<- A.inj _ _ h4,<- O,<- U,<- X]
theorem Gr {α β γ:Type} {ty:Nat} {E:iS γ} {A:fX α} {F:List γ->α->Option (List γ×β)} {R:β->RK} {lent:Option (D×Row)} {ds:List D} {rk:RK} {out:Option Row} (h:QJ ty E A F R lent ds=some (rk,out)) :
  ∃pre l post a l' r,lent=some (.buf 0 0 E.size pre.length l.length,⟨0,ty,pre++(ae E l++post),false,true,false⟩)∧ds=A.ds a∧F l a=some (l',r)∧rk=R r∧out=some ⟨0,ty,pre++(ae E l'++post),false,true,false⟩:=by
 unfold QJ at h;split at h
 ·split at h
  ·rename_i he;obtain⟨rfl,rfl,he⟩:=he;rw[VD]at h;obtain⟨⟨l',r⟩,h1,h2⟩:=h;simp only[Prod.mk.injEq]at h2;obtain⟨rfl,rfl⟩:=h2;obtain⟨g1,g2,g3,g4⟩:=Classical.choose_spec he;refine⟨_,_,_,_,l',r,?_,g4,h1,rfl,rfl⟩;rw[<- g1,<- g2,<- g3]
  ·cases h
 ·cases h
theorem bN.Tl {P:Program} {T:Nat->Option Ty} {Γ:Env} (X:fb P T) (Y:bt P Γ) (hm:P.follows .mixedOrders=true) {α β γ:Type} {ty:Nat} {E:iS γ} {A:fX α} {F:List γ->α->Option (List γ×β)} {R:β->RK} {mode:Mode} {f:FuncId} {fn:Func} (U:P.funcs[f]? = some fn) (O:(match fn.body with|some c=>codeOk c|none=>true)=true)
  (Z:(fn.name == "runtime.NumGoroutine")=false∧fn.body.isNone=false) (hn:∀a,(A.ds a).length+1<=fn.ntmps)
  (h:∀pre post l a l' r,F l a=some (l',r)->iQ mode T Γ FU fn (some (.buf 0 0 E.size pre.length l.length,⟨0,ty,pre++(ae E l++post),false,true,false⟩)) (A.ds a)=some (R r,some ⟨0,ty,pre++(ae E l'++post),false,true,false⟩)):bN P f (QJ ty E A F R) where
 calls lent VA rk out hg:=by
  obtain⟨pre,l,post,a,l',r,rfl,rfl,hr,rfl,rfl⟩:=Gr hg;exact gA X Y hm U O (hn a) rfl (h pre post l a l' r hr)
 callable:=⟨fn,U,Z⟩
def S1 {α γ:Type} (ty:Nat) (E:iS γ) (A:fX α) (F:List γ->α->Option (List γ)):Option (D×Row)->List D->Option (RK×Option Row):=fun lent ds =>
 match lent with
 | some (.buf 0 0 s o n,⟨0,O,cells,false,true,false⟩)=>open Classical in
  if h:O=ty∧s=E.size∧∃p:List D×List γ×List D×α,cells=p.1++(ae E p.2.1++p.2.2.1)∧o=p.1.length∧n=p.2.1.length∧ds=A.ds p.2.2.2 then
   (F (Classical.choose h.2.2).2.1 (Classical.choose h.2.2).2.2.2).map fun r=>(.fresh ty E.size r.length (ae E r),none)
  else none
 | _=>none
theorem SB {α γ:Type} (ty:Nat) (E:iS γ) (A:fX α) (F:List γ->α->Option (List γ)) (pre post:List D) (l:List γ) (a:α) :
  S1 ty E A F (some (.buf 0 0 E.size pre.length l.length,⟨0,ty,pre++(ae E l++post),false,true,false⟩)) (A.ds a)=(F l a).map fun r=>(.fresh ty E.size r.length (ae E r),none):=by
 have h:ty=ty∧E.size=E.size∧∃p:List D×List γ×List D×α,pre++(ae E l++post)=p.1++(ae E p.2.1++p.2.2.1)∧pre.length=p.1.length∧l.length=p.2.1.length∧A.ds a=A.ds p.2.2.2:=⟨rfl,rfl,(pre,l,post,a),rfl,rfl,rfl,rfl⟩;simp only[S1];rw[dif_pos h];obtain⟨h1,h2,h3,h4⟩:=Classical.choose_spec h.2.2;obtain⟨U,O,X⟩:=LD h1 h2 h3;rw[<- A.inj _ _ h4,<- O]
theorem OR {α γ:Type} {ty:Nat} {E:iS γ} {A:fX α} {F:List γ->α->Option (List γ)} {lent:Option (D×Row)} {ds:List D} {rk:RK} {out:Option Row} (h:S1 ty E A F lent ds=some (rk,out)) :
  ∃pre l post a r,lent=some (.buf 0 0 E.size pre.length l.length,⟨0,ty,pre++(ae E l++post),false,true,false⟩)∧ds=A.ds a∧F l a=some r∧rk=.fresh ty E.size r.length (ae E r)∧out=none:=by
 unfold S1 at h;split at h
 ·split at h
  ·rename_i he;obtain⟨rfl,rfl,he⟩:=he;rw[VD]at h;obtain⟨r,h1,h2⟩:=h;simp only[Prod.mk.injEq]at h2;obtain⟨rfl,rfl⟩:=h2;obtain⟨g1,g2,g3,g4⟩:=Classical.choose_spec he;refine⟨(Classical.choose he).1,(Classical.choose he).2.1,(Classical.choose he).2.2.1,(Classical.choose he).2.2.2,r,?_,g4,h1,rfl,rfl⟩;rw[<- g1,<- g2,<- g3]
  ·cases h
 ·cases h
theorem bN.Tk {P:Program} {T:Nat->Option Ty} {Γ:Env} (X:fb P T) (Y:bt P Γ) (hm:P.follows .mixedOrders=true) {α γ:Type} {ty:Nat} {E:iS γ} {A:fX α} {F:List γ->α->Option (List γ)} {f:FuncId} {fn:Func} (U:P.funcs[f]? = some fn) (O:(match fn.body with|some c=>codeOk c|none=>true)=true)
  (Z:(fn.name == "runtime.NumGoroutine")=false∧fn.body.isNone=false) (hn:∀a,(A.ds a).length+1<=fn.ntmps)
  (h:∀pre post l a r,F l a=some r->iQ (.fresh ty E.size) T Γ FU fn (some (.buf 0 0 E.size pre.length l.length,⟨0,ty,pre++(ae E l++post),false,true,false⟩)) (A.ds a)=some (.fresh ty E.size r.length (ae E r),none)):bN P f (S1 ty E A F) where
 calls lent VA rk out hg:=by
  obtain⟨pre,l,post,a,r,rfl,rfl,hr,rfl,rfl⟩:=OR hg;exact gA X Y hm U O (hn a) rfl (h pre post l a r hr)
 callable:=⟨fn,U,Z⟩
theorem bN.zero {P:Program} {f:FuncId} {fn:Func} (U:P.funcs[f]? = some fn) (X:(fn.name == "runtime.NumGoroutine")=false∧fn.body.isNone=false) {α β:Type} {A:fX α} {F:α->Option β} {R:β->RK} (Y:∀a,F a=none):bN P f (dR A F R) where
 calls lent VA rk out Z:=by
  obtain⟨rfl,rfl,a,r,rfl,O,rfl⟩:=sG Z;rw[Y]at O;cases O
 callable:=⟨fn,U,X⟩
section
variable {h:Nat->Option Row} {Γ:Env} {g e x v d:Nat} {dst:Option Nat} {fr:List Nat} {VA rest:List D} {d0:D} {T:Nat->Option Ty} {rs:List ResultVar}
def z6 (h:Nat->Option Row) (e:Nat) (dst:Option Nat) (x v:Nat) (fr:List Nat):Option (RK×Option Row)->Option aR
 | some (.clean c,some O)=>some ⟨c,fB h fr++[(x,some { O with v:=v })]⟩
 | some (.same s o n,some O)=>some ⟨.buf x v s o n,fB h fr++[(x,some { O with v:=v })]⟩
 | some (.fresh ty s n cells,none) =>
  match dst with
  | some d=>if fr.contains d=false then some ⟨.buf d e s 0 n,fB h fr++[(x,none),(d,some ⟨e,ty,cells,false,true,false⟩)]⟩ else none
  | none=>none
 | _=>none
def ND (Γ:Env) (h:Nat->Option Row) (e:Nat) (dst:Option Nat) (g x v:Nat) (d0:D) (r:Row):Option (List D×List Nat)->Option aR
 | some (VA,fr)=>if fr.contains x=false then z6 h e dst x v fr (Γ.sem g (some (d0,r)) VA) else none
 | none=>none
def DY (Γ:Env) (h:Nat->Option Row) (e:Nat) (dst:Option Nat) (g x v:Nat) (d0:D) (rest:List D):Option Row->Option aR
 | some r=>if r.fz=false then ND Γ h e dst g x v d0 { r with v:=0 } (aO h rest) else none
 | none=>none
theorem DZ {s o n:Nat} : ve true Γ h e dst g (.buf x v s o n::rest)=DY Γ h e dst g x v (.buf 0 0 s o n) rest (live h x v):=by
 simp only[ve,if_true,kR,sC];cases live h x v with
 | none=>rfl
 | some r =>
  simp only[DY];cases aO h rest with
  | none=>rfl
  | some p=>rfl
def S0 (v:Nat):Option Row->Option Row
 | some r=>if r.v=v∧r.mp=true∧mL r=true then some r else none
 | none=>none
theorem Gi {v ty:Nat} {ks:List bC} {vs:List D} {fz lst:Bool} (O:ty<900000):S0 v (some ⟨v,ty,[.mpc ks vs],fz,lst,true⟩)=some ⟨v,ty,[.mpc ks vs],fz,lst,true⟩:=by simp[S0,mL,O]
theorem JT:ve true Γ h e dst g (.mp x v::rest)=DY Γ h e dst g x v (.mp 0 0) rest (S0 v (h x)):=by
 simp only[ve,if_true,kR,sC];have:rv h x v=S0 v (h x):=by unfold rv S0;cases h x<;>rfl
 rw[this];cases S0 v (h x) with
 | none=>rfl
 | some r =>
  simp only[DY];cases aO h rest with
  | none=>rfl
  | some p=>rfl
theorem rT {c:D} {O ty:Nat} {cells:List D} {fz lst:Bool} : z6 h e dst x v fr (some (.clean c,some ⟨O,ty,cells,fz,lst,true⟩))=some ⟨c,fB h fr++[(x,some ⟨v,ty,cells,fz,lst,true⟩)]⟩:=Yc
theorem wA {r:Row} : DY Γ h e dst g x v d0 rest (some r)=if r.fz=false then ND Γ h e dst g x v d0 { r with v:=0 } (aO h rest) else none:=Yc
theorem wB {r:Row} : ND Γ h e dst g x v d0 r (some (VA,fr))=if fr.contains x=false then z6 h e dst x v fr (Γ.sem g (some (d0,r)) VA) else none:=Yc
theorem tZ {c:D} {O ty:Nat} {cells:List D} {fz lst:Bool} : z6 h e dst x v fr (some (.clean c,some ⟨O,ty,cells,fz,lst,false⟩))=some ⟨c,fB h fr++[(x,some ⟨v,ty,cells,fz,lst,false⟩)]⟩:=Yc
theorem wC {s o n O ty:Nat} {cells:List D} {fz lst:Bool} : z6 h e dst x v fr (some (.same s o n,some ⟨O,ty,cells,fz,lst,false⟩))=some ⟨.buf x v s o n,fB h fr++[(x,some ⟨v,ty,cells,fz,lst,false⟩)]⟩:=Yc
theorem ua {s n ty:Nat} {cells:List D} : z6 h e (some d) x v fr (some (.fresh ty s n cells,none))=if fr.contains d=false then some ⟨.buf d e s 0 n,fB h fr++[(x,none),(d,some ⟨e,ty,cells,false,true,false⟩)]⟩ else none:=Yc
theorem uF {ty O i:Nat} {t:Nat->D} {l:D×Row} : fp (.fresh ty O) T (some l) [.tmp i] ⟨t,h,e⟩=jB ty O h (t i):=Yc
def Tc (y v s o:Nat):Option Row->Option Ty->Option (Nat×Nat)->Option aR
 | some _,some φ,some (l,k)=>if φ.size=s∧0<s then some ⟨.buf y v s (o+l*s) (k-l),[]⟩ else none
 | _,_,_=>none
theorem AT {y v s o l k:Nat} {r:Row} {φ:Ty} : Tc y v s o (some r) (some φ) (some (l,k))=if φ.size=s∧0<s then some ⟨.buf y v s (o+l*s) (k-l),[]⟩ else none:=Yc
theorem Km {el b c y v s o n:Nat} {z:List Value} {q:Bool} {O U:Option D} : bJ T ⟨.slice el,b,c,z,q⟩ h (.buf y v s o n) O U none=Tc y v s o (live h y v) (T el) (oB n O U):=by
 simp only[bJ];cases live h y v with
 | none=>rfl
 | some r =>
  simp only;cases T el with
  | none=>rfl
  | some φ =>
   cases oB n O U with
   | none=>rfl
   | some p=>rfl
def Sl (ty:Nat):Option (List D×List Nat)->Option Row->Option (RK×Option Row)
 | some (ds,fr),some r=>if r.v=0∧r.fz=false∧r.ty=ty∧r.mp=false∧fr.contains 0=false then some (.clean (iD ds),some r) else none
 | _,_=>none
theorem AQ {ty:Nat} {ds:List D} {r:Row} : Sl ty (some (ds,fr)) (some r)=if r.v=0∧r.fz=false∧r.ty=ty∧r.mp=false∧fr.contains 0=false then some (.clean (iD ds),some r) else none:=Yc
theorem AR {t:Nat->D} {ty v:Nat} {cells:List D} {fz lst:Bool} : fp .clean T (some (d0,⟨v,ty,cells,fz,lst,false⟩)) rs ⟨t,h,e⟩=Sl ty (nM T ⟨t,h,e⟩ rs) (h 0):=by
 simp only[fp,lk,gG,O0,Sl];cases nM T ⟨t,h,e⟩ rs with
 | none=>rfl
 | some p =>
  obtain⟨ds,fr⟩:=p;cases h 0 with
  | none=>rfl
  | some r =>
   simp only
   by_cases h1:r.v=0∧r.fz=false∧r.ty=ty∧r.mp=false
   ·rw[if_pos ⟨h1.1,h1.2.1,h1.2.2.1,h1.2.2.2,nB h1.2.2.2⟩];simp only[Wi]
    by_cases h2:fr.contains 0=false
    ·rw[if_pos h2,if_pos ⟨h1.1,h1.2.1,h1.2.2.1,h1.2.2.2,h2⟩]
    ·rw[if_neg h2,if_neg (fun O=>h2 O.2.2.2.2)]
   ·rw[if_neg (fun O=>h1 ⟨O.1,O.2.1,O.2.2.1,O.2.2.2.1⟩),if_neg (fun O=>h1 ⟨O.1,O.2.1,O.2.2.1,O.2.2.2.1⟩)]
def Kj (ty:Nat):Option (List D×List Nat)->Option Row->Option (RK×Option Row)
 | some (ds,fr),some r=>if r.v=0∧r.fz=false∧r.ty=ty∧(r.mp=true∧mL r=true)∧fr.contains 0=false then some (.clean (iD ds),some r) else none
 | _,_=>none
theorem xj {ty:Nat} {ds:List D} {ks:List bC} {vs:List D} {lst:Bool} (O:ty<900000):Kj ty (some (ds,fr)) (some ⟨0,ty,[.mpc ks vs],false,lst,true⟩)=if fr.contains 0=false then some (.clean (iD ds),some ⟨0,ty,[.mpc ks vs],false,lst,true⟩) else none:=by
 simp[Kj,mL,O]
theorem xm {t:Nat->D} {ty v:Nat} {cells:List D} {fz lst:Bool} : fp .clean T (some (d0,⟨v,ty,cells,fz,lst,true⟩)) rs ⟨t,h,e⟩=Kj ty (nM T ⟨t,h,e⟩ rs) (h 0):=by
 simp only[fp,lk,gG,O0,Kj];cases nM T ⟨t,h,e⟩ rs with
 | none=>rfl
 | some p =>
  obtain⟨ds,fr⟩:=p;cases h 0 with
  | none=>rfl
  | some r =>
   simp only
   by_cases h1:r.v=0∧r.fz=false∧r.ty=ty∧(r.mp=true∧mL r=true)
   ·rw[if_pos h1];simp only[Wi]
    by_cases h2:fr.contains 0=false
    ·rw[if_pos h2,if_pos ⟨h1.1,h1.2.1,h1.2.2.1,h1.2.2.2,h2⟩]
    ·rw[if_neg h2,if_neg (fun O=>h2 O.2.2.2.2)]
   ·rw[if_neg h1,if_neg (fun O=>h1 ⟨O.1,O.2.1,O.2.2.1,O.2.2.2.1⟩)]
def Qz (ty:Nat):D->Option Row->Option (RK×Option Row)
 | .buf 0 0 s o n,some r=>if r.v=0∧r.fz=false∧r.ty=ty∧r.mp=false then some (.same s o n,some r) else none
 | _,_=>none
theorem E5 {ty s o n:Nat} {r:Row} : Qz ty (.buf 0 0 s o n) (some r)=if r.v=0∧r.fz=false∧r.ty=ty∧r.mp=false then some (.same s o n,some r) else none:=Yc
theorem AS {t:Nat->D} {ty v i:Nat} {cells:List D} {fz lst:Bool} : fp .same T (some (d0,⟨v,ty,cells,fz,lst,false⟩)) [.tmp i] ⟨t,h,e⟩=Qz ty (t i) (h 0):=by
 simp only[fp,vN,gG];generalize t i=q;cases q with
 | buf a b s o n =>
  cases h 0 with
  | none=>rcases a with _|a<;>rcases b with _|b<;>rfl
  | some r =>
   simp only;have U:(r.v=0∧r.fz=false∧r.ty=ty∧r.mp=false∧mL r=true)↔(r.v=0∧r.fz=false∧r.ty=ty∧r.mp=false):=⟨fun O=>⟨O.1,O.2.1,O.2.2.1,O.2.2.2.1⟩,fun O=>⟨O.1,O.2.1,O.2.2.1,O.2.2.2,nB O.2.2.2⟩⟩
   by_cases h1:r.v=0∧r.fz=false∧r.ty=ty∧r.mp=false
   ·rcases a with _|a<;>rcases b with _|b<;>simp[Qz,h1,nB h1.2.2.2]
   ·rcases a with _|a<;>rcases b with _|b<;>simp only[Qz,U,h1,if_false]<;>rfl
 | _=>rfl
end
section
variable {α:Type} (E:iS α) {l m u x:List α} {y y':α} {i a b:Int} {pre post:List D}
theorem Q3 (h:zw l a b=some x):ae E (l.take a.toNat)++(ae E x++ae E (l.drop b.toNat))=ae E l:=by
 unfold zw at h;split at h
 ·rename_i O;cases h;rw[<- gi,<- gi];congr 1;have e:l.drop b.toNat=(l.drop a.toNat).drop (b.toNat-a.toNat):=by rw[Xs];congr 1;omega
  rw[e,Xt,Xt]
 ·cases h
theorem Q4 (h:zw l a b=some x):(ae E (l.take a.toNat)).length=a.toNat*E.size:=by
 unfold zw at h;split at h
 ·rw[bR,VZ,WS (by omega)]
 ·cases h
theorem R1 (h:zw l a b=some x):x.length=b.toNat-a.toNat:=by
 unfold zw at h;split at h
 ·cases h;simp;omega
 ·cases h
theorem Q2:ae E (l.take i.toNat)++(ae E u++ae E (l.drop b.toNat))=ae E (l.take i.toNat++(u++l.drop b.toNat)):=by rw[gi,gi]
theorem OC (h:P.idx l i=some y):(pre++(ae E l++post)).drop (pre.length+i.toNat*E.size)=E.cells y++(ae E (l.drop (i.toNat+1))++post):=by
 rw[<- Xs,List.drop_left,W1 (by rw[bR];have:=ny E h;omega),sA E h,W0]
theorem OD (h:P.idx l i=some y):pre.length+i.toNat*E.size+E.size<=(pre++(ae E l++post)).length:=by
 have:=ny E h;rw[WN,WN,bR];omega
theorem FF (h:P.idx l i=some y):(0<=i∧i<l.length)∧(pre++(ae E l++post)).drop (pre.length+i.toNat*E.size)=E.cells y++(ae E (l.drop (i.toNat+1))++post)∧pre.length+i.toNat*E.size+E.size<=(pre++(ae E l++post)).length:=⟨IF h,OC E h,OD E h⟩
theorem G1 (h:P.idx l i=some y):putCells (pre++(ae E l++post)) (pre.length+i.toNat*E.size) (E.cells y')=pre++(ae E (l.set i.toNat y')++post):=by
 have h1:=Pe E (x':=y') h;have X:=ny E h;have Y:=bR E l;unfold putCells at h1 ⊢;rw[<- h1,E.len];have O:(pre++(ae E l++post)).take (pre.length+i.toNat*E.size)=pre++(ae E l).take (i.toNat*E.size):=by
  rw[W3,W5 (by omega),W2,W4 (by omega)]
 have U:(pre++(ae E l++post)).drop (pre.length+i.toNat*E.size+E.size)=(ae E l).drop (i.toNat*E.size+E.size)++post:=by
  rw[V1,Xq,Xr (by omega),W2,Xo,W1 (by omega)]
 rw[O,U];simp only[W0]
theorem P0 (h:zw l a b=some x) (hu:u.length=x.length):(l.take a.toNat++(u++l.drop b.toNat)).length=l.length:=by
 have O:=R1 h;unfold zw at h;split at h
 ·simp only[WN,VZ,V0];omega
 ·cases h
theorem QW (h:zw l 0 b=some x):pre.length+x.length*E.size<=(pre++(ae E l++post)).length∧((pre++(ae E l++post)).drop pre.length).take (x.length*E.size)=ae E x:=by
 obtain⟨h1,h2,h3,h4,h5⟩:=yK E h;have:=Ws E.size h3;refine⟨by rw[WN,WN,bR];omega,?_⟩;rw[List.drop_left,W4 (by rw[bR];exact this),h5]
end
section
variable {h:Nat->Option Row} {Γ:Env} {e:Nat} {dst:Option Nat}
def U8:Option (D×List Nat)->Option (List D×List Nat)->Option (List D×List Nat)
 | some (d,fr),some (ds,O)=>some (d::ds,fr++O)
 | _,_=>none
theorem DX {d:D} {ds:List D} {fr O:List Nat} : U8 (some (d,fr)) (some (ds,O))=some (d::ds,fr++O):=Yc
theorem Eb:bU h []=some ([],[]):=Yc
theorem Aj {d:D} {ds:List D} : bU h (d::ds)=U8 (aD h d) (bU h ds):=by
 simp only[bU];cases aD h d with
 | none=>rfl
 | some x=>cases bU h ds<;>rfl
theorem JW {k:IntKind} {n:Int} : aD h (.int k n)=some (.int k n,[]):=Yc
theorem Ea {b:Bool} : aD h (.bool b)=some (.bool b,[]):=Yc
theorem JZ {b:ByteArray} : aD h (.str b)=some (.str b,[]):=Yc
theorem NO {a b:Bool} {n:Nat} {xs:List D} : aD h (.sl a b n xs)=some (.sl false false n xs,[]):=Yc
theorem JV {xs:List D} : aD h (.agg xs)=some (.agg (xs.map canon),[]):=Yc
theorem NJ {f:Nat} : aD h (.fn f)=some (.fn f,[]):=Yc
def U9 (f k:Nat):Option (List D×List Nat)->Option (D×List Nat)
 | some (O,fr)=>some (.clo f k O,fr)
 | none=>none
theorem El {f k:Nat} {O:List D} {fr:List Nat} : U9 f k (some (O,fr))=some (.clo f k O,fr):=Yc
theorem Ef {f k:Nat} {xs:List D} : aV h (.clo f k xs)=U9 f k (bU h xs):=by
 simp only[aV]<;>cases bU h xs<;>rfl
theorem D7 {g k:Nat} {caps args:List D} : eV Γ h e dst (.clo g k caps) args=if caps.all fU then ve false Γ h e dst g (caps.take k++(args++caps.drop k)) else none:=by
 simp only[eV,ve,Wg,if_false]
theorem KZ {k:IntKind} {n:Int} : fU (.int k n)=true:=Yc
theorem GU {b:Bool} : fU (.bool b)=true:=Yc
theorem K2 {b:ByteArray} : fU (.str b)=true:=Yc
theorem O7 {a b:Bool} {n:Nat} {xs:List D} : fU (.sl a b n xs)=true:=Yc
theorem KY {xs:List D} : fU (.agg xs)=true:=Yc
theorem O3 {f:Nat} : fU (.fn f)=true:=Yc
end
theorem yx:iD []=.tup []:=Yc
def Qh (f:Nat):Arg Unit:=⟨fun _ =>.fn f,fun _ _ _=>rfl⟩
theorem Rg {f:Nat} {x:Unit} : (Qh f).d x=.fn f:=Yc
def R7 {α:Type} (f k:Nat) (a:fX α):Arg α:=⟨fun x =>.clo f k (a.ds x),fun x y h=>a.inj _ _ (by simpa using h)⟩
theorem Nc {α:Type} {f k:Nat} {a:fX α} {x:α} : (R7 f k a).d x=.clo f k (a.ds x):=Yc
theorem Vi:type_of% (ai @DX<|ai @Eb<|ai @Aj<|ai @JW<|ai @Ea<|ai @JZ<|ai @NO<|ai @JV<|ai @NJ<|ai @El<|ai @Ef<|ai @D7<|ai @KZ<|ai @GU<|ai @K2<|ai @O7<|ai @KY<|ai @O3<|ai @yx<|ai @sc<|ai @sf<|@vK):=⟨@DX,@Eb,@Aj,@JW,@Ea,@JZ,@NO,@JV,@NJ,@El,@Ef,@D7,@KZ,@GU,@K2,@O7,@KY,@O3,@yx,@sc,@sf,@vK⟩
theorem Vh:type_of% (ai @G7<|ai @WI<|ai @Km<|ai @AT<|ai @ua<|ai @uF<|ai @DZ<|ai @JT<|ai @Gi<|ai @rT<|ai @xj<|ai @xm<|ai @wA<|ai @wB<|ai @tZ<|ai @wC<|ai @AQ<|ai @AR<|ai @E5<|@AS):=⟨@G7,@WI,@Km,@AT,@ua,@uF,@DZ,@JT,@Gi,@rT,@xj,@xm,@wA,@wB,@tZ,@wC,@AQ,@AR,@E5,@AS⟩
section
variable {T:Nat->Option Ty} {h:Nat->Option Row} {τ:Ty} {q:Nat->Bool}
theorem OM {x v o:Nat} : jV τ h (.ptr x v o)=kZ τ h x v o (live h x v):=Yc
theorem Rt {xs:List D} : jV τ h (.ip xs)=ch τ h (.ip xs):=Yc
theorem Rr {x v o O ty:Nat} {c:List D} {fz:Bool} : kZ τ h x v o (some ⟨O,ty,c,fz,true,false⟩)=ch τ h (.ptr x v o):=by
 simp only[kZ,W7,Bool.and_false,Wg,if_false]
theorem Rs {x v o O ty:Nat} {c:List D} {lst:Bool} : kZ τ h x v o (some ⟨O,ty,c,false,lst,false⟩)=ch τ h (.ptr x v o):=by
 simp only[kZ,XC,Wg,if_false]
def UN:Option D->Option aR->Option aR
 | some d,_=>some ⟨d,[]⟩
 | none,E=>E
theorem FW {d:D} {E:Option aR} : UN (some d) E=some ⟨d,[]⟩:=Yc
theorem FV {E:Option aR} : UN none E=E:=Yc
theorem Rq {x v o O ty:Nat} {c:List D} : kZ τ h x v o (some ⟨O,ty,c,true,false,false⟩)=if o+τ.size<=c.length then UN (H4 τ.ds.ko ((c.drop o).take τ.size)) (ch τ h (.ptr x v o)) else none:=by
 simp only[kZ,XD,Bool.and_self,if_true]<;>cases H4 τ.ds.ko ((c.drop o).take τ.size)<;>rfl
theorem Nl {x v s o n:Nat} : H4 true [.ali x v s o n]=some (.box1 x v s o n):=Yc
theorem Nk {x v s o n:Nat} : H4 false [.ali x v s o n]=some (.buf x v s o n):=Yc
theorem Ls {p:D} {k:IntKind} {n:Int} : bW τ h p (.int k n)=bQ τ h p (.int k n):=Yc
theorem HD {p:D} {b:Bool} : bW τ h p (.bool b)=bQ τ h p (.bool b):=Yc
theorem Lu {p:D} {b:ByteArray} : bW τ h p (.str b)=bQ τ h p (.str b):=Yc
theorem PD {p:D} {a b:Bool} {n:Nat} {xs:List D} : bW τ h p (.sl a b n xs)=bQ τ h p (.sl a b n xs):=Yc
theorem Lt {p:D} {x v o:Nat} : bW τ h p (.ptr x v o)=bQ τ h p (.ptr x v o):=Yc
theorem PA {p:D} {xs:List D} : bW τ h p (.ip xs)=bQ τ h p (.ip xs):=Yc
theorem Lq {p:D} {x v s o n:Nat} : bW τ h p (.buf x v s o n)=bQ τ h p (.buf x v s o n):=Yc
theorem Lo {p:D} {xs:List D} : bW τ h p (.agg xs)=bQ τ h p (.agg xs):=Yc
theorem Pz {p:D} {f:Nat} : bW τ h p (.fn f)=bQ τ h p (.fn f):=Yc
theorem Lr {p:D} {f k:Nat} {xs:List D} : bW τ h p (.clo f k xs)=bQ τ h p (.clo f k xs):=Yc
theorem Lv {p:D}  : bW τ h p (.und)=bQ τ h p (.und):=Yc
def TR (τ:Ty) (x o y O s U n:Nat):Option Row->Option aR
 | some r=>if τ.size=1∧o=0∧r.cells.length=1∧r.fz=false∧r.lst=false then some ⟨.und,[(x,some ⟨r.v,r.ty,[.ali y O s U n],true,false,false⟩)]⟩ else none
 | none=>none
theorem Cj {x o y O s U n:Nat} {r:Row} : TR τ x o y O s U n (some r)=if τ.size=1∧o=0∧r.cells.length=1∧r.fz=false∧r.lst=false then some ⟨.und,[(x,some ⟨r.v,r.ty,[.ali y O s U n],true,false,false⟩)]⟩ else none:=Yc
theorem Lp {x v o y O s U n:Nat} : bW τ h (.ptr x v o) (.box1 y O s U n)=TR τ x o y O s U n (live h x v):=by
 simp only[bW]<;>cases live h x v<;>rfl
def DU (b:Bool) (T:Nat->Option Ty) (τ:Ty) (h:Nat->Option Row) (O:List (Nat×D)):Option aR :=
 if b then dj T τ h O else
  match τ.ds,O with
  | .struct fs,[(0,.buf x v s o n)]=>if (alive h (.buf x v s o n))∧(fs.all fun f=>(T f.1).isSome)∧fieldAt T fs 0=some (0,1)∧τ.zero.length=1 then some ⟨.box1 x v s o n,[]⟩ else none
  | .struct fs,[(0,.box1 x v s o n)]=>if (alive h (.buf x v s o n))∧(fs.all fun f=>(T f.1).isSome)∧fieldAt T fs 0=some (0,1)∧τ.zero.length=1 then some ⟨.box1 x v s o n,[]⟩ else none
  | _,_=>cE (dj T τ h O)
theorem JP {d:Nat} {O:List (Nat×D)} : kU q T τ h (some d) O=DU (q d) T τ h O:=Yc
theorem zT:DU false T τ h []=cE (dj T τ h []):=by
 unfold DU;rw[if_neg (by simp)];cases τ.ds<;>rfl
theorem NA {cs:List D} {hw:List (Nat×Option Row)} : cE (some ⟨.agg cs,hw⟩)=some ⟨.agg (cs.map canon),hw⟩:=Yc
theorem zU {O:List (Nat×D)} : DU true T τ h O=dj T τ h O:=Yc
def Nx (T:Nat->Option Ty) (h:Nat->Option Row) (O x v s o n:Nat):Ds->Option aR
 | .struct fs=>if (alive h (.buf x v s o n))∧(fs.all fun f=>(T f.1).isSome)∧fieldAt T fs 0=some (0,1)∧O=1 then some ⟨.box1 x v s o n,[]⟩ else none
 | _=>none
theorem Ny {O x v s o n:Nat} {fs:List (Nat×Nat)} : Nx T h O x v s o n (.struct fs)=if (alive h (.buf x v s o n))∧(fs.all fun f=>(T f.1).isSome)∧fieldAt T fs 0=some (0,1)∧O=1 then some ⟨.box1 x v s o n,[]⟩ else none:=Yc
theorem DV {x v s o n:Nat} : DU false T τ h [(0,.box1 x v s o n)]=Nx T h τ.zero.length x v s o n τ.ds:=by
 unfold DU Nx dj;rw[if_neg (by simp)];cases τ.ds<;>rfl
theorem wq {x v s o n:Nat} : DU false T τ h [(0,.buf x v s o n)]=Nx T h τ.zero.length x v s o n τ.ds:=by
 unfold DU Nx dj;rw[if_neg (by simp)];cases τ.ds<;>rfl
def UI:Option (D×List Nat)->Option (D×List Nat)
 | some (d,fr)=>some (.agg [d],fr)
 | none=>none
theorem Es {d:D} {fr:List Nat} : UI (some (d,fr))=some (.agg [d],fr):=Yc
theorem Ed {x v s o n:Nat} : aV h (.box1 x v s o n)=UI (Qo x s o n (live h x v)):=by
 simp only[aV,aD,b9];cases live h x v with
 | none=>rfl
 | some r=>by_cases O:o+n*s<=r.cells.length<;>simp[Qo,UI,O,canon]
theorem OW {x v s o n:Nat} : nm (.box1 x v s o n)=[x]:=Yc
theorem zI {x v s o n:Nat} : alive h (.buf x v s o n)=(jX h x v).isSome:=Yc
theorem AX {fs:List (Nat×Nat)} {O off:Nat} : fieldAt T ((O,off)::fs) 0=(T O).map fun φ=>(off,φ.size):=by
 simp only[fieldAt,List.getElem?_cons_zero]<;>cases T O<;>rfl
end
theorem Vj:type_of% (ai @OM<|ai @Rt<|ai @Rr<|ai @Rs<|ai @FW<|ai @FV<|ai @Rq<|ai @Nl<|ai @Nk<|ai @Ls<|ai @HD<|ai @Lu<|ai @PD<|ai @Lt<|ai @PA<|ai @Lq<|ai @Lo<|ai @Pz<|ai @Lr<|ai @Lv<|ai @Lp<|ai @Cj<|ai @JP<|ai @zU<|ai @Ny<|ai @wq<|ai @zT<|ai @DV<|ai @NA<|ai @Es<|ai @Ed<|ai @OW<|ai @zI<|@AX):=⟨@OM,@Rt,@Rr,@Rs,@FW,@FV,@Rq,@Nl,@Nk,@Ls,@HD,@Lu,@PD,@Lt,@PA,@Lq,@Lo,@Pz,@Lr,@Lv,@Lp,@Cj,@JP,@zU,@Ny,@wq,@zT,@DV,@NA,@Es,@Ed,@OW,@zI,@AX⟩
theorem Uc:type_of% (ai @MY<|ai @Q6<|ai @BX<|ai @Lb<|ai @Pq<|ai @Pp<|ai @Gw<|ai @Gv<|ai @RR<|ai @A4<|ai @A3<|ai @Fe<|ai @By<|ai @yb<|ai @Gy<|ai @KU<|ai @K3<|ai @K8<|ai @F5<|ai @OP<|ai @KG<|ai @Be<|ai @KE<|ai @FX<|ai @Bf<|ai @FY<|ai @KF<|ai @Li<|ai @B9<|ai @Ca<|ai @B0<|ai @Cc<|ai @B8<|ai @Ht<|ai @Cb<|ai @Hu<|ai @Lh<|ai @Hs<|ai @Cg<|ai @GX<|ai @GW<|ai @KD<|ai @Bc<|ai @OJ<|ai @OK<|ai @Bd<|ai @Ld<|ai @Ci<|ai @Px<|ai @Py<|ai @HA<|ai @Hz<|ai @Cs<|ai @Ct<|ai @y5<|ai @LI<|ai @LG<|ai @HP<|ai @Ly<|ai @PX<|ai @KX<|ai @O1<|ai @O2<|ai @PY<|ai @LH<|ai @LJ<|ai @Cr<|ai @HS<|ai @Hy<|@JQ):=⟨@MY,@Q6,@BX,@Lb,@Pq,@Pp,@Gw,@Gv,@RR,@A4,@A3,@Fe,@By,@yb,@Gy,@KU,@K3,@K8,@F5,@OP,@KG,@Be,@KE,@FX,@Bf,@FY,@KF,@Li,@B9,@Ca,@B0,@Cc,@B8,@Ht,@Cb,@Hu,@Lh,@Hs,@Cg,@GX,@GW,@KD,@Bc,@OJ,@OK,@Bd,@Ld,@Ci,@Px,@Py,@HA,@Hz,@Cs,@Ct,@y5,@LI,@LG,@HP,@Ly,@PX,@KX,@O1,@O2,@PY,@LH,@LJ,@Cr,@HS,@Hy,@JQ⟩
theorem Ud:type_of% (ai @Kp<|ai @FQ<|ai @FC<|ai @FK<|ai @Fv<|ai @Bv<|ai @GJ<|ai @ye<|ai @GL<|ai @GK<|ai @BC<|ai @GI<|ai @GH<|ai @B4<|ai @Ce<|ai @B3<|ai @Cd<|ai @Le<|ai @Lj<|ai @B5<|ai @Cf<|ai @Hn<|ai @Hv<|ai @Bo<|ai @Bp<|ai @DN<|ai @DO<|ai @Hq<|ai @B6<|ai @Hr<|ai @B7<|ai @Lg<|ai @Hp<|ai @zO<|ai @zN<|@jX.eq_1):=⟨@Kp,@FQ,@FC,@FK,@Fv,@Bv,@GJ,@ye,@GL,@GK,@BC,@GI,@GH,@B4,@Ce,@B3,@Cd,@Le,@Lj,@B5,@Cf,@Hn,@Hv,@Bo,@Bp,@DN,@DO,@Hq,@B6,@Hr,@B7,@Lg,@Hp,@zO,@zN,@jX.eq_1⟩
theorem Ue:type_of% (ai @Oq<|ai @KB<|ai @Ky<|ai @Kz<|ai @Kw<|ai @KV<|ai @Bu<|ai @Bx<|ai @Ga<|ai @Gd<|ai @xS<|ai @Ge<|ai @Gc<|ai @Bl<|ai @F9<|ai @F8<|ai @Gb<|ai @GF<|ai @GB<|ai @yd<|ai @GG<|ai @GD<|ai @BB<|ai @GA<|ai @Gz<|ai @GC<|ai @Ad<|ai @uf<|ai @ud<|ai @ue<|ai @Eu<|ai @Ev<|ai @Oh<|ai @Kc<|ai @Og<|ai @Kb<|ai @ER<|ai @ES<|ai @ET<|ai @D3<|ai @Ac<|ai @Hl<|ai @B1<|ai @Hm<|ai @B2<|ai @ss<|ai @cJ<|ai @sr<|ai @cI<|ai @Kk<|ai @E4<|ai @Ki<|ai @AP<|@E2):=⟨@Oq,@KB,@Ky,@Kz,@Kw,@KV,@Bu,@Bx,@Ga,@Gd,@xS,@Ge,@Gc,@Bl,@F9,@F8,@Gb,@GF,@GB,@yd,@GG,@GD,@BB,@GA,@Gz,@GC,@Ad,@uf,@ud,@ue,@Eu,@Ev,@Oh,@Kc,@Og,@Kb,@ER,@ES,@ET,@D3,@Ac,@Hl,@B1,@Hm,@B2,@ss,@cJ,@sr,@cI,@Kk,@E4,@Ki,@AP,@E2⟩
theorem v:type_of% (ai @Vk<|ai @Vl<|ai @Vc<|ai @Vd<|ai @Ve<|ai @Vf<|ai @Vg<|ai @Vh<|ai @Vi<|ai @Vj<|ai @Ua<|ai @Uc<|ai @Ud<|ai @Ue<|ai @Vo<|ai @Xk<|@Option.toList_none.{0}):=⟨@Vk,@Vl,@Vc,@Vd,@Ve,@Vf,@Vg,@Vh,@Vi,@Vj,@Ua,@Uc,@Ud,@Ue,@Vo,@Xk,@Option.toList_none.{0}⟩
class DG (κ:Type) where
 k:κ->bC
 inj:∀x y,k x=k y->x=y
instance:DG Int:=⟨fun n=>(n,none),fun x y h=>by simpa using h⟩
instance:DG (Int×Int):=⟨fun p=>(p.1,some p.2),fun x y h=>by
 obtain⟨a,b⟩:=x;obtain⟨c,d⟩:=y;simpa using h⟩
def jG {κ α:Type} [DG κ]:List (κ×α)->List bC
 | []=>[]
 | (k,_)::m=>DG.k k::jG m
def sF {κ α:Type} (A:Arg α):List (κ×α)->List D
 | []=>[]
 | (_,v)::m=>A.d v::sF A m
theorem Gn {κ α:Type} {A:Arg α} : sF A ([]:List (κ×α))=[]:=Yc
section
variable {κ α:Type} [DG κ] {A:Arg α}
theorem Tj (k n:κ):DG.k k=DG.k n↔k=n:=⟨DG.inj _ _,fun h=>by rw[h]⟩
theorem Gk:jG ([]:List (κ×α))=[]:=Yc
theorem xV [DecidableEq κ] (n:κ):∀m:List (κ×α),(jG m).contains (DG.k n)=OB m n
 | []=>rfl
 | (k,v)::m=>by
  have:=xV n m;simp only[jG,WI,OB,this];congr 1
  by_cases h:k=n
  ·subst h;rw[beq_self_eq_true,beq_self_eq_true]
  ·rw[beq_eq_false_iff_ne.2 h,beq_eq_false_iff_ne.2 (fun e=>h (DG.inj _ _ e.symm))]
theorem Gj:∀m:List (κ×α),(jG m).length=m.length
 | []=>rfl
 | (k,v)::m=>by simp[jG,Gj m]
theorem map_inj:∀ {m O:List (κ×α)},jG m=jG O->sF A m=sF A O->m=O
 | [],[],_,_=>rfl
 | [],(k,v)::O,h,_=>by simp[jG]at h
 | (k,v)::m,[],h,_=>by simp[jG]at h
 | (k,v)::m,(k',U)::O,h,g=>by
  simp only[jG,V4,Tj]at h;simp only[sF,V4]at g;rw[h.1,A.inj _ _ g.1,map_inj h.2 g.2]
end
theorem Ba {α:Type} {n:Int} {m:List (Int×α)} : jd false (n,none) (jG m)=true:=by
 unfold jd;simp only[Wh];refine⟨rfl,?_⟩
 induction m with
 | nil=>rfl
 | cons p m O=>simp only[jG,List.all_cons,Wh];exact⟨rfl,O⟩
theorem Bb {α:Type} {a b:Int} {m:List ((Int×Int)×α)} : jd true (a,some b) (jG m)=true:=by
 unfold jd;simp only[Wh];refine⟨rfl,?_⟩
 induction m with
 | nil=>rfl
 | cons p m O=>simp only[jG,List.all_cons,Wh];exact⟨rfl,O⟩
def Vs {κ α:Type} [DG κ] (A:Arg α):Arg (List (κ×α)):=⟨fun m =>.mpc (jG m) (sF A m),fun x y h=>by
 simp only[D.mpc.injEq]at h;exact map_inj h.1 h.2⟩
theorem Rh {κ α:Type} [DG κ] (A:Arg α) (m:List (κ×α)):(Vs A).d m=.mpc (jG m) (sF A m):=Yc
def Vt {κ α:Type} [DG κ] (A:Arg α):iS (List (κ×α)):=⟨fun m=>[.mpc (jG m) (sF A m)],1,fun _=>rfl,by decide,fun x y h=>by
 simp only[V4,D.mpc.injEq,and_true]at h;exact map_inj h.1 h.2⟩
theorem EU {κ α:Type} [DG κ] (A:Arg α):(Vt A:iS (List (κ×α))).size=1:=Yc
def UQ {κ ν α β:Type} [DG κ] (ty:Nat) (V:Arg ν) (A:fX α) (F:List (κ×ν)->α->Option (List (κ×ν)×β)) (R:β->RK):Option (D×Row)->List D->Option (RK×Option Row):=fun lent ds =>
 match lent with
 | some (.mp 0 0,⟨0,O,[.mpc ks vs],false,true,true⟩)=>open Classical in
  if h:O=ty∧∃p:List (κ×ν)×α,ks=jG p.1∧vs=sF V p.1∧ds=A.ds p.2 then
   (F (Classical.choose h.2).1 (Classical.choose h.2).2).map fun r=>(R r.2,some ⟨0,ty,[.mpc (jG r.1) (sF V r.1)],false,true,true⟩)
  else none
 | _=>none
theorem OT {κ ν α β:Type} [DG κ] {ty:Nat} {V:Arg ν} {A:fX α} {F:List (κ×ν)->α->Option (List (κ×ν)×β)} {R:β->RK} {lent:Option (D×Row)} {ds:List D} {rk:RK} {out:Option Row} (h:UQ ty V A F R lent ds=some (rk,out)) :
  ∃l a l' r,lent=some (.mp 0 0,⟨0,ty,[.mpc (jG l) (sF V l)],false,true,true⟩)∧ds=A.ds a∧F l a=some (l',r)∧rk=R r∧out=some ⟨0,ty,[.mpc (jG l') (sF V l')],false,true,true⟩:=by
 unfold UQ at h;split at h
 ·split at h
  ·rename_i he;obtain⟨rfl,he⟩:=he;rw[VD]at h;obtain⟨⟨l',r⟩,h1,h2⟩:=h;simp only[Prod.mk.injEq]at h2;obtain⟨rfl,rfl⟩:=h2;obtain⟨g1,g2,g3⟩:=Classical.choose_spec he;refine⟨_,_,l',r,?_,g3,h1,rfl,rfl⟩;rw[<- g1,<- g2]
  ·cases h
 ·cases h
theorem bN.Ry {P:Program} {T:Nat->Option Ty} {Γ:Env} (X:fb P T) (Y:bt P Γ) (hm:P.follows .mixedOrders=true) {κ ν α β:Type} [DG κ] {ty:Nat} {V:Arg ν} {A:fX α} {F:List (κ×ν)->α->Option (List (κ×ν)×β)} {R:β->RK} {f:FuncId} {fn:Func} (U:P.funcs[f]? = some fn) (O:(match fn.body with|some c=>codeOk c|none=>true)=true)
  (Z:(fn.name == "runtime.NumGoroutine")=false∧fn.body.isNone=false) (hn:∀a,(A.ds a).length+1<=fn.ntmps)
  (h:∀l a l' r,F l a=some (l',r)->iQ .clean T Γ FU fn (some (.mp 0 0,⟨0,ty,[.mpc (jG l) (sF V l)],false,true,true⟩)) (A.ds a)=some (R r,some ⟨0,ty,[.mpc (jG l') (sF V l')],false,true,true⟩)):bN P f (UQ ty V A F R) where
 calls lent VA rk out hg:=by
  obtain⟨l,a,l',r,rfl,rfl,hr,rfl,rfl⟩:=OT hg;exact gA X Y hm U O (hn a) rfl (h l a l' r hr)
 callable:=⟨fn,U,Z⟩
def Vr {α:Type} (e:iS α):Arg α:=⟨fun x =>.ip (e.cells x),fun x y h=>e.inj _ _ (by simpa using h)⟩
theorem Jz {α:Type} (e:iS α) (x:α):(Vr e).d x=.ip (e.cells x):=Yc
section
variable {T:Nat->Option Ty} {h:Nat->Option Row} {Γ:Env} {e:Nat} {dst:Option Nat}
def Ut (v:Nat):Option Row->Option (List bC×List D)
 | some r=>if r.v=v∧r.mp=true∧r.ty<900000 then (match r.cells with | [.mpc ks vs]=>some (ks,vs)|_=>none) else none
 | none=>none
theorem F4 {x v:Nat} : fi h x v=Ut v (h x):=by
 unfold fi Ut;cases h x<;>rfl
theorem Gg {v ty:Nat} {ks:List bC} {vs:List D} {fz lst:Bool} (O:ty<900000):Ut v (some ⟨v,ty,[.mpc ks vs],fz,lst,true⟩)=some (ks,vs):=by simp[Ut,O]
def Us (ks:List bC) (n:bC):Bool:=ks.contains n
theorem KJ {α:Type} {m:List (Int×α)} {n:Int} : Us (jG m) (n,none)=OB m n:=xV n m
theorem KK {α:Type} {m:List ((Int×Int)×α)} {a b:Int} : Us (jG m) (a,some b)=OB m (a,b):=xV (a,b) m
def Va (b ok:Bool) (z:D) (n:bC):Option (List bC×List D)->Option aR
 | some (ks,vs)=>if jd b n ks=true then some ⟨if ok then .tup [n5 z ks vs n,.bool (Us ks n)] else n5 z ks vs n,[]⟩ else none
 | none=>none
theorem RF {b:Bool} {z:D} {n:bC} {ks:List bC} {vs:List D} : Va b true z n (some (ks,vs))=if jd b n ks=true then some ⟨.tup [n5 z ks vs n,.bool (Us ks n)],[]⟩ else none:=Yc
theorem RE {b:Bool} {z:D} {n:bC} {ks:List bC} {vs:List D} : Va b false z n (some (ks,vs))=if jd b n ks=true then some ⟨n5 z ks vs n,[]⟩ else none:=Yc
theorem Gl {x v:Nat} : mapOf h (.mp x v)=fi h x v:=Yc
theorem Bn {ks:List bC} {vs:List D} : mapOf h (.mpc ks vs)=some (ks,vs):=Yc
def Uw (b:Bool) (h:Nat->Option Row) (y:Nat) (n:bC) (d:D) (fr:List Nat) (ks:List bC) (vs:List D):Option Row->Option aR
 | some r=>if jd b n ks=true∧r.fz=false∧fr.contains y=false then some ⟨.und,fB h fr++[(y,some ⟨r.v,r.ty,[.mpc (vB ks n) (Dp ks vs n d)],false,true,true⟩)]⟩ else none
 | none=>none
theorem Gu {b:Bool} {y v ty:Nat} {n:bC} {d:D} {fr:List Nat} {ks:List bC} {vs:List D} {cells:List D} {lst mp:Bool} : Uw b h y n d fr ks vs (some ⟨v,ty,cells,false,lst,mp⟩)=if jd b n ks=true then (if fr.contains y=false then some ⟨.und,fB h fr++[(y,some ⟨v,ty,[.mpc (vB ks n) (Dp ks vs n d)],false,true,true⟩)]⟩ else none) else none:=by
 simp only[Uw,true_and]
 by_cases h1:jd b n ks=true<;>simp[h1]
def UR (b:Bool) (h:Nat->Option Row) (y:Nat) (n:bC) (d:D) (fr:List Nat):Option (List bC×List D)->Option aR
 | some (ks,vs)=>Uw b h y n d fr ks vs (h y)
 | none=>none
theorem Gt {b:Bool} {y:Nat} {n:bC} {d:D} {fr:List Nat} {ks:List bC} {vs:List D} : UR b h y n d fr (some (ks,vs))=Uw b h y n d fr ks vs (h y):=Yc
def Vv (b:Bool) (h:Nat->Option Row) (y v:Nat) (n:bC):Option (D×List Nat)->Option aR
 | some (d,fr)=>UR b h y n d fr (fi h y v)
 | none=>none
theorem Gs {b:Bool} {y v:Nat} {n:bC} {d:D} {fr:List Nat} : Vv b h y v n (some (d,fr))=UR b h y n d fr (fi h y v):=Yc
def Vu:Option (List bC×List D)->Option aR
 | some (ks,_)=>some ⟨.int .i64 (ks.length:Nat),[]⟩
 | none=>none
theorem F7 {ks:List bC} {vs:List D} : Vu (some (ks,vs))=some ⟨.int .i64 (ks.length:Nat),[]⟩:=Yc
theorem Bm {κ α:Type} [DG κ] {m:List (κ×α)} : (jG m).length=m.length:=Gj m
theorem HM {k:IntKind} {n:Int} : rK h (.int k n)=some (.int k n,[]):=Yc
theorem Cq {b:Bool} : rK h (.bool b)=some (.bool b,[]):=Yc
theorem HL {xs:List D} : rK h (.agg xs)=some (.agg (xs.map canon),[]):=Yc
def Uq (τ:Ty) (h:Nat->Option Row) (x v y:Nat):Option Row->Option aR
 | some r=>match r.cells with
  | [.alm y' O]=>if r.fz=true∧r.lst=false∧τ.size=1∧τ.ds.ko=false then some ⟨.mp y' O,[]⟩ else none
  | _=>none
 | none=>kY τ h x v y (iL h x v)
theorem Ru {τ:Ty} {x v y:Nat} : jV τ h (.pm x v y)=Uq τ h x v y (live h x v):=by
 simp only[jV];cases live h x v with
 | none=>rfl
 | some r =>
  obtain⟨O,ty,cells,fz,lst,mp⟩:=r;rcases cells with _|⟨c,_|⟨U,cs⟩⟩<;>rfl
theorem FZ {τ:Ty} {x v y:Nat} : Uq τ h x v y none=kY τ h x v y (iL h x v):=Yc
def Ur (τ:Ty) (h:Nat->Option Row) (x y s n:Nat):Option Row->Option aR
 | some r=>if y=1000000+x∧r.mp=false∧r.lst=true∧r.cells.length=n*s∧τ.size=1 then some ⟨if τ.ds.ko then .agg [.sl false false n r.cells] else .sl false false n r.cells,fB h [y]⟩ else none
 | none=>none
theorem OL {τ:Ty} {r:Row} {x v y s n:Nat} : kY τ h x v y (some (r,y,s,n))=Ur τ h x y s n (h y):=by
 simp only[kY,Ur,PK];cases h y with
 | none=>rfl
 | some q=>simp
theorem F1 {ty b:Nat} {ds:Ds} {z:List Value} {q:Bool} {x y s n O:Nat} {cells:List D} {fz:Bool} : Ur ⟨ds,1,b,z,q⟩ h x y s n (some ⟨O,ty,cells,fz,true,false⟩)=if y=1000000+x∧cells.length=n*s then some ⟨if ds.ko then .agg [.sl false false n cells] else .sl false false n cells,fB h [y]⟩ else none:=by
 simp[Ur]
def Sn (T:Nat->Option Ty) (x v k:Nat):Option (Row×Nat×Nat×Nat)->Option (Nat×Nat)->Option aR
 | some _,some (O,0)=>match T O with|some φ=>if φ.size=0 then none else some ⟨.pm x v k,[]⟩|none=>none
 | _,_=>none
theorem A2 {T:Nat->Option Ty} {x v k O:Nat} {r:Row×Nat×Nat×Nat} : Sn T x v k (some r) (some (O,0))=match T O with|some φ=>if φ.size=0 then none else some ⟨.pm x v k,[]⟩|none=>none:=Yc
theorem Ou {T:Nat->Option Ty} {b c:Nat} {z:List Value} {q:Bool} {fs:List (Nat×Nat)} {x v k i:Nat} : cw T ⟨.struct fs,b,c,z,q⟩ h i (.pm x v k)=Sn T x v k (iL h x v) fs[i]?:=by
 simp only[cw,Sn];cases iL h x v with
 | none=>rfl
 | some r=>simp only;generalize fs[i]? = z;rcases z with _|⟨O,_|off⟩<;>first|rfl|(simp;done)|(simp only;cases T O<;>rfl)
def Lm (x y s O n k : Nat) : Option Row -> Option Row -> Option aR
  | some r, some q => if O = 0 ∧ r.cells.length = 1 ∧ r.fz = false ∧ r.lst = false ∧ q.fz = false ∧ q.lst = true ∧ q.cells.length = n * s ∧ x ≠ y ∧ k = 1000000 + x ∧ x < 1000000 then
          some ⟨.und, [(y, none), (k, some ⟨0, q.ty, q.cells, false, true, false⟩), (x, some ⟨r.v, r.ty, [.ph k s n], false, false, true⟩)]⟩ else none
  | _, _ => none
theorem PC {ds:Ds} {b:Nat} {z:List Value} {q:Bool} {x v y O s U n k:Nat} : bW ⟨ds,1,b,z,q⟩ h (.pm x v k) (.box1 y O s U n)=Lm x y s U n k (live h x v) (live h y O):=by
 simp only[bW,Lm,PK,true_and];cases live h x v with
 | none=>rfl
 | some r=>cases live h y O<;>rfl
theorem yN {x y s U n k v ty X O:Nat} {c:D} {cells:List D} : Lm x y s U n k (some ⟨v,ty,[c],false,false,false⟩) (some ⟨X,O,cells,false,true,false⟩)=if U=0∧cells.length=n*s∧¬x=y∧k=1000000+x∧x<1000000 then
  some ⟨.und,[(y,none),(k,some ⟨0,O,cells,false,true,false⟩),(x,some ⟨v,ty,[.ph k s n],false,false,true⟩)]⟩ else none:=by
 simp[Lm]
theorem F0 {v ty y' O:Nat} {b k el:Nat} {z:List Value} {q mp:Bool} {U v0 y0:Nat} : Uq ⟨.map k el,1,b,z,q⟩ h U v0 y0 (some ⟨v,ty,[.alm y' O],true,false,mp⟩)=some ⟨.mp y' O,[]⟩:=by
 simp[Uq,Ds.ko]
def QY (τ:Ty) (x y y' O:Nat) (m:Bool):Option Row->Option aR
 | some r=>if τ.size=1∧y'=y∧r.cells.length=1∧r.fz=false∧r.lst=false∧m then some ⟨.und,[(x,some ⟨r.v,r.ty,[.alm y' O],true,false,false⟩)]⟩ else none
 | none=>none
theorem PB {τ:Ty} {x v y y' O:Nat} : bW τ h (.pm x v y) (.mp y' O)=QY τ x y y' O (fi h y O).isSome (live h x v):=by
 simp only[bW,QY]<;>cases live h x v<;>rfl
theorem Ch {x y O v ty:Nat} {c:D} {b:Nat} {ds:Ds} {z:List Value} {q mp:Bool} : QY ⟨ds,1,b,z,q⟩ x y y O true (some ⟨v,ty,[c],false,false,mp⟩)=some ⟨.und,[(x,some ⟨v,ty,[.alm y O],true,false,false⟩)]⟩:=by
 simp[QY]
theorem RH {x v:Nat} : nm (.mp x v)=[x]:=Yc
theorem OX {ks:List bC} {vs:List D} : nm (.mpc ks vs)=[]:=Yc
theorem RI {x v y:Nat} : nm (.pm x v y)=[x,y]:=Yc
def S7 (x:Nat):Option (List bC×List D)->Option (D×List Nat)
 | some (ks,vs)=>some (.mpc ks vs,[x])
 | none=>none
theorem En {x:Nat} {ks:List bC} {vs:List D} : S7 x (some (ks,vs))=some (.mpc ks vs,[x]):=Yc
theorem J2 {x v:Nat} : aV h (.mp x v)=S7 x (fi h x v):=by
 simp only[aV,aD,S7]<;>cases fi h x v<;>rfl
theorem Eh {ks:List bC} {vs:List D} : aV h (.mpc ks vs)=some (.mpc ks vs,[]):=Yc
theorem NM {x v:Nat} : aD h (.mp x v)=S7 x (fi h x v):=by
 simp only[aD,S7]<;>cases fi h x v<;>rfl
theorem JX {ks:List bC} {vs:List D} : aD h (.mpc ks vs)=some (.mpc ks vs,[]):=Yc
theorem NL {xs:List D} : aD h (.ip xs)=some (.ip xs,[]):=Yc
theorem JY {x v o:Nat} : aD h (.ptr x v o)=S8 x o (live h x v):=by
 simp only[aD];cases live h x v with
 | none=>rfl
 | some r=>simp only[S8]
def UG (x y:Nat):Option (List bC×List D)->Option (D×List Nat)
 | some (ks,vs)=>some (.ip [.mpc ks vs],[x,y])
 | none=>none
theorem Eo {x y:Nat} {ks:List bC} {vs:List D} : UG x y (some (ks,vs))=some (.ip [.mpc ks vs],[x,y]):=Yc
def UH (h:Nat->Option Row) (x y:Nat):Option Row->Option (D×List Nat)
 | some r=>match r.cells with
  | [.alm y' O]=>if r.fz=true∧r.lst=false∧y'=y then UG x y (fi h y O) else none
  | _=>none
 | none=>none
theorem Er {x y O v ty:Nat} {mp:Bool} : UH h x y (some ⟨v,ty,[.alm y O],true,false,mp⟩)=UG x y (fi h y O):=by
 simp[UH]
theorem NN {x v y:Nat} : aD h (.pm x v y)=UH h x y (live h x v):=by
 simp only[aD];cases live h x v with
 | none=>rfl
 | some r =>
  obtain⟨O,ty,cells,fz,lst,mp⟩:=r;rcases cells with _|⟨c,_|⟨U,cs⟩⟩<;>rfl
theorem K1 {x v o:Nat} : fU (.ptr x v o)=true:=Yc
theorem O6 {x v y:Nat} : fU (.pm x v y)=true:=Yc
theorem O4 {xs:List D} : fU (.ip xs)=true:=Yc
theorem O5 {x v:Nat} : fU (.mp x v)=true:=Yc
theorem K0 {ks:List bC} {vs:List D} : fU (.mpc ks vs)=true:=Yc
theorem Ox {v ty:Nat} {cells:List D} {fz mp:Bool} : mJ ⟨v,ty,cells,fz,true,mp⟩=⟨v,ty,cells,true,true,mp⟩:=by cases fz<;>rfl
theorem Kx {d:Nat} : bk.hint d=none:=Yc
theorem Fz {f:Nat} {l:Bool} {G:Option (D×Row)->List D->Option (RK×Option Row)} {d:Nat} : (Am.ext Γ f l G).hint d=Γ.hint d:=Yc
theorem A8 {d i:Nat} : (Am.keep d Γ).hint i=Γ.hint i:=Yc
theorem A7 {d y i:Nat} : (Am.qJ d y Γ).hint i=if i=d then some y else Γ.hint i:=Yc
theorem FD {d y i:Nat} : (Am.qJ d y Γ).own i=Γ.own i:=Yc
theorem xH {d y i:Nat} : (Am.qJ d y Γ).lends i=Γ.lends i:=Yc
theorem FE {d y i:Nat} {lent:Option (D×Row)} {VA:List D} : (Am.qJ d y Γ).sem i lent VA=Γ.sem i lent VA:=Yc
theorem A1 {ks:List bC} {vs:List D} : ep (.mpc ks vs)=false:=Yc
theorem Ah {ks:List bC} {vs:List D} : canon (.mpc ks vs)=.mpc ks vs:=Yc
theorem wJ {ks:List bC} {vs:List D} : dT (.mpc ks vs)=.mpc ks vs:=Yc
end
structure Qe {α:Type} (E:iS α) (C:List D) (o:Nat) (l:List α):Prop where
 fit:o+l.length*E.size<=C.length
 eq:(C.drop o).take (l.length*E.size)=ae E l
theorem Qe.split {α:Type} {E:iS α} {C:List D} {o:Nat} {l:List α} (F:Qe E C o l):C.drop o=ae E l++C.drop (o+l.length*E.size):=by
 rw[<- Xs]
 conv=>lhs;rw[<- Xt (l.length*E.size) (C.drop o)]
 rw[F.eq]
theorem Qe.idx {α:Type} {E:iS α} {C:List D} {o:Nat} {l:List α} {i:Int} {x:α} (F:Qe E C o l) (h:P.idx l i=some x):o+i.toNat*E.size+E.size<=C.length∧∃rest,C.drop (o+i.toNat*E.size)=E.cells x++rest:=by
 have h1:=ny E h;have h2:=F.fit;refine⟨by omega,ae E (l.drop (i.toNat+1))++C.drop (o+l.length*E.size),?_⟩;rw[<- Xs,F.split,W1 (by rw[bR];omega),sA E h,W0]
theorem Uf:type_of% (ai @Gk<|ai @Gn<|ai @F4<|ai @Gg<|ai @KJ<|ai @KK<|ai @Ba<|ai @Bb<|ai @F7<|ai @Bm<|ai @RF<|ai @RE<|ai @Gl<|ai @Bn<|ai @Gu<|ai @Gt<|ai @Gs<|ai @HM<|ai @Cq<|ai @HL<|ai @Ru<|ai @F0<|ai @PB<|ai @Ch<|ai @RH<|ai @OX<|@RI):=⟨@Gk,@Gn,@F4,@Gg,@KJ,@KK,@Ba,@Bb,@F7,@Bm,@RF,@RE,@Gl,@Bn,@Gu,@Gt,@Gs,@HM,@Cq,@HL,@Ru,@F0,@PB,@Ch,@RH,@OX,@RI⟩
theorem Ug:type_of% (ai @En<|ai @J2<|ai @Eh<|ai @NM<|ai @JX<|ai @NL<|ai @JY<|ai @Eo<|ai @Er<|ai @NN<|ai @K1<|ai @O6<|ai @O4<|ai @O5<|ai @K0<|ai @Oy<|ai @Ow<|ai @Ox<|ai @Kx<|ai @Fz<|ai @A8<|ai @A7<|ai @FD<|ai @xH<|ai @FE<|ai @BG<|ai @BF<|ai @A1<|ai @Ah<|ai @wJ<|ai @EU<|@Jz):=⟨@En,@J2,@Eh,@NM,@JX,@NL,@JY,@Eo,@Er,@NN,@K1,@O6,@O4,@O5,@K0,@Oy,@Ow,@Ox,@Kx,@Fz,@A8,@A7,@FD,@xH,@FE,@BG,@BF,@A1,@Ah,@wJ,@EU,@Jz⟩
theorem Uh:type_of% (ai @uo<|ai @uv<|ai @wU<|ai @wX<|ai @qE<|ai @qI<|ai @wT<|ai @wW<|ai @qQ<|ai @sW<|ai @ot<|ai @sV<|ai @Nu<|ai @JI<|@Nv):=⟨@uo,@uv,@wU,@wX,@qE,@qI,@wT,@wW,@qQ,@sW,@ot,@sV,@Nu,@JI,@Nv⟩
theorem bN.Vx {P:Program} {T:Nat->Option Ty} {Γ:Env} (U:fb P T) (X:bt P Γ) (hm:P.follows .mixedOrders=true) {α β:Type} {A:fX α} {F:α->Option β} {R:β->RK} {mode:Mode} {f:FuncId} {fn:Func} (Y:P.funcs[f]? = some fn)
  (O:((match fn.body with|some c=>codeOk c|none=>true)&&(!(fn.name == "runtime.NumGoroutine") && !fn.body.isNone))=true) (Z:∀a,Nat.ble (A.ds a).length fn.ntmps=true) (h:∀a r,F a=some r->iQ mode T Γ FU fn none (A.ds a)=some (R r,none)):bN P f (dR A F R):=by
 rw[Wh,Wh]at O;exact bN.of U X hm Y O.1 ⟨by simpa using O.2.1,by simpa using O.2.2⟩ (fun a=>Xp (Z a)) h
theorem Nq {α β:Type} (a:Arg α) (b:fX β) (x:α×β):(gg a b).ds x=a.d x.1::b.ds x.2:=Yc
theorem Np {α:Type} (a:Arg α) (x:α):(ee a).ds x=[a.d x]:=Yc
theorem No (x:Unit):Uo.ds x=[]:=Yc
theorem im:type_of% (ai @Nq<|ai @Np<|ai @No<|ai @S4<|ai @Jy<|ai @Nd<|ai @Ri<|ai @Nb<|ai @Rg<|ai @Nc<|ai @Rh<|@Jz):=⟨@Nq,@Np,@No,@S4,@Jy,@Nd,@Ri,@Nb,@Rg,@Nc,@Rh,@Jz⟩
theorem Ub:type_of% (ai @FZ<|ai @OL<|ai @F1<|ai @PC<|ai @yN<|ai @A2<|@Ou):=⟨@FZ,@OL,@F1,@PC,@yN,@A2,@Ou⟩
theorem vi:type_of% (ai @Uf<|ai @Ug<|ai @Ub<|@Uh):=⟨@Uf,@Ug,@Ub,@Uh⟩
theorem uE (k:IntKind):∀(l:List Int) (j:Nat),(ae (eI k) l)[j]? = l[j]?.map fun n =>.int k n
 | [],j=>by simp[ae]
 | x::l,0=>by simp[ae,eI]
 | x::l,j+1=>by
  have:=uE k l j;simp only[ae,sh,List.cons_append,List.nil_append,List.getElem?_cons_succ];exact this
theorem sn (k:IntKind) (l:List Int):(ae (eI k) l).length=l.length:=by rw[bR];show l.length*1=_;omega
end Go.Proofs.Ytgnoaanebhmegaa.Am
namespace Go.Proofs.Ytgnoaanebhmegaa.P
open Go.RowKit
theorem wrap64 {x:Int} (h1 : -9223372036854775808<=x) (h2:x<9223372036854775808):IntKind.i64.wrap x=x:=by
 have key:IntKind.i64.wrap x=if x % 18446744073709551616>=9223372036854775808 then x % 18446744073709551616-18446744073709551616 else x % 18446744073709551616:=by
  unfold IntKind.wrap
  by_cases h:x % 18446744073709551616>=9223372036854775808
  ·rw[if_pos h];exact if_pos (by simpa [IntKind.bits,IntKind.signed] using h)
  ·rw[if_neg h];exact if_neg (by simpa [IntKind.bits,IntKind.signed] using h)
 rw[key];split<;>omega
theorem FG {α:Type} {l:List α} {i:Int} {x:α} (O:0<=i) (h:l[i.toNat]? = some x):P.idx l i=some x:=by
 have:=(V9.1 h).1;unfold P.idx;rw[if_pos ⟨O,by omega⟩,h]
theorem bo {α:Type} {l:List α} {i:Nat} (h:i<l.length):P.idx l (i:Int)=some (l[i]):=FG (by omega) (by simp[h])
theorem vQ {α:Type} {l:List α} {i:Nat} (h:i<=l.length):zw l 0 (i:Int)=some (l.take i):=by
 unfold zw;rw[if_pos ⟨by omega,by omega,by omega⟩];simp
end Go.Proofs.Ytgnoaanebhmegaa.P
namespace Go.Proofs.Ytgnoaanebhmegaa.Am
open Go.RowKit Go.Deep Go.ChangeShapes Go.WideShapes
def y6 (T:Nat->Option Ty):Nat->Nat->List D->Prop
 | 0,_,_=>False
 | n+1,t,xs =>
  match T t with
  | none=>False
  | some τ=>xs.length=τ.size ∧
   match τ.ds with
   | .int k=>∃i,xs=[.int k i]∧(Lit.int k i).wf=true
   | .bool=>∃b,xs=[.bool b]
   | .str=>∃s:ByteArray,xs=[.str s]∧s.size<=140737488351232
   | .slice e=>∃len O φ,xs=[.sl false false len O]∧len*φ.bytes<=140737488351232∧T e=some φ∧O.length=len*φ.size∧∀i,i<len->y6 T n e ((O.drop (i*φ.size)).take φ.size)
   | .struct fs=>∀f∈fs,∃φ,T f.1=some φ∧y6 T n f.1 ((xs.drop f.2).take φ.size)
   | .arr m e=>∃φ,T e=some φ∧∀i,i<m->y6 T n e ((xs.drop (i*φ.size)).take φ.size)
   | .map _ _=>False
   | .other=>False
def uP (T:Nat->Option Ty):Nat->List (Nat×Nat)->Nat->Bool
 | o,[],z=>o==z
 | o,(O,off)::fs,z=>off==o&&match T O with|some φ=>uP T (o+φ.size) fs z|none=>false
def Mt (T:Nat->Option Ty):Nat->Nat->Bool
 | 0,_=>false
 | n+1,t =>
  match T t with
  | none=>false
  | some τ =>
   match τ.ds with
   | .int _ | .bool | .str=>τ.size==1
   | .slice e=>τ.size==1&&Mt T n e&&(match T e with|some φ=>decide (0<φ.size)|none=>false)
   | .struct fs=>uP T 0 fs τ.size&&fs.all fun f=>Mt T n f.1
   | .arr m e=>Mt T n e&&(match T e with|some φ=>τ.size==m*φ.size|none=>false)
   | .map _ _=>false
   | .other=>false
def jw (w:World) (M:Nat->Prop) (xs:List D) (cs:List Value):Prop:=xs.length=cs.length∧∀(j:Nat) (x:D),xs[j]? = some x->aF x=true∧∃v,cs[j]? = some v∧RP w M x v
theorem jw.append {w:World} {M:Nat->Prop} {xs X:List D} {cs ds:List Value} (h:jw w M xs cs) (k:jw w M X ds):jw w M (xs++X) (cs++ds):=by
 refine⟨by simp[h.1,k.1],fun j x U =>?_⟩;rw[Wn]at U ⊢;rw[<- h.1];split at U
 ·rename_i O;rw[if_pos O];exact h.2 j x U
 ·rename_i O;rw[if_neg O];exact k.2 _ x U
theorem xp {α:Type} (s:Nat):∀(ls:List (List α)),(∀l∈ls,l.length=s)->∀(i:Nat) (l:List α),ls[i]? = some l->(ls.flatten.drop (i*s)).take s=l
 | [],_,i,l,h=>by simp at h
 | a::ls,hl,0,l,h=>by
  simp only[List.getElem?_cons_zero,VP]at h;subst h;have:a.length=s:=hl a (by simp);simp[this]
 | a::ls,hl,i+1,l,h=>by
  have O:a.length=s:=hl a (by simp);rw[List.flatten_cons,Xq,Xr (by rw[O,WC];omega),Xo,O,WC,Nat.add_sub_cancel];exact xp s ls (fun x U=>hl x (Xc _ U)) i l h
theorem Fa {α:Type} (s:Nat):∀(ls:List (List α)),(∀l∈ls,l.length=s)->ls.flatten.length=ls.length*s
 | [],_=>by simp
 | a::ls,hl=>by
  rw[List.flatten_cons,WN,Fa s ls (fun x O=>hl x (Xc _ O)),hl a (by simp),V6,WC];omega
section
variable {H:Type} {enc:TypeId×Value->H} {P:Program} {w:World} {base:Nat} {spare:Nat->Bool} {held:Bool} {T:Nat->Option Ty}
theorem fW.bytesOf {P:Program} {t:Nat} {τ:Ty} (h:fW P t τ):P.bytesOf t=τ.bytes:=by
 have:=h.info;unfold Program.bytesOf;cases O:P.info? t with
 | none=>rw[O]at this;simp at this
 | some i=>rw[O]at this;simp only[Option.map_some,VP,Prod.mk.injEq]at this;simp[this.2.1]
def Reach (P:Program) (t:Nat) (d:DataW H):Prop:=∀k∈d.weights P t,k<=140737488351232
theorem tP {e:TypeId} : ∀(l:List (DataW H)) (j:Nat) (d:DataW H),l[j]? = some d->∀k∈d.weights P e,k∈DataW.weightsAll P e l
 | x::l,0,d,h,k,hk=>by
  simp only[List.getElem?_cons_zero,VP]at h;subst h;simp only[DataW.weightsAll,WV];exact .inl hk
 | x::l,j+1,d,h,k,hk=>by
  simp only[DataW.weightsAll,WV];exact .inr (tP l j d (by simpa using h) k hk)
 | [],j,d,h,k,hk=>by simp at h
theorem fW.cells {P:Program} {t:Nat} {τ:Ty} (h:fW P t τ):P.cellsOf t=τ.size:=by
 have:=h.info;unfold Program.cellsOf;cases O:P.info? t with
 | none=>rw[O]at this;simp at this
 | some i=>rw[O]at this;simp only[Option.map_some,VP,Prod.mk.injEq]at this;simp[this.1]
theorem KC {T:Nat->Option Ty} {w:World} {M:Nat->Prop} {cs:List Value} : ∀(fs:List (Nat×Nat)) (o z:Nat) (f:Nat×Nat->List D),uP T o fs z=true->cs.length=z ->
  (∀p∈fs,∃φ,T p.1=some φ∧jw w M (f p) ((cs.drop p.2).take φ.size))->o<=z->∃xs,jw w M xs (cs.drop o)∧∀p∈fs,∃φ,T p.1=some φ∧o<=p.2∧(xs.drop (p.2-o)).take φ.size=f p
 | [],o,z,f,O,U,_,_=>by
  simp only[uP,beq_iff_eq]at O;refine⟨[],⟨by rw[V0,U,O];simp,fun j x hj=>by simp at hj⟩,fun p hp=>by simp at hp⟩
 | (X,off)::fs,o,z,f,O,U,hp,aa=>by
  simp only[uP,Wh,beq_iff_eq]at O;obtain⟨rfl,O⟩:=O;obtain⟨φ,hφ,hR⟩:=hp (X,off) (by simp);simp only[hφ]at O;have hz:off+φ.size<=z:=by
   have:∀(fs:List (Nat×Nat)) (o:Nat),uP T o fs z=true->o<=z:=by
    intro fs
    induction fs with
    | nil=>intro o h;simp only[uP,beq_iff_eq]at h;omega
    | cons p fs ih =>
     intro o h;obtain⟨a,b⟩:=p;simp only[uP,Wh]at h;have h2:=h.2;split at h2
     ·have:=ih _ h2;omega
     ·cases h2
   exact this fs _ O
  obtain⟨xs,hx,Y⟩:=KC fs (off+φ.size) z f O U (fun p h=>hp p (Xc _ h)) hz;have Z:(f (X,off)).length=φ.size:=by
   rw[hR.1,VZ,V0,U];omega
  refine⟨f (X,off)++xs,?_,fun p h =>?_⟩
  ·have:=hR.append hx;rw[<- Xs,Xt]at this;exact this
  ·rcases VN.1 h with rfl|h
   ·exact⟨φ,hφ,VG _,by simp only[WR,W6];rw[W4 (by omega),W5 (by omega)]⟩
   ·obtain⟨ψ,h1,h2,h3⟩:=Y p h;refine⟨ψ,h1,by omega,?_⟩;rw[Xq,Xr (by omega),Xo,Z];have:p.2-off-φ.size=p.2-(off+φ.size):=by omega
    rw[this,h3]
theorem jw.one {w:World} {M:Nat->Prop} {x:D} {v:Value} (U:aF x=true) (h:RP w M x v):jw w M [x] [v]:=by
 refine⟨rfl,fun j y O =>?_⟩
 match j,O with
 | 0,O=>simp only[List.getElem?_cons_zero,VP]at O;subst O;exact⟨U,v,rfl,h⟩
 | j+1,O=>simp at O
theorem jw.flat {w:World} {M:Nat->Prop} {cs:List Value} {s:Nat} : ∀(ls:List (List D)) (o:Nat),(∀(i:Nat) l,ls[i]? = some l->jw w M l ((cs.drop (o+i*s)).take s))->(∀l∈ls,l.length=s)->jw w M ls.flatten ((cs.drop o).take (ls.length*s))
 | [],o,_,_=>⟨by simp,fun j x O=>by simp at O⟩
 | a::ls,o,h,hl=>by
  have U:=h 0 a rfl;have h1:=jw.flat ls (o+s) (fun i l X=>by
   have:=h (i+1) l (by simpa using X);rw[WC]at this;rw[show o+s+i*s=o+(i*s+s) by omega];exact this) (fun l Y=>hl l (Xc _ Y))
  have:=U.append h1;rw[Xu,Wf]at this;rw[List.flatten_cons,V6,WC,Nat.add_comm (ls.length*s) s,List.take_add,Xs];exact this
theorem Sd (hT:fb P T) {M:Nat->Prop} (hM:∀b,base<=b->b<w.heap.size->¬M b):∀(n t fuel:Nat) (cs:List Value) (x:DataW H×List MemPlace),Mt T n t=true->DataW.trod enc P w base spare held fuel t cs=some x->Reach P t x.1->∃xs,y6 T n t xs∧jw w M xs cs:=by
 intro n
 induction n with
 | zero=>intro t fuel cs x h;cases h
 | succ n ih =>
  intro t fuel cs x O h hw;unfold Mt at O;unfold y6;cases hτ:T t with
  | none=>rw[hτ]at O;cases O
  | some τ =>
   rw[hτ]at O;simp only at O ⊢;obtain⟨d,hd,hc⟩:=under hT hτ;cases aa:τ.ds with
   | int k =>
    rw[aa]at O hc;simp only[beq_iff_eq]at O;have Z:=rY hc;subst Z;obtain⟨i,rfl,_,hw⟩:=DataW.trod_int hd h;exact⟨[.int k i],⟨by rw[O];rfl,i,rfl,hw⟩,.one rfl (.int k i)⟩
   | bool =>
    rw[aa]at O hc;simp only[beq_iff_eq]at O;have Z:=pY hc;subst Z;obtain⟨b,rfl,_⟩:=DataW.trod_bool hd h;exact⟨[.bool b],⟨by rw[O];rfl,b,rfl⟩,.one rfl (.bool b)⟩
   | str =>
    rw[aa]at O hc;simp only[beq_iff_eq]at O;have Z:=mE hc;subst Z;obtain⟨s,rfl,rfl,hs⟩:=DataW.trod_string hd h;have aG:s.size<=140737488351232:=by
     have:=hw s.data.toList.length (by simp[DataW.weights]);simpa using this
    exact⟨[.str s],⟨by rw[O];rfl,s,rfl,aG⟩,.one rfl (.str s)⟩
   | map _ _=>rw[aa]at O;cases O
   | other=>rw[aa]at O;cases O
   | struct fs =>
    rw[aa]at O hc;simp only[Wh,VR]at O;obtain⟨F,rfl,hF⟩:=eD hc;obtain⟨ys,m,_,rfl,hlen,aH,hf⟩:=DataW.trod_struct hd h;have aj:∀(i:Nat) (f:Field) y,F[i]? = some f->ys[i]? = some y->Reach P f.type y.1:=by
     intro i f y aI au k hk;apply hw k;simp only[DataW.weights,hd];exact DataW.weights_mem_each (j:=i) (t:=f.type) (d:=y.1) (by rw[VC,Ww,aI];rfl) (by simp[au]) k hk
    rw[(hT t τ hτ).cells]at hlen;have Y:∀p:Nat×Nat,∃zs,p∈fs->∃φ,T p.1=some φ∧y6 T n p.1 zs∧jw w M zs ((cs.drop p.2).take φ.size):=by
     intro p
     by_cases hp:p∈fs
     ·have ab:=O.2 p hp;rw[<- hF]at hp;obtain⟨f,aJ,rfl⟩:=VF.1 hp;obtain⟨i,U⟩:=List.mem_iff_getElem?.1 aJ;have h1:=hf i f (by simpa using U);simp only at ab ⊢;cases hφ:T f.type with
      | none=>cases n with
       | zero=>cases ab
       | succ n=>simp only[Mt,hφ]at ab;cases ab
      | some φ =>
       rw[(hT _ φ hφ).cells]at h1;have ah:i<ys.length:=by
        have:=(V9.1 U).1;simp only[Array.length_toList]at this;omega
       rw[VT ah]at h1;obtain⟨zs,ak,ai⟩:=ih _ _ _ _ ab h1 (aj i f _ (by simpa using U) (VT ah));exact⟨zs,fun _=>⟨φ,rfl,ak,ai⟩⟩
     ·exact⟨[],fun h=>(hp h).elim⟩
    obtain⟨f,X⟩:=Classical.axiomOfChoice Y;obtain⟨xs,hx,ao⟩:=KC fs 0 τ.size f O.1 hlen (fun p hp=>by obtain⟨φ,a,_,b⟩:=X p hp;exact⟨φ,a,b⟩) (VH _);rw[W6]at hx;refine⟨xs,⟨by rw[hx.1,hlen],fun p hp =>?_⟩,hx⟩;obtain⟨φ,h1,_,h3⟩:=ao p hp;obtain⟨ψ,g1,g2,_⟩:=X p hp;rw[h1]at g1;cases g1;rw[Nat.sub_zero]at h3;exact⟨φ,h1,by rw[h3];exact g2⟩
   | arr m e =>
    rw[aa]at O hc;simp only[Wh]at O;have Z:=rX hc;subst Z;obtain⟨ys,k,_,rfl,hlen,aH,hf⟩:=DataW.trod_array hd h;have aj:∀(i:Nat) y,ys[i]? = some y->Reach P e y.1:=by
     intro i y au k hk;apply hw k;simp only[DataW.weights,hd];exact tP _ i y.1 (by simp[au]) k hk
    rw[(hT t τ hτ).cells]at hlen;obtain⟨aw,ad⟩:=O;split at ad
    ·rename_i φ hφ;simp only[beq_iff_eq]at ad;have Y:∀i:Nat,∃zs,i<m->y6 T n e zs∧jw w M zs ((cs.drop (i*φ.size)).take φ.size):=by
      intro i
      by_cases U:i<m
      ·have h1:=hf i U;rw[(hT _ φ hφ).cells,VT (by omega)]at h1;obtain⟨zs,ak,ai⟩:=ih _ _ _ _ aw h1 (aj i _ (VT (by omega)));exact⟨zs,fun _=>⟨ak,ai⟩⟩
      ·exact⟨[],fun h=>(U h).elim⟩
     obtain⟨f,X⟩:=Classical.axiomOfChoice Y;have al:∀l∈(List.range m).map f,l.length=φ.size:=by
      intro l hl;obtain⟨i,U,rfl⟩:=VF.1 hl;have U:=Xl.1 U;rw[(X i U).2.1,VZ,V0,hlen,ad];have:(i+1)*φ.size<=m*φ.size:=Ws _ U;rw[WC]at this;omega
     have ax:∀(i:Nat) l,((List.range m).map f)[i]? = some l->i<m∧l=f i:=by
      intro i l hl;rw[VC,VD]at hl;obtain⟨j,hj,rfl⟩:=hl;obtain⟨ay,az⟩:=V9.1 hj;simp only[Wb]at ay;simp only[Wc]at az;exact⟨ay,by rw[az]⟩
     have an:jw w M ((List.range m).map f).flatten ((cs.drop 0).take (((List.range m).map f).length*φ.size)):=by
      refine jw.flat _ 0 (fun i l hl =>?_) al;obtain⟨U,rfl⟩:=ax i l hl;rw[Wt];exact (X i U).2
     rw[Wa,Wb,W6,W5 (by omega)]at an;refine⟨_,⟨by rw[an.1,hlen],φ,hφ,fun i U =>?_⟩,an⟩;have ah:((List.range m).map f)[i]? = some (f i):=by simp[U]
     rw[xp φ.size _ al i _ ah];exact (X i U).1
    ·cases ad
   | slice e =>
    rw[aa]at O hc;simp only[Wh,beq_iff_eq]at O;have Z:=dJ hc;subst Z;obtain⟨⟨Y,aA⟩,ae⟩:=O;split at ae
    ·rename_i φ hφ;simp only[decide_eq_true_eq]at ae;rcases open_slice hd h with⟨rfl,_⟩|⟨a,len,cap,m,k,D',Pl,rfl,hb,hl,hm,aK,rfl,U⟩
     ·refine⟨[.sl false false 0 []],⟨by rw[Y];rfl,0,[],φ,rfl,by omega,hφ,by simp,fun i U=>by omega⟩,.one rfl ?_⟩;exact .sl none 0 false false 0 [] (fun _=>undef) (VG _) (VH _) (fun h=>by cases h) (fun _=>⟨rfl,rfl⟩) (fun h=>by cases h) (fun h=>(h rfl).elim) (fun j x hj=>by simp at hj) (fun x hx=>by simp at hx)
     ·have aS:len<=m:=by rw[aK];split<;>omega
      have aL:len*φ.bytes<=140737488351232:=by
       have h1:=hw ((((List.range len).map D').length+((List.range (m-len)).map fun j=>D' (len+j)).length)*P.bytesOf e) (by simp[DataW.weights,hd]);rw[(hT _ φ hφ).bytesOf]at h1;simp only[Wa,Wb]at h1;exact VI (Ws _ (by omega)) h1
      have aj:∀i,i<len->Reach P e (D' i):=by
       intro i ah k hk;apply hw k;simp only[DataW.weights,hd,VN,WV];exact .inr (.inl (tP _ i (D' i) (by simp[ah]) k hk))
      have av:∀i:Nat,∃zs,i<len->y6 T n e zs∧zs.length=φ.size∧∀(j:Nat) z,zs[j]? = some z->aF z=true∧∃v,w.cell? (a.add (i*φ.size+j))=some v∧RP w M z v:=by
       intro i
       by_cases aB:i<len
       ·obtain⟨cs',aC,aM⟩:=U i (by omega);rw[(hT _ φ hφ).cells]at aC;obtain⟨_,g1,g2⟩:=World.cells?_some aC;obtain⟨zs,ak,ai⟩:=ih _ _ _ _ aA aM (aj i aB);refine⟨zs,fun _=>⟨ak,by rw[ai.1,g1],fun j z hj =>?_⟩⟩;obtain⟨p1,v,p2,p3⟩:=ai.2 j z hj;refine⟨p1,v,?_,p3⟩;have aN:j<φ.size:=by rw[<- g1];exact (V9.1 p2).1
        rw[<- Go.Deep.add_add,g2 j aN,p2]
       ·exact⟨[],fun h=>(aB h).elim⟩
      obtain⟨f,X⟩:=Classical.axiomOfChoice av;have al:∀l∈(List.range len).map f,l.length=φ.size:=by
       intro l hl;obtain⟨i,U,rfl⟩:=VF.1 hl;exact (X i (Xl.1 U)).2.1
      have aD:((List.range len).map f).flatten.length=len*φ.size:=by rw[Fa φ.size _ al];simp
      have ar:∀i,i<len->(((List.range len).map f).flatten.drop (i*φ.size)).take φ.size=f i:=fun i U=>xp φ.size _ al i (f i) (by simp[U]);have aq:∀(p:Nat) z,((List.range len).map f).flatten[p]? = some z->aF z=true∧∃v,w.cell? (a.add p)=some v∧RP w M z v:=by
       intro p z hp;have aO:=(V9.1 hp).1;rw[aD]at aO;have hq:p / φ.size<len:=Xv (by rwa [WD]);have hr:p % φ.size<φ.size:=Wz _ ae;have he:p / φ.size*φ.size+p % φ.size=p:=Nat.div_add_mod' p φ.size;have hz:(f (p / φ.size))[p % φ.size]? = some z:=by
        rw[<- ar _ hq,VW,if_pos hr,VX,he];exact hp
       have:=(X _ hq).2.2 _ z hz;rw[he]at this;exact this
      refine⟨[.sl false false len ((List.range len).map f).flatten],⟨by rw[Y];rfl,len,_,φ,rfl,aL,hφ,aD,fun i U=>by rw[ar i U];exact (X i U).1⟩,.one rfl ?_⟩;refine .sl (some a) cap false false len _ (fun j=>(w.cell? (a.add j)).getD undef) hl hm (fun h=>by cases h) (fun h=>by cases h) (fun h=>by cases h) (fun aP =>?_) (fun j z hj =>?_) (fun z hz =>?_)
      ·have h0:0<((List.range len).map f).flatten.length:=Xw.2 aP;obtain⟨_,v,hv,_⟩:=aq 0 _ (VT h0);obtain⟨b,o,sp⟩:=a;have aQ:sp=none:=by
        unfold World.cell? at hv;split at hv
        ·split at hv
         ·cases hv
         ·rename_i h;simpa [Addr.add] using h
        ·cases hv
       subst aQ;have aE:b<w.heap.size:=by
        unfold World.cell? at hv;split at hv
        ·rename_i hh;exact (VK.1 hh).1
        ·cases hv
       refine⟨b,o,rfl,aE,hM b hb aE,fun j hj =>?_⟩;obtain⟨_,v,hv,_⟩:=aq j _ (VT hj);have ha:Addr.add ⟨b,o,none⟩ j=⟨b,o+j,none⟩:=by
        unfold Addr.add;split
        ·rename_i h0;rw[h0];rfl
        ·rfl
       have aR:w.cell? ⟨b,o+j,none⟩=some v:=by rw[<- ha];exact hv
       rw[aR];simp only[hv,Option.getD_some]
      ·obtain⟨_,v,hv,hr⟩:=aq j z hj;rw[hv];exact hr
      ·obtain⟨j,hj⟩:=List.mem_iff_getElem?.1 hz;exact (aq j z hj).1
    ·cases ae
def ox (T:Nat->Option Ty) (n t:Nat) (d:D):Prop :=
 match T t with
 | some τ=>if τ.ds.ko then ∃xs,d=.agg xs∧y6 T n t xs else y6 T n t [d]
 | none=>False
theorem jw.agg {w:World} {M:Nat->Prop} {xs:List D} {cs:Array Value} (h:jw w M xs cs.toList):RP w M (.agg xs) (.agg cs):=by
 have:=RP.agg (w:=w) (M:=M) xs cs.toList h.1.symm (fun j x O=>by
  obtain⟨_,v,h1,h2⟩:=h.2 j x O;simp only[List.getD,h1,Option.getD_some];exact h2) (fun x U=>by
  obtain⟨j,O⟩:=List.mem_iff_getElem?.1 U;exact (h.2 j x O).1)
 simpa using this
theorem jw.single {w:World} {M:Nat->Prop} {xs:List D} {v:Value} (h:jw w M xs [v]):∃x,xs=[x]∧RP w M x v:=by
 match xs,h with
 | [],h=>have:=h.1;simp at this
 | [x],h=>obtain⟨_,u,h1,h2⟩:=h.2 0 x rfl;simp only[List.getElem?_cons_zero,VP]at h1;subst h1;exact⟨x,rfl,h2⟩
 | x::y::xs,h=>have:=h.1;simp at this
theorem Qm (hT:fb P T) {M:Nat->Prop} (hM:∀b,base<=b->b<w.heap.size->¬M b) {n t b0:Nat} {v:Value} {d:DataW H} {ps:List MemPlace} (U:Mt T n t=true) (Z:Value.okWide P w .any b0 t v) (h:DataW.Trod enc P w base spare held t v d ps) (hw:Reach P t d) :
  ∃x,ox T n t x∧RP w M x v:=by
 obtain⟨fuel,h⟩:=h;obtain⟨xs,h1,h2⟩:=Sd hT hM n t fuel _ _ U h hw;unfold ox;cases n with
 | zero=>cases U
 | succ n =>
 cases hτ:T t with
 | none=>simp only[Mt,hτ]at U;cases U
 | some τ =>
  simp only;obtain⟨d',hd,Y⟩:=under hT hτ;cases X:τ.ds with
  | int k =>
   rw[X]at Y;have O:=rY Y;subst O;obtain⟨i,rfl⟩:=okWide_int hd Z;obtain⟨x,rfl,hx⟩:=jw.single (v := .int k i) h2;exact⟨x,by simpa [Ds.ko] using h1,hx⟩
  | bool =>
   rw[X]at Y;have O:=pY Y;subst O;obtain⟨i,rfl⟩:=okWide_bool hd Z;obtain⟨x,rfl,hx⟩:=jw.single (v := .bool i) h2;exact⟨x,by simpa [Ds.ko] using h1,hx⟩
  | str =>
   rw[X]at Y;have O:=mE Y;subst O;obtain⟨i,rfl⟩:=okWide_string hd Z;obtain⟨x,rfl,hx⟩:=jw.single (v := .string i) h2;exact⟨x,by simpa [Ds.ko] using h1,hx⟩
  | slice e =>
   rw[X]at Y;have O:=dJ Y;subst O;obtain⟨a,len,cap,rfl⟩:=okWide_slice hd Z;obtain⟨x,rfl,hx⟩:=jw.single (v := .slice a len cap) h2;exact⟨x,by simpa [Ds.ko] using h1,hx⟩
  | struct fs =>
   rw[X]at Y;obtain⟨F,rfl,_⟩:=eD Y;obtain⟨cs,rfl,_⟩:=okWide_struct hd Z;exact⟨.agg xs,by simpa [Ds.ko] using h1,jw.agg h2⟩
  | arr m e =>
   rw[X]at Y;have O:=rX Y;subst O;have:∃cs,v=.agg cs:=by
    unfold Value.okWide at Z;rw[hd]at Z;obtain⟨cs,h,_⟩:=Z;exact⟨cs,h⟩
   obtain⟨cs,rfl⟩:=this;exact⟨.agg xs,by simpa [Ds.ko] using h1,jw.agg h2⟩
  | map _ _=>simp only[Mt,hτ,X]at U;cases U
  | other=>simp only[Mt,hτ,X]at U;cases U
theorem zW (hT:fb P T) {M:Nat->Prop} (hM:∀b,base<=b->b<w.heap.size->¬M b) {n b0:Nat} : ∀(U:List TypeId) (vs:List Value) (ds:List (DataW H)) (Z:List MemPlace),DataW.TrodAll enc P w base spare held U vs ds Z ->
  (∀(j:Nat) t v,U[j]? = some t->vs[j]? = some v->Value.okWide P w .any b0 t v)->(∀t∈U,Mt T n t=true)->(∀k∈DataW.weightsEach P U ds,k<=140737488351232) ->
  ∃X:List D,X.length=vs.length∧(∀(j:Nat) x,X[j]? = some x->∃v,vs[j]? = some v∧RP w M x v)∧X.length=U.length∧∀(j:Nat) t,U[j]? = some t->∃x,X[j]? = some x∧ox T n t x
 | [],[],[],Z,_,_,_,_=>⟨[],rfl,fun j x O=>by simp at O,rfl,fun j t O=>by simp at O⟩
 | t::U,v::vs,d::ds,Z,h,hv,hok,hw=>by
  obtain⟨p,q,h1,h2,_⟩:=h;obtain⟨x,aa,ab⟩:=Qm hT hM (hok t (by simp)) (hv 0 t v rfl rfl) h1 (fun k hk=>hw k (by simp only[DataW.weightsEach,WV];exact .inl hk));obtain⟨X,g1,g2,g3,g4⟩:=zW hT hM U vs ds q h2 (fun j Y v' a b=>hv (j+1) Y v' (by simpa using a) (by simpa using b)) (fun Y ht=>hok Y (Xc _ ht)) (fun k hk=>hw k (by simp only[DataW.weightsEach,WV];exact .inr hk));refine⟨x::X,by simp[g1],fun j y O =>?_,by simp[g3],fun j Y O =>?_⟩
  ·cases j with
   | zero=>simp only[List.getElem?_cons_zero,VP]at O;subst O;exact⟨v,rfl,ab⟩
   | succ j=>simpa using g2 j y (by simpa using O)
  ·cases j with
   | zero=>simp only[List.getElem?_cons_zero,VP]at O;subst O;exact⟨x,rfl,aa⟩
   | succ j=>simpa using g4 j Y (by simpa using O)
 | [],[],_::_,_,h,_,_,_=>h.elim
 | [],_::_,_,_,h,_,_,_=>h.elim
 | _::_,[],_,_,h,_,_,_=>h.elim
 | _::_,_::_,[],_,h,_,_,_=>h.elim
end
end Go.Proofs.Ytgnoaanebhmegaa.Am
namespace Go.Proofs.Ytgnoaanebhmegaa.Am
open Go.RowKit Go.Deep Go.ChangeShapes Go.WideShapes Go.ChangeAt
section
variable {H:Type} {enc:TypeId×Value->H} {P:Program}
theorem zp {f:Func} {s:ChangeSpec} {apart fresh handsOn again:Bool} {W W':World} {args:Array Value} {v:Value} {ds gs:List (DataW H)} {before pa pv:List MemPlace}
  (hW:DataW.Whole enc P f.params.toList s.vars apart W args.toList ds gs before)
  (Z:∀(b:Nat) (sp:Nat->Bool) (hd:Bool),DataW.TrodAll enc P W' b sp hd f.resultTypes.toList (v.resultList f.resultTypes.size) (s.fn H (ds++gs)).results [])
  (O:∀sp:Nat->Bool,(∀p∈before,sp p.block=true)->DataW.TrodAll enc P W' 0 sp true f.params.toList args.toList (s.fn H (ds++gs)).args pa)
  (U:∀sp:Nat->Bool,(∀p∈before,sp p.block=true)->DataW.TrodVars enc P W' sp s.vars (s.fn H (ds++gs)).vars pv)
  (Y:before=pa++pv) (hb:Below W.heap.size W W')
  (ad:∀(j:Nat) (t:TypeId) (r:Value),f.resultTypes[j]? = some t->(v.resultList f.resultTypes.size)[j]? = some r->Value.okWide P W' .any 0 t r) :
  s.post enc P f apart fresh handsOn again W args v W':=by
 have aa:∀p∈before,p.block<W.heap.size:=fun p X=>hW.lt p X;have hold:∀p∈before,(fun b=>decide (b<W.heap.size)) p.block=true:=fun p X=>by simpa using aa p X
 refine⟨ds,gs,before,[],pa,pv,hW,Z _ _ _,O _ hold,U _ hold,World.keptBut_mono (fun p X=>⟨X,?_⟩) (hb.frame (·∈before)),fun _ =>?_⟩
 ·rw[Y,WV]at X;exact Or.inr X
 ·obtain⟨_,_,_,_,_,hz,hn⟩:=hW;refine⟨ad,_,_,([]++pa)++pv,⟨[]++pa,pv,trodAll_append (O _ (fun _ _=>rfl)) (Z _ _ _),U _ (fun _ _=>rfl),rfl,?_,?_⟩,?_⟩
  ·intro b off X;have ab:MemPlace.cell b off∈before:=by rw[Y];simpa using X
   rw[hb.frozen (aa _ ab)];exact hz b off ab
  ·intro ha;have:=hn ha;rw[Y]at this;simpa using this
  ·intro p X _;rw[Y];simpa using X
theorem qS (hl:laidOutB P=true) {W W':World} {U:Nat->Bool} : ∀ {X:List TypeId} {vs:List Value} {ds:List (DataW H)} {Y:List MemPlace},(∀t∈X,P.readableRec t=true∧t<P.types.size)->DataW.TrodAll enc P W 0 (fun _=>true) true X vs ds Y ->
  (∀p∈Y,W.sameAt W' p)->(∀p∈Y,U p.block=true)->DataW.TrodAll enc P W' 0 U true X vs ds Y
 | [],[],[],_,_,h,_,_=>h
 | t::X,v::vs,d::ds,_,hr,⟨p,q,h1,h2,e⟩,hs,hp=>by
  subst e;have Z:=hr t (by simp);exact⟨p,q,WideElems.Trod_stays hl Z.1 Z.2 h1 (fun x O=>hs x (VU _ O)) (fun x O=>hp x (VU _ O)),
   qS hl (fun t Z=>hr t (Xc _ Z)) h2 (fun x O=>hs x (VV _ O)) (fun x O=>hp x (VV _ O)),rfl⟩
end
theorem Pf {H:Type} {enc:TypeId×Value->H} {C:Checked} {T:Nat->Option Ty} {f:FuncId} {fn:Func} {s:ChangeSpec} {apart fresh handsOn again:Bool} {tb n:Nat} (hT:fb C.prog T)
  (hl:laidOutB C.prog=true) (hr:(fn.params.toList.all fun t=>C.prog.readableRec t&&decide (t<C.prog.types.size)&&Mt T n t)=true)
  (O:fn.resultTypes = #[tb]) (X:C.prog.underlying tb=some .bool) (hv:s.vars=[])
  (hs:∀ds:List (DataW H),ds.length=fn.params.toList.length->(s.fn H ds).results=[.lit (.bool true)]∧(s.fn H ds).args=ds∧(s.fn H ds).vars=[])
  (law:∀Y:List D,Y.length=fn.params.toList.length->(∀(j:Nat) t,fn.params.toList[j]? = some t->∃x,Y[j]? = some x∧ox T n t x)->HX C.prog f Y (.bool true))
  {W:World} {base:Nat} {args:Array Value} {ds gs:List (DataW H)} {before:List MemPlace}
  (hval:∀(j:Nat) t v,fn.params[j]? = some t->args[j]? = some v->Value.okWide C.prog W .any base t v) (hW:DataW.Whole enc C.prog fn.params.toList s.vars apart W args.toList ds gs before)
  (U:(DataW.weightsEach C.prog (fn.params.toList++s.plain.varTypes C.prog) (ds++gs)).all (·<=reachBytes)=true) (Z:LP W (fun _=>False)) :
  Calls C.prog f args W fun e W'=>∃v,e=.returned v∧s.post enc C.prog fn apart fresh handsOn again W args v W':=by
 have aa:=hW;obtain⟨p,q,hA,hV,rfl,hfz,ai⟩:=hW;rw[hv]at hV;obtain⟨rfl,rfl⟩:=trodVars_none hV;simp only[VR,Wh,decide_eq_true_eq]at hr;obtain⟨Y,h1,h2,h3,h4⟩:=zW (P:=C.prog) hT (M:=fun _=>False) (fun b _ _ h=>h) (n:=n) (b0:=base) fn.params.toList args.toList ds p hA
  (fun j t v a b=>hval j t v (by simpa using a) (by simpa using b)) (fun t ht=>(hr t ht).2) (fun k hk=>by
   rw[VR]at U;have ab:s.plain.varTypes C.prog=[]:=by unfold ChangeSpec.plain;simp only[hv];rfl
   rw[ab,Xx,Xx]at U;have h:=U k hk;rw[decide_eq_true_eq]at h;exact h)
 refine (law Y h3 h4 W (fun _=>False) args (fun b h=>h.elim) ⟨by simpa using h1.symm,fun j x hj =>?_,Z⟩).mono fun e W' hG =>?_
 ·obtain⟨v,g1,g2⟩:=h2 j x hj;have ad:args[j]? = some v:=by simpa using g1
  rw[VL,ad];exact g2
 ·obtain⟨v,rfl,hb,ae⟩:=hG;have ah:RP W' (fun _=>False) (.bool true) v:=ae;cases ah;have hlen:ds.length=fn.params.toList.length:=by
   have:∀ {ts:List TypeId} {vs:List Value} {ds:List (DataW H)} {ps:List MemPlace},DataW.TrodAll enc C.prog W 0 (fun _=>true) true ts vs ds ps->ds.length=ts.length:=by
    intro ts
    induction ts with
    | nil=>intro vs ds ps h;cases vs<;>cases ds<;>first|rfl|exact h.elim
    | cons t ts ih =>
     intro vs ds ps h;cases vs with
     | nil=>exact h.elim
     | cons v vs=>cases ds with
      | nil=>exact h.elim
      | cons d ds=>obtain⟨_,_,_,h2,_⟩:=h;simp[ih h2]
   exact this hA
  obtain⟨e1,e2,e3⟩:=hs ds hlen;refine⟨_,rfl,zp (pa:=p) (pv:=[]) aa ?_ ?_ ?_ (by simp) hb ?_⟩
  ·intro b sp hd;rw[Xx,e1,O];exact trodAll_mk1 ⟨1,by simp[DataW.trod,X,Value.cells]⟩
  ·intro sp hsp;rw[Xx,e2];refine qS hl (fun t ht=>(hr t ht).1) hA (fun x hx=>hb.same (aa.lt x (by simpa using hx))) (fun x hx=>hsp x (by simpa using hx))
  ·intro sp _;rw[Xx,e3,hv];rfl
  ·exact ok_one O rfl (by simp[Value.okWide,X,Cell.okWide,Cell.ok])
theorem I0 {H:Type} {enc:TypeId×Value->H} {C:Checked} {os:Os} {T:Nat->Option Ty} {f:FuncId} {fn:Func} {s:ChangeSpec} {conds:List PathCond} {apart fresh handsOn again:Bool} {tb n:Nat}
  (hT:fb C.prog T) (own:ownKnob C.prog.godebug=none) (started:os.Started) (O:C.prog.inits.idxOf? f=none) (Y:C.prog.funcs[f]? = some fn)
  (witness:∃(w:World) (tape:Tape) (i:Input),w.os=os∧(w.forCall tape i).Shaped C.prog∧i.vars=[]∧Input.okWide C.prog (w.forCall tape i) .any w.heap.size f i ∧
   s.pre6 enc C.prog fn conds apart (w.forCall tape i).memory i.args∧({} : Assume).holds C.prog (lone (Frame.enter C.prog f i.args .normal) [] (w.forCall tape i)))
  (hl:laidOutB C.prog=true) (hr:(fn.params.toList.all fun t=>C.prog.readableRec t&&decide (t<C.prog.types.size)&&Mt T n t)=true)
  (U:fn.resultTypes = #[tb]) (Z:C.prog.underlying tb=some .bool) (hv:s.vars=[])
  (hs:∀ds:List (DataW H),ds.length=fn.params.toList.length->(s.fn H ds).results=[.lit (.bool true)]∧(s.fn H ds).args=ds∧(s.fn H ds).vars=[])
  (law:∀ar:List D,ar.length=fn.params.toList.length->(∀(j:Nat) t,fn.params.toList[j]? = some t->∃x,ar[j]? = some x∧ox T n t x)->HX C.prog f ar (.bool true)) (aa:PE=none:=by rfl) :
  ReturnsInHanded {} C os f .any (s.pre6 enc C.prog fn conds apart) (s.post enc C.prog fn apart fresh handsOn again):=by
 apply returnsInHanded_of_change_sized own started O Y witness;intro W base args ds gs before X hW _ ab _;exact Pf hT hl hr U Z hv hs law X hW ab (fun b hb=>by rw[aa]at hb;cases hb)
end Go.Proofs.Ytgnoaanebhmegaa.Am
namespace Go.Proofs.Ytgnoaanebhmegaa.Am
open Go.RowKit
theorem S5 {T:Nat->Option Ty} {n t:Nat} {O:List D} (h:O.length=[t].length) (hs:∀(j:Nat) u,[t][j]? = some u->∃x,O[j]? = some x∧ox T n u x):∃a,O=[a]∧ox T n t a:=by
 match O,h with
 | [a],_=>obtain⟨x,h1,h2⟩:=hs 0 t rfl;cases h1;exact⟨a,rfl,h2⟩
theorem S6 {T:Nat->Option Ty} {n t:Nat} {O:List Nat} {U:List D} (h:U.length=(t::O).length) (hs:∀(j:Nat) u,(t::O)[j]? = some u->∃x,U[j]? = some x∧ox T n u x) :
  ∃a VA,U=a::VA∧ox T n t a∧VA.length=O.length∧∀(j:Nat) u,O[j]? = some u->∃x,VA[j]? = some x∧ox T n u x:=by
 match U,h with
 | a::VA,h =>
  obtain⟨x,h1,h2⟩:=hs 0 t rfl;cases h1;exact⟨a,VA,rfl,h2,by simpa using h,fun j u hu=>by simpa using hs (j+1) u (by simpa using hu)⟩
section
variable {T:Nat->Option Ty} {n t:Nat} {τ:Ty} {d:D}
theorem H7 {fs:List (Nat×Nat)} (h:ox T n t d) (O:T t=some τ) (U:τ.ds=.struct fs):∃xs,d=.agg xs∧y6 T n t xs:=by
 simp only[ox,O,U,Ds.ko,if_true]at h;exact h
theorem LQ {e:Nat} (h:ox T n t d) (O:T t=some τ) (U:τ.ds=.slice e):y6 T n t [d]:=by
 simp only[ox,O,U,Ds.ko,Wg,if_false]at h;exact h
theorem Q0 {k:IntKind} {xs:List D} (h:y6 T (n+1) t xs) (O:T t=some τ) (U:τ.ds=.int k):∃i,xs=[.int k i]∧(Lit.int k i).wf=true:=by
 simp only[y6,O,U]at h;exact h.2
theorem MQ {e:Nat} {φ:Ty} {xs:List D} (h:y6 T (n+1) t xs) (U:T t=some τ) (X:τ.ds=.slice e) (Y:T e=some φ) :
  ∃len O,xs=[.sl false false len O]∧len*φ.bytes<=140737488351232∧O.length=len*φ.size∧∀i,i<len->y6 T n e ((O.drop (i*φ.size)).take φ.size):=by
 simp only[y6,U,X]at h;obtain⟨_,len,O,ψ,h1,h3,h4,h5,h6⟩:=h;rw[Y]at h4;cases h4;exact⟨len,O,h1,h3,h5,h6⟩
theorem Jg {fs:List (Nat×Nat)} {xs:List D} (h:y6 T (n+1) t xs) (O:T t=some τ) (U:τ.ds=.struct fs):xs.length=τ.size∧∀f∈fs,∃φ,T f.1=some φ∧y6 T n f.1 ((xs.drop f.2).take φ.size):=by
 simp only[y6,O,U]at h;exact h
end
end Go.Proofs.Ytgnoaanebhmegaa.Am
namespace Go.Proofs.Ytgnoaanebhmegaa.Am
open Go.RowKit Go.Proofs.Ytgnoaanebhmegaa.P
def Js {α:Type} (T:Nat->Option Ty) (n t:Nat) (E:iS α) (ok:α->Prop):Prop:=(∃φ,T t=some φ∧φ.size=E.size)∧∀xs,y6 T n t xs->∃x,xs=E.cells x∧ok x
section
variable {T:Nat->Option Ty} {n t:Nat} {τ:Ty}
theorem Vy {k:IntKind} (O:T t=some τ) (U:τ.ds=.int k) (hs:τ.size=1):Js T (n+1) t (eI k) (fun i=>(Lit.int k i).wf=true):=⟨⟨τ,O,hs⟩,fun _ h=>Q0 h O U⟩
theorem RS {α:Type} (E:iS α) (ok:α->Prop):∀(len:Nat) (O:List D),O.length=len*E.size->(∀i,i<len->∃x,(O.drop (i*E.size)).take E.size=E.cells x∧ok x)->∃l:List α,l.length=len∧O=ae E l∧∀x∈l,ok x
 | 0,O,Y,_=>⟨[],rfl,by simpa [ae] using Y,fun x X=>by simp at X⟩
 | len+1,O,Y,h=>by
  obtain⟨x,X,Z⟩:=h 0 (by omega);obtain⟨l,h1,h2,h3⟩:=RS E ok len (O.drop E.size) (by rw[V0,Y,WC];omega) (fun i hi=>by
   obtain⟨y,U,aa⟩:=h (i+1) (by omega);refine⟨y,?_,aa⟩;rw[Xs];rw[WC,Nat.add_comm]at U;exact U)
  rw[Xu,W6]at X;refine⟨x::l,by simp[h1],?_,fun y U =>?_⟩
  ·rw[aK,<- h2,<- X,Xt]
  ·rcases VN.1 U with rfl|U
   ·exact Z
   ·exact h3 y U
theorem SG {α:Type} {E:iS α} {ok:α->Prop} {e:Nat} (O:T t=some τ) (Y:τ.ds=.slice e) (hs:τ.size=1) {B:Nat} (U:(T e).map (·.bytes)=some B) (he:Js T n e E ok):Js T (n+1) t (dp E) (fun l=>l.length*B<=140737488351232∧∀x∈l,ok x):=by
 obtain⟨⟨φ,X,Z⟩,hx⟩:=he;have hb:φ.bytes=B:=by rw[X]at U;simpa using U
 refine⟨⟨τ,O,hs⟩,fun xs h =>?_⟩;obtain⟨len,ys,h1,h2,h3,h4⟩:=MQ h O Y X;rw[Z]at h3 h4;rw[hb]at h2;obtain⟨l,k1,k2,k3⟩:=RS E ok len ys h3 fun i hi=>hx _ (h4 i hi);subst k1 k2;exact⟨l,h1,h2,k3⟩
def Um {α:Type} (T:Nat->Option Ty) (n:Nat) (fs:List (Nat×Nat)) (o:Nat) (E:iS α) (ok:α->Prop):Prop :=
 ∀xs:List D,xs.length=o+E.size->(∀f∈fs,∃φ,T f.1=some φ∧y6 T n f.1 ((xs.drop f.2).take φ.size))->∃x,xs.drop o=E.cells x∧ok x
theorem Tt {α:Type} {E:iS α} {ok:α->Prop} {O o:Nat} (h:Js T n O E ok):Um T n [(O,o)] o E ok:=by
 obtain⟨⟨φ,U,Z⟩,X⟩:=h;intro xs hl Y;obtain⟨ψ,h1,h2⟩:=Y (O,o) (by simp);cases U.symm.trans h1;rw[W5 (by rw[V0];omega)]at h2;exact X _ h2
theorem Tu {α β:Type} {E:iS α} {ok:α->Prop} {U:iS β} {O:β->Prop} {X o o':Nat} {fs:List (Nat×Nat)} (h:Js T n X E ok) (ho:o'=o+E.size) (h':Um T n fs o' U O):Um T n ((X,o)::fs) o (Ke E U) (fun x=>ok x.1∧O x.2):=by
 subst ho;obtain⟨⟨φ,hφ,hz⟩,hx⟩:=h;intro xs hl hf;obtain⟨ψ,h1,h2⟩:=hf (X,o) (by simp);cases hφ.symm.trans h1;obtain⟨x,Y,Z⟩:=hx _ h2;obtain⟨y,aa,ab⟩:=h' xs (by rw[hl];show o+(E.size+U.size)=_;omega) fun f ad=>hf f (Xc _ ad);refine⟨(x,y),?_,Z,ab⟩;show xs.drop o=E.cells x++U.cells y;rw[<- Y,<- aa,<- hz,<- Xs,Xt]
theorem Vb {α β:Type} {E:iS β} {ok:β->Prop} {f:α->β} {X:∀x y,f x=f y->x=y} {g:β->α} {fs:List (Nat×Nat)} (O:T t=some τ) (Y:τ.ds=.struct fs) (hs:τ.size=E.size) (U:∀y,f (g y)=y) (h:Um T n fs 0 E ok):Js T (n+1) t (Qx E f X) (fun x=>ok (f x)):=by
 refine⟨⟨τ,O,hs⟩,fun xs Z =>?_⟩;obtain⟨h1,h2⟩:=Jg Z O Y;obtain⟨y,h3,h4⟩:=h xs (by rw[h1,hs,Wt]) h2;refine⟨g y,?_,?_⟩
 ·show xs=E.cells (f (g y));rw[U,<- h3,W6]
 ·show ok (f (g y));rw[U];exact h4
def Ul {α:Type} (T:Nat->Option Ty) (n t:Nat) (A:Arg α) (ok:α->Prop):Prop:=∀d,ox T n t d->∃x,d=A.d x∧ok x
theorem Tr {α:Type} {E:iS α} {ok:List α->Prop} {e:Nat} (O:T t=some τ) (U:τ.ds=.slice e) (X:Js T n t (dp E) ok):Ul T n t (gf E) ok:=fun d h=>by
 obtain⟨x,h1,h2⟩:=X.2 _ (LQ h O U);simp only[tk,V4,and_true]at h1;exact⟨x,h1,h2⟩
theorem Vw {α:Type} {E:iS α} {ok:α->Prop} {fs:List (Nat×Nat)} (O:T t=some τ) (U:τ.ds=.struct fs) (X:Js T n t E ok):Ul T n t (dm E) ok:=fun d h=>by
 obtain⟨xs,rfl,h1⟩:=H7 h O U;obtain⟨x,h1,h2⟩:=X.2 _ h1;exact⟨x,by rw[h1];rfl,h2⟩
def M5 {α:Type} (T:Nat->Option Ty) (n:Nat) (U:List Nat) (A:fX α) (ok:α->Prop):Prop:=∀O:List D,O.length=U.length->(∀(j:Nat) u,U[j]? = some u->∃x,O[j]? = some x∧ox T n u x)->∃x,O=A.ds x∧ok x
theorem US {α:Type} {A:Arg α} {ok:α->Prop} (h:Ul T n t A ok):M5 T n [t] (ee A) ok:=fun Y O hs=>by
 obtain⟨a,rfl,U⟩:=S5 O hs;obtain⟨x,rfl,X⟩:=h a U;exact⟨x,rfl,X⟩
theorem Ts {α β:Type} {A:Arg α} {ok:α->Prop} {B:fX β} {O:β->Prop} {Y:List Nat} (h:Ul T n t A ok) (h':M5 T n Y B O):M5 T n (t::Y) (gg A B) (fun x=>ok x.1∧O x.2):=fun Z hl hs=>by
 obtain⟨a,Z,rfl,ha,U,X⟩:=S6 hl hs;obtain⟨x,rfl,hx⟩:=h a ha;obtain⟨y,rfl,hy⟩:=h' Z U X;exact⟨(x,y),rfl,hx,hy⟩
theorem Sv {P:Program} {f:FuncId} {α:Type} {A:fX α} {F:α->Option Bool} {ok:α->Prop} {U:List Nat} (X:M5 T n U A ok) (Y:bN P f (dR A F (fun r =>.clean (.bool r)))) (h:∀x,ok x->F x=some true) (O:List D) (Z:O.length=U.length)
  (hs:∀(j:Nat) u,U[j]? = some u->∃x,O[j]? = some x∧ox T n u x):HX P f O (.bool true):=by
 obtain⟨x,rfl,hx⟩:=X O Z hs;refine Y.calls none _ _ none ?_;rw[b6,h x hx];rfl
end
end Go.Proofs.Ytgnoaanebhmegaa.Am
namespace Go.Proofs
open Go.Shelf
def Try.I6:Go.Shelf.Ren:=⟨fun|6=>37|15=>27|14=>53|28=>45|29=>46|20=>67|21=>68|22=>69|23=>70|24=>71|25=>72|26=>73|27=>74|46=>81|47=>82|48=>83|49=>84|50=>85|57=>87|n=>n,fun|22=>28|24=>23|25=>59|3=>3|39=>51|0=>0|53=>63|55=>65|4=>4|46=>83|45=>82|50=>72|5=>5|9=>9|66=>90|70=>94|76=>96|77=>97|n=>n,fun|n=>n⟩
theorem Try.Ps:Go.Proofs.SlLaysF.n6 prog Try.I6:={
 mixed:=by kernel_rfl
 f6:=⟨Try.f37.name,by decide,Try.func37.trans (congrArg some (by kernel_rfl))⟩
 f14:=⟨Try.f53.name,by decide,Try.func53.trans (congrArg some (by kernel_rfl))⟩
 f15:=Try.func27.trans (congrArg some (by kernel_rfl))
 f20:=⟨Try.f67.name,by decide,Try.func67.trans (congrArg some (by kernel_rfl))⟩
 f21:=⟨Try.f68.name,by decide,Try.func68.trans (congrArg some (by kernel_rfl))⟩
 f22:=⟨Try.f69.name,by decide,Try.func69.trans (congrArg some (by kernel_rfl))⟩
 f23:=⟨Try.f70.name,by decide,Try.func70.trans (congrArg some (by kernel_rfl))⟩
 f24:=⟨Try.f71.name,by decide,Try.func71.trans (congrArg some (by kernel_rfl))⟩
 f25:=⟨Try.f72.name,by decide,Try.func72.trans (congrArg some (by kernel_rfl))⟩
 f26:=⟨Try.f73.name,by decide,Try.func73.trans (congrArg some (by kernel_rfl))⟩
 f27:=⟨Try.f74.name,by decide,Try.func74.trans (congrArg some (by kernel_rfl))⟩
 f28:=Try.func45.trans (congrArg some (by kernel_rfl))
 f29:=Try.func46.trans (congrArg some (by kernel_rfl))
 f46:=⟨Try.f81.name,by decide,Try.func81.trans (congrArg some (by kernel_rfl))⟩
 f47:=Try.func82.trans (congrArg some (by kernel_rfl))
 f48:=Try.func83.trans (congrArg some (by kernel_rfl))
 f49:=⟨Try.f84.name,by decide,Try.func84.trans (congrArg some (by kernel_rfl))⟩
 f50:=⟨Try.f85.name,by decide,Try.func85.trans (congrArg some (by kernel_rfl))⟩
 f57:=⟨Try.f87.name,by decide,Try.func87.trans (congrArg some (by kernel_rfl))⟩
 t0:=underlying0
 a0:=isAgg0
 z0:=sizeOf0
 v0:=zeroValue0
 t3:=underlying3
 a3:=isAgg3
 z3:=sizeOf3
 v3:=zeroValue3
 t4:=underlying4
 a4:=isAgg4
 z4:=sizeOf4
 v4:=zeroValue4
 t5:=underlying5
 a5:=isAgg5
 z5:=sizeOf5
 v5:=zeroValue5
 t9:=underlying9
 a9:=isAgg9
 z9:=sizeOf9
 v9:=zeroValue9
 t22:=underlying28
 a22:=isAgg28
 z22:=sizeOf28
 v22:=zeroValue28
 a24:=isAgg23
 z24:=sizeOf23
 t25:=underlying59
 a25:=isAgg59
 z25:=sizeOf59
 v25:=zeroValue59
 t39:=underlying51
 a39:=isAgg51
 z39:=sizeOf51
 v39:=zeroValue51
 t45:=underlying82
 a45:=isAgg82
 z45:=sizeOf82
 v45:=zeroValue82
 t46:=underlying83
 a46:=isAgg83
 z46:=sizeOf83
 v46:=zeroValue83
 t50:=underlying72
 a50:=isAgg72
 z50:=sizeOf72
 v50:=zeroValue72
 t53:=underlying63
 a53:=isAgg63
 z53:=sizeOf63
 v53:=zeroValue63
 t55:=underlying65
 a55:=isAgg65
 z55:=sizeOf65
 v55:=zeroValue65
 t66:=underlying90
 a66:=isAgg90
 z66:=sizeOf90
 v66:=zeroValue90
 t70:=underlying94
 a70:=isAgg94
 z70:=sizeOf94
 v70:=zeroValue94
 t76:=underlying96
 a76:=isAgg96
 z76:=sizeOf96
 v76:=zeroValue96
 t77:=underlying97
 a77:=isAgg97
 z77:=sizeOf97
 v77:=zeroValue97 }
end Go.Proofs
namespace Go.Proofs.Ytgnoaanebhmegaa.Am
open Go.RowKit Go.Proofs.Ytgnoaanebhmegaa.P
theorem Ju {w:World} {M:Nat->Prop} {k:IntKind} {l:List Int} {u:Value} (h:RP w M (.sl false false l.length (ae (eI k) l)) u) :
  ∃A c,u=.slice A l.length c∧l.length<=c∧c<=maxLen∧(A=none->l.length=0∧c=0)∧(l≠[]->∃b o,A=some ⟨b,o,none⟩∧b<w.heap.size∧¬M b∧∀j,j<l.length->w.cell? ⟨b,o+j,none⟩=some (.int k (l.getD j 0))):=by
 cases h with
 | sl A c nl tight n xs us h1 h2 h3 h4 h5 h6 h7 h8 =>
  refine⟨A,c,rfl,h1,h2,h4,fun X =>?_⟩;have O:ae (eI k) l≠[]:=by
   intro he;have:=congrArg List.length he;rw[sn]at this;exact X (WY this)
  obtain⟨b,o,rfl,Y,Z,hc⟩:=h6 O;refine⟨b,o,rfl,Y,Z,fun j U =>?_⟩;rw[hc j (by rw[sn];exact U)];have hg:(ae (eI k) l)[j]? = some (.int k (l.getD j 0)):=by rw[uE];simp[List.getD,U]
  rw[R6 (h7 j _ hg)]
section
variable {α:Type} (E:iS α) {l:List α} {i:Int} {x x':α}
end
def mr {α β:Type} (A:fX α) (F:α->Option β) (R:β->Nat×Nat×Nat×Nat×Nat×List D):List D->Option (Nat×Nat×Nat×Nat×Nat×List D):=fun ds=>open Classical in if h:∃a,A.ds a=ds then (F (Classical.choose h)).map R else none
theorem OS {α β:Type} {A:fX α} {F:α->Option β} {R:β->Nat×Nat×Nat×Nat×Nat×List D} {ds:List D} {q:Nat×Nat×Nat×Nat×Nat×List D} (h:mr A F R ds=some q):∃a r,ds=A.ds a∧F a=some r∧q=R r:=by
 unfold mr at h;split at h
 ·rename_i he;rw[VD]at h;obtain⟨r,h1,h2⟩:=h;exact⟨_,r,(Classical.choose_spec he).symm,h1,h2.symm⟩
 ·cases h
structure U5 (P:Program) (f:FuncId) (p:List D->Option (Nat×Nat×Nat×Nat×Nat×List D)):Prop where
 callable:cu P f
 calls:∀args ty t s S n cs,p args=some (ty,t,s,S,n,cs)->Cu P f args ty t s S n cs
theorem U5.of {P:Program} {T:Nat->Option Ty} {Γ:Env} (X:fb P T) (Y:bt P Γ) (hm:P.follows .mixedOrders=true) {α β:Type} {A:fX α} {F:α->Option β} {R:β->Nat×Nat×Nat×Nat×Nat×List D} {f:FuncId} {fn:Func} (U:P.funcs[f]? = some fn) (O:(match fn.body with|some c=>codeOk c|none=>true)=true)
  (Z:(fn.name == "runtime.NumGoroutine")=false∧fn.body.isNone=false) (hn:∀a,(A.ds a).length<=fn.ntmps) (h:∀a r,F a=some r->DC T Γ FU fn (A.ds a)=some (R r)):U5 P f (mr A F R) where
 callable:=⟨fn,U,Z⟩
 calls args ty t s S n cs hg:=by
  obtain⟨a,r,rfl,hr,he⟩:=OS hg;exact DD X Y hm U O (hn a) ((h a r hr).trans (by rw[he]))
def SD {α β γ:Type} (ty t s:Nat) (U:iS γ) (A:fX α) (F:γ->α->Option (γ×β)) (R:β->D):Nat->Nat->Nat->Nat->List D->List D->Option (D×List D):=fun O X Y o cs args =>
 open Classical in if h:∃p:List D×List D×γ×α,O=ty∧X=t∧Y=s∧cs=p.1++(U.cells p.2.2.1++p.2.1)∧o=p.1.length∧args=A.ds p.2.2.2 then
  (F (Classical.choose h).2.2.1 (Classical.choose h).2.2.2).map fun r=>(R r.2,(Classical.choose h).1++(U.cells r.1++(Classical.choose h).2.1)) else none
theorem Mq {α β γ:Type} {ty t s:Nat} {O:iS γ} {A:fX α} {F:γ->α->Option (γ×β)} {R:β->D} {ty' X Y o:Nat} {cs args:List D} {d:D} {cs':List D} (h:SD ty t s O A F R ty' X Y o cs args=some (d,cs')) :
  ty'=ty∧X=t∧Y=s∧∃pre post x a r,cs=pre++(O.cells x++post)∧o=pre.length∧args=A.ds a∧F x a=some r∧d=R r.2∧cs'=pre++(O.cells r.1++post):=by
 unfold SD at h;split at h
 ·rename_i he;obtain⟨h1,h2,h3,h4,h5,h6⟩:=Classical.choose_spec he;rw[VD]at h;obtain⟨r,Z,U⟩:=h;simp only[Prod.mk.injEq]at U;exact⟨h1,h2,h3,_,_,_,_,r,h4,h5,h6,Z,U.1.symm,U.2.symm⟩
 ·cases h
structure U6 (P:Program) (f:FuncId) (p:Nat->Nat->Nat->Nat->List D->List D->Option (D×List D)):Prop where
 callable:cu P f
 calls:∀ty t s o cs args d cs',p ty t s o cs args=some (d,cs')->Cv P f ty t s o cs args d cs'
theorem U6.of {P:Program} {T:Nat->Option Ty} {Γ:Env} (Y:fb P T) (Z:bt P Γ) (hm:P.follows .mixedOrders=true) {α β γ:Type} {ty t s:Nat} {O:iS γ} {A:fX α} {F:γ->α->Option (γ×β)} {R:β->D} {f:FuncId} {fn:Func} (X:P.funcs[f]? = some fn) (U:(match fn.body with|some c=>codeOk c|none=>true)=true)
  (hc:(fn.name == "runtime.NumGoroutine")=false∧fn.body.isNone=false) (hn:∀a,(A.ds a).length+1<=fn.ntmps) (h:∀pre post x a x' r,F x a=some (x',r)->Jk T Γ FU fn ty t s pre.length (pre++(O.cells x++post)) (A.ds a)=some (R r,pre++(O.cells x'++post))):U6 P f (SD ty t s O A F R) where
 callable:=⟨fn,X,hc⟩
 calls aa t' s' o cs args d cs' hg:=by
  obtain⟨rfl,rfl,rfl,pre,post,x,a,r,rfl,rfl,rfl,hr,rfl,rfl⟩:=Mq hg;exact DE Y Z hm X U (hn a) (h pre post x a r.1 r.2 hr)
section
variable {pre l:List D} {k m:Nat}
end
end Go.Proofs.Ytgnoaanebhmegaa.Am
namespace Go.Proofs.Ytgnoaanebhmegaa.P
def Mh {α:Type} (c:α->α->Int) (x:α):List α->List α
 | []=>[x]
 | y::l=>if c x y<=0 then x::y::l else y::Mh c x l
def js {α:Type} (c:α->α->Int):List α->List α
 | []=>[]
 | x::l=>Mh c x (js c l)
theorem tG {α:Type} (c:α->α->Int) (x:α):∀l:List α,(Mh c x l).Perm (x::l)
 | []=>XF _
 | y::l=>by
  unfold Mh;split
  ·exact XF _
  ·exact ((tG c x l).cons y).trans (List.Perm.swap x y l)
theorem lr {α:Type} (c:α->α->Int):∀l:List α,(js c l).Perm l
 | []=>XF _
 | x::l=>(tG c x _).trans ((lr c l).cons x)
theorem jF {α:Type} (c:α->α->Int) (l:List α):(js c l).length=l.length:=(lr c l).length_eq
structure WO {α:Type} (c:α->α->Int):Prop where
 total:∀x y,c x y<=0∨c y x<=0
 neg:∀x y,c x y<0↔0<c y x
 trans:∀x y z,c x y<=0->c y z<=0->c x z<=0
theorem uO {α:Type} {c:α->α->Int} (h:WO c) (x:α):∀l:List α,l.Pairwise (fun x y=>c x y<=0)->(Mh c x l).Pairwise (fun x y=>c x y<=0)
 | [],_=>List.pairwise_singleton _ _
 | y::l,hs=>by
  unfold Mh;obtain⟨h1,h2⟩:=Xi.1 hs;split
  ·rename_i U;refine Xi.2 ⟨fun z O =>?_,hs⟩;rcases VN.1 O with rfl|O
   ·exact U
   ·exact h.trans _ _ _ U (h1 z O)
  ·rename_i U;have X:c y x<=0:=(h.total x y).resolve_left U;refine Xi.2 ⟨fun z O =>?_,uO h x l h2⟩;rcases VN.1 ((tG c x l).mem_iff.1 O) with rfl|O
   ·exact X
   ·exact h1 z O
theorem kp {α:Type} {c:α->α->Int} (h:WO c):∀l:List α,(js c l).Pairwise (fun x y=>c x y<=0)
 | []=>List.Pairwise.nil
 | x::l=>uO h x _ (kp h l)
theorem mw {α:Type} {c:α->α->Int} : ∀ {l m:List α},l.Perm m->(∀x∈l,∀y∈l,c x y<=0->c y x<=0->x=y)->l.Pairwise (fun x y=>c x y<=0)->m.Pairwise (fun x y=>c x y<=0)->l=m
 | [],m,O,_,_,_=>(List.Perm.nil_eq O)
 | x::l,[],O,_,_,_=>absurd O.symm (by intro h;have:=h.length_eq;simp at this)
 | x::l,y::m,O,ha,Y,hm=>by
  obtain⟨Z,l2⟩:=Xi.1 Y;obtain⟨m1,m2⟩:=Xi.1 hm;have U:x=y:=by
   by_cases he:x=y
   ·exact he
   ·have X:y∈l:=by
     have:y∈x::l:=O.mem_iff.2 Xb;rcases VN.1 this with h|h
     ·exact absurd h.symm he
     ·exact h
    have hx:x∈m:=by
     have:x∈y::m:=O.mem_iff.1 Xb;rcases VN.1 this with h|h
     ·exact absurd h he
     ·exact h
    exact ha x Xb y (Xc _ X) (Z y X) (m1 x hx)
  subst U;rw[mw ((List.perm_cons x).1 O) (fun a h1 b h2=>ha a (Xc _ h1) b (Xc _ h2)) l2 m2]
open Classical in
def Lc {α:Type} (c:α->α->Int) (l:List α):Option (List α×Unit):=if l.length<4611686018427387904∧∀x∈l,∀y∈l,c x y=0->x=y then some (js c l,()) else none
end Go.Proofs.Ytgnoaanebhmegaa.P
namespace Go.Proofs.Ytgnoaanebhmegaa.Am
open Go.RowKit Go.Proofs.Ytgnoaanebhmegaa.P
def Nn (ag:Bool) (us:List Value):Value:=if ag then .agg us.toArray else us.getD 0 undef
def Uk {α:Type} (E:iS α) (w:World) (M:Nat->Prop) (x:α) (us:List Value):Prop:=us.length=E.size∧∀j d,(E.cells x)[j]? = some d->aF d=true∧RP w M d (us.getD j undef)
def S2 {α:Type} (P:Program) (g:FuncId) (ag:Bool) (E:iS α) (c:α->α->Int):Prop:=∀(w:World) (M:Nat->Prop) (x y:α) (O U:List Value),(∀b,M b->b<w.heap.size)->Uk E w M x O->Uk E w M y U ->
 Calls P g #[Nn ag O,Nn ag U] w fun e w'=>e=.returned (.int .i64 (c x y))∧∃q os,w'=Go.Sort.grow (w.drewN q) os
def Rc (P:Program) (f g:FuncId) (ag:Bool) (k:Nat):Prop:=∀(β:Type) (_:Inhabited β) (enc:β->List Value) (O:β->β->Int),(∀x,(enc x).length=k)->(∀x,∀v∈enc x,v.oneCell'=true)->Go.Sort.SWO (ltOf O)->∀(blk off cap:Nat) (d:Array β) (w:World),
 (∀(m:Nat) (os:Array Obj) (U:Array β),U.size=d.size->∀x y:β,Calls P g #[Nn ag (enc x),Nn ag (enc y)] (sortWorldK enc k w blk off m U os) fun e w'=>e=.returned (.int .i64 (O x y))∧∃q X,w'=Go.Sort.grow ((sortWorldK enc k w blk off m U os).drewN q) X) ->
 Go.Sort.HoldsK enc k w blk off d->blk<w.heap.size->d.size<4611686018427387904 ->
 Calls P f #[.slice (some ⟨blk,off,none⟩) d.size cap,.func (.func g) #[] #[]] w fun e w'=>e=.returned (.tuple #[])∧∃Y n os,Go.Sort.PermIn 0 d.size d Y∧Go.Sort.SortedIn (ltOf O) 0 d.size Y∧w'=sortWorldK enc k w blk off n Y os
theorem Kg {α:Type} (E:iS α) {l:List α} {i j:Nat} {x:α} (U:l[i]? = some x) (X:j<E.size):(ae E l)[i*E.size+j]? = (E.cells x)[j]?:=by
 have h1:((ae E l).drop (i*E.size))[j]? = (ae E l)[i*E.size+j]?:=VX;have h2:l.drop i=x::l.drop (i+1):=by
  obtain⟨O,rfl⟩:=V9.1 U;exact XB O
 rw[<- h1,p5,h2,aK,Wk (by rw[E.len];exact X)]
section
variable {β:Type} [Inhabited β] {enc:β->List Value} {k:Nat}
theorem Dn {w:World} {b off:Nat} {d:Array β} {cs:Array Value} {ty:Nat} {fr:Nat×Nat} (h:w.heap[b]? = some (.cells cs ty fr)):(Go.Sort.putRowK enc k w b off d).heap[b]? = some (.cells (Go.Sort.putCells id off (Go.Sort.flatK enc k d) cs) ty fr):=by
 simp[Go.Sort.putRowK,Go.Sort.putRow,Go.Sort.mapBlock,VQ,h,Go.Sort.onCells]
theorem vC {w:World} {b c off:Nat} {d:Array β} (h:c≠b):(Go.Sort.putRowK enc k w b off d).heap[c]? = w.heap[c]?:=by
 simp[Go.Sort.putRowK,Go.Sort.putRow,Go.Sort.mapBlock,VQ,Ne.symm h]
theorem qM {w:World} {b c off m:Nat} {d:Array β} {os:Array Obj} (O:c<w.heap.size) (h:c≠b):(sortWorldK enc k w b off m d os).heap[c]? = w.heap[c]?:=by
 unfold sortWorldK;rw[Go.Sort.heap_grow_old _ _ (by simpa [Go.Sort.putRowK,Go.Sort.ahead] using O),vC h];rfl
theorem kf {w:World} {b off m:Nat} {d:Array β} {os:Array Obj} : w.heap.size<=(sortWorldK enc k w b off m d os).heap.size:=by
 simp[sortWorldK,Go.Sort.putRowK,Go.Sort.ahead]
theorem zx {w:World} {b off m:Nat} {d:Array β} {os:Array Obj} {cs:Array Value} {ty:Nat} {fr:Nat×Nat} (h:w.heap[b]? = some (.cells cs ty fr)):(sortWorldK enc k w b off m d os).heap[b]? = some (.cells (Go.Sort.putCells id off (Go.Sort.flatK enc k d) cs) ty fr):=by
 have O:=(VK.1 h).1;unfold sortWorldK;rw[Go.Sort.heap_grow_old _ _ (by simpa [Go.Sort.putRowK,Go.Sort.ahead] using O)];exact Dn h
theorem zq {off:Nat} {d:Array β} {cs:Array Value} {j:Nat} (O:j<cs.size):(Go.Sort.putCells id off (Go.Sort.flatK enc k d) cs).getD j undef=if off<=j∧j<off+d.size*k then (enc d[(j-off) / k]!)[(j-off) % k]! else cs.getD j undef:=by
 have h1:(Go.Sort.putCells id off (Go.Sort.flatK enc k d) cs)[j]? = some (if off<=j∧j<off+d.size*k then (enc d[(j-off) / k]!)[(j-off) % k]! else cs[j]):=by
  simp only[Go.Sort.putCells,Array.getElem?_mapIdx,WQ O,Option.map_some,Go.Sort.size_flatK];congr 1;split
  ·rename_i U;rw[Go.Sort.get_flatK _ _ _ _ (by omega)];rfl
  ·rfl
 rw[VL,h1];simp[VL,O]
end
theorem SR {α β:Type} {c:α->α->Int} (h:WO c) (f:β->α):Go.Sort.SWO (ltOf fun x y=>c (f x) (f y)) where
 irrefl x:=by
  simp only[ltOf,decide_eq_false_iff_not];intro X;have:=(h.neg _ _).1 X;omega
 trans x y z h1 h2:=by
  simp only[ltOf,decide_eq_true_eq]at h1 h2 ⊢
  by_cases h3:c (f x) (f z)<0
  ·exact h3
  ·have O:c (f z) (f x)<=0:=by
    have:=(h.neg (f z) (f x));rcases XG (c (f z) (f x)) 0 with q|q|q
    ·omega
    ·omega
    ·exact absurd ((h.neg (f x) (f z)).2 q) h3
   have U:=h.trans _ _ _ O (Int.le_of_lt h1);have Y:=(h.neg _ _).1 h2;omega
 ntrans x y z h1 h2:=by
  simp only[ltOf,decide_eq_false_iff_not]at h1 h2 ⊢;intro h3;have O:c (f y) (f x)<=0:=by
   by_cases q:0<c (f y) (f x)
   ·exact absurd ((h.neg _ _).2 q) h1
   ·omega
  have U:c (f z) (f y)<=0:=by
   by_cases q:0<c (f z) (f y)
   ·exact absurd ((h.neg _ _).2 q) h2
   ·omega
  have Y:=h.trans _ _ _ U O;have Z:=(h.neg _ _).1 h3;omega
theorem yn {β:Type} [Inhabited β] {d O:Array β} (h:Go.Sort.PermIn 0 d.size d O):O.toList.Perm d.toList:=by
 obtain⟨h1,-,h2⟩:=h;have U:(d.extract 0 d.size)=d:=by simp
 have X:(O.extract 0 d.size)=O:=by rw[<- h1];simp
 rwa [U,X]at h2
theorem Pr {α:Type} {E:iS α} {c:α->α->Int} {P:Program} {f g:FuncId} {fn:Func} {ag:Bool} {ty:Nat} {F:List α->Option (List α×Unit)} (hf:P.funcs[f]? = some fn) (hc:(fn.name == "runtime.NumGoroutine")=false∧fn.body.isNone=false)
  (hF:∀l,F l=Lc c l) (h0:∀p cap w,Calls P f #[.slice p 0 cap,.func (.func g) #[] #[]] w fun e w'=>e=.returned (.tuple #[])∧w'=w) (hO:WO c) (hcmp:S2 P g ag E c) (hS:Rc P f g ag E.size) :
  bN P f (QJ ty E (ee (Qh g)) (fun l (_:Unit)=>F l) (fun _:Unit =>.clean (.tup []))) where
 callable:=⟨fn,hf,hc⟩
 calls lent la rk out hg:=by
  obtain⟨pre,l,post,a,l',r,rfl,rfl,hr,rfl,rfl⟩:=Gr hg;rw[hF]at hr;unfold Lc at hr
  by_cases Z:l.length<4611686018427387904∧∀x∈l,∀y∈l,c x y=0->x=y
  ·rw[if_pos Z]at hr;obtain⟨hlen,hanti⟩:=Z;obtain rfl:js c l=l':=congrArg Prod.fst (Option.some.inj hr);intro w M go u0 vs hM aT hz aU hrow aB aa;have aM:vs = #[.func (.func g) #[] #[]]:=by
    have h1:=aa.1;have h2:=aa.2 0 (.fn g) rfl;have h3:vs.size=1:=h1;cases hv:vs.getD 0 undef<;>rw[hv]at h2<;>cases h2;apply Array.ext
    ·simp[h3]
    ·intro i i1 i2;have:i=0:=by omega
     subst this;simpa [Array.getD,h3] using hv
   subst aM
   by_cases hl:l=[]
   ·subst hl;have hu:∃p cp,u0=.slice p 0 cp:=by
     rcases aB.2 ⟨0,0,[],false,false,false⟩ rfl rfl with⟨g',o',cp,N,t,k0,k1,k2,k3,k4,k5⟩|k0
     ·exact⟨_,_,k1⟩
     ·obtain⟨_,_,A,k1⟩:=k0;exact⟨_,_,k1⟩
    obtain⟨p,cp,rfl⟩:=hu;refine (h0 p cp w).mono fun e w' ⟨he,hw⟩ =>?_;subst hw;exact⟨.tuple #[],he,⟨rfl,rfl,rfl,VG _,fun _ _ _=>rfl⟩,⟨rfl,rfl,⟨rfl,rfl⟩,fun g' ak=>rfl,hrow⟩,.tup [] [] rfl (fun j x O=>by simp at O)⟩
   ·have hk:=E.pos;have an:0<l.length:=Xw.2 hl;cases go with
    | none =>
     have aN:pre++(ae E l++post)=[]:=hrow;have:=congrArg List.length aN;rw[WN,WN,bR,V7]at this;have:=Nat.mul_pos an hk;omega
    | some go =>
     obtain⟨cs,h1,h2,h3⟩:=hrow;simp only[WN,bR]at h2;generalize au:(fun b=>M b∨ou (some go) b)=M' at h3 aa ⊢;have aC:M' go.1:=by rw[<- au];exact .inr ⟨go,rfl,rfl⟩
     have aD:go.1<w.heap.size:=(VK.1 h1).1;have av:∀b,M' b->b<w.heap.size:=by
      intro b hb;rw[<- au]at hb;rcases hb with hb|⟨g',ak,rfl⟩
      ·exact hM b hb
      ·cases ak;exact aD
     rcases aB.2 ⟨0,0,[],false,false,false⟩ rfl rfl with⟨g',o',cp,N,t,k0,k1,k2,k3,k4,k5⟩|⟨k0,_⟩;rotate_left
     ·cases k0
     cases k0;obtain⟨rfl,k6⟩:=k2 (.inl (by omega));subst k1;have aE:∀i,i<l.length->i*E.size+E.size<=l.length*E.size:=by
      intro i hi;have:=Ws E.size (show i+1<=l.length from hi)
      rwa [WC]at this
     have U:∀i (hi:i<l.length),Uk E w M' l[i] ((List.range E.size).map fun j=>cs.getD (go.2+pre.length+(i*E.size+j)) undef):=by
      intro i hi;refine⟨by simp,fun j d O =>?_⟩;have aF:j<E.size:=by
       have:=(V9.1 O).1
       rwa [E.len]at this
      have hd:(pre++(ae E l++post))[pre.length+(i*E.size+j)]? = some d:=by
       have:=aE i hi;rw[Wl (by omega),W2,Wk (by rw[bR];omega),Kg E (VT hi) aF,O]
      have:=h3 _ _ hd;rw[<- V1]at this;simpa [List.getD,aF] using this
     let β:={ p:α×List Value // Uk E w M' p.1 p.2 }
     let enc:β->List Value:=fun p=>p.1.2
     let dl:List β:=List.ofFn fun i:Fin l.length=>(⟨(l[i.1],_),U i.1 i.2⟩:β)
     have ad:dl.length=l.length:=by simp[dl]
     have aG:∀i (hi:i<l.length),dl[i]? = some ⟨(l[i],_),U i hi⟩:=by
      intro i hi;simp[dl,hi]
     have aH:Inhabited β:=⟨⟨(l[0],_),U 0 an⟩⟩;have aI:dl.map (fun p=>p.1.1)=l:=by
      apply List.ext_getElem?;intro i
      by_cases hi:i<l.length
      ·rw[VC,aG i hi,VT hi];rfl
      ·rw[Xg (by simp[ad];omega),Xg (by omega)]
     have ah:∀x:β,(enc x).length=E.size:=fun x=>x.2.1;have aJ:∀x:β,∀v∈enc x,v.oneCell'=true:=by
      intro x v hv;obtain⟨j,O⟩:=V2 hv;have aw:=(V9.1 O).1;rw[ah]at aw;obtain⟨p1,p2⟩:=x.2.2 j _ (VT (by rw[E.len];exact aw));have:x.1.2.getD j undef=v:=by simp only[Wj];rw[show x.1.2[j]? = some v from O];rfl
      rw[this]at p2;exact p2.nH p1
     have X:∀ {m:Nat} {dk:Array β} {os:Array Obj} {d:D} {u:Value},RP w M' d u->RP (sortWorldK enc E.size w go.1 (go.2+pre.length) m dk os) M' d u:=by
      intro m dk os d u hu;refine hu.keep fun b q1 q2=>⟨VJ q1 kf,q2,?_⟩;exact qM q1 (fun e=>q2 (e ▸ aC))
     have hH:Go.Sort.HoldsK enc E.size w go.1 (go.2+pre.length) dl.toArray:=by
      intro j O;simp only[Go.Sort.size_flatK,List.size_toArray,ad]at O;refine⟨?_,by simp[World.frozen?,h1]⟩;have hq:j / E.size<l.length:=Xv (by rwa [WD]);have ab:j % E.size<E.size:=Wz _ hk;have ax:j / E.size*E.size+j % E.size=j:=by rw[WD];exact XH j E.size
      rw[Go.Sort.get_flatK _ _ _ _ (by simpa [ad] using O),aL h1 (j:=go.2+pre.length+j) (by omega)];have e1:(dl.toArray)[j / E.size]! = ⟨(l[j / E.size],_),U _ hq⟩:=by
       have h5:=aG _ hq;rw[getElem!_pos dl.toArray (j / E.size) (by simpa [ad] using hq)];have:=(V9.1 h5).2;simpa using this
      rw[e1];show some _=some (((List.range E.size).map fun j'=>cs.getD (go.2+pre.length+(j / E.size*E.size+j')) undef)[j % E.size]!);rw[getElem!_pos _ _ (by simpa using ab)];simp[ax]
     have aO:=SR hO (fun p:β=>p.1.1);have ai:=hS β aH enc (fun x y=>c x.1.1 y.1.1) ah aJ aO go.1 (go.2+pre.length) cp dl.toArray w (fun m os dk aV x y=>hcmp _ M' x.1.1 y.1.1 x.1.2 y.1.2 (fun b hb=>VJ (av b hb) kf) ⟨x.2.1,fun j d O=>⟨(x.2.2 j d O).1,X (x.2.2 j d O).2⟩⟩ ⟨y.2.1,fun j d O=>⟨(y.2.2 j d O).1,X (y.2.2 j d O).2⟩⟩) hH aD (by simpa [ad] using hlen);have ay:dl.toArray.size=l.length:=by simp[ad]
     rw[ay]at ai;refine ai.mono fun e w' ⟨he,Y,n,os,aj,az,hw⟩ =>?_;subst hw;have al:=yn (by rw[ay];exact aj);have ao:Y.size=l.length:=by have:=aj.1;rw[this,ay]
     have aP:Y.toList.map (fun p=>p.1.1)=js c l:=by
      have aA:(Y.toList.map (fun p=>p.1.1)).Perm l:=by
       have:=al.map (fun p:β=>p.1.1)
       rwa [show dl.toArray.toList.map (fun p:β=>p.1.1)=l from aI]at this
      refine mw (aA.trans (lr c l).symm) (fun x hx y hy h4 h5=>hanti x (aA.mem_iff.1 hx) y (aA.mem_iff.1 hy) ?_) ?_ (kp hO l)
      ·have:=hO.neg x y;have:=hO.neg y x;omega
      ·rw[List.pairwise_map];rw[List.pairwise_iff_getElem];intro i j hi O aQ;simp only[Array.length_toList]at hi O;have:=az i j (VH _) aQ (by omega);simp only[ltOf,decide_eq_false_iff_not]at this;rw[getElem!_pos Y j (by omega),getElem!_pos Y i (by omega)]at this;simp only[Array.getElem_toList];have h6:=hO.neg Y[j].1.1 Y[i].1.1;omega
     have aq:(sortWorldK enc E.size w go.1 (go.2+pre.length) n Y os).heap[go.1]? = some (.cells (Go.Sort.putCells id (go.2+pre.length) (Go.Sort.flatK enc E.size Y) cs) ty (0,0)):=zx h1;have ar:(Go.Sort.putCells id (go.2+pre.length) (Go.Sort.flatK enc E.size Y) cs).size=cs.size:=by simp[Go.Sort.putCells]
     refine⟨.tuple #[],he,⟨rfl,rfl,rfl,kf,fun k hk hn=>qM hk (fun e=>hn ⟨go,rfl,e⟩)⟩,⟨rfl,rfl,⟨rfl,rfl⟩,fun g' ak =>?_,?_⟩,.tup [] [] rfl (fun j x O=>by simp at O)⟩
     ·cases ak;simp[World.shape?,aq,h1,ar]
     ·refine⟨_,aq,?_,fun j d O =>?_⟩
      ·simp only[WN,bR,jF,ar];exact h2
      ·have aw:j<pre.length+(l.length*E.size+post.length):=by
        have:=(V9.1 O).1;simpa [bR,jF] using this
       show _∧RP _ (fun b=>M b∨ou (some go) b) d _;rw[au,zq (by omega),ao]
       by_cases aR:pre.length<=j∧j<pre.length+l.length*E.size
       ·rw[if_pos (by omega)];have e1:go.2+j-(go.2+pre.length)=j-pre.length:=by omega
        rw[e1];have hq:(j-pre.length) / E.size<l.length:=Xv (by rw[WD];omega);have ab:(j-pre.length) % E.size<E.size:=Wz _ hk;have ax:(j-pre.length) / E.size*E.size+(j-pre.length) % E.size=j-pre.length:=by rw[WD];exact XH _ _
        rw[Wl aR.1,Wk (by rw[bR,jF];omega),<- ax,<- aP,Kg E (x:=(Y[(j-pre.length) / E.size]!).1.1) (by
         rw[VC,VT (by simpa [ao] using hq),getElem!_pos Y _ (by omega)];simp) ab]at O
        obtain⟨p1,p2⟩:=(Y[(j-pre.length) / E.size]!).2.2 _ _ O;refine⟨p1,X ?_⟩;have e2:(enc Y[(j-pre.length) / E.size]!)[(j-pre.length) % E.size]! = (Y[(j-pre.length) / E.size]!).1.2.getD ((j-pre.length) % E.size) undef:=by
         rw[getElem!_pos _ _ (by rw[ah];exact ab)];simp only[Wj];rw[VT (by have:=(Y[(j-pre.length) / E.size]!).2.1;omega)];rfl
        rw[e2];exact p2
       ·rw[if_neg (by omega)];have aK:(pre++(ae E l++post))[j]? = some d:=by
         by_cases aS:j<pre.length
         ·rw[Wk aS]at O ⊢;exact O
         ·rw[Wl (by omega),Wl (by rw[bR,jF];omega),bR,jF]at O;rw[Wl (by omega),Wl (by rw[bR];omega),bR];exact O
        exact⟨(h3 j d aK).1,X (h3 j d aK).2⟩
  ·rw[if_neg Z]at hr;cases hr
end Go.Proofs.Ytgnoaanebhmegaa.Am
namespace Go.Proofs.Ytgnoaanebhmegaa.P
def gV:List Int->List Int->Int
 | [],[]=>0
 | [],_::_ => -1
 | _::_,[]=>1
 | a::l,b::m=>if a<b then -1 else if b<a then 1 else gV l m
def eU (x y:List Int):Int:=if x.length=y.length then gV x y else (x.length:Int)-y.length
theorem Bi:∀x y:List Int,gV y x = - gV x y
 | [],[]=>rfl
 | [],_::_=>rfl
 | _::_,[]=>rfl
 | a::l,b::m=>by
  have O:=Bi l m;simp only[gV]
  by_cases h1:a<b
  ·rw[if_pos h1,if_neg (by omega),if_pos h1];rfl
  ·by_cases h2:b<a
   ·rw[if_pos h2,if_neg h1,if_pos h2]
   ·rw[if_neg h2,if_neg h1,if_neg h1,if_neg h2,O]
theorem Bj:∀ {x y:List Int},gV x y=0->x=y
 | [],[],_=>rfl
 | [],_::_,h=>by simp[gV]at h
 | _::_,[],h=>by simp[gV]at h
 | a::l,b::m,h=>by
  simp only[gV]at h;split at h
  ·cases h
  ·split at h
   ·cases h
   ·rw[Bj h,show a=b by omega]
theorem xP:∀ {x y z:List Int},gV x y<=0->gV y z<=0->gV x z<=0
 | [],[],_,_,h=>h
 | [],_::_,[],_,_=>by simp[gV]
 | [],_::_,_::_,_,_=>by simp[gV]
 | _::_,[],_,h,_=>by simp[gV]at h
 | _::_,_::_,[],_,h=>by simp[gV]at h
 | a::l,b::m,c::n,h1,h2=>by
  have O:=@xP l m n;simp only[gV]at h1 h2 ⊢
  repeat' split at h1
  all_goals repeat' split at h2
  all_goals repeat' split
  all_goals first|omega|(exact O h1 h2)
theorem mD (x y:List Int):eU y x = - eU x y:=by
 have:=Bi x y;unfold eU
 repeat' split
 all_goals omega
theorem tf {x y:List Int} (h:eU x y=0):x=y:=by
 unfold eU at h;split at h
 ·exact Bj h
 ·omega
theorem vL:WO eU where
 total x y:=by have:=mD x y;omega
 neg x y:=by have:=mD x y;omega
 trans x y z h1 h2:=by
  have O:=@xP x y z;unfold eU at *
  repeat' split at h1
  all_goals repeat' split at h2
  all_goals repeat' split
  all_goals first|omega|(exact O h1 h2)
def BZ (l:List (List Int)):Option (List (List Int)×Unit):=if l.length<4611686018427387904 then some (js eU l,()) else none
theorem Pt (l:List (List Int)):BZ l=Lc eU l:=by
 unfold BZ Lc
 by_cases h:l.length<4611686018427387904
 ·rw[if_pos h,if_pos ⟨h,fun x _ y _=>tf⟩]
 ·rw[if_neg h,if_neg (fun O=>h O.1)]
end Go.Proofs.Ytgnoaanebhmegaa.P
namespace Go.Proofs.Ytgnoaanebhmegaa.Am
open Go.RowKit Go.Lib Go.Sort Go.Shelf Go.Proofs.Ytgnoaanebhmegaa.P
theorem Tq (x:Int) (w:World):Calls prog 86 #[.int .i64 x] w fun e w'=>e=.returned (.bool false)∧w'=w:=by
 go_enter func86,ntmps86
 go_wp2
 go_ret
 exact⟨by simp,rfl⟩
theorem LW (x y:Int) (w:World):Calls prog 75 #[.int .i64 x,.int .i64 y] w fun e w'=>e=.returned (.int .i64 (Lib.compareInt x y))∧w'=w:=by
 go_enter func75,ntmps75
 go_wp2_with (go_at_call 86;refine (Tq _ _).mono ?_;rintro e w' ⟨rfl,hw⟩;rw[hw])
 all_goals (go_ret;refine⟨?_,rfl⟩;unfold Lib.compareInt;(repeat' split)<;>first|rfl|(exfalso;omega))
theorem ON {x y:List Int} {k:Nat} (O:k<x.length) (U:k<y.length):gV (x.drop k) (y.drop k)=if x.getD k 0<y.getD k 0 then -1 else if y.getD k 0<x.getD k 0 then 1 else gV (x.drop (k+1)) (y.drop (k+1)):=by
 rw[XB O,XB U];simp only[gV,Wj,VT O,VT U,Option.getD_some]
theorem LV (b o b' o' ca cb:Nat) (x y:List Int) (n:Nat) (hx:x.length=n) (hy:y.length=n) (hm:n<=9223372036854775807) (w:World) (cx:∀j,j<n->w.cell? ⟨b,o+j,none⟩=some (.int .i64 (x.getD j 0))) (cy:∀j,j<n->w.cell? ⟨b',o'+j,none⟩=some (.int .i64 (y.getD j 0))) :
  Calls prog 54 #[.slice (some ⟨b,o,none⟩) n ca,.slice (some ⟨b',o',none⟩) n cb] w fun e w'=>e=.returned (.int .i64 (gV x y))∧w'=w:=by
 have hcon:=fun x y W=>LW x y W
 go_enter func54,ntmps54
 go_wp2
 go_loop [11] (fun i=>∃k:Nat,k<=n∧i=.int .i64 k∧gV x y=gV (x.drop k) (y.drop k)) (fun i=>n-(intOf i).toNat)
 case atStart=>exact⟨0,VH _,rfl,rfl⟩
 case round =>
  obtain⟨k,hk,rfl,hlex⟩:=hrel;have hcx:k<n->w.cell? ⟨b,o+k,none⟩=some (.int .i64 (x.getD k 0)):=cx k;have hcy:k<n->w.cell? ⟨b',o'+k,none⟩=some (.int .i64 (y.getD k 0)):=cy k;have hld:k<n->gV (x.drop k) (y.drop k)=_:=fun h=>ON (by omega) (by omega)
  go_wp2_with (go_at_call 75;refine (hcon _ _ _).mono ?_;rintro e w' ⟨rfl,rfl⟩)
  ·have hlt:k<n:=by assumption
   have hne:(Lib.compareInt x[k] y[k] != 0)=true:=by assumption
   go_ret
   refine⟨?_,rfl⟩;rw[hlex,hld hlt,Wj,Wj,VT (by omega),VT (by omega)];simp only[Option.getD_some];unfold Lib.compareInt at hne ⊢;congr 1
   repeat' split
   all_goals first|rfl|omega|simp_all
  ·have hlt:k<n:=by assumption
   have heq:(Lib.compareInt x[k] y[k] != 0)=false:=by assumption
   go_round
   case rel =>
    refine⟨k+1,by omega,by go_num,?_⟩;rw[hlex,hld hlt,Wj,Wj,VT (by omega),VT (by omega)];simp only[Option.getD_some];unfold Lib.compareInt at heq;have h1:¬x[k]<y[k]:=fun h=>by rw[if_pos h]at heq;simp at heq
    have h2:¬y[k]<x[k]:=fun h=>by rw[if_neg h1,if_pos h]at heq;simp at heq
    rw[if_neg h1,if_neg h2]
   case measure=>simp[intOf];omega
  ·have hge:¬k<n:=by assumption
   go_ret
   refine⟨?_,rfl⟩;try rw[hlex]
   rw[List.drop_of_length_le (by omega),List.drop_of_length_le (by omega)];rfl
theorem NR (p p':Option Addr) (ca cb:Nat) (w:World):Calls prog 54 #[.slice p 0 ca,.slice p' 0 cb] w fun e w'=>e=.returned (.int .i64 0)∧w'=w:=by
 go_enter func54,ntmps54
 go_wp2
 refine wp_loop_rounds 1 ?_;repeat any_goals (rw[rounds_succ];go_wp2)
 all_goals (go_ret;exact⟨rfl,rfl⟩)
set_option maxHeartbeats 2000000 in
theorem CH (x y:List Int) (A B:Option Addr) (ca cb:Nat) (hx:x.length<=maxLen) (hy:y.length<=maxLen) (w:World) (cx:x≠[]->∃b o,A=some ⟨b,o,none⟩∧∀j,j<x.length->w.cell? ⟨b,o+j,none⟩=some (.int .i64 (x.getD j 0))) (cy:y≠[]->∃b o,B=some ⟨b,o,none⟩∧∀j,j<y.length->w.cell? ⟨b,o+j,none⟩=some (.int .i64 (y.getD j 0))) :
  Calls prog 38 #[.slice A x.length ca,.slice B y.length cb] w fun e w'=>e=.returned (.int .i64 (eU x y))∧w'=w:=by
 unfold maxLen at hx hy
 by_cases hl:x.length=y.length
 ·have hcon:Calls prog 54 #[.slice A x.length ca,.slice B x.length cb] w fun e w'=>e=.returned (.int .i64 (gV x y))∧w'=w:=by
   by_cases h0:x=[]
   ·have h0':y=[]:=WY (by rw[<- hl,h0];rfl);subst h0 h0';exact NR _ _ _ _ _
   ·obtain⟨b,o,rfl,hc⟩:=cx h0;obtain⟨b',o',rfl,hc'⟩:=cy (fun h=>h0 (WY (by rw[hl,h];rfl)));exact LV b o b' o' ca cb x y x.length rfl hl.symm (by omega) w hc (by rw[hl];exact hc')
  have hr:eU x y=gV x y:=if_pos hl;rw[hr,<- hl];clear cx cy hr hy hl;generalize x.length=n at *;generalize gV x y=r at *
  go_enter func38,ntmps38
  go_wp2_with (go_at_call 54;refine hcon.mono ?_;rintro e w' ⟨rfl,rfl⟩)
  all_goals (go_ret;exact⟨rfl,rfl⟩)
 ·have hr:eU x y=(x.length:Int)-y.length:=if_neg hl;rw[hr];generalize x.length=n at *;generalize y.length=m at *;clear cx cy
  go_enter func38,ntmps38
  go_wp2
  all_goals (go_ret;exact⟨rfl,rfl⟩)
theorem Me (w:World):w=Go.Sort.grow (w.drewN 0) #[]:=by simp[Go.Sort.grow,World.drewN]
theorem LS:S2 prog 38 false (dp (eI .i64)) eU:=by
 intro w M x y O U hM X Y;have h1:=(X.2 0 _ rfl).2;have h2:=(Y.2 0 _ rfl).2;obtain⟨A,Z,e1,_,m1,_,c1⟩:=Ju h1;obtain⟨B,cb,e2,_,m2,_,c2⟩:=Ju h2;show Calls _ _ #[O.getD 0 undef,U.getD 0 undef] _ _;rw[e1,e2];refine (CH x y A B Z cb (by omega) (by omega) w (fun h =>?_) (fun h =>?_)).mono fun e w' ⟨he,hw⟩=>⟨he,0,#[],by rw[hw];exact Me w⟩
 ·obtain⟨b,o,h3,_,_,h4⟩:=c1 h;exact⟨b,o,h3,h4⟩
 ·obtain⟨b,o,h3,_,_,h4⟩:=c2 h;exact⟨b,o,h3,h4⟩
section
variable {β:Type} [Inhabited β] {enc:β->List Value}
theorem Fb (d:Array β) {t:Nat} (hk:∀x,(enc x).length=1) (h:t<d.size):(flatK enc 1 d)[t]! = (enc d[t]!).getD 0 undef:=by
 rw[get_flatK enc 1 d t (by omega),Nat.div_one,Nat.mod_one];have:=hk d[t]!
 match enc d[t]!,this with
 | [v],_=>rfl
theorem QO (d:Array β) (w:World) (blk off:Nat) (hk:∀x,(enc x).length=1):putRowK enc 1 w blk off d=putRow (fun x=>(enc x).getD 0 undef) w blk off d:=by
 unfold putRowK putRow;congr 1;funext c;unfold Go.Sort.putCells;apply Array.ext
 ·simp
 ·intro i h1 h2;simp only[Array.getElem_mapIdx,size_flatK,Nat.mul_one];split
  ·rename_i O;rw[show (id (flatK enc 1 d)[i-off]! : Value)=(flatK enc 1 d)[i-off]! from rfl,Fb d hk (by omega)]
  ·rfl
theorem Su {d:Array β} {w:World} {blk off:Nat} (hk:∀x,(enc x).length=1) (h:HoldsK enc 1 w blk off d):Go.Sort.Holds (fun x=>(enc x).getD 0 undef) w blk off d:=by
 intro j O;have:=h j (by simpa using O);rw[show (id (flatK enc 1 d)[j]! : Value)=(flatK enc 1 d)[j]! from rfl,Fb d hk O]at this;exact this
end
theorem MF {P:Program} {ρ:Go.Shelf.Ren} (L:SlLaysF.n6 P ρ) {g:Nat} (Z:∀args w,(callFunc g args).run P w=.ok (.enter g args) w):Rc P (ρ.f 6) g false 1 :=
 fun β aa enc cf hk h1 hO blk off cap d w O hH hblk X=>by
  have hs:∀n U os,sortWorldK enc 1 w blk off n U os=sortWorld (fun x=>(enc x).getD 0 undef) w blk off n U os:=fun n U os=>by
   unfold sortWorldK sortWorld;rw[QO _ _ _ _ hk]
  refine (Any.slices_SortFunc L (fun x=>(enc x).getD 0 undef) (fun x =>?_) cf hO g #[] blk off cap d w Z (fun m os dk Y x y =>?_) (Su hk hH) hblk X).mono ?_
  ·have h2:=hk x;have h3:=h1 x;show ((enc x).getD 0 undef).oneCell'=true;generalize enc x=l at h2 h3 ⊢
   match l,h2,h3 with
   | [v],_,h3=>exact h3 v (V3.2 rfl)
  ·have:=O m os dk Y x y;rw[hs]at this;simpa [Nn] using this
  ·rintro e w' ⟨he,U,n,os,h4,h5,h6⟩;exact⟨he,U,n,os,h4,h5,by rw[hs];exact h6⟩
theorem GS (ty:Nat):bN prog 37 (QJ ty (dp (eI .i64)) (ee (Qh 38)) (fun l (_:Unit)=>BZ l) (fun _:Unit =>.clean (.tup []))) :=
 Pr (c:=eU) (ag:=false) func37 ⟨rfl,rfl⟩ Pt (fun p cap w=>AnyF.slices_SortFunc_none { Try.Ps with } p cap _ w) vL LS
  (MF Try.Ps (enters_of func38 (by kernel_rfl) rfl))
end Go.Proofs.Ytgnoaanebhmegaa.Am
namespace Go.Proofs.Ytgnoaanebhmegaa.Am
open Go.RowKit Go.Proofs.Ytgnoaanebhmegaa.P
def nn:Nat->Code->Code
 | 0,.seq a _=>a
 | k+1,.seq a b =>.seq a (nn k b)
 | _,c=>c
def I9:Nat->Code->Code
 | 0,.seq _ b=>b
 | k+1,.seq _ b=>I9 k b
 | _,_ =>.skip
def spine:Nat->Code->Bool
 | 0,.seq _ _=>true
 | k+1,.seq _ b=>spine k b
 | _,_=>false
section
variable {P:Program} {T:Nat->Option Ty} {N:Nat} {M:Nat->Prop} {L:fV} {w0:World} {Γ:Env}
theorem uL (hT:fb P T) (hΓ:bt P Γ) (hm:P.follows .mixedOrders=true) {F:Nat} {Q:Exit->Act->World->Prop} : ∀(k:Nat) (c:Code) (s:St) (x:Ex) (Y:St) (a:Act) (w:World),spine k c=true->dP T Γ N F (nn k c) s=some (x,Y)->codeOk (nn k c)=true->Holds N M L w0 s a w ->
  (x=.normal->∀U w',Holds N M L w0 Y U w'->(I9 k c).wp P Q U w')->(x ≠ .normal->∀U w',Holds N M L w0 Y U w'->Q (CX x) U w')->c.wp P Q a w
 | 0,.seq b c,s,x,Y,a,w,_,Z,X,hH,h1,h2=>by
  refine wp_seq (gz hT hΓ hm b s x Y _ a w Z X hH fun U w' O =>?_);cases x with
  | normal=>exact h1 rfl U w' O
  | exit n=>exact h2 (by intro h;cases h) U w' O
  | ret=>exact h2 (by intro h;cases h) U w' O
 | k+1,.seq b c,s,x,Y,a,w,hs,Z,X,hH,h1,h2=>by
  simp only[nn,codeOk,Wh]at X;simp only[nn,dP,SU]at Z;apply wp_seq;split at Z
  ·rename_i s1 aa;exact gz hT hΓ hm b s .normal s1 _ a w aa X.1 hH fun U w' O=>uL hT hΓ hm k c s1 x Y U w' hs Z X.2 O h1 h2
  ·rename_i r hne;refine gz hT hΓ hm b s x Y _ a w Z X.1 hH fun U w' O =>?_;cases x with
   | normal=>exact absurd Z (fun h=>hne Y h)
   | exit n=>exact h2 (by intro h;cases h) U w' O
   | ret=>exact h2 (by intro h;cases h) U w' O
end
def Sp (T:Nat->Option Ty) (rs:List ResultVar) (r:RK×Option Row) (J:(Nat->D)->(Nat->Option Row)->Nat->Prop):Kt:=fun x t h e =>
 match x with
 | .normal=>J t h e
 | .ret=>fp .clean T none rs ⟨t,EH h,e⟩=some r
 | .exit _=>False
section
variable {T:Nat->Option Ty} {Γ:Env} {n F k:Nat} {rs:List ResultVar} {r:RK×Option Row} {J:(Nat->D)->(Nat->Option Row)->Nat->Prop} {t:Nat->D} {h:Nat->Option Row} {e:Nat}
def SS (T:Nat->Option Ty) (Γ:Env) (F k:Nat) (fn:Func) (args:List D) (K:Kt):Prop:=∃c,fn.body=some c∧∃x s,dP T Γ fn.ntmps F (nn k c) (a8 none args)=some (x,s)∧K x s.t s.h s.e
end
section
variable {P:Program} {T:Nat->Option Ty} {Γ:Env}
theorem HB {n:Nat} {args:List D} {w:World} {M:Nat->Prop} {vs:Array Value} (hM:∀b,M b->b<w.heap.size) (O:rN w M args vs) (hn:args.length<=n) (Y:n<=PK):Holds n M none w (a8 none args) { tmps:=vs++Array.replicate (n-vs.size) undef,defers:=[] } w:=by
 have hI:Inv n M none w (fun _=>none) (fun x v=>x<n∧v<0) (a8 none args).t (a8 none args).h { tmps:=vs++Array.replicate (n-vs.size) undef,defers:=[] } w:={
  tab:=fun b U=>(O.tab b U).less fun b U=>by
   rcases U with U|⟨x,r,g,X,_⟩
   ·exact U
   ·cases X
  below:=cC.refl _ _
  mlt:=hM
  lent:=fun b U=>absurd U lT
  pin:=fun go hg=>by cases hg
  defers:=rfl
  tsz:=by have:=O.1;simp;omega
  slots:=fun i=>by
   simp only[a8];rcases pD (n:=n) (i:=i) O.1 with he|he
   ·rw[he]
    by_cases Z:i<args.length
    ·have h1:=O.2 i _ (VT Z);have e1:args.getD i .und=args[i]:=by simp[List.getD,Z]
     rw[e1];exact aS (h1.less fun b U=>by
      rcases U with U|⟨x,r,g,X,_⟩
      ·exact U
      ·cases X)
    ·have e1:args.getD i .und=.und:=by simp[List.getD,Xg (Xm Z)]
     rw[e1];trivial
   ·rw[he];trivial
  rows:=fun x r X=>by cases X
  inj:=fun x y r s g g' X=>by cases X
  big:=Y
  pha:=fun y r g hy=>by cases hy
  ali:=fun y r g hy=>by cases hy }
 exact⟨_,⟨(by rw[vT (fun k r hk=>by cases hk)];exact hI.weaken fun x v X=>absurd X.2 (Nat.not_lt_zero _)),fun x r ty s nv cs X=>by cases X⟩⟩
theorem L8 (hT:fb P T) {fn:Func} {M:Nat->Prop} {w w':World} {s:St} {a':Act} {rk:RK} (hH:Holds fn.ntmps M none w s a' w') (U:fp .clean T none fn.results.toList ⟨s.t,EH s.h,s.e⟩=some (rk,none)) :
  a'.defers=[]∧∃v,(results fn a'.tmps).run P w'=.ok v w'∧(∃v',Ending.returned v=.returned v'∧Below w.heap.size w w'∧qV w w' M (fun _=>False) v' rk):=by
 obtain⟨blk',aa⟩:=hH;obtain⟨sE,X⟩:∃sE:St,sE=⟨s.t,EH s.h,s.e⟩:=⟨_,rfl⟩;have O:Inv fn.ntmps M none w blk' (VE fn.ntmps s.e [] s.h) sE.t sE.h a' w':=by rw[X];exact aa.inv
 rw[<- X]at U;have Y:Below w.heap.size w w':=O.below.below (fun b hb=>absurd hb lT);refine⟨O.defers,?_⟩;simp only[fp,lk,gG]at U;split at U<;>try (cases U;done)
 rename_i ds fr o Z ho;split at U<;>try (cases U;done)
 simp only[VP,Prod.mk.injEq]at U;obtain⟨rfl,_⟩:=U;obtain⟨v,ab,ad⟩:=l9 (P:=P) hT O Z (O.RB fr);exact⟨v,ab,v,rfl,Y,ad⟩
def M9 (P:Program) (fn:Func) (c:Code) (rk:RK) (J:(Nat->D)->(Nat->Option Row)->Nat->Prop):Prop:=∀(w0:World) (M:Nat->Prop) (s:St) (a:Act) (w:World),J s.t s.h s.e->Holds fn.ntmps M none w0 s a w ->
 c.wp P (bodyPost P fn fun e w'=>∃v,e=.returned v∧Below w0.heap.size w0 w'∧qV w0 w' M (fun _=>False) v rk) a w
theorem bN.front (Z:fb P T) (hΓ:bt P Γ) (hm:P.follows .mixedOrders=true) {α β:Type} {A:fX α} {F:α->Option β} {R:β->RK} {f:FuncId} {fn:Func} {c:Code} {k:Nat} {J:β->(Nat->D)->(Nat->Option Row)->Nat->Prop} (hf:P.funcs[f]? = some fn) (hb:fn.body=some c) (O:(codeOk (nn k c)&&spine k c)=true)
  (hc:(fn.name == "runtime.NumGoroutine")=false∧fn.body.isNone=false) (hn:∀a,(A.ds a).length<=fn.ntmps) (Y:fn.ntmps<=1000000) (h:∀a r,F a=some r->SS T Γ FU k fn (A.ds a) (Sp T fn.results.toList (R r,none) (J r))) (ht:∀r,M9 P fn (I9 k c) (R r) (J r)):bN P f (dR A F R) where
 calls lent la rk out hg:=by
  obtain⟨rfl,rfl,a,r,rfl,hr,rfl⟩:=sG hg;rw[Wh]at O;intro w M vs hM U;obtain⟨c',X,x,s,h1,h2⟩:=h a r hr;rw[hb]at X;cases X;apply calls_of_wp hf hb;refine uL Z hΓ hm k c (a8 none (A.ds a)) x s _ _ O.2 h1 O.1 (HB hM U (hn a) (by rw[b7];exact Y)) ?_ ?_
  ·rintro rfl a' w' hH;exact ht r w M s a' w' h2 hH
  ·intro hx a' w' hH;cases x with
   | normal=>exact absurd rfl hx
   | exit n=>exact h2.elim
   | ret=>exact L8 Z hH h2
 callable:=⟨fn,hf,hc⟩
end
end Go.Proofs.Ytgnoaanebhmegaa.Am
namespace Go.Proofs.Ytgnoaanebhmegaa.P
open Go.RowKit
structure aH where
 an:Int
 aa:(List Int)
structure au where
 dQ:aH
 dN:aH
structure iH where
 eY:(List au)
 bc:au
def S9:ByteArray:=ByteArray.mk #[0,1,2,2,3,3,3,3,4,4,4,4,4,4,4,4,5,5,5,5,5,5,5,5,5,5,5,5,5,5,5,5,6,6,6,6,6,6,6,6,6,6,6,6,6,6,6,6,6,6,6,6,6,6,6,6,6,6,6,6,6,6,6,6,7,7,7,7,7,7,7,7,7,7,7,7,7,7,7,7,7,7,7,7,7,7,7,7,7,7,7,7,7,7,7,7,7,7,7,7,7,7,7,7,7,7,7,7,7,7,7,7,7,7,7,7,7,7,7,7,7,7,7,7,7,7,7,7,8,8,8,8,8,8,8,8,8,8,8,8,8,8,8,8,8,8,8,8,8,8,8,8,8,8,8,8,8,8,8,8,8,8,8,8,8,8,8,8,8,8,8,8,8,8,8,8,8,8,8,8,8,8,8,8,8,8,8,8,8,8,8,8,8,8,8,8,8,8,8,8,8,8,8,8,8,8,8,8,8,8,8,8,8,8,8,8,8,8,8,8,8,8,8,8,8,8,8,8,8,8,8,8,8,8,8,8,8,8,8,8,8,8,8,8,8,8,8,8,8,8,8,8,8,8,8,8]
def iK (U:(List Int)):(Int)->Option ((Int)⊕((Int)))
 | O =>
  if decide (O>0) then
   (P.idx U (IntKind.i64.wrap (O-1))).bind fun X =>
   if (X==0) then
    some (.inl (IntKind.i64.wrap (O-1)))
   else
    some (.inr O)
  else
   some (.inr O)
def dh (U:(List Int)):Option ((List Int)) :=
 (aQ (iK U) (U.length:Int)).bind fun O =>
 (zw U 0 O).bind fun X =>
 some X
def eP (U:Int) (X:(List Int)):Option (aH) :=
 (dh X).bind fun O =>
 if ((O.length:Int)==0) then
  some (aH.mk 0 ([]))
 else
  some (aH.mk U O)
def zS:(Int×(List Int))->Option ((Int×(List Int))⊕(((List Int))))
 | (O,U) =>
  if decide (O>0) then
   (iX 8 U [IntKind.i64.wrap (gR .and .u64 O 1048575)]).bind fun Y =>
   (tR .u64 O 20).bind fun X =>
   some (.inl (X,Y))
  else
   some (.inr U)
def wm (Y:Int):Option (aH) :=
 (if decide (Y<0) then
  some ((-1),IntKind.u64.wrap (0-(IntKind.u64.wrap Y)))
 else
  some (1,IntKind.u64.wrap Y)).bind fun q=>match q with
 | (O,U) =>
  (aQ (zS) (U,[])).bind fun X =>
  (eP O X).bind fun Z =>
  some Z
def eZ (O:Int):Option (au) :=
 (wm O).bind fun U =>
 (wm 1).bind fun X =>
 some (au.mk U X)
def ie (Z:Int):Option (Int) :=
 (if decide (Z>=4294967296) then
  (tR .u64 Z 32).bind fun aa =>
  some (aa,32)
 else
  some (Z,0)).bind fun q=>match q with
 | (O,X) =>
  (if decide (O>=65536) then
   (tR .u64 O 16).bind fun ab =>
   some (ab,IntKind.i64.wrap (X+16))
  else
   some (O,X)).bind fun q=>match q with
  | (U,Y) =>
   if decide (U>=256) then
    (tR .u64 U 8).bind fun x4 =>
    (P.QV S9 (IntKind.u8.wrap x4)).bind fun x6 =>
    some (IntKind.i64.wrap ((IntKind.i64.wrap (Y+8))+(IntKind.i64.wrap x6)))
   else
    (P.QV S9 (IntKind.u8.wrap U)).bind fun x8 =>
    some (IntKind.i64.wrap (Y+(IntKind.i64.wrap x8)))
def fK (O:Int):Option (Int) :=
 (ie O).bind fun U =>
 some U
def kj (U:aH):(Int)->Option ((Int)⊕((Unit)⊕(Bool)))
 | O =>
  if decide (O<(U.aa.length:Int)) then
   (P.idx U.aa O).bind fun X =>
   if decide (X<0) then
    some (.inr (.inr false))
   else
    if decide (X>1048575) then
     some (.inr (.inr false))
    else
     some (.inl (IntKind.i64.wrap (O+1)))
  else
   some (.inr (.inl ()))
def dn (O:aH):Option (Bool) :=
 (aQ (kj O) 0).bind fun q=>match q with
 | (.inl _) =>
  if ((O.aa.length:Int)==0) then
   some (O.an==0)
  else
   if (O.an==1) then
    (P.idx O.aa (IntKind.i64.wrap ((O.aa.length:Int)-1))).bind fun U =>
    some (U != 0)
   else
    if (O.an==(-1)) then
     (P.idx O.aa (IntKind.i64.wrap ((O.aa.length:Int)-1))).bind fun X =>
     some (X != 0)
    else
     some false
 | (.inr Y) =>
  some Y
def eA (O:Bool) (U:aH):Option (aH×Int) :=
 if (!O) then
  some ((aH.mk 0 ([])),1)
 else
  some (U,0)
def ck (O:(List Int)):Option (List Int):=iX 8 [] O
def kG (O:Int):Option (Bool) :=
 some (O != O)
def ff (O:Int) (p1:Int):Option (Int) :=
 (kG O).bind fun X =>
 (kG p1).bind fun U =>
 if X then
  if U then
   some 0
  else
   some (-1)
 else
  if U then
   some 1
  else
   if decide (O<p1) then
    some (-1)
   else
    if decide (O>p1) then
     some 1
    else
     some 0
def iY (Z:(List Int)) (p1:(List Int)):(Int)->Option ((Int)⊕((Unit)⊕(Int)))
 | O =>
  if decide (O>=0) then
   (P.idx Z O).bind fun U =>
   (P.idx p1 O).bind fun X =>
   if (U != X) then
    (ff U X).bind fun Y =>
    some (.inr (.inr Y))
   else
    some (.inl (IntKind.i64.wrap (O-1)))
  else
   some (.inr (.inl ()))
def eB (O:(List Int)) (U:(List Int)):Option (Int) :=
 if ((O.length:Int) != (U.length:Int)) then
  (ff (O.length:Int) (U.length:Int)).bind fun X =>
  some X
 else
  (aQ (iY O U) (IntKind.i64.wrap ((O.length:Int)-1))).bind fun q=>match q with
  | (.inl _) =>
   some 0
  | (.inr Y) =>
   some Y
def km (p0:(List Int)) (p1:Int):(Int×Int×(List Int))->Option ((Int×Int×(List Int))⊕((Int×(List Int))))
 | (X,O,U) =>
  if decide (O>=0) then
   (mN .i64 X 20).bind fun Y =>
   (P.idx p0 O).bind fun Z =>
   (vf .i64 (gR .or .i64 Y Z) p1).bind fun aa =>
   (P.idx U O).bind fun ad =>
   (zl .i64 (gR .or .i64 Y Z) p1).bind fun ab =>
   some (.inl (ab,IntKind.i64.wrap (O-1),(U.set (O).toNat aa)))
  else
   some (.inr (X,U))
def jz (X:(List Int)) (Z:Int):Option ((List Int)×Int) :=
 (Qa 8 (X.length:Int) (X.length:Int) 0).bind fun x1 =>
 (aQ (km X Z) (0,IntKind.i64.wrap ((X.length:Int)-1),x1)).bind fun q=>match q with
 | (O,U) =>
  (dh U).bind fun Y =>
  some (Y,O)
def ng (p1:(List Int)) (U:Int) (Z:Int):(Int×Int×(List Int))->Option ((Int×Int×(List Int))⊕((Int×(List Int))))
 | (X,O,Y) =>
  if decide (O<(p1.length:Int)) then
   (P.idx p1 O).bind fun aa =>
   (P.idx Y (IntKind.i64.wrap (U+O))).bind fun ab =>
   (tR .i64 (IntKind.i64.wrap ((IntKind.i64.wrap (ab+(IntKind.i64.wrap (Z*aa))))+X)) 20).bind fun ad =>
   some (.inl (ad,IntKind.i64.wrap (O+1),(Y.set (IntKind.i64.wrap (U+O)).toNat (gR .and .i64 (IntKind.i64.wrap ((IntKind.i64.wrap (ab+(IntKind.i64.wrap (Z*aa))))+X)) 1048575))))
  else
   some (.inr (X,Y))
def nf (p0:(List Int)) (Z:(List Int)):(Int×(List Int))->Option ((Int×(List Int))⊕(((List Int))))
 | (O,X) =>
  if decide (O<(p0.length:Int)) then
   (P.idx p0 O).bind fun aa =>
   (aQ (ng Z O aa) (0,0,X)).bind fun q=>match q with
   | (Y,U) =>
    (P.idx U (IntKind.i64.wrap (O+(Z.length:Int)))).bind fun ab =>
    some (.inl (IntKind.i64.wrap (O+1),(U.set (IntKind.i64.wrap (O+(Z.length:Int))).toNat (IntKind.i64.wrap (ab+Y)))))
  else
   some (.inr X)
def kl (U:(List Int)) (X:(List Int)):Option ((List Int)) :=
 (Qa 8 (IntKind.i64.wrap ((U.length:Int)+(X.length:Int))) (IntKind.i64.wrap ((U.length:Int)+(X.length:Int))) 0).bind fun Z =>
 (aQ (nf U X) (0,Z)).bind fun O =>
 (dh O).bind fun Y =>
 some Y
def hZ (p0:(List Int)) (p1:(List Int)) (p2:Int):(Int×Int×(List Int))->Option ((Int×Int×(List Int))⊕((Int×(List Int))))
 | (X,O,Y) =>
  if decide (O<((p0).length:Int)) then
   (P.idx Y O).bind fun Z =>
   (if decide (O<(p1.length:Int)) then
    (P.idx p1 O).bind fun aa =>
    some (IntKind.i64.wrap ((IntKind.i64.wrap (Z-X))-(IntKind.i64.wrap (p2*aa))))
   else
    some (IntKind.i64.wrap (Z-X))).bind fun U =>
   (tR .i64 U 20).bind fun ab =>
   some (.inl (IntKind.i64.wrap (0-ab),IntKind.i64.wrap (O+1),(Y.set (O).toNat (gR .and .i64 U 1048575))))
  else
   some (.inr (X,Y))
def ia (p1:(List Int)) (Z:(List Int)):(Int×Int×(List Int))->Option ((Int×Int×(List Int))⊕(((List Int))))
 | (X,O,Y) =>
  if decide (O<((Z).length:Int)) then
   (P.idx Y O).bind fun aa =>
   (if decide (O<(p1.length:Int)) then
    (P.idx p1 O).bind fun ab =>
    some (IntKind.i64.wrap ((IntKind.i64.wrap (X+aa))+ab))
   else
    some (IntKind.i64.wrap (X+aa))).bind fun U =>
   (tR .i64 U 20).bind fun ad =>
   some (.inl (ad,IntKind.i64.wrap (O+1),(Y.set (O).toNat (gR .and .i64 U 1048575))))
  else
   some (.inr Y)
def kQ (Z:(List Int)) (p1:(List Int)) (Y:Int):Option ((List Int)×(Int)) :=
 (aQ (hZ Z p1 Y) (0,0,Z)).bind fun q=>match q with
 | (U,O) =>
  if (U==0) then
   some (O,Y)
  else
   (aQ (ia p1 O) (0,0,O)).bind fun X =>
   some (X,IntKind.i64.wrap (Y-1))
def dS (O:(List Int)) (U:(List Int)) (X:Int):Option ((List Int)×(Int)):=(kQ O U X).bind fun r=>if r.1.length=O.length then some r else none
theorem tH {O:(List Int)} {U:(List Int)} {X:Int} {r:(List Int)×(Int)} (h:dS O U X=some r):r.1.length=O.length:=by
 unfold dS at h;obtain⟨q,Y,h⟩:=ab h;split at h
 ·cases h;assumption
 ·cases h
def mZ (X:(List Int)):(Int)->Option ((Int)⊕((Int)))
 | O =>
  (P.idx X (IntKind.i64.wrap ((X.length:Int)-1))).bind fun U =>
  if decide ((IntKind.i64.wrap (U*O))<524288) then
   some (.inl (IntKind.i64.wrap (O*2)))
  else
   some (.inr O)
def nd (Y:(List Int)) (Z:Int) (aa:(List Int)) (ab:Int):(Int×Int)->Option ((Int×Int)⊕((Int)))
 | (O,U) =>
  (if decide (O>=1048576) then
   some true
  else
   if decide (U<1048576) then
    (P.idx Y (IntKind.i64.wrap (((Y).length:Int)-2))).bind fun ad =>
    (mN .i64 U 20).bind fun ae =>
    (P.idx aa (IntKind.i64.wrap ((IntKind.i64.wrap (Z+((Y).length:Int)))-2))).bind fun ah =>
    some (decide ((IntKind.i64.wrap (O*ad))>(gR .or .i64 ae ah)))
   else
    some false).bind fun X =>
  if X then
   some (.inl (IntKind.i64.wrap (O-1),IntKind.i64.wrap (U+ab)))
  else
   some (.inr O)
def nc (U:(List Int)):(Int×(List Int)×(List Int))->Option ((Int×(List Int)×(List Int))⊕(((List Int)×(List Int))))
 | (O,X,Y) =>
  if decide (O>=0) then
   (P.idx X (IntKind.i64.wrap (O+((U).length:Int)))).bind fun ah =>
   (mN .i64 ah 20).bind fun ab =>
   (P.idx X (IntKind.i64.wrap ((IntKind.i64.wrap (O+((U).length:Int)))-1))).bind fun ad =>
   (P.idx U (IntKind.i64.wrap (((U).length:Int)-1))).bind fun Z =>
   (vf .i64 (gR .or .i64 ab ad) Z).bind fun ai =>
   (zl .i64 (gR .or .i64 ab ad) Z).bind fun aj =>
   (aQ (nd U O X Z) (ai,aj)).bind fun aa =>
   (zw X O (IntKind.i64.wrap ((IntKind.i64.wrap (O+((U).length:Int)))+1))).bind fun ak =>
   (dS ak U aa).bind fun ae =>
   (P.idx Y O).bind fun al =>
   some (.inl (IntKind.i64.wrap (O-1),(X.take (O).toNat++(ae.1++X.drop (IntKind.i64.wrap ((IntKind.i64.wrap (O+((U).length:Int)))+1)).toNat)),(Y.set (O).toNat ae.2)))
  else
   some (.inr (X,Y))
def pV (p0:(List Int)) (p1:(List Int)):Option ((List Int)×(List Int)) :=
 (eB p0 p1).bind fun r1 =>
 if decide (r1<0) then
  (ck p0).bind fun r3 =>
  some ([],r3)
 else
  if ((p1.length:Int)==1) then
   (P.idx p1 0).bind fun x5 =>
   (jz p0 x5).bind fun r6 =>
   (dh ([r6.2])).bind fun r8 =>
   some (r6.1,r8)
  else
   (aQ (mZ p1) 1).bind fun O =>
   (kl p0 ([O])).bind fun ad =>
   (iX 8 ad [0]).bind fun X =>
   (kl p1 ([O])).bind fun Y =>
   (if (((X).length:Int)==(p0.length:Int)) then
    (iX 8 X [0]).bind fun ae =>
    some ae
   else
    some X).bind fun U =>
   (Qa 8 (IntKind.i64.wrap (((U).length:Int)-((Y).length:Int))) (IntKind.i64.wrap (((U).length:Int)-((Y).length:Int))) 0).bind fun aa =>
   (aQ (nc Y) (IntKind.i64.wrap (((aa).length:Int)-1),U,aa)).bind fun q=>match q with
   | (ab,Z) =>
    (dh ab).bind fun ah =>
    (jz ah O).bind fun ai =>
    (dh Z).bind fun aj =>
    some (aj,ai.1)
def kP:((List Int)×(List Int))->Option (((List Int)×(List Int))⊕(((List Int))))
 | (U,O) =>
  if decide ((O.length:Int)>0) then
   (pV U O).bind fun X =>
   some (.inl (O,X.2))
  else
   some (.inr U)
def pS (p0:aH) (p1:aH):Option (aH×Int) :=
 (dn p0).bind fun r1 =>
 (if (!r1) then
  some true
 else
  (dn p1).bind fun Y =>
  some (!Y)).bind fun O =>
 if O then
  (eA false (aH.mk 0 ([]))).bind fun r5 =>
  some (r5.1,r5.2)
 else
  (ck p0.aa).bind fun r6 =>
  (aQ (kP) (r6,p1.aa)).bind fun U =>
  (ck U).bind fun Z =>
  (eP 1 Z).bind fun ab =>
  (eA true ab).bind fun X =>
  some (X.1,X.2)
def mY (p0:aH):(Int×Int)->Option ((Int×Int)⊕((Int)⊕(Int×Bool)))
 | (X,O) =>
  if decide (O<(p0.aa.length:Int)) then
   (P.idx p0.aa O).bind fun Y =>
   (if (O==3) then
    some (decide (Y>8))
   else
    some false).bind fun U =>
   if U then
    some (.inr (.inr (0,false)))
   else
    (mN .u64 (IntKind.u64.wrap Y) (IntKind.i64.wrap (20*O))).bind fun Z =>
    some (.inl (gR .or .u64 X Z,IntKind.i64.wrap (O+1)))
  else
   some (.inr (.inl X))
def pT (Y:aH):Option (Int×Bool) :=
 (dn Y).bind fun Z =>
 (if (!Z) then
  some true
 else
  some (decide ((Y.aa.length:Int)>4))).bind fun U =>
 if U then
  some (0,false)
 else
  (aQ (mY Y) (0,0)).bind fun q=>match q with
  | (.inl O) =>
   (if decide (Y.an<0) then
    some (decide (O<=9223372036854775808))
   else
    some false).bind fun X =>
   if X then
    some (IntKind.i64.wrap (IntKind.u64.wrap (0-O)),true)
   else
    if decide (Y.an>=0) then
     if decide (O<9223372036854775808) then
      some (IntKind.i64.wrap O,true)
     else
      some (0,false)
    else
     some (0,false)
  | (.inr rb) =>
   some rb
def mI (U:aH):Option (Bool) :=
 (pT U).bind fun O =>
 if O.2 then
  some (O.1==1)
 else
  some false
def eR (U:au):Option (Bool) :=
 (dn U.dQ).bind fun Y =>
 (if (!Y) then
  some true
 else
  (dn U.dN).bind fun Z =>
  if (!Z) then
   some true
  else
   some (U.dN.an != 1)).bind fun O =>
 if O then
  some false
 else
  (pS U.dQ U.dN).bind fun X =>
  if (X.2==0) then
   (mI X.1).bind fun r6 =>
   some r6
  else
   some false
def gx (O:au):Option (Bool) :=
 (eR O).bind fun U =>
 some (!U)
def bP (U:(List au)):(Int)->Option ((Int)⊕((Unit)⊕(Int)))
 | O =>
  if decide (O<(U.length:Int)) then
   (P.idx U O).bind fun X =>
   (gx X).bind fun Y =>
   if Y then
    some (.inr (.inr O))
   else
    some (.inl (IntKind.i64.wrap (O+1)))
  else
   some (.inr (.inl ()))
def bB (O:(List au)):Option (Int) :=
 (aQ (bP O) 0).bind fun q=>match q with
 | (.inl _) =>
  some (-1)
 | (.inr U) =>
  some U
def aX (O:(List au)):Option (Bool) :=
 (bB O).bind fun U =>
 some (decide (U>=0))
def cm (U:(List au)):Option (Int) :=
 (fK (IntKind.u64.wrap (U.length:Int))).bind fun O =>
 if decide ((IntKind.i64.wrap (O-1))<0) then
  some (-1)
 else
  if decide ((IntKind.i64.wrap (O-1))>8) then
   some (-1)
  else
   (mN .i64 1 (IntKind.i64.wrap (O-1))).bind fun X =>
   if ((U.length:Int) != X) then
    some (-1)
   else
    (aX U).bind fun Y =>
    if Y then
     some (-1)
    else
     some (IntKind.i64.wrap (O-1))
def pU (U:aH) (X:aH):Option (aH×Int) :=
 (dn U).bind fun r1 =>
 (if (!r1) then
  some true
 else
  (dn X).bind fun Y =>
  some (!Y)).bind fun O =>
 if O then
  (eA false (aH.mk 0 ([]))).bind fun Z =>
  some (Z.1,Z.2)
 else
  (kl U.aa X.aa).bind fun r6 =>
  (eP (IntKind.i64.wrap (U.an*X.an)) r6).bind fun r7 =>
  (eA true r7).bind fun r8 =>
  some (r8.1,r8.2)
def fu (O:aH) (U:aH):Option (aH) :=
 (pU O U).bind fun X =>
 some X.1
def iJ (U:aH) (X:aH):Option (Int) :=
 (dn U).bind fun Y =>
 (if (!Y) then
  some true
 else
  (dn X).bind fun Z =>
  some (!Z)).bind fun O =>
 if O then
  some 0
 else
  if (U.an != X.an) then
   (ff U.an X.an).bind fun r5 =>
   some r5
  else
   (eB U.aa X.aa).bind fun r6 =>
   some (IntKind.i64.wrap (U.an*r6))
def fq (U:au) (X:au):Option (Int) :=
 (eR U).bind fun Y =>
 (if (!Y) then
  some true
 else
  (eR X).bind fun Z =>
  some (!Z)).bind fun O =>
 if O then
  some 0
 else
  (fu U.dQ X.dN).bind fun r4 =>
  (fu X.dQ U.dN).bind fun r5 =>
  (iJ r4 r5).bind fun r6 =>
  some r6
def bE (O:iH) (U:Int):Option (Bool) :=
 (P.idx O.eY U).bind fun X =>
 (fq X O.bc).bind fun Y =>
 some (decide (Y<=0))
def pE (Y:Int):(Int×(List Int))->Option ((Int×(List Int))⊕(((List Int))))
 | (O,U) =>
  if decide (O<8) then
   (tR .i64 Y O).bind fun Z =>
   if ((gR .and .i64 Z 1)==1) then
    (iX 8 U [O]).bind fun X =>
    some (.inl (IntKind.i64.wrap (O+1),X))
   else
    some (.inl (IntKind.i64.wrap (O+1),U))
  else
   some (.inr U)
def iP (U:Int):Option ((List Int)) :=
 (aQ (pE U) (0,[])).bind fun O =>
 some O
def a7 (O:(List (List Int))):Option ((List (List Int))×Unit):=BZ O
theorem gT {O:(List (List Int))} {r:(List (List Int))×Unit} (h:a7 O=some r):r.1.length=O.length:=by
 unfold a7 BZ at h;split at h
 ·cases h;exact jF _ _
 ·cases h
def aP (Y:iH) (U:Int):(Bool×Int)->Option ((Bool×Int)⊕((Bool)))
 | (Z,O) =>
  (if Z then
   some (O != U)
  else
   some false).bind fun X =>
  if X then
   (bE Y O).bind fun aa =>
   if (O==0) then
    some (.inr (!aa))
   else
    some (.inl ((!aa),gR .and .i64 (IntKind.i64.wrap (O-1)) U))
  else
   some (.inr Z)
def bh (U:iH) (x1:Int):(Int×(List (List Int)))->Option ((Int×(List (List Int)))⊕(((List (List Int)))))
 | (O,X) =>
  if decide (O<x1) then
   (bE U O).bind fun Z =>
   (aQ (aP U O) (Z,gR .and .i64 (IntKind.i64.wrap (O-1)) O)).bind fun Y =>
   if Y then
    (iP O).bind fun aa =>
    (iX 24 X [aa]).bind fun ab =>
    some (.inl (IntKind.i64.wrap (O+1),ab))
   else
    some (.inl (IntKind.i64.wrap (O+1),X))
  else
   some (.inr X)
def bd (Y:Int) (O:iH):Option ((List (List Int))) :=
 (mN .i64 1 Y).bind fun Z =>
 (aQ (bh O Z) (0,[])).bind fun U =>
 (a7 U).bind fun X =>
 some X.1
def bs (U:(List au)) (X:au):Option ((List (List Int))×Int) :=
 (cm U).bind fun Y =>
 (if decide (Y<0) then
  some true
 else
  (eR X).bind fun r7 =>
  some (!r7)).bind fun O =>
 if O then
  some ([],1)
 else
  (bd Y (iH.mk U X)).bind fun Z =>
  if ((Z.length:Int)==0) then
   some ([],4)
  else
   some (Z,0)
def jn (U:(List (List Int))×Int):(Int)->Option ((Int)⊕((Unit)⊕((List (List Int))×Int)))
 | O =>
  if decide (O<(U.1.length:Int)) then
   (P.idx U.1 O).bind fun X =>
   (P.idx U.1 0).bind fun Y =>
   if decide ((X.length:Int)>(Y.length:Int)) then
    (zw U.1 0 O).bind fun Z =>
    some (.inr (.inr (Z,U.2)))
   else
    some (.inl (IntKind.i64.wrap (O+1)))
  else
   some (.inr (.inl ()))
def ec (U:(List au)) (X:au):Option ((List (List Int))×Int) :=
 (bs U X).bind fun O =>
 (aQ (jn O) 0).bind fun q=>match q with
 | (.inl _) =>
  some (O.1,O.2)
 | (.inr Y) =>
  some Y
def jS (U:(List Int)) (Z:(List Int)):(Int)->Option ((Int)⊕((Unit)⊕(Bool)))
 | O =>
  if decide (O<(U.length:Int)) then
   (P.idx U O).bind fun X =>
   (P.idx Z O).bind fun Y =>
   if (X != Y) then
    some (.inr (.inr (decide (X<Y))))
   else
    some (.inl (IntKind.i64.wrap (O+1)))
  else
   some (.inr (.inl ()))
def gp (O:(List Int)) (U:(List Int)):Option (Bool) :=
 if ((O.length:Int) != (U.length:Int)) then
  some (decide ((O.length:Int)<(U.length:Int)))
 else
  (aQ (jS O U) 0).bind fun q=>match q with
  | (.inl _) =>
   some false
  | (.inr X) =>
   some X
def l8 (p0:(List (List Int))) (p1:(List (List Int))):(Int)->Option ((Int)⊕((Unit)⊕(Bool)))
 | O =>
  if decide (O<(p0.length:Int)) then
   (P.idx p0 O).bind fun U =>
   (P.idx p1 O).bind fun X =>
   (gp U X).bind fun Y =>
   if Y then
    some (.inr (.inr false))
   else
    (gp X U).bind fun Z =>
    if Z then
     some (.inr (.inr false))
    else
     some (.inl (IntKind.i64.wrap (O+1)))
  else
   some (.inr (.inl ()))
def gX (O:(List (List Int))) (U:(List (List Int))):Option (Bool) :=
 if ((O.length:Int) != (U.length:Int)) then
  some false
 else
  (aQ (l8 O U) 0).bind fun q=>match q with
  | (.inl _) =>
   some true
  | (.inr X) =>
   some X
def il (U:(List Int)) (X:(List Int)):(Int)->Option ((Int)⊕((Unit)⊕(Bool)))
 | O =>
  if decide (O<(U.length:Int)) then
   (P.idx U O).bind fun Y =>
   (P.idx X O).bind fun Z =>
   if (Y != Z) then
    some (.inr (.inr false))
   else
    some (.inl (IntKind.i64.wrap (O+1)))
  else
   some (.inr (.inl ()))
def gM (O:(List Int)) (U:(List Int)):Option (Bool) :=
 if ((O.length:Int) != (U.length:Int)) then
  some false
 else
  (aQ (il O U) 0).bind fun q=>match q with
  | (.inl _) =>
   some true
  | (.inr X) =>
   some X
def bZ (Y:(List (List Int))) (Z:(List (List Int))):(Int)->Option ((Int)⊕((Unit)⊕(Bool)))
 | O =>
  if decide (O<(Y.length:Int)) then
   (P.idx Y O).bind fun x9 =>
   (P.idx Z O).bind fun U =>
   (gM x9 U).bind fun X =>
   if (!X) then
    some (.inr (.inr false))
   else
    some (.inl (IntKind.i64.wrap (O+1)))
  else
   some (.inr (.inl ()))
def bm (O:(List (List Int))) (U:(List (List Int))):Option (Bool) :=
 if ((O.length:Int) != (U.length:Int)) then
  some false
 else
  (aQ (bZ O U) 0).bind fun q=>match q with
  | (.inl _) =>
   some true
  | (.inr X) =>
   some X
def dW (U:(List au)) (X:au) (Y:(List (List Int))):Option (Bool) :=
 (ec U X).bind fun O =>
 if (O.2==0) then
  (bm O.1 Y).bind fun Z =>
  some Z
 else
  some false
def jW (p0:Int) (O:(List (List Int))):Option (Bool) :=
 (eZ 10).bind fun U =>
 (eZ 7).bind fun X =>
 (eZ 8).bind fun Y =>
 (eZ 4).bind fun Z =>
 (eZ p0).bind fun r5 =>
 (ec ([U,X,Y,Z]) r5).bind fun r7 =>
 (bs ([U,X,Y,Z]) r5).bind fun r9 =>
 if (r7.2==0) then
  if (r9.2==0) then
   (gX r7.1 O).bind fun aa =>
   if aa then
    (gX r9.1 O).bind fun ab =>
    if ab then
     (dW ([U,X,Y,Z]) r5 O).bind fun ad =>
     some ad
    else
     some false
   else
    some false
  else
   some false
 else
  some false
def mK:Option (Bool) :=
 (eZ 10).bind fun Z =>
 (eZ 7).bind fun r2 =>
 (eZ 8).bind fun r3 =>
 (eZ 4).bind fun r4 =>
 (eZ 3).bind fun r5 =>
 (ec ([Z,r2,r3,r4]) r5).bind fun r7 =>
 (cm ([Z,r2,r3,r4])).bind fun r9 =>
 if (r9==2) then
  (jW 8 ([[0],[1]])).bind fun O =>
  if O then
   (jW 7 ([[0]])).bind fun U =>
   if U then
    (jW 5 ([[0,1]])).bind fun X =>
    if X then
     (jW 10 ([[]])).bind fun Y =>
     if Y then
      some (r7.2==4)
     else
      some false
    else
     some false
   else
    some false
  else
   some false
 else
  some false
def nJ (O:au) (U:Int):Option (Bool) :=
 if decide ((O.dQ.aa.length:Int)<=U) then
  some (decide ((O.dN.aa.length:Int)<=U))
 else
  some false
def nK (Z:(List au)):(Int)->Option ((Int)⊕((Unit)⊕(Bool)))
 | O =>
  (if decide (O<(Z.length:Int)) then
   some (decide (O<520))
  else
   some false).bind fun U =>
  if U then
   (P.idx Z O).bind fun X =>
   (nJ X 3).bind fun Y =>
   if (!Y) then
    some (.inr (.inr false))
   else
    some (.inl (IntKind.i64.wrap (O+1)))
  else
   some (.inr (.inl ()))
def qk (O:(List au)) (X:au):Option (Bool) :=
 (aQ (nK O) 0).bind fun q=>match q with
 | (.inl _) =>
  (nJ X 3).bind fun U =>
  if U then
   if decide ((O.length:Int)<=32) then
    some true
   else
    if decide ((O.length:Int)>=250) then
     if decide ((O.length:Int)<=260) then
      some true
     else
      some ((O.length:Int)==512)
    else
     some ((O.length:Int)==512)
  else
   some false
 | (.inr Y) =>
  some Y
def kq (X:(List (List Int))):(Int)->Option ((Int)⊕((Unit)⊕(Bool)))
 | O =>
  (if decide (O<(X.length:Int)) then
   some (decide (O<300))
  else
   some false).bind fun U =>
  if U then
   (P.idx X O).bind fun Y =>
   if decide ((Y.length:Int)>12) then
    some (.inr (.inr false))
   else
    some (.inl (IntKind.i64.wrap (O+1)))
  else
   some (.inr (.inl ()))
def kJ (O:(List (List Int))):Option (Bool) :=
 (aQ (kq O) 0).bind fun q=>match q with
 | (.inl _) =>
  some (decide ((O.length:Int)<=300))
 | (.inr U) =>
  some U
def ky (U:aH):(Int)->Option ((Int)⊕((Unit)⊕(Bool)))
 | O =>
  if decide (O<(U.aa.length:Int)) then
   (P.idx U.aa O).bind fun X =>
   if decide (X<0) then
    some (.inr (.inr false))
   else
    if decide (X>=1048576) then
     some (.inr (.inr false))
    else
     some (.inl (IntKind.i64.wrap (O+1)))
  else
   some (.inr (.inl ()))
def dH (O:aH):Option (Bool) :=
 (aQ (ky O) 0).bind fun q=>match q with
 | (.inl _) =>
  (if decide (O.an<(-1)) then
   some true
  else
   if decide (O.an>1) then
    some true
   else
    some (!(((O.aa.length:Int)==0)==(O.an==0)))).bind fun U =>
  if U then
   some false
  else
   if ((O.aa.length:Int)==0) then
    some true
   else
    (P.idx O.aa (IntKind.i64.wrap ((O.aa.length:Int)-1))).bind fun X =>
    some (X != 0)
 | (.inr Y) =>
  some Y
def pz (U:(List Int)):(Int)->Option ((Int)⊕((Int)))
 | O =>
  if decide (O>0) then
   (P.idx U (IntKind.i64.wrap (O-1))).bind fun X =>
   if (X==0) then
    some (.inl (IntKind.i64.wrap (O-1)))
   else
    some (.inr O)
  else
   some (.inr O)
def e7 (U:(List Int)):Option ((List Int)) :=
 (aQ (pz U) (U.length:Int)).bind fun O =>
 (zw U 0 O).bind fun X =>
 (iX 8 [] X).bind fun _ =>
 some X
def gJ (O:(List Int)) (U:Int):Option (Int) :=
 if decide (U<(O.length:Int)) then
  (P.idx O U).bind fun X =>
  some X
 else
  some 0
def kB (p0:(List Int)) (p1:(List Int)) (U:Int):(Int×Int×(List Int))->Option ((Int×Int×(List Int))⊕(((List Int))))
 | (X,O,Y) =>
  (if decide (O<(p1.length:Int)) then
   some true
  else
   some (decide (X>0))).bind fun Z =>
  if Z then
   (P.idx Y (IntKind.i64.wrap (U+O))).bind fun aa =>
   (P.idx p0 U).bind fun ab =>
   (gJ p1 O).bind fun ad =>
   (zl .i64 (IntKind.i64.wrap ((IntKind.i64.wrap (aa+(IntKind.i64.wrap (ab*ad))))+X)) 1048576).bind fun ae =>
   (vf .i64 (IntKind.i64.wrap ((IntKind.i64.wrap (aa+(IntKind.i64.wrap (ab*ad))))+X)) 1048576).bind fun ah =>
   some (.inl (ah,IntKind.i64.wrap (O+1),(Y.set (IntKind.i64.wrap (U+O)).toNat ae)))
  else
   some (.inr Y)
def kA (Y:(List Int)) (Z:(List Int)):(Int×(List Int))->Option ((Int×(List Int))⊕(((List Int))))
 | (O,U) =>
  if decide (O<(Y.length:Int)) then
   (aQ (kB Y Z O) (0,0,U)).bind fun X =>
   some (.inl (IntKind.i64.wrap (O+1),X))
  else
   some (.inr U)
def gK (U:(List Int)) (X:(List Int)):Option ((List Int)) :=
 (Qa 8 (IntKind.i64.wrap ((U.length:Int)+(X.length:Int))) (IntKind.i64.wrap ((U.length:Int)+(X.length:Int))) 0).bind fun Z =>
 (aQ (kA U X) (0,Z)).bind fun O =>
 (e7 O).bind fun Y =>
 some Y
def l6 (Y:(List Int)) (Z:(List Int)):(Int)->Option ((Int)⊕((Unit)⊕(Bool)))
 | O =>
  if decide (O>=0) then
   (gJ Y O).bind fun U =>
   (gJ Z O).bind fun X =>
   if (U != X) then
    some (.inr (.inr (decide (U<X))))
   else
    some (.inl (IntKind.i64.wrap (O-1)))
  else
   some (.inr (.inl ()))
def lC (O:(List Int)) (U:(List Int)):Option (Bool) :=
 (aQ (l6 O U) (IntKind.i64.wrap ((if (U.length:Int)>(O.length:Int) then (U.length:Int) else (O.length:Int))-1))).bind fun q=>match q with
 | (.inl _) =>
  some false
 | (.inr X) =>
  some X
def kz (p0:(List Int)) (p1:(List Int)):(Int×Int×(List Int))->Option ((Int×Int×(List Int))⊕(((List Int))))
 | (U,O,X) =>
  if decide (O<(p0.length:Int)) then
   (P.idx p0 O).bind fun Y =>
   (gJ p1 O).bind fun Z =>
   if decide ((IntKind.i64.wrap ((IntKind.i64.wrap (Y-Z))-U))<0) then
    (iX 8 X [IntKind.i64.wrap ((IntKind.i64.wrap ((IntKind.i64.wrap (Y-Z))-U))+1048576)]).bind fun aa =>
    some (.inl (1,IntKind.i64.wrap (O+1),aa))
   else
    (iX 8 X [IntKind.i64.wrap ((IntKind.i64.wrap (Y-Z))-U)]).bind fun ab =>
    some (.inl (0,IntKind.i64.wrap (O+1),ab))
  else
   some (.inr X)
def kK (X:(List Int)) (Y:(List Int)):Option ((List Int)) :=
 (aQ (kz X Y) (0,0,[])).bind fun O =>
 (e7 O).bind fun U =>
 some U
def j1 (p1:(List Int)) (Y:(List Int)):(Int×Int)->Option ((Int×Int)⊕((Int)))
 | (U,O) =>
  if decide ((IntKind.i64.wrap (O-U))>1) then
   (vf .i64 (IntKind.i64.wrap (U+O)) 2).bind fun X =>
   (gK p1 ([X])).bind fun Z =>
   (lC Y Z).bind fun aa =>
   if aa then
    some (.inl (U,X))
   else
    some (.inl (X,O))
  else
   some (.inr U)
def l7 (p0:(List Int)) (p1:(List Int)):((List Int)×Int×(List Int))->Option (((List Int)×Int×(List Int))⊕(((List Int)×(List Int))))
 | (Y,O,X) =>
  if decide (O>=0) then
   (P.idx p0 O).bind fun aa =>
   (iX 8 [aa] Y).bind fun ab =>
   (e7 ab).bind fun Z =>
   (aQ (j1 p1 Z) (0,1048576)).bind fun U =>
   (P.idx X O).bind fun ai =>
   (e7 ([U])).bind fun ad =>
   (gK p1 ad).bind fun ae =>
   (kK Z ae).bind fun ah =>
   some (.inl (ah,IntKind.i64.wrap (O-1),(X.set (O).toNat U)))
  else
   some (.inr (Y,X))
def mM (X:(List Int)) (Z:(List Int)):Option ((List Int)×(List Int)) :=
 (Qa 8 (X.length:Int) (X.length:Int) 0).bind fun x1 =>
 (aQ (l7 X Z) ([],IntKind.i64.wrap ((X.length:Int)-1),x1)).bind fun q=>match q with
 | (O,U) =>
  (e7 U).bind fun Y =>
  some (Y,O)
def jl (U:Int) (X:(List Int)):Option (aH) :=
 (e7 X).bind fun O =>
 if ((O.length:Int)==0) then
  some (aH.mk 0 ([]))
 else
  some (aH.mk U O)
def lA:((List Int)×(List Int))->Option (((List Int)×(List Int))⊕(((List Int))))
 | (U,O) =>
  if decide ((O.length:Int)>0) then
   (mM U O).bind fun X =>
   some (.inl (O,X.2))
  else
   some (.inr U)
def qg (Y:aH) (Z:aH):Option (aH×Int) :=
 (dH Y).bind fun r1 =>
 (if (!r1) then
  some true
 else
  (dH Z).bind fun X =>
  some (!X)).bind fun O =>
 if O then
  some ((aH.mk 0 ([])),1)
 else
  (aQ (lA) (Y.aa,Z.aa)).bind fun U =>
  (jl 1 U).bind fun r9 =>
  some (r9,0)
def qh:(Int×(List Int))->Option ((Int×(List Int))⊕(((List Int))))
 | (O,U) =>
  if (O != 0) then
   (zl .i64 O 1048576).bind fun X =>
   if decide (X<0) then
    (iX 8 U [IntKind.i64.wrap (0-X)]).bind fun Y =>
    (vf .i64 O 1048576).bind fun Z =>
    some (.inl (Z,Y))
   else
    (iX 8 U [X]).bind fun aa =>
    (vf .i64 O 1048576).bind fun ab =>
    some (.inl (ab,aa))
  else
   some (.inr U)
def tO (X:Int):Option (aH) :=
 if (X==0) then
  some (aH.mk 0 ([]))
 else
  (if decide (X<0) then
   some (-1)
  else
   some 1).bind fun O =>
  (aQ (qh) (X,[])).bind fun U =>
  (jl O U).bind fun Y =>
  some Y
def l5 (X:aH) (Y:aH):(Int)->Option ((Int)⊕((Unit)⊕(Bool)))
 | O =>
  if decide (O<(X.aa.length:Int)) then
   (P.idx X.aa O).bind fun Z =>
   (P.idx Y.aa O).bind fun U =>
   if (Z != U) then
    some (.inr (.inr false))
   else
    some (.inl (IntKind.i64.wrap (O+1)))
  else
   some (.inr (.inl ()))
def lB (U:aH) (X:aH):Option (Bool) :=
 (if (U.an != X.an) then
  some true
 else
  some ((U.aa.length:Int) != (X.aa.length:Int))).bind fun O =>
 if O then
  some false
 else
  (aQ (l5 U X) 0).bind fun q=>match q with
  | (.inl _) =>
   some true
  | (.inr Y) =>
   some Y
def gn (U:aH) (X:aH):Option (Int) :=
 (dH U).bind fun Z =>
 (if (!Z) then
  some true
 else
  (dH X).bind fun r9 =>
  if (!r9) then
   some true
  else
   (lB U X).bind fun Y =>
   some Y).bind fun O =>
 if O then
  some 0
 else
  if (U.an != X.an) then
   if decide (U.an<X.an) then
    some (-1)
   else
    some 1
  else
   (lC U.aa X.aa).bind fun r6 =>
   if (r6==(decide (U.an>0))) then
    some (-1)
   else
    some 1
def fN (U:au):Option (Bool) :=
 (dH U.dQ).bind fun X =>
 (if (!X) then
  some true
 else
  (dH U.dN).bind fun Y =>
  if (!Y) then
   some true
  else
   some (decide (U.dN.an<1))).bind fun O =>
 if O then
  some false
 else
  (qg U.dQ U.dN).bind fun Z =>
  (tO 1).bind fun r5 =>
  (gn Z.1 r5).bind fun r6 =>
  some (r6==0)
def fv (U:(List au)):(Int)->Option ((Int)⊕((Int)))
 | O =>
  if decide (O<8) then
   (mN .i64 1 O).bind fun X =>
   if decide (X<(U.length:Int)) then
    some (.inl (IntKind.i64.wrap (O+1)))
   else
    some (.inr O)
  else
   some (.inr O)
def kC (Y:(List au)):(Int)->Option ((Int)⊕((Unit)⊕(Int)))
 | O =>
  if decide (O<(Y.length:Int)) then
   (P.idx Y O).bind fun U =>
   (fN U).bind fun X =>
   if (!X) then
    some (.inr (.inr (-1)))
   else
    some (.inl (IntKind.i64.wrap (O+1)))
  else
   some (.inr (.inl ()))
def e8 (U:(List au)):Option (Int) :=
 (aQ (fv U) 0).bind fun O =>
 (mN .i64 1 O).bind fun X =>
 if (X != (U.length:Int)) then
  some (-1)
 else
  (aQ (kC U) 0).bind fun q=>match q with
  | (.inl _) =>
   some O
  | (.inr Y) =>
   some Y
def kx (U:aH) (X:aH):Option (aH×Int) :=
 (dH U).bind fun Y =>
 (if (!Y) then
  some true
 else
  (dH X).bind fun Z =>
  some (!Z)).bind fun O =>
 if O then
  some ((aH.mk 0 ([])),1)
 else
  (gK U.aa X.aa).bind fun r4 =>
  (jl (IntKind.i64.wrap (U.an*X.an)) r4).bind fun r5 =>
  some (r5,0)
def iN (U:au) (X:au):Option (Int) :=
 (fN U).bind fun Y =>
 (if (!Y) then
  some true
 else
  (fN X).bind fun Z =>
  some (!Z)).bind fun O =>
 if O then
  some 0
 else
  (kx U.dQ X.dN).bind fun r4 =>
  (kx X.dQ U.dN).bind fun r5 =>
  (gn r4.1 r5.1).bind fun r6 =>
  some r6
def gu (O:(List au)) (U:au) (X:Int):Option (Bool) :=
 (P.idx O X).bind fun Y =>
 (iN Y U).bind fun Z =>
 some (decide (Z<=0))
def uZ (Y:Int):(Int×(List Int))->Option ((Int×(List Int))⊕(((List Int))))
 | (O,U) =>
  if decide (O<8) then
   (tR .i64 Y O).bind fun Z =>
   if ((gR .and .i64 Z 1)==1) then
    (iX 8 U [O]).bind fun X =>
    some (.inl (IntKind.i64.wrap (O+1),X))
   else
    some (.inl (IntKind.i64.wrap (O+1),U))
  else
   some (.inr U)
def pA (U:Int):Option ((List Int)) :=
 (aQ (uZ U) (0,[])).bind fun O =>
 some O
def lE (p0:(List (List Int))) (p1:(List Int)):(Bool×Int×(List (List Int)))->Option ((Bool×Int×(List (List Int)))⊕((Bool×(List (List Int)))))
 | (U,O,X) =>
  if decide (O<(p0.length:Int)) then
   (if (!U) then
    (P.idx p0 O).bind fun ab =>
    (gp p1 ab).bind fun ad =>
    some ad
   else
    some false).bind fun Y =>
   (if Y then
    (iX 24 X [p1]).bind fun ae =>
    some (true,ae)
   else
    some (U,X)).bind fun q=>match q with
   | (Z,aa) =>
    (P.idx p0 O).bind fun ah =>
    (iX 24 aa [ah]).bind fun ai =>
    some (.inl (Z,IntKind.i64.wrap (O+1),ai))
  else
   some (.inr (U,X))
def nL (Z:(List (List Int))) (Y:(List Int)):Option ((List (List Int))) :=
 (aQ (lE Z Y) (false,0,[])).bind fun q=>match q with
 | (U,O) =>
  if (!U) then
   (iX 24 O [Y]).bind fun X =>
   some X
  else
   some O
def gr (Z:(List au)) (p1:au) (X:Int):(Bool×Int)->Option ((Bool×Int)⊕((Bool)))
 | (U,O) =>
  if decide (O<X) then
   if ((gR .and .i64 O X)==O) then
    (gu Z p1 O).bind fun Y =>
    if Y then
     some (.inl (false,IntKind.i64.wrap (O+1)))
    else
     some (.inl (U,IntKind.i64.wrap (O+1)))
   else
    some (.inl (U,IntKind.i64.wrap (O+1)))
  else
   some (.inr U)
def gq (p0:(List au)) (p1:au) (r1:Int):((List (List Int))×Int)->Option (((List (List Int))×Int)⊕(((List (List Int)))))
 | (U,O) =>
  (mN .i64 1 r1).bind fun Y =>
  if decide (O<Y) then
   (gu p0 p1 O).bind fun Z =>
   (aQ (gr p0 p1 O) (Z,0)).bind fun X =>
   if X then
    (pA O).bind fun aa =>
    (nL U aa).bind fun ab =>
    some (.inl (ab,IntKind.i64.wrap (O+1)))
   else
    some (.inl (U,IntKind.i64.wrap (O+1)))
  else
   some (.inr U)
def dc (Y:(List au)) (Z:au):Option ((List (List Int))×Int) :=
 (e8 Y).bind fun r1 =>
 (if decide (r1<0) then
  some true
 else
  (fN Z).bind fun X =>
  some (!X)).bind fun U =>
 if U then
  some ([],1)
 else
  (aQ (gq Y Z r1) ([],0)).bind fun O =>
  if ((O.length:Int)==0) then
   some ([],4)
  else
   some (O,0)
def j2 (Y:(List (List Int))×Int):(Int×(List (List Int)))->Option ((Int×(List (List Int)))⊕(((List (List Int)))))
 | (O,U) =>
  if decide (O<(Y.1.length:Int)) then
   (P.idx Y.1 O).bind fun X =>
   (P.idx Y.1 0).bind fun Z =>
   if ((X.length:Int)==(Z.length:Int)) then
    (iX 24 U [X]).bind fun aa =>
    some (.inl (IntKind.i64.wrap (O+1),aa))
   else
    some (.inl (IntKind.i64.wrap (O+1),U))
  else
   some (.inr U)
def lD (X:(List au)) (Y:au):Option ((List (List Int))×Int) :=
 (dc X Y).bind fun U =>
 if (U.2 != 0) then
  some ([],U.2)
 else
  (aQ (j2 U) (0,[])).bind fun O =>
  some (O,0)
def kL (U:(List au)) (X:au) (Y:(List (List Int))):Option (Bool) :=
 (lD U X).bind fun O =>
 if (O.2==0) then
  (gX O.1 Y).bind fun Z =>
  some Z
 else
  some false
def dK (O:(List au)) (U:au) (p2:(List (List Int))):Option (Bool) :=
 (mK).bind fun r1 =>
 (qk O U).bind fun r2 =>
 (if (!r2) then
  some true
 else
  (kJ p2).bind fun aa =>
  some (!aa)).bind fun X =>
 if X then
  some r1
 else
  (ec O U).bind fun Z =>
  (lD O U).bind fun r6 =>
  (bs O U).bind fun r7 =>
  (dc O U).bind fun r8 =>
  (if (Z.2==r6.2) then
   if (r7.2==r8.2) then
    (gX Z.1 r6.1).bind fun ab =>
    if ab then
     (gX r7.1 r8.1).bind fun ad =>
     if ad then
      (cm O).bind fun ae =>
      (e8 O).bind fun ah =>
      some (ae==ah)
     else
      some false
    else
     some false
   else
    some false
  else
   some false).bind fun Y =>
  if r1 then
   if Y then
    (dW O U p2).bind fun ai =>
    (kL O U p2).bind fun aj =>
    if (ai==aj) then
     (dW O U Z.1).bind fun ak =>
     some (ak==(Z.2==0))
    else
     some false
   else
    some false
  else
   some false
end Go.Proofs.Ytgnoaanebhmegaa.P
namespace Go.Proofs.Ytgnoaanebhmegaa.Am
open Go.RowKit Go.Proofs.Ytgnoaanebhmegaa.P
set_option maxRecDepth 100000
set_option maxHeartbeats 4000000
theorem bN.ig {P:Program} {T:Nat->Option Ty} {Γ:Env} (U:fb P T) (X:bt P Γ) (hm:P.follows .mixedOrders=true) {α β:Type} {A:fX α} {F:α->Option β} {R:β->RK} {mode:Mode} {f:FuncId} {fn:Func} {G:Option (D×Row)->List D->Option (RK×Option Row)} (Y:P.funcs[f]? = some fn)
  (O:((match fn.body with|some c=>codeOk c|none=>true)&&(!(fn.name == "runtime.NumGoroutine") && !fn.body.isNone))=true) (hG:∀l d,G l d=dR A F R l d) (Z:∀a,Nat.ble (A.ds a).length fn.ntmps=true) (h:∀a r,F a=some r->iQ mode T Γ FU fn none (A.ds a)=some (R r,none)):bN P f G:=by
 have e:G=dR A F R:=funext fun l=>funext fun d=>hG l d;subst e;exact bN.Vx U X hm Y O Z h
theorem Te {α:Type} (E:iS α) {l:List α} {x:α} (h:P.idx l 0=some x):E.size<=l.length*E.size∧(ae E l).take E.size=E.cells x:=by
 have h1:=sA E h;have h2:=ny E h;simp only[Int.toNat_zero,Xu,Wt,W6]at h1 h2;refine⟨h2,?_⟩;rw[h1,W4 (by rw[E.len];exact VG _),W5 (by rw[E.len];exact VG _)]
theorem Vn:type_of% (ai @RX<|ai @Lw<|ai @RY<|ai @RZ<|ai @R0<|ai @PF<|ai @PG<|ai @Dx<|ai @Dy<|ai @PH<|ai @I8<|ai @PI<|ai @yO<|ai @Dz<|ai @PJ<|ai @PL<|ai @PM<|ai @PN<|ai @PO<|ai @PQ<|ai @PR<|@PS):=⟨@RX,@Lw,@RY,@RZ,@R0,@PF,@PG,@Dx,@Dy,@PH,@I8,@PI,@yO,@Dz,@PJ,@PL,@PM,@PN,@PO,@PQ,@PR,@PS⟩
def eF:iS aH:=Qx (Ke (eI .i64) (dp (eI .i64))) (fun x=>(x.an,x.aa)) (by rintro⟨⟩ ⟨⟩ h;simpa using h)
theorem uA (x:aH):eF.cells x=[.int .i64 x.an,.sl false false x.aa.length (ae (eI .i64) x.aa)]:=Yc
theorem xc:eF.size=2:=Yc
theorem E6 (x:aH):aH.mk x.an x.aa=x:=Yc
def aC:iS au:=Qx (Ke eF eF) (fun x=>(x.dQ,x.dN)) (by rintro⟨⟩ ⟨⟩ h;simpa using h)
theorem si (x:au):aC.cells x=[.int .i64 x.dQ.an,.sl false false x.dQ.aa.length (ae (eI .i64) x.dQ.aa),.int .i64 x.dN.an,.sl false false x.dN.aa.length (ae (eI .i64) x.dN.aa)]:=Yc
theorem uB:aC.size=4:=Yc
theorem AU (x:au):au.mk x.dQ x.dN=x:=Yc
def tl:iS iH:=Qx (Ke (dp aC) aC) (fun x=>(x.eY,x.bc)) (by rintro⟨⟩ ⟨⟩ h;simpa using h)
theorem sj (x:iH):tl.cells x=[.sl false false x.eY.length (ae aC x.eY),.int .i64 x.bc.dQ.an,.sl false false x.bc.dQ.aa.length (ae (eI .i64) x.bc.dQ.aa),.int .i64 x.bc.dN.an,.sl false false x.bc.dN.aa.length (ae (eI .i64) x.bc.dN.aa)]:=Yc
theorem uC:tl.size=5:=Yc
theorem AV (x:iH):iH.mk x.eY x.bc=x:=Yc
theorem Rv {l:List _} : (ae (eI .i64) l).length=l.length*1:=bR _ l
theorem Ja {l:List _} : (ae (eI .i64) l).take (l.length*1)=ae (eI .i64) l:=by
 have:=mG (eI .i64) l l.length;rw[XI]at this;exact this
theorem PT {l:List _} {i:Nat} {x:_} : (ae (eI .i64) (l.set i x)).take (l.length*1)=ae (eI .i64) (l.set i x):=by
 have:=@Ja (l.set i x)
 rwa [XE]at this
theorem Rw {l:List _} : (ae (dp (eI .i64)) l).length=l.length*1:=bR _ l
theorem Jb {l:List _} : (ae (dp (eI .i64)) l).take (l.length*1)=ae (dp (eI .i64)) l:=by
 have:=mG (dp (eI .i64)) l l.length;rw[XI]at this;exact this
theorem PU {l:List _} {i:Nat} {x:_} : (ae (dp (eI .i64)) (l.set i x)).take (l.length*1)=ae (dp (eI .i64)) (l.set i x):=by
 have:=@Jb (l.set i x)
 rwa [XE]at this
theorem Rx {l:List _} : (ae aC l).length=l.length*4:=bR _ l
theorem Jc {l:List _} : (ae aC l).take (l.length*4)=ae aC l:=by
 have:=mG aC l l.length;rw[XI]at this;exact this
theorem PV {l:List _} {i:Nat} {x:_} : (ae aC (l.set i x)).take (l.length*4)=ae aC (l.set i x):=by
 have:=@Jc (l.set i x)
 rwa [XE]at this
theorem UA:type_of% (ai @sh<|ai @uz<|ai @xb<|ai @tk<|ai @Kd<|ai @xa<|ai @AL<|ai @EV<|ai @so<|ai @uA<|ai @xc<|ai @si<|ai @uB<|ai @sj<|@uC):=⟨@sh,@uz,@xb,@tk,@Kd,@xa,@AL,@EV,@so,@uA,@xc,@si,@uB,@sj,@uC⟩
theorem Vm:type_of% (ai @aK<|ai @E6<|ai @AU<|ai @AV<|ai @Rv<|ai @Ja<|ai @PT<|ai @Rw<|ai @Jb<|ai @PU<|ai @Rx<|ai @Jc<|@PV):=⟨@aK,@E6,@AU,@AV,@Rv,@Ja,@PT,@Rw,@Jb,@PU,@Rx,@Jc,@PV⟩
theorem w:type_of% (ai @v<|ai @Vn<|ai @UA<|ai @Vm<|@vi):=⟨@v,@Vn,@UA,@Vm,@vi⟩
theorem cF:type_of% (ai @UA<|ai @Xy<|ai @Xo<|ai @V7<|ai @Xz<|@W6):=⟨@UA,@Xy,@Xo,@V7,@Xz,@W6⟩
def fl (l:Option (D×Row)) (d:List D):=dR (ee (gf (eI .i64))) (fun x:(List Int)=>dh x) (fun r:(List Int) =>.clean (.sl false false r.length (ae (eI .i64) r))) l d
theorem Qd {β:Type} {F:(List Int)->Option β} {R:β->RK} (O:(List Int)):dR (ee (gf (eI .i64))) F R none [.sl false false O.length (ae (eI .i64) O)]=(F (O)).map fun r=>(R r,none):=b6 _ _ _ (O)
theorem pk:bN prog 62 fl:=bN.ig (mode := .clean) tok bt.none mixed func62 (by kernel_rfl) (fun _ _=>rfl) (fun _=>by kernel_rfl) fun Z r O=>by
 replace O:dh Z=some r:=O;apply aw rfl ntmps62 results62;simp only[im];unfold dh at O;try simp only[w,seval]
 obtain⟨o4,ah,O⟩:=ab O;refine ax (fun s t H e=>match s with|aa=>t 0=.sl false false Z.length (ae (eI .i64) Z)∧t 3=.int .i64 aa) (fun o x t H e=>match o with|X=>x=.exit 0∧t 0=.sl false false Z.length (ae (eI .i64) Z)∧t 3=.int .i64 X) ah ?_ ?_ ?_
 ·and_intros<;>first|rfl|(simp only[w,seval]<;>rfl)
 ·rintro aa t H e Y c O;simp only[iK]at O;try simp only[w,seval,Y]
  apply sp bF O<;>intro _ O
  ·obtain⟨x6,ai,O⟩:=ab O;have U:=cq (eI .i64) ai;simp only[cF]at U;try simp only[w,seval,Y,U]
   apply sp ak O<;>intro _ O
   ·cases O;try simp only[w,seval,Y,U]
    apply jQ;and_intros<;>first|rfl|(simp only[w,seval,Y,U]<;>rfl)
   ·cases O;try simp only[w,seval,Y,U]
    apply ku;refine⟨rfl,?_⟩;and_intros<;>first|rfl|(simp only[w,seval,Y,U]<;>rfl)
  ·cases O;try simp only[w,seval,Y]
   apply ku;refine⟨rfl,?_⟩;and_intros<;>first|rfl|(simp only[w,seval,Y]<;>rfl)
 ·rintro x t H e hx;obtain⟨X,rfl⟩:∃z,z=o4:=⟨_,rfl⟩;dsimp only at hx O;obtain⟨rfl,aj⟩:=hx;obtain⟨x8,al,O⟩:=ab O;obtain⟨an,ao,aq,ar,ad⟩:=yK (eI .i64) al;simp only[cF]at ad;cases O;try simp only[w,seval,aj,an,ao,aq,ar,ad]
def mQ:=S1 3 (eI .i64) (Uo) (fun (l:(List Int)) (x:Unit)=>dh l)
theorem Dq (pre post:List D) (O:(List Int)):mQ (some (.buf 0 0 1 pre.length O.length,⟨0,3,pre++(ae (eI .i64) O++post),false,true,false⟩)) []=(dh O).map fun r=>(.fresh 3 1 r.length (ae (eI .i64) r),none):=SB _ _ _ _ pre post O ()
theorem Da (pre post:List D) (p0:(List Int)) (r:(List Int)) (O:dh p0=some r):iQ (.fresh 3 1) tab bk FU Try.f62 (some (.buf 0 0 1 pre.length p0.length,⟨0,3,pre++(ae (eI .i64) p0++post),false,true,false⟩)) []=some (.fresh 3 1 r.length (ae (eI .i64) r),none):=by
 apply yY rfl ntmps62 results62;unfold dh at O;try simp only[w,seval]
 obtain⟨o4,aj,O⟩:=ab O;refine ax (fun s t H e=>match s with|aa=>∃U:Nat,t 0=.buf 0 U 1 pre.length (p0).length∧t 3=.int .i64 aa∧H 0=some ⟨U,3,pre++(ae (eI .i64) p0++post),false,true,false⟩) (fun o x t H e=>match o with|Z=>x=.exit 0∧∃Y:Nat,t 0=.buf 0 Y 1 pre.length (p0).length∧t 3=.int .i64 Z∧H 0=some ⟨Y,3,pre++(ae (eI .i64) p0++post),false,true,false⟩) aj ?_ ?_ ?_
 ·refine⟨0,?_⟩;and_intros<;>first|rfl|(simp only[w,seval]<;>rfl)
 ·rintro aa t H e ⟨U,Za⟩ c O;simp only[iK]at O;try simp only[w,seval,Za]
  apply sp bF O<;>intro _ O
  ·obtain⟨x6,al,O⟩:=ab O;have X:=FF (pre:=pre) (post:=post) (eI .i64) al;simp only[cF]at X;try simp only[w,seval,Za,X]
   apply sp ak O<;>intro _ O
   ·cases O;try simp only[w,seval,Za,X]
    apply jQ;refine⟨U,?_⟩;and_intros<;>first|rfl|(simp only[w,seval,Za,X]<;>rfl)
   ·cases O;try simp only[w,seval,Za,X]
    apply ku;refine⟨rfl,⟨U,?_⟩⟩;and_intros<;>first|rfl|(simp only[w,seval,Za,X]<;>rfl)
  ·cases O;try simp only[w,seval,Za]
   apply ku;refine⟨rfl,⟨U,?_⟩⟩;and_intros<;>first|rfl|(simp only[w,seval,Za]<;>rfl)
 ·rintro x t H e hx;obtain⟨Z,rfl⟩:∃z,z=o4:=⟨_,rfl⟩;dsimp only at hx O;obtain⟨rfl,⟨Y,an⟩⟩:=hx;obtain⟨x8,ad,O⟩:=ab O;obtain⟨ao,aq,ar,au,av⟩:=yK (eI .i64) ad;simp only[cF]at av;obtain⟨ah,ai⟩:=QW (pre:=pre) (post:=post) (eI .i64) ad;simp only[cF]at ah ai;cases O;try simp only[w,seval,an,ao,aq,ar,ah,ai,au]
theorem zn:bN prog 62 mQ:=bN.Tk tok bt.none mixed func62 (by kernel_rfl) ⟨by kernel_rfl,by kernel_rfl⟩ (fun _=>Xp (by kernel_rfl)) (fun pre post l x r h=>Da pre post l r h)
def du (l:Option (D×Row)) (d:List D):=dR (gg (aI .i64) (ee (gf (eI .i64)))) (fun x:Int×(List Int)=>eP x.1 x.2) (fun r:aH =>.clean (.agg [.int .i64 r.an,.sl false false r.aa.length (ae (eI .i64) r.aa)])) l d
theorem MW {β:Type} {F:Int×(List Int)->Option β} {R:β->RK} (U:Int) (O:(List Int)):dR (gg (aI .i64) (ee (gf (eI .i64)))) F R none [.int .i64 U,.sl false false O.length (ae (eI .i64) O)]=(F (U,O)).map fun r=>(R r,none):=b6 _ _ _ (U,O)
def np:Env:=(Am.ext bk 62 false fl)
theorem zi:bt prog np:=(bt.none.add pk false)
theorem nT:type_of% (ai @w<|ai @Qd<|ai @fl.eq_1<|@np.eq_1):=⟨@w,@Qd,@fl.eq_1,@np.eq_1⟩
theorem mu:bN prog 48 du:=bN.ig (mode := .clean) tok zi mixed func48 (by kernel_rfl) (fun _ _=>rfl) (fun _=>by kernel_rfl) fun⟨X,Y⟩ r O=>by
 replace O:eP X Y=some r:=O;apply aw rfl ntmps48 results48;simp only[im];unfold eP at O;obtain⟨Z,U,O⟩:=ab O;try simp only[nT,seval,U]
 apply sp ak O<;>intro _ O
 ·cases O;try simp only[nT,seval,U]
 ·cases O;try simp only[nT,seval,U]
def rO (l:Option (D×Row)) (d:List D):=dR (ee (aI .i64)) (fun x:Int=>wm x) (fun r:aH =>.clean (.agg [.int .i64 r.an,.sl false false r.aa.length (ae (eI .i64) r.aa)])) l d
theorem K9 {β:Type} {F:Int->Option β} {R:β->RK} (O:Int):dR (ee (aI .i64)) F R none [.int .i64 O]=(F (O)).map fun r=>(R r,none):=b6 _ _ _ (O)
def xt:Env:=(Am.ext bk 48 false du)
theorem Mc:bt prog xt:=(bt.none.add mu false)
theorem eH:type_of% (ai @w<|ai @MW<|ai @du.eq_1<|@xt.eq_1):=⟨@w,@MW,@du.eq_1,@xt.eq_1⟩
theorem Mu:bN prog 32 rO:=bN.ig (mode := .clean) tok Mc mixed func32 (by kernel_rfl) (fun _ _=>rfl) (fun _=>by kernel_rfl) fun p0 r O=>by
 replace O:wm p0=some r:=O;apply aw rfl ntmps32 results32;simp only[im];unfold wm at O;try simp only[eH,seval,-Int.reduceToNat]
 obtain⟨o1,aB,O⟩:=ab O;refine j7 0 (fun s t H e=>match s with|(U,aj)=>∃X:Nat,t 2=.ptr 2 X 0∧t 3=.int .i64 U∧t 4=.int .u64 aj∧H 2=some ⟨X,25,[.int .i64 0,.sl true true 0 []],false,false,false⟩) (fun s=>s=o1) ?_ ?_
 ·rintro⟨U,aj⟩ t H e ⟨X,au⟩ rfl;try dsimp only at O
  try simp only[eH,seval,-Int.reduceToNat,au]
  obtain⟨o7,aC,O⟩:=ab O;refine ax (fun s t H e=>match s with|(av,ar)=>∃Y:Nat,∃ai:Nat,t 2=.ptr 2 Y 0∧t 3=.int .i64 U∧t 4=.int .u64 av∧t 5=.buf 5 ai 1 0 (ar).length∧H 2=some ⟨Y,25,[.int .i64 0,.sl true true 0 []],false,false,false⟩∧H 5=some ⟨ai,3,ae (eI .i64) ar,false,true,false⟩) (fun o x t H e=>match o with|Z=>x=.exit 0∧∃aa:Nat,∃ad:Nat,t 2=.ptr 2 aa 0∧t 3=.int .i64 U∧t 5=.buf 5 ad 1 0 (Z).length∧H 2=some ⟨aa,25,[.int .i64 0,.sl true true 0 []],false,false,false⟩∧H 5=some ⟨ad,3,ae (eI .i64) Z,false,true,false⟩) aC ?_ ?_ ?_
  ·refine⟨X,e,?_⟩;and_intros<;>first|rfl|(simp only[eH,seval,-Int.reduceToNat,au]<;>rfl)
  ·rintro⟨av,ar⟩ t H e ⟨Y,ai,Zb⟩ c O;simp only[zS]at O;try simp only[eH,seval,-Int.reduceToNat,Zb]
   apply sp ak O<;>intro _ O
   ·obtain⟨x9,aD,O⟩:=ab O;obtain⟨al,ah,an,aq⟩:=fT (eI .i64) aD;simp only[cF]at ah;obtain⟨aF,ay,O⟩:=ab O;have az:=kE ay;cases O;try simp only[eH,seval,-Int.reduceToNat,Zb,al,ah,an,aq,az]
    apply jQ;refine⟨Y,e+1,?_⟩;and_intros<;>first|rfl|(simp only[eH,seval,-Int.reduceToNat,Zb,al,ah,an,aq,az]<;>rfl)
   ·cases O;try simp only[eH,seval,-Int.reduceToNat,Zb]
    apply ku;refine⟨rfl,⟨Y,ai,?_⟩⟩;and_intros<;>first|rfl|(simp only[eH,seval,-Int.reduceToNat,Zb]<;>rfl)
  ·rintro x t H e hx;obtain⟨Z,rfl⟩:∃z,z=o7:=⟨_,rfl⟩;dsimp only at hx O;obtain⟨rfl,⟨aa,ad,aE⟩⟩:=hx;obtain⟨aG,aA,O⟩:=ab O;cases O;try simp only[eH,seval,-Int.reduceToNat,aE,aA]
 ·clear O;have O:=aB;try simp only[eH,seval,-Int.reduceToNat]
  apply sp ak O<;>intro _ O
  ·cases O;try simp only[eH,seval,-Int.reduceToNat]
   rw[ao];refine⟨_,rfl,?_⟩;refine⟨0,?_⟩;and_intros<;>first|rfl|(simp only[eH,seval,-Int.reduceToNat]<;>rfl)
  ·cases O;try simp only[eH,seval,-Int.reduceToNat]
   rw[ao];refine⟨_,rfl,?_⟩;refine⟨0,?_⟩;and_intros<;>first|rfl|(simp only[eH,seval,-Int.reduceToNat]<;>rfl)
def ir (l:Option (D×Row)) (d:List D):=dR (ee (aI .i64)) (fun x:Int=>eZ x) (fun r:au =>.clean (.agg [.int .i64 r.dQ.an,.sl false false r.dQ.aa.length (ae (eI .i64) r.dQ.aa),.int .i64 r.dN.an,.sl false false r.dN.aa.length (ae (eI .i64) r.dN.aa)])) l d
def re:Env:=(Am.ext bk 32 false rO)
theorem Fj:bt prog re:=(bt.none.add Mu false)
theorem Jn:type_of% (ai @w<|ai @K9<|ai @rO.eq_1<|@re.eq_1):=⟨@w,@K9,@rO.eq_1,@re.eq_1⟩
theorem uU:bN prog 16 ir:=bN.ig (mode := .clean) tok Fj mixed func16 (by kernel_rfl) (fun _ _=>rfl) (fun _=>by kernel_rfl) fun Y r O=>by
 replace O:eZ Y=some r:=O;apply aw rfl ntmps16 results16;simp only[im];unfold eZ at O;obtain⟨Z,U,O⟩:=ab O;obtain⟨r2,X,O⟩:=ab O;cases O;try simp only[Jn,seval,U,X]
def fS (l:Option (D×Row)) (d:List D):=dR (ee (aI .u64)) (fun x:Int=>ie x) (fun r:Int =>.clean (.int .i64 r)) l d
theorem Uy {β:Type} {F:Int->Option β} {R:β->RK} (O:Int):dR (ee (aI .u64)) F R none [.int .u64 O]=(F (O)).map fun r=>(R r,none):=b6 _ _ _ (O)
theorem rC:bN prog 46 fS:=bN.ig (mode := .clean) tok bt.none mixed func46 (by kernel_rfl) (fun _ _=>rfl) (fun _=>by kernel_rfl) fun p0 r O=>by
 replace O:ie p0=some r:=O;apply aw rfl ntmps46 results46;simp only[im];unfold ie at O;try simp only[w,seval,-Int.reduceToNat]
 obtain⟨o1,au,O⟩:=ab O;refine j7 0 (fun s t H e=>match s with|(Y,Z)=>t 0=.int .u64 Y∧t 2=.int .i64 Z) (fun s=>s=o1) ?_ ?_
 ·rintro⟨Y,Z⟩ t H e X rfl;try dsimp only at O
  try simp only[w,seval,-Int.reduceToNat,X]
  obtain⟨o2,av,O⟩:=ab O;refine j7 0 (fun s t H e=>match s with|(aa,ad)=>t 0=.int .u64 aa∧t 2=.int .i64 ad) (fun s=>s=o2) ?_ ?_
  ·rintro⟨aa,ad⟩ t H e U rfl;try dsimp only at O
   try simp only[w,seval,-Int.reduceToNat,U]
   apply sp ak O<;>intro _ O
   ·obtain⟨x4,ax,O⟩:=ab O;have q5:=kE ax;try simp only[w,seval,-Int.reduceToNat,U,q5]
    obtain⟨x6,ay,O⟩:=ab O;obtain⟨ae,aC,az,ah⟩:=La ay;try simp only[w,seval,-Int.reduceToNat,U,q5,ae,ah]
    erw [az];cases O;try simp only[w,seval,-Int.reduceToNat,U,q5,ae,ah]
   ·try simp only[w,seval,-Int.reduceToNat,U]
    obtain⟨x8,aA,O⟩:=ab O;obtain⟨ai,aD,aB,aj⟩:=La aA;try simp only[w,seval,-Int.reduceToNat,U,ai,aj]
    erw [aB];cases O;try simp only[w,seval,-Int.reduceToNat,U,ai,aj]
  ·clear O;have O:=av;try simp only[w,seval,-Int.reduceToNat,X]
   apply sp ak O<;>intro _ O
   ·obtain⟨aE,al,O⟩:=ab O;have an:=kE al;cases O;try simp only[w,seval,-Int.reduceToNat,X,an]
    rw[ao];refine⟨_,rfl,?_⟩;and_intros<;>first|rfl|(simp only[w,seval,-Int.reduceToNat,X,an]<;>rfl)
   ·cases O;try simp only[w,seval,-Int.reduceToNat,X]
    rw[ao];refine⟨_,rfl,?_⟩;and_intros<;>first|rfl|(simp only[w,seval,-Int.reduceToNat,X]<;>rfl)
 ·clear O;have O:=au;try simp only[w,seval,-Int.reduceToNat]
  apply sp ak O<;>intro _ O
  ·obtain⟨aF,aq,O⟩:=ab O;have ar:=kE aq;cases O;try simp only[w,seval,-Int.reduceToNat,ar]
   rw[ao];refine⟨_,rfl,?_⟩;and_intros<;>first|rfl|(simp only[w,seval,-Int.reduceToNat,ar]<;>rfl)
  ·cases O;try simp only[w,seval,-Int.reduceToNat]
   rw[ao];refine⟨_,rfl,?_⟩;and_intros<;>first|rfl|(simp only[w,seval,-Int.reduceToNat]<;>rfl)
def hY (l:Option (D×Row)) (d:List D):=dR (ee (aI .u64)) (fun x:Int=>fK x) (fun r:Int =>.clean (.int .i64 r)) l d
def ka:Env:=(Am.ext bk 46 false fS)
theorem tD:bt prog ka:=(bt.none.add rC false)
theorem vH:type_of% (ai @w<|ai @Uy<|ai @fS.eq_1<|@ka.eq_1):=⟨@w,@Uy,@fS.eq_1,@ka.eq_1⟩
theorem tM:bN prog 27 hY:=bN.ig (mode := .clean) tok tD mixed func27 (by kernel_rfl) (fun _ _=>rfl) (fun _=>by kernel_rfl) fun X r O=>by
 replace O:fK X=some r:=O;apply aw rfl ntmps27 results27;simp only[im];unfold fK at O;obtain⟨Y,U,O⟩:=ab O;cases O;try simp only[vH,seval,U]
def bV (l:Option (D×Row)) (d:List D):=dR (ee (dm eF)) (fun x:aH=>dn x) (fun r:Bool =>.clean (.bool r)) l d
theorem BV {β:Type} {F:aH->Option β} {R:β->RK} (U:Int) (O:(List Int)):dR (ee (dm eF)) F R none [.agg [.int .i64 U,.sl false false O.length (ae (eI .i64) O)]]=(F ((aH.mk U O))).map fun r=>(R r,none):=b6 _ _ _ ((aH.mk U O))
theorem jf:bN prog 33 bV:=bN.ig (mode := .clean) tok bt.none mixed func33 (by kernel_rfl) (fun _ _=>rfl) (fun _=>by kernel_rfl) fun Y r O=>by
 replace O:dn Y=some r:=O;apply aw rfl ntmps33 results33;simp only[im];unfold dn at O;try simp only[w,seval]
 obtain⟨o5,aq,O⟩:=ab O;refine ax (fun s t H e=>match s with|ah=>∃Z:Nat,t 1=.ptr 1 Z 0∧t 3=.int .i64 (Y.aa.length:Int)∧t 10=.sl false false Y.aa.length (ae (eI .i64) Y.aa)∧t 11=.int .i64 (Y.aa.length:Int)∧t 12=.int .i64 ah∧H 1=some ⟨Z,25,[.int .i64 Y.an,.sl false false Y.aa.length (ae (eI .i64) Y.aa)],false,false,false⟩) (fun o x t H e=>match o with|(.inl _)=>x=.exit 0∧∃ad:Nat,t 1=.ptr 1 ad 0∧t 3=.int .i64 (Y.aa.length:Int)∧H 1=some ⟨ad,25,[.int .i64 Y.an,.sl false false Y.aa.length (ae (eI .i64) Y.aa)],false,false,false⟩|(.inr r)=>x=.ret∧fp .clean tab none [.tmp 2] ⟨t,EH H,e⟩=some (.clean (.bool r),none)) aq ?_ ?_ ?_
 ·refine⟨0,?_⟩;and_intros<;>first|rfl|(simp only[w,seval]<;>rfl)
 ·rintro ah t H e ⟨Z,Za⟩ c O;simp only[kj]at O;try simp only[w,seval,Za]
  apply sp ak O<;>intro _ O
  ·obtain⟨x7,ar,O⟩:=ab O;have U:=cq (eI .i64) ar;simp only[cF]at U;try simp only[w,seval,Za,U]
   apply sp bn O<;>intro _ O
   ·cases O;try simp only[w,seval,Za,U]
    refine DH ⟨rfl,?_⟩;try simp only[w,seval,Za,U]
   ·try simp only[w,seval,Za,U]
    apply sp ak O<;>intro _ O
    ·cases O;try simp only[w,seval,Za,U]
     refine DH ⟨rfl,?_⟩;try simp only[w,seval,Za,U]
    ·cases O;try simp only[w,seval,Za,U]
     apply jQ;refine⟨Z,?_⟩;and_intros<;>first|rfl|(simp only[w,seval,Za,U]<;>rfl)
  ·cases O;try simp only[w,seval,Za]
   apply ku;refine⟨rfl,⟨Z,?_⟩⟩;and_intros<;>first|rfl|(simp only[w,seval,Za]<;>rfl)
 ·rintro x t H e hx;rcases o5 with _|ra
  ·dsimp only at hx O;obtain⟨rfl,⟨ad,X⟩⟩:=hx;try simp only[w,seval,X]
   apply sp ak O<;>intro _ O
   ·cases O;try simp only[w,seval,X]
   ·try simp only[w,seval,X]
    apply sp bn O<;>intro _ O
    ·obtain⟨au,al,O⟩:=ab O;have ai:=cq (eI .i64) al;simp only[cF]at ai;cases O;try simp only[w,seval,X,ai]
    ·try simp only[w,seval,X]
     apply sp bF O<;>intro _ O
     ·obtain⟨av,ao,O⟩:=ab O;have aj:=cq (eI .i64) ao;simp only[cF]at aj;cases O;try simp only[w,seval,X,aj]
     ·cases O;try simp only[w,seval,X]
  ·dsimp only at hx O;obtain⟨rfl,hE⟩:=hx;cases O;try simp only[bf,aZ,bq,dD,dA,cI,cJ]
   exact hE
def jM (l:Option (D×Row)) (d:List D):=dR (gg Rf (ee (dm eF))) (fun x:Bool×aH=>eA x.1 x.2) (fun r:aH×Int =>.clean (.tup [.agg [.int .i64 r.1.an,.sl false false r.1.aa.length (ae (eI .i64) r.1.aa)],.int .i64 r.2])) l d
theorem pg:bN prog 49 jM:=bN.ig (mode := .clean) tok bt.none mixed func49 (by kernel_rfl) (fun _ _=>rfl) (fun _=>by kernel_rfl) fun⟨U,X⟩ r O=>by
 replace O:eA U X=some r:=O;apply aw rfl ntmps49 results49;simp only[im];unfold eA at O;try simp only[w,seval]
 apply sp ak O<;>intro _ O
 ·cases O;try simp only[w,seval]
 ·cases O;try simp only[w,seval]
theorem tI (r:(List Int)) (O:ck []=some r):iQ (.fresh 3 1) tab bk FU Try.f50 none [.sl true true 0 []]=some (.fresh 3 1 r.length (ae (eI .i64) r),none):=by
 unfold ck at O;obtain⟨U,X,Y⟩:=vJ O;subst U;apply aw rfl ntmps50 results50;simp only[w,seval,Nat.lt_irrefl]
theorem tJ (r:(List Int)) (O:ck []=some r):iQ (.fresh 3 1) tab bk FU Try.f50 none [.sl true false 0 []]=some (.fresh 3 1 r.length (ae (eI .i64) r),none):=by
 unfold ck at O;obtain⟨U,X,Y⟩:=vJ O;subst U;apply aw rfl ntmps50 results50;simp only[w,seval,Nat.lt_irrefl]
theorem tK (O r:(List Int)) (X:0<O.length) (U:ck O=some r):iQ (.fresh 3 1) tab bk FU Try.f50 none [.sl false false O.length (ae (eI .i64) O)]=some (.fresh 3 1 r.length (ae (eI .i64) r),none):=by
 unfold ck at U;have Y:¬O.length=0:=by omega
 obtain⟨Z,qb,qc⟩:=vJ U;subst Z;apply aw rfl ntmps50 results50;simp only[w,seval,X,Y,qb,qc]
def iU:=dR (ee (gf (eI .i64))) (fun x:(List Int)=>ck x) (fun r:(List Int) =>.fresh 3 1 r.length (ae (eI .i64) r))
theorem jk (O:(List Int)):iU none [.sl false false O.length (ae (eI .i64) O)]=(ck O).map fun r:(List Int)=>(.fresh 3 1 r.length (ae (eI .i64) r),none):=b6 _ _ _ O
theorem n9:bN prog 50 iU:=bN.Tm (mode:=(.fresh 3 1)) tok bt.none mixed func50 (by kernel_rfl) ⟨by kernel_rfl,by kernel_rfl⟩ (Xp (by kernel_rfl)) tI tJ tK
def lO (l:Option (D×Row)) (d:List D):=dR (ee (aI .i64)) (fun x:Int=>kG x) (fun r:Bool =>.clean (.bool r)) l d
theorem Di:bN prog 86 lO:=bN.ig (mode := .clean) tok bt.none mixed func86 (by kernel_rfl) (fun _ _=>rfl) (fun _=>by kernel_rfl) fun U r O=>by
 replace O:kG U=some r:=O;apply aw rfl ntmps86 results86;simp only[im];unfold kG at O;cases O;try simp only[w,seval]
def eK (l:Option (D×Row)) (d:List D):=dR (gg (aI .i64) (ee (aI .i64))) (fun x:Int×Int=>ff x.1 x.2) (fun r:Int =>.clean (.int .i64 r)) l d
theorem Uz {β:Type} {F:Int×Int->Option β} {R:β->RK} (O:Int) (U:Int):dR (gg (aI .i64) (ee (aI .i64))) F R none [.int .i64 O,.int .i64 U]=(F (O,U)).map fun r=>(R r,none):=b6 _ _ _ (O,U)
def mh:Env:=(Am.ext bk 86 false lO)
theorem xx:bt prog mh:=(bt.none.add Di false)
theorem cz:type_of% (ai @w<|ai @K9<|ai @lO.eq_1<|@mh.eq_1):=⟨@w,@K9,@lO.eq_1,@mh.eq_1⟩
theorem pn:bN prog 75 eK:=bN.ig (mode := .clean) tok xx mixed func75 (by kernel_rfl) (fun _ _=>rfl) (fun _=>by kernel_rfl) fun⟨Y,Z⟩ r O=>by
 replace O:ff Y Z=some r:=O;apply aw rfl ntmps75 results75;simp only[im];unfold ff at O;obtain⟨r1,U,O⟩:=ab O;obtain⟨r2,X,O⟩:=ab O;try simp only[cz,seval,U,X]
 apply sp ak O<;>intro _ O
 ·try simp only[cz,seval,U,X]
  apply sp ak O<;>intro _ O
  ·cases O;try simp only[cz,seval,U,X]
  ·cases O;try simp only[cz,seval,U,X]
 ·try simp only[cz,seval,U,X]
  apply sp ak O<;>intro _ O
  ·cases O;try simp only[cz,seval,U,X]
  ·try simp only[cz,seval,U,X]
   apply sp ak O<;>intro _ O
   ·cases O;try simp only[cz,seval,U,X]
   ·try simp only[cz,seval,U,X]
    apply sp ak O<;>intro _ O
    ·cases O;try simp only[cz,seval,U,X]
    ·cases O;try simp only[cz,seval,U,X]
def eJ (l:Option (D×Row)) (d:List D):=dR (gg (gf (eI .i64)) (ee (gf (eI .i64)))) (fun x:(List Int)×(List Int)=>eB x.1 x.2) (fun r:Int =>.clean (.int .i64 r)) l d
theorem y7 {β:Type} {F:(List Int)×(List Int)->Option β} {R:β->RK} (O:(List Int)) (U:(List Int)):dR (gg (gf (eI .i64)) (ee (gf (eI .i64)))) F R none [.sl false false O.length (ae (eI .i64) O),.sl false false U.length (ae (eI .i64) U)]=(F (O,U)).map fun r=>(R r,none):=b6 _ _ _ (O,U)
def mg:Env:=(Am.ext bk 75 false eK)
theorem xw:bt prog mg:=(bt.none.add pn false)
theorem bI:type_of% (ai @w<|ai @Uz<|ai @eK.eq_1<|@mg.eq_1):=⟨@w,@Uz,@eK.eq_1,@mg.eq_1⟩
theorem pj:bN prog 63 eJ:=bN.ig (mode := .clean) tok xw mixed func63 (by kernel_rfl) (fun _ _=>rfl) (fun _=>by kernel_rfl) fun⟨p0,p1⟩ r X=>by
 replace X:eB p0 p1=some r:=X;apply aw rfl ntmps63 results63;simp only[im];unfold eB at X;try simp only[bI,seval]
 apply sp ak X<;>intro _ X
 ·obtain⟨r2,ai,X⟩:=ab X;cases X;try simp only[bI,seval,ai]
 ·try simp only[bI,seval]
  obtain⟨o8,aj,X⟩:=ab X;refine ax (fun s t H e=>match s with|ah=>t 0=.sl false false p0.length (ae (eI .i64) p0)∧t 1=.sl false false p1.length (ae (eI .i64) p1)∧t 5=.int .i64 ah) (fun o x t H e=>match o with|(.inl _)=>x=.exit 0|(.inr r)=>x=.ret∧fp .clean tab none [.tmp 4] ⟨t,EH H,e⟩=some (.clean (.int .i64 r),none)) aj ?_ ?_ ?_
  ·and_intros<;>first|rfl|(simp only[bI,seval]<;>rfl)
  ·rintro ah t H e Z c X;simp only[iY]at X;try simp only[bI,seval,Z]
   apply sp ak X<;>intro _ X
   ·obtain⟨al,aa,X⟩:=ab X;have O:=cq (eI .i64) aa;simp only[cF]at O;obtain⟨an,ad,X⟩:=ab X;have U:=cq (eI .i64) ad;simp only[cF]at U;try simp only[bI,seval,Z,O,U]
    refine cW (by kernel_rfl) ?_;try simp only[bI,seval,Z,O,U]
    apply sp ak X<;>intro _ X
    ·have O:=cq (eI .i64) aa;simp only[cF]at O;have U:=cq (eI .i64) ad;simp only[cF]at U;obtain⟨ao,Y,X⟩:=ab X;try simp only[bI,seval,Z,O,U,O,U,Y]
     refine cW (by kernel_rfl) ?_;cases X;try simp only[bI,seval,Z,O,U,O,U,Y]
     refine DH ⟨rfl,?_⟩;try simp only[bI,seval,Z,O,U,O,U,Y]
    ·cases X;try simp only[bI,seval,Z,O,U]
     apply jQ;and_intros<;>first|rfl|(simp only[bI,seval,Z,O,U]<;>rfl)
   ·cases X;try simp only[bI,seval,Z]
    apply ku;exact rfl
  ·rintro x t H e hx;rcases o8 with _|ra
   ·dsimp only at hx X;subst hx;cases X;try simp only[bI,seval]
   ·dsimp only at hx X;obtain⟨rfl,hE⟩:=hx;cases X;try simp only[bf,aZ,bq,dD,dA,cI,cJ]
    exact hE
def lN (l:Option (D×Row)) (d:List D):=dR (gg (gf (eI .i64)) (ee (aI .i64))) (fun x:(List Int)×Int=>jz x.1 x.2) (fun r:(List Int)×Int =>.clean (.tup [.sl false false r.1.length (ae (eI .i64) r.1),.int .i64 r.2])) l d
theorem RU {β:Type} {F:(List Int)×Int->Option β} {R:β->RK} (O:(List Int)) (U:Int):dR (gg (gf (eI .i64)) (ee (aI .i64))) F R none [.sl false false O.length (ae (eI .i64) O),.int .i64 U]=(F (O,U)).map fun r=>(R r,none):=b6 _ _ _ (O,U)
def oS:Env:=(Am.ext bk 62 false fl)
theorem C1:bt prog oS:=(bt.none.add pk false)
theorem fk:type_of% (ai @w<|ai @Qd<|ai @fl.eq_1<|@oS.eq_1):=⟨@w,@Qd,@fl.eq_1,@oS.eq_1⟩
end Go.Proofs.Ytgnoaanebhmegaa.Am
