import Derived.Test.YtekhokjkphgphaaGreatLc
set_option linter.unusedSimpArgs false
set_option linter.unusedVariables false
set_option linter.defProp false
noncomputable section
open Go.Proofs.Tryz
namespace Go.Proofs.YtekhokjkphgphaaGreat.P
open Go.RowKit
def FU:Nat:=1000000000000000000000000
def pL {σ ρ:Type} (a:σ->Option (σ⊕ρ)):Nat->σ->Option ρ
 | 0,_=>none
 | n+1,s =>
  match a s with
  | some (.inl b)=>pL a n b
  | some (.inr r)=>some r
  | none=>none
def aK {σ ρ:Type} (a:σ->Option (σ⊕ρ)) (s:σ):Option ρ:=pL a FU s
def WW {σ ρ:Type} {a:σ->Option (σ⊕ρ)} (I:σ->Prop) (μ:σ->Nat) (Q:ρ->Prop)
  (b:∀s,I s->(∃c,a s=some (.inl c)∧I c∧μ c<μ s)∨(∃r,a s=some (.inr r)∧Q r)):∀(n:Nat) (s:σ),I s->μ s<n->∃r,pL a n s=some r∧Q r:=by
 intro n
 induction n with
 | zero=>intro s _ h;omega
 | succ n f =>
  intro s g k;rcases b s g with⟨c,d,e,l⟩|⟨r,d,e⟩
  ·obtain⟨r,i,j⟩:=f c e (by omega);exact⟨r,by simp only[pL,d];exact i,j⟩
  ·exact⟨r,by simp only[pL,d],e⟩
def tz {σ ρ:Type} {a:σ->Option (σ⊕ρ)} (I:σ->Prop) (μ:σ->Nat) (Q:ρ->Prop) {s:σ} (d:I s) (e:μ s<FU)
  (b:∀s,I s->(∃c,a s=some (.inl c)∧I c∧μ c<μ s)∨(∃r,a s=some (.inr r)∧Q r)):∃r,aK a s=some r∧Q r:=WW I μ Q b FU s d e
def idx {α:Type} (l:List α) (i:Int):Option α:=if 0<=i∧i<l.length then l[i.toNat]? else none
def Df {α:Type} (l:List α) (a b:Int):Option (List α):=if 0<=a∧a<=b∧b<=l.length then some ((l.drop a.toNat).take (b.toNat-a.toNat)) else none
def IZ {α:Type} (bytes:Nat) (n c:Int) (z:α):Option (List α):=if 0<=n∧n<=c∧c<=maxLen∧c.toNat*bytes<=140737488355328 then some (List.replicate n.toNat z) else none
def kV {α:Type} (bytes:Nat) (l m:List α):Option (List α):=if l.length+m.length<=maxLen∧(l.length+m.length)*bytes<=140737488355328 then some (l++m) else none
def AO (k:IntKind) (x y:Int):Option Int:=if y=0 then none else some (k.wrap (x.tdiv y))
def Fu (_:IntKind) (x y:Int):Option Int:=if y=0 then none else some (x.tmod y)
def Ht (k:IntKind) (x y:Int):Option Int:=if y<0 then none else some (k.wrap (x*2 ^ (min y.toNat k.bits)))
def De (k:IntKind) (x y:Int):Option Int:=if y<0 then none else some (x.fdiv (2 ^ (min y.toNat k.bits)))
def kW (c:BinOp) (k:IntKind) (x y:Int):Int :=
 let a:=BitVec.ofInt k.bits x
 let b:=BitVec.ofInt k.bits y
 match c with
 | .and=>k.wrap (a &&& b).toNat
 | .or=>k.wrap (a ||| b).toNat
 | .xor=>k.wrap (a ^^^ b).toNat
 | _=>k.wrap (a &&& ~~~b).toNat
def fm {κ α:Type} [DecidableEq κ] (z:α):List (κ×α)->κ->α
 | [],_=>z
 | (k,v)::m,n=>if k=n then v else fm z m n
def mK {κ α:Type} [DecidableEq κ]:List (κ×α)->κ->Bool
 | [],_=>false
 | (k,_)::m,n=>k==n||mK m n
def rz {κ α:Type} [DecidableEq κ]:List (κ×α)->κ->α->List (κ×α)
 | [],n,v=>[(n,v)]
 | (k,x)::m,n,v=>if k=n then (k,v)::m else (k,x)::rz m n v
def pM (l:List Int):List Int:=l.mergeSort fun x y=>decide (x<=y)
def qC (l:List Int):(pM l).length=l.length:=List.length_mergeSort l
def JC:pM []=[]:=by simp[pM]
def ab {α β:Type} {o:Option α} {f:α->Option β} {r:β} (h:o.bind f=some r):∃a,o=some a∧f a=some r:=by
 cases o with
 | none=>cases h
 | some a=>exact⟨a,rfl,h⟩
def ach {α:Type} {b:Bool} {x y r:α} (a:b=true) (h:(if b=true then x else y)=r):x=r:=by rw[if_pos a]at h;exact h
def acg {α:Type} {b:Bool} {x y r:α} (a:b=false) (h:(if b=true then x else y)=r):y=r:=by rw[a]at h;simpa using h
def ai {a b:Prop} (x:a) (y:b):a∧b:=⟨x,y⟩
def sp {α:Type} {b:Bool} {P1 P2 Q:Prop} {x y r:α} (k:(b=true->P1)->(b=false->P2)->Q) (h:(if b=true then x else y)=r) (h1:b=true->x=r->P1) (h2:b=false->y=r->P2):Q:=k (fun a=>h1 a (ach a h)) fun a=>h2 a (acg a h)
end Go.Proofs.YtekhokjkphgphaaGreat.P
namespace Go.Proofs.YtekhokjkphgphaaGreat.Am
open Go.RowKit Go.Proofs.YtekhokjkphgphaaGreat.P
structure jS (α:Type) where
 cells:α->List D
 size:Nat
 len:∀x,(cells x).length=size
 pos:0<size
 inj:∀x y,cells x=cells y->x=y
def ae {α:Type} (e:jS α):List α->List D
 | []=>[]
 | x::l=>e.cells x++ae e l
section
variable {α β:Type} (e:jS α)
def zZ:ae e []=[]:=rfl
def bP (x:α) (l:List α):ae e (x::l)=e.cells x++ae e l:=rfl
def jX:∀l m:List α,ae e (l++m)=ae e l++ae e m
 | [],m=>rfl
 | x::l,m=>by rw[agP,bP,bP,jX l m,agd]
def cc:∀l:List α,(ae e l).length=l.length*e.size
 | []=>by simp[ae]
 | x::l=>by rw[bP,af6,cc l,e.len,afm,afS];omega
def xz:∀(l:List α) (i:Nat),(ae e l).drop (i*e.size)=ae e (l.drop i)
 | l,0=>by simp
 | [],i+1=>by simp[ae]
 | x::l,i+1=>by
  rw[bP,agQ,<- xz l i,agH,e.len,agI (by rw[e.len,afS];omega),agF];congr 1;rw[afS];omega
def tp:∀(l:List α) (i:Nat),(ae e l).take (i*e.size)=ae e (l.take i)
 | l,0=>by simp[ae]
 | [],i+1=>by simp[ae]
 | x::l,i+1=>by
  rw[bP,agR,bP,agh,e.len,agj (by rw[e.len,afS];omega),<- tp l i];congr 2;rw[afS];omega
def vZ:∀l m:List α,ae e l=ae e m->l=m
 | [],[],_=>rfl
 | [],y::m,h=>by
  have:=congrArg List.length h;have a:=e.pos;rw[bP,af6,e.len]at this;simp[ae]at this;omega
 | x::l,[],h=>by
  have:=congrArg List.length h;have a:=e.pos;rw[bP,af6,e.len]at this;simp[ae]at this;omega
 | x::l,y::m,h=>by
  rw[bP,bP]at h;obtain⟨b,c⟩:=List.append_inj h (by rw[e.len,e.len]);rw[e.inj _ _ b,vZ l m c]
def MY:∀(n:Nat) (x:α),n9 n (e.cells x)=ae e (List.replicate n x)
 | 0,x=>by simp[n9,ae]
 | n+1,x=>by rw[afP,bP,<- MY n x];simp[n9,List.replicate_succ]
end
def eI (k:IntKind):jS Int:=⟨fun n=>[.int k n],1,fun _=>rfl,by decide,fun x y h=>by simpa using h⟩
def aaO:jS ByteArray:=⟨fun n=>[.str n],1,fun _=>rfl,by decide,fun x y h=>by simpa using h⟩
def hZ {α:Type} (e:jS α):jS (List α):=⟨fun l=>[.sl false false l.length (ae e l)],1,fun _=>rfl,by decide,fun x y h=>by
 simp only[afk,D.sl.injEq,true_and,and_true]at h;exact vZ e _ _ h.2⟩
def oP {α β:Type} (e:jS α) (f:jS β):jS (α×β):=⟨fun x=>e.cells x.1++f.cells x.2,e.size+f.size,fun x=>by rw[af6,e.len,f.len],ae0 e.pos (Nat.le_add_right _ _),fun x y h=>by
 obtain⟨a,b⟩:=List.append_inj h (by rw[e.len,e.len]);exact Prod.ext (e.inj _ _ a) (f.inj _ _ b)⟩
def Ev {α β:Type} (e:jS β) (f:α->β) (hf:∀x y,f x=f y->x=y):jS α:=⟨fun x=>e.cells (f x),e.size,fun x=>e.len _,e.pos,fun x y h=>hf _ _ (e.inj _ _ h)⟩
structure Arg (α:Type) where
 d:α->D
 inj:∀x y,d x=d y->x=y
def aI (k:IntKind):Arg Int:=⟨fun n =>.int k n,fun x y h=>by simpa using h⟩
def ZO:Arg Bool:=⟨fun n =>.bool n,fun x y h=>by simpa using h⟩
def oL {α:Type} (e:jS α):Arg (List α):=⟨fun l =>.sl false false l.length (ae e l),fun x y h=>by
 simp only[D.sl.injEq,true_and]at h;exact vZ e _ _ h.2⟩
def bo {α:Type} (e:jS α):Arg α:=⟨fun x =>.agg (e.cells x),fun x y h=>e.inj _ _ (by simpa using h)⟩
def ab0 (k:IntKind) (n:Int):(aI k).d n=.int k n:=ahM
def Sj (n:Bool):ZO.d n=.bool n:=ahM
def ZQ {α:Type} (e:jS α) (l:List α):(oL e).d l=.sl false false l.length (ae e l):=ahM
def VF {α:Type} (e:jS α) (x:α):(bo e).d x=.agg (e.cells x):=ahM
def zT (k:IntKind) (n:Int):(eI k).cells n=[.int k n]:=ahM
def Ir {α:Type} (e:jS α) (l:List α):(hZ e).cells l=[.sl false false l.length (ae e l)]:=ahM
structure jR (α:Type) where
 ds:α->List D
 inj:∀x y,ds x=ds y->x=y
def as0:jR Unit:=⟨fun _=>[],fun _ _ _=>rfl⟩
def dc {α:Type} (a:Arg α):jR α:=⟨fun x=>[a.d x],fun x y h=>a.inj _ _ (by simpa using h)⟩
def fl {α β:Type} (a:Arg α) (b:jR β):jR (α×β):=⟨fun x=>a.d x.1::b.ds x.2,fun x y h=>by
 simp only[afk]at h;exact Prod.ext (a.inj _ _ h.1) (b.inj _ _ h.2)⟩
def di {α β:Type} (A:jR α) (F:α->Option β) (R:β->RK):Option (D×Row)->List D->Option (RK×Option Row):=fun lent b =>
 match lent with
 | none=>open Classical in if h:∃a,A.ds a=b then (F (Classical.choose h)).map fun r=>(R r,none) else none
 | some _=>none
def cB {α β:Type} (A:jR α) (F:α->Option β) (R:β->RK) (a:α):di A F R none (A.ds a)=(F a).map fun r=>(R r,none):=by
 have h:∃b,A.ds b=A.ds a:=⟨a,rfl⟩;simp only[di];rw[dif_pos h,A.inj _ _ (Classical.choose_spec h)]
def tA {α β:Type} {A:jR α} {F:α->Option β} {R:β->RK} {lent:Option (D×Row)} {c:List D} {d:RK} {b:Option Row} (h:di A F R lent c=some (d,b)):lent=none∧b=none∧∃a r,c=A.ds a∧F a=some r∧d=R r:=by
 unfold di at h;split at h
 ·split at h
  ·rename_i f;rw[aeV]at h;obtain⟨r,g,e⟩:=h;simp only[Prod.mk.injEq]at e;obtain⟨rfl,rfl⟩:=e;exact⟨rfl,rfl,_,r,(Classical.choose_spec f).symm,g,rfl⟩
  ·cases h
 ·cases h
structure bK (P:Program) (f:FuncId) (G:Option (D×Row)->List D->Option (RK×Option Row)):Prop where
 calls:∀lent aeS rk out,G lent aeS=some (rk,out)->sJ P f lent aeS rk out
 callable:eW P f
def bK.of {P:Program} {T:Nat->Option Ty} {Γ:Env} (i:iI P T) (j:bG P Γ) (k:P.follows .mixedOrders=true) {α β:Type} {A:jR α} {F:α->Option β} {R:β->RK} {d:Mode} {f:FuncId} {b:Func} (g:P.funcs[f]? = some b) (e:(match b.body with|some c=>codeOk c|none=>true)=true)
  (l:(b.name == "runtime.NumGoroutine")=false∧b.body.isNone=false) (m:∀a,(A.ds a).length<=b.ntmps) (h:∀a r,F a=some r->kT d T Γ FU b none (A.ds a)=some (R r,none)):bK P f (di A F R) where
 calls lent aeS rk out n:=by
  obtain⟨rfl,rfl,a,r,rfl,o,rfl⟩:=tA n;exact ki i j k g e (m a) rfl (h a r o)
 callable:=⟨b,g,l⟩
def bG.add {P:Program} {Γ:Env} (a:bG P Γ) {f:Nat} {G:Option (D×Row)->List D->Option (RK×Option Row)} (h:bK P f G) (l:Bool):bG P (Am.ext Γ f l G):=a.ext h.calls h.callable
section
variable {T:Nat->Option Ty} {Γ:Env} {N e:Nat} {ws:List W} {Q:Kt} {t:Nat->D} {h:Nat->Option Row}
def LK {σ ρ:Type} (b:σ->(Nat->D)->(Nat->Option Row)->Nat->Prop) (a:ρ->Ex->(Nat->D)->(Nat->Option Row)->Nat->Prop) (c:σ⊕ρ):Kt:=fun x t h e =>
 match x with
 | .normal=>∃d,c=.inl d∧b d t h e
 | x=>∃o,c=.inr o∧a o x t h e
def eS {σ ρ:Type} {a:σ->(Nat->D)->(Nat->Option Row)->Nat->Prop} {b:ρ->Ex->(Nat->D)->(Nat->Option Row)->Nat->Prop} {c:σ} (k:a c t h e):LK a b (.inl c) .normal t h e:=⟨c,rfl,k⟩
def gC {σ ρ:Type} {b:σ->(Nat->D)->(Nat->Option Row)->Nat->Prop} {a:ρ->Ex->(Nat->D)->(Nat->Option Row)->Nat->Prop} {o:ρ} {n:Nat} (k:a o (.exit n) t h e):LK b a (.inr o) (.exit n) t h e:=⟨o,rfl,k⟩
def lk {σ ρ:Type} {b:σ->(Nat->D)->(Nat->Option Row)->Nat->Prop} {a:ρ->Ex->(Nat->D)->(Nat->Option Row)->Nat->Prop} {o:ρ} (k:a o .ret t h e):LK b a (.inr o) .ret t h e:=⟨o,rfl,k⟩
def ax {σ ρ:Type} {a:σ->Option (σ⊕ρ)} {b:Code} (d:σ->(Nat->D)->(Nat->Option Row)->Nat->Prop) (f:ρ->Ex->(Nat->D)->(Nat->Option Row)->Nat->Prop) {q:σ} {j:ρ} (w:aK a q=some j) (y:d q t h e)
  (k:∀s t h e,d s t h e->∀c,a s=some c->dB T Γ N FU [.code b] (LK d f c) .normal t h e)
  (g:∀x t h e,f j x t h e->dB T Γ N FU ws Q x t h e):Tv T Γ N FU b ws Q t h e:=by
 have key:∀(n:Nat) (s:σ) (t:Nat->D) (h:Nat->Option Row) (e:Nat),d s t h e->pL a n s=some j->∃x l,iter (fV T Γ N FU b) n ⟨t,h,e⟩=some (x,l)∧dB T Γ N FU ws Q x l.t l.h l.e:=by
  intro n
  induction n with
  | zero=>intro s t h e _ i;cases i
  | succ n z =>
   intro s t h e A i;simp only[pL]at i;cases r:a s with
   | none=>rw[r]at i;cases i
   | some c =>
    rw[r]at i;obtain⟨x,u,B,v⟩:=LJ _ _ _ _ _ (show PO T Γ N FU b t h e (LK d f c) from k s t h e A c r);simp only[iter,B];cases x with
    | normal =>
     obtain⟨l,rfl,p⟩:=v;exact z l u.t u.h u.e p i
    | exit m =>
     obtain⟨o,rfl,p⟩:=v;simp only[ae5]at i;subst i;exact⟨_,_,rfl,g _ _ _ _ p⟩
    | ret =>
     obtain⟨o,rfl,p⟩:=v;simp only[ae5]at i;subst i;exact⟨_,_,rfl,g _ _ _ _ p⟩
 exact key FU q t h e y w
def Az {d:D} {g:Nat} {A B A' B':(Nat->D)->Prop} (a:R0 d t g A B) (h1:∀t,A t->A' t) (h2:∀t,B t->B' t):R0 d t g A' B':=by
 cases d with
 | bool b=>exact⟨fun c=>h1 _ (a.1 c),fun c=>h2 _ (a.2 c)⟩
 | _=>exact a
def GV {d:D} {g:Nat} {A B S A' B' S':(Nat->D)->Prop} (a:wpS d t g A B S) (b:∀t,A t->A' t) (c:∀t,B t->B' t) (e:∀t,S t->S' t):wpS d t g A' B' S':=by
 unfold wpS at a ⊢;split at a
 ·exact e _ a
 ·exact Az a b c
def FD {α:Type} {x:Option α} {K K':α->Prop} (b:tC x K) (c:∀a,K a->K' a):tC x K':=by
 cases x with
 | none=>exact b
 | some a=>exact c a b
def PN {ops:List Oper} {gd:Option (Nat×Bool)} {A B A' B':(Nat->D)->Prop} (b:Yd ops t gd A B) (c:∀t,A t->A' t) (d:∀t,B t->B' t):Yd ops t gd A' B':=by
 unfold Yd at b ⊢;split
 ·exact c _ b
 ·rename_i j a;refine FD b fun g e=>GV e ?_ ?_ d
  ·intro t f;cases a<;>simp_all
  ·intro t f;cases a<;>simp_all
def AB {o:Oper} {K K':(Nat->D)->cd->Prop} (d:PM T Γ e o t h K) (h1:∀t E,K t E->K' t E):PM T Γ e o t h K':=by
 unfold PM at d ⊢;split
 ·rename_i f;rw[f]at d;exact Az d (fun _ h=>h1 _ _ h) (fun _ h=>h1 _ _ h)
 ·rename_i g;split at d
  ·rename_i c a b f;exact absurd f (g _ _ _)
  ·exact FD d (fun _ h=>h1 _ _ h)
def xR {ops:List Oper} {K K':(Nat->D)->(Nat->Option Row)->Prop} (h1:∀t h,K t h->K' t h):∀(l:List Oper) (t:Nat->D) (h:Nat->Option Row),Gq T Γ N e ops l t h K->Gq T Γ N e ops l t h K'
 | [],t,h,hk=>h1 _ _ hk
 | o::l,t,h,hk=>by
  unfold Gq at hk ⊢;exact⟨hk.1,PN hk.2 (fun t a=>AB a fun t E b=>xR h1 l _ _ b) (fun t a=>xR h1 l _ _ a)⟩
def xO {ops:List Oper} {K K':(Nat->D)->(Nat->Option Row)->List kU->Prop} (h1:∀t h fs,K t h fs->K' t h fs):∀(l:List Oper) (t:Nat->D) (h:Nat->Option Row) (fs:List kU),runK T Γ N e ops l t h fs K->runK T Γ N e ops l t h fs K'
 | [],t,h,fs,hk=>h1 _ _ _ hk
 | o::l,t,h,fs,hk=>by
  unfold runK at hk ⊢;exact⟨hk.1,PN hk.2 (fun t a=>AB a fun t E b=>xO h1 l _ _ _ b) (fun t a=>xO h1 l _ _ _ a)⟩
def Yf {ops:Array Oper} {a:Bool} {K K':(Nat->D)->(Nat->Option Row)->Prop} (b:wpR T Γ N ops a t h e K) (c:∀t h,K t h->K' t h):wpR T Γ N ops a t h e K':=by
 unfold wpR at b ⊢;cases a with
 | true=>exact xO (fun t h fs d=>⟨d.1,c _ _ d.2⟩) _ _ _ _ b
 | false=>exact xR c _ _ _ b
def Vk {F:Nat} : ∀(c:Code) (t:Nat->D) (h:Nat->Option Row) (e:Nat) (K K':Kt),PO T Γ N F c t h e K->(∀x t h e,K x t h e->K' x t h e)->PO T Γ N F c t h e K':=by
 intro c
 induction c with
 | skip=>intro t h e K K' d hm;exact hm _ _ _ _ d
 | region i ops draw=>intro t h e K K' d hm;exact Yf d fun t h p=>hm _ _ _ _ p
 | seq a b j k =>
  intro t h e K K' d hm;refine j _ _ _ _ _ d fun x t h e f =>?_;cases x with
  | normal=>exact k _ _ _ _ _ f hm
  | exit n=>exact hm _ _ _ _ f
  | ret=>exact hm _ _ _ _ f
 | cond c x y ihx ihy =>
  intro t h e K K' d hm;unfold PO at d ⊢;cases c with
  | tmp g=>exact Az d (fun t l=>ihx _ _ _ _ _ l hm) (fun t l=>ihy _ _ _ _ _ l hm)
  | const v =>
   cases v with
   | bool b =>
    cases b with
    | true=>exact ihx _ _ _ _ _ d hm
    | false=>exact ihy _ _ _ _ _ d hm
   | _=>exact d
  | _=>exact d
 | block id b o =>
  intro t h e K K' d hm;refine o _ _ _ _ _ d fun x t h e f =>?_;cases x with
  | normal=>exact hm _ _ _ _ f
  | ret=>exact hm _ _ _ _ f
  | exit n =>
   unfold VW at f ⊢;simp only at f ⊢;split at f
   ·rename_i m;rw[if_pos m];exact hm _ _ _ _ f
   ·rename_i m;rw[if_neg m];exact hm _ _ _ _ f
 | loop b o =>
  intro t h e K K' d hm;obtain⟨x,s,q,r⟩:=d;exact⟨x,s,q,hm _ _ _ _ r⟩
 | exit id=>intro t h e K K' d hm;exact hm _ _ _ _ d
 | ret=>intro t h e K K' d hm;exact hm _ _ _ _ d
 | _=>intro t h e K K' d;exact d.elim
def CK {σ:Type} (J:σ->(Nat->D)->(Nat->Option Row)->Nat->Prop) (P:σ->Prop) (R:Kt):Kt:=fun x t h e =>
 match x with
 | .normal=>∃s,P s∧J s t h e
 | x=>R x t h e
def au {σ:Type} {J:σ->(Nat->D)->(Nat->Option Row)->Nat->Prop} {P:σ->Prop} {R:Kt} : CK J P R .normal t h e = ∃s,P s∧J s t h e:=ahM
end
section
variable {h:Nat->Option Row}
def HX {k:IntKind} {n:Int} : canon (.int k n)=.int k n:=ahM
def HY {b:ByteArray} : canon (.str b)=.str b:=ahM
def Mm {a b:Bool} {n:Nat} {c:List D} : canon (.sl a b n c)=.sl false false n c:=ahM
def D7 {a:List D} : iQ (.agg a)=.agg (a.map canon):=ahM
def clB (x s o n:Nat):Option Row->Option (D×List Nat)
 | some r=>if o+n*s<=r.cells.length then some (.sl false false n ((r.cells.drop o).take (n*s)),[x]) else none
 | none=>none
def Mt {x s o n:Nat} {r:Row} : clB x s o n (some r)=if o+n*s<=r.cells.length then some (.sl false false n ((r.cells.drop o).take (n*s)),[x]) else none:=ahM
def clP (x o:Nat):Option Row->Option (D×List Nat)
 | some r=>if o<=r.cells.length then some (.ip (r.cells.drop o),[x]) else none
 | none=>none
def Mw {x o:Nat} {r:Row} : clP x o (some r)=if o<=r.cells.length then some (.ip (r.cells.drop o),[x]) else none:=ahM
def Mr {k:IntKind} {n:Int} : cG h (.int k n)=some (.int k n,[]):=ahM
def H0 {b:Bool} : cG h (.bool b)=some (.bool b,[]):=ahM
def SC {a b:Bool} {n:Nat} {c:List D} : cG h (.sl a b n c)=some (.sl false false n c,[]):=ahM
def Mo {a:List D} : cG h (.agg a)=some (.agg (a.map canon),[]):=ahM
def SB {a:List D} : cG h (.ip a)=some (.ip a,[]):=ahM
def SA {f:Nat} : cG h (.fn f)=some (.fn f,[]):=ahM
def Mp {x v s o n:Nat} : cG h (.buf x v s o n)=clB x s o n (live h x v):=by
 simp only[cG,bH,dQ];cases live h x v with
 | none=>rfl
 | some r=>by_cases a:o+n*s<=r.cells.length<;>simp[clB,a,canon]
def We {k:IntKind} {n:Int} : fC h (.int k n)=some ([.int k n],[]):=ahM
def Wf {b:ByteArray} : fC h (.str b)=some ([.str b],[]):=ahM
def ZU {a b:Bool} {n:Nat} {c:List D} : fC h (.sl a b n c)=some ([.sl a b n c],[]):=ahM
def Wc {a:List D} : fC h (.agg a)=some (a,[]):=ahM
def cvB:Option (D×List Nat)->Option (List D×List Nat)
 | some (d,fr)=>some ([d],fr)
 | none=>none
def MB {d:D} {fr:List Nat} : cvB (some (d,fr))=some ([d],fr):=ahM
def Wd {x v s o n:Nat} : fC h (.buf x v s o n)=cvB (clB x s o n (live h x v)):=by
 simp only[fC,dQ];cases live h x v with
 | none=>rfl
 | some r=>by_cases a:o+n*s<=r.cells.length<;>simp[clB,cvB,a]
def clF (h:Nat->Option Row):Option (D×List Nat)->Option cd
 | some (d,fr)=>some ⟨d,jw h fr⟩
 | none=>none
def Mv {d:D} {fr:List Nat} : clF h (some (d,fr))=some ⟨d,jw h fr⟩:=ahM
def Sl {x v s o n:Nat} : mI h (.buf x v s o n)=clF h (clB x s o n (live h x v)):=by
 simp only[mI,qN,dQ];cases live h x v with
 | none=>rfl
 | some r=>by_cases a:o+n*s<=r.cells.length<;>simp[clB,clF,a,canon,iQ]
variable {Γ:Env} {f g e:Nat} {l:Bool} {G:Option (D×Row)->List D->Option (RK×Option Row)} {lent:Option (D×Row)} {aeS:List D} {dst:Option Nat} {fr:List Nat}
def IF:(Am.ext Γ f l G).lends g=if g=f then l else Γ.lends g:=ahM
def SV:(Am.ext Γ f l G).sem g lent aeS=if g=f then G lent aeS else Γ.sem g lent aeS:=ahM
def SU {d:Nat} : (Am.ext Γ f l G).own d=Γ.own d:=ahM
def I8 {d:Nat} : bl.own d=true:=ahM
def NM {d i:Nat} : (Am.keep d Γ).own i=(i != d&&Γ.own i):=ahM
def E9 {d i:Nat} : (Am.keep d Γ).lends i=Γ.lends i:=ahM
def NN {d i:Nat} : (Am.keep d Γ).sem i lent aeS=Γ.sem i lent aeS:=ahM
def CX (b:Bool) (Γ:Env) (h:Nat->Option Row) (e:Nat) (dst:Option Nat) (g:Nat) (a:List D):Option cd :=
 if b then
  match a with
  | .buf x v s o n::rest=>qM Γ h e dst g x v (.buf 0 0 s o n) rest
  | .ptr x v o::rest=>qM Γ h e dst g x v (.ptr 0 0 o) rest
  | .mp x v::rest=>qM Γ h e dst g x v (.mp 0 0) rest
  | _=>none
 else vH Γ h e dst g a
def aaK (p:Option (Nat×Nat×Nat)) (Γ:Env) (h:Nat->Option Row) (e:Nat) (dst:Option Nat) (g:Nat) (a:List D):Option cd :=
 match p with
 | some p=>zI h e dst p a
 | none =>
  match Γ.grw g with
  | some p=>yi h p a
  | none=>CX (Γ.lends g) Γ h e dst g a
def ab6 (p:Option Grow) (Γ:Env) (h:Nat->Option Row) (e:Nat) (dst:Option Nat) (g:Nat) (a:List D):Option cd :=
 match p with
 | some p=>yi h p a
 | none=>CX (Γ.lends g) Γ h e dst g a
def HU {a:List D} : aaK none Γ h e dst g a=ab6 (Γ.grw g) Γ h e dst g a:=ahM
def HT {a:List D} : ab6 none Γ h e dst g a=CX (Γ.lends g) Γ h e dst g a:=ahM
def SQ {f:Nat} {l:Bool} {G:Option (D×Row)->List D->Option (RK×Option Row)} : (Am.ext Γ f l G).grw g=Γ.grw g:=ahM
def NI {d:Nat} : (Am.keep d Γ).grw g=Γ.grw g:=ahM
def I4:bl.grw g=none:=ahM
def SR {f:Nat} {l:Bool} {G:Option (D×Row)->List D->Option (RK×Option Row)} : (Am.ext Γ f l G).ins g=Γ.ins g:=ahM
def NJ {d:Nat} : (Am.keep d Γ).ins g=Γ.ins g:=ahM
def I5:bl.ins g=none:=ahM
def Sy {a:List D} : iJ Γ h e dst (.fn g) a=aaK (Γ.ins g) Γ h e dst g a:=by
 simp only[iJ,aaK,CX];cases Γ.ins g with
 | none=>cases Γ.grw g<;>rfl
 | some p=>rfl
def T6 (h:Nat->Option Row) (e:Nat) (dst:Option Nat) (fr:List Nat):Option (RK×Option Row)->Option cd
 | some (.clean r,_)=>some ⟨r,if iR r then [] else jw h fr⟩
 | some (.fresh a s n cells,_) =>
  match dst with
  | some d=>if fr.contains d=false then some ⟨.buf d e s 0 n,(if qZ cells then [] else jw h fr)++[(d,some ⟨e,a,cells,false,true,false⟩)]⟩ else none
  | none=>none
 | _=>none
def aaJ (Γ:Env) (h:Nat->Option Row) (e:Nat) (dst:Option Nat) (g:Nat):Option (List D×List Nat)->Option cd
 | some (aeS,fr)=>T6 h e dst fr (Γ.sem g none aeS)
 | none=>none
def HV {a:List D} : CX false Γ h e dst g a=aaJ Γ h e dst g (bX h a):=by
 simp only[CX,afv,if_false,vH,aaJ];cases bX h a with
 | none=>rfl
 | some p =>
  obtain⟨aeS,fr⟩:=p;simp only;cases c:Γ.sem g none aeS with
  | none=>rfl
  | some q =>
   obtain⟨b,o⟩:=q;cases b<;>rfl
def HS:aaJ Γ h e dst g (some (aeS,fr))=T6 h e dst fr (Γ.sem g none aeS):=ahM
def YI (h:Nat->Option Row) (fr:List Nat):Bool->List (Nat×Option Row)
 | true=>[]
 | false=>jw h fr
def IM:YI h fr true=[]:=ahM
def EM:YI h fr false=jw h fr:=ahM
def D4 {r:D} {o:Option Row} : T6 h e dst fr (some (.clean r,o))=some ⟨r,YI h fr (iR r)⟩:=by
 simp only[T6]<;>cases iR r<;>rfl
def SY:jw h []=[]:=ahM
def Nb {x:Nat} : jw h (x::fr)=(x,(h x).map vu)::jw h fr:=ahM
def H3:bX h []=some ([],[]):=ahM
def caC (p:Option (D×List Nat)) (q:Option (List D×List Nat)):Option (List D×List Nat) :=
 match p,q with
 | some (c,fr),some (a,b)=>some (c::a,fr++b)
 | _,_=>none
def L9 {d:D} {fr a:List Nat} {b:List D} : caC (some (d,fr)) (some (b,a))=some (d::b,fr++a):=ahM
def D8 {d:D} {a:List D} : bX h (d::a)=caC (cG h d) (bX h a):=by
 simp only[bX];cases cG h d with
 | none=>rfl
 | some p=>cases bX h a<;>rfl
variable {T:Nat->Option Ty} {s:St} {rs:List ResultVar} {r:ResultVar}
def OV:vw T s []=some ([],[]):=ahM
def Jp:vw T s (r::rs)=caC (OT T s r) (vw T s rs):=by
 simp only[vw];cases OT T s r with
 | none=>rfl
 | some p=>cases vw T s rs<;>rfl
def OU {t:Nat->D} {i:Nat} : OT T ⟨t,h,e⟩ (.tmp i)=cG h (t i):=ahM
def abn (T:Nat->Option Ty) (h:Nat->Option Row) (d:D) (τ:Option Ty):Option (D×List Nat) :=
 match τ,d with
 | some τ,.ptr x v o=>match eM τ h (.ptr x v o) with|some E=>some (iQ E.val,[])|none=>none
 | _,_=>none
def Jn {t:Nat->D} {i a:Nat} : OT T ⟨t,h,e⟩ (.cell i a)=abn T h (t i) (T a):=ahM
def abo:Option cd->Option (D×List Nat)
 | some E=>some (iQ E.val,[])
 | none=>none
def Jo {d:D} {w:List (Nat×Option Row)} : abo (some ⟨d,w⟩)=some (iQ d,[]):=ahM
def OS {τ:Ty} {x v o:Nat} : abn T h (.ptr x v o) (some τ)=abo (eM τ h (.ptr x v o)):=by
 simp only[abn,abo]
def aaQ (p:Option (List D×List Nat)):Option (RK×Option Row) :=
 match p with
 | some (ds,_)=>some (.clean (nk ds),none)
 | none=>none
def Iv {a:List D} {fr:List Nat} : aaQ (some (a,fr))=some (.clean (nk a),none):=ahM
def ED:eB .clean T none rs s=aaQ (vw T s rs):=by
 simp only[eB,qY,lM,Xn,aaQ]<;>cases vw T s rs<;>rfl
def D5 {a b n d:Nat} {cells:List D} {o:Option Row} : T6 h e (some d) fr (some (.fresh a b n cells,o))=if fr.contains d=false then some ⟨.buf d e b 0 n,YI h fr (qZ cells)++[(d,some ⟨e,a,cells,false,true,false⟩)]⟩ else none:=by
 simp only[T6]<;>cases qZ cells<;>rfl
def AT {k:IntKind} : ∀l:List Int,qZ (ae (eI k) l)=true
 | []=>rfl
 | x::l=>by
  have:=AT (k:=k) l;simp only[bP,zT,List.cons_append,List.nil_append,qZ,iR,this,Bool.and_self]
def EE {a b i:Nat} {t:Nat->D} : eB (.fresh a b) T none [.tmp i] ⟨t,h,e⟩=qu a b h (t i):=ahM
def SL {b a x v o n:Nat} : qu b a h (.buf x v a o n)=xA b a o n (live h x v):=by simp[qu]
def MV {b a o n:Nat} {r:Row} : xA b a o n (some r)=if r.fz=false∧r.ty=b∧o+n*a<=r.cells.length then some (.fresh b a n ((r.cells.drop o).take (n*a)),none) else none:=ahM
def Gi {d:D} : nk [d]=d:=ahM
def Gj {d a:D} {b:List D} : nk (d::a::b)=.tup (d::a::b):=ahM
end
def SK (k:IntKind):(eI k).size=1:=ahM
def MU {α:Type} (e:jS α):(hZ e).size=1:=ahM
section
variable {α:Type} (E:jS α) {l m:List α} {x x' z:α} {i a b n c:Int} {B:Nat}
def KI (h:P.idx l i=some x):0<=i∧i<l.length:=by
 unfold P.idx at h;split at h
 ·assumption
 ·cases h
def WV (h:P.idx l i=some x):l[i.toNat]? = some x:=by
 unfold P.idx at h;split at h
 ·exact h
 ·cases h
def Dq (h:P.idx l i=some x):(ae E l).drop (i.toNat*E.size)=E.cells x++ae E (l.drop (i.toNat+1)):=by
 have a:=WV h;obtain⟨b,rfl⟩:=afp.1 a;rw[xz,agS b];rfl
def uJ (h:P.idx l i=some x):i.toNat*E.size+E.size<=l.length*E.size:=by
 have a:=KI h;have:i.toNat+1<=l.length:=by omega
 have:=afF E.size this
 rwa [afS]at this
def bk (h:P.idx l i=some x):(0<=i∧i<l.length)∧(ae E l).drop (i.toNat*E.size)=E.cells x++ae E (l.drop (i.toNat+1))∧i.toNat*E.size+E.size<=l.length*E.size:=⟨KI h,Dq E h,uJ E h⟩
def XG:∀(l:List α) (i:Nat) (x:α),l[i]? = some x->∀x',ae E (l.set i x')=(ae E l).take (i*E.size)++E.cells x'++(ae E l).drop (i*E.size+E.size)
 | [],i,x,h,x'=>by simp at h
 | y::l,0,x,h,x'=>by
  rw[List.set_cons_zero,bP,bP,Nat.zero_mul,agT,agF,afH,agH,E.len,af8,agk,agI (by rw[E.len];exact aeX _),agF]
 | y::l,i+1,x,h,x'=>by
  have b:=XG l i x (by simpa using h) x';rw[List.set_cons_succ,bP,bP,b,afS];have a:=E.len y;have c:(E.cells y++ae E l).take (i*E.size+E.size)=E.cells y++(ae E l).take (i*E.size):=by rw[agh,a,agj (by omega),agJ]
  have d:(E.cells y++ae E l).drop (i*E.size+E.size+E.size)=(ae E l).drop (i*E.size+E.size):=by
   rw[agH,a,agI (by omega),agF,agJ]
  rw[c,d];simp only[agd]
def fN (fo:Nat) (cs:List D) (h:P.idx l i=some x) (d:E.cells x'=putCells (E.cells x) fo cs) (e:fo+cs.length<=E.size):putCells (ae E l) (i.toNat*E.size+fo) cs=ae E (l.set i.toNat x'):=by
 have f:=WV h;rw[XG E l i.toNat x f x',d];have b:=Dq E h;have q:=uJ E h;have s:=cc E l;have g:=E.len x;have a:ae E l=(ae E l).take (i.toNat*E.size)++(E.cells x++(ae E l).drop (i.toNat*E.size+E.size)):=by
  have j:=agL (i.toNat*E.size) (ae E l);have k:(ae E l).drop (i.toNat*E.size+E.size)=ae E (l.drop (i.toNat+1)):=by
   rw[<- agK,b,agH,g,af8,agk,agI (by omega),agF]
  rw[k,<- b,j]
 generalize (ae E l).drop (i.toNat*E.size+E.size)=r at *;generalize m:(ae E l).take (i.toNat*E.size)=p at *;have c:p.length=i.toNat*E.size:=by rw[<- m];simp;omega
 unfold putCells;rw[a];have n:(p++(E.cells x++r)).take (i.toNat*E.size+fo)=p++(E.cells x).take fo:=by
  rw[agh,c,agj (by omega),agf,agi (by omega)]
 have o:(p++(E.cells x++r)).drop (i.toNat*E.size+fo+cs.length)=(E.cells x).drop (fo+cs.length)++r:=by
  rw[afh,agH,c,agI (by omega),agf,agF,age (by omega)]
 rw[n,o];simp only[agd]
def Xy (h:P.idx l i=some x):putCells (ae E l) (i.toNat*E.size) (E.cells x')=ae E (l.set i.toNat x'):=by
 have:=fN E (x':=x') 0 (E.cells x') h (by unfold putCells;simp[E.len]) (by rw[E.len];omega);simpa using this
def Xf (h:IZ B n c z=some m):m=List.replicate n.toNat z∧0<=n∧n<=c∧c<=maxLen∧c.toNat*B<=140737488355328:=by
 unfold IZ at h;split at h
 ·cases h;exact⟨rfl,by assumption⟩
 ·cases h
def mk_one (h:IZ B n n z=some m):0<=n∧n.toNat=m.length∧m.length<=maxLen∧n9 m.length (E.cells z)=ae E m∧m.length*B<=140737488355328:=by
 obtain⟨rfl,a,_,c,b⟩:=Xf h;refine⟨a,by simp,by simp;omega,by rw[MY];simp,by simpa using b⟩
def BM (h:Df l a b=some m):0<=a∧0<=b∧a.toNat<=b.toNat∧b.toNat<=l.length∧b.toNat-a.toNat=m.length∧(List.take (m.length*E.size) (List.drop (a.toNat*E.size) (ae E l))=ae E m):=by
 unfold Df at h;split at h
 ·rename_i d;cases h;have c:((l.drop a.toNat).take (b.toNat-a.toNat)).length=b.toNat-a.toNat:=by simp;omega
  refine⟨d.1,by omega,by omega,by omega,c.symm,?_⟩;rw[c,xz,tp]
 ·cases h
def abv (h:Df l a b=some m):0<=a∧0<=b∧(a.toNat<=b.toNat∧b.toNat<=l.length)∧b.toNat-a.toNat=m.length∧(List.take (m.length*E.size) (List.drop (a.toNat*E.size) (ae E l))=ae E m):=by
 obtain⟨c,d,e,f,g,i⟩:=BM E h;exact⟨c,d,⟨e,f⟩,g,i⟩
def XK (h:Df l a (l.length:Int)=some m):0<=a∧0<=a∧a.toNat<=l.length∧l.length-a.toNat=m.length∧(List.take (m.length*E.size) (List.drop (a.toNat*E.size) (ae E l))=ae E m):=by
 obtain⟨b,f,c,g,d,e⟩:=BM E h;simp only[Int.toNat_natCast]at c d;exact⟨b,b,c,d,e⟩
def Lg (h:Df l 0 b=some m):0<=b∧0<=b∧m.length<=l.length∧b.toNat=m.length∧(List.take (m.length*E.size) (ae E l)=ae E m):=by
 obtain⟨f,c,g,i,d,e⟩:=BM E h;have a:b.toNat=m.length:=by simpa using d
 refine⟨c,c,by omega,a,by simpa using e⟩
def AL {n:List α} (h:kV B l m=some n):n=l++m∧n.length<=maxLen∧n.length*B<=140737488355328:=by
 unfold kV at h;split at h
 ·rename_i a;cases h;exact⟨rfl,by rw[af6];exact a.1,by rw[af6];exact a.2⟩
 ·cases h
def fY {n:List α} (h:kV B l [x]=some n):l.length+1=n.length∧ae E l++E.cells x=ae E n∧n.length<=maxLen∧n.length*B<=140737488355328:=by
 obtain⟨rfl,a,b⟩:=AL h;exact⟨by simp,by rw[jX];simp[ae],a,b⟩
def Dl {n:List α} (h:kV B [] l=some n):n=l∧l.length<=maxLen∧l.length*B<=140737488355328:=by
 obtain⟨rfl,a,b⟩:=AL h;exact⟨rfl,a,b⟩
def Yq {n:List α} (h:kV B l m=some n):l.length+m.length=n.length∧ae E l++ae E m=ae E n∧n.length<=maxLen∧n.length*B<=140737488355328:=by
 obtain⟨rfl,a,b⟩:=AL h;exact⟨by simp,by rw[jX],a,b⟩
end
def uw {k:IntKind} {x y z:Int} (h:AO k x y=some z):¬y=0∧k.wrap (x.tdiv y)=z:=by
 unfold AO at h;split at h
 ·cases h
 ·cases h;exact⟨by assumption,rfl⟩
def Ah {k:IntKind} {x y z:Int} (h:Fu k x y=some z):¬y=0∧x.tmod y=z:=by
 unfold Fu at h;split at h
 ·cases h
 ·cases h;exact⟨by assumption,rfl⟩
def Dy {k:IntKind} {x y z:Int} (h:Ht k x y=some z):¬y<0∧k.wrap (x*2 ^ (min y.toNat k.bits))=z:=by
 unfold Ht at h;split at h
 ·cases h
 ·cases h;exact⟨by assumption,rfl⟩
def xT {k:IntKind} {x y z:Int} (h:De k x y=some z):¬y<0∧x.fdiv (2 ^ (min y.toNat k.bits))=z:=by
 unfold De at h;split at h
 ·cases h
 ·cases h;exact⟨by assumption,rfl⟩
def Ss (a:BinOp) (k:IntKind) (x y:Int):D0 a k x y=kW a k x y:=ahM
def sJ.emp {P:Program} {f:FuncId} {i:RK} {a:Option Row} (x:sJ P f none [.sl true true 0 []] i a) (y:sJ P f none [.sl true false 0 []] i a):sJ P f none [.sl false false 0 []] i a:=by
 intro w M k l b;have m:=b.2 0 _ rfl;generalize o:k.getD 0 undef=u at m;cases m with
 | sl A c nl tight n xs p q r z g B s t v =>
  cases A with
  | none =>
   refine x w M k l ⟨b.1,fun j d e =>?_,b.tab⟩;cases j with
   | zero=>cases e;rw[o];exact .sl none c true true 0 [] p q r (fun _=>⟨fun _=>⟨rfl,(g rfl).2⟩,fun h=>by cases h⟩) g (fun _=>(g rfl).2) s t v
   | succ j=>simp at e
  | some A =>
   refine y w M k l ⟨b.1,fun j d e =>?_,b.tab⟩;cases j with
   | zero=>cases e;rw[o];exact .sl (some A) c true false 0 [] p q r (fun _=>⟨(fun h=>by cases h),fun _ h=>by cases h⟩) g (fun h=>by cases h) s t v
   | succ j=>simp at e
def bK.acm {P:Program} {T:Nat->Option Ty} {Γ:Env} (e:iI P T) (g:bG P Γ) (h:P.follows .mixedOrders=true) {α β:Type} {E:jS α} {F:List α->Option β} {R:β->RK} {mode:Mode} {f:FuncId} {a:Func} (d:P.funcs[f]? = some a) (b:(match a.body with|some c=>codeOk c|none=>true)=true)
  (k:(a.name == "runtime.NumGoroutine")=false∧a.body.isNone=false) (i:1<=a.ntmps)
  (m:∀r,F []=some r->kT mode T Γ FU a none [.sl true true 0 []]=some (R r,none))
  (n:∀r,F []=some r->kT mode T Γ FU a none [.sl true false 0 []]=some (R r,none))
  (o:∀l r,0<l.length->F l=some r->kT mode T Γ FU a none [.sl false false l.length (ae E l)]=some (R r,none)):bK P f (di (dc (oL E)) F R) where
 calls lent aeS rk out p:=by
  obtain⟨rfl,rfl,l,r,rfl,j,rfl⟩:=tA p;cases l with
  | nil=>exact sJ.emp (ki e g h d b i rfl (m r j)) (ki e g h d b i rfl (n r j))
  | cons x l=>exact ki e g h d b i rfl (o (x::l) r (by simp) j)
 callable:=⟨a,d,k⟩
def aaC {w:World} {M:Nat->Prop} {k:IntKind} {n:Int} {u:Value} (h:RP w M (.int k n) u):u=.int k n:=by cases h;rfl
def X8 {a:Array Value} (h:a.size=1):a = #[a.getD 0 undef]:=by
 apply Array.ext
 ·simp[h]
 ·intro i b c;have:i=0:=by omega
  subst this;simp[af7 b]
def vm1:=ai @Jw<|ai @O1<|ai @O0<|ai @Ju<|ai @Gr<|ai @Jv<|ai @aP<|ai @wV<|ai @vg<|ai @aV<|ai @yw<|ai @CL<|ai @Gt<|ai @Jt<|ai @JR<|ai @GK<|ai @OY<|ai @Jr<|ai @Gn<|ai @JS<|ai @GL<|ai @GM<|ai @CV<|ai @OZ<|ai @Js<|ai @Gp<|ai @JT<|ai @GN<|ai @GO<|ai @CW<|ai @Pj<|ai @Po<|ai @TF<|ai @TI<|ai @Ga<|ai @CG<|ai @Gb<|ai @CH<|ai @MH<|ai @MN<|ai @MG<|ai @MM<|ai @Eg<|ai @Ei<|ai @H9<|ai @Ii<|ai @MI<|ai @MO<|ai @ME<|@MK
def vm2:=ai @Ig<|ai @Il<|ai @yk<|ai @yo<|ai @yl<|ai @yp<|ai @Ib<|ai @Ic<|ai @Ia<|ai @Ij<|ai @vQ<|ai @vR<|ai @ym<|ai @yr<|ai @H8<|ai @Ih<|ai @SH<|ai @B5<|ai @B6<|ai @B9<|ai @MD<|ai @MJ<|ai @B4<|ai @B8<|ai @Om<|ai @OD<|ai @HQ<|ai @BX<|ai @H6<|ai @M4<|ai @Ep<|ai @Eo<|ai @E7<|ai @E6<|ai @bS<|ai @Cj<|ai @bV<|ai @TR<|ai @HI<|ai @HH<|@IH
def vm3:=ai @II<|ai @CS<|ai @GH<|ai @GG<|ai @CU<|ai @vl<|ai @vo<|ai @vp<|ai @CR<|ai @yA<|ai @CT<|ai @tL<|ai @GF<|ai @yz<|ai @Ay<|ai @Ti<|ai @Oe<|ai @Jm<|ai @Jl<|ai @IT<|ai @Sp<|ai @L4<|ai @VV<|ai @Dm<|ai @Sn<|ai @HL<|ai @DX<|ai @Sq<|ai @HM<|ai @HX<|ai @HY<|ai @Mm<|ai @D7<|@Mt
def vm4:=ai @Mw<|ai @Mr<|ai @H0<|ai @SC<|ai @Mo<|ai @SB<|ai @SA<|ai @Mp<|ai @We<|ai @Wf<|ai @ZU<|ai @Wc<|ai @Wd<|ai @MB<|ai @IF<|ai @SV<|ai @Sy<|ai @HV<|ai @HS<|ai @D4<|ai @IM<|ai @EM<|ai @SY<|ai @Nb<|ai @H3<|ai @D8<|ai @L9<|ai @OV<|ai @Jp<|ai @OU<|ai @Jn<|ai @OS<|ai @Jo<|ai @ED<|ai @Iv<|ai @D5<|ai @AT<|ai @EE<|ai @SL<|ai @MV<|ai @Gi<|ai @Gj<|ai @Ss<|ai @zZ<|@bP
def vmk:=ai @PA<|@PC
def vmc:=ai @true_and<|ai @and_true<|ai @afv<|ai @ae2<|ai @afI<|ai @agQ<|ai @agk<|ai @agR<|ai @agT<|ai @afm<|ai @afn<|ai @List.contains_nil.{0}<|ai @agF<|ai @agP<|ai @agO<|ai @afl<|ai @af3<|ai @decide_true<|ai @beq_self_eq_true.{0}<|ai @List.isEmpty_nil.{0}<|ai @List.isEmpty_cons.{0}<|ai @Option.map_none.{0,0}<|ai @ae4<|ai @List.all_cons.{0}<|ai @List.all_nil.{0}<|ai @Option.isSome_some.{0}<|ai @Bool.and_true<|ai @agm<|ai @agU<|ai @Bool.and_self<|ai @and_self<|ai @afH<|ai @afw<|ai @Nat.zero_mul<|ai @Nat.sub_zero<|ai @aeY<|ai @aeX<|ai @ae5<|ai @agV<|ai @Bool.or_self<|@agW
def vm5:=ai @Gs<|ai @ZS<|ai @HN<|ai @DY<|ai @VH<|ai @Sl<|ai @Mv<|ai @SU<|ai @I8<|ai @NM<|ai @E9<|@NN
def vmu:=ai @zf.eq_1<|ai @zf.eq_2<|ai @ev.eq_1<|ai @ev.eq_2<|ai @ev.eq_4<|ai @oF.eq_1<|ai @oF.eq_2<|ai @oF.eq_3<|ai @oF.eq_4<|ai @eO.eq_1<|ai @eO.eq_2<|ai @DZ.eq_1<|ai @DZ.eq_3<|ai @lL.eq_1<|ai @lL.eq_2<|ai @lL.eq_3<|ai @iB.eq_1<|ai @iB.eq_2<|ai @iB.eq_3<|ai @iB.eq_4<|ai @iB.eq_5<|ai @iB.eq_6<|ai @iB.eq_7<|ai @iB.eq_10<|ai @iB.eq_11<|ai @iB.eq_12<|ai @iB.eq_13<|ai @iB.eq_14<|ai @iB.eq_15<|ai @Vb.eq_1<|ai @Vb.eq_4<|ai @YZ.eq_1<|ai @aW.eq_1<|ai @aW.eq_2<|ai @fE.eq_1<|ai @fE.eq_3<|ai @eM.eq_1<|ai @eM.eq_2<|ai @live.eq_1<|ai @j0.eq_1<|ai @j0.eq_2<|ai @Ds.tw.eq_1<|ai @Ds.tw.eq_3<|ai @dL.eq_1<|ai @dL.eq_2<|ai @dL.eq_4<|ai @dL.eq_5<|ai @iR.eq_1<|ai @iR.eq_2<|ai @iR.eq_4<|ai @iR.eq_5<|ai @iR.eq_6<|ai @qZ.eq_1<|ai @qZ.eq_2<|ai @C5.eq_2<|ai @C5.eq_3<|ai @C5.eq_4<|ai @alive.eq_3<|ai @nm.eq_2<|ai @iK.eq_1<|ai @iK.eq_5<|ai @iK.eq_6<|ai @gL.eq_1<|ai @sk.eq_1<|ai @cy.eq_1<|ai @cy.eq_2<|ai @lu.eq_1<|ai @gJ.eq_3<|ai @gI.eq_1<|ai @jf.eq_1<|ai @jf.eq_2<|ai @fieldAt.eq_1<|ai @ef.eq_1<|ai @sa.eq_1<|ai @jE.eq_1<|ai @content.eq_1<|ai @content.eq_2<|ai @putCells.eq_1<|ai @Z1.eq_1<|ai @Z1.eq_2<|ai @zp.eq_1<|ai @zp.eq_2<|ai @bz.eq_1<|ai @bz.eq_3<|ai @bz.eq_4<|ai @rp.eq_1<|ai @yE.eq_2<|ai @yE.eq_3<|@yE.eq_4
def adD:=ai @HU<|ai @HT<|ai @SQ<|ai @NI<|ai @I4<|ai @SR<|ai @NJ<|@I5
section
variable {T:Nat->Option Ty} {Γ:Env} {N F e:Nat} {Q Q':Kt} {t:Nat->D} {h:Nat->Option Row}
def ja (hm:∀x t h e,Q x t h e->Q' x t h e):∀(ws:List W) (x:Ex) (t:Nat->D) (h:Nat->Option Row) (e:Nat),dB T Γ N F ws Q x t h e->dB T Γ N F ws Q' x t h e
 | [],x,t,h,e,hk=>hm _ _ _ _ hk
 | .code c::ws,x,t,h,e,hk=>by
  unfold dB at hk ⊢;cases x with
  | normal=>exact Vk c t h e _ _ hk (fun x t h e b=>ja hm ws x t h e b)
  | exit n=>exact ja hm ws _ t h e hk
  | ret=>exact ja hm ws _ t h e hk
 | .blk id::ws,x,t,h,e,hk=>by
  unfold dB VW at hk ⊢;cases x with
  | normal=>exact ja hm ws _ t h e hk
  | exit n =>
   simp only at hk ⊢;split at hk
   ·rename_i a;rw[if_pos a];exact ja hm ws _ t h e hk
   ·rename_i a;rw[if_neg a];exact ja hm ws _ t h e hk
  | ret=>exact ja hm ws _ t h e hk
def rE:∀(ws:List W) (k:Nat),dB T Γ N F ws Q=dB T Γ N F (ws.take k) (dB T Γ N F (ws.drop k) Q)
 | ws,0=>by simp[dB]
 | [],k+1=>by simp[dB]
 | .code c::ws,k+1=>by
  rw[agR,agQ];funext x t h e;unfold dB;rw[rE ws k]
 | .blk id::ws,k+1=>by
  rw[agR,agQ];funext x t h e;unfold dB;rw[rE ws k]
variable {σ:Type} {ops l:List Oper} {ws:List W} {dst:Option Nat} {fs:List kU} {d:D} {g:Nat}
def u9 {J:σ->(Nat->D)->(Nat->Option Row)->Nat->Prop} {P:σ->Prop} {R:Kt} (a:∀s t h e,J s t h e->P s->R .normal t h e):∀x t h e,CK J P R x t h e->R x t h e:=by
 intro x t h e b;cases x with
 | normal=>obtain⟨s,c,d⟩:=b;exact a s t h e d c
 | exit n=>exact b
 | ret=>exact b
def xP (a:∀x t h e,Q x t h e->Q' x t h e) (b:lh T Γ N F ops l ws Q t h e):lh T Γ N F ops l ws Q' t h e:=xR (fun t h c=>ja a ws _ _ _ _ c) _ _ _ b
def xQ (b:∀x t h e,Q x t h e->Q' x t h e) (c:lZ T Γ N F ops l ws Q t h e fs):lZ T Γ N F ops l ws Q' t h e fs:=xO (fun t h fs a=>⟨a.1,ja b ws _ _ _ _ a.2⟩) _ _ _ _ c
def uZ (k:Nat):lh T Γ N F ops l ws Q t h e=lh T Γ N F ops l (ws.take k) (dB T Γ N F (ws.drop k) Q) t h e:=by unfold lh;rw[rE ws k]
def u3 (k:Nat):lZ T Γ N F ops l ws Q t h e fs=lZ T Γ N F ops l (ws.take k) (dB T Γ N F (ws.drop k) Q) t h e fs:=by unfold lZ;rw[rE ws k]
def Ie (k:Nat) {o:Oper} : rN T Γ N F o ops l ws Q t h e=rN T Γ N F o ops l (ws.take k) (dB T Γ N F (ws.drop k) Q) t h e:=by
 unfold rN;congr 1;funext t E;rw[uZ k]
def Ik (k:Nat) {o:Oper} : vt T Γ N F o ops l ws Q t h e fs=vt T Γ N F o ops l (ws.take k) (dB T Γ N F (ws.drop k) Q) t h e fs:=by
 unfold vt;congr 1;funext t E;rw[u3 k]
def MF {o:Oper} (a:∀x t h e,Q x t h e->Q' x t h e) (b:rN T Γ N F o ops l ws Q t h e):rN T Γ N F o ops l ws Q' t h e:=AB b fun _ _ c=>xP a c
def ML {o:Oper} (a:∀x t h e,Q x t h e->Q' x t h e) (b:vt T Γ N F o ops l ws Q t h e fs):vt T Γ N F o ops l ws Q' t h e fs:=AB b fun _ _ c=>xQ a c
variable (k:Nat) (J:σ->(Nat->D)->(Nat->Option Row)->Nat->Prop) (P:σ->Prop)
def lA {x y:Code} (a:∀s t h e,J s t h e->P s->dB T Γ N F (ws.drop k) Q .normal t h e) (f:Lx T Γ N F d g x y (ws.take k) (CK J P (dB T Γ N F (ws.drop k) Q)) t h e):Lx T Γ N F d g x y ws Q t h e:=by
 unfold Lx at f ⊢;have i:∀c:Code,dB T Γ N F (.code c::ws) Q=dB T Γ N F (.code c::ws.take k) (dB T Γ N F (ws.drop k) Q):=fun c=>rE (.code c::ws) (k+1);rw[i,i];exact Az f (fun _ b=>ja (u9 a) _ _ _ _ _ b) (fun _ b=>ja (u9 a) _ _ _ _ _ b)
def bq {b:Bool} {o:Oper} (a:∀s t h e,J s t h e->P s->dB T Γ N F (ws.drop k) Q .normal t h e) (f:yf T Γ N F d g b o ops l (ws.take k) (CK J P (dB T Γ N F (ws.drop k) Q)) t h e):yf T Γ N F d g b o ops l ws Q t h e:=by
 unfold yf at f ⊢;refine GV f (fun t c =>?_) (fun t c =>?_) (fun t c =>?_)
 ·cases b
  ·simp only[afv,if_false]at c ⊢;rw[uZ k];exact xP (u9 a) c
  ·simp only[if_true]at c ⊢;rw[Ie k];exact MF (u9 a) c
 ·cases b
  ·simp only[afv,if_false]at c ⊢;rw[Ie k];exact MF (u9 a) c
  ·simp only[if_true]at c ⊢;rw[uZ k];exact xP (u9 a) c
 ·rw[uZ k];exact xP (u9 a) c
def PB {b:Bool} {o:Oper} (a:∀s t h e,J s t h e->P s->dB T Γ N F (ws.drop k) Q .normal t h e) (f:yg T Γ N F d g b o ops l (ws.take k) (CK J P (dB T Γ N F (ws.drop k) Q)) t h e fs):yg T Γ N F d g b o ops l ws Q t h e fs:=by
 unfold yg at f ⊢;refine GV f (fun t c =>?_) (fun t c =>?_) (fun t c =>?_)
 ·cases b
  ·simp only[afv,if_false]at c ⊢;rw[u3 k];exact xQ (u9 a) c
  ·simp only[if_true]at c ⊢;rw[Ik k];exact ML (u9 a) c
 ·cases b
  ·simp only[afv,if_false]at c ⊢;rw[Ik k];exact ML (u9 a) c
  ·simp only[if_true]at c ⊢;rw[u3 k];exact xQ (u9 a) c
 ·rw[u3 k];exact xQ (u9 a) c
end
def YT {α β γ:Type} (a:Nat) (E:jS γ) (A:jR α) (F:List γ->α->Option (List γ×β)) (R:β->RK):Option (D×Row)->List D->Option (RK×Option Row):=fun lent b =>
 match lent with
 | some (.buf 0 0 s o n,⟨0,ty',cells,false,true,false⟩)=>open Classical in
  if h:ty'=a∧s=E.size∧∃p:List D×List γ×List D×α,cells=p.1++(ae E p.2.1++p.2.2.1)∧o=p.1.length∧n=p.2.1.length∧b=A.ds p.2.2.2 then
   (F (Classical.choose h.2.2).2.1 (Classical.choose h.2.2).2.2.2).map fun r=>(R r.2,some ⟨0,a,(Classical.choose h.2.2).1++(ae E r.1++(Classical.choose h.2.2).2.2.1),false,true,false⟩)
  else none
 | _=>none
def TT {γ:Type} {E:jS γ} {p a q c:List D} {l b:List γ} (h:p++(ae E l++q)=a++(ae E b++c)) (d:p.length=a.length) (e:l.length=b.length):p=a∧l=b∧q=c:=by
 obtain⟨f,g⟩:=List.append_inj h d;obtain⟨i,j⟩:=List.append_inj g (by rw[cc,cc,e]);exact⟨f,vZ E _ _ i,j⟩
def Xe {α β γ:Type} (b:Nat) (E:jS γ) (A:jR α) (F:List γ->α->Option (List γ×β)) (R:β->RK) (pre post:List D) (l:List γ) (a:α) :
  YT b E A F R (some (.buf 0 0 E.size pre.length l.length,⟨0,b,pre++(ae E l++post),false,true,false⟩)) (A.ds a)=(F l a).map fun r=>(R r.2,some ⟨0,b,pre++(ae E r.1++post),false,true,false⟩):=by
 have h:b=b∧E.size=E.size∧∃p:List D×List γ×List D×α,pre++(ae E l++post)=p.1++(ae E p.2.1++p.2.2.1)∧pre.length=p.1.length∧l.length=p.2.1.length∧A.ds a=A.ds p.2.2.2:=⟨rfl,rfl,(pre,l,post,a),rfl,rfl,rfl,rfl⟩;simp only[YT];rw[dif_pos h];obtain⟨c,d,e,f⟩:=Classical.choose_spec h.2.2;obtain⟨g,i,j⟩:=TT c d e;rw[<- A.inj _ _ f,<- g,<- i,<- j]
def N8 {α β γ:Type} {d:Nat} {E:jS γ} {A:jR α} {F:List γ->α->Option (List γ×β)} {R:β->RK} {lent:Option (D×Row)} {f:List D} {g:RK} {b:Option Row} (h:YT d E A F R lent f=some (g,b)) :
  ∃pre l post a c r,lent=some (.buf 0 0 E.size pre.length l.length,⟨0,d,pre++(ae E l++post),false,true,false⟩)∧f=A.ds a∧F l a=some (c,r)∧g=R r∧b=some ⟨0,d,pre++(ae E c++post),false,true,false⟩:=by
 unfold YT at h;split at h
 ·split at h
  ·rename_i e;obtain⟨rfl,rfl,e⟩:=e;rw[aeV]at h;obtain⟨⟨c,r⟩,j,i⟩:=h;simp only[Prod.mk.injEq]at i;obtain⟨rfl,rfl⟩:=i;obtain⟨k,m,n,o⟩:=Classical.choose_spec e;refine⟨_,_,_,_,c,r,?_,o,j,rfl,rfl⟩;rw[<- k,<- m,<- n]
  ·cases h
 ·cases h
def bK.ack {P:Program} {T:Nat->Option Ty} {Γ:Env} (j:iI P T) (k:bG P Γ) (m:P.follows .mixedOrders=true) {α β γ:Type} {e:Nat} {E:jS γ} {A:jR α} {F:List γ->α->Option (List γ×β)} {R:β->RK} {mode:Mode} {f:FuncId} {b:Func} (i:P.funcs[f]? = some b) (g:(match b.body with|some c=>codeOk c|none=>true)=true)
  (n:(b.name == "runtime.NumGoroutine")=false∧b.body.isNone=false) (o:∀a,(A.ds a).length+1<=b.ntmps)
  (h:∀pre post l a d r,F l a=some (d,r)->kT mode T Γ FU b (some (.buf 0 0 E.size pre.length l.length,⟨0,e,pre++(ae E l++post),false,true,false⟩)) (A.ds a)=some (R r,some ⟨0,e,pre++(ae E d++post),false,true,false⟩)):bK P f (YT e E A F R) where
 calls lent aeS rk out p:=by
  obtain⟨pre,l,post,a,d,r,rfl,rfl,q,rfl,rfl⟩:=N8 p;exact ki j k m i g (o a) rfl (h pre post l a d r q)
 callable:=⟨b,i,n⟩
def mkE {α γ:Type} (a:Nat) (E:jS γ) (A:jR α) (F:List γ->α->Option (List γ)):Option (D×Row)->List D->Option (RK×Option Row):=fun lent b =>
 match lent with
 | some (.buf 0 0 s o n,⟨0,ty',cells,false,true,false⟩)=>open Classical in
  if h:ty'=a∧s=E.size∧∃p:List D×List γ×List D×α,cells=p.1++(ae E p.2.1++p.2.2.1)∧o=p.1.length∧n=p.2.1.length∧b=A.ds p.2.2.2 then
   (F (Classical.choose h.2.2).2.1 (Classical.choose h.2.2).2.2.2).map fun r=>(.fresh a E.size r.length (ae E r),none)
  else none
 | _=>none
def aa8 {α γ:Type} (b:Nat) (E:jS γ) (A:jR α) (F:List γ->α->Option (List γ)) (pre post:List D) (l:List γ) (a:α) :
  mkE b E A F (some (.buf 0 0 E.size pre.length l.length,⟨0,b,pre++(ae E l++post),false,true,false⟩)) (A.ds a)=(F l a).map fun r=>(.fresh b E.size r.length (ae E r),none):=by
 have h:b=b∧E.size=E.size∧∃p:List D×List γ×List D×α,pre++(ae E l++post)=p.1++(ae E p.2.1++p.2.2.1)∧pre.length=p.1.length∧l.length=p.2.1.length∧A.ds a=A.ds p.2.2.2:=⟨rfl,rfl,(pre,l,post,a),rfl,rfl,rfl,rfl⟩;simp only[mkE];rw[dif_pos h];obtain⟨c,d,e,f⟩:=Classical.choose_spec h.2.2;obtain⟨i,g,j⟩:=TT c d e;rw[<- A.inj _ _ f,<- g]
def Xb {α γ:Type} {d:Nat} {E:jS γ} {A:jR α} {F:List γ->α->Option (List γ)} {lent:Option (D×Row)} {e:List D} {f:RK} {c:Option Row} (h:mkE d E A F lent e=some (f,c)) :
  ∃pre l post a r,lent=some (.buf 0 0 E.size pre.length l.length,⟨0,d,pre++(ae E l++post),false,true,false⟩)∧e=A.ds a∧F l a=some r∧f=.fresh d E.size r.length (ae E r)∧c=none:=by
 unfold mkE at h;split at h
 ·split at h
  ·rename_i b;obtain⟨rfl,rfl,b⟩:=b;rw[aeV]at h;obtain⟨r,i,g⟩:=h;simp only[Prod.mk.injEq]at g;obtain⟨rfl,rfl⟩:=g;obtain⟨j,k,m,n⟩:=Classical.choose_spec b;refine⟨(Classical.choose b).1,(Classical.choose b).2.1,(Classical.choose b).2.2.1,(Classical.choose b).2.2.2,r,?_,n,i,rfl,rfl⟩;rw[<- j,<- k,<- m]
  ·cases h
 ·cases h
def bK.acj {P:Program} {T:Nat->Option Ty} {Γ:Env} (i:iI P T) (j:bG P Γ) (k:P.follows .mixedOrders=true) {α γ:Type} {d:Nat} {E:jS γ} {A:jR α} {F:List γ->α->Option (List γ)} {f:FuncId} {b:Func} (g:P.funcs[f]? = some b) (e:(match b.body with|some c=>codeOk c|none=>true)=true)
  (m:(b.name == "runtime.NumGoroutine")=false∧b.body.isNone=false) (n:∀a,(A.ds a).length+1<=b.ntmps)
  (h:∀pre post l a r,F l a=some r->kT (.fresh d E.size) T Γ FU b (some (.buf 0 0 E.size pre.length l.length,⟨0,d,pre++(ae E l++post),false,true,false⟩)) (A.ds a)=some (.fresh d E.size r.length (ae E r),none)):bK P f (mkE d E A F) where
 calls lent aeS rk out o:=by
  obtain⟨pre,l,post,a,r,rfl,rfl,p,rfl,rfl⟩:=Xb o;exact ki i j k g e (n a) rfl (h pre post l a r p)
 callable:=⟨b,g,m⟩
def bK.zero {P:Program} {f:FuncId} {b:Func} (d:P.funcs[f]? = some b) (e:(b.name == "runtime.NumGoroutine")=false∧b.body.isNone=false) {α β:Type} {A:jR α} {F:α->Option β} {R:β->RK} (g:∀a,F a=none):bK P f (di A F R) where
 calls lent aeS rk out h:=by
  obtain⟨rfl,rfl,a,r,rfl,c,rfl⟩:=tA h;rw[g]at c;cases c
 callable:=⟨b,d,e⟩
section
variable {h:Nat->Option Row} {Γ:Env} {g e x v d:Nat} {dst:Option Nat} {fr:List Nat} {aeS rest:List D} {d0:D} {T:Nat->Option Ty} {rs:List ResultVar}
def Mc (h:Nat->Option Row) (e:Nat) (dst:Option Nat) (x v:Nat) (fr:List Nat):Option (RK×Option Row)->Option cd
 | some (.clean c,some a)=>some ⟨c,jw h fr++[(x,some { a with v:=v })]⟩
 | some (.same s o n,some a)=>some ⟨.buf x v s o n,jw h fr++[(x,some { a with v:=v })]⟩
 | some (.fresh b s n cells,none) =>
  match dst with
  | some d=>if fr.contains d=false then some ⟨.buf d e s 0 n,jw h fr++[(x,none),(d,some ⟨e,b,cells,false,true,false⟩)]⟩ else none
  | none=>none
 | _=>none
def V0 (Γ:Env) (h:Nat->Option Row) (e:Nat) (dst:Option Nat) (g x v:Nat) (d0:D) (r:Row):Option (List D×List Nat)->Option cd
 | some (aeS,fr)=>if fr.contains x=false then Mc h e dst x v fr (Γ.sem g (some (d0,r)) aeS) else none
 | none=>none
def Mb (Γ:Env) (h:Nat->Option Row) (e:Nat) (dst:Option Nat) (g x v:Nat) (d0:D) (rest:List D):Option Row->Option cd
 | some r=>if r.fz=false then V0 Γ h e dst g x v d0 { r with v:=0 } (bX h rest) else none
 | none=>none
def Md {s o n:Nat} : CX true Γ h e dst g (.buf x v s o n::rest)=Mb Γ h e dst g x v (.buf 0 0 s o n) rest (live h x v):=by
 simp only[CX,if_true,qM,Ae];cases live h x v with
 | none=>rfl
 | some r =>
  simp only[Mb];cases bX h rest with
  | none=>rfl
  | some p=>rfl
def lvR (v:Nat):Option Row->Option Row
 | some r=>if r.v=v∧r.mp=true∧uK r=true then some r else none
 | none=>none
def N0 {v b:Nat} {d:List dp} {e:List D} {f a:Bool} (c:b<900000):lvR v (some ⟨v,b,[.mpc d e],f,a,true⟩)=some ⟨v,b,[.mpc d e],f,a,true⟩:=by simp[lvR,uK,c]
def Sw:CX true Γ h e dst g (.mp x v::rest)=Mb Γ h e dst g x v (.mp 0 0) rest (lvR v (h x)):=by
 simp only[CX,if_true,qM,Ae];have:zd h x v=lvR v (h x):=by unfold zd lvR;cases h x<;>rfl
 rw[this];cases lvR v (h x) with
 | none=>rfl
 | some r =>
  simp only[Mb];cases bX h rest with
  | none=>rfl
  | some p=>rfl
def zH {c:D} {f b:Nat} {cells:List D} {d a:Bool} : Mc h e dst x v fr (some (.clean c,some ⟨f,b,cells,d,a,true⟩))=some ⟨c,jw h fr++[(x,some ⟨v,b,cells,d,a,true⟩)]⟩:=ahM
def D2 {r:Row} : Mb Γ h e dst g x v d0 rest (some r)=if r.fz=false then V0 Γ h e dst g x v d0 { r with v:=0 } (bX h rest) else none:=ahM
def D3 {r:Row} : V0 Γ h e dst g x v d0 r (some (aeS,fr))=if fr.contains x=false then Mc h e dst x v fr (Γ.sem g (some (d0,r)) aeS) else none:=ahM
def BY {c:D} {f b:Nat} {cells:List D} {d a:Bool} : Mc h e dst x v fr (some (.clean c,some ⟨f,b,cells,d,a,false⟩))=some ⟨c,jw h fr++[(x,some ⟨v,b,cells,d,a,false⟩)]⟩:=ahM
def BZ {s n a:Nat} {cells:List D} : Mc h e (some d) x v fr (some (.fresh a s n cells,none))=if fr.contains d=false then some ⟨.buf d e s 0 n,jw h fr++[(x,none),(d,some ⟨e,a,cells,false,true,false⟩)]⟩ else none:=ahM
def Ci {a b i:Nat} {t:Nat->D} {l:D×Row} : eB (.fresh a b) T (some l) [.tmp i] ⟨t,h,e⟩=qu a b h (t i):=ahM
def aca (y v s o:Nat):Option Row->Option Ty->Option (Nat×Nat)->Option cd
 | some _,some φ,some (l,k)=>if φ.size=s∧0<s then some ⟨.buf y v s (o+l*s) (k-l),[]⟩ else none
 | _,_,_=>none
def IA {y v s o l k:Nat} {r:Row} {φ:Ty} : aca y v s o (some r) (some φ) (some (l,k))=if φ.size=s∧0<s then some ⟨.buf y v s (o+l*s) (k-l),[]⟩ else none:=ahM
def SP {el b c y v s o n:Nat} {z:List Value} {q:Bool} {a d:Option D} : gJ T ⟨.slice el,b,c,z,q⟩ h (.buf y v s o n) a d none=aca y v s o (live h y v) (T el) (yE n a d):=by
 simp only[gJ];cases live h y v with
 | none=>rfl
 | some r =>
  simp only;cases T el with
  | none=>rfl
  | some φ =>
   cases yE n a d with
   | none=>rfl
   | some p=>rfl
def aaS (a:Nat):Option (List D×List Nat)->Option Row->Option (RK×Option Row)
 | some (b,fr),some r=>if r.v=0∧r.fz=false∧r.ty=a∧r.mp=false∧fr.contains 0=false then some (.clean (nk b),some r) else none
 | _,_=>none
def Iw {a:Nat} {b:List D} {r:Row} : aaS a (some (b,fr)) (some r)=if r.v=0∧r.fz=false∧r.ty=a∧r.mp=false∧fr.contains 0=false then some (.clean (nk b),some r) else none:=ahM
def Ix {t:Nat->D} {b v:Nat} {cells:List D} {d c:Bool} : eB .clean T (some (d0,⟨v,b,cells,d,c,false⟩)) rs ⟨t,h,e⟩=aaS b (vw T ⟨t,h,e⟩ rs) (h 0):=by
 simp only[eB,qY,lM,Xn,aaS];cases vw T ⟨t,h,e⟩ rs with
 | none=>rfl
 | some p =>
  obtain⟨f,fr⟩:=p;cases h 0 with
  | none=>rfl
  | some r =>
   simp only
   by_cases h1:r.v=0∧r.fz=false∧r.ty=b∧r.mp=false
   ·rw[if_pos ⟨h1.1,h1.2.1,h1.2.2.1,h1.2.2.2,Fk h1.2.2.2⟩];simp only[afy]
    by_cases h2:fr.contains 0=false
    ·rw[if_pos h2,if_pos ⟨h1.1,h1.2.1,h1.2.2.1,h1.2.2.2,h2⟩]
    ·rw[if_neg h2,if_neg (fun a=>h2 a.2.2.2.2)]
   ·rw[if_neg (fun a=>h1 ⟨a.1,a.2.1,a.2.2.1,a.2.2.2.1⟩),if_neg (fun a=>h1 ⟨a.1,a.2.1,a.2.2.1,a.2.2.2.1⟩)]
def SN (a:Nat):Option (List D×List Nat)->Option Row->Option (RK×Option Row)
 | some (b,fr),some r=>if r.v=0∧r.fz=false∧r.ty=a∧(r.mp=true∧uK r=true)∧fr.contains 0=false then some (.clean (nk b),some r) else none
 | _,_=>none
def EC {b:Nat} {d:List D} {e:List dp} {f:List D} {a:Bool} (c:b<900000):SN b (some (d,fr)) (some ⟨0,b,[.mpc e f],false,a,true⟩)=if fr.contains 0=false then some (.clean (nk d),some ⟨0,b,[.mpc e f],false,a,true⟩) else none:=by
 simp[SN,uK,c]
def EF {t:Nat->D} {b v:Nat} {cells:List D} {d c:Bool} : eB .clean T (some (d0,⟨v,b,cells,d,c,true⟩)) rs ⟨t,h,e⟩=SN b (vw T ⟨t,h,e⟩ rs) (h 0):=by
 simp only[eB,qY,lM,Xn,SN];cases vw T ⟨t,h,e⟩ rs with
 | none=>rfl
 | some p =>
  obtain⟨f,fr⟩:=p;cases h 0 with
  | none=>rfl
  | some r =>
   simp only
   by_cases h1:r.v=0∧r.fz=false∧r.ty=b∧(r.mp=true∧uK r=true)
   ·rw[if_pos h1];simp only[afy]
    by_cases h2:fr.contains 0=false
    ·rw[if_pos h2,if_pos ⟨h1.1,h1.2.1,h1.2.2.1,h1.2.2.2,h2⟩]
    ·rw[if_neg h2,if_neg (fun a=>h2 a.2.2.2.2)]
   ·rw[if_neg h1,if_neg (fun a=>h1 ⟨a.1,a.2.1,a.2.2.1,a.2.2.2.1⟩)]
end
section
variable {α:Type} (E:jS α) {l m u x:List α} {y y':α} {i a b:Int} {pre post:List D}
def ZD (h:Df l a b=some x):ae E (l.take a.toNat)++(ae E x++ae E (l.drop b.toNat))=ae E l:=by
 unfold Df at h;split at h
 ·rename_i c;cases h;rw[<- jX,<- jX];congr 1;have e:l.drop b.toNat=(l.drop a.toNat).drop (b.toNat-a.toNat):=by rw[agK];congr 1;omega
  rw[e,agL,agL]
 ·cases h
def ZE (h:Df l a b=some x):(ae E (l.take a.toNat)).length=a.toNat*E.size:=by
 unfold Df at h;split at h
 ·rw[cc,aff,agX (by omega)]
 ·cases h
def aax (h:Df l a b=some x):x.length=b.toNat-a.toNat:=by
 unfold Df at h;split at h
 ·cases h;simp;omega
 ·cases h
def ZC:ae E (l.take i.toNat)++(ae E u++ae E (l.drop b.toNat))=ae E (l.take i.toNat++(u++l.drop b.toNat)):=by rw[jX,jX]
def WT (h:P.idx l i=some y):(pre++(ae E l++post)).drop (pre.length+i.toNat*E.size)=E.cells y++(ae E (l.drop (i.toNat+1))++post):=by
 rw[<- agK,List.drop_left,age (by rw[cc];have:=uJ E h;omega),Dq E h,agd]
def WU (h:P.idx l i=some y):pre.length+i.toNat*E.size+E.size<=(pre++(ae E l++post)).length:=by
 have:=uJ E h;rw[af6,af6,cc];omega
def NG (h:P.idx l i=some y):(0<=i∧i<l.length)∧(pre++(ae E l++post)).drop (pre.length+i.toNat*E.size)=E.cells y++(ae E (l.drop (i.toNat+1))++post)∧pre.length+i.toNat*E.size+E.size<=(pre++(ae E l++post)).length:=⟨KI h,WT E h,WU E h⟩
def OO (h:P.idx l i=some y):putCells (pre++(ae E l++post)) (pre.length+i.toNat*E.size) (E.cells y')=pre++(ae E (l.set i.toNat y')++post):=by
 have a:=Xy E (x':=y') h;have d:=uJ E h;have e:=cc E l;unfold putCells at a ⊢;rw[<- a,E.len];have b:(pre++(ae E l++post)).take (pre.length+i.toNat*E.size)=pre++(ae E l).take (i.toNat*E.size):=by
  rw[agh,agj (by omega),agf,agi (by omega)]
 have c:(pre++(ae E l++post)).drop (pre.length+i.toNat*E.size+E.size)=(ae E l).drop (i.toNat*E.size+E.size)++post:=by
  rw[afh,agH,agI (by omega),agf,agF,age (by omega)]
 rw[b,c];simp only[agd]
def Ya (h:Df l a b=some x) (c:u.length=x.length):(l.take a.toNat++(u++l.drop b.toNat)).length=l.length:=by
 have d:=aax h;unfold Df at h;split at h
 ·simp only[af6,aff,afg];omega
 ·cases h
def Zr (h:Df l 0 b=some x):pre.length+x.length*E.size<=(pre++(ae E l++post)).length∧((pre++(ae E l++post)).drop pre.length).take (x.length*E.size)=ae E x:=by
 obtain⟨d,e,a,f,c⟩:=Lg E h;have:=afF E.size a;refine⟨by rw[af6,af6,cc];omega,?_⟩;rw[List.drop_left,agi (by rw[cc];exact this),c]
end
section
variable {h:Nat->Option Row} {Γ:Env} {e:Nat} {dst:Option Nat}
def caP:Option (D×List Nat)->Option (List D×List Nat)->Option (List D×List Nat)
 | some (d,fr),some (ds,a)=>some (d::ds,fr++a)
 | _,_=>none
def Ma {d:D} {b:List D} {fr a:List Nat} : caP (some (d,fr)) (some (b,a))=some (d::b,fr++a):=ahM
def Mn:dA h []=some ([],[]):=ahM
def HZ {d:D} {a:List D} : dA h (d::a)=caP (bH h d) (dA h a):=by
 simp only[dA];cases bH h d with
 | none=>rfl
 | some x=>cases dA h a<;>rfl
def clC (f k:Nat):Option (List D×List Nat)->Option (D×List Nat)
 | some (a,fr)=>some (.clo f k a,fr)
 | none=>none
def Mu {f k:Nat} {a:List D} {fr:List Nat} : clC f k (some (a,fr))=some (.clo f k a,fr):=ahM
def Mq {f k:Nat} {a:List D} : cG h (.clo f k a)=clC f k (dA h a):=by
 simp only[cG]<;>cases dA h a<;>rfl
def Mk {g k:Nat} {a b:List D} : iJ Γ h e dst (.clo g k a) b=if a.all sh then CX false Γ h e dst g (a.take k++(b++a.drop k)) else none:=by
 simp only[iJ,CX,afv,if_false]
end
def Gh:nk []=.tup []:=ahM
def aFn (f:Nat):Arg Unit:=⟨fun _ =>.fn f,fun _ _ _=>rfl⟩
def ZP {f:Nat} {x:Unit} : (aFn f).d x=.fn f:=ahM
def J4 {α:Type} (f k:Nat) (a:jR α):Arg α:=⟨fun x =>.clo f k (a.ds x),fun x y h=>a.inj _ _ (by simpa using h)⟩
def VG {α:Type} {f k:Nat} {a:jR α} {x:α} : (J4 f k a).d x=.clo f k (a.ds x):=ahM
def vm7:=ai @Ma<|ai @Mn<|ai @HZ<|ai @Mu<|ai @Mq<|ai @Mk<|ai @Gh<|ai @zQ<|@Dm
def vm6:=ai @OX<|ai @afY<|ai @SP<|ai @IA<|ai @BZ<|ai @Ci<|ai @Md<|ai @Sw<|ai @N0<|ai @zH<|ai @EC<|ai @EF<|ai @D2<|ai @D3<|ai @BY<|ai @Iw<|@Ix
section
variable {T:Nat->Option Ty} {h:Nat->Option Row} {τ:Ty} {q:Nat->Bool}
def W4 {x v o:Nat} : qS τ h (.ptr x v o)=sN τ h x v o (live h x v):=ahM
def Z6 {a:List D} : qS τ h (.ip a)=eM τ h (.ip a):=ahM
def Z4 {x v o a b:Nat} {c:List D} {d:Bool} : sN τ h x v o (some ⟨a,b,c,d,true,false⟩)=eM τ h (.ptr x v o):=by
 simp only[sN,agl,Bool.and_false,afv,if_false]
def Z5 {x v o b d:Nat} {c:List D} {a:Bool} : sN τ h x v o (some ⟨b,d,c,false,a,false⟩)=eM τ h (.ptr x v o):=by
 simp only[sN,agU,afv,if_false]
def TL {p:D} {k:IntKind} {n:Int} : gK τ h p (.int k n)=gL τ h p (.int k n):=ahM
def TK {p:D} {x v s o n:Nat} : gK τ h p (.buf x v s o n)=gL τ h p (.buf x v s o n):=ahM
def TJ {p:D} {a:List D} : gK τ h p (.agg a)=gL τ h p (.agg a):=ahM
def ab4 (b:Bool) (T:Nat->Option Ty) (τ:Ty) (h:Nat->Option Row) (a:List (Nat×D)):Option cd :=
 if b then gI T τ h a else
  match τ.ds,a with
  | .struct fs,[(0,.buf x v s o n)]=>if (alive h (.buf x v s o n))∧(fs.all fun f=>(T f.1).isSome)∧fieldAt T fs 0=some (0,1)∧τ.zero.length=1 then some ⟨.box1 x v s o n,[]⟩ else none
  | .struct fs,[(0,.box1 x v s o n)]=>if (alive h (.buf x v s o n))∧(fs.all fun f=>(T f.1).isSome)∧fieldAt T fs 0=some (0,1)∧τ.zero.length=1 then some ⟨.box1 x v s o n,[]⟩ else none
  | _,_=>cE (gI T τ h a)
def Su {d:Nat} {a:List (Nat×D)} : qP q T τ h (some d) a=ab4 (q d) T τ h a:=ahM
def HP {a:List (Nat×D)} : ab4 true T τ h a=gI T τ h a:=ahM
def HG {x v s o n:Nat} : alive h (.buf x v s o n)=(oS h x v).isSome:=ahM
end
def vm8:=ai @W4<|ai @Z6<|ai @Z4<|ai @Z5<|ai @TL<|ai @TK<|ai @TJ<|ai @Su<|ai @HP<|@HG
def adE:=ai @Vu<|ai @ZG<|ai @JB<|ai @TB<|ai @XJ<|ai @Od<|ai @Oc<|ai @aar<|ai @IL<|ai @IK<|ai @M8<|ai @Ja<|ai @Fx<|ai @Of<|ai @Tr<|ai @Tx<|ai @NW<|ai @W8<|ai @S7<|ai @IS<|ai @S6<|ai @NS<|ai @TG<|ai @JJ<|ai @JK<|ai @JI<|ai @Pn<|ai @JO<|ai @OH<|ai @OG<|ai @S5<|ai @W1<|ai @W2<|ai @IQ<|ai @TD<|ai @XR<|ai @XS<|ai @Pq<|ai @Pp<|ai @JY<|ai @JZ<|ai @GX<|ai @TX<|ai @TW<|ai @PL<|ai @TP<|ai @X5<|ai @Tm<|@Xo
def adF:=ai @SS<|ai @NL<|ai @I7<|ai @Oi<|ai @FA<|ai @Ol<|ai @Oj<|ai @Jc<|ai @Oh<|ai @Og<|ai @JF<|ai @JM<|ai @JE<|ai @JL<|ai @TE<|ai @TH<|ai @JG<|ai @JN<|ai @I0<|ai @I1<|ai @LZ<|ai @L0<|ai @Pk<|ai @JH<|ai @Pm<|ai @HK<|ai @HJ<|@oS.eq_1
def adG:=ai @WE<|ai @S2<|ai @Tj<|ai @I6<|ai @I9<|ai @My<|ai @WB<|ai @SJ<|ai @WA<|ai @SI<|ai @MT<|ai @Ph<|@JD
def v:=ai @vmc<|ai @vmk<|ai @vm1<|ai @vm2<|ai @vm3<|ai @vm4<|ai @vm5<|ai @vm6<|ai @vm7<|ai @vm8<|ai @adD<|ai @adE<|ai @adF<|ai @adG<|ai @vmu<|ai @Option.toList_some.{0}<|@Option.toList_none.{0}
class AF (κ:Type) where
 k:κ->dp
 inj:∀x y,k x=k y->x=y
instance:AF Int:=⟨fun n=>(n,none),fun x y h=>by simpa using h⟩
instance:AF (Int×Int):=⟨fun p=>(p.1,some p.2),fun x y h=>by
 obtain⟨a,b⟩:=x;obtain⟨c,d⟩:=y;simpa using h⟩
def eu {κ α:Type} [AF κ]:List (κ×α)->List dp
 | []=>[]
 | (k,_)::m=>AF.k k::eu m
def gh {κ α:Type} (A:Arg α):List (κ×α)->List D
 | []=>[]
 | (_,v)::m=>A.d v::gh A m
section
variable {κ α:Type} [AF κ] {A:Arg α}
def NP (k n:κ):AF.k k=AF.k n↔k=n:=⟨AF.inj _ _,fun h=>by rw[h]⟩
def N4 [DecidableEq κ] (n:κ):∀m:List (κ×α),(eu m).contains (AF.k n)=mK m n
 | []=>rfl
 | (k,v)::m=>by
  have:=N4 n m;simp only[eu,afY,mK,this];congr 1
  by_cases h:k=n
  ·subst h;rw[beq_self_eq_true,beq_self_eq_true]
  ·rw[beq_eq_false_iff_ne.2 h,beq_eq_false_iff_ne.2 (fun e=>h (AF.inj _ _ e.symm))]
def N5:∀m:List (κ×α),(eu m).length=m.length
 | []=>rfl
 | (k,v)::m=>by simp[eu,N5 m]
def IW [DecidableEq κ] (z:α) (n:κ):∀m:List (κ×α),se (A.d z) (eu m) (gh A m) (AF.k n)=A.d (fm z m n)
 | []=>rfl
 | (k,v)::m=>by
  simp only[eu,gh,se,fm,IW z n m,NP]
  by_cases h:k=n<;>simp[h]
def OL [DecidableEq κ] (n:κ) (v:α):∀m:List (κ×α),zl (eu m) (AF.k n)=eu (rz m n v)
 | []=>rfl
 | (k,x)::m=>by
  have a:=OL n v m;unfold zl at a ⊢;simp only[eu,rz,afY]
  by_cases h:k=n
  ·subst h;simp[eu]
  ·have b:(AF.k n==AF.k k)=false:=by simpa [NP] using Ne.symm h
   rw[b,afZ,if_neg h];simp only[eu];rw[<- a];cases (eu m).contains (AF.k n)<;>rfl
def ON [DecidableEq κ] (n:κ) (v:α):∀m:List (κ×α),Db (eu m) (gh A m) (AF.k n) (A.d v)=gh A (rz m n v)
 | []=>rfl
 | (k,x)::m=>by
  have a:=ON n v m;unfold Db at a ⊢;simp only[eu,gh,rz,afY]
  by_cases h:k=n
  ·subst h;simp[gh,afX]
  ·have b:(AF.k n==AF.k k)=false:=by simpa [NP] using Ne.symm h
   have c:(AF.k k==AF.k n)=false:=by simpa [NP] using h
   rw[b,afZ,if_neg h];simp only[gh,afX,c,cond_false];rw[<- a];cases (eu m).contains (AF.k n)<;>rfl
def map_inj:∀ {m a:List (κ×α)},eu m=eu a->gh A m=gh A a->m=a
 | [],[],_,_=>rfl
 | [],(k,v)::a,h,_=>by simp[eu]at h
 | (k,v)::m,[],h,_=>by simp[eu]at h
 | (k,v)::m,(k',v')::a,h,g=>by
  simp only[eu,afk,NP]at h;simp only[gh,afk]at g;rw[h.1,A.inj _ _ g.1,map_inj h.2 g.2]
end
def IP {α:Type} {a b:Int} {m:List ((Int×Int)×α)} : rm true (a,some b) (eu m)=true:=by
 unfold rm;simp only[afx];refine⟨rfl,?_⟩
 induction m with
 | nil=>rfl
 | cons p m c=>simp only[eu,List.all_cons,afx];exact⟨rfl,c⟩
def mkM {κ ν α β:Type} [AF κ] (a:Nat) (V:Arg ν) (A:jR α) (F:List (κ×ν)->α->Option (List (κ×ν)×β)) (R:β->RK):Option (D×Row)->List D->Option (RK×Option Row):=fun lent b =>
 match lent with
 | some (.mp 0 0,⟨0,ty',[.mpc ks vs],false,true,true⟩)=>open Classical in
  if h:ty'=a∧∃p:List (κ×ν)×α,ks=eu p.1∧vs=gh V p.1∧b=A.ds p.2 then
   (F (Classical.choose h.2).1 (Classical.choose h.2).2).map fun r=>(R r.2,some ⟨0,a,[.mpc (eu r.1) (gh V r.1)],false,true,true⟩)
  else none
 | _=>none
def aa9 {κ ν α β:Type} [AF κ] (b:Nat) (V:Arg ν) (A:jR α) (F:List (κ×ν)->α->Option (List (κ×ν)×β)) (R:β->RK) (l:List (κ×ν)) (a:α) :
  mkM b V A F R (some (.mp 0 0,⟨0,b,[.mpc (eu l) (gh V l)],false,true,true⟩)) (A.ds a)=(F l a).map fun r=>(R r.2,some ⟨0,b,[.mpc (eu r.1) (gh V r.1)],false,true,true⟩):=by
 have h:b=b∧∃p:List (κ×ν)×α,eu l=eu p.1∧gh V l=gh V p.1∧A.ds a=A.ds p.2:=⟨rfl,(l,a),rfl,rfl,rfl⟩;simp only[mkM];rw[dif_pos h];obtain⟨c,d,e⟩:=Classical.choose_spec h.2;rw[<- A.inj _ _ e,<- map_inj c d]
def Xd {κ ν α β:Type} [AF κ] {d:Nat} {V:Arg ν} {A:jR α} {F:List (κ×ν)->α->Option (List (κ×ν)×β)} {R:β->RK} {lent:Option (D×Row)} {f:List D} {g:RK} {b:Option Row} (h:mkM d V A F R lent f=some (g,b)) :
  ∃l a c r,lent=some (.mp 0 0,⟨0,d,[.mpc (eu l) (gh V l)],false,true,true⟩)∧f=A.ds a∧F l a=some (c,r)∧g=R r∧b=some ⟨0,d,[.mpc (eu c) (gh V c)],false,true,true⟩:=by
 unfold mkM at h;split at h
 ·split at h
  ·rename_i e;obtain⟨rfl,e⟩:=e;rw[aeV]at h;obtain⟨⟨c,r⟩,j,i⟩:=h;simp only[Prod.mk.injEq]at i;obtain⟨rfl,rfl⟩:=i;obtain⟨k,m,n⟩:=Classical.choose_spec e;refine⟨_,_,c,r,?_,n,j,rfl,rfl⟩;rw[<- k,<- m]
  ·cases h
 ·cases h
def bK.W6 {P:Program} {T:Nat->Option Ty} {Γ:Env} (j:iI P T) (k:bG P Γ) (m:P.follows .mixedOrders=true) {κ ν α β:Type} [AF κ] {e:Nat} {V:Arg ν} {A:jR α} {F:List (κ×ν)->α->Option (List (κ×ν)×β)} {R:β->RK} {f:FuncId} {b:Func} (i:P.funcs[f]? = some b) (g:(match b.body with|some c=>codeOk c|none=>true)=true)
  (n:(b.name == "runtime.NumGoroutine")=false∧b.body.isNone=false) (o:∀a,(A.ds a).length+1<=b.ntmps)
  (h:∀l a d r,F l a=some (d,r)->kT .clean T Γ FU b (some (.mp 0 0,⟨0,e,[.mpc (eu l) (gh V l)],false,true,true⟩)) (A.ds a)=some (R r,some ⟨0,e,[.mpc (eu d) (gh V d)],false,true,true⟩)):bK P f (mkM e V A F R) where
 calls lent aeS rk out p:=by
  obtain⟨l,a,d,r,rfl,rfl,q,rfl,rfl⟩:=Xd p;exact ki j k m i g (o a) rfl (h l a d r q)
 callable:=⟨b,i,n⟩
def PJ {T:Nat->Option Ty} {Γ:Env} {F:Nat} {a:Mode} {e:Func} {c:Code} {n:Nat} {rs:List ResultVar} {d0:D} {f:Nat} {cells:List D} {g d:Bool} {b:List D} {r:RK×Option Row} (j:e.body=some c) (i:e.ntmps=n) (k:e.results=rs.toArray)
  (l:dB T Γ n F [.code c] (WD a T (some (d0,⟨0,f,cells,g,d,true⟩)) rs r) .normal (L3 (d0::b)) (oa ⟨0,f,cells,g,d,true⟩) 1) (h:n<=1000000:=by exact agG rfl):kT a T Γ F e (some (d0,⟨0,f,cells,g,d,true⟩)) b=some r:=by
 refine R2 ?_ (by rw[i];exact h);unfold wpf;rw[j,i,k];exact l
def T1 {α:Type} (e:jS α):Arg α:=⟨fun x =>.ip (e.cells x),fun x y h=>e.inj _ _ (by simpa using h)⟩
def Sk {α:Type} (e:jS α) (x:α):(T1 e).d x=.ip (e.cells x):=ahM
section
variable {T:Nat->Option Ty} {h:Nat->Option Row} {Γ:Env} {e:Nat} {dst:Option Nat}
def lvM (v:Nat):Option Row->Option (List dp×List D)
 | some r=>if r.v=v∧r.mp=true∧r.ty<900000 then (match r.cells with | [.mpc a b]=>some (a,b)|_=>none) else none
 | none=>none
def NV {x v:Nat} : kR h x v=lvM v (h x):=by
 unfold kR lvM;cases h x<;>rfl
def NZ {v c:Nat} {d:List dp} {e:List D} {f a:Bool} (b:c<900000):lvM v (some ⟨v,c,[.mpc d e],f,a,true⟩)=some (d,e):=by simp[lvM,b]
def lkK (a:List dp) (n:dp):Bool:=a.contains n
def S9 {α:Type} {m:List ((Int×Int)×α)} {a b:Int} : lkK (eu m) (a,some b)=mK m (a,b):=N4 (a,b) m
def lkE (b d:Bool) (z:D) (n:dp):Option (List dp×List D)->Option cd
 | some (a,c)=>if rm b n a=true then some ⟨if d then .tup [se z a c n,.bool (lkK a n)] else se z a c n,[]⟩ else none
 | none=>none
def aai {b:Bool} {z:D} {n:dp} {a:List dp} {c:List D} : lkE b true z n (some (a,c))=if rm b n a=true then some ⟨.tup [se z a c n,.bool (lkK a n)],[]⟩ else none:=ahM
def TV (T:Nat->Option Ty) (τ:Ty) (b:Bool) (d:D):Prop:=∃φ z,Fl T τ=some (b,φ)∧j0 φ (φ.zero.map oF)=some z∧(φ.zero.map oF).all bz=true∧iQ z=d
def aa6 {τ:Ty} {b:Bool} {d:D} (c:TV T τ b d) {m i:D} {n:dp} {a:Bool} (e:Uu i=some n):gT T τ h m i a=lkE b a d n (mapOf h m):=by
 obtain⟨φ,z,f,g,j,rfl⟩:=c;simp only[gT,f,e,lkE,lkK];cases mapOf h m with
 | none=>rfl
 | some p=>obtain⟨k,l⟩:=p;simp only[g,j,and_true]
def N6 {x v:Nat} : mapOf h (.mp x v)=kR h x v:=ahM
def muR (b:Bool) (h:Nat->Option Row) (y:Nat) (n:dp) (d:D) (fr:List Nat) (a:List dp) (c:List D):Option Row->Option cd
 | some r=>if rm b n a=true∧r.fz=false∧fr.contains y=false then some ⟨.und,jw h fr++[(y,some ⟨r.v,r.ty,[.mpc (zl a n) (Db a c n d)],false,true,true⟩)]⟩ else none
 | none=>none
def Ob {b:Bool} {y v e:Nat} {n:dp} {d:D} {fr:List Nat} {a:List dp} {f:List D} {cells:List D} {c mp:Bool} : muR b h y n d fr a f (some ⟨v,e,cells,false,c,mp⟩)=if rm b n a=true then (if fr.contains y=false then some ⟨.und,jw h fr++[(y,some ⟨v,e,[.mpc (zl a n) (Db a f n d)],false,true,true⟩)]⟩ else none) else none:=by
 simp only[muR,true_and]
 by_cases g:rm b n a=true<;>simp[g]
def muM (b:Bool) (h:Nat->Option Row) (y:Nat) (n:dp) (d:D) (fr:List Nat):Option (List dp×List D)->Option cd
 | some (ks,vs)=>muR b h y n d fr ks vs (h y)
 | none=>none
def Oa {b:Bool} {y:Nat} {n:dp} {d:D} {fr:List Nat} {a:List dp} {c:List D} : muM b h y n d fr (some (a,c))=muR b h y n d fr a c (h y):=ahM
def muE (b:Bool) (h:Nat->Option Row) (y v:Nat) (n:dp):Option (D×List Nat)->Option cd
 | some (d,fr)=>muM b h y n d fr (kR h y v)
 | none=>none
def N9 {b:Bool} {y v:Nat} {n:dp} {d:D} {fr:List Nat} : muE b h y v n (some (d,fr))=muM b h y n d fr (kR h y v):=ahM
def abb {τ:Ty} {b:Bool} {d:D} (a:TV T τ b d) {y v:Nat} {n:dp} {i x:D} (c:Uu i=some n):dR T τ h (.mp y v) i x=muE b h y v n (yh h x):=by
 obtain⟨φ,z,e,_⟩:=a;simp only[dR,e,c];cases yh h x with
 | none=>rfl
 | some p =>
  obtain⟨d,fr⟩:=p;simp only[muE];cases f:kR h y v with
  | none=>simp only[muM]<;>cases h y<;>rfl
  | some q =>
   obtain⟨g,j⟩:=q;simp only[muM]<;>cases h y<;>rfl
def IX {κ α:Type} [AF κ] {m:List (κ×α)} : (eu m).length=m.length:=N5 m
def PG {a:List D} : yh h (.agg a)=some (.agg (a.map canon),[]):=ahM
def YU {τ:Ty} {b:Bool} {d:D} (g:TV T τ b d) {a c:Nat} (f:a<900000):Xg T (some τ) a e c=some ⟨.mp c e,[(c,some ⟨e,a,[.mpc [] []],false,true,true⟩)]⟩:=by
 obtain⟨φ,z,h,_⟩:=g;exact Xh h f
def V8 {a:List D} : bH h (.ip a)=some (.ip a,[]):=ahM
def Sz {x v o:Nat} : bH h (.ptr x v o)=clP x o (live h x v):=by
 simp only[bH];cases live h x v with
 | none=>rfl
 | some r=>simp only[clP]
def Tn {x v o:Nat} : sh (.ptr x v o)=true:=ahM
def Xp {a:List D} : sh (.ip a)=true:=ahM
def WL {v a:Nat} {cells:List D} {b mp:Bool} : vu ⟨v,a,cells,b,true,mp⟩=⟨v,a,cells,true,true,mp⟩:=by cases b<;>rfl
def S0 {d:Nat} : bl.hint d=none:=ahM
def NF {f:Nat} {l:Bool} {G:Option (D×Row)->List D->Option (RK×Option Row)} {d:Nat} : (Am.ext Γ f l G).hint d=Γ.hint d:=ahM
def IN {d i:Nat} : (Am.keep d Γ).hint i=Γ.hint i:=ahM
end
structure vr {α:Type} (E:jS α) (C:List D) (o:Nat) (l:List α):Prop where
 fit:o+l.length*E.size<=C.length
 eq:(C.drop o).take (l.length*E.size)=ae E l
def vr.self {α:Type} (E:jS α) (l:List α):vr E (ae E l) 0 l:=⟨by rw[cc];omega,by rw[agk,<- cc,agY]⟩
def vr.split {α:Type} {E:jS α} {C:List D} {o:Nat} {l:List α} (F:vr E C o l):C.drop o=ae E l++C.drop (o+l.length*E.size):=by
 rw[<- agK]
 conv=>lhs;rw[<- agL (l.length*E.size) (C.drop o)]
 rw[F.eq]
def vr.idx {α:Type} {E:jS α} {C:List D} {o:Nat} {l:List α} {i:Int} {x:α} (F:vr E C o l) (h:P.idx l i=some x):o+i.toNat*E.size+E.size<=C.length∧∃rest,C.drop (o+i.toNat*E.size)=E.cells x++rest:=by
 have a:=uJ E h;have b:=F.fit;refine⟨by omega,ae E (l.drop (i.toNat+1))++C.drop (o+l.length*E.size),?_⟩;rw[<- agK,F.split,age (by rw[cc];omega),Dq E h,agd]
def vr.tail {α:Type} {E:jS α} {C:List D} {o:Nat} {l m:List α} {a:Int} (F:vr E C o l) (h:Df l a (l.length:Int)=some m):vr E C (o+a.toNat*E.size) m:=by
 obtain⟨c,d,e,f,b⟩:=XK E h;have g:=F.fit;have i:a.toNat*E.size+m.length*E.size=l.length*E.size:=by rw[<- Nat.add_mul];congr 1;omega
 refine⟨by omega,?_⟩;rw[<- agK,F.split,age (by rw[cc];omega),agi (by rw[afg,cc];omega),b]
def adH:=ai @NV<|ai @NZ<|ai @S9<|ai @IP<|ai @IX<|ai @aai<|ai @N6<|ai @Ob<|ai @Oa<|ai @N9<|@PG
def adI:=ai @V8<|ai @Sz<|ai @Tn<|ai @Xp<|ai @WL<|ai @S0<|ai @NF<|ai @IN<|ai @Ji<|@Sk
def adJ:=ai @B7<|ai @Eh<|ai @yn<|@VU
def bK.ofB {P:Program} {T:Nat->Option Ty} {Γ:Env} (g:iI P T) (i:bG P Γ) (j:P.follows .mixedOrders=true) {α β:Type} {A:jR α} {F:α->Option β} {R:β->RK} {e:Mode} {f:FuncId} {d:Func} (k:P.funcs[f]? = some d)
  (b:((match d.body with|some c=>codeOk c|none=>true)&&(!(d.name == "runtime.NumGoroutine") && !d.body.isNone))=true) (l:∀a,Nat.ble (A.ds a).length d.ntmps=true) (h:∀a r,F a=some r->kT e T Γ FU d none (A.ds a)=some (R r,none)):bK P f (di A F R):=by
 rw[afx,afx]at b;exact bK.of g i j k b.1 ⟨by simpa using b.2.1,by simpa using b.2.2⟩ (fun a=>agG (l a)) h
def VS {α β:Type} (a:Arg α) (b:jR β) (x:α×β):(fl a b).ds x=a.d x.1::b.ds x.2:=ahM
def VR {α:Type} (a:Arg α) (x:α):(dc a).ds x=[a.d x]:=ahM
def VQ (x:Unit):as0.ds x=[]:=ahM
def fj:=ai @VS<|ai @VR<|ai @VQ<|ai @ab0<|ai @Sj<|ai @ZQ<|ai @VF<|ai @ZP<|ai @VG<|@Sk
def vi:=ai @adH<|ai @adI<|@adJ
def abY (P:Program) (f:FuncId):Prop:=∀(blk a b:Nat) (zs:List Int) (w:World),Go.Sort.Holds (Value.int .i64) w blk a zs.toArray->blk<w.heap.size->zs.length<4611686018427387904 ->
 Calls P f #[.slice (some ⟨blk,a,none⟩) zs.length b] w fun e c=>e=.returned (.tuple #[])∧∃n d,c=Go.Sort.grow (Go.Sort.putRow (Value.int .i64) (Go.Sort.ahead w n) blk a (pM zs).toArray) d
def v7 (k:IntKind):∀(l:List Int) (j:Nat),(ae (eI k) l)[j]? = l[j]?.map fun n =>.int k n
 | [],j=>by simp[ae]
 | x::l,0=>by simp[ae,eI]
 | x::l,j+1=>by
  have:=v7 k l j;simp only[ae,zT,List.cons_append,List.nil_append,List.getElem?_cons_succ];exact this
def p6 (k:IntKind) (l:List Int):(ae (eI k) l).length=l.length:=by rw[cc];show l.length*1=_;omega
def OM {w:World} {b a:Nat} {d:List Int} {c:Array Value} {e:Nat} {fr:Nat×Nat} (h:w.heap[b]? = some (.cells c e fr)):(Go.Sort.putRow (Value.int .i64) w b a d.toArray).heap[b]? = some (.cells (Go.Sort.putCells (Value.int .i64) a d.toArray c) e fr):=by
 simp[Go.Sort.putRow,Go.Sort.mapBlock,ae6,h,Go.Sort.onCells]
def Gd {w:World} {b c a:Nat} {d:List Int} (h:c≠b):(Go.Sort.putRow (Value.int .i64) w b a d.toArray).heap[c]? = w.heap[c]?:=by
 simp[Go.Sort.putRow,Go.Sort.mapBlock,ae6,Ne.symm h]
def K2 {a:Nat} {d:List Int} {b:Array Value} {k:Nat} (c:k<b.size):(Go.Sort.putCells (Value.int .i64) a d.toArray b).getD k undef=if a<=k∧k<a+d.length then .int .i64 (d.getD (k-a) 0) else b.getD k undef:=by
 have e:(Go.Sort.putCells (Value.int .i64) a d.toArray b)[k]? = some (if a<=k∧k<a+d.length then .int .i64 (d.getD (k-a) 0) else b[k]):=by
  simp only[Go.Sort.putCells,Array.getElem?_mapIdx,af7 c,Option.map_some,agb];congr 1;split
  ·rename_i f;congr 1;have:k-a<d.length:=by omega
   simp[List.getD,this]
  ·rfl
 rw[ae1,e];simp[ae1,c]
end Go.Proofs.YtekhokjkphgphaaGreat.Am
namespace Go.Proofs.YtekhokjkphgphaaGreat.P
open Go.RowKit
def wrap64 {x:Int} (a : -9223372036854775808<=x) (b:x<9223372036854775808):IntKind.i64.wrap x=x:=by
 have key:IntKind.i64.wrap x=if x % 18446744073709551616>=9223372036854775808 then x % 18446744073709551616-18446744073709551616 else x % 18446744073709551616:=by
  unfold IntKind.wrap
  by_cases h:x % 18446744073709551616>=9223372036854775808
  ·rw[if_pos h];exact if_pos (by simpa [IntKind.bits,IntKind.signed] using h)
  ·rw[if_neg h];exact if_neg (by simpa [IntKind.bits,IntKind.signed] using h)
 rw[key];split<;>omega
def NH {α:Type} {l:List α} {i:Int} {x:α} (a:0<=i) (h:l[i.toNat]? = some x):P.idx l i=some x:=by
 have:=(afp.1 h).1;unfold P.idx;rw[if_pos ⟨a,by omega⟩,h]
def cu {α:Type} {l:List α} {i:Nat} (h:i<l.length):P.idx l (i:Int)=some (l[i]):=NH (by omega) (by simp[h])
def Lf {α:Type} {l:List α} {i:Nat} (h:i<=l.length):Df l 0 (i:Int)=some (l.take i):=by
 unfold Df;rw[if_pos ⟨by omega,by omega,by omega⟩];simp
end Go.Proofs.YtekhokjkphgphaaGreat.P
namespace Go.Proofs.YtekhokjkphgphaaGreat.Am
open Go.RowKit Go.Deep Go.ChangeShapes Go.WideShapes
def Dk (T:Nat->Option Ty):Nat->Nat->List D->Prop
 | 0,_,_=>False
 | n+1,t,xs =>
  match T t with
  | none=>False
  | some τ=>xs.length=τ.size ∧
   match τ.ds with
   | .int k=>∃i,xs=[.int k i]∧(Lit.int k i).wf=true
   | .bool=>∃b,xs=[.bool b]
   | .str=>∃s:ByteArray,xs=[.str s]∧s.size<=140737488351232
   | .slice e=>∃a c φ,xs=[.sl false false a c]∧a*φ.bytes<=140737488351232∧T e=some φ∧c.length=a*φ.size∧∀i,i<a->Dk T n e ((c.drop (i*φ.size)).take φ.size)
   | .struct fs=>∀f∈fs,∃φ,T f.1=some φ∧Dk T n f.1 ((xs.drop f.2).take φ.size)
   | .arr m e=>∃φ,T e=some φ∧∀i,i<m->Dk T n e ((xs.drop (i*φ.size)).take φ.size)
   | .map _ _=>False
   | .other=>False
def Ct (T:Nat->Option Ty):Nat->List (Nat×Nat)->Nat->Bool
 | o,[],z=>o==z
 | o,(a,off)::fs,z=>off==o&&match T a with|some φ=>Ct T (o+φ.size) fs z|none=>false
def UJ (T:Nat->Option Ty):Nat->Nat->Bool
 | 0,_=>false
 | n+1,t =>
  match T t with
  | none=>false
  | some τ =>
   match τ.ds with
   | .int _ | .bool | .str=>τ.size==1
   | .slice e=>τ.size==1&&UJ T n e&&(match T e with|some φ=>decide (0<φ.size)|none=>false)
   | .struct fs=>Ct T 0 fs τ.size&&fs.all fun f=>UJ T n f.1
   | .arr m e=>UJ T n e&&(match T e with|some φ=>τ.size==m*φ.size|none=>false)
   | .map _ _=>false
   | .other=>false
def ny (w:World) (M:Nat->Prop) (a:List D) (b:List Value):Prop:=a.length=b.length∧∀(j:Nat) (x:D),a[j]? = some x->bz x=true∧∃v,b[j]? = some v∧RP w M x v
def ny.append {w:World} {M:Nat->Prop} {c d:List D} {e f:List Value} (h:ny w M c e) (k:ny w M d f):ny w M (c++d) (e++f):=by
 refine⟨by simp[h.1,k.1],fun j x b =>?_⟩;rw[List.getElem?_append]at b ⊢;rw[<- h.1];split at b
 ·rename_i a;rw[if_pos a];exact h.2 j x b
 ·rename_i a;rw[if_neg a];exact k.2 _ x b
def EK {α:Type} (s:Nat):∀(ls:List (List α)),(∀l∈ls,l.length=s)->∀(i:Nat) (l:List α),ls[i]? = some l->(ls.flatten.drop (i*s)).take s=l
 | [],_,i,l,h=>by simp at h
 | a::ls,hl,0,l,h=>by
  simp only[List.getElem?_cons_zero,ae5]at h;subst h;have:a.length=s:=hl a (by simp);simp[this]
 | a::ls,hl,i+1,l,h=>by
  have b:a.length=s:=hl a (by simp);rw[List.flatten_cons,agH,agI (by rw[b,afS];omega),agF,b,afS,agJ];exact EK s ls (fun x c=>hl x (agt _ c)) i l h
def mJ {α:Type} (s:Nat):∀(ls:List (List α)),(∀l∈ls,l.length=s)->ls.flatten.length=ls.length*s
 | [],_=>by simp
 | a::ls,hl=>by
  rw[List.flatten_cons,af6,mJ s ls (fun x b=>hl x (agt _ b)),hl a (by simp),afm,afS];omega
section
variable {H:Type} {enc:TypeId×Value->H} {P:Program} {w:World} {base:Nat} {spare:Nat->Bool} {held:Bool} {T:Nat->Option Ty}
def eX.bytesOf {P:Program} {t:Nat} {τ:Ty} (h:eX P t τ):P.bytesOf t=τ.bytes:=by
 have:=h.info;unfold Program.bytesOf;cases a:P.info? t with
 | none=>rw[a]at this;simp at this
 | some i=>rw[a]at this;simp only[Option.map_some,ae5,Prod.mk.injEq]at this;simp[this.2.1]
def Reach (P:Program) (t:Nat) (d:DataW H):Prop:=∀k∈d.weights P t,k<=140737488351232
def BJ {e:TypeId} : ∀(l:List (DataW H)) (j:Nat) (d:DataW H),l[j]? = some d->∀k∈d.weights P e,k∈DataW.weightsAll P e l
 | x::l,0,d,h,k,hk=>by
  simp only[List.getElem?_cons_zero,ae5]at h;subst h;simp only[DataW.weightsAll,agr];exact .inl hk
 | x::l,j+1,d,h,k,hk=>by
  simp only[DataW.weightsAll,agr];exact .inr (BJ l j d (by simpa using h) k hk)
 | [],j,d,h,k,hk=>by simp at h
def eX.cells {P:Program} {t:Nat} {τ:Ty} (h:eX P t τ):P.cellsOf t=τ.size:=by
 have:=h.info;unfold Program.cellsOf;cases a:P.info? t with
 | none=>rw[a]at this;simp at this
 | some i=>rw[a]at this;simp only[Option.map_some,ae5,Prod.mk.injEq]at this;simp[this.1]
def S4 {T:Nat->Option Ty} {w:World} {M:Nat->Prop} {cs:List Value} : ∀(fs:List (Nat×Nat)) (o z:Nat) (f:Nat×Nat->List D),Ct T o fs z=true->cs.length=z ->
  (∀p∈fs,∃φ,T p.1=some φ∧ny w M (f p) ((cs.drop p.2).take φ.size))->o<=z->∃d,ny w M d (cs.drop o)∧∀p∈fs,∃φ,T p.1=some φ∧o<=p.2∧(d.drop (p.2-o)).take φ.size=f p
 | [],o,z,f,c,e,_,_=>by
  simp only[Ct,beq_iff_eq]at c;refine⟨[],⟨by rw[afg,e,c];simp,fun j x q=>by simp at q⟩,fun p hp=>by simp at hp⟩
 | (i,off)::fs,o,z,f,c,e,hp,r=>by
  simp only[Ct,afx,beq_iff_eq]at c;obtain⟨rfl,c⟩:=c;obtain⟨φ,m,n⟩:=hp (i,off) (by simp);simp only[m]at c;have s:off+φ.size<=z:=by
   have:∀(fs:List (Nat×Nat)) (o:Nat),Ct T o fs z=true->o<=z:=by
    intro fs
    induction fs with
    | nil=>intro o h;simp only[Ct,beq_iff_eq]at h;omega
    | cons p fs t =>
     intro o h;obtain⟨a,b⟩:=p;simp only[Ct,afx]at h;have g:=h.2;split at g
     ·have:=t _ g;omega
     ·cases g
   exact this fs _ c
  obtain⟨d,u,k⟩:=S4 fs (off+φ.size) z f c e (fun p h=>hp p (agt _ h)) s;have l:(f (i,off)).length=φ.size:=by
   rw[n.1,aff,afg,e];omega
  refine⟨f (i,off)++d,?_,fun p h =>?_⟩
  ·have:=n.append u;rw[<- agK,agL]at this;exact this
  ·rcases ae3.1 h with rfl|h
   ·exact⟨φ,m,aeX _,by simp only[af8,agk];rw[agi (by omega),agj (by omega)]⟩
   ·obtain⟨ψ,v,g,y⟩:=k p h;refine⟨ψ,v,by omega,?_⟩;rw[agH,agI (by omega),agF,l];have:p.2-off-φ.size=p.2-(off+φ.size):=by omega
    rw[this,y]
def ny.one {w:World} {M:Nat->Prop} {x:D} {v:Value} (b:bz x=true) (h:RP w M x v):ny w M [x] [v]:=by
 refine⟨rfl,fun j y a =>?_⟩
 match j,a with
 | 0,a=>simp only[List.getElem?_cons_zero,ae5]at a;subst a;exact⟨b,v,rfl,h⟩
 | j+1,a=>simp at a
def ny.flat {w:World} {M:Nat->Prop} {b:List Value} {s:Nat} : ∀(ls:List (List D)) (o:Nat),(∀(i:Nat) l,ls[i]? = some l->ny w M l ((b.drop (o+i*s)).take s))->(∀l∈ls,l.length=s)->ny w M ls.flatten ((b.drop o).take (ls.length*s))
 | [],o,_,_=>⟨by simp,fun j x c=>by simp at c⟩
 | a::ls,o,h,hl=>by
  have d:=h 0 a rfl;have e:=ny.flat ls (o+s) (fun i l f=>by
   have:=h (i+1) l (by simpa using f);rw[afS]at this;rw[show o+s+i*s=o+(i*s+s) by omega];exact this) (fun l g=>hl l (agt _ g))
  have:=d.append e;rw[Nat.zero_mul,afw]at this;rw[List.flatten_cons,afm,afS,Nat.add_comm (ls.length*s) s,List.take_add,agK];exact this
def aaI (hT:iI P T) {M:Nat->Prop} (hM:∀b,base<=b->b<w.heap.size->¬M b):∀(n t R:Nat) (cs:List Value) (x:DataW H×List MemPlace),UJ T n t=true->DataW.trod enc P w base spare held R t cs=some x->Reach P t x.1->∃xs,Dk T n t xs∧ny w M xs cs:=by
 intro n
 induction n with
 | zero=>intro t R cs x h;cases h
 | succ n ih =>
  intro t R cs x c h hw;unfold UJ at c;unfold Dk;cases hτ:T t with
  | none=>rw[hτ]at c;cases c
  | some τ =>
   rw[hτ]at c;simp only at c ⊢;obtain⟨d,Y,O⟩:=under hT hτ;cases C:τ.ds with
   | int k =>
    rw[C]at c O;simp only[beq_iff_eq]at c;have B:=zN O;subst B;obtain⟨i,rfl,_,hw⟩:=DataW.trod_int Y h;exact⟨[.int k i],⟨by rw[c];rfl,i,rfl,hw⟩,.one rfl (.int k i)⟩
   | bool =>
    rw[C]at c O;simp only[beq_iff_eq]at c;have B:=xx O;subst B;obtain⟨b,rfl,_⟩:=DataW.trod_bool Y h;exact⟨[.bool b],⟨by rw[c];rfl,b,rfl⟩,.one rfl (.bool b)⟩
   | str =>
    rw[C]at c O;simp only[beq_iff_eq]at c;have B:=tj O;subst B;obtain⟨s,rfl,rfl,hs⟩:=DataW.trod_string Y h;have au:s.size<=140737488351232:=by
     have:=hw s.data.toList.length (by simp[DataW.weights]);simpa using this
    exact⟨[.str s],⟨by rw[c];rfl,s,rfl,au⟩,.one rfl (.str s)⟩
   | map _ _=>rw[C]at c;cases c
   | other=>rw[C]at c;cases c
   | struct fs =>
    rw[C]at c O;simp only[afx,ae7]at c;obtain⟨F,rfl,hF⟩:=gY O;obtain⟨ys,m,_,rfl,r,av,hf⟩:=DataW.trod_struct Y h;have S:∀(i:Nat) (f:Field) y,F[i]? = some f->ys[i]? = some y->Reach P f.type y.1:=by
     intro i f y aw ae k hk;apply hw k;simp only[DataW.weights,Y];exact DataW.weights_mem_each (j:=i) (t:=f.type) (d:=y.1) (by rw[aeU,afK,aw];rfl) (by simp[ae]) k hk
    rw[(hT t τ hτ).cells]at r;have A:∀p:Nat×Nat,∃E,p∈fs->∃φ,T p.1=some φ∧Dk T n p.1 E∧ny w M E ((cs.drop p.2).take φ.size):=by
     intro p
     by_cases Q:p∈fs
     ·have D:=c.2 p Q;rw[<- hF]at Q;obtain⟨f,ax,rfl⟩:=aeW.1 Q;obtain⟨i,q⟩:=List.mem_iff_getElem?.1 ax;have J:=hf i f (by simpa using q);simp only at D ⊢;cases Z:T f.type with
      | none=>cases n with
       | zero=>cases D
       | succ n=>simp only[UJ,Z]at D;cases D
      | some φ =>
       rw[(hT _ φ Z).cells]at J;have K:i<ys.length:=by
        have:=(afp.1 q).1;simp only[Array.length_toList]at this;omega
       rw[ae9 K]at J;obtain⟨E,U,L⟩:=ih _ _ _ _ D J (S i f _ (by simpa using q) (ae9 K));exact⟨E,fun _=>⟨φ,rfl,U,L⟩⟩
     ·exact⟨[],fun h=>(Q h).elim⟩
    obtain⟨f,u⟩:=Classical.axiomOfChoice A;obtain⟨xs,hx,aa⟩:=S4 fs 0 τ.size f c.1 r (fun p Q=>by obtain⟨φ,a,_,b⟩:=u p Q;exact⟨φ,a,b⟩) (aeY _);rw[agk]at hx;refine⟨xs,⟨by rw[hx.1,r],fun p Q =>?_⟩,hx⟩;obtain⟨φ,J,_,h3⟩:=aa p Q;obtain⟨ψ,g1,g2,_⟩:=u p Q;rw[J]at g1;cases g1;rw[Nat.sub_zero]at h3;exact⟨φ,J,by rw[h3];exact g2⟩
   | arr m e =>
    rw[C]at c O;simp only[afx]at c;have B:=zM O;subst B;obtain⟨ys,k,_,rfl,r,av,hf⟩:=DataW.trod_array Y h;have S:∀(i:Nat) y,ys[i]? = some y->Reach P e y.1:=by
     intro i y ae k hk;apply hw k;simp only[DataW.weights,Y];exact BJ _ i y.1 (by simp[ae]) k hk
    rw[(hT t τ hτ).cells]at r;obtain⟨ah,G⟩:=c;split at G
    ·rename_i φ Z;simp only[beq_iff_eq]at G;have A:∀i:Nat,∃E,i<m->Dk T n e E∧ny w M E ((cs.drop (i*φ.size)).take φ.size):=by
      intro i
      by_cases q:i<m
      ·have J:=hf i q;rw[(hT _ φ Z).cells,ae9 (by omega)]at J;obtain⟨E,U,L⟩:=ih _ _ _ _ ah J (S i _ (ae9 (by omega)));exact⟨E,fun _=>⟨U,L⟩⟩
      ·exact⟨[],fun h=>(q h).elim⟩
     obtain⟨f,u⟩:=Classical.axiomOfChoice A;have V:∀l∈(List.range m).map f,l.length=φ.size:=by
      intro l hl;obtain⟨i,q,rfl⟩:=aeW.1 hl;have q:=agB.1 q;rw[(u i q).2.1,aff,afg,r,G];have:(i+1)*φ.size<=m*φ.size:=afF _ q;rw[afS]at this;omega
     have ai:∀(i:Nat) l,((List.range m).map f)[i]? = some l->i<m∧l=f i:=by
      intro i l hl;rw[aeU,aeV]at hl;obtain⟨j,W,rfl⟩:=hl;obtain⟨aj,ak⟩:=afp.1 W;simp only[afr]at aj;simp only[afs]at ak;exact⟨aj,by rw[ak]⟩
     have X:ny w M ((List.range m).map f).flatten ((cs.drop 0).take (((List.range m).map f).length*φ.size)):=by
      refine ny.flat _ 0 (fun i l hl =>?_) V;obtain⟨q,rfl⟩:=ai i l hl;rw[afH];exact (u i q).2
     rw[afq,afr,agk,agj (by omega)]at X;refine⟨_,⟨by rw[X.1,r],φ,Z,fun i q =>?_⟩,X⟩;have K:((List.range m).map f)[i]? = some (f i):=by simp[q]
     rw[EK φ.size _ V i _ K];exact (u i q).1
    ·cases G
   | slice e =>
    rw[C]at c O;simp only[afx,beq_iff_eq]at c;have B:=fS O;subst B;obtain⟨⟨A,al⟩,I⟩:=c;split at I
    ·rename_i φ Z;simp only[decide_eq_true_eq]at I;rcases open_slice Y h with⟨rfl,_⟩|⟨a,g,ay,m,k,D',Pl,rfl,hb,hl,hm,az,rfl,q⟩
     ·refine⟨[.sl false false 0 []],⟨by rw[A];rfl,0,[],φ,rfl,by omega,Z,by simp,fun i q=>by omega⟩,.one rfl ?_⟩;exact .sl none 0 false false 0 [] (fun _=>undef) (aeX _) (aeY _) (fun h=>by cases h) (fun _=>⟨rfl,rfl⟩) (fun h=>by cases h) (fun h=>(h rfl).elim) (fun j x W=>by simp at W) (fun x hx=>by simp at hx)
     ·have aH:g<=m:=by rw[az];split<;>omega
      have aA:g*φ.bytes<=140737488351232:=by
       have J:=hw ((((List.range g).map D').length+((List.range (m-g)).map fun j=>D' (g+j)).length)*P.bytesOf e) (by simp[DataW.weights,Y]);rw[(hT _ φ Z).bytesOf]at J;simp only[afq,afr]at J;exact aeZ (afF _ (by omega)) J
      have S:∀i,i<g->Reach P e (D' i):=by
       intro i K k hk;apply hw k;simp only[DataW.weights,Y,ae3,agr];exact .inr (.inl (BJ _ i (D' i) (by simp[K]) k hk))
      have ag:∀i:Nat,∃E,i<g->Dk T n e E∧E.length=φ.size∧∀(j:Nat) z,E[j]? = some z->bz z=true∧∃v,w.cell? (a.add (i*φ.size+j))=some v∧RP w M z v:=by
       intro i
       by_cases an:i<g
       ·obtain⟨aI,ao,aB⟩:=q i (by omega);rw[(hT _ φ Z).cells]at ao;obtain⟨_,g1,g2⟩:=World.cells?_some ao;obtain⟨E,U,L⟩:=ih _ _ _ _ al aB (S i an);refine⟨E,fun _=>⟨U,by rw[L.1,g1],fun j z W =>?_⟩⟩;obtain⟨p1,v,p2,p3⟩:=L.2 j z W;refine⟨p1,v,?_,p3⟩;have aC:j<φ.size:=by rw[<- g1];exact (afp.1 p2).1
        rw[<- Go.Deep.add_add,g2 j aC,p2]
       ·exact⟨[],fun h=>(an h).elim⟩
      obtain⟨f,u⟩:=Classical.axiomOfChoice ag;have V:∀l∈(List.range g).map f,l.length=φ.size:=by
       intro l hl;obtain⟨i,q,rfl⟩:=aeW.1 hl;exact (u i (agB.1 q)).2.1
      have aq:((List.range g).map f).flatten.length=g*φ.size:=by rw[mJ φ.size _ V];simp
      have ad:∀i,i<g->(((List.range g).map f).flatten.drop (i*φ.size)).take φ.size=f i:=fun i q=>EK φ.size _ V i (f i) (by simp[q]);have ab:∀(p:Nat) z,((List.range g).map f).flatten[p]? = some z->bz z=true∧∃v,w.cell? (a.add p)=some v∧RP w M z v:=by
       intro p z Q;have aD:=(afp.1 Q).1;rw[aq]at aD;have hq:p / φ.size<g:=agM (by rwa [afU]);have hr:p % φ.size<φ.size:=afO _ I;have he:p / φ.size*φ.size+p % φ.size=p:=Nat.div_add_mod' p φ.size;have hz:(f (p / φ.size))[p % φ.size]? = some z:=by
        rw[<- ad _ hq,afc,if_pos hr,afd,he];exact Q
       have:=(u _ hq).2.2 _ z hz;rw[he]at this;exact this
      refine⟨[.sl false false g ((List.range g).map f).flatten],⟨by rw[A];rfl,g,_,φ,rfl,aA,Z,aq,fun i q=>by rw[ad i q];exact (u i q).1⟩,.one rfl ?_⟩;refine .sl (some a) ay false false g _ (fun j=>(w.cell? (a.add j)).getD undef) hl hm (fun h=>by cases h) (fun h=>by cases h) (fun h=>by cases h) (fun aE =>?_) (fun j z W =>?_) (fun z hz =>?_)
      ·have h0:0<((List.range g).map f).flatten.length:=agN.2 aE;obtain⟨_,v,N,_⟩:=ab 0 _ (ae9 h0);obtain⟨b,o,sp⟩:=a;have aF:sp=none:=by
        unfold World.cell? at N;split at N
        ·split at N
         ·cases N
         ·rename_i h;simpa [Addr.add] using h
        ·cases N
       subst aF;have ar:b<w.heap.size:=by
        unfold World.cell? at N;split at N
        ·rename_i hh;exact (af5.1 hh).1
        ·cases N
       refine⟨b,o,rfl,ar,hM b hb ar,fun j W =>?_⟩;obtain⟨_,v,N,_⟩:=ab j _ (ae9 W);have ha:Addr.add ⟨b,o,none⟩ j=⟨b,o+j,none⟩:=by
        unfold Addr.add;split
        ·rename_i h0;rw[h0];rfl
        ·rfl
       have aG:w.cell? ⟨b,o+j,none⟩=some v:=by rw[<- ha];exact N
       rw[aG];simp only[N,Option.getD_some]
      ·obtain⟨_,v,N,hr⟩:=ab j z W;rw[N];exact hr
      ·obtain⟨j,W⟩:=List.mem_iff_getElem?.1 hz;exact (ab j z W).1
    ·cases I
def vB (T:Nat->Option Ty) (n t:Nat) (d:D):Prop :=
 match T t with
 | some τ=>if τ.ds.tw then ∃a,d=.agg a∧Dk T n t a else Dk T n t [d]
 | none=>False
def ny.agg {w:World} {M:Nat->Prop} {a:List D} {b:Array Value} (h:ny w M a b.toList):RP w M (.agg a) (.agg b):=by
 have:=RP.agg (w:=w) (M:=M) a b.toList h.1.symm (fun j x c=>by
  obtain⟨_,v,d,e⟩:=h.2 j x c;simp only[List.getD,d,Option.getD_some];exact e) (fun x f=>by
  obtain⟨j,c⟩:=List.mem_iff_getElem?.1 f;exact (h.2 j x c).1)
 simpa using this
def ny.single {w:World} {M:Nat->Prop} {a:List D} {v:Value} (h:ny w M a [v]):∃x,a=[x]∧RP w M x v:=by
 match a,h with
 | [],h=>have:=h.1;simp at this
 | [x],h=>obtain⟨_,u,b,c⟩:=h.2 0 x rfl;simp only[List.getElem?_cons_zero,ae5]at b;subst b;exact⟨x,rfl,c⟩
 | x::y::a,h=>have:=h.1;simp at this
def Yw (B:iI P T) {M:Nat->Prop} (D:∀b,base<=b->b<w.heap.size->¬M b) {n t E:Nat} {v:Value} {d:DataW H} {G:List MemPlace} (f:UJ T n t=true) (l:Value.okWide P w .any E t v) (h:DataW.Trod enc P w base spare held t v d G) (I:Reach P t d) :
  ∃x,vB T n t x∧RP w M x v:=by
 obtain⟨s,h⟩:=h;obtain⟨C,p,q⟩:=aaI B D n t s _ _ f h I;unfold vB;cases n with
 | zero=>cases f
 | succ n =>
 cases y:T t with
 | none=>simp only[UJ,y]at f;cases f
 | some τ =>
  simp only;obtain⟨J,r,j⟩:=under B y;cases g:τ.ds with
  | int k =>
   rw[g]at j;have c:=zN j;subst c;obtain⟨i,rfl⟩:=okWide_int r l;obtain⟨x,rfl,o⟩:=ny.single (v := .int k i) q;exact⟨x,by simpa [Ds.tw] using p,o⟩
  | bool =>
   rw[g]at j;have c:=xx j;subst c;obtain⟨i,rfl⟩:=okWide_bool r l;obtain⟨x,rfl,o⟩:=ny.single (v := .bool i) q;exact⟨x,by simpa [Ds.tw] using p,o⟩
  | str =>
   rw[g]at j;have c:=tj j;subst c;obtain⟨i,rfl⟩:=okWide_string r l;obtain⟨x,rfl,o⟩:=ny.single (v := .string i) q;exact⟨x,by simpa [Ds.tw] using p,o⟩
  | slice e =>
   rw[g]at j;have c:=fS j;subst c;obtain⟨a,z,A,rfl⟩:=okWide_slice r l;obtain⟨x,rfl,o⟩:=ny.single (v := .slice a z A) q;exact⟨x,by simpa [Ds.tw] using p,o⟩
  | struct fs =>
   rw[g]at j;obtain⟨F,rfl,_⟩:=gY j;obtain⟨u,rfl,_⟩:=okWide_struct r l;exact⟨.agg C,by simpa [Ds.tw] using p,ny.agg q⟩
  | arr m e =>
   rw[g]at j;have c:=zM j;subst c;have:∃u,v=.agg u:=by
    unfold Value.okWide at l;rw[r]at l;obtain⟨u,h,_⟩:=l;exact⟨u,h⟩
   obtain⟨u,rfl⟩:=this;exact⟨.agg C,by simpa [Ds.tw] using p,ny.agg q⟩
  | map _ _=>simp only[UJ,y,g]at f;cases f
  | other=>simp only[UJ,y,g]at f;cases f
def HR (s:iI P T) {M:Nat->Prop} (u:∀b,base<=b->b<w.heap.size->¬M b) {n b0:Nat} : ∀(e:List TypeId) (vs:List Value) (i:List (DataW H)) (l:List MemPlace),DataW.TrodAll enc P w base spare held e vs i l ->
  (∀(j:Nat) t v,e[j]? = some t->vs[j]? = some v->Value.okWide P w .any b0 t v)->(∀t∈e,UJ T n t=true)->(∀k∈DataW.weightsEach P e i,k<=140737488351232) ->
  ∃f:List D,f.length=vs.length∧(∀(j:Nat) x,f[j]? = some x->∃v,vs[j]? = some v∧RP w M x v)∧f.length=e.length∧∀(j:Nat) t,e[j]? = some t->∃x,f[j]? = some x∧vB T n t x
 | [],[],[],l,_,_,_,_=>⟨[],rfl,fun j x c=>by simp at c,rfl,fun j t c=>by simp at c⟩
 | t::e,v::vs,d::i,l,h,hv,hok,hw=>by
  obtain⟨p,q,z,A,_⟩:=h;obtain⟨x,m,o⟩:=Yw s u (hok t (by simp)) (hv 0 t v rfl rfl) z (fun k r=>hw k (by simp only[DataW.weightsEach,agr];exact .inl r));obtain⟨f,B,C,E,F⟩:=HR s u e vs i q A (fun j g G a b=>hv (j+1) g G (by simpa using a) (by simpa using b)) (fun g I=>hok g (agt _ I)) (fun k r=>hw k (by simp only[DataW.weightsEach,agr];exact .inr r));refine⟨x::f,by simp[B],fun j y c =>?_,by simp[E],fun j g c =>?_⟩
  ·cases j with
   | zero=>simp only[List.getElem?_cons_zero,ae5]at c;subst c;exact⟨v,rfl,o⟩
   | succ j=>simpa using C j y (by simpa using c)
  ·cases j with
   | zero=>simp only[List.getElem?_cons_zero,ae5]at c;subst c;exact⟨x,rfl,m⟩
   | succ j=>simpa using F j g (by simpa using c)
 | [],[],_::_,_,h,_,_,_=>h.elim
 | [],_::_,_,_,h,_,_,_=>h.elim
 | _::_,[],_,_,h,_,_,_=>h.elim
 | _::_,_::_,[],_,h,_,_,_=>h.elim
end
end Go.Proofs.YtekhokjkphgphaaGreat.Am
namespace Go.Proofs.YtekhokjkphgphaaGreat.Am
open Go.RowKit Go.Deep Go.ChangeShapes Go.WideShapes Go.ChangeAt
section
variable {H:Type} {enc:TypeId×Value->H} {P:Program}
def Hp {f:Func} {s:ChangeSpec} {c fresh d n:Bool} {W o:World} {e:Array Value} {v:Value} {q u:List (DataW H)} {a pa pv:List MemPlace}
  (hW:DataW.Whole enc P f.params.toList s.vars c W e.toList q u a)
  (l:∀(b:Nat) (sp:Nat->Bool) (B:Bool),DataW.TrodAll enc P o b sp B f.resultTypes.toList (v.resultList f.resultTypes.size) (s.fn H (q++u)).results [])
  (g:∀sp:Nat->Bool,(∀p∈a,sp p.block=true)->DataW.TrodAll enc P o 0 sp true f.params.toList e.toList (s.fn H (q++u)).args pa)
  (h:∀sp:Nat->Bool,(∀p∈a,sp p.block=true)->DataW.TrodVars enc P o sp s.vars (s.fn H (q++u)).vars pv)
  (k:a=pa++pv) (A:Below W.heap.size W o)
  (z:∀(j:Nat) (t:TypeId) (r:Value),f.resultTypes[j]? = some t->(v.resultList f.resultTypes.size)[j]? = some r->Value.okWide P o .any 0 t r) :
  s.post enc P f c fresh d n W e v o:=by
 have w:∀p∈a,p.block<W.heap.size:=fun p i=>hW.lt p i;have m:∀p∈a,(fun b=>decide (b<W.heap.size)) p.block=true:=fun p i=>by simpa using w p i
 refine⟨q,u,a,[],pa,pv,hW,l _ _ _,g _ m,h _ m,World.keptBut_mono (fun p i=>⟨i,?_⟩) (A.frame (·∈a)),fun _ =>?_⟩
 ·rw[k,agr]at i;exact Or.inr i
 ·obtain⟨_,_,_,_,_,C,D⟩:=hW;refine⟨z,_,_,([]++pa)++pv,⟨[]++pa,pv,trodAll_append (g _ (fun _ _=>rfl)) (l _ _ _),h _ (fun _ _=>rfl),rfl,?_,?_⟩,?_⟩
  ·intro b x i;have y:MemPlace.cell b x∈a:=by rw[k];simpa using i
   rw[A.frozen (w _ y)];exact C b x y
  ·intro E;have:=D E;rw[k]at this;simpa using this
  ·intro p i _;rw[k];simpa using i
def yB (k:laidOutB P=true) {W l:World} {b:Nat->Bool} : ∀ {c:List TypeId} {i:List Value} {j:List (DataW H)} {f:List MemPlace},(∀t∈c,P.readableRec t=true∧t<P.types.size)->DataW.TrodAll enc P W 0 (fun _=>true) true c i j f ->
  (∀p∈f,W.sameAt l p)->(∀p∈f,b p.block=true)->DataW.TrodAll enc P l 0 b true c i j f
 | [],[],[],_,_,h,_,_=>h
 | t::c,v::i,d::j,_,hr,⟨p,q,h1,h2,e⟩,hs,hp=>by
  subst e;have g:=hr t (by simp);exact⟨p,q,WideElems.Trod_stays k g.1 g.2 h1 (fun x a=>hs x (afa _ a)) (fun x a=>hp x (afa _ a)),
   yB k (fun t g=>hr t (agt _ g)) h2 (fun x a=>hs x (afb _ a)) (fun x a=>hp x (afb _ a)),rfl⟩
end
def XC {H:Type} {enc:TypeId×Value->H} {C:Checked} {T:Nat->Option Ty} {f:FuncId} {c:Func} {s:ChangeSpec} {g fresh i o:Bool} {X n:Nat} (hT:iI C.prog T)
  (hl:laidOutB C.prog=true) (F:(c.params.toList.all fun t=>C.prog.readableRec t&&decide (t<C.prog.types.size)&&UJ T n t)=true)
  (m:c.resultTypes = #[X]) (w:C.prog.underlying X=some .bool) (G:s.vars=[])
  (hs:∀ds:List (DataW H),ds.length=c.params.toList.length->(s.fn H ds).results=[.lit (.bool true)]∧(s.fn H ds).args=ds∧(s.fn H ds).vars=[])
  (I:∀y:List D,y.length=c.params.toList.length->(∀(j:Nat) t,c.params.toList[j]? = some t->∃x,y[j]? = some x∧vB T n t x)->PW C.prog f y (.bool true))
  {W:World} {base:Nat} {args:Array Value} {ds Y:List (DataW H)} {l:List MemPlace}
  (hval:∀(j:Nat) t v,c.params[j]? = some t->args[j]? = some v->Value.okWide C.prog W .any base t v) (Z:DataW.Whole enc C.prog c.params.toList s.vars g W args.toList ds Y l)
  (r:(DataW.weightsEach C.prog (c.params.toList++s.plain.varTypes C.prog) (ds++Y)).all (·<=reachBytes)=true) (z:T0 W (fun _=>False)) :
  Calls C.prog f args W fun e J=>∃v,e=.returned v∧s.post enc C.prog c g fresh i o W args v J:=by
 have A:=Z;obtain⟨p,q,K,hV,rfl,aa,ab⟩:=Z;rw[G]at hV;obtain⟨rfl,rfl⟩:=trodVars_none hV;simp only[ae7,afx,decide_eq_true_eq]at F;obtain⟨y,h1,L,h3,h4⟩:=HR (P:=C.prog) hT (M:=fun _=>False) (fun b _ _ h=>h) (n:=n) (b0:=base) c.params.toList args.toList ds p K
  (fun j t v a b=>hval j t v (by simpa using a) (by simpa using b)) (fun t N=>(F t N).2) (fun k hk=>by
   rw[ae7]at r;have O:s.plain.varTypes C.prog=[]:=by unfold ChangeSpec.plain;simp only[G];rfl
   rw[O,agO,agO]at r;have h:=r k hk;rw[decide_eq_true_eq]at h;exact h)
 refine (I y h3 h4 W (fun _=>False) args (fun b h=>h.elim) ⟨by simpa using h1.symm,fun j x hj =>?_,z⟩).mono fun e J hG =>?_
 ·obtain⟨v,g1,g2⟩:=L j x hj;have Q:args[j]? = some v:=by simpa using g1
  rw[ae1,Q];exact g2
 ·obtain⟨v,rfl,hb,R⟩:=hG;have S:RP J (fun _=>False) (.bool true) v:=R;cases S;have B:ds.length=c.params.toList.length:=by
   have:∀ {E:List TypeId} {u:List Value} {ds:List (DataW H)} {U:List MemPlace},DataW.TrodAll enc C.prog W 0 (fun _=>true) true E u ds U->ds.length=E.length:=by
    intro E
    induction E with
    | nil=>intro u ds U h;cases u<;>cases ds<;>first|rfl|exact h.elim
    | cons t E ih =>
     intro u ds U h;cases u with
     | nil=>exact h.elim
     | cons v u=>cases ds with
      | nil=>exact h.elim
      | cons d ds=>obtain⟨_,_,_,L,_⟩:=h;simp[ih L]
   exact this K
  obtain⟨e1,e2,e3⟩:=hs ds B;refine⟨_,rfl,Hp (pa:=p) (pv:=[]) A ?_ ?_ ?_ (by simp) hb ?_⟩
  ·intro b sp hd;rw[agO,e1,m];exact trodAll_mk1 ⟨1,by simp[DataW.trod,w,Value.cells]⟩
  ·intro sp hsp;rw[agO,e2];refine yB hl (fun t N=>(F t N).1) K (fun x V=>hb.same (A.lt x (by simpa using V))) (fun x V=>hsp x (by simpa using V))
  ·intro sp _;rw[agO,e3,G];rfl
  ·exact ok_one m rfl (by simp[Value.okWide,w,Cell.okWide,Cell.ok])
def Rs {H:Type} {enc:TypeId×Value->H} {C:Checked} {u:Os} {T:Nat->Option Ty} {f:FuncId} {k:Func} {s:ChangeSpec} {d:List PathCond} {a fresh e m:Bool} {tb n:Nat}
  (I:iI C.prog T) (own:ownKnob C.prog.godebug=none) (g:u.Started) (l:C.prog.inits.idxOf? f=none) (v:C.prog.funcs[f]? = some k)
  (h:∃(w:World) (c:Tape) (i:Input),w.os=u∧(w.forCall c i).Shaped C.prog∧i.vars=[]∧Input.okWide C.prog (w.forCall c i) .any w.heap.size f i ∧
   s.pre6 enc C.prog k d a (w.forCall c i).memory i.args∧({} : Assume).holds C.prog (lone (Frame.enter C.prog f i.args .normal) [] (w.forCall c i)))
  (J:laidOutB C.prog=true) (K:(k.params.toList.all fun t=>C.prog.readableRec t&&decide (t<C.prog.types.size)&&UJ T n t)=true)
  (p:k.resultTypes = #[tb]) (y:C.prog.underlying tb=some .bool) (L:s.vars=[])
  (M:∀o:List (DataW H),o.length=k.params.toList.length->(s.fn H o).results=[.lit (.bool true)]∧(s.fn H o).args=o∧(s.fn H o).vars=[])
  (z:∀A:List D,A.length=k.params.toList.length->(∀(j:Nat) t,k.params.toList[j]? = some t->∃x,A[j]? = some x∧vB T n t x)->PW C.prog f A (.bool true)) (B:XU=none:=by rfl) :
  ReturnsInHanded {} C u f .any (s.pre6 enc C.prog k d a) (s.post enc C.prog k a fresh e m):=by
 apply returnsInHanded_of_change_sized own g l v h;intro W base F o O r q N _ E _;exact XC I J K p y L M z q N E (fun b G=>by rw[B]at G;cases G)
end Go.Proofs.YtekhokjkphgphaaGreat.Am
namespace Go.Proofs.YtekhokjkphgphaaGreat.Am
open Go.RowKit
def ab1 {T:Nat->Option Ty} {n t:Nat} {b:List D} (h:b.length=[t].length) (c:∀(j:Nat) u,[t][j]? = some u->∃x,b[j]? = some x∧vB T n u x):∃a,b=[a]∧vB T n t a:=by
 match b,h with
 | [a],_=>obtain⟨x,d,e⟩:=c 0 t rfl;cases d;exact⟨a,rfl,e⟩
def ab2 {T:Nat->Option Ty} {n t:Nat} {b:List Nat} {c:List D} (h:c.length=(t::b).length) (d:∀(j:Nat) u,(t::b)[j]? = some u->∃x,c[j]? = some x∧vB T n u x) :
  ∃a aeS,c=a::aeS∧vB T n t a∧aeS.length=b.length∧∀(j:Nat) u,b[j]? = some u->∃x,aeS[j]? = some x∧vB T n u x:=by
 match c,h with
 | a::aeS,h =>
  obtain⟨x,e,f⟩:=d 0 t rfl;cases e;exact⟨a,aeS,rfl,f,by simpa using h,fun j u g=>by simpa using d (j+1) u (by simpa using g)⟩
section
variable {T:Nat->Option Ty} {n t:Nat} {τ:Ty} {d:D}
def Yr {k:IntKind} (h:vB T (n+1) t d) (a:T t=some τ) (b:τ.ds=.int k):∃i,d=.int k i∧(Lit.int k i).wf=true:=by
 simp only[vB,a,b,Ds.tw,afv,if_false,Dk]at h;obtain⟨_,i,c,e⟩:=h;cases c;exact⟨i,rfl,e⟩
def Qa {fs:List (Nat×Nat)} (h:vB T n t d) (b:T t=some τ) (c:τ.ds=.struct fs):∃a,d=.agg a∧Dk T n t a:=by
 simp only[vB,b,c,Ds.tw,if_true]at h;exact h
def Zx {k:IntKind} {a:List D} (h:Dk T (n+1) t a) (b:T t=some τ) (c:τ.ds=.int k):∃i,a=[.int k i]∧(Lit.int k i).wf=true:=by
 simp only[Dk,b,c]at h;exact h.2
def Zy {a:List D} (h:Dk T (n+1) t a) (b:T t=some τ) (c:τ.ds=.str):∃s:ByteArray,a=[.str s]∧s.size<=140737488351232:=by
 simp only[Dk,b,c]at h;exact h.2
def Va {e:Nat} {φ:Ty} {c:List D} (h:Dk T (n+1) t c) (f:T t=some τ) (g:τ.ds=.slice e) (j:T e=some φ) :
  ∃a b,c=[.sl false false a b]∧a*φ.bytes<=140737488351232∧b.length=a*φ.size∧∀i,i<a->Dk T n e ((b.drop (i*φ.size)).take φ.size):=by
 simp only[Dk,f,g]at h;obtain⟨_,a,b,ψ,k,l,d,m,o⟩:=h;rw[j]at d;cases d;exact⟨a,b,k,l,m,o⟩
def RR {fs:List (Nat×Nat)} {a:List D} (h:Dk T (n+1) t a) (b:T t=some τ) (c:τ.ds=.struct fs):a.length=τ.size∧∀f∈fs,∃φ,T f.1=some φ∧Dk T n f.1 ((a.drop f.2).take φ.size):=by
 simp only[Dk,b,c]at h;exact h
end
end Go.Proofs.YtekhokjkphgphaaGreat.Am
namespace Go.Proofs.YtekhokjkphgphaaGreat.Am
open Go.RowKit Go.Proofs.YtekhokjkphgphaaGreat.P
def AG {α:Type} (T:Nat->Option Ty) (n t:Nat) (E:jS α) (b:α->Prop):Prop:=(∃φ,T t=some φ∧φ.size=E.size)∧∀a,Dk T n t a->∃x,a=E.cells x∧b x
section
variable {T:Nat->Option Ty} {n t:Nat} {τ:Ty}
def opI {k:IntKind} (a:T t=some τ) (b:τ.ds=.int k) (c:τ.size=1):AG T (n+1) t (eI k) (fun i=>(Lit.int k i).wf=true):=⟨⟨τ,a,c⟩,fun _ h=>Zx h a b⟩
def acr (a:T t=some τ) (b:τ.ds=.str) (c:τ.size=1):AG T (n+1) t aaO (fun s=>s.size<=140737488351232):=⟨⟨τ,a,c⟩,fun _ h=>Zy h a b⟩
def aat {α:Type} (E:jS α) (d:α->Prop):∀(len:Nat) (a:List D),a.length=len*E.size->(∀i,i<len->∃x,(a.drop (i*E.size)).take E.size=E.cells x∧d x)->∃l:List α,l.length=len∧a=ae E l∧∀x∈l,d x
 | 0,a,e,_=>⟨[],rfl,by simpa [ae] using e,fun x c=>by simp at c⟩
 | len+1,a,e,h=>by
  obtain⟨x,c,f⟩:=h 0 (by omega);obtain⟨l,j,k,m⟩:=aat E d len (a.drop E.size) (by rw[afg,e,afS];omega) (fun i n=>by
   obtain⟨y,b,g⟩:=h (i+1) (by omega);refine⟨y,?_,g⟩;rw[agK];rw[afS,Nat.add_comm]at b;exact b)
  rw[Nat.zero_mul,agk]at c;refine⟨x::l,by simp[j],?_,fun y b =>?_⟩
  ·rw[bP,<- k,<- c,agL]
  ·rcases ae3.1 b with rfl|b
   ·exact f
   ·exact m y b
def OF {α:Type} {E:jS α} {a:α->Prop} {e:Nat} (c:T t=some τ) (m:τ.ds=.slice e) (o:τ.size=1) {B:Nat} (d:(T e).map (·.bytes)=some B) (p:AG T n e E a):AG T (n+1) t (hZ E) (fun l=>l.length*B<=140737488351232∧∀x∈l,a x):=by
 obtain⟨⟨φ,f,q⟩,hx⟩:=p;have r:φ.bytes=B:=by rw[f]at d;simpa using d
 refine⟨⟨τ,c,o⟩,fun A h =>?_⟩;obtain⟨b,s,u,g,j,k⟩:=Va h c m f;rw[q]at j k;rw[r]at g;obtain⟨l,v,w,y⟩:=aat E a b s j fun i z=>hx _ (k i z);subst v w;exact⟨l,u,g,y⟩
def OpF {α:Type} (T:Nat->Option Ty) (n:Nat) (fs:List (Nat×Nat)) (o:Nat) (E:jS α) (b:α->Prop):Prop :=
 ∀a:List D,a.length=o+E.size->(∀f∈fs,∃φ,T f.1=some φ∧Dk T n f.1 ((a.drop f.2).take φ.size))->∃x,a.drop o=E.cells x∧b x
def Ho {α:Type} {E:jS α} {b:α->Prop} {a o:Nat} (h:AG T n a E b):OpF T n [(a,o)] o E b:=by
 obtain⟨⟨φ,d,i⟩,e⟩:=h;intro j k f;obtain⟨ψ,g,c⟩:=f (a,o) (by simp);cases d.symm.trans g;rw[agj (by rw[afg];omega)]at c;exact e _ c
def yd {α β:Type} {E:jS α} {ok:α->Prop} {b:jS β} {a:β->Prop} {c o k:Nat} {fs:List (Nat×Nat)} (h:AG T n c E ok) (m:k=o+E.size) (p:OpF T n fs k b a):OpF T n ((c,o)::fs) o (oP E b) (fun x=>ok x.1∧a x.2):=by
 subst m;obtain⟨⟨φ,q,r⟩,s⟩:=h;intro l t hf;obtain⟨ψ,u,v⟩:=hf (c,o) (by simp);cases q.symm.trans u;obtain⟨x,d,e⟩:=s _ v;obtain⟨y,g,i⟩:=p l (by rw[t];show o+(E.size+b.size)=_;omega) fun f j=>hf f (agt _ j);refine⟨(x,y),?_,e,i⟩;show l.drop o=E.cells x++b.cells y;rw[<- d,<- g,<- r,<- agK,agL]
def Yi {α β:Type} {E:jS β} {ok:β->Prop} {f:α->β} {e:∀x y,f x=f y->x=y} {g:β->α} {fs:List (Nat×Nat)} (a:T t=some τ) (i:τ.ds=.struct fs) (b:τ.size=E.size) (c:∀y,f (g y)=y) (h:OpF T n fs 0 E ok):AG T (n+1) t (Ev E f e) (fun x=>ok (f x)):=by
 refine⟨⟨τ,a,b⟩,fun d j =>?_⟩;obtain⟨k,l⟩:=RR j a i;obtain⟨y,m,o⟩:=h d (by rw[k,b,afH]) l;refine⟨g y,?_,?_⟩
 ·show d=E.cells (f (g y));rw[c,<- m,agk]
 ·show ok (f (g y));rw[c];exact o
def OpA {α:Type} (T:Nat->Option Ty) (n t:Nat) (A:Arg α) (a:α->Prop):Prop:=∀d,vB T n t d->∃x,d=A.d x∧a x
def oaI {k:IntKind} (a:T t=some τ) (b:τ.ds=.int k):OpA T (n+1) t (aI k) (fun i=>(Lit.int k i).wf=true):=fun _ h=>Yr h a b
def oaS {α:Type} {E:jS α} {b:α->Prop} {fs:List (Nat×Nat)} (c:T t=some τ) (e:τ.ds=.struct fs) (f:AG T n t E b):OpA T n t (bo E) b:=fun d h=>by
 obtain⟨i,rfl,a⟩:=Qa h c e;obtain⟨x,a,g⟩:=f.2 _ a;exact⟨x,by rw[a];rfl,g⟩
def VA {α:Type} (T:Nat->Option Ty) (n:Nat) (b:List Nat) (A:jR α) (c:α->Prop):Prop:=∀a:List D,a.length=b.length->(∀(j:Nat) u,b[j]? = some u->∃x,a[j]? = some x∧vB T n u x)->∃x,a=A.ds x∧c x
def aef {α:Type} {A:Arg α} {b:α->Prop} (h:OpA T n t A b):VA T n [t] (dc A) b:=fun g c d=>by
 obtain⟨a,rfl,e⟩:=ab1 c d;obtain⟨x,rfl,f⟩:=h a e;exact⟨x,rfl,f⟩
def acp {α β:Type} {A:Arg α} {ok:α->Prop} {B:jR β} {b:β->Prop} {e:List Nat} (h:OpA T n t A ok) (g:VA T n e B b):VA T n (t::e) (fl A B) (fun x=>ok x.1∧b x.2):=fun f i j=>by
 obtain⟨a,f,rfl,k,c,d⟩:=ab2 i j;obtain⟨x,rfl,l⟩:=h a k;obtain⟨y,rfl,m⟩:=g f c d;exact⟨(x,y),rfl,l,m⟩
def aa1 {P:Program} {f:FuncId} {α:Type} {A:jR α} {F:α->Option Bool} {c:α->Prop} {b:List Nat} (d:VA T n b A c) (e:bK P f (di A F (fun r =>.clean (.bool r)))) (h:∀x,c x->F x=some true) (a:List D) (g:a.length=b.length)
  (i:∀(j:Nat) u,b[j]? = some u->∃x,a[j]? = some x∧vB T n u x):PW P f a (.bool true):=by
 obtain⟨x,rfl,k⟩:=d a g i;refine e.calls none _ _ none ?_;rw[cB,h x k];rfl
end
end Go.Proofs.YtekhokjkphgphaaGreat.Am
namespace Go.Proofs.YtekhokjkphgphaaGreat.P
open Go.RowKit
def LC (l:List Int):Option (List Int):=some l
def DA (l:List Int):Option (List Int):=if l.length*8<=140737488351232 then some (pM l) else none
end Go.Proofs.YtekhokjkphgphaaGreat.P
namespace Go.Proofs
open Go.Shelf
def Tryz.NQ:Go.Shelf.Ren:=⟨fun|189=>118|125=>62|257=>140|128=>99|129=>100|294=>144|295=>145|296=>146|297=>147|298=>148|299=>149|216=>150|300=>151|301=>152|328=>153|329=>125|330=>126|331=>154|332=>155|215=>101|343=>156|n=>n,fun|28=>22|3=>3|46=>99|0=>0|51=>126|53=>128|4=>4|183=>119|182=>118|131=>123|5=>5|9=>9|218=>141|222=>145|228=>154|229=>155|n=>n,fun|n=>n⟩
def Tryz.S3:Go.Proofs.Lays.n189 prog Tryz.NQ:={
 mixed:=by kernel_rfl
 f125:=Tryz.func62.trans (congrArg some (by kernel_rfl))
 f128:=Tryz.func99.trans (congrArg some (by kernel_rfl))
 f129:=Tryz.func100.trans (congrArg some (by kernel_rfl))
 f189:=Tryz.func118.trans (congrArg some (by kernel_rfl))
 f215:=Tryz.func101.trans (congrArg some (by kernel_rfl))
 f216:=Tryz.func150.trans (congrArg some (by kernel_rfl))
 f257:=Tryz.func140.trans (congrArg some (by kernel_rfl))
 f294:=Tryz.func144.trans (congrArg some (by kernel_rfl))
 f295:=Tryz.func145.trans (congrArg some (by kernel_rfl))
 f296:=Tryz.func146.trans (congrArg some (by kernel_rfl))
 f297:=Tryz.func147.trans (congrArg some (by kernel_rfl))
 f298:=Tryz.func148.trans (congrArg some (by kernel_rfl))
 f299:=Tryz.func149.trans (congrArg some (by kernel_rfl))
 f300:=Tryz.func151.trans (congrArg some (by kernel_rfl))
 f301:=Tryz.func152.trans (congrArg some (by kernel_rfl))
 f328:=Tryz.func153.trans (congrArg some (by kernel_rfl))
 f329:=Tryz.func125.trans (congrArg some (by kernel_rfl))
 f330:=Tryz.func126.trans (congrArg some (by kernel_rfl))
 f331:=Tryz.func154.trans (congrArg some (by kernel_rfl))
 f332:=Tryz.func155.trans (congrArg some (by kernel_rfl))
 f343:=Tryz.func156.trans (congrArg some (by kernel_rfl))
 t0:=underlying0
 a0:=isAgg0
 z0:=sizeOf0
 v0:=zeroValue0
 t3:=underlying3
 a3:=isAgg3
 z3:=sizeOf3
 v3:=zeroValue3
 t4:=underlying4
 a4:=isAgg4
 z4:=sizeOf4
 v4:=zeroValue4
 t5:=underlying5
 a5:=isAgg5
 z5:=sizeOf5
 v5:=zeroValue5
 t9:=underlying9
 a9:=isAgg9
 z9:=sizeOf9
 v9:=zeroValue9
 t28:=underlying22
 a28:=isAgg22
 z28:=sizeOf22
 v28:=zeroValue22
 t46:=underlying99
 a46:=isAgg99
 z46:=sizeOf99
 v46:=zeroValue99
 t51:=underlying126
 a51:=isAgg126
 z51:=sizeOf126
 v51:=zeroValue126
 t53:=underlying128
 a53:=isAgg128
 z53:=sizeOf128
 v53:=zeroValue128
 t131:=underlying123
 a131:=isAgg123
 z131:=sizeOf123
 v131:=zeroValue123
 t182:=underlying118
 a182:=isAgg118
 z182:=sizeOf118
 v182:=zeroValue118
 t183:=underlying119
 a183:=isAgg119
 z183:=sizeOf119
 v183:=zeroValue119
 t218:=underlying141
 a218:=isAgg141
 z218:=sizeOf141
 v218:=zeroValue141
 t222:=underlying145
 a222:=isAgg145
 z222:=sizeOf145
 v222:=zeroValue145
 t228:=underlying154
 a228:=isAgg154
 z228:=sizeOf154
 v228:=zeroValue154
 t229:=underlying155
 a229:=isAgg155
 z229:=sizeOf155
 v229:=zeroValue155 }
def Tryz.Rw:Go.Shelf.Ren:=⟨fun|6=>34|15=>62|14=>61|28=>99|29=>100|20=>91|21=>92|22=>93|23=>94|24=>95|25=>96|26=>97|27=>98|46=>124|47=>125|48=>126|49=>127|50=>128|57=>143|n=>n,fun|22=>26|24=>50|25=>72|3=>3|39=>99|0=>0|53=>126|55=>128|4=>4|46=>119|45=>118|50=>123|5=>5|9=>9|66=>141|70=>145|76=>154|77=>155|n=>n,fun|n=>n⟩
def Tryz.XN:Go.Proofs.SlLaysF0.n6 prog Tryz.Rw:={
 mixed:=by kernel_rfl
 f6:=⟨Tryz.f34.name,by decide,Tryz.func34.trans (congrArg some (by kernel_rfl))⟩
 f14:=⟨Tryz.f61.name,by decide,Tryz.func61.trans (congrArg some (by kernel_rfl))⟩
 f15:=Tryz.func62.trans (congrArg some (by kernel_rfl))
 f20:=⟨Tryz.f91.name,by decide,Tryz.func91.trans (congrArg some (by kernel_rfl))⟩
 f21:=⟨Tryz.f92.name,by decide,Tryz.func92.trans (congrArg some (by kernel_rfl))⟩
 f22:=⟨Tryz.f93.name,by decide,Tryz.func93.trans (congrArg some (by kernel_rfl))⟩
 f23:=⟨Tryz.f94.name,by decide,Tryz.func94.trans (congrArg some (by kernel_rfl))⟩
 f24:=⟨Tryz.f95.name,by decide,Tryz.func95.trans (congrArg some (by kernel_rfl))⟩
 f25:=⟨Tryz.f96.name,by decide,Tryz.func96.trans (congrArg some (by kernel_rfl))⟩
 f26:=⟨Tryz.f97.name,by decide,Tryz.func97.trans (congrArg some (by kernel_rfl))⟩
 f27:=⟨Tryz.f98.name,by decide,Tryz.func98.trans (congrArg some (by kernel_rfl))⟩
 f28:=Tryz.func99.trans (congrArg some (by kernel_rfl))
 f29:=Tryz.func100.trans (congrArg some (by kernel_rfl))
 f46:=⟨Tryz.f124.name,by decide,Tryz.func124.trans (congrArg some (by kernel_rfl))⟩
 f47:=Tryz.func125.trans (congrArg some (by kernel_rfl))
 f48:=Tryz.func126.trans (congrArg some (by kernel_rfl))
 f49:=⟨Tryz.f127.name,by decide,Tryz.func127.trans (congrArg some (by kernel_rfl))⟩
 f50:=⟨Tryz.f128.name,by decide,Tryz.func128.trans (congrArg some (by kernel_rfl))⟩
 f57:=⟨Tryz.f143.name,by decide,Tryz.func143.trans (congrArg some (by kernel_rfl))⟩
 t0:=underlying0
 a0:=isAgg0
 z0:=sizeOf0
 v0:=zeroValue0
 t3:=underlying3
 a3:=isAgg3
 z3:=sizeOf3
 v3:=zeroValue3
 t4:=underlying4
 a4:=isAgg4
 z4:=sizeOf4
 v4:=zeroValue4
 t5:=underlying5
 a5:=isAgg5
 z5:=sizeOf5
 v5:=zeroValue5
 t9:=underlying9
 a9:=isAgg9
 z9:=sizeOf9
 v9:=zeroValue9
 t22:=underlying26
 a22:=isAgg26
 z22:=sizeOf26
 v22:=zeroValue26
 t25:=underlying72
 a25:=isAgg72
 z25:=sizeOf72
 v25:=zeroValue72
 t39:=underlying99
 a39:=isAgg99
 z39:=sizeOf99
 v39:=zeroValue99
 t45:=underlying118
 a45:=isAgg118
 z45:=sizeOf118
 v45:=zeroValue118
 t46:=underlying119
 a46:=isAgg119
 z46:=sizeOf119
 v46:=zeroValue119
 t50:=underlying123
 a50:=isAgg123
 z50:=sizeOf123
 v50:=zeroValue123
 t53:=underlying126
 a53:=isAgg126
 z53:=sizeOf126
 v53:=zeroValue126
 t55:=underlying128
 a55:=isAgg128
 z55:=sizeOf128
 v55:=zeroValue128
 t66:=underlying141
 a66:=isAgg141
 z66:=sizeOf141
 v66:=zeroValue141
 t70:=underlying145
 a70:=isAgg145
 z70:=sizeOf145
 v70:=zeroValue145
 t76:=underlying154
 a76:=isAgg154
 z76:=sizeOf154
 v76:=zeroValue154
 t77:=underlying155
 a77:=isAgg155
 z77:=sizeOf155
 v77:=zeroValue155 }
end Go.Proofs
namespace Go.Proofs.YtekhokjkphgphaaGreat.Am
open Go.RowKit Go.Proofs.YtekhokjkphgphaaGreat.P
def Sf {w:World} {M:Nat->Prop} {k:IntKind} {l:List Int} {u:Value} (h:RP w M (.sl false false l.length (ae (eI k) l)) u) :
  ∃A c,u=.slice A l.length c∧l.length<=c∧c<=maxLen∧(A=none->l.length=0∧c=0)∧(l≠[]->∃b o,A=some ⟨b,o,none⟩∧b<w.heap.size∧¬M b∧∀j,j<l.length->w.cell? ⟨b,o+j,none⟩=some (.int k (l.getD j 0))):=by
 cases h with
 | sl A c nl tight n xs us h1 h2 h3 h4 h5 h6 h7 h8 =>
  refine⟨A,c,rfl,h1,h2,h4,fun e =>?_⟩;have a:ae (eI k) l≠[]:=by
   intro f;have:=congrArg List.length f;rw[p6]at this;exact e (aga this)
  obtain⟨b,o,rfl,g,i,m⟩:=h6 a;refine⟨b,o,rfl,g,i,fun j d =>?_⟩;rw[m j (by rw[p6];exact d)];have p:(ae (eI k) l)[j]? = some (.int k (l.getD j 0)):=by rw[v7];simp[List.getD,d]
  rw[aaC (h7 j _ p)]
end Go.Proofs.YtekhokjkphgphaaGreat.Am
namespace Go.Proofs.YtekhokjkphgphaaGreat.Am
open Go.RowKit Go.Shelf Go.Proofs.YtekhokjkphgphaaGreat.P
attribute [local go_sem] Oper.semAt_some
def upto (f:Nat->Int) (k:Nat):List Int:=(List.range k).map f
def JV (f:Nat->Int) (k:Nat):upto f (k+1)=upto f k++[f k]:=by simp[upto,ahE]
def PF (f:Nat->Int) (k:Nat):(upto f k).length=k:=by simp[upto]
def X7 (zs:List Int):upto (fun j=>zs[j]?.getD 0) zs.length=zs:=by
 apply List.ext_getElem
 ·simp[upto]
 ·intro i b a;simp[upto,a]
def Vd (zs:List Int) {k:Nat} (a:k<=zs.length):upto (fun j=>zs[j]?.getD 0) k=zs.take k:=by
 apply List.ext_getElem
 ·simp[upto,a]
 ·intro i b c;have:i<zs.length:=by simp[upto]at b;omega
  simp[upto,this]
set_option maxRecDepth 100000 in
set_option maxHeartbeats 2000000 in
def RW (F:Fence) (n:Nat) (h7:F.fn 119) (hro:F.round=none) (hn:1<=n) (l Bs Bo n₀ b off len cap:Nat) (zs:List Int) (hreach:len*8<=140737488351232) (hb:b<n₀) (J Jx:List Int->World->Prop)
  (hY:∀pre x W,J pre W->pre.length<len->YieldAt F (n-1) prog l #[.int .i64 x] W fun e W' =>
   (e=.returned (.bool true)∧J (pre++[x]) W'∧Below n₀ W W')∨(e=.returned (.bool false)∧Jx (pre++[x]) W'))
  (W:World) (hBs:W.cell? ⟨Bs,Bo,none⟩=some (.slice (some ⟨b,off,none⟩) len cap)) (hc:∀j,j<len->W.cell? ⟨b,off+j,none⟩=some (.int .i64 (zs[j]?.getD 0))) (h0:J [] W) :
  CallsIn F n prog 119 #[.func (.yield l) #[] #[],.pointer (some ⟨Bs,Bo,none⟩)] W fun e W'=>(∃v,e=.returned v) ∧
   ((∃ys,ys=upto (fun j=>zs[j]?.getD 0) len∧J ys W')∨(∃pre,(∃k,k<=len∧pre=upto (fun j=>zs[j]?.getD 0) k)∧Jx pre W')):=by
 refine callsIn_of_wp func119 rfl h7 ?_ hro;simp only[ntmps119,agb,List.length_cons,List.length_nil,Nat.reduceAdd,Nat.reduceSub,ahI,Array.replicate_zero,ahK,ahL,List.nil_append,List.cons_append]
 gi_wp2
 gi_loopw [7] (fun i wr=>∃k:Nat,k<=len∧i=.int .i64 k∧J (upto (fun j=>zs[j]?.getD 0) k) wr∧Below n₀ W wr)
  (fun i _=>len-(intOf i).toNat)
 case atStart=>exact⟨0,aeY _,rfl,h0,Below.refl _ _⟩
 case round =>
  obtain⟨k,hk,rfl,hJs,hnx⟩:=hrel;have hcx:k<len->wr.cell? ⟨b,off+k,none⟩=some (.int .i64 (zs[k]?.getD 0)):=fun h=>(hnx.cell (p:=⟨b,off+k,none⟩) hb).trans (hc k h)
  by_cases hlt:k<len
  ·obtain⟨fn,tmps,assign,body,hy,hR⟩:=hY _ (zs[k]?.getD 0) wr hJs (by rw[PF];exact hlt);have hcx':=hcx hlt
   gi_wp2
   apply hR.mono;rintro e W3 (⟨rfl,hJ3,hk3⟩|⟨rfl,hJx3⟩)
   ·gi_wp2
    go_roundw
    case rel=>exact⟨k+1,by omega,by simp,by rw[JV];exact hJ3,hnx.trans hk3⟩
    case measure=>simp[intOf];omega
   ·gi_wp2
    refine bodyPost_ret (results_none rfl _ _ _) rfl ?_;exact⟨⟨_,rfl⟩,.inr ⟨_,⟨k+1,by omega,(JV _ _).symm⟩,hJx3⟩⟩
  ·obtain rfl:k=len:=by omega
   gi_wp2
   go_end0
   exact⟨⟨_,rfl⟩,.inl ⟨_,rfl,hJs⟩⟩
set_option maxRecDepth 100000 in
set_option maxHeartbeats 1000000 in
def GS (F:Fence) (n:Nat) (h7:F.fn 119) (hro:F.round=none) (l Bs Bo cap:Nat) (A:Option Addr) (J:List Int->World->Prop) (W:World) (hBs:W.cell? ⟨Bs,Bo,none⟩=some (.slice A 0 cap)) (h0:J [] W) :
  CallsIn F n prog 119 #[.func (.yield l) #[] #[],.pointer (some ⟨Bs,Bo,none⟩)] W fun e W'=>(∃v,e=.returned v)∧J [] W':=by
 refine callsIn_of_wp func119 rfl h7 ?_ hro;simp only[ntmps119,agb,List.length_cons,List.length_nil,Nat.reduceAdd,Nat.reduceSub,ahI,Array.replicate_zero,ahK,ahL,List.nil_append,List.cons_append]
 gi_wp2
 gi_loopw [7] (fun i wr=>i=.int .i64 0∧J [] wr) (fun _ _=>0)
 case atStart=>exact⟨rfl,h0⟩
 case round =>
  obtain⟨rfl,hJs⟩:=hrel
  gi_wp2
  go_end0
  exact⟨⟨_,rfl⟩,hJs⟩
def Ints (g:Nat) (W:World) (f:Value) (d:List Int):Prop :=
 (∃A c,f=.slice A 0 c∧d=[])∨∃b a e,f=.slice (some ⟨b,a,none⟩) d.length e∧b<g∧∀j,j<d.length->W.cell? ⟨b,a+j,none⟩=some (.int .i64 (d[j]?.getD 0))
def Ints.below {a:Nat} {A B:World} (h:Below a A B) {c:Value} {d:List Int} : Ints a A c d->Ints a B c d
 | .inl e =>.inl e
 | .inr ⟨b,off,cap,e,f,g⟩ =>.inr ⟨b,off,cap,e,f,fun j i=>(h.cell (p:=⟨b,off+j,none⟩) f).trans (g j i)⟩
def LD (F:Fence) (n:Nat) (v:F.fn 119) (g:F.round=none) (C:1<=n) (f h m:Nat) (y:Value) (a:List Int) (d:a.length*8<=140737488351232) (w:World) (q:f<w.heap.size) (r:m<=w.heap.size)
  (D:w.cell? ⟨f,h,none⟩=some y) (E:Ints m w y a) :
  SeqStopsK F n prog 119 #[.pointer (some ⟨f,h,none⟩)] (fun x:Int=>#[Value.int .i64 x]) (Below m) (fun ys=>ys=a) (fun pre=>pre <+: a) a.length w:=fun l J G W z _ _ H B=>by
 have i:=(z.cell (p:=⟨f,h,none⟩) q).trans D;rcases E.below (z.mono r) with⟨A,c,rfl,rfl⟩|⟨b,s,t,rfl,I,u⟩
 ·exact (GS F n v g l f h _ _ J W i B).mono fun e K ⟨o,j⟩=>⟨o,.inl ⟨_,rfl,j⟩⟩
 ·refine (RW F n v g C l f h m b s a.length t a d I J G H W i u B).mono ?_;rintro e K ⟨o,⟨ys,rfl,j⟩|⟨pre,⟨k,L,rfl⟩,j⟩⟩
  ·exact⟨o,.inl ⟨_,X7 a,j⟩⟩
  ·exact⟨o,.inr ⟨_,by rw[Vd a L];exact List.take_prefix _ _,j⟩⟩
def acd:(Tryz.prog.info? 3).map (fun i=>(i.zero,i.size,i.bytes))=some (some (.int .i64 0),1,8):=by kernel_rfl
set_option maxRecDepth 100000 in
set_option maxHeartbeats 2000000 in
def appendSeq_in (F:Fence) (n:Nat) (h3:F.fn 139) (h7:F.fn 119) (hro:F.round=none) (hn:3<=n) (Bs Bo:Nat) (sv:Value) (zs:List Int) (hreach:zs.length*8<=140737488351232) (w:World)
  (hBs:Bs<w.heap.size) (hc:w.cell? ⟨Bs,Bo,none⟩=some sv) (hI:Ints w.heap.size w sv zs) :
  CallsIn F n prog 139 #[.slice none 0 0,.func (.func 119) #[] #[.pointer (some ⟨Bs,Bo,none⟩)]] w fun e W'=>∃v,e=.returned v∧W'.ownsRow w.heap.size 3 1 v zs.length (zs.map (Value.int .i64))∧(v=.slice none 0 0↔zs=[])∧Below w.heap.size w W':=by
 have h1:1<=n:=by omega
 obtain⟨i0,hi,hz0,hz1,hz2⟩:=info_parts acd;refine callsIn_of_wp_marks func139 rfl h3 ?_ hro;simp only[ntmps139,agb,List.length_cons,List.length_nil,Nat.reduceAdd,Nat.reduceSub,ahI,Array.replicate_zero,ahK,ahL,List.nil_append,List.cons_append]
 gi_wp2
 have bO:=Boxed.new w 22 (.slice none 0 0);have hB0:Below w.heap.size w (w.alloc (.cells #[.slice none 0 0] 22)):=(Below.refl _ w).alloc (aeX _) _;refine wpIn_rangeFunc_ownG hro h1 (gf:=119) (lb:=#[.pointer (some ⟨Bs,Bo,none⟩)]) rfl h7 (enters_of func119 (by kernel_rfl) rfl)
  (LD F (n-1) h7 hro (by omega) Bs Bo w.heap.size sv zs hreach _ (by simp;omega) (by simp) ((hB0.cell (p:=⟨Bs,Bo,none⟩) hBs).trans hc) (hI.below hB0)) belowK_t (belowK_b (by simp)) (Below.refl _ _) (fun _=>rfl)
  (fun pre W=>(∃v,Boxed W w.heap.size 22 v∧W.ownsRow w.heap.size 3 1 v pre.length (pre.map (Value.int .i64))∧(v=.slice none 0 0↔pre=[]))∧Below w.heap.size w W)
  (fun _ _ _=>False)
  (OwnFrom.and (Own.from (holdsRow_own w.heap.size w.heap.size 22 3 1 (fun pre=>pre.length) (fun pre=>pre.map (Value.int .i64)) (fun pre v=>v=.slice none 0 0↔pre=[])) _) (ownFrom_below (aeX _) (by simp)))
  (fun _ _ _ _ _ hs _ _=>hs)
  ⟨⟨_,bO,World.ownsRow_nil _ _ _ _,by simp⟩,hB0⟩
  (fun x=>{ tmps:=#[.slice none 0 0,.func (.func 119) #[] #[.pointer (some ⟨Bs,Bo,none⟩)],.pointer (some ⟨w.heap.size,0,none⟩),undef,.slice none 0 0,.int .i64 x,.func (.func 119) #[] #[.pointer (some ⟨Bs,Bo,none⟩)],.int .i64 x,undef,undef,undef,undef,undef],defers:=[] }) ?assign ?body ?done ?stop
 case assign =>
  intro l x W K hK
  gi_wp2
  exact hK
 case body =>
  rintro l pre x W ⟨⟨v,hv,hrow,hnil⟩,hB⟩ hlt;have hc:=hv.cell
  gi_wp2_with (gi_at_builtin;refine wpListIn_append_own _ rfl _ _ 22 rfl w.heap.size 3 i0 (.int .i64 0) 1 8 underlying22 hi hz0 hz1 hz2 rfl (by decide) _ _ _ rfl (hrow.alloc _) ⟨W.heap.size,0,none⟩ 1 1 [.int .i64 x] rfl rfl (cell_one_new _ _ _) (by simp[Value.oneCell']) (by unfold maxLen;omega) (by omega) (by have:=hB.size;simp;omega) ?_;intro v' w1 hown' hgrow _;obtain⟨g',cap',rfl⟩:=ownsRow_succ hown';obtain⟨hv1,hv2,hr2,hk2,hb2⟩:=hv.appended (by decide) hrow hB.size (aeX _) hown' hgrow;have hc1:=hv1.cell;have hf1:=hv1.frozen)
  exact⟨hk2.from _,hb2,⟨_,hv2,by simpa using hr2,by simp⟩,hB.trans hb2⟩
 case done =>
  rintro D ys W hD rfl ⟨⟨v,hv,hrow,hnil⟩,hB⟩ hK;have hc:=hv.cell
  gi_wp2
  refine⟨by simp,.inl ⟨_,_,rfl,run_takeDeferred hK,?_⟩⟩;exact⟨_,results_tmp rfl _ _ _,v,rfl,ownsRow_putObj hrow _ hK rfl,hnil,hB.trans (belowK_b (w:=w) (aeX _) W D _ _ (by simp at hD;omega) hK rfl rfl)⟩
 case stop =>
  rintro D c pre W _ _ h _;exact h.elim
set_option maxHeartbeats 1000000 in
def collect_in (F:Fence) (n:Nat) (h2:F.fn 117) (h3:F.fn 139) (h7:F.fn 119) (hro:F.round=none) (hn:4<=n) (Bs Bo:Nat) (sv:Value) (zs:List Int) (hreach:zs.length*8<=140737488351232) (w:World)
  (hBs:Bs<w.heap.size) (hc:w.cell? ⟨Bs,Bo,none⟩=some sv) (hI:Ints w.heap.size w sv zs) :
  CallsIn F n prog 117 #[.func (.func 119) #[] #[.pointer (some ⟨Bs,Bo,none⟩)]] w fun e W'=>∃v,e=.returned v∧W'.ownsRow w.heap.size 3 1 v zs.length (zs.map (Value.int .i64))∧(v=.slice none 0 0↔zs=[])∧Below w.heap.size w W':=by
 have h1:1<=n:=by omega
 refine callsIn_of_wp func117 rfl h2 ?_ hro;simp only[ntmps117,agb,List.length_cons,List.length_nil,Nat.reduceAdd,Nat.reduceSub,ahI,Array.replicate_zero,ahK,ahL,List.nil_append,List.cons_append]
 gi_wp2_with (gi_at_call 139;refine (appendSeq_in F (n-1) h3 h7 hro (by omega) Bs Bo sv zs hreach _ hBs hc hI).mono ?_;rintro e w' ⟨v,rfl,hrow,hnil,hb⟩)
 go_ret
 exact⟨v,rfl,hrow,hnil,hb⟩
def ZB (a:Option Addr) (len cap:Nat) (w:World) :
  Calls prog 82 #[.slice a len cap] w fun e w'=>e=.returned (.func (.func 119) #[] #[.pointer (some ⟨w.heap.size,0,none⟩)])∧w'=w.alloc (.cells #[.slice a len cap] 22):=by
 go_enter func82,ntmps82
 go_wp2
 go_ret
 exact⟨rfl,rfl⟩
set_option maxHeartbeats 1000000 in
def Zs (Bs Bo:Nat) (sv:Value) (zs:List Int) (hreach:zs.length*8<=140737488351232) (w:World) (hBs:Bs<w.heap.size) (hc:w.cell? ⟨Bs,Bo,none⟩=some sv) (hI:Ints w.heap.size w sv zs) :
  Calls prog 81 #[.func (.func 119) #[] #[.pointer (some ⟨Bs,Bo,none⟩)]] w fun e w'=>∃v,e=.returned v∧Below w.heap.size w w' ∧
   ((zs=[]∧v=.slice none 0 0)∨∃g cap cs,v=.slice (some ⟨g,0,none⟩) zs.length cap∧w.heap.size<=g∧w'.heap[g]? = some (.cells cs 3 (0,0))∧zs.length<=cap∧cap<=maxLen∧cs.size=cap∧∀j,j<zs.length->cs.getD j undef=.int .i64 ((pM zs).getD j 0)):=by
 refine (callsIn_wide (n:=6)).1 ?_;have hN:(1:Nat)<=6:=by omega
 have cC:=collect_in Fence.wide 5 trivial trivial trivial rfl (by omega) Bs Bo sv zs hreach w hBs hc hI;refine callsIn_of_wp func81 rfl trivial ?_ rfl;simp only[ntmps81,agb,List.length_cons,List.length_nil,Nat.reduceAdd,Nat.reduceSub,ahI,Array.replicate_zero,ahK,ahL,List.nil_append,List.cons_append];have hf1:Fence.wide.fn 117:=trivial;have hf2:Fence.wide.fn 118:=trivial;have cS:abY prog 118:=fun blk off cap zs w hH hb hl=>Any.slices_Sort_int Tryz.S3 blk off cap zs w hH hb hl
 by_cases hz:zs=[]
 ·subst hz
  gi_wp2_with (first
   | (gi_at_call 117;refine cC.mono ?_;clear cC;rintro e w' ⟨v,rfl,hrow,hnil,hb⟩;obtain rfl:v=.slice none 0 0:=hnil.2 rfl)
   | (gi_at_call 118;refine (callsIn_wide.2 (Any.slices_Sort_int_none Tryz.S3 _ _ _)).mono ?_;rintro e2 w2 ⟨rfl,rfl⟩))
  go_ret
  first|exact⟨_,rfl,hb,.inl rfl⟩|exact⟨_,rfl,hb,.inl ⟨rfl,rfl⟩⟩
 ·gi_wp2_with (gi_at_call 117;refine cC.mono ?_;clear cC;rintro e w' ⟨v,rfl,hrow,hnil,hb⟩;obtain⟨g,cap,cur,rfl,k1,k2,k3,k4,k5,k6⟩:∃g cap cur,v=.slice (some ⟨g,0,none⟩) zs.length cap∧w.heap.size<=g∧w'.heap[g]? = some (.cells cur 3 (0,0))∧zs.length<=cap∧cap<=maxLen∧cur.size=cap*1∧cur.toList.take (zs.length*1)=zs.map (Value.int .i64):=hrow.2.resolve_left (fun hv=>hz (hnil.1 hv.1)))
  rw[Nat.mul_one]at k5 k6;have hcur:∀j,j<zs.length->cur[j]? = some (.int .i64 (zs.getD j 0)):=by
   intro j hj;have:(cur.toList.take zs.length)[j]? = (zs.map (Value.int .i64))[j]?:=by rw[k6]
   rw[afc,if_pos hj,aeU,afK]at this;rw[this];simp[List.getD,hj]
  have hH:Go.Sort.Holds (Value.int .i64) w' g 0 zs.toArray:=by
   intro j hj;simp only[agb]at hj;refine⟨?_,by simp[World.frozen?,k2]⟩;simp only[World.cell?,k2,afH];rw[hcur j hj];simp[List.getD,hj]
  have hlt:g<w'.heap.size:=(af5.1 k2).1
  gi_wp2_with (gi_at_call 118;refine (callsIn_wide.2 (cS g 0 cap zs w' hH hlt (by omega))).mono ?_;rintro e2 w2 ⟨rfl,q,os,rfl⟩)
  go_ret
  refine⟨_,rfl,?_,.inr ⟨g,cap,Go.Sort.putCells (Value.int .i64) 0 (pM zs).toArray cur,rfl,k1,?_,k3,k4,?_,fun j hj =>?_⟩⟩
  ·refine⟨hb.os,hb.tape,hb.output,aeZ hb.size (by simp[Go.Sort.grow,Go.Sort.ahead]),fun k hk =>?_⟩;have hk':k<w'.heap.size:=ae0 hk hb.size;rw[Go.Sort.heap_grow_old _ _ (by simpa [Go.Sort.ahead] using hk'),Gd (by omega)];exact hb.block k hk
  ·rw[Go.Sort.heap_grow_old _ _ (by simpa [Go.Sort.ahead] using hlt)];exact OM k2
  ·simp[Go.Sort.putCells,k5]
  ·rw[K2 (by omega),if_pos (by rw[qC];omega),Nat.sub_zero]
def Vg:bK prog 82 (di (dc (oL (eI .i64))) LC (fun r =>.clean (.clo 119 0 [.ip [.sl false false r.length (ae (eI .i64) r)]]))) where
 callable:=⟨_,func82,by kernel_rfl,by kernel_rfl⟩
 calls lent ds rk out n:=by
  obtain⟨rfl,rfl,l,r,rfl,o,rfl⟩:=tA n;cases o;intro w M i p a;have g:i.size=1:=a.size;rw[X8 g];have q:=a.at_ 0 _ rfl;generalize i.getD 0 undef=u at *;have f:RP w M (.sl false false l.length (ae (eI .i64) l)) u:=q;obtain⟨A,c,rfl,-⟩:=Sf f;refine (ZB A l.length c w).mono fun e B ⟨s,t⟩ =>?_;subst t;have k:Below w.heap.size w (w.alloc (.cells #[.slice A l.length c] 22)):=(Below.refl _ w).alloc (aeX _) _;have v:∀b,b<w.heap.size->¬M b->b<(w.alloc (.cells #[.slice A l.length c] 22)).heap.size∧¬M b∧(w.alloc (.cells #[.slice A l.length c] 22)).heap[b]? = w.heap[b]?:=fun b y z=>⟨by simp;omega,z,k.block b y⟩;refine⟨_,s,k,RP.clo _ 0 _ [.pointer (some ⟨w.heap.size,0,none⟩)] rfl fun j x d =>?_⟩;cases j with
  | succ j=>simp at d
  | zero =>
   simp only[List.getElem?_cons_zero,ae5]at d;subst d;refine RP.ip _ ⟨w.heap.size,0,none⟩ (fun _ =>.slice A l.length c) (fun _=>⟨w.heap.size,0,rfl,by simp,fun h=>by have:=p _ h;omega,fun j d =>?_⟩) (fun j x d =>?_) (fun x m =>?_)
   ·simp only[List.length_cons,List.length_nil]at d;have:j=0:=by omega
    subst this;exact (bd (heap_alloc_new w _) (j:=0) (by simp)).trans rfl
   ·cases j with
    | succ j=>simp at d
    | zero =>
     simp only[List.getElem?_cons_zero,ae5]at d;subst d;exact f.keep v
   ·simp only[afj]at m;subst m;rfl
def UZ:bK prog 81 (di (dc (J4 119 0 (dc (T1 (hZ (eI .i64)))))) DA (fun r =>.fresh 3 1 r.length (ae (eI .i64) r))) where
 callable:=⟨_,func81,by kernel_rfl,by kernel_rfl⟩
 calls lent ds rk out O:=by
  obtain⟨rfl,rfl,l,r,rfl,s,rfl⟩:=tA O;unfold DA at s;split at s;rotate_left
  ·cases s
  rename_i i;cases s;intro w M I hM h;have y:I.size=1:=h.size;rw[X8 y];have P:=h.at_ 0 _ rfl;generalize I.getD 0 undef=u at *;have B:RP w M (.clo 119 0 [.ip [.sl false false l.length (ae (eI .i64) l)]]) u:=P;cases B with
  | clo f kk xs t Q h2 =>
   have R:=h2 0 _ rfl;have C:t=[t.getD 0 undef]:=by
    match t,Q with
    | [x],_=>rfl
   rw[C];generalize t.getD 0 undef=q at *;cases R with
   | ip xs ad m h6 h7 h8 =>
    obtain⟨b,o,rfl,S,T,k⟩:=h6 (by simp);have a:=k 0 (by simp);rw[afw]at a;have U:=h7 0 _ rfl;have V:Ints w.heap.size w (m 0) l:=by
     obtain⟨A,c,W,J,K,L,D⟩:=Sf U;rw[W]
     by_cases N:l=[]
     ·subst N;exact .inl ⟨A,c,rfl,rfl⟩
     ·obtain⟨X,Y,rfl,E,Z,F⟩:=D N;exact .inr ⟨X,Y,c,rfl,E,fun j n=>by rw[F j n];simp[List.getD]⟩
    refine (Zs b o (m 0) l i w S a V).mono fun e w' ⟨v,he,G,hv⟩ =>?_;refine⟨v,he,G,?_⟩;rcases hv with⟨rfl,rfl⟩|⟨g,H,cs,rfl,J,K,L,D,k5,k6⟩
    ·refine .inr ⟨?_,?_,none,rfl⟩
     ·rw[JC];rfl
     ·rw[JC];rfl
    ·refine .inl ⟨(g,0),H,cs,by rw[qC],.inl J,K,by rw[qC];exact L,D,by simp only;omega,by rw[p6,qC];simp only;omega,fun j d n =>?_⟩;have p:=(afp.1 n).1;rw[p6,qC]at p;rw[v7,aeV]at n;obtain⟨z,hz,rfl⟩:=n;simp only[afH];rw[k6 j p];have:(pM l).getD j 0=z:=by simp[List.getD,hz]
     rw[this];exact⟨rfl,.int _ _⟩
end Go.Proofs.YtekhokjkphgphaaGreat.Am
namespace Go.Proofs.YtekhokjkphgphaaGreat.Am
open Go.RowKit Go.Proofs.YtekhokjkphgphaaGreat.P
def PS {α:Type} (e:jS α):jS (List α):=⟨fun l=>[.nx l.length (ae e l)],1,fun _=>rfl,by decide,fun x y h=>by
 simp only[afk,D.nx.injEq,and_true]at h;exact vZ e _ _ h.2⟩
def xy {α:Type} (e:jS α) (l:List α):(PS e).cells l=[.nx l.length (ae e l)]:=ahM
def zU {α:Type} (e:jS α):(PS e).size=1:=ahM
section
variable {α:Type} (E:jS α) {l:List α} {i:Int} {x x':α}
def K3 (a:List D) (o:Nat) (d:D) (h:o<a.length):(putCells a o [d]).length=a.length:=by
 simp[putCells];omega
def K4 (a:List D) (o:Nat) (d b:D) (h:o<a.length):putCells (putCells a o [d]) o [b]=putCells a o [b]:=by
 unfold putCells;have f:(a.take o).length=o:=by simp;omega
 have c:(a.take o++[d]++a.drop (o+[d].length)).take o=a.take o:=by
  rw[agd,agi (by omega),agj (by omega)]
 have e:(a.take o++[d]++a.drop (o+[d].length)).drop (o+[b].length)=a.drop (o+[b].length):=by
  rw[age (by simp;omega),agI (by simp;omega),agF];rfl
 rw[c,e]
def KN (a:Nat) (h:P.idx l i=some x) (b:a+1<=E.size):i.toNat*E.size+a<(ae E l).length:=by
 have:=uJ E h;rw[cc];omega
def Xw (a:Nat) (d c:D) (h:P.idx l i=some x) (e:E.cells x'=putCells (E.cells x) a [c]) (b:a+1<=E.size):putCells (putCells (ae E l) (i.toNat*E.size+a) [d]) (i.toNat*E.size+a) [c]=ae E (l.set i.toNat x'):=by
 rw[K4 _ _ _ _ (KN E a h b)];exact fN E a [c] h e b
def Y3 (a:Nat) (d:D) (h:P.idx l i=some x) (b:a+1<=E.size):i.toNat*E.size+a+1<=(putCells (ae E l) (i.toNat*E.size+a) [d]).length:=by
 rw[K3 _ _ _ (KN E a h b)];exact KN E a h b
end
def JA {t s a n o:Nat} {c:Bool} {b d:List D} : Gv t s a c b o none (some (.nx n d))=[.nr t s a (putCells b o [.und])]:=ahM
def YS {α:Type} {E:jS α} {T:Nat->Option Ty} {el B ty' s f:Nat} {φ:Ty} {k:IntKind} {n:Int} {z:α} {m:List α} (o:T el=some φ) (p:np φ f=E.cells z) (C:φ.size=E.size) (r:(φ.zero.map oF).all fD=true) (t:φ.zero.length=φ.size) (u:Xk ((φ.zero.map oF).drop f).head? = true) (v:φ.bytes=B) (h:IZ B n n z=some m)
  : ∀(b c:Nat) (j:List Value) (q:Bool) (e d:Nat),d<1000000->kp T ⟨.slice el,b,c,j,q⟩ e d ty' s f (.int k n) (.int k n)=some ⟨.buf d e φ.size 0 m.length,[(d,some ⟨e,el,[.nr ty' s (4*e+2) (ae E m)],false,true,true⟩)]⟩:=by
 intro b c j q e d g;obtain⟨w,i,x,y,A⟩:=mk_one E h;have a:rp (.int k n)=some n.toNat:=by simp[rp,w]
 have l:=E.pos;unfold kp;simp only[o,a];rw[if_pos ⟨aeX _,by rw[i];exact x,by rw[i,v];exact A,by omega,r,t,by rw[cQ];exact g,u⟩,p,i,y]
def H7 {k:IntKind} {n:Int} : fD (.int k n)=true:=ahM
def MC {a b:Bool} {n:Nat} {c:List D} : fD (.sl a b n c)=true:=ahM
def cR {α β:Type} (A:jR α) (F:α->Option β) (R:β->Nat×Nat×Nat×Nat×Nat×List D):List D->Option (Nat×Nat×Nat×Nat×Nat×List D):=fun b=>open Classical in if h:∃a,A.ds a=b then (F (Classical.choose h)).map R else none
def Xc {α β:Type} {A:jR α} {F:α->Option β} {R:β->Nat×Nat×Nat×Nat×Nat×List D} {b:List D} {q:Nat×Nat×Nat×Nat×Nat×List D} (h:cR A F R b=some q):∃a r,b=A.ds a∧F a=some r∧q=R r:=by
 unfold cR at h;split at h
 ·rename_i c;rw[aeV]at h;obtain⟨r,d,e⟩:=h;exact⟨_,r,(Classical.choose_spec c).symm,d,e.symm⟩
 ·cases h
structure FOk (P:Program) (f:FuncId) (p:List D->Option (Nat×Nat×Nat×Nat×Nat×List D)):Prop where
 callable:eW P f
 calls:∀args ty t s S n cs,p args=some (ty,t,s,S,n,cs)->PU P f args ty t s S n cs
def FOk.of {P:Program} {T:Nat->Option Ty} {Γ:Env} (g:iI P T) (i:bG P Γ) (j:P.follows .mixedOrders=true) {α β:Type} {A:jR α} {F:α->Option β} {R:β->Nat×Nat×Nat×Nat×Nat×List D} {f:FuncId} {b:Func} (e:P.funcs[f]? = some b) (d:(match b.body with|some c=>codeOk c|none=>true)=true)
  (k:(b.name == "runtime.NumGoroutine")=false∧b.body.isNone=false) (l:∀a,(A.ds a).length<=b.ntmps) (h:∀a r,F a=some r->LG T Γ FU b (A.ds a)=some (R r)):FOk P f (cR A F R) where
 callable:=⟨b,e,k⟩
 calls args ty t s S n cs m:=by
  obtain⟨a,r,rfl,o,p⟩:=Xc m;exact LH g i j e d (l a) ((h a r o).trans (by rw[p]))
def aba {α β γ:Type} (d t s:Nat) (c:jS γ) (A:jR α) (F:γ->α->Option (γ×β)) (R:β->D):Nat->Nat->Nat->Nat->List D->List D->Option (D×List D):=fun b e f o g a =>
 open Classical in if h:∃p:List D×List D×γ×α,b=d∧e=t∧f=s∧g=p.1++(c.cells p.2.2.1++p.2.1)∧o=p.1.length∧a=A.ds p.2.2.2 then
  (F (Classical.choose h).2.2.1 (Classical.choose h).2.2.2).map fun r=>(R r.2,(Classical.choose h).1++(c.cells r.1++(Classical.choose h).2.1)) else none
def UG {α β γ:Type} {g t s:Nat} {e:jS γ} {A:jR α} {F:γ->α->Option (γ×β)} {R:β->D} {ty' i j o:Nat} {k b:List D} {d:D} {c:List D} (h:aba g t s e A F R ty' i j o k b=some (d,c)) :
  ty'=g∧i=t∧j=s∧∃pre post x a r,k=pre++(e.cells x++post)∧o=pre.length∧b=A.ds a∧F x a=some r∧d=R r.2∧c=pre++(e.cells r.1++post):=by
 unfold aba at h;split at h
 ·rename_i l;obtain⟨m,n,p,q,u,v⟩:=Classical.choose_spec l;rw[aeV]at h;obtain⟨r,w,f⟩:=h;simp only[Prod.mk.injEq]at f;exact⟨m,n,p,_,_,_,_,r,q,u,v,w,f.1.symm,f.2.symm⟩
 ·cases h
structure NOk (P:Program) (f:FuncId) (p:Nat->Nat->Nat->Nat->List D->List D->Option (D×List D)):Prop where
 callable:eW P f
 calls:∀ty t s o cs args d cs',p ty t s o cs args=some (d,cs')->PV P f ty t s o cs args d cs'
def NOk.of {P:Program} {T:Nat->Option Ty} {Γ:Env} (k:iI P T) (l:bG P Γ) (m:P.follows .mixedOrders=true) {α β γ:Type} {i t s:Nat} {e:jS γ} {A:jR α} {F:γ->α->Option (γ×β)} {R:β->D} {f:FuncId} {b:Func} (j:P.funcs[f]? = some b) (g:(match b.body with|some c=>codeOk c|none=>true)=true)
  (n:(b.name == "runtime.NumGoroutine")=false∧b.body.isNone=false) (p:∀a,(A.ds a).length+1<=b.ntmps) (h:∀pre post x a x' r,F x a=some (x',r)->RZ T Γ FU b i t s pre.length (pre++(e.cells x++post)) (A.ds a)=some (R r,pre++(e.cells x'++post))):NOk P f (aba i t s e A F R) where
 callable:=⟨b,j,n⟩
 calls ty' v w o cs args d cs' q:=by
  obtain⟨rfl,rfl,rfl,pre,post,x,a,r,rfl,rfl,rfl,u,rfl,rfl⟩:=UG q;exact LI k l m j g (p a) (h pre post x a r.1 r.2 u)
section
variable {pre l:List D} {k m:Nat}
end
def NT {τ:Ty} {h:Nat->Option Row} {x v o:Nat} : sN τ h x v o none=none:=ahM
def SZ {d:D} {l:List D} : (d::l).head? = some d:=ahM
def Tu {r:Row} {f:Row->Option Row} : (some r).bind f=f r:=ahM
def vn:=ai @JA<|ai @aa3.eq_1<|ai @Tu<|ai @NT<|ai @SZ<|ai @xy<|ai @H7<|ai @MC<|@zU
end Go.Proofs.YtekhokjkphgphaaGreat.Am
namespace Go.Proofs.YtekhokjkphgphaaGreat.P
def Ut {α:Type} (c:α->α->Int) (x:α):List α->List α
 | []=>[x]
 | y::l=>if c x y<=0 then x::y::l else y::Ut c x l
def pK {α:Type} (c:α->α->Int):List α->List α
 | []=>[]
 | x::l=>Ut c x (pK c l)
def Bt {α:Type} (c:α->α->Int) (x:α):∀l:List α,(Ut c x l).Perm (x::l)
 | []=>agZ _
 | y::l=>by
  unfold Ut;split
  ·exact agZ _
  ·exact ((Bt c x l).cons y).trans (List.Perm.swap x y l)
def iC {α:Type} (c:α->α->Int):∀l:List α,(pK c l).Perm l
 | []=>agZ _
 | x::l=>(Bt c x _).trans ((iC c l).cons x)
def nQ {α:Type} (c:α->α->Int) (l:List α):(pK c l).length=l.length:=(iC c l).length_eq
structure WO {α:Type} (c:α->α->Int):Prop where
 total:∀x y,c x y<=0∨c y x<=0
 neg:∀x y,c x y<0↔0<c y x
 trans:∀x y z,c x y<=0->c y z<=0->c x z<=0
def Cr {α:Type} {c:α->α->Int} (h:WO c) (x:α):∀l:List α,l.Pairwise (fun x y=>c x y<=0)->(Ut c x l).Pairwise (fun x y=>c x y<=0)
 | [],_=>List.pairwise_singleton _ _
 | y::l,hs=>by
  unfold Ut;obtain⟨e,f⟩:=agz.1 hs;split
  ·rename_i b;refine agz.2 ⟨fun z a =>?_,hs⟩;rcases ae3.1 a with rfl|a
   ·exact b
   ·exact h.trans _ _ _ b (e z a)
  ·rename_i b;have d:c y x<=0:=(h.total x y).resolve_left b;refine agz.2 ⟨fun z a =>?_,Cr h x l f⟩;rcases ae3.1 ((Bt c x l).mem_iff.1 a) with rfl|a
   ·exact d
   ·exact e z a
def mL {α:Type} {c:α->α->Int} (h:WO c):∀l:List α,(pK c l).Pairwise (fun x y=>c x y<=0)
 | []=>List.Pairwise.nil
 | x::l=>Cr h x _ (mL h l)
def oK {α:Type} {c:α->α->Int} : ∀ {l m:List α},l.Perm m->(∀x∈l,∀y∈l,c x y<=0->c y x<=0->x=y)->l.Pairwise (fun x y=>c x y<=0)->m.Pairwise (fun x y=>c x y<=0)->l=m
 | [],m,d,_,_,_=>(List.Perm.nil_eq d)
 | x::l,[],d,_,_,_=>absurd d.symm (by intro h;have:=h.length_eq;simp at this)
 | x::l,y::m,d,ha,i,hm=>by
  obtain⟨j,k⟩:=agz.1 i;obtain⟨n,o⟩:=agz.1 hm;have e:x=y:=by
   by_cases f:x=y
   ·exact f
   ·have g:y∈l:=by
     have:y∈x::l:=d.mem_iff.2 ags;rcases ae3.1 this with h|h
     ·exact absurd h.symm f
     ·exact h
    have p:x∈m:=by
     have:x∈y::m:=d.mem_iff.1 ags;rcases ae3.1 this with h|h
     ·exact absurd h f
     ·exact h
    exact ha x ags y (agt _ g) (j y g) (n x p)
  subst e;rw[oK ((List.perm_cons x).1 d) (fun a q b r=>ha a (agt _ q) b (agt _ r)) k o]
open Classical in
def CN {α:Type} (c:α->α->Int) (l:List α):Option (List α×Unit):=if l.length<4611686018427387904∧∀x∈l,∀y∈l,c x y=0->x=y then some (pK c l,()) else none
end Go.Proofs.YtekhokjkphgphaaGreat.P
namespace Go.Proofs.YtekhokjkphgphaaGreat.Am
open Go.RowKit Go.Proofs.YtekhokjkphgphaaGreat.P
def VP (b:Bool) (a:List Value):Value:=if b then .agg a.toArray else a.getD 0 undef
def IsV {α:Type} (E:jS α) (w:World) (M:Nat->Prop) (x:α) (a:List Value):Prop:=a.length=E.size∧∀j d,(E.cells x)[j]? = some d->bz d=true∧RP w M d (a.getD j undef)
def abQ {α:Type} (P:Program) (g:FuncId) (a:Bool) (E:jS α) (c:α->α->Int):Prop:=∀(w:World) (M:Nat->Prop) (x y:α) (d f:List Value),(∀b,M b->b<w.heap.size)->IsV E w M x d->IsV E w M y f ->
 Calls P g #[VP a d,VP a f] w fun e h=>e=.returned (.int .i64 (c x y))∧∃q i,h=Go.Sort.grow (w.drewN q) i
def ZN (P:Program) (f g:FuncId) (p:Bool) (k:Nat):Prop:=∀(β:Type) (_:Inhabited β) (enc:β->List Value) (c:β->β->Int),(∀x,(enc x).length=k)->(∀x,∀v∈enc x,v.oneCell'=true)->Go.Sort.SWO (ltOf c)->∀(blk a h:Nat) (d:Array β) (w:World),
 (∀(m:Nat) (b:Array Obj) (i:Array β),i.size=d.size->∀x y:β,Calls P g #[VP p (enc x),VP p (enc y)] (sortWorldK enc k w blk a m i b) fun e j=>e=.returned (.int .i64 (c x y))∧∃q l,j=Go.Sort.grow ((sortWorldK enc k w blk a m i b).drewN q) l) ->
 Go.Sort.HoldsK enc k w blk a d->blk<w.heap.size->d.size<4611686018427387904 ->
 Calls P f #[.slice (some ⟨blk,a,none⟩) d.size h,.func (.func g) #[] #[]] w fun e j=>e=.returned (.tuple #[])∧∃o n b,Go.Sort.PermIn 0 d.size d o∧Go.Sort.SortedIn (ltOf c) 0 d.size o∧j=sortWorldK enc k w blk a n o b
def SM {α:Type} (E:jS α) {l:List α} {i j:Nat} {x:α} (b:l[i]? = some x) (c:j<E.size):(ae E l)[i*E.size+j]? = (E.cells x)[j]?:=by
 have d:((ae E l).drop (i*E.size))[j]? = (ae E l)[i*E.size+j]?:=afd;have e:l.drop i=x::l.drop (i+1):=by
  obtain⟨a,rfl⟩:=afp.1 b;exact agS a
 rw[<- d,xz,e,bP,afQ (by rw[E.len];exact c)]
section
variable {β:Type} [Inhabited β] {enc:β->List Value} {k:Nat}
def K5 {w:World} {b a:Nat} {d:Array β} {c:Array Value} {e:Nat} {fr:Nat×Nat} (h:w.heap[b]? = some (.cells c e fr)):(Go.Sort.putRowK enc k w b a d).heap[b]? = some (.cells (Go.Sort.putCells id a (Go.Sort.flatK enc k d) c) e fr):=by
 simp[Go.Sort.putRowK,Go.Sort.putRow,Go.Sort.mapBlock,ae6,h,Go.Sort.onCells]
def Da {w:World} {b c a:Nat} {d:Array β} (h:c≠b):(Go.Sort.putRowK enc k w b a d).heap[c]? = w.heap[c]?:=by
 simp[Go.Sort.putRowK,Go.Sort.putRow,Go.Sort.mapBlock,ae6,Ne.symm h]
def yx {w:World} {b c a m:Nat} {d:Array β} {e:Array Obj} (f:c<w.heap.size) (h:c≠b):(sortWorldK enc k w b a m d e).heap[c]? = w.heap[c]?:=by
 unfold sortWorldK;rw[Go.Sort.heap_grow_old _ _ (by simpa [Go.Sort.putRowK,Go.Sort.ahead] using f),Da h];rfl
def pH {w:World} {b a m:Nat} {d:Array β} {c:Array Obj} : w.heap.size<=(sortWorldK enc k w b a m d c).heap.size:=by
 simp[sortWorldK,Go.Sort.putRowK,Go.Sort.ahead]
def Hu {w:World} {b a m:Nat} {d:Array β} {f:Array Obj} {c:Array Value} {e:Nat} {fr:Nat×Nat} (h:w.heap[b]? = some (.cells c e fr)):(sortWorldK enc k w b a m d f).heap[b]? = some (.cells (Go.Sort.putCells id a (Go.Sort.flatK enc k d) c) e fr):=by
 have g:=(af5.1 h).1;unfold sortWorldK;rw[Go.Sort.heap_grow_old _ _ (by simpa [Go.Sort.putRowK,Go.Sort.ahead] using g)];exact K5 h
def Hq {a:Nat} {d:Array β} {b:Array Value} {j:Nat} (c:j<b.size):(Go.Sort.putCells id a (Go.Sort.flatK enc k d) b).getD j undef=if a<=j∧j<a+d.size*k then (enc d[(j-a) / k]!)[(j-a) % k]! else b.getD j undef:=by
 have e:(Go.Sort.putCells id a (Go.Sort.flatK enc k d) b)[j]? = some (if a<=j∧j<a+d.size*k then (enc d[(j-a) / k]!)[(j-a) % k]! else b[j]):=by
  simp only[Go.Sort.putCells,Array.getElem?_mapIdx,af7 c,Option.map_some,Go.Sort.size_flatK];congr 1;split
  ·rename_i f;rw[Go.Sort.get_flatK _ _ _ _ (by omega)];rfl
  ·rfl
 rw[ae1,e];simp[ae1,c]
end
def abz {α β:Type} {c:α->α->Int} (h:WO c) (f:β->α):Go.Sort.SWO (ltOf fun x y=>c (f x) (f y)) where
 irrefl x:=by
  simp only[ltOf,decide_eq_false_iff_not];intro e;have:=(h.neg _ _).1 e;omega
 trans x y z h1 h2:=by
  simp only[ltOf,decide_eq_true_eq]at h1 h2 ⊢
  by_cases a:c (f x) (f z)<0
  ·exact a
  ·have b:c (f z) (f x)<=0:=by
    have:=(h.neg (f z) (f x));rcases Int.lt_trichotomy (c (f z) (f x)) 0 with q|q|q
    ·omega
    ·omega
    ·exact absurd ((h.neg (f x) (f z)).2 q) a
   have d:=h.trans _ _ _ b (Int.le_of_lt h1);have g:=(h.neg _ _).1 h2;omega
 ntrans x y z h1 h2:=by
  simp only[ltOf,decide_eq_false_iff_not]at h1 h2 ⊢;intro a;have b:c (f y) (f x)<=0:=by
   by_cases q:0<c (f y) (f x)
   ·exact absurd ((h.neg _ _).2 q) h1
   ·omega
  have d:c (f z) (f y)<=0:=by
   by_cases q:0<c (f z) (f y)
   ·exact absurd ((h.neg _ _).2 q) h2
   ·omega
  have g:=h.trans _ _ _ d b;have i:=(h.neg _ _).1 a;omega
def F9 {β:Type} [Inhabited β] {d a:Array β} (h:Go.Sort.PermIn 0 d.size d a):a.toList.Perm d.toList:=by
 obtain⟨b,-,c⟩:=h;have e:(d.extract 0 d.size)=d:=by simp
 have f:(a.extract 0 d.size)=a:=by rw[<- b];simp
 rwa [e,f]at c
def XM {α:Type} {E:jS α} {c:α->α->Int} {P:Program} {f g:FuncId} {fn:Func} {ag:Bool} {ty:Nat} {F:List α->Option (List α×Unit)} (hf:P.funcs[f]? = some fn) (hc:(fn.name == "runtime.NumGoroutine")=false∧fn.body.isNone=false)
  (hF:∀l,F l=CN c l) (h0:∀p az w,Calls P f #[.slice p 0 az,.func (.func g) #[] #[]] w fun e w'=>e=.returned (.tuple #[])∧w'=w) (hO:WO c) (hcmp:abQ P g ag E c) (hS:ZN P f g ag E.size) :
  bK P f (YT ty E (dc (aFn g)) (fun l (_:Unit)=>F l) (fun _:Unit =>.clean (.tup []))) where
 callable:=⟨fn,hf,hc⟩
 calls lent la rk out hg:=by
  obtain⟨pre,l,post,a,l',r,rfl,rfl,hr,rfl,rfl⟩:=N8 hg;rw[hF]at hr;unfold CN at hr
  by_cases B:l.length<4611686018427387904∧∀x∈l,∀y∈l,c x y=0->x=y
  ·rw[if_pos B]at hr;obtain⟨ak,hanti⟩:=B;obtain rfl:pK c l=l':=congrArg Prod.fst (ag0 hr);intro w M o u0 vs hM aH hz aI J al C;have aA:vs = #[.func (.func g) #[] #[]]:=by
    have X:=C.1;have h2:=C.2 0 (.fn g) rfl;have Y:vs.size=1:=X;cases hv:vs.getD 0 undef<;>rw[hv]at h2<;>cases h2;apply Array.ext
    ·simp[Y]
    ·intro i i1 i2;have:i=0:=by omega
     subst this;simpa [Array.getD,Y] using hv
   subst aA
   by_cases hl:l=[]
   ·subst hl;have hu:∃p cp,u0=.slice p 0 cp:=by
     rcases al.2 ⟨0,0,[],false,false,false⟩ rfl rfl with⟨g',o',cp,N,t,k0,k1,k2,k3,k4,k5⟩|k0
     ·exact⟨_,_,k1⟩
     ·obtain⟨_,_,A,k1⟩:=k0;exact⟨_,_,k1⟩
    obtain⟨p,cp,rfl⟩:=hu;refine (h0 p cp w).mono fun e w' ⟨he,hw⟩ =>?_;subst hw;exact⟨.tuple #[],he,⟨rfl,rfl,rfl,aeX _,fun _ _ _=>rfl⟩,⟨rfl,rfl,⟨rfl,rfl⟩,fun g' R=>rfl,J⟩,.tup [] [] rfl (fun j x h=>by simp at h)⟩
   ·have hk:=E.pos;have T:0<l.length:=agN.2 hl;cases o with
    | none =>
     have aB:pre++(ae E l++post)=[]:=J;have:=congrArg List.length aB;rw[af6,af6,cc,afn]at this;have:=ag1 T hk;omega
    | some o =>
     obtain⟨cs,X,h2,Y⟩:=J;simp only[af6,cc]at h2;generalize Z:(fun b=>M b∨vA (some o) b)=M' at Y C ⊢;have an:M' o.1:=by rw[<- Z];exact .inr ⟨o,rfl,rfl⟩
     have ao:o.1<w.heap.size:=(af5.1 X).1;have aa:∀b,M' b->b<w.heap.size:=by
      intro b hb;rw[<- Z]at hb;rcases hb with hb|⟨g',R,rfl⟩
      ·exact hM b hb
      ·cases R;exact ao
     rcases al.2 ⟨0,0,[],false,false,false⟩ rfl rfl with⟨g',o',cp,N,t,k0,k1,k2,k3,k4,k5⟩|⟨k0,_⟩;rotate_left
     ·cases k0
     cases k0;obtain⟨rfl,k6⟩:=k2 (.inl (by omega));subst k1;have aq:∀i,i<l.length->i*E.size+E.size<=l.length*E.size:=by
      intro i G;have:=afF E.size (show i+1<=l.length from G)
      rwa [afS]at this
     have q:∀i (G:i<l.length),IsV E w M' l[i] ((List.range E.size).map fun j=>cs.getD (o.2+pre.length+(i*E.size+j)) undef):=by
      intro i G;refine⟨by simp,fun j d h =>?_⟩;have ar:j<E.size:=by
       have:=(afp.1 h).1
       rwa [E.len]at this
      have hd:(pre++(ae E l++post))[pre.length+(i*E.size+j)]? = some d:=by
       have:=aq i G;rw[afT (by omega),agf,afQ (by rw[cc];omega),SM E (ae9 G) ar,h]
      have:=Y _ _ hd;rw[<- afh]at this;simpa [List.getD,ar] using this
     let β:={ p:α×List Value // IsV E w M' p.1 p.2 }
     let enc:β->List Value:=fun p=>p.1.2
     let K:List β:=List.ofFn fun i:Fin l.length=>(⟨(l[i.1],_),q i.1 i.2⟩:β)
     have I:K.length=l.length:=by simp[K]
     have au:∀i (G:i<l.length),K[i]? = some ⟨(l[i],_),q i G⟩:=by
      intro i G;simp[K,G]
     have av:Inhabited β:=⟨⟨(l[0],_),q 0 T⟩⟩;have aw:K.map (fun p=>p.1.1)=l:=by
      apply ag2;intro i
      by_cases G:i<l.length
      ·rw[aeU,au i G,ae9 G];rfl
      ·rw[agx (by simp[I];omega),agx (by omega)]
     have L:∀x:β,(enc x).length=E.size:=fun x=>x.2.1;have ax:∀x:β,∀v∈enc x,v.oneCell'=true:=by
      intro x v hv;obtain⟨j,h⟩:=afi hv;have ab:=(afp.1 h).1;rw[L]at ab;obtain⟨p1,p2⟩:=x.2.2 j _ (ae9 (by rw[E.len];exact ab));have:x.1.2.getD j undef=v:=by simp only[afz];rw[show x.1.2[j]? = some v from h];rfl
      rw[this]at p2;exact p2.sj p1
     have s:∀ {m:Nat} {dk:Array β} {os:Array Obj} {d:D} {u:Value},RP w M' d u->RP (sortWorldK enc E.size w o.1 (o.2+pre.length) m dk os) M' d u:=by
      intro m dk os d u hu;refine hu.keep fun b q1 q2=>⟨ae0 q1 pH,q2,?_⟩;exact yx q1 (fun e=>q2 (e ▸ an))
     have hH:Go.Sort.HoldsK enc E.size w o.1 (o.2+pre.length) K.toArray:=by
      intro j h;simp only[Go.Sort.size_flatK,agb,I]at h;refine⟨?_,by simp[World.frozen?,X]⟩;have hq:j / E.size<l.length:=agM (by rwa [afU]);have H:j % E.size<E.size:=afO _ hk;have ad:j / E.size*E.size+j % E.size=j:=by rw[afU];exact ag3 j E.size
      rw[Go.Sort.get_flatK _ _ _ _ (by simpa [I] using h),bd X (j:=o.2+pre.length+j) (by omega)];have e1:(K.toArray)[j / E.size]! = ⟨(l[j / E.size],_),q _ hq⟩:=by
       have h5:=au _ hq;rw[getElem!_pos K.toArray (j / E.size) (by simpa [I] using hq)];have:=(afp.1 h5).2;simpa using this
      rw[e1];show some _=some (((List.range E.size).map fun j'=>cs.getD (o.2+pre.length+(j / E.size*E.size+j')) undef)[j % E.size]!);rw[getElem!_pos _ _ (by simpa using H)];simp[ad]
     have aC:=abz hO (fun p:β=>p.1.1);have O:=hS β av enc (fun x y=>c x.1.1 y.1.1) L ax aC o.1 (o.2+pre.length) cp K.toArray w (fun m os dk aJ x y=>hcmp _ M' x.1.1 y.1.1 x.1.2 y.1.2 (fun b hb=>ae0 (aa b hb) pH) ⟨x.2.1,fun j d h=>⟨(x.2.2 j d h).1,s (x.2.2 j d h).2⟩⟩ ⟨y.2.1,fun j d h=>⟨(y.2.2 j d h).1,s (y.2.2 j d h).2⟩⟩) hH ao (by simpa [I] using ak);have ah:K.toArray.size=l.length:=by simp[I]
     rw[ah]at O;refine O.mono fun e w' ⟨he,z,n,os,Q,ai,hw⟩ =>?_;subst hw;have S:=F9 (by rw[ah];exact Q);have U:z.size=l.length:=by have:=Q.1;rw[this,ah]
     have aD:z.toList.map (fun p=>p.1.1)=pK c l:=by
      have aj:(z.toList.map (fun p=>p.1.1)).Perm l:=by
       have:=S.map (fun p:β=>p.1.1)
       rwa [show K.toArray.toList.map (fun p:β=>p.1.1)=l from aw]at this
      refine oK (aj.trans (iC c l).symm) (fun x hx y hy h4 h5=>hanti x (aj.mem_iff.1 hx) y (aj.mem_iff.1 hy) ?_) ?_ (mL hO l)
      ·have:=hO.neg x y;have:=hO.neg y x;omega
      ·rw[ag4];rw[ag5];intro i j G h aE;simp only[Array.length_toList]at G h;have:=ai i j (aeY _) aE (by omega);simp only[ltOf,decide_eq_false_iff_not]at this;rw[getElem!_pos z j (by omega),getElem!_pos z i (by omega)]at this;simp only[Array.getElem_toList];have h6:=hO.neg z[j].1.1 z[i].1.1;omega
     have V:(sortWorldK enc E.size w o.1 (o.2+pre.length) n z os).heap[o.1]? = some (.cells (Go.Sort.putCells id (o.2+pre.length) (Go.Sort.flatK enc E.size z) cs) ty (0,0)):=Hu X;have W:(Go.Sort.putCells id (o.2+pre.length) (Go.Sort.flatK enc E.size z) cs).size=cs.size:=by simp[Go.Sort.putCells]
     refine⟨.tuple #[],he,⟨rfl,rfl,rfl,pH,fun k hk hn=>yx hk (fun e=>hn ⟨o,rfl,e⟩)⟩,⟨rfl,rfl,⟨rfl,rfl⟩,fun g' R =>?_,?_⟩,.tup [] [] rfl (fun j x h=>by simp at h)⟩
     ·cases R;simp[World.shape?,V,X,W]
     ·refine⟨_,V,?_,fun j d h =>?_⟩
      ·simp only[af6,cc,nQ,W];exact h2
      ·have ab:j<pre.length+(l.length*E.size+post.length):=by
        have:=(afp.1 h).1;simpa [cc,nQ] using this
       show _∧RP _ (fun b=>M b∨vA (some o) b) d _;rw[Z,Hq (by omega),U]
       by_cases aF:pre.length<=j∧j<pre.length+l.length*E.size
       ·rw[if_pos (by omega)];have e1:o.2+j-(o.2+pre.length)=j-pre.length:=by omega
        rw[e1];have hq:(j-pre.length) / E.size<l.length:=agM (by rw[afU];omega);have H:(j-pre.length) % E.size<E.size:=afO _ hk;have ad:(j-pre.length) / E.size*E.size+(j-pre.length) % E.size=j-pre.length:=by rw[afU];exact ag3 _ _
        rw[afT aF.1,afQ (by rw[cc,nQ];omega),<- ad,<- aD,SM E (x:=(z[(j-pre.length) / E.size]!).1.1) (by
         rw[aeU,ae9 (by simpa [U] using hq),getElem!_pos z _ (by omega)];simp) H]at h
        obtain⟨p1,p2⟩:=(z[(j-pre.length) / E.size]!).2.2 _ _ h;refine⟨p1,s ?_⟩;have e2:(enc z[(j-pre.length) / E.size]!)[(j-pre.length) % E.size]! = (z[(j-pre.length) / E.size]!).1.2.getD ((j-pre.length) % E.size) undef:=by
         rw[getElem!_pos _ _ (by rw[L];exact H)];simp only[afz];rw[ae9 (by have:=(z[(j-pre.length) / E.size]!).2.1;omega)];rfl
        rw[e2];exact p2
       ·rw[if_neg (by omega)];have ay:(pre++(ae E l++post))[j]? = some d:=by
         by_cases aG:j<pre.length
         ·rw[afQ aG]at h ⊢;exact h
         ·rw[afT (by omega),afT (by rw[cc,nQ];omega),cc,nQ]at h;rw[afT (by omega),afT (by rw[cc];omega),cc];exact h
        exact⟨(Y j d ay).1,s (Y j d ay).2⟩
  ·rw[if_neg B]at hr;cases hr
end Go.Proofs.YtekhokjkphgphaaGreat.Am
namespace Go.Proofs.YtekhokjkphgphaaGreat.P
def jQ {α:Type} (f g:α->Int) (x y:α):Int:=if Go.Lib.compareInt (f x) (f y)≠0 then Go.Lib.compareInt (f x) (f y) else Go.Lib.compareInt (g x) (g y)
def BP {α:Type} {f g:α->Int} {x y:α} : jQ f g x y<0↔f x<f y∨(f x=f y∧g x<g y):=by
 unfold jQ Go.Lib.compareInt
 repeat' split
 all_goals omega
def BQ {α:Type} {f g:α->Int} {x y:α} : 0<jQ f g x y↔f y<f x∨(f x=f y∧g y<g x):=by
 unfold jQ Go.Lib.compareInt
 repeat' split
 all_goals omega
def wZ {α:Type} {f g:α->Int} {x y:α} : jQ f g x y<=0↔f x<f y∨(f x=f y∧g x<=g y):=by
 have a:=@BP α f g x y;have b:=@BQ α f g x y;omega
def RH {α:Type} {f g:α->Int} {x y:α} : jQ f g x y=0↔f x=f y∧g x=g y:=by
 have a:=@BP α f g x y;have b:=@BQ α f g x y;omega
def tK {α:Type} (f g:α->Int):WO (jQ f g) where
 total x y:=by rw[wZ,wZ];omega
 neg x y:=by rw[BP,BQ];omega
 trans x y z h1 h2:=by rw[wZ]at *;omega
end Go.Proofs.YtekhokjkphgphaaGreat.P
namespace Go.Proofs.YtekhokjkphgphaaGreat.Am
open Go.RowKit Go.Lib Go.Sort Go.Shelf Go.Proofs.YtekhokjkphgphaaGreat.P
def YW (x:Int) (w:World):Calls prog 101 #[.int .i64 x] w fun e w'=>e=.returned (.bool false)∧w'=w:=by
 go_enter func101,ntmps101
 go_wp2
 go_ret
 exact⟨by simp,rfl⟩
def Mz (x y:Int) (w:World):Calls prog 64 #[.int .i64 x,.int .i64 y] w fun e w'=>e=.returned (.int .i64 (Lib.compareInt x y))∧w'=w:=by
 go_enter func64,ntmps64
 go_wp2_with (go_at_call 101;refine (YW _ _).mono ?_;rintro e w' ⟨rfl,hw⟩;rw[hw])
 all_goals (go_ret;refine⟨?_,rfl⟩;unfold Lib.compareInt;(repeat' split)<;>first|rfl|(exfalso;omega))
def abg (b off cap:Nat) (x y r:Int) (hr:r=if x≠0 then x else y) (w:World) (h0:w.cell? ⟨b,off,none⟩=some (.int .i64 x)) (h1:w.cell? ⟨b,off+1,none⟩=some (.int .i64 y)):Calls prog 63 #[.slice (some ⟨b,off,none⟩) 2 cap] w fun e w'=>e=.returned (.int .i64 r)∧w'=w:=by
 go_enter func63,ntmps63
 go_wp2
 refine wp_loop_rounds 3 ?_;repeat any_goals (rw[rounds_succ];go_wp2)
 all_goals (go_ret;refine⟨?_,rfl⟩;subst hr;simp_all)
def GP (W:World) (A B:Obj) (q:Nat):({ ((W.alloc A).alloc B) with drawn:=q } : World).heap[W.heap.size]? = some A∧({ ((W.alloc A).alloc B) with drawn:=q } : World).heap[W.heap.size+1]? = some B:=by
 constructor
 ·show ((W.heap.push A).push B)[W.heap.size]? = some A;simp[Array.getElem?_push]
 ·show ((W.heap.push A).push B)[W.heap.size+1]? = some B;rw[Array.getElem?_push,if_pos (by simp)]
def VO (w:World) (x y:Value) (t:TypeId):(w.alloc (.cells #[x,y] t)).cell? ⟨w.heap.size,0,none⟩=some x∧(w.alloc (.cells #[x,y] t)).cell? ⟨w.heap.size,0+1,none⟩=some y:=by
 have h:(w.alloc (.cells #[x,y] t)).heap[w.heap.size]? = some (.cells #[x,y] t):=by
  show (w.heap.push _)[w.heap.size]? = _;simp
 exact⟨bd h (j:=0) (by simp),bd h (j:=0+1) (by simp)⟩
def X4 (W:World) (A B:Obj):({ ((W.alloc A).alloc B) with drawn:=((W.alloc A).alloc B).drawn+1 } : World)=grow (W.drewN 1) #[A,B]:=by
 rw[alloc_eq_grow,alloc_eq_grow,grow_grow];rfl
def OR {P:Program} {id:Nat} {Q:Exit->Act->World->Prop} {a:Act} {w b:World} {l:List Oper} (n:Nat) (d:b = { w with drawn:=w.drawn+1 }) (e:P.follows .mixedOrders=true) (f:Region.lexTailB .any l.toArray n=true)
  (h:wpStill P l.toArray b (fun g=>wpList P l.toArray Q (l.drop n) g b) (l.take n) a):(Code.region id l.toArray true).wp P Q a w:=by
 subst d;exact wp_region_still_tail n e f h
set_option maxRecDepth 100000 in
def L6 (f1 t1 f2 t2:Int) (a b c d a' b' c' d':Value) (W:World) (h1:∀v∈[a,b,c,d],v.oneCell'=true) (h2:∀v∈[a',b',c',d'],v.oneCell'=true) :
  Calls prog 35 #[.agg #[.int .i64 f1,.int .i64 t1,a,b,c,d],.agg #[.int .i64 f2,.int .i64 t2,a',b',c',d']] W fun e w'=>e=.returned (.int .i64 (if Lib.compareInt f1 f2≠0 then Lib.compareInt f1 f2 else Lib.compareInt t1 t2))∧∃q os',w'=grow (W.drewN q) os':=by
 have hcon:=fun x y W'=>Mz x y W';have hor:=fun b off cap x y r hr W' h0 h1=>abg b off cap x y r hr W' h0 h1;generalize hr:(if Lib.compareInt f1 f2≠0 then Lib.compareInt f1 f2 else Lib.compareInt t1 t2)=r;obtain⟨w1,hw1⟩:∃w1:World,w1 = { ((W.alloc (Obj.cells #[.int .i64 f1,.int .i64 t1,a,b,c,d] 50)).alloc (Obj.cells #[.int .i64 f2,.int .i64 t2,a',b',c',d'] 50)) with drawn:=((W.alloc (Obj.cells #[.int .i64 f1,.int .i64 t1,a,b,c,d] 50)).alloc (Obj.cells #[.int .i64 f2,.int .i64 t2,a',b',c',d'] 50)).drawn+1 }:=⟨_,rfl⟩;have hg:∃q os,w1=grow (W.drewN q) os:=⟨_,_,hw1.trans (X4 _ _ _)⟩;have hA:w1.heap[W.heap.size]? = some (Obj.cells #[.int .i64 f1,.int .i64 t1,a,b,c,d] 50):=by rw[hw1];exact (GP _ _ _ _).1
 have hB:w1.heap[W.heap.size+1]? = some (Obj.cells #[.int .i64 f2,.int .i64 t2,a',b',c',d'] 50):=by rw[hw1];exact (GP _ _ _ _).2
 have c1:w1.cell? ⟨W.heap.size,0,none⟩=some (.int .i64 f1):=bd hA (j:=0) (by simp);have c2:w1.cell? ⟨W.heap.size,1,none⟩=some (.int .i64 t1):=bd hA (j:=1) (by simp);have c3:w1.cell? ⟨W.heap.size+1,0,none⟩=some (.int .i64 f2):=bd hB (j:=0) (by simp);have c4:w1.cell? ⟨W.heap.size+1,1,none⟩=some (.int .i64 t2):=bd hB (j:=1) (by simp);clear hA hB
 go_enter func35,ntmps35
 go_wp2
 refine OR 10 hw1 (by kernel_rfl) (by kernel_rfl) ?_;clear hw1;simp only[List.take_succ_cons,List.take_zero,agQ,agk]
 iterate 4 still_step
 still_call (hcon _ _ _)
 iterate 4 still_step
 still_call (hcon _ _ _)
 apply wpStill_nil;generalize Lib.compareInt f1 f2=r1 at *;generalize Lib.compareInt t1 t2=r2 at *
 go_wp2_with (go_at_call 63;refine (hor _ _ _ _ _ _ hr.symm _ (VO _ _ _ _).1 (VO _ _ _ _).2).mono ?_;rintro e w' ⟨rfl,rfl⟩)
 go_ret
 obtain⟨q,os,hq⟩:=hg;exact⟨rfl,q,_,by rw[hq,alloc_eq_grow,grow_grow]⟩
def XI {α:Type} {E:jS α} (m:E.size=6) {f g:α->Int} (q:∀x,(E.cells x)[0]? = some (.int .i64 (f x))) (r:∀x,(E.cells x)[1]? = some (.int .i64 (g x))) {w:World} {M:Nat->Prop} {x:α} {k:List Value} (h:IsV E w M x k) :
  ∃a b c d,k=[.int .i64 (f x),.int .i64 (g x),a,b,c,d]∧∀v∈[a,b,c,d],v.oneCell'=true:=by
 obtain⟨n,l⟩:=h;rw[m]at n
 match k,n with
 | [a0,o,a2,a3,a4,a5],_ =>
  have s:a0=.int .i64 (f x):=by
   have:=(l 0 _ (q x)).2;simp at this;cases this;rfl
  have t:o=.int .i64 (g x):=by
   have:=(l 1 _ (r x)).2;simp at this;cases this;rfl
  have i:=E.len x;rw[m]at i;have e:∀j,j<6->([a0,o,a2,a3,a4,a5].getD j undef).oneCell'=true:=fun j z=>by
   obtain⟨u,y⟩:=l j _ (ae9 (by omega));exact y.sj u
  subst s t;refine⟨a2,a3,a4,a5,rfl,fun v p =>?_⟩;simp only[ae3,af2,or_false]at p;rcases p with rfl|rfl|rfl|rfl
  ·exact e 2 (by decide)
  ·exact e 3 (by decide)
  ·exact e 4 (by decide)
  ·exact e 5 (by decide)
def T7 {α:Type} {E:jS α} (e:E.size=6) {f g:α->Int} (h:∀x,(E.cells x)[0]? = some (.int .i64 (f x))) (i:∀x,(E.cells x)[1]? = some (.int .i64 (g x))):abQ prog 35 true E (jQ f g):=by
 intro w M x y r s t j k;obtain⟨a,b,c,d,rfl,p⟩:=XI e h i j;obtain⟨l,m,n,o,rfl,q⟩:=XI e h i k;exact L6 _ _ _ _ a b c d l m n o w p q
def UX {P:Program} {ρ:Go.Shelf.Ren} (L:SlLaysF0.n6 P ρ) {k g:Nat} (l:∀w,(isAgg (ρ.t 24)).run P w=.ok true w) (n:∀w,(Go.sizeOf (ρ.t 24)).run P w=.ok k w) (o:∀a w,(callFunc g a).run P w=.ok (.enter g a) w):ZN P (ρ.f 6) g true k :=
 fun β p enc q r s t e f h d w b u c i=>AnyQ.slices_SortFunc L k l n enc r s q t g #[] e f h d w o (fun m v z j x y=>by simpa [VP] using b m v z j x y) u c i
def K0 {α:Type} {E:jS α} (b:E.size=6) {f g:α->Int} (c:∀x,(E.cells x)[0]? = some (.int .i64 (f x))) (d:∀x,(E.cells x)[1]? = some (.int .i64 (g x))) (e:Nat) :
  bK prog 34 (YT e E (dc (aFn 35)) (fun l (_:Unit)=>CN (jQ f g) l) (fun _:Unit =>.clean (.tup []))) :=
 XM (F:=CN (jQ f g)) func34 ⟨rfl,rfl⟩ (fun _=>rfl) (fun p a w=>AnyF.slices_SortFunc_none Tryz.XN p a _ w) (tK f g) (T7 b c d)
  (by rw[b];exact UX Tryz.XN isAgg50 sizeOf50 (enters_of func35 (by kernel_rfl) rfl))
end Go.Proofs.YtekhokjkphgphaaGreat.Am
namespace Go.Proofs.YtekhokjkphgphaaGreat.Am
open Go.RowKit Go.Proofs.YtekhokjkphgphaaGreat.P
def lJ:Nat->Code->Code
 | 0,.seq a _=>a
 | k+1,.seq a b =>.seq a (lJ k b)
 | _,c=>c
def BO:Nat->Code->Code
 | 0,.seq _ b=>b
 | k+1,.seq _ b=>BO k b
 | _,_ =>.skip
def spine:Nat->Code->Bool
 | 0,.seq _ _=>true
 | k+1,.seq _ b=>spine k b
 | _,_=>false
def VX (a:Func):Code:=match a.body with|some c=>c|none =>.skip
def Kr (a b:Code):lJ 0 (.seq a b)=a:=rfl
def Kq (k:Nat) (a b:Code):lJ (k+1) (.seq a b)=.seq a (lJ k b):=rfl
section
variable {P:Program} {T:Nat->Option Ty} {N:Nat} {M:Nat->Prop} {L:jM} {w0:World} {Γ:Env}
def Co (l:iI P T) (m:bG P Γ) (o:P.follows .mixedOrders=true) {F:Nat} {Q:Exit->Act->World->Prop} : ∀(k:Nat) (c:Code) (s:St) (x:Ex) (i:St) (a:Act) (w:World),spine k c=true->fV T Γ N F (lJ k c) s=some (x,i)->codeOk (lJ k c)=true->Holds N M L w0 s a w ->
  (x=.normal->∀e f,Holds N M L w0 i e f->(BO k c).wp P Q e f)->(x ≠ .normal->∀e f,Holds N M L w0 i e f->Q (EJ x) e f)->c.wp P Q a w
 | 0,.seq b c,s,x,i,a,w,_,j,g,hH,h1,h2=>by
  refine wp_seq (jh l m o b s x i _ a w j g hH fun e f d =>?_);cases x with
  | normal=>exact h1 rfl e f d
  | exit n=>exact h2 (by intro h;cases h) e f d
  | ret=>exact h2 (by intro h;cases h) e f d
 | k+1,.seq b c,s,x,i,a,w,hs,j,g,hH,h1,h2=>by
  simp only[lJ,codeOk,afx]at g;simp only[lJ,fV,abG]at j;apply wp_seq;split at j
  ·rename_i q p;exact jh l m o b s .normal q _ a w p g.1 hH fun e f d=>Co l m o k c q x i e f hs j g.2 d h1 h2
  ·rename_i r hne;refine jh l m o b s x i _ a w j g.1 hH fun e f d =>?_;cases x with
   | normal=>exact absurd j (fun h=>hne i h)
   | exit n=>exact h2 (by intro h;cases h) e f d
   | ret=>exact h2 (by intro h;cases h) e f d
end
def yN (T:Nat->Option Ty) (rs:List ResultVar) (r:RK×Option Row) (J:(Nat->D)->(Nat->Option Row)->Nat->Prop):Kt:=fun x t h e =>
 match x with
 | .normal=>J t h e
 | .ret=>eB .clean T none rs ⟨t,EH h,e⟩=some r
 | .exit _=>False
section
variable {T:Nat->Option Ty} {Γ:Env} {n F k:Nat} {rs:List ResultVar} {r:RK×Option Row} {J:(Nat->D)->(Nat->Option Row)->Nat->Prop} {t:Nat->D} {h:Nat->Option Row} {e:Nat}
def G9:yN T rs r J .normal t h e=J t h e:=ahM
def EL:yN T rs r J .ret t h e=(eB .clean T none rs ⟨t,EH h,e⟩=some r):=ahM
def RY (T:Nat->Option Ty) (Γ:Env) (F k:Nat) (b:Func) (a:List D) (K:Kt):Prop:=∃c,b.body=some c∧∃x s,fV T Γ b.ntmps F (lJ k c) (cg none a)=some (x,s)∧K x s.t s.h s.e
def Vh {b:Func} {c:Code} {a:List D} (d:b.body=some c) (e:b.ntmps=n) (f:b.results=rs.toArray) (g:dB T Γ n F [.code (lJ k c)] (yN T rs r J) .normal (L3 a) Xl 0):RY T Γ F k b a (yN T b.results.toList r J):=by
 obtain⟨x,s,h,i⟩:=LJ _ _ _ _ _ (show PO T Γ n F (lJ k c) (L3 a) Xl 0 (yN T rs r J) from g);refine⟨c,d,x,s,?_,?_⟩
 ·rw[e];exact h
 ·rw[f];exact i
end
section
variable {P:Program} {T:Nat->Option Ty} {Γ:Env}
def Pr {n:Nat} {a:List D} {w:World} {M:Nat->Prop} {f:Array Value} (o:∀b,M b->b<w.heap.size) (c:zB w M a f) (z:a.length<=n) (h:n<=PK):Holds n M none w (cg none a) { tmps:=f++Array.replicate (n-f.size) undef,defers:=[] } w:=by
 have p:Inv n M none w (fun _=>none) (fun x v=>x<n∧v<0) (cg none a).t (cg none a).h { tmps:=f++Array.replicate (n-f.size) undef,defers:=[] } w:={
  tab:=fun b d=>(c.tab b d).less fun b d=>by
   rcases d with d|⟨x,r,g,e,_⟩
   ·exact d
   ·cases e
  below:=ez.refl _ _
  mlt:=o
  lent:=fun b d=>absurd d rV
  pin:=fun A q=>by cases q
  defers:=rfl
  tsz:=by have:=c.1;simp;omega
  slots:=fun i=>by
   simp only[cg];rcases wY (n:=n) (i:=i) c.1 with he|he
   ·rw[he]
    by_cases j:i<a.length
    ·have t:=c.2 i _ (ae9 j);have l:a.getD i .und=a[i]:=by simp[List.getD,j]
     rw[l];exact bQ (t.less fun b d=>by
      rcases d with d|⟨x,r,g,e,_⟩
      ·exact d
      ·cases e)
    ·have l:a.getD i .und=.und:=by simp[List.getD,agx (agD j)]
     rw[l];trivial
   ·rw[he];trivial
  rows:=fun x r e=>by cases e
  inj:=fun x y r s g B e=>by cases e
  big:=h
  pha:=fun y r g m=>by cases m
  ali:=fun y r g m=>by cases m }
 exact⟨_,⟨(by rw[DF (fun k r u=>by cases u)];exact p.weaken fun x v e=>absurd e.2 (Nat.not_lt_zero _)),fun x r C s E F e=>by cases e⟩⟩
def Iz (q:iI P T) {e:Func} {M:Nat->Prop} {w d:World} {s:St} {a':Act} {n:RK} (r:Holds e.ntmps M none w s a' d) (c:eB .clean T none e.results.toList ⟨s.t,EH s.h,s.e⟩=some (n,none)) :
  a'.defers=[]∧∃v,(results e a'.tmps).run P d=.ok v d∧(∃p,Ending.returned v=.returned p∧Below w.heap.size w d∧vE w d M (fun _=>False) p n):=by
 obtain⟨f,k⟩:=r;obtain⟨j,g⟩:∃j:St,j=⟨s.t,EH s.h,s.e⟩:=⟨_,rfl⟩;have a:Inv e.ntmps M none w f (VE e.ntmps s.e [] s.h) j.t j.h a' d:=by rw[g];exact k.inv
 rw[<- g]at c;have h:Below w.heap.size w d:=a.below.below (fun b t=>absurd t rV);refine⟨a.defers,?_⟩;simp only[eB,qY,lM]at c;split at c<;>try (cases c;done)
 rename_i u fr o i x;split at c<;>try (cases c;done)
 simp only[ae5,Prod.mk.injEq]at c;obtain⟨rfl,_⟩:=c;obtain⟨v,l,m⟩:=sF (P:=P) q a i (a.aag fr);exact⟨v,l,v,rfl,h,m⟩
def LY (P:Program) (b:Func) (c:Code) (f:RK) (J:(Nat->D)->(Nat->Option Row)->Nat->Prop):Prop:=∀(w0:World) (M:Nat->Prop) (s:St) (a:Act) (w:World),J s.t s.h s.e->Holds b.ntmps M none w0 s a w ->
 c.wp P (bodyPost P b fun e d=>∃v,e=.returned v∧Below w0.heap.size w0 d∧vE w0 d M (fun _=>False) v f) a w
def bK.front (m:iI P T) (u:bG P Γ) (v:P.follows .mixedOrders=true) {α β:Type} {A:jR α} {F:α->Option β} {R:β->RK} {f:FuncId} {b:Func} {c:Code} {k:Nat} {J:β->(Nat->D)->(Nat->Option Row)->Nat->Prop} (o:P.funcs[f]? = some b) (p:b.body=some c) (d:(codeOk (lJ k c)&&spine k c)=true)
  (y:(b.name == "runtime.NumGoroutine")=false∧b.body.isNone=false) (z:∀a,(A.ds a).length<=b.ntmps) (i:b.ntmps<=1000000) (h:∀a r,F a=some r->RY T Γ FU k b (A.ds a) (yN T b.results.toList (R r,none) (J r))) (B:∀r,LY P b (BO k c) (R r) (J r)):bK P f (di A F R) where
 calls lent K rk out C:=by
  obtain⟨rfl,rfl,a,r,rfl,E,rfl⟩:=tA C;rw[afx]at d;intro w M L G e;obtain⟨N,g,x,s,H,j⟩:=h a r E;rw[p]at g;cases g;apply calls_of_wp o p;refine Co m u v k c (cg none (A.ds a)) x s _ _ d.2 H d.1 (Pr G e (z a) (by rw[cQ];exact i)) ?_ ?_
  ·rintro rfl q t l;exact B r w M s q t j l
  ·intro I q t l;cases x with
   | normal=>exact absurd rfl I
   | exit n=>exact j.elim
   | ret=>exact Iz m l j
 callable:=⟨b,o,y⟩
end
end Go.Proofs.YtekhokjkphgphaaGreat.Am
namespace Go.Proofs.YtekhokjkphgphaaGreat.P
open Go.RowKit
structure aG where
 ak:Int
 aa:(List Int)
structure aw where
 bR:aG
 bN:aG
structure bD where
 bI:Int
 fU:Int
 bJ:aw
structure cA where
 aq:Int
 az:(List bD)
structure fv where
 b7:Int
 a7:Int
structure fK where
 ba:Int
 aZ:Int
 a7:Int
structure uf where
 ba:Int
 aZ:Int
 a7:Int
 Ko:ByteArray
structure cJ where
 ah:(List fK)
 aB:(List uf)
 av:(List (List aw))
structure bF where
 an:cJ
 aL:(List fv)
 aq:(List Int)
structure bg where
 al:(List Int)
 ao:(List bF)
def wT (b:(List Int)):(Int)->Option ((Int)⊕((Int)))
 | a =>
  if decide (a>0) then
   (P.idx b (IntKind.i64.wrap (a-1))).bind fun c =>
   if (c==0) then
    some (.inl (IntKind.i64.wrap (a-1)))
   else
    some (.inr a)
  else
   some (.inr a)
def ic (b:(List Int)):Option ((List Int)) :=
 (aK (wT b) (b.length:Int)).bind fun a =>
 (Df b 0 a).bind fun c =>
 (kV 8 [] c).bind fun _ =>
 some c
def fb (b:Int) (c:(List Int)):Option (aG) :=
 (ic c).bind fun a =>
 if ((a.length:Int)==0) then
  some (aG.mk 0 ([]))
 else
  some (aG.mk b a)
def xH:(Int×(List Int))->Option ((Int×(List Int))⊕(((List Int))))
 | (a,b) =>
  if (a != 0) then
   (Fu .i64 a 1048576).bind fun c =>
   if decide (c<0) then
    (kV 8 b [IntKind.i64.wrap (0-c)]).bind fun d =>
    (AO .i64 a 1048576).bind fun e =>
    some (.inl (e,d))
   else
    (kV 8 b [c]).bind fun f =>
    (AO .i64 a 1048576).bind fun g =>
    some (.inl (g,f))
  else
   some (.inr b)
def wR (c:Int):Option (aG) :=
 if (c==0) then
  some (aG.mk 0 ([]))
 else
  (if decide (c<0) then
   some (-1)
  else
   some 1).bind fun a =>
  (aK (xH) (c,[])).bind fun b =>
  (fb a b).bind fun d =>
  some d
def qk (b:aG):(Int)->Option ((Int)⊕((Unit)⊕(Bool)))
 | a =>
  if decide (a<(b.aa.length:Int)) then
   (P.idx b.aa a).bind fun c =>
   if decide (c<0) then
    some (.inr (.inr false))
   else
    if decide (c>=1048576) then
     some (.inr (.inr false))
    else
     some (.inl (IntKind.i64.wrap (a+1)))
  else
   some (.inr (.inl ()))
def dj (a:aG):Option (Bool) :=
 (aK (qk a) 0).bind fun q=>match q with
 | (.inl _) =>
  (if decide (a.ak<(-1)) then
   some true
  else
   if decide (a.ak>1) then
    some true
   else
    some (!(((a.aa.length:Int)==0)==(a.ak==0)))).bind fun b =>
  if b then
   some false
  else
   if ((a.aa.length:Int)==0) then
    some true
   else
    (P.idx a.aa (IntKind.i64.wrap ((a.aa.length:Int)-1))).bind fun c =>
    some (c != 0)
 | (.inr d) =>
  some d
def sr (a:aG):Option (aG) :=
 (dj a).bind fun b =>
 if (!b) then
  some (aG.mk 0 ([]))
 else
  (fb (IntKind.i64.wrap (0-a.ak)) a.aa).bind fun c =>
  some c
def iU (a:(List Int)) (b:Int):Option (Int) :=
 if decide (b<(a.length:Int)) then
  (P.idx a b).bind fun c =>
  some c
 else
  some 0
def qn (l:(List Int)) (k:(List Int)) (b:Int):(Int×Int×(List Int))->Option ((Int×Int×(List Int))⊕(((List Int))))
 | (c,a,d) =>
  (if decide (a<(k.length:Int)) then
   some true
  else
   some (decide (c>0))).bind fun e =>
  if e then
   (P.idx d (IntKind.i64.wrap (b+a))).bind fun f =>
   (P.idx l b).bind fun g =>
   (iU k a).bind fun h =>
   (Fu .i64 (IntKind.i64.wrap ((IntKind.i64.wrap (f+(IntKind.i64.wrap (g*h))))+c)) 1048576).bind fun i =>
   (AO .i64 (IntKind.i64.wrap ((IntKind.i64.wrap (f+(IntKind.i64.wrap (g*h))))+c)) 1048576).bind fun j =>
   some (.inl (j,IntKind.i64.wrap (a+1),(d.set (IntKind.i64.wrap (b+a)).toNat i)))
  else
   some (.inr d)
def qm (d:(List Int)) (e:(List Int)):(Int×(List Int))->Option ((Int×(List Int))⊕(((List Int))))
 | (a,b) =>
  if decide (a<(d.length:Int)) then
   (aK (qn d e a) (0,0,b)).bind fun c =>
   some (.inl (IntKind.i64.wrap (a+1),c))
  else
   some (.inr b)
def kG (b:(List Int)) (c:(List Int)):Option ((List Int)) :=
 (IZ 8 (IntKind.i64.wrap ((b.length:Int)+(c.length:Int))) (IntKind.i64.wrap ((b.length:Int)+(c.length:Int))) 0).bind fun e =>
 (aK (qm b c) (0,e)).bind fun a =>
 (ic a).bind fun d =>
 some d
def ss (d:(List Int)) (e:(List Int)):(Int)->Option ((Int)⊕((Unit)⊕(Bool)))
 | a =>
  if decide (a>=0) then
   (iU d a).bind fun b =>
   (iU e a).bind fun c =>
   if (b != c) then
    some (.inr (.inr (decide (b<c))))
   else
    some (.inl (IntKind.i64.wrap (a-1)))
  else
   some (.inr (.inl ()))
def oZ (a:(List Int)) (b:(List Int)):Option (Bool) :=
 (aK (ss a b) (IntKind.i64.wrap ((if (b.length:Int)>(a.length:Int) then (b.length:Int) else (a.length:Int))-1))).bind fun q=>match q with
 | (.inl _) =>
  some false
 | (.inr c) =>
  some c
def ql (h:(List Int)) (i:(List Int)):(Int×Int×(List Int))->Option ((Int×Int×(List Int))⊕(((List Int))))
 | (b,a,c) =>
  if decide (a<(h.length:Int)) then
   (P.idx h a).bind fun d =>
   (iU i a).bind fun e =>
   if decide ((IntKind.i64.wrap ((IntKind.i64.wrap (d-e))-b))<0) then
    (kV 8 c [IntKind.i64.wrap ((IntKind.i64.wrap ((IntKind.i64.wrap (d-e))-b))+1048576)]).bind fun f =>
    some (.inl (1,IntKind.i64.wrap (a+1),f))
   else
    (kV 8 c [IntKind.i64.wrap ((IntKind.i64.wrap (d-e))-b)]).bind fun g =>
    some (.inl (0,IntKind.i64.wrap (a+1),g))
  else
   some (.inr c)
def kF (c:(List Int)) (d:(List Int)):Option ((List Int)) :=
 (aK (ql c d) (0,0,[])).bind fun a =>
 (ic a).bind fun b =>
 some b
def o0 (g:(List Int)) (d:(List Int)):(Int×Int)->Option ((Int×Int)⊕((Int)))
 | (b,a) =>
  if decide ((IntKind.i64.wrap (a-b))>1) then
   (AO .i64 (IntKind.i64.wrap (b+a)) 2).bind fun c =>
   (kG g ([c])).bind fun e =>
   (oZ d e).bind fun f =>
   if f then
    some (.inl (b,c))
   else
    some (.inl (c,a))
  else
   some (.inr b)
def su (l:(List Int)) (k:(List Int)):((List Int)×Int×(List Int))->Option (((List Int)×Int×(List Int))⊕(((List Int)×(List Int))))
 | (d,a,c) =>
  if decide (a>=0) then
   (P.idx l a).bind fun f =>
   (kV 8 [f] d).bind fun g =>
   (ic g).bind fun e =>
   (aK (o0 k e) (0,1048576)).bind fun b =>
   (P.idx c a).bind fun m =>
   (ic ([b])).bind fun h =>
   (kG k h).bind fun i =>
   (kF e i).bind fun j =>
   some (.inl (j,IntKind.i64.wrap (a-1),(c.set (a).toNat b)))
  else
   some (.inr (d,c))
def rC (c:(List Int)) (e:(List Int)):Option ((List Int)×(List Int)) :=
 (IZ 8 (c.length:Int) (c.length:Int) 0).bind fun f =>
 (aK (su c e) ([],IntKind.i64.wrap ((c.length:Int)-1),f)).bind fun q=>match q with
 | (a,b) =>
  (ic b).bind fun d =>
  some (d,a)
def rB:((List Int)×(List Int))->Option (((List Int)×(List Int))⊕(((List Int))))
 | (b,a) =>
  if decide ((a.length:Int)>0) then
   (rC b a).bind fun c =>
   some (.inl (a,c.2))
  else
   some (.inr b)
def so (d:aG) (e:aG):Option (aG×Int) :=
 (dj d).bind fun f =>
 (if (!f) then
  some true
 else
  (dj e).bind fun c =>
  some (!c)).bind fun a =>
 if a then
  some ((aG.mk 0 ([])),1)
 else
  (aK (rB) (d.aa,e.aa)).bind fun b =>
  (fb 1 b).bind fun g =>
  some (g,0)
def sw (j:(List Int)) (k:(List Int)):(Int×Int×(List Int))->Option ((Int×Int×(List Int))⊕(((List Int))))
 | (b,a,d) =>
  (if decide (a<(j.length:Int)) then
   some true
  else
   if decide (a<(k.length:Int)) then
    some true
   else
    some (decide (b>0))).bind fun c =>
  if c then
   (iU j a).bind fun e =>
   (iU k a).bind fun f =>
   (Fu .i64 (IntKind.i64.wrap ((IntKind.i64.wrap (e+f))+b)) 1048576).bind fun g =>
   (kV 8 d [g]).bind fun h =>
   (AO .i64 (IntKind.i64.wrap ((IntKind.i64.wrap (e+f))+b)) 1048576).bind fun i =>
   some (.inl (i,IntKind.i64.wrap (a+1),h))
  else
   some (.inr d)
def pb (c:(List Int)) (d:(List Int)):Option ((List Int)) :=
 (aK (sw c d) (0,0,[])).bind fun a =>
 (ic a).bind fun b =>
 some b
def qh (d:aG) (a:aG):Option (aG×aG×Int) :=
 (dj d).bind fun k =>
 (if (!k) then
  some true
 else
  (dj a).bind fun f =>
  some (!f)).bind fun b =>
 if b then
  some ((aG.mk 0 ([])),(aG.mk 0 ([])),1)
 else
  if (a.ak==0) then
   some ((aG.mk 0 ([])),(aG.mk 0 ([])),15)
  else
   (rC d.aa a.aa).bind fun e =>
   (if decide ((IntKind.i64.wrap (d.ak*a.ak))>=0) then
    some true
   else
    some ((e.2.length:Int)==0)).bind fun c =>
   if c then
    (fb (IntKind.i64.wrap (d.ak*a.ak)) e.1).bind fun l =>
    (fb d.ak e.2).bind fun m =>
    some (l,m,0)
   else
    (pb e.1 ([1])).bind fun g =>
    (fb (-1) g).bind fun h =>
    (kF a.aa e.2).bind fun i =>
    (fb a.ak i).bind fun j =>
    some (h,j,0)
def qo (i:aG) (f:aG):Option (aw×Int) :=
 (dj i).bind fun l =>
 (if (!l) then
  some true
 else
  (dj f).bind fun j =>
  some (!j)).bind fun e =>
 if e then
  some ((aw.mk (aG.mk 0 ([])) (aG.mk 0 ([]))),1)
 else
  if (f.ak==0) then
   some ((aw.mk (aG.mk 0 ([])) (aG.mk 0 ([]))),15)
  else
   (if decide (f.ak<0) then
    (sr i).bind fun g =>
    (sr f).bind fun h =>
    some (g.ak,g.aa,h.ak,h.aa)
   else
    some (i.ak,i.aa,f.ak,f.aa)).bind fun q=>match q with
   | (a,b,c,d) =>
    (so (aG.mk a b) (aG.mk c d)).bind fun k =>
    (qh (aG.mk a b) k.1).bind fun m =>
    (qh (aG.mk c d) k.1).bind fun n =>
    some ((aw.mk m.1 n.1),0)
def uW (b:Int) (c:Int):Option (aw×Int) :=
 (wR b).bind fun d =>
 (wR c).bind fun e =>
 (qo d e).bind fun a =>
 some (a.1,a.2)
def Ad:Option (aw) :=
 (uW 1 2).bind fun a =>
 some a.1
def jP (a:Int):Option (aw) :=
 (uW a 1).bind fun b =>
 some b.1
def CI (c:aG) (d:aG):(Int)->Option ((Int)⊕((Unit)⊕(Bool)))
 | a =>
  if decide (a<(c.aa.length:Int)) then
   (P.idx c.aa a).bind fun e =>
   (P.idx d.aa a).bind fun b =>
   if (e != b) then
    some (.inr (.inr false))
   else
    some (.inl (IntKind.i64.wrap (a+1)))
  else
   some (.inr (.inl ()))
def wS (b:aG) (c:aG):Option (Bool) :=
 (if (b.ak != c.ak) then
  some true
 else
  some ((b.aa.length:Int) != (c.aa.length:Int))).bind fun a =>
 if a then
  some false
 else
  (aK (CI b c) 0).bind fun q=>match q with
  | (.inl _) =>
   some true
  | (.inr d) =>
   some d
def kb (b:aG) (c:aG):Option (Int) :=
 (dj b).bind fun e =>
 (if (!e) then
  some true
 else
  (dj c).bind fun f =>
  if (!f) then
   some true
  else
   (wS b c).bind fun d =>
   some d).bind fun a =>
 if a then
  some 0
 else
  if (b.ak != c.ak) then
   if decide (b.ak<c.ak) then
    some (-1)
   else
    some 1
  else
   (oZ b.aa c.aa).bind fun g =>
   if (g==(decide (b.ak>0))) then
    some (-1)
   else
    some 1
def dX (b:aw):Option (Bool) :=
 (dj b.bR).bind fun c =>
 (if (!c) then
  some true
 else
  (dj b.bN).bind fun d =>
  if (!d) then
   some true
  else
   some (decide (b.bN.ak<1))).bind fun a =>
 if a then
  some false
 else
  (so b.bR b.bN).bind fun e =>
  (wR 1).bind fun f =>
  (kb e.1 f).bind fun g =>
  some (g==0)
def ew (b:aG) (c:aG):Option (aG×Int) :=
 (dj b).bind fun d =>
 (if (!d) then
  some true
 else
  (dj c).bind fun e =>
  some (!e)).bind fun a =>
 if a then
  some ((aG.mk 0 ([])),1)
 else
  (kG b.aa c.aa).bind fun f =>
  (fb (IntKind.i64.wrap (b.ak*c.ak)) f).bind fun g =>
  some (g,0)
def uU (a:aG) (b:aG):Option (aG×Int) :=
 (dj a).bind fun j =>
 (if (!j) then
  some true
 else
  (dj b).bind fun e =>
  some (!e)).bind fun c =>
 if c then
  some ((aG.mk 0 ([])),1)
 else
  (if (a.ak==0) then
   some true
  else
   if (b.ak==0) then
    some true
   else
    some (a.ak==b.ak)).bind fun d =>
  if d then
   (pb a.aa b.aa).bind fun k =>
   (fb (kW .or .i64 a.ak b.ak) k).bind fun l =>
   some (l,0)
  else
   (oZ a.aa b.aa).bind fun m =>
   if m then
    (kF b.aa a.aa).bind fun f =>
    (fb b.ak f).bind fun g =>
    some (g,0)
   else
    (kF a.aa b.aa).bind fun h =>
    (fb a.ak h).bind fun i =>
    some (i,0)
def xI (c:aG) (a:aG):Option (aG×Int) :=
 (dj a).bind fun d =>
 if (!d) then
  some ((aG.mk 0 ([])),1)
 else
  (sr a).bind fun e =>
  (uU c e).bind fun b =>
  some (b.1,b.2)
def sA (b:aw) (c:aw):Option (aw×Int) :=
 (dX b).bind fun f =>
 (if (!f) then
  some true
 else
  (dX c).bind fun d =>
  some (!d)).bind fun a =>
 if a then
  some ((aw.mk (aG.mk 0 ([])) (aG.mk 0 ([]))),1)
 else
  (ew b.bR c.bN).bind fun g =>
  (ew c.bR b.bN).bind fun h =>
  (ew b.bN c.bN).bind fun i =>
  (xI g.1 h.1).bind fun j =>
  (qo j.1 i.1).bind fun e =>
  some (e.1,e.2)
def mf (c:Int) (b:aw):Option (bg) :=
 (jP 1).bind fun a =>
 (sA a b).bind fun d =>
 some (bg.mk ([20,10]) ([(bF.mk (cJ.mk ([(fK.mk 1 0 0),(fK.mk 0 0 0)]) ([(uf.mk 0 0 0 (ByteArray.mk #[]))]) ([[a,a]])) ([(fv.mk 1 c)]) ([0])),(bF.mk (cJ.mk ([(fK.mk 1 0 0)]) ([(uf.mk 0 0 0 (ByteArray.mk #[])),(uf.mk 2 0 0 (ByteArray.mk #[104,101,97,116]))]) ([[b],[d.1]])) ([(fv.mk 0 20)]) ([1]))]))
def dT (a:Int) (b:Int) (c:Int):Option (Bool) :=
 if decide (a>=b) then
  some (decide (a<=c))
 else
  some false
def me (b:(List Int)):(Int)->Option ((Int)⊕((Int)))
 | a =>
  if decide (a>0) then
   (P.idx b (IntKind.i64.wrap (a-1))).bind fun c =>
   if (c==0) then
    some (.inl (IntKind.i64.wrap (a-1)))
   else
    some (.inr a)
  else
   some (.inr a)
def ee (b:(List Int)):Option ((List Int)) :=
 (aK (me b) (b.length:Int)).bind fun a =>
 (Df b 0 a).bind fun c =>
 some c
def dq (b:Int) (c:(List Int)):Option (aG) :=
 (ee c).bind fun a =>
 if ((a.length:Int)==0) then
  some (aG.mk 0 ([]))
 else
  some (aG.mk b a)
def xt:(Int×(List Int))->Option ((Int×(List Int))⊕(((List Int))))
 | (a,b) =>
  if decide (a>0) then
   (kV 8 b [IntKind.i64.wrap (kW .and .u64 a 1048575)]).bind fun d =>
   (De .u64 a 20).bind fun c =>
   some (.inl (c,d))
  else
   some (.inr b)
def uh (d:Int):Option (aG) :=
 (if decide (d<0) then
  some ((-1),IntKind.u64.wrap (0-(IntKind.u64.wrap d)))
 else
  some (1,IntKind.u64.wrap d)).bind fun q=>match q with
 | (a,b) =>
  (aK (xt) (b,[])).bind fun c =>
  (dq a c).bind fun e =>
  some e
def jY (a:Int):Option (aw) :=
 (uh a).bind fun b =>
 (uh 1).bind fun c =>
 some (aw.mk b c)
def pW (b:aG):(Int)->Option ((Int)⊕((Unit)⊕(Bool)))
 | a =>
  if decide (a<(b.aa.length:Int)) then
   (P.idx b.aa a).bind fun c =>
   if decide (c<0) then
    some (.inr (.inr false))
   else
    if decide (c>1048575) then
     some (.inr (.inr false))
    else
     some (.inl (IntKind.i64.wrap (a+1)))
  else
   some (.inr (.inl ()))
def df (a:aG):Option (Bool) :=
 (aK (pW a) 0).bind fun q=>match q with
 | (.inl _) =>
  if ((a.aa.length:Int)==0) then
   some (a.ak==0)
  else
   if (a.ak==1) then
    (P.idx a.aa (IntKind.i64.wrap ((a.aa.length:Int)-1))).bind fun b =>
    some (b != 0)
   else
    if (a.ak==(-1)) then
     (P.idx a.aa (IntKind.i64.wrap ((a.aa.length:Int)-1))).bind fun c =>
     some (c != 0)
    else
     some false
 | (.inr d) =>
  some d
def eG (a:Bool) (b:aG):Option (aG×Int) :=
 if (!a) then
  some ((aG.mk 0 ([])),1)
 else
  some (b,0)
def du (a:(List Int)):Option (List Int):=kV 8 [] a
def qt (a:Int):Option (Bool) :=
 some (a != a)
def gw (a:Int) (p1:Int):Option (Int) :=
 (qt a).bind fun c =>
 (qt p1).bind fun b =>
 if c then
  if b then
   some 0
  else
   some (-1)
 else
  if b then
   some 1
  else
   if decide (a<p1) then
    some (-1)
   else
    if decide (a>p1) then
     some 1
    else
     some 0
def mF (e:(List Int)) (f:(List Int)):(Int)->Option ((Int)⊕((Unit)⊕(Int)))
 | a =>
  if decide (a>=0) then
   (P.idx e a).bind fun b =>
   (P.idx f a).bind fun c =>
   if (b != c) then
    (gw b c).bind fun d =>
    some (.inr (.inr d))
   else
    some (.inl (IntKind.i64.wrap (a-1)))
  else
   some (.inr (.inl ()))
def gu (a:(List Int)) (b:(List Int)):Option (Int) :=
 if ((a.length:Int) != (b.length:Int)) then
  (gw (a.length:Int) (b.length:Int)).bind fun c =>
  some c
 else
  (aK (mF a b) (IntKind.i64.wrap ((a.length:Int)-1))).bind fun q=>match q with
  | (.inl _) =>
   some 0
  | (.inr d) =>
   some d
def pY (i:(List Int)) (h:Int):(Int×Int×(List Int))->Option ((Int×Int×(List Int))⊕((Int×(List Int))))
 | (c,a,b) =>
  if decide (a>=0) then
   (Ht .i64 c 20).bind fun d =>
   (P.idx i a).bind fun e =>
   (AO .i64 (kW .or .i64 d e) h).bind fun f =>
   (P.idx b a).bind fun j =>
   (Fu .i64 (kW .or .i64 d e) h).bind fun g =>
   some (.inl (g,IntKind.i64.wrap (a-1),(b.set (a).toNat f)))
  else
   some (.inr (c,b))
def nN (c:(List Int)) (e:Int):Option ((List Int)×Int) :=
 (IZ 8 (c.length:Int) (c.length:Int) 0).bind fun f =>
 (aK (pY c e) (0,IntKind.i64.wrap ((c.length:Int)-1),f)).bind fun q=>match q with
 | (a,b) =>
  (ee b).bind fun d =>
  some (d,a)
def uq (i:(List Int)) (b:Int) (e:Int):(Int×Int×(List Int))->Option ((Int×Int×(List Int))⊕((Int×(List Int))))
 | (c,a,d) =>
  if decide (a<(i.length:Int)) then
   (P.idx i a).bind fun f =>
   (P.idx d (IntKind.i64.wrap (b+a))).bind fun g =>
   (De .i64 (IntKind.i64.wrap ((IntKind.i64.wrap (g+(IntKind.i64.wrap (e*f))))+c)) 20).bind fun h =>
   some (.inl (h,IntKind.i64.wrap (a+1),(d.set (IntKind.i64.wrap (b+a)).toNat (kW .and .i64 (IntKind.i64.wrap ((IntKind.i64.wrap (g+(IntKind.i64.wrap (e*f))))+c)) 1048575))))
  else
   some (.inr (c,d))
def uo (h:(List Int)) (e:(List Int)):(Int×(List Int))->Option ((Int×(List Int))⊕(((List Int))))
 | (a,c) =>
  if decide (a<(h.length:Int)) then
   (P.idx h a).bind fun f =>
   (aK (uq e a f) (0,0,c)).bind fun q=>match q with
   | (d,b) =>
    (P.idx b (IntKind.i64.wrap (a+(e.length:Int)))).bind fun g =>
    some (.inl (IntKind.i64.wrap (a+1),(b.set (IntKind.i64.wrap (a+(e.length:Int))).toNat (IntKind.i64.wrap (g+d)))))
  else
   some (.inr c)
def pX (b:(List Int)) (c:(List Int)):Option ((List Int)) :=
 (IZ 8 (IntKind.i64.wrap ((b.length:Int)+(c.length:Int))) (IntKind.i64.wrap ((b.length:Int)+(c.length:Int))) 0).bind fun e =>
 (aK (uo b c) (0,e)).bind fun a =>
 (ee a).bind fun d =>
 some d
def lF (i:(List Int)) (h:(List Int)) (j:Int):(Int×Int×(List Int))->Option ((Int×Int×(List Int))⊕((Int×(List Int))))
 | (c,a,d) =>
  if decide (a<((i).length:Int)) then
   (P.idx d a).bind fun e =>
   (if decide (a<(h.length:Int)) then
    (P.idx h a).bind fun f =>
    some (IntKind.i64.wrap ((IntKind.i64.wrap (e-c))-(IntKind.i64.wrap (j*f))))
   else
    some (IntKind.i64.wrap (e-c))).bind fun b =>
   (De .i64 b 20).bind fun g =>
   some (.inl (IntKind.i64.wrap (0-g),IntKind.i64.wrap (a+1),(d.set (a).toNat (kW .and .i64 b 1048575))))
  else
   some (.inr (c,d))
def lG (i:(List Int)) (e:(List Int)):(Int×Int×(List Int))->Option ((Int×Int×(List Int))⊕(((List Int))))
 | (c,a,d) =>
  if decide (a<((e).length:Int)) then
   (P.idx d a).bind fun f =>
   (if decide (a<(i.length:Int)) then
    (P.idx i a).bind fun g =>
    some (IntKind.i64.wrap ((IntKind.i64.wrap (c+f))+g))
   else
    some (IntKind.i64.wrap (c+f))).bind fun b =>
   (De .i64 b 20).bind fun h =>
   some (.inl (h,IntKind.i64.wrap (a+1),(d.set (a).toNat (kW .and .i64 b 1048575))))
  else
   some (.inr d)
def qL (e:(List Int)) (f:(List Int)) (d:Int):Option ((List Int)×(Int)) :=
 (aK (lF e f d) (0,0,e)).bind fun q=>match q with
 | (b,a) =>
  if (b==0) then
   some (a,d)
  else
   (aK (lG f a) (0,0,a)).bind fun c =>
   some (c,IntKind.i64.wrap (d-1))
def fZ (a:(List Int)) (b:(List Int)) (c:Int):Option ((List Int)×(Int)):=(qL a b c).bind fun r=>if r.1.length=a.length then some r else none
def Bu {a:(List Int)} {b:(List Int)} {c:Int} {r:(List Int)×(Int)} (h:fZ a b c=some r):r.1.length=a.length:=by
 unfold fZ at h;obtain⟨q,d,h⟩:=ab h;split at h
 ·cases h;assumption
 ·cases h
def uj (c:(List Int)):(Int)->Option ((Int)⊕((Int)))
 | a =>
  (P.idx c (IntKind.i64.wrap ((c.length:Int)-1))).bind fun b =>
  if decide ((IntKind.i64.wrap (b*a))<524288) then
   some (.inl (IntKind.i64.wrap (a*2)))
  else
   some (.inr a)
def um (d:(List Int)) (e:Int) (f:(List Int)) (g:Int):(Int×Int)->Option ((Int×Int)⊕((Int)))
 | (a,b) =>
  (if decide (a>=1048576) then
   some true
  else
   if decide (b<1048576) then
    (P.idx d (IntKind.i64.wrap (((d).length:Int)-2))).bind fun h =>
    (Ht .i64 b 20).bind fun i =>
    (P.idx f (IntKind.i64.wrap ((IntKind.i64.wrap (e+((d).length:Int)))-2))).bind fun j =>
    some (decide ((IntKind.i64.wrap (a*h))>(kW .or .i64 i j)))
   else
    some false).bind fun c =>
  if c then
   some (.inl (IntKind.i64.wrap (a-1),IntKind.i64.wrap (b+g)))
  else
   some (.inr a)
def uk (b:(List Int)):(Int×(List Int)×(List Int))->Option ((Int×(List Int)×(List Int))⊕(((List Int)×(List Int))))
 | (a,c,d) =>
  if decide (a>=0) then
   (P.idx c (IntKind.i64.wrap (a+((b).length:Int)))).bind fun j =>
   (Ht .i64 j 20).bind fun g =>
   (P.idx c (IntKind.i64.wrap ((IntKind.i64.wrap (a+((b).length:Int)))-1))).bind fun h =>
   (P.idx b (IntKind.i64.wrap (((b).length:Int)-1))).bind fun e =>
   (AO .i64 (kW .or .i64 g h) e).bind fun k =>
   (Fu .i64 (kW .or .i64 g h) e).bind fun l =>
   (aK (um b a c e) (k,l)).bind fun f =>
   (Df c a (IntKind.i64.wrap ((IntKind.i64.wrap (a+((b).length:Int)))+1))).bind fun m =>
   (fZ m b f).bind fun i =>
   (P.idx d a).bind fun n =>
   some (.inl (IntKind.i64.wrap (a-1),(c.take (a).toNat++(i.1++c.drop (IntKind.i64.wrap ((IntKind.i64.wrap (a+((b).length:Int)))+1)).toNat)),(d.set (a).toNat i.2)))
  else
   some (.inr (c,d))
def ui (f:(List Int)) (g:(List Int)):Option ((List Int)×(List Int)) :=
 (gu f g).bind fun p =>
 if decide (p<0) then
  (du f).bind fun r =>
  some ([],r)
 else
  if ((g.length:Int)==1) then
   (P.idx g 0).bind fun s =>
   (nN f s).bind fun o =>
   (ee ([o.2])).bind fun t =>
   some (o.1,t)
  else
   (aK (uj g) 1).bind fun a =>
   (pX f ([a])).bind fun j =>
   (kV 8 j [0]).bind fun c =>
   (pX g ([a])).bind fun d =>
   (if (((c).length:Int)==(f.length:Int)) then
    (kV 8 c [0]).bind fun k =>
    some k
   else
    some c).bind fun b =>
   (IZ 8 (IntKind.i64.wrap (((b).length:Int)-((d).length:Int))) (IntKind.i64.wrap (((b).length:Int)-((d).length:Int))) 0).bind fun h =>
   (aK (uk d) (IntKind.i64.wrap (((h).length:Int)-1),b,h)).bind fun q=>match q with
   | (i,e) =>
    (ee i).bind fun l =>
    (nN l a).bind fun m =>
    (ee e).bind fun n =>
    some (n,m.1)
def qJ:((List Int)×(List Int))->Option (((List Int)×(List Int))⊕(((List Int))))
 | (b,a) =>
  if decide ((a.length:Int)>0) then
   (ui b a).bind fun c =>
   some (.inl (a,c.2))
  else
   some (.inr b)
def rW (g:aG) (h:aG):Option (aG×Int) :=
 (df g).bind fun j =>
 (if (!j) then
  some true
 else
  (df h).bind fun d =>
  some (!d)).bind fun a =>
 if a then
  (eG false (aG.mk 0 ([]))).bind fun i =>
  some (i.1,i.2)
 else
  (du g.aa).bind fun k =>
  (aK (qJ) (k,h.aa)).bind fun b =>
  (du b).bind fun e =>
  (dq 1 e).bind fun f =>
  (eG true f).bind fun c =>
  some (c.1,c.2)
def ug (f:aG):(Int×Int)->Option ((Int×Int)⊕((Int)⊕(Int×Bool)))
 | (c,a) =>
  if decide (a<(f.aa.length:Int)) then
   (P.idx f.aa a).bind fun d =>
   (if (a==3) then
    some (decide (d>8))
   else
    some false).bind fun b =>
   if b then
    some (.inr (.inr (0,false)))
   else
    (Ht .u64 (IntKind.u64.wrap d) (IntKind.i64.wrap (20*a))).bind fun e =>
    some (.inl (kW .or .u64 c e,IntKind.i64.wrap (a+1)))
  else
   some (.inr (.inl c))
def xq (d:aG):Option (Int×Bool) :=
 (df d).bind fun e =>
 (if (!e) then
  some true
 else
  some (decide ((d.aa.length:Int)>4))).bind fun b =>
 if b then
  some (0,false)
 else
  (aK (ug d) (0,0)).bind fun q=>match q with
  | (.inl a) =>
   (if decide (d.ak<0) then
    some (decide (a<=9223372036854775808))
   else
    some false).bind fun c =>
   if c then
    some (IntKind.i64.wrap (IntKind.u64.wrap (0-a)),true)
   else
    if decide (d.ak>=0) then
     if decide (a<9223372036854775808) then
      some (IntKind.i64.wrap a,true)
     else
      some (0,false)
    else
     some (0,false)
  | (.inr f) =>
   some f
def tv (b:aG):Option (Bool) :=
 (xq b).bind fun a =>
 if a.2 then
  some (a.1==1)
 else
  some false
def dE (b:aw):Option (Bool) :=
 (df b.bR).bind fun d =>
 (if (!d) then
  some true
 else
  (df b.bN).bind fun e =>
  if (!e) then
   some true
  else
   some (b.bN.ak != 1)).bind fun a =>
 if a then
  some false
 else
  (rW b.bR b.bN).bind fun c =>
  if (c.2==0) then
   (tv c.1).bind fun f =>
   some f
  else
   some false
def iS (a:aw):Option (Int) :=
 (dE a).bind fun b =>
 if (!b) then
  some 0
 else
  some a.bR.ak
def xr (b:aG) (c:aG):Option (aG×Int) :=
 (df b).bind fun g =>
 (if (!g) then
  some true
 else
  (df c).bind fun d =>
  some (!d)).bind fun a =>
 if a then
  (eG false (aG.mk 0 ([]))).bind fun e =>
  some (e.1,e.2)
 else
  (pX b.aa c.aa).bind fun h =>
  (dq (IntKind.i64.wrap (b.ak*c.ak)) h).bind fun i =>
  (eG true i).bind fun f =>
  some (f.1,f.2)
def dr (a:aG) (b:aG):Option (aG) :=
 (xr a b).bind fun c =>
 some c.1
def xw (b:(List Int)):(Int)->Option ((Int)⊕((Unit)⊕(Int)))
 | a =>
  if decide (a<(b.length:Int)) then
   (P.idx b a).bind fun c =>
   if (c != 0) then
    some (.inr (.inr c))
   else
    some (.inl (IntKind.i64.wrap (a+1)))
  else
   some (.inr (.inl ()))
def vO (a:(List Int)):Option (Int) :=
 (aK (xw a) 0).bind fun q=>match q with
 | (.inl _) =>
  some 0
 | (.inr b) =>
  some b
def qK (b:(List Int)) (c:(List Int)):(Int×Int×(List Int))->Option ((Int×Int×(List Int))⊕((Int×(List Int))))
 | (e,a,f) =>
  if decide (a<(b.length:Int)) then
   (P.idx b a).bind fun g =>
   (if decide (a<(c.length:Int)) then
    (P.idx c a).bind fun h =>
    some (IntKind.i64.wrap ((IntKind.i64.wrap (e+g))+h))
   else
    some (IntKind.i64.wrap (e+g))).bind fun d =>
   (P.idx f a).bind fun j =>
   (De .i64 d 20).bind fun i =>
   some (.inl (i,IntKind.i64.wrap (a+1),(f.set (a).toNat (kW .and .i64 d 1048575))))
  else
   some (.inr (e,f))
def rX (e:(List Int)) (f:(List Int)):Option ((List Int)) :=
 (if decide ((e.length:Int)<(f.length:Int)) then
  some (f,e)
 else
  some (e,f)).bind fun q=>match q with
 | (a,c) =>
  (IZ 8 (IntKind.i64.wrap ((a.length:Int)+1)) (IntKind.i64.wrap ((a.length:Int)+1)) 0).bind fun h =>
  (aK (qK a c) (0,0,h)).bind fun q=>match q with
  | (d,b) =>
   (P.idx b (a.length:Int)).bind fun i =>
   (ee (b.set ((a.length:Int)).toNat d)).bind fun g =>
   some g
def ur (h:(List Int)) (i:(List Int)):(Int×Int×(List Int))->Option ((Int×Int×(List Int))⊕(((List Int))))
 | (d,a,c) =>
  if decide (a<((i).length:Int)) then
   (P.idx c a).bind fun e =>
   (if decide (a<(h.length:Int)) then
    (P.idx h a).bind fun f =>
    some (IntKind.i64.wrap ((IntKind.i64.wrap (e-d))-f))
   else
    some (IntKind.i64.wrap (e-d))).bind fun b =>
   (De .i64 b 20).bind fun g =>
   some (.inl (kW .and .i64 g 1,IntKind.i64.wrap (a+1),(c.set (a).toNat (kW .and .i64 b 1048575))))
  else
   some (.inr c)
def rY (d:(List Int)) (e:(List Int)):Option ((List Int)) :=
 (du d).bind fun c =>
 (aK (ur e c) (0,0,c)).bind fun a =>
 (ee a).bind fun b =>
 some b
def xp (a:aG) (b:aG):Option (aG×Int) :=
 (df a).bind fun o =>
 (if (!o) then
  some true
 else
  (df b).bind fun g =>
  some (!g)).bind fun c =>
 if c then
  (eG false (aG.mk 0 ([]))).bind fun n =>
  some (n.1,n.2)
 else
  if decide ((IntKind.i64.wrap (a.ak*b.ak))>=0) then
   (vO ([a.ak,b.ak])).bind fun p =>
   (rX a.aa b.aa).bind fun q =>
   (dq p q).bind fun h =>
   (eG true h).bind fun d =>
   some (d.1,d.2)
  else
   (gu a.aa b.aa).bind fun i =>
   if decide (i<0) then
    (rY b.aa a.aa).bind fun j =>
    (dq b.ak j).bind fun k =>
    (eG true k).bind fun e =>
    some (e.1,e.2)
   else
    (rY a.aa b.aa).bind fun l =>
    (dq a.ak l).bind fun m =>
    (eG true m).bind fun f =>
    some (f.1,f.2)
def pV (a:aG):Option (aG) :=
 (df a).bind fun b =>
 if (!b) then
  some (aG.mk 0 ([]))
 else
  (du a.aa).bind fun c =>
  (dq (IntKind.i64.wrap (0-a.ak)) c).bind fun d =>
  some d
def pU (c:aG) (a:aG):Option (aG×aG×Int) :=
 (df c).bind fun l =>
 (if (!l) then
  some true
 else
  (df a).bind fun f =>
  some (!f)).bind fun d =>
 if d then
  some ((aG.mk 0 ([])),(aG.mk 0 ([])),1)
 else
  if (a.ak==0) then
   some ((aG.mk 0 ([])),(aG.mk 0 ([])),15)
  else
   (ui c.aa a.aa).bind fun e =>
   (if decide ((IntKind.i64.wrap (c.ak*a.ak))<0) then
    some (decide ((e.2.length:Int)>0))
   else
    some false).bind fun b =>
   if b then
    (rX e.1 ([1])).bind fun m =>
    (dq (-1) m).bind fun g =>
    (rY a.aa e.2).bind fun h =>
    (dq a.ak h).bind fun i =>
    some (g,i,0)
   else
    (dq (IntKind.i64.wrap (c.ak*a.ak)) e.1).bind fun j =>
    (dq c.ak e.2).bind fun k =>
    some (j,k,0)
def oR (i:aG) (f:aG):Option (aw×Int) :=
 (df i).bind fun l =>
 (if (!l) then
  some true
 else
  (df f).bind fun j =>
  some (!j)).bind fun e =>
 if e then
  some ((aw.mk (aG.mk 0 ([])) (aG.mk 0 ([]))),1)
 else
  if (f.ak==0) then
   some ((aw.mk (aG.mk 0 ([])) (aG.mk 0 ([]))),15)
  else
   (if decide (f.ak<0) then
    (pV i).bind fun g =>
    (pV f).bind fun h =>
    some (g.ak,g.aa,h.ak,h.aa)
   else
    some (i.ak,i.aa,f.ak,f.aa)).bind fun q=>match q with
   | (a,b,c,d) =>
    (rW (aG.mk a b) (aG.mk c d)).bind fun k =>
    (pU (aG.mk a b) k.1).bind fun m =>
    (pU (aG.mk c d) k.1).bind fun n =>
    some ((aw.mk m.1 n.1),0)
def q8 (b:aw) (c:aw):Option (aw×Int) :=
 (dE b).bind fun f =>
 (if (!f) then
  some true
 else
  (dE c).bind fun d =>
  some (!d)).bind fun a =>
 if a then
  some ((aw.mk (aG.mk 0 ([])) (aG.mk 0 ([]))),1)
 else
  (dr b.bR c.bN).bind fun g =>
  (dr c.bR b.bN).bind fun h =>
  (xp g h).bind fun i =>
  (dr b.bN c.bN).bind fun j =>
  (oR i.1 j).bind fun e =>
  some (e.1,e.2)
def p8 (a:aw) (b:aw):Option (aw) :=
 (q8 a b).bind fun c =>
 some c.1
def mc (b:aG) (c:aG):Option (Int) :=
 (df b).bind fun d =>
 (if (!d) then
  some true
 else
  (df c).bind fun e =>
  some (!e)).bind fun a =>
 if a then
  some 0
 else
  if (b.ak != c.ak) then
   (gw b.ak c.ak).bind fun f =>
   some f
  else
   (gu b.aa c.aa).bind fun g =>
   some (IntKind.i64.wrap (b.ak*g))
def jl (b:aw) (c:aw):Option (Int) :=
 (dE b).bind fun d =>
 (if (!d) then
  some true
 else
  (dE c).bind fun e =>
  some (!e)).bind fun a =>
 if a then
  some 0
 else
  (dr b.bR c.bN).bind fun f =>
  (dr c.bR b.bN).bind fun g =>
  (mc f g).bind fun h =>
  some h
def p9 (j:(List aw)):(Int×Int×(List Int)×Int×(List Int))->Option ((Int×Int×(List Int)×Int×(List Int))⊕((Int×(List Int)×Int×(List Int))⊕(Bool)))
 | (f,a,b,c,d) =>
  if decide (f<(j.length:Int)) then
   (P.idx j f).bind fun g =>
   (dE g).bind fun h =>
   if (!h) then
    some (.inr (.inr false))
   else
    (iS g).bind fun i =>
    if decide (i<0) then
     some (.inr (.inr false))
    else
     (p8 (aw.mk (aG.mk a b) (aG.mk c d)) g).bind fun e =>
     some (.inl (IntKind.i64.wrap (f+1),e.bR.ak,e.bR.aa,e.bN.ak,e.bN.aa))
  else
   some (.inr (.inl (a,b,c,d)))
def qw (h:(List aw)):Option (Bool) :=
 (jY 0).bind fun e =>
 (aK (p9 h) (0,e.bR.ak,e.bR.aa,e.bN.ak,e.bN.aa)).bind fun q=>match q with
 | (.inl (a,b,c,d)) =>
  (jY 1).bind fun f =>
  (jl (aw.mk (aG.mk a b) (aG.mk c d)) f).bind fun g =>
  some (g==0)
 | (.inr i) =>
  some i
def kD (c:cJ):(Int)->Option ((Int)⊕((Unit)⊕(Bool)))
 | a =>
  if decide (a<(c.aB.length:Int)) then
   (P.idx c.aB a).bind fun b =>
   (dT b.ba 0 3).bind fun d =>
   if (!d) then
    some (.inr (.inr false))
   else
    if decide (b.aZ<0) then
     some (.inr (.inr false))
    else
     (P.idx c.av a).bind fun e =>
     if ((e.length:Int) != (c.ah.length:Int)) then
      some (.inr (.inr false))
     else
      some (.inl (IntKind.i64.wrap (a+1)))
  else
   some (.inr (.inl ()))
def gF (f:cJ) (c:Int):(Int×(List aw))->Option ((Int×(List aw))⊕(((List aw))))
 | (a,b) =>
  if decide (a<(f.aB.length:Int)) then
   (P.idx f.av a).bind fun d =>
   (P.idx d c).bind fun e =>
   (P.idx b a).bind fun g =>
   some (.inl (IntKind.i64.wrap (a+1),(b.set (a).toNat e)))
  else
   some (.inr b)
def kE (b:cJ):(Int)->Option ((Int)⊕((Unit)⊕(Bool)))
 | a =>
  if decide (a<(b.ah.length:Int)) then
   (P.idx b.ah a).bind fun c =>
   (IZ 64 (b.aB.length:Int) (b.aB.length:Int) (aw.mk (aG.mk 0 ([])) (aG.mk 0 ([])))).bind fun e =>
   (aK (gF b a) (0,e)).bind fun d =>
   (dT c.ba 0 2).bind fun f =>
   if (!f) then
    some (.inr (.inr false))
   else
    if decide (c.aZ<0) then
     some (.inr (.inr false))
    else
     (qw d).bind fun g =>
     if (!g) then
      some (.inr (.inr false))
     else
      some (.inl (IntKind.i64.wrap (a+1)))
  else
   some (.inr (.inl ()))
def jF (b:cJ):Option (Bool) :=
 (if decide ((b.ah.length:Int)>100) then
  some true
 else
  if decide ((b.aB.length:Int)>100) then
   some true
  else
   some ((b.av.length:Int) != (b.aB.length:Int))).bind fun a =>
 if a then
  some false
 else
  (aK (kD b) 0).bind fun q=>match q with
  | (.inl _) =>
   (aK (kE b) 0).bind fun q=>match q with
   | (.inl _) =>
    some true
   | (.inr rc) =>
    some rc
  | (.inr c) =>
   some c
def nV (a:fv) (b:Int):Option (Bool) :=
 (dT a.b7 0 (IntKind.i64.wrap (b-1))).bind fun c =>
 if (!c) then
  some true
 else
  (dT a.a7 1 1099511627776).bind fun d =>
  some (!d)
def nW (a:Int) (b:Int):Option (Bool) :=
 (dT a 0 (IntKind.i64.wrap (b-1))).bind fun c =>
 some (!c)
def oJ (a:(List Int)):Option (List Int):=LC a
def cO (a:(List Int)):Option (List Int):=DA a
def mQ (b:(List Int)):(Int)->Option ((Int)⊕((Unit)⊕(Bool)))
 | a =>
  if decide (a<((b).length:Int)) then
   (P.idx b a).bind fun c =>
   if (a != c) then
    some (.inr (.inr false))
   else
    some (.inl (IntKind.i64.wrap (a+1)))
  else
   some (.inr (.inl ()))
def j8 (b:(List Int)) (c:Int):Option (Bool) :=
 (oJ b).bind fun d =>
 (cO d).bind fun a =>
 (aK (mQ a) 0).bind fun q=>match q with
 | (.inl _) =>
  some (((a).length:Int)==c)
 | (.inr e) =>
  some e
def dy (c:(List fv)) (b:Int):(Int)->Option ((Int)⊕((Unit)⊕(Int)))
 | a =>
  if decide (a<(c.length:Int)) then
   (P.idx c a).bind fun d =>
   (nV d b).bind fun e =>
   if e then
    some (.inr (.inr a))
   else
    some (.inl (IntKind.i64.wrap (a+1)))
  else
   some (.inr (.inl ()))
def cW (b:(List fv)) (a:Int):Option (Int) :=
 (aK (dy b a) 0).bind fun q=>match q with
 | (.inl _) =>
  some (-1)
 | (.inr c) =>
  some c
def b9 (b:(List fv)) (a:Int):Option (Bool) :=
 (cW b a).bind fun c =>
 some (decide (c>=0))
def dz (c:(List Int)) (b:Int):(Int)->Option ((Int)⊕((Unit)⊕(Int)))
 | a =>
  if decide (a<(c.length:Int)) then
   (P.idx c a).bind fun d =>
   (nW d b).bind fun e =>
   if e then
    some (.inr (.inr a))
   else
    some (.inl (IntKind.i64.wrap (a+1)))
  else
   some (.inr (.inl ()))
def cX (b:(List Int)) (a:Int):Option (Int) :=
 (aK (dz b a) 0).bind fun q=>match q with
 | (.inl _) =>
  some (-1)
 | (.inr c) =>
  some c
def ca (b:(List Int)) (a:Int):Option (Bool) :=
 (cX b a).bind fun c =>
 some (decide (c>=0))
def mh (e:bF):(Int×(List Int))->Option ((Int×(List Int))⊕(((List Int))))
 | (a,b) =>
  if decide (a<(e.an.ah.length:Int)) then
   (P.idx e.an.ah a).bind fun c =>
   if (c.ba==1) then
    (kV 8 b [c.aZ]).bind fun d =>
    some (.inl (IntKind.i64.wrap (a+1),d))
   else
    some (.inl (IntKind.i64.wrap (a+1),b))
  else
   some (.inr b)
def mi (e:bF):(Int×(List Int))->Option ((Int×(List Int))⊕(((List Int))))
 | (a,b) =>
  if decide (a<(e.an.aB.length:Int)) then
   (P.idx e.an.aB a).bind fun c =>
   if (c.ba==0) then
    (kV 8 b [c.aZ]).bind fun d =>
    some (.inl (IntKind.i64.wrap (a+1),d))
   else
    some (.inl (IntKind.i64.wrap (a+1),b))
  else
   some (.inr b)
def tB (a:bF) (h:Int):Option (Bool) :=
 (jF a.an).bind fun i =>
 if (!i) then
  some false
 else
  (aK (mh a) (0,[])).bind fun b =>
  (aK (mi a) (0,[])).bind fun c =>
  (j8 b (a.aL.length:Int)).bind fun d =>
  if d then
   (j8 c (a.aq.length:Int)).bind fun e =>
   if e then
    (b9 a.aL h).bind fun f =>
    if (!f) then
     (ca a.aq h).bind fun g =>
     some (!g)
    else
     some false
   else
    some false
  else
   some false
def kq (c:bg):(Int)->Option ((Int)⊕((Unit)⊕(Int×Int)))
 | a =>
  if decide (a<(c.al.length:Int)) then
   (P.idx c.al a).bind fun d =>
   (dT d 1 1099511627776).bind fun b =>
   if (!b) then
    some (.inr (.inr (3,a)))
   else
    some (.inl (IntKind.i64.wrap (a+1)))
  else
   some (.inr (.inl ()))
def kr (c:bF):(Int×(List Int))->Option ((Int×(List Int))⊕(((List Int))))
 | (a,b) =>
  if decide (a<(c.aq.length:Int)) then
   (P.idx c.aq a).bind fun d =>
   (P.idx b d).bind fun e =>
   some (.inl (IntKind.i64.wrap (a+1),(b.set (d).toNat (IntKind.i64.wrap (e+1)))))
  else
   some (.inr b)
def ku (d:bF):(Int×(List Int))->Option ((Int×(List Int))⊕(((List Int))))
 | (a,c) =>
  if decide (a<(d.aL.length:Int)) then
   (P.idx d.aL a).bind fun b =>
   (P.idx c b.b7).bind fun e =>
   some (.inl (IntKind.i64.wrap (a+1),(c.set (b.b7).toNat (if 1099511627777<(IntKind.i64.wrap (e+b.a7)) then 1099511627777 else IntKind.i64.wrap (e+b.a7)))))
  else
   some (.inr c)
def jn (g:bg):(Int×(List Int)×(List Int))->Option ((Int×(List Int)×(List Int))⊕(((List Int)×(List Int))⊕(Int×Int)))
 | (a,c,d) =>
  if decide (a<(g.ao.length:Int)) then
   (P.idx g.ao a).bind fun b =>
   (tB b (g.al.length:Int)).bind fun h =>
   if (!h) then
    some (.inr (.inr (1,a)))
   else
    (aK (kr b) (0,c)).bind fun e =>
    (aK (ku b) (0,d)).bind fun f =>
    some (.inl (IntKind.i64.wrap (a+1),e,f))
  else
   some (.inr (.inl (c,d)))
def kv (b:(List Int)):(Int)->Option ((Int)⊕((Unit)⊕(Int×Int)))
 | a =>
  if decide (a<((b).length:Int)) then
   (P.idx b a).bind fun c =>
   if (c==0) then
    some (.inr (.inr (21,a)))
   else
    if decide (c>1) then
     some (.inr (.inr (5,a)))
    else
     some (.inl (IntKind.i64.wrap (a+1)))
  else
   some (.inr (.inl ()))
def kx (d:bg) (b:(List Int)):(Int)->Option ((Int)⊕((Unit)⊕(Int×Int)))
 | a =>
  if decide (a<((b).length:Int)) then
   (P.idx b a).bind fun c =>
   (P.idx d.al a).bind fun x76 =>
   if decide (c>x76) then
    some (.inr (.inr (25,a)))
   else
    some (.inl (IntKind.i64.wrap (a+1)))
  else
   some (.inr (.inl ()))
def mg (a:bg):Option (Int×Int) :=
 (if decide ((a.al.length:Int)>2000) then
  some true
 else
  some (decide ((a.ao.length:Int)>400))).bind fun b =>
 if b then
  some (6,0)
 else
  (aK (kq a) 0).bind fun q=>match q with
  | (.inl _) =>
   (IZ 8 (a.al.length:Int) (a.al.length:Int) 0).bind fun c =>
   (aK (jn a) (0,c,c)).bind fun q=>match q with
   | (.inl (d,e)) =>
    (aK (kv d) 0).bind fun q=>match q with
    | (.inl _) =>
     (aK (kx a e) 0).bind fun q=>match q with
     | (.inl _) =>
      some (0,0)
     | (.inr f) =>
      some f
    | (.inr g) =>
     some g
   | (.inr rc) =>
    some rc
  | (.inr h) =>
   some h
def xC (b:Int) (c:Int):Option (aw×Int) :=
 (uh b).bind fun d =>
 (uh c).bind fun e =>
 (oR d e).bind fun a =>
 some (a.1,a.2)
def tr (b:aw) (c:aw):Option (aw×Int) :=
 (dE b).bind fun e =>
 (if (!e) then
  some true
 else
  (dE c).bind fun f =>
  some (!f)).bind fun a =>
 if a then
  some ((aw.mk (aG.mk 0 ([])) (aG.mk 0 ([]))),1)
 else
  (dr b.bR c.bR).bind fun g =>
  (dr b.bN c.bN).bind fun h =>
  (oR g h).bind fun d =>
  some (d.1,d.2)
def gE (g:bF) (e:Int) (c:fv) (j:aw×Int):(Int×(List ((Int×Int)×aw)))->Option ((Int×(List ((Int×Int)×aw)))⊕(((List ((Int×Int)×aw)))))
 | (a,b) =>
  if decide (a<(g.an.aB.length:Int)) then
   (P.idx g.an.aB a).bind fun h =>
   (if (h.ba != 0) then
    some true
   else
    (P.idx g.an.av a).bind fun k =>
    (P.idx k e).bind fun l =>
    (iS l).bind fun m =>
    some (m==0)).bind fun f =>
   if f then
    some (.inl (IntKind.i64.wrap (a+1),b))
   else
    (P.idx g.aq h.aZ).bind fun d =>
    (P.idx g.an.av a).bind fun n =>
    (P.idx n e).bind fun o =>
    (tr j.1 o).bind fun i =>
    if mK b (c.b7,d) then
     (p8 (aw.mk ((fm (aw.mk (aG.mk 0 ([])) (aG.mk 0 ([]))) b (c.b7,d)).bR) ((fm (aw.mk (aG.mk 0 ([])) (aG.mk 0 ([]))) b (c.b7,d)).bN)) i.1).bind fun p =>
     some (.inl (IntKind.i64.wrap (a+1),(rz b (c.b7,d) p)))
    else
     some (.inl (IntKind.i64.wrap (a+1),(rz b (c.b7,d) i.1)))
  else
   some (.inr b)
def iT (i:(List Int)) (f:bF):(Int×(List ((Int×Int)×aw)))->Option ((Int×(List ((Int×Int)×aw)))⊕(((List ((Int×Int)×aw)))))
 | (a,b) =>
  if decide (a<(f.an.ah.length:Int)) then
   (P.idx f.an.ah a).bind fun d =>
   if (d.ba != 1) then
    some (.inl (IntKind.i64.wrap (a+1),b))
   else
    (P.idx f.aL d.aZ).bind fun c =>
    (P.idx i c.b7).bind fun g =>
    (xC c.a7 g).bind fun h =>
    (aK (gE f a c h) (0,b)).bind fun e =>
    some (.inl (IntKind.i64.wrap (a+1),e))
  else
   some (.inr b)
def iE (b:(List ((Int×Int)×aw))) (c:(List Int)) (d:bF):Option ((List ((Int×Int)×aw))×(Unit)) :=
 (aK (iT c d) (0,b)).bind fun a =>
 some (a,())
def nU (a:bD) (b:bD):Option (Int) :=
 (gw a.bI b.bI).bind fun c =>
 (gw a.fU b.fU).bind fun d =>
 (vO ([c,d])).bind fun e =>
 some e
def Dt (p:Int) (m:List ((Int×Int)×aw)):Option (cA×Int) :=
 if m.length<=8000∧(m.map (·.1)).Nodup then some (cA.mk p (pK (jQ bD.bI bD.fU) (m.map fun q=>bD.mk q.1.1 q.1.2 q.2)),0) else none
def qv (c:bg):(Int×(List ((Int×Int)×aw)))->Option ((Int×(List ((Int×Int)×aw)))⊕(((List ((Int×Int)×aw)))))
 | (a,b) =>
  if decide (a<(c.ao.length:Int)) then
   (P.idx c.ao a).bind fun e =>
   (iE b c.al e).bind fun d =>
   some (.inl (IntKind.i64.wrap (a+1),d.1))
  else
   some (.inr b)
def s3 (b:bg):Option (cA×Int) :=
 (mg b).bind fun c =>
 if (c.1 != 0) then
  some ((cA.mk 0 ([])),c.1)
 else
  (aK (qv b) (0,([]:(List ((Int×Int)×aw))))).bind fun a =>
  if decide ((a.length:Int)>8000) then
   some ((cA.mk 0 ([])),6)
  else
   Dt (b.al.length:Int) a
def mV (c:aG) (d:aG):(Int)->Option ((Int)⊕((Unit)⊕(Bool)))
 | a =>
  if decide (a<(c.aa.length:Int)) then
   (P.idx c.aa a).bind fun e =>
   (P.idx d.aa a).bind fun b =>
   if (e != b) then
    some (.inr (.inr false))
   else
    some (.inl (IntKind.i64.wrap (a+1)))
  else
   some (.inr (.inl ()))
def kd (b:aG) (c:aG):Option (Bool) :=
 (if (b.ak != c.ak) then
  some true
 else
  some ((b.aa.length:Int) != (c.aa.length:Int))).bind fun a =>
 if a then
  some false
 else
  (aK (mV b c) 0).bind fun q=>match q with
  | (.inl _) =>
   some true
  | (.inr d) =>
   some d
def jz (a:aw) (b:aw):Option (Bool) :=
 (kd a.bR b.bR).bind fun c =>
 if c then
  (kd a.bN b.bN).bind fun d =>
  some d
 else
  some false
def sB (e:cA) (f:cA):(Int)->Option ((Int)⊕((Unit)⊕(Bool)))
 | a =>
  if decide (a<(e.az.length:Int)) then
   (P.idx e.az a).bind fun b =>
   (P.idx f.az a).bind fun c =>
   if (b.bI != c.bI) then
    some (.inr (.inr false))
   else
    if (b.fU != c.fU) then
     some (.inr (.inr false))
    else
     (jz b.bJ c.bJ).bind fun d =>
     if (!d) then
      some (.inr (.inr false))
     else
      some (.inl (IntKind.i64.wrap (a+1)))
  else
   some (.inr (.inl ()))
def nc (b:cA) (c:cA):Option (Bool) :=
 (if (b.aq != c.aq) then
  some true
 else
  some ((b.az.length:Int) != (c.az.length:Int))).bind fun a =>
 if a then
  some false
 else
  (aK (sB b c) 0).bind fun q=>match q with
  | (.inl _) =>
   some true
  | (.inr d) =>
   some d
def tu (c:aw) (b:aw):Option (aw×Int) :=
 (dE c).bind fun e =>
 (if (!e) then
  some true
 else
  (dE b).bind fun f =>
  some (!f)).bind fun a =>
 if a then
  some ((aw.mk (aG.mk 0 ([])) (aG.mk 0 ([]))),1)
 else
  (pV b.bR).bind fun g =>
  (q8 c (aw.mk g b.bN)).bind fun d =>
  some (d.1,d.2)
def mO (c:(List aw)):(Int×(List aw))->Option ((Int×(List aw))⊕(((List aw))))
 | (a,b) =>
  if decide (a<((c).length:Int)) then
   (jY 1).bind fun d =>
   (P.idx b a).bind fun e =>
   some (.inl (IntKind.i64.wrap (a+1),(b.set (a).toNat d)))
  else
   some (.inr b)
def mP (f:cA):(Int×(List aw))->Option ((Int×(List aw))⊕(((List aw))))
 | (a,b) =>
  if decide (a<(f.az.length:Int)) then
   (P.idx f.az a).bind fun c =>
   (P.idx b c.bI).bind fun d =>
   (tu d c.bJ).bind fun e =>
   some (.inl (IntKind.i64.wrap (a+1),(b.set (c.bI).toNat e.1)))
  else
   some (.inr b)
def mj (c:cA):Option ((List aw)) :=
 (IZ 64 c.aq c.aq (aw.mk (aG.mk 0 ([])) (aG.mk 0 ([])))).bind fun d =>
 (aK (mO d) (0,d)).bind fun a =>
 (aK (mP c) (0,a)).bind fun b =>
 some b
def oW (a:aw):Option (Bool) :=
 (iS a).bind fun b =>
 some (decide (b<0))
def dK (b:(List aw)):(Int)->Option ((Int)⊕((Unit)⊕(Int)))
 | a =>
  if decide (a<(b.length:Int)) then
   (P.idx b a).bind fun c =>
   (oW c).bind fun d =>
   if d then
    some (.inr (.inr a))
   else
    some (.inl (IntKind.i64.wrap (a+1)))
  else
   some (.inr (.inl ()))
def dw (a:(List aw)):Option (Int) :=
 (aK (dK a) 0).bind fun q=>match q with
 | (.inl _) =>
  some (-1)
 | (.inr b) =>
  some b
def cq (a:(List aw)):Option (Bool) :=
 (dw a).bind fun b =>
 some (decide (b>=0))
def mN (d:cA):(Int)->Option ((Int)⊕((Unit)⊕(Bool)))
 | a =>
  if decide (a<(d.az.length:Int)) then
   (P.idx d.az a).bind fun b =>
   (dT b.bI 0 (IntKind.i64.wrap (d.aq-1))).bind fun e =>
   (if (!e) then
    some true
   else
    (dT b.fU 0 (IntKind.i64.wrap (d.aq-1))).bind fun f =>
    if (!f) then
     some true
    else
     (dE b.bJ).bind fun g =>
     if (!g) then
      some true
     else
      (iS b.bJ).bind fun h =>
      some (decide (h<=0))).bind fun c =>
   if c then
    some (.inr (.inr false))
   else
    if decide (a>0) then
     (P.idx d.az (IntKind.i64.wrap (a-1))).bind fun i =>
     (nU i b).bind fun j =>
     if decide (j>=0) then
      some (.inr (.inr false))
     else
      some (.inl (IntKind.i64.wrap (a+1)))
    else
     some (.inl (IntKind.i64.wrap (a+1)))
  else
   some (.inr (.inl ()))
def kC (b:cA):Option (Bool) :=
 (dT b.aq 0 2000).bind fun e =>
 (if (!e) then
  some true
 else
  some (decide ((b.az.length:Int)>8000))).bind fun a =>
 if a then
  some false
 else
  (aK (mN b) 0).bind fun q=>match q with
  | (.inl _) =>
   (mj b).bind fun c =>
   (cq c).bind fun d =>
   some (!d)
  | (.inr f) =>
   some f
def ky (f:cA):(Int×(List (List Int)))->Option ((Int×(List (List Int)))⊕(((List (List Int)))))
 | (a,b) =>
  if decide (a<(f.az.length:Int)) then
   (P.idx f.az a).bind fun c =>
   (P.idx b c.fU).bind fun d =>
   (kV 8 d [c.bI]).bind fun e =>
   some (.inl (IntKind.i64.wrap (a+1),(b.set (c.fU).toNat e)))
  else
   some (.inr b)
def kz (d:(List aw)):(Int×(List Int)×(List Int))->Option ((Int×(List Int)×(List Int))⊕(((List Int)×(List Int))))
 | (a,b,c) =>
  if decide (a<(d.length:Int)) then
   (P.idx d a).bind fun e =>
   (P.idx b a).bind fun h =>
   (iS e).bind fun f =>
   if decide (f>0) then
    (P.idx (b.set (a).toNat (-1)) a).bind fun i =>
    (kV 8 c [a]).bind fun g =>
    some (.inl (IntKind.i64.wrap (a+1),((b.set (a).toNat (-1)).set (a).toNat 0),g))
   else
    some (.inl (IntKind.i64.wrap (a+1),(b.set (a).toNat (-1)),c))
  else
   some (.inr (b,c))
def kB (f:Int) (e:(List Int)):(Int×(List Int)×(List Int))->Option ((Int×(List Int)×(List Int))⊕(((List Int)×(List Int))))
 | (a,b,c) =>
  if decide (a<((e).length:Int)) then
   (P.idx e a).bind fun d =>
   (P.idx b d).bind fun g =>
   if (g==(-1)) then
    (P.idx b f).bind fun h =>
    (kV 8 c [d]).bind fun i =>
    some (.inl (IntKind.i64.wrap (a+1),(b.set (d).toNat (IntKind.i64.wrap (h+1))),i))
   else
    some (.inl (IntKind.i64.wrap (a+1),b,c))
  else
   some (.inr (b,c))
def kA (b:(List (List Int))):((List Int)×(List Int))->Option (((List Int)×(List Int))⊕(((List Int))))
 | (c,a) =>
  if decide (((a).length:Int)>0) then
   (P.idx a 0).bind fun d =>
   (Df a 1 (a.length:Int)).bind fun g =>
   (P.idx b d).bind fun h =>
   (aK (kB d h) (0,c,g)).bind fun q=>match q with
   | (e,f) =>
    some (.inl (e,f))
  else
   some (.inr c)
def gD (a:cA):Option ((List Int)) :=
 (kC a).bind fun h =>
 if (!h) then
  some ([])
 else
  (IZ 24 a.aq a.aq ([])).bind fun i =>
  (aK (ky a) (0,i)).bind fun b =>
  (IZ 8 a.aq a.aq 0).bind fun f =>
  (mj a).bind fun g =>
  (aK (kz g) (0,f,[])).bind fun q=>match q with
  | (c,d) =>
   (aK (kA b) (c,d)).bind fun e =>
   some e
def lO (b:(List Int)) (c:(List Int)):(Int)->Option ((Int)⊕((Unit)⊕(Bool)))
 | a =>
  if decide (a<(b.length:Int)) then
   (P.idx b a).bind fun d =>
   (P.idx c a).bind fun e =>
   if (d != e) then
    some (.inr (.inr false))
   else
    some (.inl (IntKind.i64.wrap (a+1)))
  else
   some (.inr (.inl ()))
def e7 (a:(List Int)) (b:(List Int)):Option (Bool) :=
 if ((a.length:Int) != (b.length:Int)) then
  some false
 else
  (aK (lO a b) 0).bind fun q=>match q with
  | (.inl _) =>
   some true
  | (.inr c) =>
   some c
def lx (a:cA) (b:Int):Option (aw) :=
 (kC a).bind fun c =>
 if (!c) then
  some (aw.mk (aG.mk 0 ([])) (aG.mk 0 ([])))
 else
  (dT b 0 (IntKind.i64.wrap (a.aq-1))).bind fun d =>
  if (!d) then
   some (aw.mk (aG.mk 0 ([])) (aG.mk 0 ([])))
  else
   (mj a).bind fun e =>
   (P.idx e b).bind fun f =>
   some f
def gN (d:(List Int)):(Int×(List Int))->Option ((Int×(List Int))⊕(((List Int))))
 | (a,b) =>
  if decide (a<(d.length:Int)) then
   (P.idx d a).bind fun e =>
   if (e==(-1)) then
    (kV 8 b [a]).bind fun c =>
    some (.inl (IntKind.i64.wrap (a+1),c))
   else
    some (.inl (IntKind.i64.wrap (a+1),b))
  else
   some (.inr b)
def ib (b:cA):Option ((List Int)) :=
 (gD b).bind fun c =>
 (aK (gN c) (0,[])).bind fun a =>
 some a
def wF:Option (Bool) :=
 (Ad).bind fun b =>
 (mf 5 b).bind fun p =>
 (s3 p).bind fun d =>
 (if (d.2 != 0) then
  some true
 else
  (nc d.1 (cA.mk 2 ([(bD.mk 0 1 b),(bD.mk 1 0 b)]))).bind fun f =>
  if (!f) then
   some true
  else
   (gD d.1).bind fun g =>
   (e7 g ([0,0])).bind fun h =>
   if (!h) then
    some true
   else
    (lx d.1 1).bind fun i =>
    (jz i b).bind fun j =>
    some (!j)).bind fun a =>
 if a then
  some false
 else
  (jP 1).bind fun q =>
  (mf 10 q).bind fun r =>
  (s3 r).bind fun e =>
  (mf 11 b).bind fun s =>
  (mg s).bind fun c =>
  if (e.2==0) then
   (gD e.1).bind fun k =>
   (e7 k ([(-1),(-1)])).bind fun l =>
   if l then
    (ib e.1).bind fun m =>
    (e7 m ([0,1])).bind fun n =>
    if n then
     if (c.1==25) then
      if (c.2==1) then
       (kC e.1).bind fun o =>
       some o
      else
       some false
     else
      some false
    else
     some false
   else
    some false
  else
   some false
def uV (a:aw) (b:Int):Option (Bool) :=
 if decide ((a.bR.aa.length:Int)<=b) then
  some (decide ((a.bN.aa.length:Int)<=b))
 else
  some false
def eo (b:(List aw)):(Int)->Option ((Int)⊕((Unit)⊕(Bool)))
 | a =>
  if decide (a<(b.length:Int)) then
   (P.idx b a).bind fun c =>
   (uV c 4).bind fun d =>
   if (!d) then
    some (.inr (.inr false))
   else
    some (.inl (IntKind.i64.wrap (a+1)))
  else
   some (.inr (.inl ()))
def mW (c:cJ):(Int)->Option ((Int)⊕((Unit)⊕(Bool)))
 | a =>
  if decide (a<(c.av.length:Int)) then
   (P.idx c.av a).bind fun b =>
   if decide ((b.length:Int)>8) then
    some (.inr (.inr false))
   else
    (aK (eo b) 0).bind fun q=>match q with
    | (.inl _) =>
     some (.inl (IntKind.i64.wrap (a+1)))
    | (.inr rd) =>
     some (.inr (.inr rd))
  else
   some (.inr (.inl ()))
def ke (b:cJ):Option (Bool) :=
 (if decide ((b.ah.length:Int)>5) then
  some true
 else
  if decide ((b.aB.length:Int)>5) then
   some true
  else
   some (decide ((b.av.length:Int)>8))).bind fun a =>
 if a then
  some false
 else
  (aK (mW b) 0).bind fun q=>match q with
  | (.inl _) =>
   some true
  | (.inr c) =>
   some c
def uX (d:bg):(Int)->Option ((Int)⊕((Unit)⊕(Bool)))
 | a =>
  if decide (a<(d.ao.length:Int)) then
   (P.idx d.ao a).bind fun b =>
   (ke b.an).bind fun c =>
   if (!c) then
    some (.inr (.inr false))
   else
    if decide ((b.aL.length:Int)>6) then
     some (.inr (.inr false))
    else
     if decide ((b.aq.length:Int)>6) then
      some (.inr (.inr false))
     else
      some (.inl (IntKind.i64.wrap (a+1)))
  else
   some (.inr (.inl ()))
def xL (b:bg):Option (Bool) :=
 (if decide ((b.al.length:Int)>6) then
  some true
 else
  some (decide ((b.ao.length:Int)>5))).bind fun a =>
 if a then
  some false
 else
  (aK (uX b) 0).bind fun q=>match q with
  | (.inl _) =>
   some true
  | (.inr c) =>
   some c
def oH (e:cA):(Int)->Option ((Int)⊕((Unit)⊕(Bool)))
 | a =>
  (if decide (a<(e.az.length:Int)) then
   some (decide (a<40))
  else
   some false).bind fun b =>
  if b then
   (P.idx e.az a).bind fun c =>
   (uV c.bJ 6).bind fun d =>
   if (!d) then
    some (.inr (.inr false))
   else
    some (.inl (IntKind.i64.wrap (a+1)))
  else
   some (.inr (.inl ()))
def n5 (a:cA):Option (Bool) :=
 (aK (oH a) 0).bind fun q=>match q with
 | (.inl _) =>
  if decide (a.aq<=12) then
   some (decide ((a.az.length:Int)<=40))
  else
   if decide (a.aq>2000) then
    some (decide ((a.az.length:Int)<=40))
   else
    some false
 | (.inr b) =>
  some b
def nf (a:Int) (b:Int) (c:Int):Option (Bool) :=
 if decide (a>=b) then
  some (decide (a<=c))
 else
  some false
def jA (a:aw):Option (Int) :=
 (dX a).bind fun b =>
 if (!b) then
  some 0
 else
  some a.bR.ak
def kc (b:aw) (c:aw):Option (Int) :=
 (dX b).bind fun d =>
 (if (!d) then
  some true
 else
  (dX c).bind fun e =>
  some (!e)).bind fun a =>
 if a then
  some 0
 else
  (ew b.bR c.bN).bind fun f =>
  (ew c.bR b.bN).bind fun g =>
  (kb f.1 g.1).bind fun h =>
  some h
def qA (a:aw):Option (Bool) :=
 (dX a).bind fun b =>
 if b then
  (jA a).bind fun c =>
  if decide (c>=0) then
   (jP 1).bind fun d =>
   (kc a d).bind fun e =>
   some (decide (e<=0))
  else
   some false
 else
  some false
def xJ (b:aw) (c:aw):Option (aw×Int) :=
 (dX b).bind fun f =>
 (if (!f) then
  some true
 else
  (dX c).bind fun d =>
  some (!d)).bind fun a =>
 if a then
  some ((aw.mk (aG.mk 0 ([])) (aG.mk 0 ([]))),1)
 else
  (ew b.bR c.bN).bind fun g =>
  (ew c.bR b.bN).bind fun h =>
  (ew b.bN c.bN).bind fun i =>
  (uU g.1 h.1).bind fun j =>
  (qo j.1 i.1).bind fun e =>
  some (e.1,e.2)
def nd (a:aw) (b:aw):Option (aw) :=
 (xJ a b).bind fun c =>
 some c.1
def xM (a:aw):Option (Bool) :=
 (jP 1).bind fun b =>
 (kc a b).bind fun c =>
 some (c==0)
def iV (c:cJ):(Int)->Option ((Int)⊕((Unit)⊕(Bool)))
 | a =>
  if decide (a<(c.ah.length:Int)) then
   (P.idx c.ah a).bind fun b =>
   if decide (b.ba<0) then
    some (.inr (.inr false))
   else
    if decide (b.ba>=3) then
     some (.inr (.inr false))
    else
     if decide (b.aZ<0) then
      some (.inr (.inr false))
     else
      some (.inl (IntKind.i64.wrap (a+1)))
  else
   some (.inr (.inl ()))
def iW (c:cJ):(Int)->Option ((Int)⊕((Unit)⊕(Bool)))
 | a =>
  if decide (a<(c.aB.length:Int)) then
   (P.idx c.aB a).bind fun b =>
   if decide (b.ba<0) then
    some (.inr (.inr false))
   else
    if decide (b.ba>=4) then
     some (.inr (.inr false))
    else
     if decide (b.aZ<0) then
      some (.inr (.inr false))
     else
      (P.idx c.av a).bind fun d =>
      if ((d.length:Int) != (c.ah.length:Int)) then
       some (.inr (.inr false))
      else
       some (.inl (IntKind.i64.wrap (a+1)))
  else
   some (.inr (.inl ()))
end Go.Proofs.YtekhokjkphgphaaGreat.P
