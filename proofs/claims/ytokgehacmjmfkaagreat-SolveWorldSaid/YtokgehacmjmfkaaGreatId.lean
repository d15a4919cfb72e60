import Derived.Test.YtokgehacmjmfkaaGreatIc
set_option linter.unusedSimpArgs false
set_option linter.unusedVariables false
set_option linter.defProp false
noncomputable section
open Go.Proofs.Tryz
namespace Go.Proofs.YtokgehacmjmfkaaGreat.Am
open Go.RowKit
inductive W where
 | code (c:Code)
 | blk (id:Nat)
section
variable (T:Nat->Option Ty) (Γ:Env) (N F:Nat)
def dD:List W->Kt->Kt
 | [],Q=>Q
 | .code c::ws,Q=>fun x t h e=>af5 x (Nf T Γ N F c t h e (dD ws Q)) (dD ws Q x t h e)
 | .blk id::ws,Q=>fun x t h e=>YL id x t h e (dD ws Q)
def l7 (ops l:List Oper) (ws:List W) (Q:Kt) (t:Nat->D) (h:Nat->Option Row) (e:Nat):Prop :=
 Hn T Γ N e ops l t h fun t h=>dD T Γ N F ws Q .normal t h (e+1)
def mT (ops l:List Oper) (ws:List W) (Q:Kt) (t:Nat->D) (h:Nat->Option Row) (e:Nat) (fs:List lU):Prop :=
 runK T Γ N e ops l t h fs fun t h fs=>Fq ops.toArray fs=true∧dD T Γ N F ws Q .normal t h (e+1)
def sF (o:Oper) (ops l:List Oper) (ws:List W) (Q:Kt) (t:Nat->D) (h:Nat->Option Row) (e:Nat):Prop :=
 RV T Γ e o t h fun t E=>l7 T Γ N F ops l ws Q (fk t o.dst E.val) (aR h E.hw) e
def v7 (o:Oper) (ops l:List Oper) (ws:List W) (Q:Kt) (t:Nat->D) (h:Nat->Option Row) (e:Nat) (fs:List lU):Prop :=
 RV T Γ e o t h fun t E=>mT T Γ N F ops l ws Q (fk t o.dst E.val) (aR h E.hw) e (fs++[⟨cI o (ev t),E.hw.isEmpty⟩])
def yZ (d:D) (g:Nat) (a:Bool) (o:Oper) (ops l:List Oper) (ws:List W) (Q:Kt) (t:Nat->D) (h:Nat->Option Row) (e:Nat):Prop :=
 wpS d t g (fun t=>if a then sF T Γ N F o ops l ws Q t h e else l7 T Γ N F ops l ws Q (fk t o.dst .skp) h e) (fun t=>if a then l7 T Γ N F ops l ws Q (fk t o.dst .skp) h e else sF T Γ N F o ops l ws Q t h e) (fun t=>l7 T Γ N F ops l ws Q (fk t o.dst .skp) h e)
def y3 (d:D) (g:Nat) (a:Bool) (o:Oper) (ops l:List Oper) (ws:List W) (Q:Kt) (t:Nat->D) (h:Nat->Option Row) (e:Nat) (fs:List lU):Prop :=
 wpS d t g (fun t=>if a then v7 T Γ N F o ops l ws Q t h e fs else mT T Γ N F ops l ws Q (fk t o.dst .skp) h e (fs++[⟨[],true⟩])) (fun t=>if a then mT T Γ N F ops l ws Q (fk t o.dst .skp) h e (fs++[⟨[],true⟩]) else v7 T Γ N F o ops l ws Q t h e fs) (fun t=>mT T Γ N F ops l ws Q (fk t o.dst .skp) h e (fs++[⟨[],true⟩]))
def Hv (x y:Option ca) (dst:Option Nat) (ops l:List Oper) (ws:List W) (Q:Kt) (t:Nat->D) (h:Nat->Option Row) (e:Nat):Prop :=
 ur (or2 h x y) fun E=>l7 T Γ N F ops l ws Q (fk t dst E.val) (aR h E.hw) e
def Hw (x y:Option ca) (dst:Option Nat) (a:List Nat) (ops l:List Oper) (ws:List W) (Q:Kt) (t:Nat->D) (h:Nat->Option Row) (e:Nat) (fs:List lU):Prop :=
 ur (or2 h x y) fun E=>mT T Γ N F ops l ws Q (fk t dst E.val) (aR h E.hw) e (fs++[⟨a,E.hw.isEmpty⟩])
def CM (x:Option ca) (dst:Option Nat) (ops l:List Oper) (ws:List W) (Q:Kt) (t:Nat->D) (h:Nat->Option Row) (e:Nat):Prop:=Hv T Γ N F x none dst ops l ws Q t h e
def MT (x:Option ca) (dst:Option Nat) (a:List Nat) (ops l:List Oper) (ws:List W) (Q:Kt) (t:Nat->D) (h:Nat->Option Row) (e:Nat) (fs:List lU):Prop:=Hw T Γ N F x none dst a ops l ws Q t h e fs
def XN (y:Option ca) (dst:Option Nat) (ops l:List Oper) (ws:List W) (Q:Kt) (t:Nat->D) (h:Nat->Option Row) (e:Nat):Prop :=
 ur y fun E=>l7 T Γ N F ops l ws Q (fk t dst E.val) (aR h E.hw) e
def acQ (y:Option ca) (dst:Option Nat) (a:List Nat) (ops l:List Oper) (ws:List W) (Q:Kt) (t:Nat->D) (h:Nat->Option Row) (e:Nat) (fs:List lU):Prop :=
 ur y fun E=>mT T Γ N F ops l ws Q (fk t dst E.val) (aR h E.hw) e (fs++[⟨a,E.hw.isEmpty⟩])
def M6 (d:D) (g:Nat) (x y:Code) (ws:List W) (Q:Kt) (t:Nat->D) (h:Nat->Option Row) (e:Nat):Prop :=
 Ub d t g (fun t=>dD T Γ N F (.code x::ws) Q .normal t h e) (fun t=>dD T Γ N F (.code y::ws) Q .normal t h e)
def aaz (d:D) (g:Nat) (a b:Operand) (dst:Option Nat) (ops l:List Oper) (ws:List W) (Q:Kt) (t:Nat->D) (h:Nat->Option Row) (e:Nat):Prop :=
 Ub d t g (fun t=>l7 T Γ N F ops l ws Q (fk t dst (ev t a)) h e) (fun t=>l7 T Γ N F ops l ws Q (fk t dst (ev t b)) h e)
def aaA (d:D) (g:Nat) (a b:Operand) (dst:Option Nat) (ops l:List Oper) (ws:List W) (Q:Kt) (t:Nat->D) (h:Nat->Option Row) (e:Nat) (fs:List lU):Prop :=
 Ub d t g (fun t=>mT T Γ N F ops l ws Q (fk t dst (ev t a)) h e (fs++[⟨[],true⟩])) (fun t=>mT T Γ N F ops l ws Q (fk t dst (ev t b)) h e (fs++[⟨[],true⟩]))
def VV (b:Code) (ws:List W) (Q:Kt) (t:Nat->D) (h:Nat->Option Row) (e:Nat):Prop:=Nf T Γ N F (.loop b) t h e (dD T Γ N F ws Q)
end
def J2 {n:Nat} (h:n<=1000000):n<=maxLen:=ait h (by decide)
def KE {z:List D} : oY 0 z=[]:=alM
def KD {n:Nat} {z:List D} : oY (n+1) z=z++oY n z:=by simp[oY,List.replicate_succ]
def JM {N:Nat} : fits N none=true:=alM
def JN {N i:Nat} : fits N (some i)=decide (i<N):=alM
def wY:List Oper->Nat->Nat
 | [],_=>0
 | o::_,0=>o.dst.getD 0
 | _::l,j+1=>wY l j
def A6:List Oper->Nat->Bool
 | [],_=>false
 | o::_,0=>o.dst.isSome
 | _::l,j+1=>A6 l j
def Fl:∀(l:List Oper) (j:Nat),A6 l j=true->(l[j]?).bind (·.dst)=some (wY l j)
 | [],j,h=>by simp[A6]at h
 | o::l,0,h=>by
  simp only[A6]at h;simp only[List.getElem?_cons_zero,Option.bind_some,wY];cases a:o.dst with
  | none=>rw[a]at h;cases h
  | some d=>rfl
 | o::l,j+1,h=>by simpa [wY] using Fl l j h
def Fo {d:Nat} {op:Op} {ty:Nat} {pos:String} {af:Array Edge} {gd:Option (Nat×Bool)} {l:List Oper} : wY (⟨some d,op,ty,pos,af,gd⟩::l) 0=d:=alM
def Fm {o:Oper} {l:List Oper} {j:Nat} : wY (o::l) (j+1)=wY l j:=alM
def F7 {d:Nat} {op:Op} {ty:Nat} {pos:String} {af:Array Edge} {gd:Option (Nat×Bool)} {l:List Oper} : A6 (⟨some d,op,ty,pos,af,gd⟩::l) 0=true:=alM
def F6 {o:Oper} {l:List Oper} {j:Nat} : A6 (o::l) (j+1)=A6 l j:=alM
section
variable {dst:Option Nat} {ty:Nat} {pos:String} {af:Array Edge} {gd:Option (Nat×Bool)} {vs:Operand->D}
def Kf (vs:Operand->D):List Operand->List Nat
 | []=>[]
 | x::l=>nm (vs x)++Kf vs l
def lX (vs:Operand->D):∀l:List Operand,(l.flatMap fun x=>nm (vs x))=Kf vs l
 | []=>Eq.trans rfl rfl
 | x::l=>by rw[aj1,lX vs l];exact Eq.trans rfl rfl
def VI:Kf vs []=[]:=alM
def Qc {x:Operand} {l:List Operand} : Kf vs (x::l)=nm (vs x)++Kf vs l:=alM
def DU {o:BinOp} {a z:Nat} {x y:Operand} : cI ⟨dst,.binOp o a x y z,ty,pos,af,gd⟩ vs=(Kf vs [x,y]++dst.toList).map rt:=by rw[<- lX];rfl
def HF {o:UnOp} {a:Nat} {x:Operand} : cI ⟨dst,.unOp o a x,ty,pos,af,gd⟩ vs=(Kf vs [x]++dst.toList).map rt:=by rw[<- lX];rfl
def By {x:Operand} : cI ⟨dst,.assign x,ty,pos,af,gd⟩ vs=(Kf vs [x]++dst.toList).map rt:=by rw[<- lX];rfl
def HE {a:Nat} {x:Operand} : cI ⟨dst,.load a x,ty,pos,af,gd⟩ vs=(Kf vs [x]++dst.toList).map rt:=by rw[<- lX];rfl
def DW {a:Nat} {x y:Operand} : cI ⟨dst,.store a x y,ty,pos,af,gd⟩ vs=(Kf vs [x,y]++dst.toList).map rt:=by rw[<- lX];rfl
def xV {x:Operand} : cI ⟨dst,.nilCheck x,ty,pos,af,gd⟩ vs=(Kf vs [x]++dst.toList).map rt:=by rw[<- lX];rfl
def wh {a i:Nat} {x:Operand} : cI ⟨dst,.fieldAddr a x i,ty,pos,af,gd⟩ vs=(Kf vs [x]++dst.toList).map rt:=by rw[<- lX];rfl
def wk {a:Nat} {x i:Operand} : cI ⟨dst,.indexAddr a x i,ty,pos,af,gd⟩ vs=(Kf vs [x,i]++dst.toList).map rt:=by rw[<- lX];rfl
def wm {a:Nat} {x y:Operand} : cI ⟨dst,.makeSlice a x y,ty,pos,af,gd⟩ vs=(Kf vs [x,y]++dst.toList).map rt:=by rw[<- lX];rfl
def DT {a:Nat} : cI ⟨dst,.alloc a,ty,pos,af,gd⟩ vs=(Kf vs []++dst.toList).map rt:=by rw[<- lX];rfl
def zm {x:Operand} {i:Nat} : cI ⟨dst,.extract x i,ty,pos,af,gd⟩ vs=(Kf vs [x]++dst.toList).map rt:=by rw[<- lX];rfl
def DV {b:Nat} {a:List (Nat×Operand)} : cI ⟨dst,.build b a.toArray,ty,pos,af,gd⟩ vs=(Kf vs (a.map (·.2))++dst.toList).map rt:=by rw[<- lX];rfl
def uD {b len:Nat} {a:List (Nat×Operand)} : cI ⟨dst,.buildSlice b len a.toArray,ty,pos,af,gd⟩ vs=(Kf vs (a.map (·.2))++dst.toList).map rt:=by rw[<- lX];rfl
def HD {x:Operand} {l:List Operand} {a:Array Nat} : cI ⟨dst,.call ⟨.value x,l.toArray,a⟩,ty,pos,af,gd⟩ vs=(Kf vs (x::l)++dst.toList).map rt:=by
 rw[<- lX];simp[cI,iB,Op.operands,Call.operands]
def zl {x:Builtin} {l:List Operand} {a:Array Nat} : cI ⟨dst,.call ⟨.builtin x,l.toArray,a⟩,ty,pos,af,gd⟩ vs=(Kf vs l++dst.toList).map rt:=by
 rw[<- lX];simp[cI,iB,Op.operands,Call.operands]
end
section
variable {T:Nat->Option Ty} {ty e:Nat} {dst:Option Nat} {h:Nat->Option Row}
def UC {k:IntKind} {n:Int} : dt T ty e dst h (.int k n)=some ⟨.int k n,[]⟩:=alM
def Nw {b:Bool} : dt T ty e dst h (.bool b)=some ⟨.bool b,[]⟩:=alM
def YK {a:Bool} {n:Nat} {xs:List D} : dt T ty e dst h (.sl false a n xs)=some ⟨.sl false a n xs,[]⟩:=alM
def YJ {x v:Nat} : dt T ty e dst h (.mp x v)=some ⟨.mp x v,[]⟩:=alM
def UB {f a:Nat} {xs:List D} : dt T ty e dst h (.clo f a xs)=some ⟨.clo f a xs,[]⟩:=alM
def ad6 (b:Bool) (T:Nat->Option Ty) (ty e d:Nat) (h:Nat->Option Row) (x:D):Option ca:=if b then dt T ty e (some d) h x else nO h x
def IN {d:Nat} {x:D} : ad6 true T ty e d h x=dt T ty e (some d) h x:=alM
def ET {d:Nat} {x:D} : ad6 false T ty e d h x=nO h x:=alM
def adf {q:Nat->Bool} {d:Nat} {x:D} : tC T q ty e (some d) h x=ad6 (q d) T ty e d h x:=alM
def Yw {a b:Bool} {n:Nat} {xs:List D} : nO h (.sl a b n xs)=some ⟨.sl false false n xs,[]⟩:=alM
def abL (e d y s o n:Nat) (r:Row):Bool->Option ca
 | true=>some ⟨.buf y r.v s o n,[]⟩
 | false=>some ⟨.buf d e s o n,[(y,none),(d,some { r with v:=e })]⟩
def ES {d y s o n:Nat} {r:Row} : abL e d y s o n r false=some ⟨.buf d e s o n,[(y,none),(d,some { r with v:=e })]⟩:=alM
def ad5 (y v s o n:Nat):Option Row->Option ca
 | some _=>some ⟨.buf y v s o n,[]⟩
 | none=>some ⟨.und,[]⟩
def IJ {y v s o n:Nat} {r:Row} : ad5 y v s o n (some r)=some ⟨.buf y v s o n,[]⟩:=alM
def YI (e:Nat) (dst:Option Nat) (y s o n:Nat) (w:Option ca):Option Row->Option ca
 | some r=>match dst with|some d=>abL e d y s o n r r.fz|none=>w
 | none=>w
def IL {d y s o n:Nat} {r:Row} {w:Option ca} : YI e (some d) y s o n w (some r)=abL e d y s o n r r.fz:=alM
def IK {d y s o n:Nat} {w:Option ca} : YI e (some d) y s o n w none=w:=alM
def UA {d y v s o n:Nat} : dt T ty e (some d) h (.buf y v s o n)=YI e (some d) y s o n (ad5 y v s o n (pM h y v)) (live h y v):=by
 simp only[dt];cases a:live h y v with
 | none=>simp only[YI];cases pM h y v<;>simp[ad5]
 | some r =>
  obtain⟨_,b⟩:=cz a;simp only[YI];cases c:r.fz<;>simp[abL,b,c]
def abM (e:Nat) (dst:Option Nat) (T:Nat->Option Ty):Option Ty->Option ca
 | some τ =>
  match dst with
  | some d=>match τ.ds with
   | .slice el=>match T el with|some φ=>some ⟨.buf d e φ.size 0 0,[(d,some ⟨e,el,[],false,true,false⟩)]⟩|none=>none
   | _=>none
  | none=>none
 | none=>none
def IM {d el b c:Nat} {z:List Value} {q:Bool} {φ:Ty} (a:T el=some φ):abM e (some d) T (some ⟨.slice el,b,c,z,q⟩)=some ⟨.buf d e φ.size 0 0,[(d,some ⟨e,el,[],false,true,false⟩)]⟩:=by simp only[abM,a]
def UD:dt T ty e dst h (.sl true true 0 [])=abM e dst T (T ty):=by
 unfold dt abM;cases dst<;>cases T ty<;>rfl
end
def okD (x:Option D):Option ca:=match x with|some d=>some ⟨d,[]⟩|none=>none
def Qs (d:D):okD (some d)=some ⟨d,[]⟩:=alM
def G4 (x:Option Ty) (f:Ty->Option ca):Option ca:=match x with|some τ=>f τ|none=>none
def QG (τ:Ty) (f:Ty->Option ca):G4 (some τ) f=f τ:=alM
def afu (x:Option (List D×List Nat)) (h:Nat->Option Row) (ty d e:Nat):Option ca :=
 match x with
 | some (cs,fr)=>if fr.contains d=false then some ⟨.ptr d e 0,kb h fr++[(d,some ⟨e,ty,cs,false,false,false⟩)]⟩ else none
 | none=>none
def IS (cs:List D) (fr:List Nat) (h:Nat->Option Row) (ty d e:Nat):afu (some (cs,fr)) h ty d e=if fr.contains d=false then some ⟨.ptr d e 0,kb h fr++[(d,some ⟨e,ty,cs,false,false,false⟩)]⟩ else none:=alM
def aeG (d e:Nat):Option Nat->D
 | some y =>.pm d e y
 | none =>.ptr d e 0
def KA {d e:Nat} : aeG d e none=.ptr d e 0:=alM
def EP (x:Option Ty) (ty d e:Nat) (y:Option Nat):Option ca :=
 match x with
 | some τ=>if (τ.zero.map pq).all bn then some ⟨aeG d e y,[(d,some ⟨e,ty,τ.zero.map pq,false,false,false⟩)]⟩ else none
 | none=>none
def C1 (τ:Ty) (ty d e:Nat) (y:Option Nat):EP (some τ) ty d e y=if (τ.zero.map pq).all bn then some ⟨aeG d e y,[(d,some ⟨e,ty,τ.zero.map pq,false,false,false⟩)]⟩ else none:=alM
def aan (T:Nat->Option Ty) (x:Option Ty) (ty e d:Nat):Option ca:=match x with|some τ=>oM T ty τ e d|none=>none
def aao {T:Nat->Option Ty} {τ φ:Ty} {b:Bool} {ty e d:Nat} (a:Gp T τ=some (b,φ)) (c:ty<900000):aan T (some τ) ty e d=some ⟨.mp d e,[(d,some ⟨e,ty,[.mpc [] []],false,true,true⟩)]⟩:=by simp only[aan,oM,a];rw[if_neg (by omega)]
def adg (x y:Option Ty) (d:D):Option ca :=
 match x,y,d with
 | some τ,some _,.int _ n=>(match τ.ds with | .int k=>some ⟨.int k (k.wrap n),[]⟩|_=>none)
 | _,_,_=>none
def Ja (k:IntKind) (b c:Nat) (z:List Value) (q:Bool) (σ:Ty) (a:IntKind) (n:Int):adg (some ⟨.int k,b,c,z,q⟩) (some σ) (.int a n)=some ⟨.int k (k.wrap n),[]⟩:=alM
def ab5 (d:D) (i:Nat):Option ca:=match d with | .tup xs=>(match xs[i]? with|some d=>some ⟨d,[]⟩|none=>none)|_=>none
def OM (xs:List D) (i:Nat):ab5 (.tup xs) i=okD xs[i]?:=by simp only[ab5,okD]
section
variable {T:Nat->Option Ty} {Γ:Env} {N F e:Nat} {ws:List W} {Q:Kt} {t:Nat->D} {h:Nat->Option Row}
def cv {x:Ex} : dD T Γ N F [] Q x t h e=Q x t h e:=alM
def KN:dD T Γ N F (.code .skip::ws) Q .normal t h e=dD T Γ N F ws Q .normal t h e:=alM
def Q7 {a b:Code} : dD T Γ N F (.code (.seq a b)::ws) Q .normal t h e=dD T Γ N F (.code a :: .code b::ws) Q .normal t h e:=alM
def Q6:dD T Γ N F (.code .ret::ws) Q .normal t h e=dD T Γ N F ws Q .ret t h e:=alM
def KL {id:Nat} : dD T Γ N F (.code (.exit id)::ws) Q .normal t h e=dD T Γ N F ws Q (.exit id) t h e:=alM
def Ho {id:Nat} {b:Code} : dD T Γ N F (.code (.block id b)::ws) Q .normal t h e=dD T Γ N F (.code b :: .blk id::ws) Q .normal t h e:=alM
def KM {b:Code} : dD T Γ N F (.code (.loop b)::ws) Q .normal t h e=VV T Γ N F b ws Q t h e:=alM
def aX {c:Code} : dD T Γ N F (.code c::ws) Q .ret t h e=dD T Γ N F ws Q .ret t h e:=alM
def xM {c:Code} {n:Nat} : dD T Γ N F (.code c::ws) Q (.exit n) t h e=dD T Γ N F ws Q (.exit n) t h e:=alM
def we {id:Nat} : dD T Γ N F (.blk id::ws) Q .normal t h e=dD T Γ N F ws Q .normal t h e:=alM
def ba {id:Nat} : dD T Γ N F (.blk id::ws) Q .ret t h e=dD T Γ N F ws Q .ret t h e:=alM
def zj {id n:Nat} : dD T Γ N F (.blk id::ws) Q (.exit n) t h e=if n=id then dD T Γ N F ws Q .normal t h e else dD T Γ N F ws Q (.exit n) t h e:=alM
def DQ {i:Nat} {ops:List Oper} : dD T Γ N F (.code (.region i ops.toArray false)::ws) Q .normal t h e=l7 T Γ N F ops ops ws Q t h e:=alM
def Hq {i:Nat} {ops:List Oper} : dD T Γ N F (.code (.region i ops.toArray true)::ws) Q .normal t h e=mT T Γ N F ops ops ws Q t h e []:=alM
def KK {g:Nat} {x y:Code} : dD T Γ N F (.code (.cond (.tmp g) x y)::ws) Q .normal t h e=M6 T Γ N F (t g) g x y ws Q t h e:=alM
def Hp {x y:Code} : dD T Γ N F (.code (.cond (.const (.bool false)) x y)::ws) Q .normal t h e=dD T Γ N F (.code y::ws) Q .normal t h e:=alM
def Lb {g:Nat} {x y:Code} (a:t g=.bool true):M6 T Γ N F (.bool true) g x y ws Q t h e=dD T Γ N F (.code x::ws) Q .normal t h e:=BC a
def HH {g:Nat} {x y:Code} (a:t g=.bool false):M6 T Γ N F (.bool false) g x y ws Q t h e=dD T Γ N F (.code y::ws) Q .normal t h e:=yR a
def XU {b:Bool} {g:Nat} {x y:Code} : M6 T Γ N F (.bool b) g x y ws Q t h e=br b (dD T Γ N F (.code x::ws) Q .normal (b6 t g (.bool true)) h e) (dD T Γ N F (.code y::ws) Q .normal (b6 t g (.bool false)) h e):=by
 unfold M6;rw[abv];cases b<;>simp[br]
variable {ops l:List Oper} {dst:Option Nat} {op:Op} {ty:Nat} {pos:String} {af:Array Edge} {gd:Option (Nat×Bool)} {fs:List lU}
def Q4:l7 T Γ N F ops [] ws Q t h e=dD T Γ N F ws Q .normal t h (e+1):=alM
def KI (a:fits N dst=true):l7 T Γ N F ops (⟨dst,op,ty,pos,af,none⟩::l) ws Q t h e=sF T Γ N F ⟨dst,op,ty,pos,af,none⟩ ops l ws Q t h e:=by
 simp only[l7,Hn,wpG,a,true_and,sF]
def Hl {j:Nat} {a:Bool} (b:fits N dst=true) (c:A6 ops j=true):l7 T Γ N F ops (⟨dst,op,ty,pos,af,some (j,a)⟩::l) ws Q t h e=yZ T Γ N F (t (wY ops j)) (wY ops j) a ⟨dst,op,ty,pos,af,none⟩ ops l ws Q t h e:=by
 simp only[l7,Hn,wpG,b,true_and,Fl ops j c,GH,yZ]<;>cases a<;>rfl
def RH {g:Nat} {a:Bool} {o:Oper} : yZ T Γ N F .skp g a o ops l ws Q t h e=l7 T Γ N F ops l ws Q (fk t o.dst .skp) h e:=alM
def Lc {g:Nat} {o:Oper} (a:t g=.bool true):yZ T Γ N F (.bool true) g true o ops l ws Q t h e=sF T Γ N F o ops l ws Q t h e:=(BG a).trans (if_pos rfl)
def HI {g:Nat} {o:Oper} (a:t g=.bool false):yZ T Γ N F (.bool false) g true o ops l ws Q t h e=l7 T Γ N F ops l ws Q (fk t o.dst .skp) h e:=(yS a).trans (if_pos rfl)
def HJ {g:Nat} {o:Oper} (a:t g=.bool true):yZ T Γ N F (.bool true) g false o ops l ws Q t h e=l7 T Γ N F ops l ws Q (fk t o.dst .skp) h e:=(BG a).trans (if_neg (by decide))
def DX {g:Nat} {o:Oper} (a:t g=.bool false):yZ T Γ N F (.bool false) g false o ops l ws Q t h e=sF T Γ N F o ops l ws Q t h e:=(yS a).trans (if_neg (by decide))
def XV {b:Bool} {g:Nat} {o:Oper} : yZ T Γ N F (.bool b) g true o ops l ws Q t h e=br b (sF T Γ N F o ops l ws Q (b6 t g (.bool true)) h e) (l7 T Γ N F ops l ws Q (fk (b6 t g (.bool false)) o.dst .skp) h e):=by
 unfold yZ;rw[BE];cases b<;>simp[br]
def T1 {b:Bool} {g:Nat} {o:Oper} : yZ T Γ N F (.bool b) g false o ops l ws Q t h e=br b (l7 T Γ N F ops l ws Q (fk (b6 t g (.bool true)) o.dst .skp) h e) (sF T Γ N F o ops l ws Q (b6 t g (.bool false)) h e):=by
 unfold yZ;rw[BE];cases b<;>simp[br]
def Q5:mT T Γ N F ops [] ws Q t h e fs=(Fq ops.toArray fs=true∧dD T Γ N F ws Q .normal t h (e+1)):=alM
def KJ (a:fits N dst=true):mT T Γ N F ops (⟨dst,op,ty,pos,af,none⟩::l) ws Q t h e fs=v7 T Γ N F ⟨dst,op,ty,pos,af,none⟩ ops l ws Q t h e fs:=by
 simp only[mT,runK,wpG,a,true_and,v7]
def Hm {j:Nat} {a:Bool} (b:fits N dst=true) (c:A6 ops j=true):mT T Γ N F ops (⟨dst,op,ty,pos,af,some (j,a)⟩::l) ws Q t h e fs=y3 T Γ N F (t (wY ops j)) (wY ops j) a ⟨dst,op,ty,pos,af,none⟩ ops l ws Q t h e fs:=by
 simp only[mT,runK,wpG,b,true_and,Fl ops j c,GH,y3]<;>cases a<;>rfl
def RI {g:Nat} {a:Bool} {o:Oper} : y3 T Γ N F .skp g a o ops l ws Q t h e fs=mT T Γ N F ops l ws Q (fk t o.dst .skp) h e (fs++[⟨[],true⟩]):=alM
def Ld {g:Nat} {o:Oper} (a:t g=.bool true):y3 T Γ N F (.bool true) g true o ops l ws Q t h e fs=v7 T Γ N F o ops l ws Q t h e fs:=(BG a).trans (if_pos rfl)
def HK {g:Nat} {o:Oper} (a:t g=.bool false):y3 T Γ N F (.bool false) g true o ops l ws Q t h e fs=mT T Γ N F ops l ws Q (fk t o.dst .skp) h e (fs++[⟨[],true⟩]):=(yS a).trans (if_pos rfl)
def HL {g:Nat} {o:Oper} (a:t g=.bool true):y3 T Γ N F (.bool true) g false o ops l ws Q t h e fs=mT T Γ N F ops l ws Q (fk t o.dst .skp) h e (fs++[⟨[],true⟩]):=(BG a).trans (if_neg (by decide))
def DY {g:Nat} {o:Oper} (a:t g=.bool false):y3 T Γ N F (.bool false) g false o ops l ws Q t h e fs=v7 T Γ N F o ops l ws Q t h e fs:=(yS a).trans (if_neg (by decide))
def XW {b:Bool} {g:Nat} {o:Oper} : y3 T Γ N F (.bool b) g true o ops l ws Q t h e fs=br b (v7 T Γ N F o ops l ws Q (b6 t g (.bool true)) h e fs) (mT T Γ N F ops l ws Q (fk (b6 t g (.bool false)) o.dst .skp) h e (fs++[⟨[],true⟩])):=by
 unfold y3;rw[BE];cases b<;>simp[br]
def T2 {b:Bool} {g:Nat} {o:Oper} : y3 T Γ N F (.bool b) g false o ops l ws Q t h e fs=br b (mT T Γ N F ops l ws Q (fk (b6 t g (.bool true)) o.dst .skp) h e (fs++[⟨[],true⟩])) (v7 T Γ N F o ops l ws Q (b6 t g (.bool false)) h e fs):=by
 unfold y3;rw[BE];cases b<;>simp[br]
def Rr {d:D} {a:List (Nat×Option Row)} : CM T Γ N F (some ⟨d,a⟩) dst ops l ws Q t h e=l7 T Γ N F ops l ws Q (fk t dst d) (aR h (lR h a)) e:=alM
def Rv {d:D} {a:List (Nat×Option Row)} {b:List Nat} : MT T Γ N F (some ⟨d,a⟩) dst b ops l ws Q t h e fs=mT T Γ N F ops l ws Q (fk t dst d) (aR h (lR h a)) e (fs++[⟨b,(lR h a).isEmpty⟩]):=alM
def V3 {c:Prop} [Decidable c] {E:ca} : CM T Γ N F (if c then some E else none) dst ops l ws Q t h e=(c∧CM T Γ N F (some E) dst ops l ws Q t h e):=by
 by_cases a:c<;>simp[a,CM,Hv,or2,ur]
def V6 {c:Prop} [Decidable c] {E:ca} {a:List Nat} : MT T Γ N F (if c then some E else none) dst a ops l ws Q t h e fs=(c∧MT T Γ N F (some E) dst a ops l ws Q t h e fs):=by
 by_cases b:c<;>simp[b,MT,Hw,or2,ur]
def KU {E:ca} {y:Option ca} : Hv T Γ N F (some E) y dst ops l ws Q t h e=CM T Γ N F (some E) dst ops l ws Q t h e:=alM
def K4 {E:ca} {y:Option ca} {a:List Nat} : Hw T Γ N F (some E) y dst a ops l ws Q t h e fs=MT T Γ N F (some E) dst a ops l ws Q t h e fs:=alM
def KT {y:Option ca} : Hv T Γ N F none y dst ops l ws Q t h e=XN T Γ N F y dst ops l ws Q t h e:=alM
def K3 {y:Option ca} {a:List Nat} : Hw T Γ N F none y dst a ops l ws Q t h e fs=acQ T Γ N F y dst a ops l ws Q t h e fs:=alM
def V2 {x:Option ca} : Hv T Γ N F x none dst ops l ws Q t h e=CM T Γ N F x dst ops l ws Q t h e:=alM
def V5 {x:Option ca} {a:List Nat} : Hw T Γ N F x none dst a ops l ws Q t h e fs=MT T Γ N F x dst a ops l ws Q t h e fs:=alM
def KV {d:D} {a:List (Nat×Option Row)} : XN T Γ N F (some ⟨d,a⟩) dst ops l ws Q t h e=l7 T Γ N F ops l ws Q (fk t dst d) (aR h a) e:=alM
def K5 {d:D} {a:List (Nat×Option Row)} {b:List Nat} : acQ T Γ N F (some ⟨d,a⟩) dst b ops l ws Q t h e fs=mT T Γ N F ops l ws Q (fk t dst d) (aR h a) e (fs++[⟨b,a.isEmpty⟩]):=alM
def G7 {g:Nat} {a b:Operand} (c:t g=.bool true):aaz T Γ N F (.bool true) g a b dst ops l ws Q t h e=l7 T Γ N F ops l ws Q (fk t dst (ev t a)) h e:=BC c
def DK {g:Nat} {a b:Operand} (c:t g=.bool false):aaz T Γ N F (.bool false) g a b dst ops l ws Q t h e=l7 T Γ N F ops l ws Q (fk t dst (ev t b)) h e:=yR c
def G8 {g:Nat} {a b:Operand} (c:t g=.bool true):aaA T Γ N F (.bool true) g a b dst ops l ws Q t h e fs=mT T Γ N F ops l ws Q (fk t dst (ev t a)) h e (fs++[⟨[],true⟩]):=BC c
def DL {g:Nat} {a b:Operand} (c:t g=.bool false):aaA T Γ N F (.bool false) g a b dst ops l ws Q t h e fs=mT T Γ N F ops l ws Q (fk t dst (ev t b)) h e (fs++[⟨[],true⟩]):=yR c
def Of {c:Nat} {a b:Operand} : sF T Γ N F ⟨dst,.pick (.tmp c) a b,ty,pos,af,gd⟩ ops l ws Q t h e=aaz T Γ N F (t c) c a b dst ops l ws Q t h e:=alM
def Om {c:Nat} {a b:Operand} : v7 T Γ N F ⟨dst,.pick (.tmp c) a b,ty,pos,af,gd⟩ ops l ws Q t h e fs=aaA T Γ N F (t c) c a b dst ops l ws Q t h e fs:=alM
def AP {x y:Option ca} (f:∀c a b,op ≠ .pick c a b) (g:iI T Γ e ⟨dst,op,ty,pos,af,gd⟩ (ev t)=none) (d:pG Γ e h dst (jk (ev t) op)=none) (i:sG T Γ e ⟨dst,op,ty,pos,af,gd⟩ (ev t) (EH h)=x) (j:w9 T Γ e ⟨dst,op,ty,pos,af,gd⟩ (ev t) h=y):sF T Γ N F ⟨dst,op,ty,pos,af,gd⟩ ops l ws Q t h e=Hv T Γ N F x y dst ops l ws Q t h e:=by
 subst i;subst j;unfold sF Hv RV qG;rw[g];simp only;rw[d];cases op<;>first|rfl|exact absurd rfl (f _ _ _)
def AS {x y:Option ca} (f:∀c a b,op ≠ .pick c a b) (g:iI T Γ e ⟨dst,op,ty,pos,af,gd⟩ (ev t)=none) (d:pG Γ e h dst (jk (ev t) op)=none) (i:sG T Γ e ⟨dst,op,ty,pos,af,gd⟩ (ev t) (EH h)=x) (j:w9 T Γ e ⟨dst,op,ty,pos,af,gd⟩ (ev t) h=y):v7 T Γ N F ⟨dst,op,ty,pos,af,gd⟩ ops l ws Q t h e fs=Hw T Γ N F x y dst (cI ⟨dst,op,ty,pos,af,gd⟩ (ev t)) ops l ws Q t h e fs:=by
 subst i;subst j;unfold v7 Hw RV qG;rw[g];simp only;rw[d];cases op<;>first|rfl|exact absurd rfl (f _ _ _)
def fV {x:Option ca} (f:∀c a b,op ≠ .pick c a b) (g:sG T Γ e ⟨dst,op,ty,pos,af,gd⟩ (ev t) (EH h)=x) (i:iI T Γ e ⟨dst,op,ty,pos,af,gd⟩ (ev t)=none:=by rfl) (j:w9 T Γ e ⟨dst,op,ty,pos,af,gd⟩ (ev t) h=none:=by rfl) (d:pG Γ e h dst (jk (ev t) op)=none:=by first|rfl|(cases dst<;>rfl)):sF T Γ N F ⟨dst,op,ty,pos,af,gd⟩ ops l ws Q t h e=CM T Γ N F x dst ops l ws Q t h e:=AP f i d g j
def lp {x:Option ca} (f:∀c a b,op ≠ .pick c a b) (g:sG T Γ e ⟨dst,op,ty,pos,af,gd⟩ (ev t) (EH h)=x) (i:iI T Γ e ⟨dst,op,ty,pos,af,gd⟩ (ev t)=none:=by rfl) (j:w9 T Γ e ⟨dst,op,ty,pos,af,gd⟩ (ev t) h=none:=by rfl) (d:pG Γ e h dst (jk (ev t) op)=none:=by first|rfl|(cases dst<;>rfl)):v7 T Γ N F ⟨dst,op,ty,pos,af,gd⟩ ops l ws Q t h e fs=MT T Γ N F x dst (cI ⟨dst,op,ty,pos,af,gd⟩ (ev t)) ops l ws Q t h e fs:=AS f i d g j
def Oe {x:Operand} : sF T Γ N F ⟨dst,.move x,ty,pos,af,gd⟩ ops l ws Q t h e=l7 T Γ N F ops l ws Q (fk t dst (ev t x)) h e:=(fV (fun _ _ _ a=>by cases a) rfl).trans rfl
def Ol {x:Operand} : v7 T Γ N F ⟨dst,.move x,ty,pos,af,gd⟩ ops l ws Q t h e fs=mT T Γ N F ops l ws Q (fk t dst (ev t x)) h e (fs++[⟨[],true⟩]):=(lp (fun _ _ _ a=>by cases a) rfl).trans rfl
def Jd {o:BinOp} {a z:Nat} {x y:Operand} : sF T Γ N F ⟨dst,.binOp o a x y z,ty,pos,af,gd⟩ ops l ws Q t h e=CM T Γ N F (okD (EV T a o (ev t x) (ev t y))) dst ops l ws Q t h e:=fV (fun _ _ _ b=>by cases b) (by simp only[sG];first|rfl|(cases EV T a o (ev t x) (ev t y)<;>rfl))
def Jk {o:BinOp} {a z:Nat} {x y:Operand} : v7 T Γ N F ⟨dst,.binOp o a x y z,ty,pos,af,gd⟩ ops l ws Q t h e fs=MT T Γ N F (okD (EV T a o (ev t x) (ev t y))) dst (cI ⟨dst,.binOp o a x y z,ty,pos,af,gd⟩ (ev t)) ops l ws Q t h e fs:=lp (fun _ _ _ b=>by cases b) (by simp only[sG];first|rfl|(cases EV T a o (ev t x) (ev t y)<;>rfl))
def Og {o:UnOp} {a:Nat} {x:Operand} : sF T Γ N F ⟨dst,.unOp o a x,ty,pos,af,gd⟩ ops l ws Q t h e=CM T Γ N F (okD (XY o (ev t x))) dst ops l ws Q t h e:=fV (fun _ _ _ b=>by cases b) (by simp only[sG];first|rfl|(cases XY o (ev t x)<;>rfl))
def On {o:UnOp} {a:Nat} {x:Operand} : v7 T Γ N F ⟨dst,.unOp o a x,ty,pos,af,gd⟩ ops l ws Q t h e fs=MT T Γ N F (okD (XY o (ev t x))) dst (cI ⟨dst,.unOp o a x,ty,pos,af,gd⟩ (ev t)) ops l ws Q t h e fs:=lp (fun _ _ _ b=>by cases b) (by simp only[sG];first|rfl|(cases XY o (ev t x)<;>rfl))
def Fe {x:Operand} : sF T Γ N F ⟨dst,.assign x,ty,pos,af,gd⟩ ops l ws Q t h e=CM T Γ N F (tC T Γ.own ty e dst (EH h) (ev t x)) dst ops l ws Q t h e:=fV (fun _ _ _ a=>by cases a) rfl
def Fg {x:Operand} : v7 T Γ N F ⟨dst,.assign x,ty,pos,af,gd⟩ ops l ws Q t h e fs=MT T Γ N F (tC T Γ.own ty e dst (EH h) (ev t x)) dst (cI ⟨dst,.assign x,ty,pos,af,gd⟩ (ev t)) ops l ws Q t h e fs:=lp (fun _ _ _ a=>by cases a) rfl
def AQ {f:Nat} {first caps:List Operand} : sF T Γ N F ⟨dst,.makeFunc (.func f) first.toArray caps.toArray,ty,pos,af,gd⟩ ops l ws Q t h e=CM T Γ N F (if (first.map (ev t)++caps.map (ev t)).all s9 then some ⟨.clo f first.length (first.map (ev t)++caps.map (ev t)),[]⟩ else none) dst ops l ws Q t h e:=fV (fun _ _ _ a=>by cases a) rfl
def Oc {a:Nat} {x:Operand} : sF T Γ N F ⟨dst,.load a x,ty,pos,af,gd⟩ ops l ws Q t h e=Hv T Γ N F (G4 (T a) fun τ=>rL τ (EH h) (ev t x)) (G4 (T a) fun τ=>w8 τ h (ev t x)) dst ops l ws Q t h e:=AP (fun _ _ _ b=>by cases b) rfl (by cases dst<;>rfl) (by simp only[sG];first|rfl|(cases T a<;>rfl)) (by simp only[w9];first|rfl|(cases T a<;>rfl))
def Oi {a:Nat} {x:Operand} : v7 T Γ N F ⟨dst,.load a x,ty,pos,af,gd⟩ ops l ws Q t h e fs=Hw T Γ N F (G4 (T a) fun τ=>rL τ (EH h) (ev t x)) (G4 (T a) fun τ=>w8 τ h (ev t x)) dst (cI ⟨dst,.load a x,ty,pos,af,gd⟩ (ev t)) ops l ws Q t h e fs:=AS (fun _ _ _ b=>by cases b) rfl (by cases dst<;>rfl) (by simp only[sG];first|rfl|(cases T a<;>rfl)) (by simp only[w9];first|rfl|(cases T a<;>rfl))
def Ji {a:Nat} {x y:Operand} : sF T Γ N F ⟨dst,.store a x y,ty,pos,af,gd⟩ ops l ws Q t h e=Hv T Γ N F (G4 (T a) fun τ=>il τ (EH h) (ev t x) (ev t y)) (G4 (T a) fun τ=>xa τ e h (ev t x) (ev t y)) dst ops l ws Q t h e:=AP (fun _ _ _ b=>by cases b) rfl (by cases dst<;>rfl) (by simp only[sG];first|rfl|(cases T a<;>rfl)) (by simp only[w9];first|rfl|(cases T a<;>rfl))
def Jn {a:Nat} {x y:Operand} : v7 T Γ N F ⟨dst,.store a x y,ty,pos,af,gd⟩ ops l ws Q t h e fs=Hw T Γ N F (G4 (T a) fun τ=>il τ (EH h) (ev t x) (ev t y)) (G4 (T a) fun τ=>xa τ e h (ev t x) (ev t y)) dst (cI ⟨dst,.store a x y,ty,pos,af,gd⟩ (ev t)) ops l ws Q t h e fs:=AS (fun _ _ _ b=>by cases b) rfl (by cases dst<;>rfl) (by simp only[sG];first|rfl|(cases T a<;>rfl)) (by simp only[w9];first|rfl|(cases T a<;>rfl))
def AR {x:Operand} : sF T Γ N F ⟨dst,.nilCheck x,ty,pos,af,gd⟩ ops l ws Q t h e=CM T Γ N F (oN (EH h) (ev t x)) dst ops l ws Q t h e:=fV (fun _ _ _ a=>by cases a) rfl
def AT {x:Operand} : v7 T Γ N F ⟨dst,.nilCheck x,ty,pos,af,gd⟩ ops l ws Q t h e fs=MT T Γ N F (oN (EH h) (ev t x)) dst (cI ⟨dst,.nilCheck x,ty,pos,af,gd⟩ (ev t)) ops l ws Q t h e fs:=lp (fun _ _ _ a=>by cases a) rfl
def y7 {a i:Nat} {x:Operand} : sF T Γ N F ⟨dst,.fieldAddr a x i,ty,pos,af,gd⟩ ops l ws Q t h e=CM T Γ N F (G4 (T a) fun τ=>gh T τ (EH h) i (ev t x)) dst ops l ws Q t h e:=fV (fun _ _ _ b=>by cases b) (by simp only[sG];first|rfl|(cases T a<;>rfl))
def zb {a i:Nat} {x:Operand} : v7 T Γ N F ⟨dst,.fieldAddr a x i,ty,pos,af,gd⟩ ops l ws Q t h e fs=MT T Γ N F (G4 (T a) fun τ=>gh T τ (EH h) i (ev t x)) dst (cI ⟨dst,.fieldAddr a x i,ty,pos,af,gd⟩ (ev t)) ops l ws Q t h e fs:=lp (fun _ _ _ b=>by cases b) (by simp only[sG];first|rfl|(cases T a<;>rfl))
def y8 {a:Nat} {x i:Operand} : sF T Γ N F ⟨dst,.indexAddr a x i,ty,pos,af,gd⟩ ops l ws Q t h e=CM T Γ N F (G4 (T a) fun τ=>cF T τ (EH h) (ev t x) (ev t i)) dst ops l ws Q t h e:=fV (fun _ _ _ b=>by cases b) (by simp only[sG];first|rfl|(cases T a<;>rfl))
def zc {a:Nat} {x i:Operand} : v7 T Γ N F ⟨dst,.indexAddr a x i,ty,pos,af,gd⟩ ops l ws Q t h e fs=MT T Γ N F (G4 (T a) fun τ=>cF T τ (EH h) (ev t x) (ev t i)) dst (cI ⟨dst,.indexAddr a x i,ty,pos,af,gd⟩ (ev t)) ops l ws Q t h e fs:=lp (fun _ _ _ b=>by cases b) (by simp only[sG];first|rfl|(cases T a<;>rfl))
def Jf {a:Nat} {x i:Operand} : sF T Γ N F ⟨dst,.index a x i,ty,pos,af,gd⟩ ops l ws Q t h e=CM T Γ N F (G4 (T a) fun τ=>mc T τ (ev t x) (ev t i)) dst ops l ws Q t h e:=fV (fun _ _ _ b=>by cases b) (by simp only[sG];first|rfl|(cases T a<;>rfl))
def Jg {a:Nat} {x:Operand} {b c d:Option Operand} : sF T Γ N F ⟨dst,.slice a x b c d,ty,pos,af,gd⟩ ops l ws Q t h e=CM T Γ N F (G4 (T a) fun τ=>ik T τ (EH h) (ev t x) (b.map (ev t)) (c.map (ev t)) (d.map (ev t))) dst ops l ws Q t h e:=fV (fun _ _ _ f=>by cases f) (by simp only[sG];first|rfl|(cases T a<;>rfl))
def Je {a:Nat} {b:List (Nat×Operand)} : sF T Γ N F ⟨dst,.build a b.toArray,ty,pos,af,gd⟩ ops l ws Q t h e=CM T Γ N F (G4 (T a) fun τ=>rJ Γ.own T τ (EH h) dst (b.map fun p=>(p.1,ev t p.2))) dst ops l ws Q t h e:=fV (fun _ _ _ c=>by cases c) (by simp only[sG];first|rfl|(cases T a<;>rfl))
def Jl {a:Nat} {b:List (Nat×Operand)} : v7 T Γ N F ⟨dst,.build a b.toArray,ty,pos,af,gd⟩ ops l ws Q t h e fs=MT T Γ N F (G4 (T a) fun τ=>rJ Γ.own T τ (EH h) dst (b.map fun p=>(p.1,ev t p.2))) dst (cI ⟨dst,.build a b.toArray,ty,pos,af,gd⟩ (ev t)) ops l ws Q t h e fs:=lp (fun _ _ _ c=>by cases c) (by simp only[sG];first|rfl|(cases T a<;>rfl))
def wV {a len d:Nat} {b:List (Nat×Operand)} : sF T Γ N F ⟨some d,.buildSlice a len b.toArray,ty,pos,af,gd⟩ ops l ws Q t h e=CM T Γ N F (G4 (T a) fun τ=>eL T τ (EH h) e d len (b.map fun p=>(p.1,ev t p.2))) (some d) ops l ws Q t h e:=fV (fun _ _ _ c=>by cases c) (by simp only[sG];first|rfl|(cases T a<;>rfl))
def wW {a len d:Nat} {b:List (Nat×Operand)} : v7 T Γ N F ⟨some d,.buildSlice a len b.toArray,ty,pos,af,gd⟩ ops l ws Q t h e fs=MT T Γ N F (G4 (T a) fun τ=>eL T τ (EH h) e d len (b.map fun p=>(p.1,ev t p.2))) (some d) (cI ⟨some d,.buildSlice a len b.toArray,ty,pos,af,gd⟩ (ev t)) ops l ws Q t h e fs:=lp (fun _ _ _ c=>by cases c) (by simp only[sG];first|rfl|(cases T a<;>rfl))
def Gv (T:Nat->Option Ty) (e d a:Nat) (x y:D):Option (Nat×Nat×Nat)->Option ca
 | some p=>(match T a with|some τ=>pZ T τ e d p.1 p.2.1 p.2.2 x y|none=>none)
 | none=>none
def Kb {d a:Nat} {x y:D} : Gv T e d a x y none=none:=alM
def Kc {d a:Nat} {x y:D} {p:Nat×Nat×Nat} {τ:Ty} (b:T a=some τ):Gv T e d a x y (some p)=pZ T τ e d p.1 p.2.1 p.2.2 x y:=by simp only[Gv,b]
def stM (y x:Option ca) (dst:Option Nat) (ops l:List Oper) (ws:List W) (Q:Kt) (t:Nat->D) (h:Nat->Option Row) (e:Nat):Prop :=
 match y with
 | some E=>XN T Γ N F (some E) dst ops l ws Q t h e
 | none=>CM T Γ N F x dst ops l ws Q t h e
def aeP (y x:Option ca) (dst:Option Nat) (a:List Nat) (ops l:List Oper) (ws:List W) (Q:Kt) (t:Nat->D) (h:Nat->Option Row) (e:Nat) (fs:List lU):Prop :=
 match y with
 | some E=>acQ T Γ N F (some E) dst a ops l ws Q t h e fs
 | none=>MT T Γ N F x dst a ops l ws Q t h e fs
def y9 {a d:Nat} {x y:Operand} : sF T Γ N F ⟨some d,.makeSlice a x y,ty,pos,af,gd⟩ ops l ws Q t h e=stM (T:=T) (Γ:=Γ) (N:=N) (F:=F) (Gv T e d a (ev t x) (ev t y) (Γ.nst d)) (G4 (T a) fun τ=>sY T τ e d (ev t x) (ev t y)) (some d) ops l ws Q t h e:=by
 have b:iI T Γ e ⟨some d,.makeSlice a x y,ty,pos,af,gd⟩ (ev t)=Gv T e d a (ev t x) (ev t y) (Γ.nst d):=by
  unfold iI Gv;simp only;cases Γ.nst d<;>rfl
 cases c:Gv T e d a (ev t x) (ev t y) (Γ.nst d) with
 | none=>exact fV (fun _ _ _ f=>by cases f) (by simp only[sG];first|rfl|(cases T a<;>rfl)) (b.trans c)
 | some E=>unfold sF RV qG;rw[b,c];rfl
def zd {a d:Nat} {x y:Operand} : v7 T Γ N F ⟨some d,.makeSlice a x y,ty,pos,af,gd⟩ ops l ws Q t h e fs=aeP (T:=T) (Γ:=Γ) (N:=N) (F:=F) (Gv T e d a (ev t x) (ev t y) (Γ.nst d)) (G4 (T a) fun τ=>sY T τ e d (ev t x) (ev t y)) (some d) (cI ⟨some d,.makeSlice a x y,ty,pos,af,gd⟩ (ev t)) ops l ws Q t h e fs:=by
 have b:iI T Γ e ⟨some d,.makeSlice a x y,ty,pos,af,gd⟩ (ev t)=Gv T e d a (ev t x) (ev t y) (Γ.nst d):=by
  unfold iI Gv;simp only;cases Γ.nst d<;>rfl
 cases c:Gv T e d a (ev t x) (ev t y) (Γ.nst d) with
 | none=>exact lp (fun _ _ _ f=>by cases f) (by simp only[sG];first|rfl|(cases T a<;>rfl)) (b.trans c)
 | some E=>unfold v7 RV qG;rw[b,c];rfl
def Rs {x:Option ca} : stM (T:=T) (Γ:=Γ) (N:=N) (F:=F) none x dst ops l ws Q t h e=CM T Γ N F x dst ops l ws Q t h e:=alM
def KW {x:Option ca} {a:List Nat} : aeP (T:=T) (Γ:=Γ) (N:=N) (F:=F) none x dst a ops l ws Q t h e fs=MT T Γ N F x dst a ops l ws Q t h e fs:=alM
def Rt {x:Option ca} {E:ca} : stM (T:=T) (Γ:=Γ) (N:=N) (F:=F) (some E) x dst ops l ws Q t h e=XN T Γ N F (some E) dst ops l ws Q t h e:=alM
def YC (T:Nat->Option Ty) (e d a:Nat):Option (Nat×Nat×Nat)->Option ca
 | some p=>(match T a with|some τ=>mkA τ a e d p.1 p.2.1 p.2.2|none=>none)
 | none=>none
def Ns {d a:Nat} : YC T e d a none=none:=alM
def Nt {d a:Nat} {p:Nat×Nat×Nat} {τ:Ty} (b:T a=some τ):YC T e d a (some p)=mkA τ a e d p.1 p.2.1 p.2.2:=by simp only[YC,b]
def Jc {a d:Nat} : sF T Γ N F ⟨some d,.alloc a,ty,pos,af,gd⟩ ops l ws Q t h e=stM (T:=T) (Γ:=Γ) (N:=N) (F:=F) (YC T e d a (Γ.nst d)) (EP (T a) a d e (Γ.hint d)) (some d) ops l ws Q t h e:=by
 have b:iI T Γ e ⟨some d,.alloc a,ty,pos,af,gd⟩ (ev t)=YC T e d a (Γ.nst d):=by
  unfold iI YC;simp only;cases Γ.nst d<;>rfl
 cases c:YC T e d a (Γ.nst d) with
 | none=>exact fV (fun _ _ _ f=>by cases f) (by simp only[sG];cases T a with|none=>rfl|some τ=>(dsimp only[EP];cases Γ.hint d<;>rfl)) (b.trans c)
 | some E=>unfold sF RV qG;rw[b,c];rfl
def Jj {a d:Nat} : v7 T Γ N F ⟨some d,.alloc a,ty,pos,af,gd⟩ ops l ws Q t h e fs=aeP (T:=T) (Γ:=Γ) (N:=N) (F:=F) (YC T e d a (Γ.nst d)) (EP (T a) a d e (Γ.hint d)) (some d) (cI ⟨some d,.alloc a,ty,pos,af,gd⟩ (ev t)) ops l ws Q t h e fs:=by
 have b:iI T Γ e ⟨some d,.alloc a,ty,pos,af,gd⟩ (ev t)=YC T e d a (Γ.nst d):=by
  unfold iI YC;simp only;cases Γ.nst d<;>rfl
 cases c:YC T e d a (Γ.nst d) with
 | none=>exact lp (fun _ _ _ f=>by cases f) (by simp only[sG];cases T a with|none=>rfl|some τ=>(dsimp only[EP];cases Γ.hint d<;>rfl)) (b.trans c)
 | some E=>unfold v7 RV qG;rw[b,c];rfl
def De {a d:Nat} : sF T Γ N F ⟨some d,.makeMap a none,ty,pos,af,gd⟩ ops l ws Q t h e=CM T Γ N F (aan T (T a) a e d) (some d) ops l ws Q t h e:=fV (fun _ _ _ b=>by cases b) (by simp only[sG];first|rfl|(cases T a<;>rfl))
def Ff {a:Nat} {m i:Operand} {b:Bool} : sF T Γ N F ⟨dst,.lookup a m i b,ty,pos,af,gd⟩ ops l ws Q t h e=CM T Γ N F (G4 (T a) fun τ=>iL T τ (EH h) (ev t m) (ev t i) b) dst ops l ws Q t h e:=fV (fun _ _ _ c=>by cases c) (by simp only[sG];first|rfl|(cases T a<;>rfl))
def za {a:Nat} {m i x:Operand} : sF T Γ N F ⟨dst,.mapUpdate a m i x,ty,pos,af,gd⟩ ops l ws Q t h e=CM T Γ N F (G4 (T a) fun τ=>ej T τ (EH h) (ev t m) (ev t i) (ev t x)) dst ops l ws Q t h e:=fV (fun _ _ _ b=>by cases b) (by simp only[sG];first|rfl|(cases T a<;>rfl))
def UT {a d:Nat} {x:Operand} : sF T Γ N F ⟨some d,.box a x,ty,pos,af,gd⟩ ops l ws Q t h e=CM T Γ N F (afu (gx (EH h) (ev t x)) (EH h) a d e) (some d) ops l ws Q t h e:=fV (fun _ _ _ b=>by cases b) (by simp only[sG];first|rfl|(cases gx (EH h) (ev t x)<;>rfl))
def Dc {a b:Nat} {x:Operand} : sF T Γ N F ⟨dst,.convert a b x,ty,pos,af,gd⟩ ops l ws Q t h e=CM T Γ N F (adg (T b) (T a) (ev t x)) dst ops l ws Q t h e:=fV (fun _ _ _ c=>by cases c) rfl
def Dd {x:Nat} {i:Nat} : sF T Γ N F ⟨dst,.extract (.tmp x) i,ty,pos,af,gd⟩ ops l ws Q t h e=CM T Γ N F (ab5 (t x) i) dst ops l ws Q t h e:=fV (fun _ _ _ a=>by cases a) rfl
def Dh {x:Nat} {i:Nat} : v7 T Γ N F ⟨dst,.extract (.tmp x) i,ty,pos,af,gd⟩ ops l ws Q t h e fs=MT T Γ N F (ab5 (t x) i) dst (cI ⟨dst,.extract (.tmp x) i,ty,pos,af,gd⟩ (ev t)) ops l ws Q t h e fs:=lp (fun _ _ _ a=>by cases a) rfl
def cnL (Γ:Env) (e:Nat) (h:Nat->Option Row) (g:Nat) (a:List D):Option (Nat×(Nat->Nat->Nat->Nat->List D->List D->Option (D×List D)))->Option ca
 | some _=>ub Γ e h g a
 | none=>none
def N4 {g:Nat} {a:List D} : cnL Γ e h g a none=none:=alM
def N5 {g:Nat} {a:List D} {p:Nat×(Nat->Nat->Nat->Nat->List D->List D->Option (D×List D))} : cnL Γ e h g a (some p)=ub Γ e h g a:=alM
def ZA {g:Nat} {a:List D} : Dq Γ e h (some (.fn g,a))=cnL Γ e h g a (Γ.nx.lnd g):=by
 cases c:Γ.nx.lnd g with
 | some p=>rfl
 | none =>
  show ub Γ e h g a=none;cases d:ub Γ e h g a with
  | none=>rfl
  | some E =>
   obtain⟨_,_,_,_,_,_,_,_,_,_,_,_,_,_,_,_,b,_⟩:=u7 d;rw[c]at b;cases b
def UY {f k:Nat} {xs a:List D} : Dq Γ e h (some (.clo f k xs,a))=none:=alM
def Zz {d g:Nat} {a:List D} : pG Γ e h (some d) (some (.fn g,a))=Fy e d h a (Γ.nx.res g):=alM
def UX {dst:Option Nat} {f k:Nat} {xs a:List D} : pG Γ e h dst (some (.clo f k xs,a))=none:=by cases dst<;>rfl
def Ou {d:Nat} {a:List D} : Fy e d h a none=none:=alM
def Ov {d:Nat} {a:List D} {p:List D->Option (Nat×Nat×Nat×Nat×Nat×List D)} : Fy e d h a (some p)=I0 p e d (bQ (EH h) a):=alM
def NJ {d:Nat} {aim:List D} {p:List D->Option (Nat×Nat×Nat×Nat×Nat×List D)} : I0 p e d (some (aim,[]))=Lt e d (p aim):=alM
def I1 {d ty a s S n:Nat} {cs:List D} (b:d<1000000):Lt e d (some (ty,a,s,S,n,cs))=some ⟨.buf d e S 0 n,[(d,some ⟨e,ty,[.nr a s (4*e+2) cs],false,true,true⟩)]⟩:=if_pos (by rw[cK];exact b)
def stC (a x y:Option ca) (dst:Option Nat) (ops l:List Oper) (ws:List W) (Q:Kt) (t:Nat->D) (h:Nat->Option Row) (e:Nat):Prop :=
 match a with
 | some E=>XN T Γ N F (some E) dst ops l ws Q t h e
 | none=>Hv T Γ N F x y dst ops l ws Q t h e
def agt (b x y:Option ca) (dst:Option Nat) (a:List Nat) (ops l:List Oper) (ws:List W) (Q:Kt) (t:Nat->D) (h:Nat->Option Row) (e:Nat) (fs:List lU):Prop :=
 match b with
 | some E=>acQ T Γ N F (some E) dst a ops l ws Q t h e fs
 | none=>Hw T Γ N F x y dst a ops l ws Q t h e fs
def Rp {x y:Option ca} : stC (T:=T) (Γ:=Γ) (N:=N) (F:=F) none x y dst ops l ws Q t h e=Hv T Γ N F x y dst ops l ws Q t h e:=alM
def KS {x y:Option ca} {a:List Nat} : agt (T:=T) (Γ:=Γ) (N:=N) (F:=F) none x y dst a ops l ws Q t h e fs=Hw T Γ N F x y dst a ops l ws Q t h e fs:=alM
def Rq {x y:Option ca} {E:ca} : stC (T:=T) (Γ:=Γ) (N:=N) (F:=F) (some E) x y dst ops l ws Q t h e=XN T Γ N F (some E) dst ops l ws Q t h e:=alM
def Ob {x:Operand} {aim:List Operand} {a:Array Nat} : sF T Γ N F ⟨dst,.call ⟨.value x,aim.toArray,a⟩,ty,pos,af,gd⟩ ops l ws Q t h e=stC (T:=T) (Γ:=Γ) (N:=N) (F:=F) (pG Γ e h dst (some (ev t x,aim.map (ev t)))) (jq Γ (EH h) e dst (ev t x) (aim.map (ev t))) (Dq Γ e h (some (ev t x,aim.map (ev t)))) dst ops l ws Q t h e:=by
 have b:jk (ev t) (.call ⟨.value x,aim.toArray,a⟩)=some (ev t x,aim.map (ev t)):=rfl;cases c:pG Γ e h dst (some (ev t x,aim.map (ev t))) with
 | none=>exact AP (fun _ _ _ d=>by cases d) rfl (by rw[b];exact c) rfl rfl
 | some E=>unfold sF RV qG;simp only[iI,b,c];rfl
def Oh {x:Operand} {aim:List Operand} {a:Array Nat} : v7 T Γ N F ⟨dst,.call ⟨.value x,aim.toArray,a⟩,ty,pos,af,gd⟩ ops l ws Q t h e fs=agt (T:=T) (Γ:=Γ) (N:=N) (F:=F) (pG Γ e h dst (some (ev t x,aim.map (ev t)))) (jq Γ (EH h) e dst (ev t x) (aim.map (ev t))) (Dq Γ e h (some (ev t x,aim.map (ev t)))) dst (cI ⟨dst,.call ⟨.value x,aim.toArray,a⟩,ty,pos,af,gd⟩ (ev t)) ops l ws Q t h e fs:=by
 have b:jk (ev t) (.call ⟨.value x,aim.toArray,a⟩)=some (ev t x,aim.map (ev t)):=rfl;cases c:pG Γ e h dst (some (ev t x,aim.map (ev t))) with
 | none=>exact AS (fun _ _ _ d=>by cases d) rfl (by rw[b];exact c) rfl rfl
 | some E=>unfold v7 RV qG;simp only[iI,b,c];rfl
def Db {x:Builtin} {aim:List Operand} {a:List Nat} : sF T Γ N F ⟨dst,.call ⟨.builtin x,aim.toArray,a.toArray⟩,ty,pos,af,gd⟩ ops l ws Q t h e=CM T Γ N F (dV T (EH h) e dst x a (aim.map (ev t))) dst ops l ws Q t h e:=fV (fun _ _ _ b=>by cases b) rfl
def Df {x:Builtin} {aim:List Operand} {a:List Nat} : v7 T Γ N F ⟨dst,.call ⟨.builtin x,aim.toArray,a.toArray⟩,ty,pos,af,gd⟩ ops l ws Q t h e fs=MT T Γ N F (dV T (EH h) e dst x a (aim.map (ev t))) dst (cI ⟨dst,.call ⟨.builtin x,aim.toArray,a.toArray⟩,ty,pos,af,gd⟩ (ev t)) ops l ws Q t h e fs:=lp (fun _ _ _ b=>by cases b) rfl
def bu {o:Array Oper} {A:Prop} (a:Fq o fs=true) (b:A):Fq o fs=true∧A:=⟨a,b⟩
def an {b:Bool} {g:Nat} {x y:Code} (a:b=true->dD T Γ N F (.code x::ws) Q .normal (b6 t g (.bool true)) h e) (c:b=false->dD T Γ N F (.code y::ws) Q .normal (b6 t g (.bool false)) h e):M6 T Γ N F (.bool b) g x y ws Q t h e:=by rw[XU];exact⟨a,c⟩
def fG {b:Bool} {g:Nat} {o:Oper} (a:b=true->sF T Γ N F o ops l ws Q (b6 t g (.bool true)) h e) (c:b=false->l7 T Γ N F ops l ws Q (fk (b6 t g (.bool false)) o.dst .skp) h e):yZ T Γ N F (.bool b) g true o ops l ws Q t h e:=by rw[XV];exact⟨a,c⟩
def aZ {b:Bool} {g:Nat} {o:Oper} (a:b=true->l7 T Γ N F ops l ws Q (fk (b6 t g (.bool true)) o.dst .skp) h e) (c:b=false->sF T Γ N F o ops l ws Q (b6 t g (.bool false)) h e):yZ T Γ N F (.bool b) g false o ops l ws Q t h e:=by rw[T1];exact⟨a,c⟩
def vS {b:Bool} {g:Nat} {o:Oper} (a:b=true->v7 T Γ N F o ops l ws Q (b6 t g (.bool true)) h e fs) (c:b=false->mT T Γ N F ops l ws Q (fk (b6 t g (.bool false)) o.dst .skp) h e (fs++[⟨[],true⟩])):y3 T Γ N F (.bool b) g true o ops l ws Q t h e fs:=by rw[XW];exact⟨a,c⟩
def Bz {b:Bool} {g:Nat} {o:Oper} (a:b=true->mT T Γ N F ops l ws Q (fk (b6 t g (.bool true)) o.dst .skp) h e (fs++[⟨[],true⟩])) (c:b=false->v7 T Γ N F o ops l ws Q (b6 t g (.bool false)) h e fs):y3 T Γ N F (.bool b) g false o ops l ws Q t h e fs:=by rw[T2];exact⟨a,c⟩
def ZH (a:Mode) (T:Nat->Option Ty) (lent:Option (D×Row)) (rs:List ResultVar) (r:RK×Option Row):Kt:=fun x t h e=>aef a T lent rs x t h e r
def Dt {a:Mode} {lent:Option (D×Row)} {rs:List ResultVar} {r:RK×Option Row} : ZH a T lent rs r .normal t h e=(gi a T lent rs ⟨t,EH h,e⟩=some r):=alM
def cA {a:Mode} {lent:Option (D×Row)} {rs:List ResultVar} {r:RK×Option Row} : ZH a T lent rs r .ret t h e=(gi a T lent rs ⟨t,EH h,e⟩=some r):=alM
def U4 (T:Nat->Option Ty) (ty a s:Nat) (rs:List ResultVar) (r:D×List D):Kt:=fun x t h e =>
 match x with
 | .exit _=>False
 | _=>WY T ty a s rs ⟨t,h,e⟩=some r
def A2 {ty a s:Nat} {rs:List ResultVar} {r:D×List D} : U4 T ty a s rs r .normal t h e=(WY T ty a s rs ⟨t,h,e⟩=some r):=alM
def Jz {ty a s:Nat} {rs:List ResultVar} {r:D×List D} : U4 T ty a s rs r .ret t h e=(WY T ty a s rs ⟨t,h,e⟩=some r):=alM
def ZF (rs:List ResultVar) (r:Nat×Nat×Nat×Nat×Nat×List D):Kt:=fun x t h e =>
 match x with
 | .exit _=>False
 | _=>ZD rs ⟨t,h,e⟩=some r
def Jy {rs:List ResultVar} {r:Nat×Nat×Nat×Nat×Nat×List D} : ZF rs r .ret t h e=(ZD rs ⟨t,h,e⟩=some r):=alM
def U6 {ty a s:Nat} {rs:List ResultVar} : WY T ty a s rs ⟨t,h,e⟩=OH ty a s (vK T ⟨t,EH h,e⟩ rs) (h 0):=alM
def OI {ty a s nv:Nat} {lst:Bool} {b cs:List D} : OH ty a s (some (b,[])) (some ⟨0,ty,[.nr a s nv cs],false,lst,true⟩)=some (mS b,cs):=by
 simp[OH,ZG]
def U3 {i:Nat} : ZD [.tmp i] ⟨t,h,e⟩=U2 h (t i):=alM
def Jw {x v S n:Nat} : U2 h (.buf x v S 0 n)=OF x v S n (h x):=alM
def OG {x v S n ty a s nv:Nat} {lst:Bool} {cs:List D} (b:x<1000000):OF x v S n (some ⟨v,ty,[.nr a s nv cs],false,lst,true⟩)=some (ty,a,s,S,n,cs):=by
 have:x<PK:=by rw[cK];exact b
 simp[OF,ZE,this]
def yP {d:Func} {c:Code} {n ty b s o:Nat} {cs a:List D} {rs:List ResultVar} {r:D×List D} (g:d.body=some c) (h:d.ntmps=n) (i:d.results=rs.toArray) (j:dD T Γ n F [.code c] (U4 T ty b s rs r) .normal (AE (.ptr 0 0 o::a)) (nD (ja ty b s 0 cs)) 1) (e:n<=1000000:=by exact aki rfl):vU T Γ F d ty b s o cs a=some r:=by
 obtain⟨x,p,k,f⟩:=CU _ _ _ _ _ (show Nf T Γ n F c (AE (.ptr 0 0 o::a)) (nD (ja ty b s 0 cs)) 1 (U4 T ty b s rs r) from j);unfold vU;simp only[g,h];rw[if_pos (by rw[cK];exact e)];have l:sA ty b s o cs a=⟨AE (.ptr 0 0 o::a),nD (ja ty b s 0 cs),1⟩:=rfl;rw[l,k,i];cases x with
 | normal=>exact f
 | ret=>exact f
 | exit m=>exact f.elim
def X5 {b:Func} {c:Code} {n:Nat} {a:List D} {rs:List ResultVar} {r:Nat×Nat×Nat×Nat×Nat×List D} (f:b.body=some c) (g:b.ntmps=n) (h:b.results=rs.toArray) (i:dD T Γ n F [.code c] (ZF rs r) .normal (AE a) Ko 0) (d:n<=1000000:=by exact aki rfl):vT T Γ F b a=some r:=by
 obtain⟨x,l,j,e⟩:=CU _ _ _ _ _ (show Nf T Γ n F c (AE a) Ko 0 (ZF rs r) from i);unfold vT;simp only[f,g];rw[if_pos (by rw[cK];exact d)];have k:cg none a=⟨AE a,Ko,0⟩:=rfl;rw[k,j,h];cases x with
 | normal=>exact e
 | ret=>exact e
 | exit m=>exact e.elim
def aJ {a:Mode} {d:Func} {c:Code} {n:Nat} {rs:List ResultVar} {b:List D} {r:RK×Option Row} (g:d.body=some c) (f:d.ntmps=n) (h:d.results=rs.toArray) (i:dD T Γ n F [.code c] (ZH a T none rs r) .normal (AE b) Ko 0) (e:n<=1000000:=by exact aki rfl):lT a T Γ F d none b=some r:=by
 refine Ud ?_ (by rw[f];exact e);unfold wpf;rw[g,f,h];exact i
def Q3 (r:Row) (i:Nat):nD r i=if i=0 then some r else none:=alM
def HQ {a:Mode} {d:Func} {c:Code} {n:Nat} {rs:List ResultVar} {d0:D} {ty:Nat} {cells:List D} {fz lst:Bool} {b:List D} {r:RK×Option Row} (g:d.body=some c) (f:d.ntmps=n) (h:d.results=rs.toArray)
  (i:dD T Γ n F [.code c] (ZH a T (some (d0,⟨0,ty,cells,fz,lst,false⟩)) rs r) .normal (AE (d0::b)) (nD ⟨0,ty,cells,fz,lst,false⟩) 1) (e:n<=1000000:=by exact aki rfl):lT a T Γ F d (some (d0,⟨0,ty,cells,fz,lst,false⟩)) b=some r:=by
 refine Ud ?_ (by rw[f];exact e);unfold wpf;rw[g,f,h];exact i
end
section
variable {h:Nat->Option Row} {k x o v ty fz' nv s n e:Nat} {cs xs:List D} {fz lst:Bool}
def Yg (a:k<2000000):EH h k=(h k).map (Er k):=tU (by rw[cK];exact a)
def acZ (a:x<1000000):EH h (NK x o)=(h x).bind fun r=>s8 r o:=tT (by rw[cK];exact a)
def KQ:Er k ⟨v,ty,cs,fz,lst,false⟩=⟨v,ty,cs,fz,lst,false⟩:=alM
def VY {a:List dx} : Er k ⟨v,ty,[.mpc a xs],fz,lst,true⟩=⟨v,ty,[.mpc a xs],fz,lst,true⟩:=alM
def aaM {t:Nat} : Er k ⟨v,ty,[.nr t s nv cs],fz,lst,true⟩=⟨v,ty,cs.mapIdx (su k s),fz,lst,true⟩:=alM
def Qb {t:Nat} : s8 ⟨v,ty,[.nr t s nv cs],fz,lst,true⟩ o=Gy t nv fz (cs.drop o).head?:=alM
def Qa:Gy ty nv fz (some (.nx n xs))=some ⟨nv,ty,xs,fz,true,false⟩:=alM
def adQ (a:x<1000000):rt (NK x o)=x:=wc (by rw[cK];exact a)
def JU:lR h []=[]:=alM
def JT {r:Option Row} {l:List (Nat×Option Row)} (a:k<2000000):lR h ((k,r)::l)=(k,Ij r)::lR (b6 h k (Ij r)) l:=by
 have b:rt k=k:=je (by rw[cK];exact a);have c:Bl h k r=Ij r:=if_pos (by rw[cK];exact a);simp only[lR,b,c]
def OQ {r:Option Row} {l:List (Nat×Option Row)} (b:x<1000000):lR h ((NK x o,r)::l)=(x,(h x).map (Ha o r))::lR (b6 h x ((h x).map (Ha o r))) l:=by
 have a:x<PK:=by rw[cK];exact b
 have c:rt (NK x o)=x:=wc a;have d:Bl h (NK x o) r=(h x).map (Ha o r):=by
  unfold Bl;rw[if_neg (by have:=fJ x o;omega),uT o a,EE o a]
 simp only[lR,c,d]
def Kn:Ij none=none:=alM
def Gz:Ij (some ⟨v,ty,cs,fz,lst,false⟩)=some ⟨v,ty,cs,fz,lst,false⟩:=alM
def Qd {a:List dx} : Ij (some ⟨v,ty,[.mpc a xs],fz,lst,true⟩)=some ⟨v,ty,[.mpc a xs],fz,lst,true⟩:=alM
def VR {t:Nat} {r:Option Row} : Ha o r ⟨v,ty,[.nr t s nv cs],fz,lst,true⟩=⟨v,ty,Hs t s nv fz cs o r (cs.drop o).head?,fz,lst,true⟩:=alM
def VX {t b:Nat} {a:List D} : Hs t s nv fz cs o (some ⟨b,t,a,fz,true,false⟩) (some (.nx n xs))=if b=nv then [.nr t s nv (putCells cs o [.nx n a])] else [.nr t s nv (putCells cs o [.und])]:=by
 by_cases c:b=nv<;>simp[Hs,QO,c]
def lvN (x v:Nat):Option Row->Option (Row×Nat×Nat×Nat×List D)
 | some r=>if r.v=v∧r.fz=false∧r.mp=true∧x<1000000 then nrO r r.cells else none
 | none=>none
def PJ:gq h x v=lvN x v (h x):=by
 unfold gq lvN;rw[cK];cases h x<;>rfl
def aaf {t:Nat} (a:x<1000000):lvN x v (some ⟨v,ty,[.nr t s nv cs],false,lst,true⟩)=some (⟨v,ty,[.nr t s nv cs],false,lst,true⟩,t,s,nv,cs):=by
 simp only[lvN,true_and,a,and_self,if_true,nrO]
def aeo (τ:Ty) (x o:Nat):Option (Row×Nat×Nat×Nat×List D)->Option ca
 | some (r,ty,s,nv,cs)=>Me τ x s nv o cs (cs.drop o).head?
 | none=>none
def Vs {τ:Ty} : rN τ h (.ptr x v o)=aeo τ x o (gq h x v):=by
 simp only[rN,aeo]<;>cases gq h x v<;>rfl
def J1 {τ:Ty} {r:Row} {t:Nat} : aeo τ x o (some (r,t,s,nv,cs))=Me τ x s nv o cs (cs.drop o).head?:=alM
def Vq {a:Ds} {b:Nat} {z:List Value} {q:Bool} : Me ⟨a,1,b,z,q⟩ x s nv o cs (some (.nx n xs))=if a.uk=false then some ⟨.buf (NK x o) nv s 0 n,[]⟩ else none:=by
 simp only[Me,true_and]
def acg (τ:Ty) (o:Nat) (cs:List D):Option ca :=
 if o+τ.size<=cs.length∧((cs.drop o).take τ.size).all fA=true then okD (kU τ ((cs.drop o).take τ.size)) else none
def PC {τ:Ty} {a:IntKind} {i:Int} : Me τ x s nv o cs (some (.int a i))=acg τ o cs:=alM
def Vr {τ:Ty} {a b:Bool} : Me τ x s nv o cs (some (.sl a b n xs))=acg τ o cs:=alM
def acP (τ:Ty) (e:Nat) (h:Nat->Option Row) (x o:Nat) (d:D):Option (Row×Nat×Nat×Nat×List D)->Option ca
 | some (r,ty,s,nv,cs)=>if o+τ.size<=cs.length∧0<τ.size then Iw τ e h x r ty s nv cs o d else none
 | none=>none
def V4 {τ:Ty} {d:D} : oO τ e h (.ptr x v o) d=acP τ e h x o d (gq h x v):=by
 simp only[oO,acP]<;>cases gq h x v<;>rfl
def KY {a:Ds} {m b:Nat} {z:List Value} {q:Bool} {d:D} {r:Row} {t:Nat} (c:0<m) (f:o+m<=cs.length):acP ⟨a,m,b,z,q⟩ e h x o d (some (r,t,s,nv,cs))=Iw ⟨a,m,b,z,q⟩ e h x r t s nv cs o d:=by
 simp only[acP,c,f,and_self,if_true]
def aeQ (x:Nat) (r:Row) (ty s:Nat) (cs:List D) (o y n:Nat) (b:Option Nat):Option Row->Option ca
 | some q=>if q.fz=false∧q.lst=true∧q.ty=ty∧q.cells.length=n*s then CN x r ty s cs o y n q b else none
 | none=>none
def KZ {c:Ds} {b y a:Nat} {z:List Value} {q:Bool} {r:Row} {t:Nat} (d:y<1000000):Iw ⟨c,1,b,z,q⟩ e h x r t s nv cs o (.buf y a s 0 n)=aeQ x r t s cs o y n (bump nv e) (live h y a):=by
 have f:¬y=NK x o:=by have:=fJ x o;rw[cK]at this;omega
 have g:y<PK:=by rw[cK];exact d
 simp only[Iw,and_self,if_true,f,if_false,g]<;>cases live h y a<;>rfl
def KX {r q:Row} {t a y:Nat} (b:q.fz=false∧q.lst=true∧q.ty=t∧q.cells.length=n*s):aeQ x r t s cs o y n (some a) (some q)=some ⟨.und,[(y,none),(x,some ⟨r.v,r.ty,[.nr t s a (putCells cs o [.nx n q.cells])],false,r.lst,true⟩)]⟩:=by
 simp only[aeQ,b,and_self,if_true,CN]
def Ru {τ:Ty} {r:Row} {t:Nat} : Iw τ e h x r t s nv cs o (.agg xs)=MU τ x r t s nv cs o (some xs):=alM
def K6 {τ:Ty} {r:Row} {t:Nat} {a:List D} : MU τ x r t s nv cs o (some a)=if a.length=τ.size∧a.all fA=true then some ⟨.und,[(x,some ⟨r.v,r.ty,[.nr t s nv (putCells cs o (a.map canon))],false,r.lst,true⟩)]⟩ else none:=alM
def kG (a:nv<=4*e):bump nv e=some (4*e+1):=if_pos a
def YO (a:nv=4*e+2):bump nv e=some (4*e+3):=by unfold bump;rw[if_neg (by omega),if_pos a]
def QL {E:ca} {y:Option ca} : orE (some E) y=some E:=alM
def QK {y:Option ca} : orE none y=y:=alM
def Z3 (τ:Ty) (x o:Nat):Option (Row×Nat×Nat×Nat×List D)->Option ca
 | some (r,ty,s,nv,cs)=>if r.lst=false∧o=0∧cs.length=τ.size∧1<τ.size∧cs.all (tR s)=true then S7 x r ty s nv (nF τ.size 0 cs) (kU τ (cs.map y4)) else none
 | none=>none
def Vp {τ:Ty} : w8 τ h (.ptr x v o)=orE (Z3 τ x o (gq h x v)) (rN τ h (.ptr x v o)):=by
 simp only[w8,rM]<;>cases gq h x v<;>rfl
def Z4 {τ:Ty} {a ty:Nat} {cells:List D} {fz mp:Bool} {t:Nat} : Z3 τ x o (some (⟨a,ty,cells,fz,true,mp⟩,t,s,nv,cs))=none:=by simp[Z3]
def Z5 {τ:Ty} {a ty:Nat} {cells:List D} {fz mp:Bool} {t:Nat} : Z3 τ x o (some (⟨a,ty,cells,fz,false,mp⟩,t,s,nv,cs))=if o=0∧cs.length=τ.size∧1<τ.size∧cs.all (tR s)=true then S7 x ⟨a,ty,cells,fz,false,mp⟩ t s nv (nF τ.size 0 cs) (kU τ (cs.map y4)) else none:=by
 simp only[Z3,true_and]
def J0 {r:Row} {t:Nat} {d:D} : S7 x r t s nv cs (some d)=some ⟨d,[(x,some ⟨r.v,r.ty,[.nr t s nv cs],false,r.lst,true⟩)]⟩:=alM
def aaU (τ:Ty) (e x o:Nat) (d:D):Option (Row×Nat×Nat×Nat×List D)->Option ca
 | some (r,ty,s,nv,cs)=>if r.lst=false∧o=0∧cs.length=τ.size then TJ τ.size e x r ty s nv cs d else none
 | none=>none
def V1 {τ:Ty} {d:D} : xa τ e h (.ptr x v o) d=orE (aaU τ e x o d (gq h x v)) (oO τ e h (.ptr x v o) d):=by
 simp only[xa,rQ]<;>cases gq h x v<;>rfl
def aaV {τ:Ty} {d:D} {a ty:Nat} {cells:List D} {fz mp:Bool} {t:Nat} : aaU τ e x o d (some (⟨a,ty,cells,fz,true,mp⟩,t,s,nv,cs))=none:=by simp[aaU]
def aaW {τ:Ty} {d:D} {a ty:Nat} {cells:List D} {fz mp:Bool} {t:Nat} : aaU τ e x o d (some (⟨a,ty,cells,fz,false,mp⟩,t,s,nv,cs))=if o=0∧cs.length=τ.size then TJ τ.size e x ⟨a,ty,cells,fz,false,mp⟩ t s nv cs d else none:=by
 simp only[aaU,true_and]
def Rx {a t:Nat} {r:Row} : TJ a e x r t s nv cs (.agg xs)=if xs.length=a then stZ x r t s (bump nv e) (uF cs xs) else none:=alM
def Rw {r:Row} {t a:Nat} {b:List D} : stZ x r t s (some a) (some b)=some ⟨.und,[(x,some ⟨r.v,r.ty,[.nr t s a b],false,r.lst,true⟩)]⟩:=alM
def ahf:Option D->Option (List D)->Option (List D)
 | some y,some a=>some (y::a)
 | _,_=>none
def Lg {y:D} {a:List D} : ahf (some y) (some a)=some (y::a):=alM
def Lh:uF [] []=some []:=alM
def HU {c x:D} {cs xs:List D} : uF (c::cs) (x::xs)=ahf (RX c x) (uF cs xs):=by
 simp only[uF];cases RX c x<;>cases uF cs xs<;>rfl
def Wu:RX (.nx n xs) (.sl true true 0 [])=some (.nx 0 []):=alM
def Wt {k a:IntKind} {i j:Int} : RX (.int k i) (.int a j)=some (.int a j):=alM
def RU {a b:D} : nF 2 0 [a,b]=[y4 a,y4 b]:=alM
def Wm {k:IntKind} {i:Int} : y4 (.int k i)=.int k i:=alM
def abl:y4 (.nx n xs)=.sl false false n xs:=alM
def VL {k:IntKind} {i:Int} : tR s (.int k i)=true:=alM
def aau:tR s (.nx n xs)=(xs.length==n*s):=alM
end
section
variable {Γ:Env} {g d:Nat} {p:Nat×Nat×Nat}
def Vc {f:Nat} {l:Bool} {G:Option (D×Row)->List D->Option (RK×Option Row)} : (Am.ext Γ f l G).nst g=Γ.nst g:=alM
def Pw:(Am.keep d Γ).nst g=Γ.nst g:=alM
def Kj:bf.nst g=none:=alM
def Qp:(Am.wA d p Γ).nst g=if g=d then some p else Γ.nst g:=alM
def GC:(Am.wA d p Γ).lends g=Γ.lends g:=alM
def Qr {l:Option (D×Row)} {aim:List D} : (Am.wA d p Γ).sem g l aim=Γ.sem g l aim:=alM
def Qq:(Am.wA d p Γ).own g=Γ.own g:=alM
def Kr:(Am.wA d p Γ).hint g=Γ.hint g:=alM
def Qo:(Am.wA d p Γ).ins g=Γ.ins g:=alM
def Qn:(Am.wA d p Γ).grw g=Γ.grw g:=alM
def ZJ {f:Nat} {l:Bool} {G:Option (D×Row)->List D->Option (RK×Option Row)} : (Am.ext Γ f l G).nx=Γ.nx:=alM
def Vm:(Am.keep d Γ).nx=Γ.nx:=alM
def Vk {f:Nat} : (Am.Ga f p Γ).nx=Γ.nx:=alM
def VJ:(Am.wA d p Γ).nx=Γ.nx:=alM
def Ki:bf.nx.lnd g=none:=alM
def Kl:bf.nx.res g=none:=alM
end
section
variable {Γ:Env} {g d f:Nat} {p:Nat×(Nat->Nat->Nat->Nat->List D->List D->Option (D×List D))}
def PN:(Am.qJ f p Γ).nx.lnd g=if g=f then some p else Γ.nx.lnd g:=alM
def PR:(Am.qJ f p Γ).nx.res g=Γ.nx.res g:=alM
def Gj:(Am.qJ f p Γ).lends g=Γ.lends g:=alM
def PS {l:Option (D×Row)} {aim:List D} : (Am.qJ f p Γ).sem g l aim=Γ.sem g l aim:=alM
def PQ:(Am.qJ f p Γ).own g=Γ.own g:=alM
def J6:(Am.qJ f p Γ).hint g=Γ.hint g:=alM
def PM:(Am.qJ f p Γ).ins g=Γ.ins g:=alM
def PL:(Am.qJ f p Γ).grw g=Γ.grw g:=alM
def PO:(Am.qJ f p Γ).nst g=Γ.nst g:=alM
end
section
variable {Γ:Env} {g d f:Nat} {p:List D->Option (Nat×Nat×Nat×Nat×Nat×List D)}
def Ql:(Am.Bh f p Γ).nx.res g=if g=f then some p else Γ.nx.res g:=alM
def Qi:(Am.Bh f p Γ).nx.lnd g=Γ.nx.lnd g:=alM
def GB:(Am.Bh f p Γ).lends g=Γ.lends g:=alM
def Qm {l:Option (D×Row)} {aim:List D} : (Am.Bh f p Γ).sem g l aim=Γ.sem g l aim:=alM
def Qk:(Am.Bh f p Γ).own g=Γ.own g:=alM
def Kq:(Am.Bh f p Γ).hint g=Γ.hint g:=alM
def Qh:(Am.Bh f p Γ).ins g=Γ.ins g:=alM
def Qg:(Am.Bh f p Γ).grw g=Γ.grw g:=alM
def Qj:(Am.Bh f p Γ).nst g=Γ.nst g:=alM
end
section
variable {Γ:Env} {h:Nat->Option Row} {e x v o g:Nat} {rest:List D}
def Sk (Γ:Env) (e:Nat) (h:Nat->Option Row) (g x o:Nat) (rest:List D):Option (Row×Nat×Nat×Nat×List D)->Option ca
 | some (r,ty,s,nv,cs)=>E4 e x r ty s nv cs o (Γ.nx.lnd g) (bQ (EH h) rest)
 | none=>none
def I2:ub Γ e h g (.ptr x v o::rest)=Sk Γ e h g x o rest (gq h x v):=by
 simp only[ub,Sk]<;>cases gq h x v<;>rfl
def C8 {r:Row} {ty s nv:Nat} {cs:List D} : Sk Γ e h g x o rest (some (r,ty,s,nv,cs))=E4 e x r ty s nv cs o (Γ.nx.lnd g) (bQ (EH h) rest):=alM
def C6 {r:Row} {ty s nv:Nat} {cs aim:List D} {p:Nat×(Nat->Nat->Nat->Nat->List D->List D->Option (D×List D))} : E4 e x r ty s nv cs o (some p) (some (aim,[]))=Lu x r ty s o p.1 (bump nv e) (p.2 r.ty ty s o cs aim):=alM
def C7 {r:Row} {ty s b k:Nat} {d:D} {a:List D} : Lu x r ty s o k (some b) (some (d,a))=if ((a.drop o).take k).all (tR s)=true then some ⟨d,[(x,some ⟨r.v,r.ty,[.nr ty s b (nF k o a)],false,r.lst,true⟩)]⟩ else none:=alM
end
end Go.Proofs.YtokgehacmjmfkaaGreat.Am
namespace Go.Proofs.YtokgehacmjmfkaaGreat.P
open Go.RowKit
def FU:Nat:=1000000000000000000000000
def qn {σ ρ:Type} (a:σ->Option (σ⊕ρ)):Nat->σ->Option ρ
 | 0,_=>none
 | n+1,s =>
  match a s with
  | some (.inl b)=>qn a n b
  | some (.inr r)=>some r
  | none=>none
def aS {σ ρ:Type} (a:σ->Option (σ⊕ρ)) (s:σ):Option ρ:=qn a FU s
def ZZ {σ ρ:Type} {a:σ->Option (σ⊕ρ)} (I:σ->Prop) (μ:σ->Nat) (Q:ρ->Prop)
  (b:∀s,I s->(∃c,a s=some (.inl c)∧I c∧μ c<μ s)∨(∃r,a s=some (.inr r)∧Q r)):∀(n:Nat) (s:σ),I s->μ s<n->∃r,qn a n s=some r∧Q r:=by
 intro n
 induction n with
 | zero=>intro s _ h;omega
 | succ n f =>
  intro s g k;rcases b s g with⟨c,d,e,l⟩|⟨r,d,e⟩
  ·obtain⟨r,i,j⟩:=f c e (by omega);exact⟨r,by simp only[qn,d];exact i,j⟩
  ·exact⟨r,by simp only[qn,d],e⟩
def sa {σ ρ:Type} {body:σ->Option (σ⊕ρ)} (I:σ->Prop) (μ:σ->Nat) (Q:ρ->Prop) {s:σ} (c:I s) (d:μ s<FU)
  (a:∀s,I s->(∃b,body s=some (.inl b)∧I b∧μ b<μ s)∨(∃r,body s=some (.inr r)∧Q r)):∃r,aS body s=some r∧Q r:=ZZ I μ Q a FU s c d
def idx {α:Type} (l:List α) (i:Int):Option α:=if 0<=i∧i<l.length then l[i.toNat]? else none
def Eg {α:Type} (l:List α) (a b:Int):Option (List α):=if 0<=a∧a<=b∧b<=l.length then some ((l.drop a.toNat).take (b.toNat-a.toNat)) else none
def Gt {α:Type} (bytes:Nat) (n c:Int) (z:α):Option (List α):=if 0<=n∧n<=c∧c<=maxLen∧c.toNat*bytes<=140737488355328 then some (List.replicate n.toNat z) else none
def mK {α:Type} (bytes:Nat) (l m:List α):Option (List α):=if l.length+m.length<=maxLen∧(l.length+m.length)*bytes<=140737488355328 then some (l++m) else none
def ZX {α:Type} (bytes:Nat) (l:List α) (i:Int) (xs:List α):Option (List α):=if 0<=i∧i<=l.length∧0<xs.length∧(l.length+xs.length)*bytes<=140737488355328 then some (l.take i.toNat++(xs++l.drop i.toNat)) else none
def Y4 {α:Type} (l:List α) (i j:Int):Option (List α):=if 0<=i∧i<=j∧j<=l.length∧l.length<=maxLen then some (l.take i.toNat++l.drop j.toNat) else none
def QI {α:Type} (x:Bool×α):Option α:=if x.1=true then none else some x.2
def Rm {α:Type} (x:Bool×α):Option α:=if x.1=true then some x.2 else none
def JO {α:Type} (l:List α):List (Bool×α):=l.map fun x=>(false,x)
def BR (k:IntKind) (x y:Int):Option Int:=if y=0 then none else some (k.wrap (x.tdiv y))
def Gw (_:IntKind) (x y:Int):Option Int:=if y=0 then none else some (x.tmod y)
def Iu (k:IntKind) (x y:Int):Option Int:=if y<0 then none else some (k.wrap (x*2 ^ (min y.toNat k.bits)))
def Aq (k:IntKind) (x y:Int):Option Int:=if y<0 then none else some (x.fdiv (2 ^ (min y.toNat k.bits)))
def ma (op:BinOp) (k:IntKind) (x y:Int):Int :=
 let a:=BitVec.ofInt k.bits x
 let b:=BitVec.ofInt k.bits y
 match op with
 | .and=>k.wrap (a &&& b).toNat
 | .or=>k.wrap (a ||| b).toNat
 | .xor=>k.wrap (a ^^^ b).toNat
 | _=>k.wrap (a &&& ~~~b).toNat
def fS {κ α:Type} [DecidableEq κ] (z:α):List (κ×α)->κ->α
 | [],_=>z
 | (k,v)::m,n=>if k=n then v else fS z m n
def nS {κ α:Type} [DecidableEq κ]:List (κ×α)->κ->Bool
 | [],_=>false
 | (k,_)::m,n=>k==n||nS m n
def sj {κ α:Type} [DecidableEq κ]:List (κ×α)->κ->α->List (κ×α)
 | [],n,v=>[(n,v)]
 | (k,x)::m,n,v=>if k=n then (k,v)::m else (k,x)::sj m n v
def qp (l:List Int):List Int:=l.mergeSort fun x y=>decide (x<=y)
def rm (l:List Int):(qp l).length=l.length:=List.length_mergeSort l
def KR:qp []=[]:=by simp[qp]
def ah {α β:Type} {o:Option α} {f:α->Option β} {r:β} (h:o.bind f=some r):∃a,o=some a∧f a=some r:=by
 cases o with
 | none=>cases h
 | some a=>exact⟨a,rfl,h⟩
def afH {α:Type} {b:Bool} {x y r:α} (a:b=true) (h:(if b=true then x else y)=r):x=r:=by rw[if_pos a]at h;exact h
def afG {α:Type} {b:Bool} {x y r:α} (a:b=false) (h:(if b=true then x else y)=r):y=r:=by rw[a]at h;simpa using h
def ai {a b:Prop} (x:a) (y:b):a∧b:=⟨x,y⟩
def sp {α:Type} {b:Bool} {P1 P2 Q:Prop} {x y r:α} (k:(b=true->P1)->(b=false->P2)->Q) (h:(if b=true then x else y)=r) (h1:b=true->x=r->P1) (h2:b=false->y=r->P2):Q:=k (fun a=>h1 a (afH a h)) fun a=>h2 a (afG a h)
end Go.Proofs.YtokgehacmjmfkaaGreat.P
namespace Go.Proofs.YtokgehacmjmfkaaGreat.Am
open Go.RowKit P
structure iF (α:Type) where
 cells:α->List D
 size:Nat
 len:∀x,(cells x).length=size
 pos:0<size
 inj:∀x y,cells x=cells y->x=y
def ae {α:Type} (e:iF α):List α->List D
 | []=>[]
 | x::l=>e.cells x++ae e l
section
variable {α β:Type} (e:iF α)
def OD:ae e []=[]:=rfl
def bk (x:α) (l:List α):ae e (x::l)=e.cells x++ae e l:=rfl
def gQ:∀l m:List α,ae e (l++m)=ae e l++ae e m
 | [],m=>rfl
 | x::l,m=>by rw[aks,bk,bk,gQ l m,ajP]
def bA:∀l:List α,(ae e l).length=l.length*e.size
 | []=>by simp[ae]
 | x::l=>by rw[bk,ajB,bA l,e.len,aiR,ajp];omega
def oP:∀(l:List α) (i:Nat),(ae e l).drop (i*e.size)=ae e (l.drop i)
 | l,0=>by simp
 | [],i+1=>by simp[ae]
 | x::l,i+1=>by
  rw[bk,akt,<- oP l i,akj,e.len,akk (by rw[e.len,ajp];omega),akh];congr 1;rw[ajp];omega
def lr:∀(l:List α) (i:Nat),(ae e l).take (i*e.size)=ae e (l.take i)
 | l,0=>by simp[ae]
 | [],i+1=>by simp[ae]
 | x::l,i+1=>by
  rw[bk,aku,bk,ajS,e.len,ajU (by rw[e.len,ajp];omega),<- lr l i];congr 2;rw[ajp];omega
def xb:∀l m:List α,ae e l=ae e m->l=m
 | [],[],_=>rfl
 | [],y::m,h=>by
  have:=congrArg List.length h;have a:=e.pos;rw[bk,ajB,e.len]at this;simp[ae]at this;omega
 | x::l,[],h=>by
  have:=congrArg List.length h;have a:=e.pos;rw[bk,ajB,e.len]at this;simp[ae]at this;omega
 | x::l,y::m,h=>by
  rw[bk,bk]at h;obtain⟨b,c⟩:=akv h (by rw[e.len,e.len]);rw[e.inj _ _ b,xb l m c]
def OE:∀(n:Nat) (x:α),oY n (e.cells x)=ae e (List.replicate n x)
 | 0,x=>by simp[oY,ae]
 | n+1,x=>by rw[ajn,bk,<- OE n x];simp[oY,List.replicate_succ]
end
def eI (k:IntKind):iF Int:=⟨fun n=>[.int k n],1,fun _=>rfl,by decide,fun x y h=>by simpa using h⟩
def aec:iF ByteArray:=⟨fun n=>[.str n],1,fun _=>rfl,by decide,fun x y h=>by simpa using h⟩
def nM {α:Type} (e:iF α):iF (List α):=⟨fun l=>[.sl false false l.length (ae e l)],1,fun _=>rfl,by decide,fun x y h=>by
 simp only[aiP,D.sl.injEq,true_and,and_true]at h;exact xb e _ _ h.2⟩
def nc {α β:Type} (e:iF α) (f:iF β):iF (α×β):=⟨fun x=>e.cells x.1++f.cells x.2,e.size+f.size,fun x=>by rw[ajB,e.len,f.len],aiu e.pos (Nat.le_add_right _ _),fun x y h=>by
 obtain⟨a,b⟩:=akv h (by rw[e.len,e.len]);exact Prod.ext (e.inj _ _ a) (f.inj _ _ b)⟩
def A0 {α β:Type} (e:iF β) (f:α->β) (hf:∀x y,f x=f y->x=y):iF α:=⟨fun x=>e.cells (f x),e.size,fun x=>e.len _,e.pos,fun x y h=>hf _ _ (e.inj _ _ h)⟩
structure Arg (α:Type) where
 d:α->D
 inj:∀x y,d x=d y->x=y
def aI (k:IntKind):Arg Int:=⟨fun n =>.int k n,fun x y h=>by simpa using h⟩
def ac8:Arg Bool:=⟨fun n =>.bool n,fun x y h=>by simpa using h⟩
def jZ {α:Type} (e:iF α):Arg (List α):=⟨fun l =>.sl false false l.length (ae e l),fun x y h=>by
 simp only[D.sl.injEq,true_and]at h;exact xb e _ _ h.2⟩
def bJ {α:Type} (e:iF α):Arg α:=⟨fun x =>.agg (e.cells x),fun x y h=>e.inj _ _ (by simpa using h)⟩
def afo (k:IntKind) (n:Int):(aI k).d n=.int k n:=alM
def Ux (n:Bool):ac8.d n=.bool n:=alM
def adb {α:Type} (e:iF α) (l:List α):(jZ e).d l=.sl false false l.length (ae e l):=alM
def Yu {α:Type} (e:iF α) (x:α):(bJ e).d x=.agg (e.cells x):=alM
def AV (k:IntKind) (n:Int):(eI k).cells n=[.int k n]:=alM
def BV {α:Type} (e:iF α) (l:List α):(nM e).cells l=[.sl false false l.length (ae e l)]:=alM
structure jH (α:Type) where
 ds:α->List D
 inj:∀x y,ds x=ds y->x=y
def as0:jH Unit:=⟨fun _=>[],fun _ _ _=>rfl⟩
def dy {α:Type} (a:Arg α):jH α:=⟨fun x=>[a.d x],fun x y h=>a.inj _ _ (by simpa using h)⟩
def fK {α β:Type} (a:Arg α) (b:jH β):jH (α×β):=⟨fun x=>a.d x.1::b.ds x.2,fun x y h=>by
 simp only[aiP]at h;exact Prod.ext (a.inj _ _ h.1) (b.inj _ _ h.2)⟩
def dN {α β:Type} (A:jH α) (F:α->Option β) (R:β->RK):Option (D×Row)->List D->Option (RK×Option Row):=fun lent b =>
 match lent with
 | none=>open Classical in if h:∃a,A.ds a=b then (F (Classical.choose h)).map fun r=>(R r,none) else none
 | some _=>none
def cn {α β:Type} (A:jH α) (F:α->Option β) (R:β->RK) (a:α):dN A F R none (A.ds a)=(F a).map fun r=>(R r,none):=by
 have h:∃b,A.ds b=A.ds a:=⟨a,rfl⟩;simp only[dN];rw[dif_pos h,A.inj _ _ (Classical.choose_spec h)]
def sb {α β:Type} {A:jH α} {F:α->Option β} {R:β->RK} {lent:Option (D×Row)} {c:List D} {d:RK} {b:Option Row} (h:dN A F R lent c=some (d,b)):lent=none∧b=none∧∃a r,c=A.ds a∧F a=some r∧d=R r:=by
 unfold dN at h;split at h
 ·split at h
  ·rename_i f;rw[aip]at h;obtain⟨r,g,e⟩:=h;simp only[Prod.mk.injEq]at e;obtain⟨rfl,rfl⟩:=e;exact⟨rfl,rfl,_,r,(Classical.choose_spec f).symm,g,rfl⟩
  ·cases h
 ·cases h
structure bZ (P:Program) (f:FuncId) (G:Option (D×Row)->List D->Option (RK×Option Row)):Prop where
 calls:∀lent aim rk out,G lent aim=some (rk,out)->rp P f lent aim rk out
 callable:eD P f
def bZ.of {P:Program} {T:Nat->Option Ty} {Γ:Env} (i:ji P T) (j:bI P Γ) (k:P.follows .mixedOrders=true) {α β:Type} {A:jH α} {F:α->Option β} {R:β->RK} {d:Mode} {f:FuncId} {b:Func} (g:P.funcs[f]? = some b) (e:(match b.body with|some c=>codeOk c|none=>true)=true)
  (l:(b.name == "runtime.NumGoroutine")=false∧b.body.isNone=false) (m:∀a,(A.ds a).length<=b.ntmps) (h:∀a r,F a=some r->lT d T Γ FU b none (A.ds a)=some (R r,none)):bZ P f (dN A F R) where
 calls lent aim rk out n:=by
  obtain⟨rfl,rfl,a,r,rfl,o,rfl⟩:=sb n;exact lk i j k g e (m a) rfl (h a r o)
 callable:=⟨b,g,l⟩
def bI.add {P:Program} {Γ:Env} (a:bI P Γ) {f:Nat} {G:Option (D×Row)->List D->Option (RK×Option Row)} (h:bZ P f G) (l:Bool):bI P (Am.ext Γ f l G):=a.ext h.calls h.callable
section
variable {T:Nat->Option Ty} {Γ:Env} {N e:Nat} {ws:List W} {Q:Kt} {t:Nat->D} {h:Nat->Option Row}
def LK {σ ρ:Type} (b:σ->(Nat->D)->(Nat->Option Row)->Nat->Prop) (a:ρ->Ex->(Nat->D)->(Nat->Option Row)->Nat->Prop) (c:σ⊕ρ):Kt:=fun x t h e =>
 match x with
 | .normal=>∃d,c=.inl d∧b d t h e
 | x=>∃o,c=.inr o∧a o x t h e
def iG {σ ρ:Type} {a:σ->(Nat->D)->(Nat->Option Row)->Nat->Prop} {b:ρ->Ex->(Nat->D)->(Nat->Option Row)->Nat->Prop} {c:σ} (k:a c t h e):LK a b (.inl c) .normal t h e:=⟨c,rfl,k⟩
def jG {σ ρ:Type} {b:σ->(Nat->D)->(Nat->Option Row)->Nat->Prop} {a:ρ->Ex->(Nat->D)->(Nat->Option Row)->Nat->Prop} {o:ρ} {n:Nat} (k:a o (.exit n) t h e):LK b a (.inr o) (.exit n) t h e:=⟨o,rfl,k⟩
def tQ {σ ρ:Type} {b:σ->(Nat->D)->(Nat->Option Row)->Nat->Prop} {a:ρ->Ex->(Nat->D)->(Nat->Option Row)->Nat->Prop} {o:ρ} (k:a o .ret t h e):LK b a (.inr o) .ret t h e:=⟨o,rfl,k⟩
def aA {σ ρ:Type} {a:σ->Option (σ⊕ρ)} {b:Code} (d:σ->(Nat->D)->(Nat->Option Row)->Nat->Prop) (f:ρ->Ex->(Nat->D)->(Nat->Option Row)->Nat->Prop) {q:σ} {j:ρ} (w:aS a q=some j) (y:d q t h e)
  (k:∀s t h e,d s t h e->∀c,a s=some c->dD T Γ N FU [.code b] (LK d f c) .normal t h e)
  (g:∀x t h e,f j x t h e->dD T Γ N FU ws Q x t h e):VV T Γ N FU b ws Q t h e:=by
 have key:∀(n:Nat) (s:σ) (t:Nat->D) (h:Nat->Option Row) (e:Nat),d s t h e->qn a n s=some j->∃x l,iter (gD T Γ N FU b) n ⟨t,h,e⟩=some (x,l)∧dD T Γ N FU ws Q x l.t l.h l.e:=by
  intro n
  induction n with
  | zero=>intro s t h e _ i;cases i
  | succ n z =>
   intro s t h e A i;simp only[qn]at i;cases r:a s with
   | none=>rw[r]at i;cases i
   | some c =>
    rw[r]at i;obtain⟨x,u,B,v⟩:=CU _ _ _ _ _ (show Nf T Γ N FU b t h e (LK d f c) from k s t h e A c r);simp only[iter,B];cases x with
    | normal =>
     obtain⟨l,rfl,p⟩:=v;exact z l u.t u.h u.e p i
    | exit m =>
     obtain⟨o,rfl,p⟩:=v;simp only[aiA]at i;subst i;exact⟨_,_,rfl,g _ _ _ _ p⟩
    | ret =>
     obtain⟨o,rfl,p⟩:=v;simp only[aiA]at i;subst i;exact⟨_,_,rfl,g _ _ _ _ p⟩
 exact key FU q t h e y w
def BB {d:D} {g:Nat} {A B A' B':(Nat->D)->Prop} (a:Ub d t g A B) (h1:∀t,A t->A' t) (h2:∀t,B t->B' t):Ub d t g A' B':=by
 cases d with
 | bool b=>exact⟨fun c=>h1 _ (a.1 c),fun c=>h2 _ (a.2 c)⟩
 | _=>exact a
def HR {d:D} {g:Nat} {A B S A' B' S':(Nat->D)->Prop} (a:wpS d t g A B S) (b:∀t,A t->A' t) (c:∀t,B t->B' t) (e:∀t,S t->S' t):wpS d t g A' B' S':=by
 unfold wpS at a ⊢;split at a
 ·exact e _ a
 ·exact BB a b c
def GG {α:Type} {x:Option α} {K K':α->Prop} (b:ur x K) (c:∀a,K a->K' a):ur x K':=by
 cases x with
 | none=>exact b
 | some a=>exact c a b
def RW {ops:List Oper} {gd:Option (Nat×Bool)} {A B A' B':(Nat->D)->Prop} (b:wpG ops t gd A B) (c:∀t,A t->A' t) (d:∀t,B t->B' t):wpG ops t gd A' B':=by
 unfold wpG at b ⊢;split
 ·exact c _ b
 ·rename_i j a;refine GG b fun g e=>HR e ?_ ?_ d
  ·intro t f;cases a<;>simp_all
  ·intro t f;cases a<;>simp_all
def BD {o:Oper} {K K':(Nat->D)->ca->Prop} (d:RV T Γ e o t h K) (h1:∀t E,K t E->K' t E):RV T Γ e o t h K':=by
 unfold RV at d ⊢;split
 ·rename_i f;rw[f]at d;exact BB d (fun _ h=>h1 _ _ h) (fun _ h=>h1 _ _ h)
 ·rename_i g;split at d
  ·rename_i c a b f;exact absurd f (g _ _ _)
  ·exact GG d (fun _ h=>h1 _ _ h)
def yM {ops:List Oper} {K K':(Nat->D)->(Nat->Option Row)->Prop} (h1:∀t h,K t h->K' t h):∀(l:List Oper) (t:Nat->D) (h:Nat->Option Row),Hn T Γ N e ops l t h K->Hn T Γ N e ops l t h K'
 | [],t,h,hk=>h1 _ _ hk
 | o::l,t,h,hk=>by
  unfold Hn at hk ⊢;exact⟨hk.1,RW hk.2 (fun t a=>BD a fun t E b=>yM h1 l _ _ b) (fun t a=>yM h1 l _ _ a)⟩
def yJ {ops:List Oper} {K K':(Nat->D)->(Nat->Option Row)->List lU->Prop} (h1:∀t h fs,K t h fs->K' t h fs):∀(l:List Oper) (t:Nat->D) (h:Nat->Option Row) (fs:List lU),runK T Γ N e ops l t h fs K->runK T Γ N e ops l t h fs K'
 | [],t,h,fs,hk=>h1 _ _ _ hk
 | o::l,t,h,fs,hk=>by
  unfold runK at hk ⊢;exact⟨hk.1,RW hk.2 (fun t a=>BD a fun t E b=>yJ h1 l _ _ _ b) (fun t a=>yJ h1 l _ _ _ a)⟩
def abz {ops:Array Oper} {a:Bool} {K K':(Nat->D)->(Nat->Option Row)->Prop} (b:wpR T Γ N ops a t h e K) (c:∀t h,K t h->K' t h):wpR T Γ N ops a t h e K':=by
 unfold wpR at b ⊢;cases a with
 | true=>exact yJ (fun t h fs d=>⟨d.1,c _ _ d.2⟩) _ _ _ _ b
 | false=>exact yM c _ _ _ b
def X7 {F:Nat} : ∀(c:Code) (t:Nat->D) (h:Nat->Option Row) (e:Nat) (K K':Kt),Nf T Γ N F c t h e K->(∀x t h e,K x t h e->K' x t h e)->Nf T Γ N F c t h e K':=by
 intro c
 induction c with
 | skip=>intro t h e K K' d hm;exact hm _ _ _ _ d
 | region i ops draw=>intro t h e K K' d hm;exact abz d fun t h p=>hm _ _ _ _ p
 | seq a b j k =>
  intro t h e K K' d hm;refine j _ _ _ _ _ d fun x t h e f =>?_;cases x with
  | normal=>exact k _ _ _ _ _ f hm
  | exit n=>exact hm _ _ _ _ f
  | ret=>exact hm _ _ _ _ f
 | cond c x y ihx ihy =>
  intro t h e K K' d hm;unfold Nf at d ⊢;cases c with
  | tmp g=>exact BB d (fun t l=>ihx _ _ _ _ _ l hm) (fun t l=>ihy _ _ _ _ _ l hm)
  | const v =>
   cases v with
   | bool b =>
    cases b with
    | true=>exact ihx _ _ _ _ _ d hm
    | false=>exact ihy _ _ _ _ _ d hm
   | _=>exact d
  | _=>exact d
 | block id b o =>
  intro t h e K K' d hm;refine o _ _ _ _ _ d fun x t h e f =>?_;cases x with
  | normal=>exact hm _ _ _ _ f
  | ret=>exact hm _ _ _ _ f
  | exit n =>
   unfold YL at f ⊢;simp only at f ⊢;split at f
   ·rename_i m;rw[if_pos m];exact hm _ _ _ _ f
   ·rename_i m;rw[if_neg m];exact hm _ _ _ _ f
 | loop b o =>
  intro t h e K K' d hm;obtain⟨x,s,q,r⟩:=d;exact⟨x,s,q,hm _ _ _ _ r⟩
 | exit id=>intro t h e K K' d hm;exact hm _ _ _ _ d
 | ret=>intro t h e K K' d hm;exact hm _ _ _ _ d
 | _=>intro t h e K K' d;exact d.elim
def CK {σ:Type} (J:σ->(Nat->D)->(Nat->Option Row)->Nat->Prop) (P:σ->Prop) (R:Kt):Kt:=fun x t h e =>
 match x with
 | .normal=>∃s,P s∧J s t h e
 | x=>R x t h e
def aw {σ:Type} {J:σ->(Nat->D)->(Nat->Option Row)->Nat->Prop} {P:σ->Prop} {R:Kt} : CK J P R .normal t h e = ∃s,P s∧J s t h e:=alM
end
section
variable {h:Nat->Option Row}
def I4 {k:IntKind} {n:Int} : canon (.int k n)=.int k n:=alM
def NQ {a b:Bool} {n:Nat} {xs:List D} : canon (.sl a b n xs)=.sl false false n xs:=alM
def E5 {xs:List D} : jw (.agg xs)=.agg (xs.map canon):=alM
def clB (x s o n:Nat):Option Row->Option (D×List Nat)
 | some r=>if o+n*s<=r.cells.length then some (.sl false false n ((r.cells.drop o).take (n*s)),[x]) else none
 | none=>none
def NX {x s o n:Nat} {r:Row} : clB x s o n (some r)=if o+n*s<=r.cells.length then some (.sl false false n ((r.cells.drop o).take (n*s)),[x]) else none:=alM
def clP (x o:Nat):Option Row->Option (D×List Nat)
 | some r=>if o<=r.cells.length then some (.ip (r.cells.drop o),[x]) else none
 | none=>none
def N1 {x o:Nat} {r:Row} : clP x o (some r)=if o<=r.cells.length then some (.ip (r.cells.drop o),[x]) else none:=alM
def NV {k:IntKind} {n:Int} : ch h (.int k n)=some (.int k n,[]):=alM
def I6 {b:Bool} : ch h (.bool b)=some (.bool b,[]):=alM
def UO {a b:Bool} {n:Nat} {xs:List D} : ch h (.sl a b n xs)=some (.sl false false n xs,[]):=alM
def NS {xs:List D} : ch h (.agg xs)=some (.agg (xs.map canon),[]):=alM
def UN {xs:List D} : ch h (.ip xs)=some (.ip xs,[]):=alM
def UM {f:Nat} : ch h (.fn f)=some (.fn f,[]):=alM
def NT {x v s o n:Nat} : ch h (.buf x v s o n)=clB x s o n (live h x v):=by
 simp only[ch,bF,dU];cases live h x v with
 | none=>rfl
 | some r=>by_cases a:o+n*s<=r.cells.length<;>simp[clB,a,canon]
def NW {x v o:Nat} : ch h (.ptr x v o)=clP x o (live h x v):=by
 simp only[ch,bF];cases live h x v with
 | none=>rfl
 | some r=>simp only[clP]
def Y3 {k:IntKind} {n:Int} : gx h (.int k n)=some ([.int k n],[]):=alM
def adh {a b:Bool} {n:Nat} {xs:List D} : gx h (.sl a b n xs)=some ([.sl a b n xs],[]):=alM
def Y1 {xs:List D} : gx h (.agg xs)=some (xs,[]):=alM
def cvB:Option (D×List Nat)->Option (List D×List Nat)
 | some (d,fr)=>some ([d],fr)
 | none=>none
def N8 {d:D} {fr:List Nat} : cvB (some (d,fr))=some ([d],fr):=alM
def Y2 {x v s o n:Nat} : gx h (.buf x v s o n)=cvB (clB x s o n (live h x v)):=by
 simp only[gx,dU];cases live h x v with
 | none=>rfl
 | some r=>by_cases a:o+n*s<=r.cells.length<;>simp[clB,cvB,a]
def clF (h:Nat->Option Row):Option (D×List Nat)->Option ca
 | some (d,fr)=>some ⟨d,kb h fr⟩
 | none=>none
def NZ {d:D} {fr:List Nat} : clF h (some (d,fr))=some ⟨d,kb h fr⟩:=alM
def Uy {x v s o n:Nat} : nO h (.buf x v s o n)=clF h (clB x s o n (live h x v)):=by
 simp only[nO,rH,dU];cases live h x v with
 | none=>rfl
 | some r=>by_cases a:o+n*s<=r.cells.length<;>simp[clB,clF,a,canon,jw]
variable {Γ:Env} {f g e:Nat} {l:Bool} {G:Option (D×Row)->List D->Option (RK×Option Row)} {lent:Option (D×Row)} {aim:List D} {dst:Option Nat} {fr:List Nat}
def JK:(Am.ext Γ f l G).lends g=if g=f then l else Γ.lends g:=alM
def Ve:(Am.ext Γ f l G).sem g lent aim=if g=f then G lent aim else Γ.sem g lent aim:=alM
def Vd {d:Nat} : (Am.ext Γ f l G).own d=Γ.own d:=alM
def Kk {d:Nat} : bf.own d=true:=alM
def Px {d i:Nat} : (Am.keep d Γ).own i=(i != d&&Γ.own i):=alM
def Gc {d i:Nat} : (Am.keep d Γ).lends i=Γ.lends i:=alM
def Py {d i:Nat} : (Am.keep d Γ).sem i lent aim=Γ.sem i lent aim:=alM
def D3 (b:Bool) (Γ:Env) (h:Nat->Option Row) (e:Nat) (dst:Option Nat) (g:Nat) (a:List D):Option ca :=
 if b then
  match a with
  | .buf x v s o n::rest=>rG Γ h e dst g x v (.buf 0 0 s o n) rest
  | .ptr x v o::rest=>rG Γ h e dst g x v (.ptr 0 0 o) rest
  | .mp x v::rest=>rG Γ h e dst g x v (.mp 0 0) rest
  | _=>none
 else wN Γ h e dst g a
def abS (p:Option (Nat×Nat×Nat)) (Γ:Env) (h:Nat->Option Row) (e:Nat) (dst:Option Nat) (g:Nat) (a:List D):Option ca :=
 match p with
 | some p=>vY h e dst p a
 | none =>
  match Γ.grw g with
  | some p=>y6 h p a
  | none=>D3 (Γ.lends g) Γ h e dst g a
def afw (p:Option Grow) (Γ:Env) (h:Nat->Option Row) (e:Nat) (dst:Option Nat) (g:Nat) (a:List D):Option ca :=
 match p with
 | some p=>y6 h p a
 | none=>D3 (Γ.lends g) Γ h e dst g a
def IX {a:List D} : abS none Γ h e dst g a=afw (Γ.grw g) Γ h e dst g a:=alM
def IW {a:List D} : afw none Γ h e dst g a=D3 (Γ.lends g) Γ h e dst g a:=alM
def Va {f:Nat} {l:Bool} {G:Option (D×Row)->List D->Option (RK×Option Row)} : (Am.ext Γ f l G).grw g=Γ.grw g:=alM
def Pu {d:Nat} : (Am.keep d Γ).grw g=Γ.grw g:=alM
def Pp {f:Nat} {p:Nat×Nat×Nat} : (Am.Ga f p Γ).grw g=Γ.grw g:=alM
def Kg:bf.grw g=none:=alM
def IY {p:Nat×Nat×Nat} {a:List D} : abS (some p) Γ h e dst g a=vY h e dst p a:=alM
def Vb {f:Nat} {l:Bool} {G:Option (D×Row)->List D->Option (RK×Option Row)} : (Am.ext Γ f l G).ins g=Γ.ins g:=alM
def Pv {d:Nat} : (Am.keep d Γ).ins g=Γ.ins g:=alM
def Kh:bf.ins g=none:=alM
def Pq {f:Nat} {p:Nat×Nat×Nat} : (Am.Ga f p Γ).ins g=if g=f then some p else Γ.ins g:=alM
def Gb {f:Nat} {p:Nat×Nat×Nat} : (Am.Ga f p Γ).lends g=Γ.lends g:=alM
def Ps {f:Nat} {p:Nat×Nat×Nat} {l:Option (D×Row)} {aim:List D} : (Am.Ga f p Γ).sem g l aim=Γ.sem g l aim:=alM
def Pr {f:Nat} {p:Nat×Nat×Nat} {d:Nat} : (Am.Ga f p Γ).own d=Γ.own d:=alM
def YQ (ty k b x y s c o f n m:Nat) (i:Int) (e:Nat) (d:Nat):Option Row->Option Row->Option ca
 | some r,some a =>
   if r.fz=false∧a.fz=false∧r.lst=true∧a.lst=true∧x≠y∧s=k∧c=k∧r.ty=ty∧a.ty=ty∧o=0∧f=0∧r.cells.length=n*k∧a.cells.length=m*k∧0<=i∧i<=n∧0<m∧(n+m)*b<=140737488355328 then
    some ⟨.buf d e k 0 (n+m),[(y,none),(x,none),(d,some ⟨e,ty,r.cells.take (i.toNat*k)++(a.cells++r.cells.drop (i.toNat*k)),false,true,false⟩)]⟩
   else none
 | _,_=>none
def UI {ty k a x v s o n y b c f m d:Nat} {i:Int} : vY h e (some d) (ty,k,a) [.buf x v s o n,.int .i64 i,.buf y b c f m]=YQ ty k a x y s c o f n m i e d (live h x v) (live h y b):=by
 simp only[vY,YQ];cases live h x v with
 | none=>rfl
 | some r=>cases live h y b<;>rfl
def EX {ty k b x y s c o f n m : Nat} {i : Int} {d : Nat} {r a : Row} : YQ ty k b x y s c o f n m i e d (some r) (some a) = if r.fz = false ∧ a.fz = false ∧ r.lst = true ∧ a.lst = true ∧ x ≠ y ∧ s = k ∧ c = k ∧ r.ty = ty ∧ a.ty = ty ∧ o = 0 ∧ f = 0 ∧ r.cells.length = n * k ∧ a.cells.length = m * k ∧ 0 <= i ∧ i <= n ∧ 0 < m ∧ (n + m) * b <= 140737488355328 then
        some ⟨.buf d e k 0 (n + m), [(y, none), (x, none), (d, some ⟨e, ty, r.cells.take (i.toNat * k) ++ (a.cells ++ r.cells.drop (i.toNat * k)), false, true, false⟩)]⟩
      else none := Eq.trans rfl rfl
def UK {a:List D} : jq Γ h e dst (.fn g) a=abS (Γ.ins g) Γ h e dst g a:=by
 simp only[jq,abS,D3];cases Γ.ins g with
 | none=>cases Γ.grw g<;>rfl
 | some p=>rfl
def WH (h:Nat->Option Row) (e:Nat) (dst:Option Nat) (fr:List Nat):Option (RK×Option Row)->Option ca
 | some (.clean r,_)=>some ⟨r,if jx r then [] else kb h fr⟩
 | some (.fresh ty s n cells,_) =>
  match dst with
  | some d=>if fr.contains d=false then some ⟨.buf d e s 0 n,(if rS cells then [] else kb h fr)++[(d,some ⟨e,ty,cells,false,true,false⟩)]⟩ else none
  | none=>none
 | _=>none
def abR (Γ:Env) (h:Nat->Option Row) (e:Nat) (dst:Option Nat) (g:Nat):Option (List D×List Nat)->Option ca
 | some (aim,fr)=>WH h e dst fr (Γ.sem g none aim)
 | none=>none
def IZ {a:List D} : D3 false Γ h e dst g a=abR Γ h e dst g (bQ h a):=by
 simp only[D3,ai1,if_false,wN,abR];cases bQ h a with
 | none=>rfl
 | some p =>
  obtain⟨aim,fr⟩:=p;simp only;cases c:Γ.sem g none aim with
  | none=>rfl
  | some q =>
   obtain⟨b,o⟩:=q;cases b<;>rfl
def IV:abR Γ h e dst g (some (aim,fr))=WH h e dst fr (Γ.sem g none aim):=alM
def ab9 (h:Nat->Option Row) (fr:List Nat):Bool->List (Nat×Option Row)
 | true=>[]
 | false=>kb h fr
def JV:ab9 h fr true=[]:=alM
def FP:ab9 h fr false=kb h fr:=alM
def E1 {r:D} {o:Option Row} : WH h e dst fr (some (.clean r,o))=some ⟨r,ab9 h fr (jx r)⟩:=by
 simp only[WH]<;>cases jx r<;>rfl
def Vg:kb h []=[]:=alM
def OV {x:Nat} : kb h (x::fr)=(x,(h x).map wq)::kb h fr:=alM
def I7:bQ h []=some ([],[]):=alM
def caC (p:Option (D×List Nat)) (q:Option (List D×List Nat)):Option (List D×List Nat) :=
 match p,q with
 | some (c,fr),some (a,b)=>some (c::a,fr++b)
 | _,_=>none
def NA {d:D} {fr a:List Nat} {b:List D} : caC (some (d,fr)) (some (b,a))=some (d::b,fr++a):=alM
def E6 {d:D} {a:List D} : bQ h (d::a)=caC (ch h d) (bQ h a):=by
 simp only[bQ];cases ch h d with
 | none=>rfl
 | some p=>cases bQ h a<;>rfl
variable {T:Nat->Option Ty} {s:St} {rs:List ResultVar} {r:ResultVar}
def Q0:vK T s []=some ([],[]):=alM
def KH:vK T s (r::rs)=caC (QY T s r) (vK T s rs):=by
 simp only[vK];cases QY T s r with
 | none=>rfl
 | some p=>cases vK T s rs<;>rfl
def QZ {t:Nat->D} {i:Nat} : QY T ⟨t,h,e⟩ (.tmp i)=ch h (t i):=alM
def aeJ (T:Nat->Option Ty) (h:Nat->Option Row) (d:D) (τ:Option Ty):Option (D×List Nat) :=
 match τ,d with
 | some τ,.ptr x v o=>match ff τ h (.ptr x v o) with|some E=>some (jw E.val,[])|none=>none
 | _,_=>none
def KF {t:Nat->D} {i ty:Nat} : QY T ⟨t,h,e⟩ (.cell i ty)=aeJ T h (t i) (T ty):=alM
def aeK:Option ca->Option (D×List Nat)
 | some E=>some (jw E.val,[])
 | none=>none
def KG {d:D} {w:List (Nat×Option Row)} : aeK (some ⟨d,w⟩)=some (jw d,[]):=alM
def QX {τ:Ty} {x v o:Nat} : aeJ T h (.ptr x v o) (some τ)=aeK (ff τ h (.ptr x v o)):=by
 simp only[aeJ,aeK]
def aee (p:Option (List D×List Nat)):Option (RK×Option Row) :=
 match p with
 | some (ds,_)=>some (.clean (mS ds),none)
 | none=>none
def Jv {a:List D} {fr:List Nat} : aee (some (a,fr))=some (.clean (mS a),none):=alM
def FF:gi .clean T none rs s=aee (vK T s rs):=by
 simp only[gi,rR,mC,aat,aee]<;>cases vK T s rs<;>rfl
def E2 {ty a n d:Nat} {cells:List D} {o:Option Row} : WH h e (some d) fr (some (.fresh ty a n cells,o))=if fr.contains d=false then some ⟨.buf d e a 0 n,ab9 h fr (rS cells)++[(d,some ⟨e,ty,cells,false,true,false⟩)]⟩ else none:=by
 simp only[WH]<;>cases rS cells<;>rfl
def BY {k:IntKind} : ∀l:List Int,rS (ae (eI k) l)=true
 | []=>rfl
 | x::l=>by
  have:=BY (k:=k) l;simp only[bk,AV,List.cons_append,List.nil_append,rS,jx,this,Bool.and_self]
def FG {ty a i:Nat} {t:Nat->D} : gi (.fresh ty a) T none [.tmp i] ⟨t,h,e⟩=qY ty a h (t i):=alM
def U0 {ty a x v o n:Nat} : qY ty a h (.buf x v a o n)=yy ty a o n (live h x v):=by simp[qY]
def Oz {ty a o n:Nat} {r:Row} : yy ty a o n (some r)=if r.fz=false∧r.ty=ty∧o+n*a<=r.cells.length then some (.fresh ty a n ((r.cells.drop o).take (n*a)),none) else none:=alM
def Hg {d:D} : mS [d]=d:=alM
def Hh {d a:D} {b:List D} : mS (d::a::b)=.tup (d::a::b):=alM
end
def UZ (k:IntKind):(eI k).size=1:=alM
def Oy {α:Type} (e:iF α):(nM e).size=1:=alM
section
variable {α:Type} (E:iF α) {l m:List α} {x x' z:α} {i a b n c:Int} {B:Nat}
def rX (h:P.idx l i=some x):0<=i∧i<l.length:=by
 unfold P.idx at h;split at h
 ·assumption
 ·cases h
def L9 (h:P.idx l i=some x):l[i.toNat]? = some x:=by
 unfold P.idx at h;split at h
 ·exact h
 ·cases h
def A7 (h:P.idx l i=some x):(ae E l).drop (i.toNat*E.size)=E.cells x++ae E (l.drop (i.toNat+1)):=by
 have a:=L9 h;obtain⟨b,rfl⟩:=aiU.1 a;rw[oP,akw b];rfl
def kS (a:Nat) (h:P.idx l i=some x):(ae E l).drop (i.toNat*E.size+a)=(E.cells x++ae E (l.drop (i.toNat+1))).drop a:=by
 rw[<- akm,A7 E h]
def lv (h:P.idx l i=some x):i.toNat*E.size+E.size<=l.length*E.size:=by
 have a:=rX h;have:i.toNat+1<=l.length:=by omega
 have:=ajd E.size this
 rwa [ajp]at this
def bz (h:P.idx l i=some x):(0<=i∧i<l.length)∧(ae E l).drop (i.toNat*E.size)=E.cells x++ae E (l.drop (i.toNat+1))∧i.toNat*E.size+E.size<=l.length*E.size:=⟨rX h,A7 E h,lv E h⟩
def kc (a s:Nat) (b:a+s<=E.size) (h:P.idx l i=some x):i.toNat*E.size+a+s<=l.length*E.size:=by
 have:=lv E h;omega
def TC:∀(l:List α) (i:Nat) (x:α),l[i]? = some x->∀x',ae E (l.set i x')=(ae E l).take (i*E.size)++E.cells x'++(ae E l).drop (i*E.size+E.size)
 | [],i,x,h,x'=>by simp at h
 | y::l,0,x,h,x'=>by
  rw[List.set_cons_zero,bk,bk,ako,akx,akh,ajf,akj,E.len,ajD,ajV,akk (by rw[E.len];exact air _),akh]
 | y::l,i+1,x,h,x'=>by
  have b:=TC l i x (by simpa using h) x';rw[List.set_cons_succ,bk,bk,b,ajp];have a:=E.len y;have c:(E.cells y++ae E l).take (i*E.size+E.size)=E.cells y++(ae E l).take (i*E.size):=by rw[ajS,a,ajU (by omega),akl]
  have d:(E.cells y++ae E l).drop (i*E.size+E.size+E.size)=(ae E l).drop (i*E.size+E.size):=by
   rw[akj,a,akk (by omega),akh,akl]
  rw[c,d];simp only[ajP]
def fE (fo:Nat) (cs:List D) (h:P.idx l i=some x) (d:E.cells x'=putCells (E.cells x) fo cs) (e:fo+cs.length<=E.size):putCells (ae E l) (i.toNat*E.size+fo) cs=ae E (l.set i.toNat x'):=by
 have f:=L9 h;rw[TC E l i.toNat x f x',d];have b:=A7 E h;have q:=lv E h;have s:=bA E l;have g:=E.len x;have a:ae E l=(ae E l).take (i.toNat*E.size)++(E.cells x++(ae E l).drop (i.toNat*E.size+E.size)):=by
  have j:=akn (i.toNat*E.size) (ae E l);have k:(ae E l).drop (i.toNat*E.size+E.size)=ae E (l.drop (i.toNat+1)):=by
   rw[<- akm,b,akj,g,ajD,ajV,akk (by omega),akh]
  rw[k,<- b,j]
 generalize (ae E l).drop (i.toNat*E.size+E.size)=r at *;generalize m:(ae E l).take (i.toNat*E.size)=p at *;have c:p.length=i.toNat*E.size:=by rw[<- m];simp;omega
 unfold putCells;rw[a];have n:(p++(E.cells x++r)).take (i.toNat*E.size+fo)=p++(E.cells x).take fo:=by
  rw[ajS,c,ajU (by omega),ajR,ajT (by omega)]
 have o:(p++(E.cells x++r)).drop (i.toNat*E.size+fo+cs.length)=(E.cells x).drop (fo+cs.length)++r:=by
  rw[aiM,akj,c,akk (by omega),ajR,akh,ajQ (by omega)]
 rw[n,o];simp only[ajP]
def aaC (h:P.idx l i=some x):putCells (ae E l) (i.toNat*E.size) (E.cells x')=ae E (l.set i.toNat x'):=by
 have:=fE E (x':=x') 0 (E.cells x') h (by unfold putCells;simp[E.len]) (by rw[E.len];omega);simpa using this
def aam (h:Gt B n c z=some m):m=List.replicate n.toNat z∧0<=n∧n<=c∧c<=maxLen∧c.toNat*B<=140737488355328:=by
 unfold Gt at h;split at h
 ·cases h;exact⟨rfl,by assumption⟩
 ·cases h
def mk_one (h:Gt B n n z=some m):0<=n∧n.toNat=m.length∧m.length<=maxLen∧oY m.length (E.cells z)=ae E m∧m.length*B<=140737488355328:=by
 obtain⟨rfl,a,_,c,b⟩:=aam h;refine⟨a,by simp,by simp;omega,by rw[OE];simp,by simpa using b⟩
def CJ (h:Eg l a b=some m):0<=a∧0<=b∧a.toNat<=b.toNat∧b.toNat<=l.length∧b.toNat-a.toNat=m.length∧(List.take (m.length*E.size) (List.drop (a.toNat*E.size) (ae E l))=ae E m):=by
 unfold Eg at h;split at h
 ·rename_i d;cases h;have c:((l.drop a.toNat).take (b.toNat-a.toNat)).length=b.toNat-a.toNat:=by simp;omega
  refine⟨d.1,by omega,by omega,by omega,c.symm,?_⟩;rw[c,oP,lr]
 ·cases h
def aeO (h:Eg l a b=some m):0<=a∧0<=b∧(a.toNat<=b.toNat∧b.toNat<=l.length)∧b.toNat-a.toNat=m.length∧(List.take (m.length*E.size) (List.drop (a.toNat*E.size) (ae E l))=ae E m):=by
 obtain⟨c,d,e,f,g,i⟩:=CJ E h;exact⟨c,d,⟨e,f⟩,g,i⟩
def aaN (h:Eg l a (l.length:Int)=some m):0<=a∧0<=a∧a.toNat<=l.length∧l.length-a.toNat=m.length∧(List.take (m.length*E.size) (List.drop (a.toNat*E.size) (ae E l))=ae E m):=by
 obtain⟨b,f,c,g,d,e⟩:=CJ E h;simp only[Int.toNat_natCast]at c d;exact⟨b,b,c,d,e⟩
def MO (h:Eg l 0 b=some m):0<=b∧0<=b∧m.length<=l.length∧b.toNat=m.length∧(List.take (m.length*E.size) (ae E l)=ae E m):=by
 obtain⟨f,c,g,i,d,e⟩:=CJ E h;have a:b.toNat=m.length:=by simpa using d
 refine⟨c,c,by omega,a,by simpa using e⟩
def BO {n:List α} (h:mK B l m=some n):n=l++m∧n.length<=maxLen∧n.length*B<=140737488355328:=by
 unfold mK at h;split at h
 ·rename_i a;cases h;exact⟨rfl,by rw[ajB];exact a.1,by rw[ajB];exact a.2⟩
 ·cases h
def iT {n:List α} (h:mK B l [x]=some n):l.length+1=n.length∧ae E l++E.cells x=ae E n∧n.length<=maxLen∧n.length*B<=140737488355328:=by
 obtain⟨rfl,a,b⟩:=BO h;exact⟨by simp,by rw[gQ];simp[ae],a,b⟩
def Ej {n:List α} (h:mK B [] l=some n):n=l∧l.length<=maxLen∧l.length*B<=140737488355328:=by
 obtain⟨rfl,a,b⟩:=BO h;exact⟨rfl,a,b⟩
def abK {n:List α} (h:mK B l m=some n):l.length+m.length=n.length∧ae E l++ae E m=ae E n∧n.length<=maxLen∧n.length*B<=140737488355328:=by
 obtain⟨rfl,a,b⟩:=BO h;exact⟨by simp,by rw[gQ],a,b⟩
end
def va {k:IntKind} {x y z:Int} (h:BR k x y=some z):¬y=0∧k.wrap (x.tdiv y)=z:=by
 unfold BR at h;split at h
 ·cases h
 ·cases h;exact⟨by assumption,rfl⟩
def Be {k:IntKind} {x y z:Int} (h:Gw k x y=some z):¬y=0∧x.tmod y=z:=by
 unfold Gw at h;split at h
 ·cases h
 ·cases h;exact⟨by assumption,rfl⟩
def Ep {k:IntKind} {x y z:Int} (h:Iu k x y=some z):¬y<0∧k.wrap (x*2 ^ (min y.toNat k.bits))=z:=by
 unfold Iu at h;split at h
 ·cases h
 ·cases h;exact⟨by assumption,rfl⟩
def vQ {k:IntKind} {x y z:Int} (h:Aq k x y=some z):¬y<0∧x.fdiv (2 ^ (min y.toNat k.bits))=z:=by
 unfold Aq at h;split at h
 ·cases h
 ·cases h;exact⟨by assumption,rfl⟩
def UF (op:BinOp) (k:IntKind) (x y:Int):EW op k x y=ma op k x y:=alM
def rp.emp {P:Program} {f:FuncId} {i:RK} {a:Option Row} (v:rp P f none [.sl true true 0 []] i a) (x:rp P f none [.sl true false 0 []] i a):rp P f none [.sl false false 0 []] i a:=by
 intro w M vs k b;have l:=b.2 0 _ rfl;generalize m:vs.getD 0 undef=u at l;cases l with
 | sl A c nl tight n xs o p q y g z r s t =>
  cases A with
  | none =>
   refine v w M vs k ⟨b.1,fun j d e =>?_,b.tab⟩;cases j with
   | zero=>cases e;rw[m];exact .sl none c true true 0 [] o p q (fun _=>⟨fun _=>⟨rfl,(g rfl).2⟩,fun h=>by cases h⟩) g (fun _=>(g rfl).2) r s t
   | succ j=>simp at e
  | some A =>
   refine x w M vs k ⟨b.1,fun j d e =>?_,b.tab⟩;cases j with
   | zero=>cases e;rw[m];exact .sl (some A) c true false 0 [] o p q (fun _=>⟨(fun h=>by cases h),fun _ h=>by cases h⟩) g (fun h=>by cases h) r s t
   | succ j=>simp at e
def bZ.afL {P:Program} {T:Nat->Option Ty} {Γ:Env} (e:ji P T) (g:bI P Γ) (h:P.follows .mixedOrders=true) {α β:Type} {E:iF α} {F:List α->Option β} {R:β->RK} {mode:Mode} {f:FuncId} {a:Func} (d:P.funcs[f]? = some a) (b:(match a.body with|some c=>codeOk c|none=>true)=true)
  (k:(a.name == "runtime.NumGoroutine")=false∧a.body.isNone=false) (i:1<=a.ntmps)
  (m:∀r,F []=some r->lT mode T Γ FU a none [.sl true true 0 []]=some (R r,none))
  (n:∀r,F []=some r->lT mode T Γ FU a none [.sl true false 0 []]=some (R r,none))
  (o:∀l r,0<l.length->F l=some r->lT mode T Γ FU a none [.sl false false l.length (ae E l)]=some (R r,none)):bZ P f (dN (dy (jZ E)) F R) where
 calls lent aim rk out p:=by
  obtain⟨rfl,rfl,l,r,rfl,j,rfl⟩:=sb p;cases l with
  | nil=>exact rp.emp (lk e g h d b i rfl (m r j)) (lk e g h d b i rfl (n r j))
  | cons x l=>exact lk e g h d b i rfl (o (x::l) r (by simp) j)
 callable:=⟨a,d,k⟩
def acd {α:Type} (E:iF α) {B:Nat} {l n:List α} {i:Int} {x:α} (h:ZX B l i [x]=some n):0<=i∧i<=(l.length:Int)∧l.length+1=n.length∧n.length*B<=140737488355328 ∧
  (ae E l).take (i.toNat*E.size)++(E.cells x++(ae E l).drop (i.toNat*E.size))=ae E n:=by
 unfold ZX at h;split at h
 ·rename_i b;cases h;obtain⟨c,d,-,e⟩:=b;have a:l.length+1=(l.take i.toNat++([x]++l.drop i.toNat)).length:=by simp;omega
  refine⟨c,d,a,by rw[<- a];exact e,?_⟩;rw[gQ,gQ,lr,oP];simp[ae]
 ·cases h
def R9 {w:World} {M:Nat->Prop} {k:IntKind} {n:Int} {u:Value} (h:RP w M (.int k n) u):u=.int k n:=by cases h;rfl
def abp {vs:Array Value} (h:vs.size=1):vs = #[vs.getD 0 undef]:=by
 apply ajE
 ·simp[h]
 ·intro i a b;have:i=0:=by omega
  subst this;simp[ajC a]
def gR (b:Nat) {ty:Nat} {fr:Nat×Nat} : ∀(vs:List Value) (o:Nat) (w:World) (a:Array Value),w.heap[b]? = some (.cells a ty fr)->o+vs.length<=a.size ->
  (w.setCells b o vs).os=w.os∧(w.setCells b o vs).tape=w.tape∧(w.setCells b o vs).output=w.output∧(w.setCells b o vs).heap.size=w.heap.size∧(∀k,k≠b->(w.setCells b o vs).heap[k]? = w.heap[k]?) ∧
  ∃c,(w.setCells b o vs).heap[b]? = some (.cells c ty fr)∧c.size=a.size∧∀j,c[j]? = if o<=j∧j<o+vs.length then vs[j-o]? else a[j]?
 | [],o,w,a,h,_=>⟨rfl,rfl,rfl,rfl,fun k _=>rfl,a,h,rfl,fun j=>by rw[if_neg (by simp)]⟩
 | v::r,o,w,a,h,g=>by
  simp only[List.length_cons]at g;have d:(w.setCell ⟨b,o,none⟩ v).heap[b]? = some (.cells (a.setIfInBounds o v) ty fr):=by
   simp[World.setCell,aiB,h]
  obtain⟨i,l,m,n,p,c,q,s,t⟩:=gR b r (o+1) (w.setCell ⟨b,o,none⟩ v) _ d (by simp;omega);refine⟨i,l,m,n.trans (by simp[World.setCell]),fun k e=>(p k e).trans (by simp[World.setCell,aiB,Ne.symm e]),c,q,by simpa using s,fun j =>?_⟩;rw[t j,aky];simp only[List.length_cons]
  by_cases d:o+1<=j∧j<o+1+r.length
  ·rw[if_pos d,if_pos (by omega)];have:j-o=(j-(o+1))+1:=by omega
   rw[this,ajz]
  ·rw[if_neg d]
   by_cases f:o=j
   ·subst f;rw[if_pos rfl,if_pos (by omega),if_pos (by omega),ajD];rfl
   ·rw[if_neg f,if_neg (by omega)]
def vm1:=ai @KN<|ai @Q7<|ai @Q6<|ai @KL<|ai @Ho<|ai @KM<|ai @aX<|ai @xM<|ai @we<|ai @ba<|ai @zj<|ai @DQ<|ai @Hq<|ai @KK<|ai @Lb<|ai @HH<|ai @Q4<|ai @KI<|ai @Hl<|ai @Lc<|ai @HI<|ai @HJ<|ai @DX<|ai @Q5<|ai @KJ<|ai @Hm<|ai @Ld<|ai @HK<|ai @HL<|ai @DY<|ai @Rr<|ai @Rv<|ai @V3<|ai @V6<|ai @G7<|ai @DK<|ai @G8<|ai @DL<|ai @Of<|ai @Om<|ai @Oe<|ai @Ol<|ai @Fe<|ai @Fg<|ai @Jd<|ai @Jk<|ai @Og<|ai @On<|ai @Oc<|@Oi
def vm2:=ai @Ji<|ai @Jn<|ai @AR<|ai @AT<|ai @y7<|ai @zb<|ai @y8<|ai @zc<|ai @Jf<|ai @Jg<|ai @Je<|ai @Jl<|ai @wV<|ai @wW<|ai @y9<|ai @zd<|ai @Jc<|ai @Jj<|ai @UT<|ai @Dc<|ai @Dd<|ai @Dh<|ai @Ob<|ai @Oh<|ai @Db<|ai @Df<|ai @Qs<|ai @QG<|ai @IS<|ai @C1<|ai @Ja<|ai @OM<|ai @Fo<|ai @Fm<|ai @F7<|ai @F6<|ai @cv<|ai @Dt<|ai @cA<|ai @Wo<|ai @II<|ai @IH<|@JM
def vm3:=ai @JN<|ai @DU<|ai @HF<|ai @HE<|ai @DW<|ai @xV<|ai @wh<|ai @wk<|ai @wm<|ai @DT<|ai @zm<|ai @DV<|ai @uD<|ai @HD<|ai @zl<|ai @By<|ai @VI<|ai @Qc<|ai @KE<|ai @KD<|ai @J2<|ai @UC<|ai @Nw<|ai @YK<|ai @UB<|ai @UA<|ai @IL<|ai @ES<|ai @UD<|ai @IM<|ai @I4<|ai @NQ<|ai @E5<|@NX
def vm4:=ai @N1<|ai @NV<|ai @I6<|ai @UO<|ai @NS<|ai @UN<|ai @UM<|ai @NT<|ai @NW<|ai @Y3<|ai @adh<|ai @Y1<|ai @Y2<|ai @N8<|ai @JK<|ai @Ve<|ai @UK<|ai @IZ<|ai @IV<|ai @E1<|ai @JV<|ai @FP<|ai @Vg<|ai @OV<|ai @I7<|ai @E6<|ai @NA<|ai @Q0<|ai @KH<|ai @QZ<|ai @KF<|ai @QX<|ai @KG<|ai @FF<|ai @Jv<|ai @E2<|ai @BY<|ai @FG<|ai @U0<|ai @Oz<|ai @Hg<|ai @Hh<|ai @UF<|ai @OD<|@bk
def vmk:=ai @RH<|@RI
def vmc:=ai @true_and<|ai @and_true<|ai @ai1<|ai @aix<|ai @ajg<|ai @akt<|ai @ajV<|ai @aku<|ai @akx<|ai @aiR<|ai @aiS<|ai @List.contains_nil.{0}<|ai @akh<|ai @aks<|ai @akr<|ai @aiQ<|ai @ajz<|ai @decide_true<|ai @beq_self_eq_true.{0}<|ai @List.isEmpty_nil.{0}<|ai @List.isEmpty_cons.{0}<|ai @Option.map_none.{0,0}<|ai @aiz<|ai @List.all_cons.{0}<|ai @List.all_nil.{0}<|ai @akz<|ai @Bool.and_true<|ai @ajX<|ai @akA<|ai @Bool.and_self<|ai @and_self<|ai @ajf<|ai @ai0<|ai @ako<|ai @Nat.sub_zero<|ai @ais<|ai @air<|ai @aiA<|ai @akB<|ai @Bool.or_self<|@akC
def vm5:=ai @Hp<|ai @adf<|ai @IN<|ai @ET<|ai @Yw<|ai @Uy<|ai @NZ<|ai @Vd<|ai @Kk<|ai @Px<|ai @Gc<|@Py
def vmu:=ai @Ae.eq_1<|ai @Ae.eq_2<|ai @ev.eq_1<|ai @ev.eq_2<|ai @ev.eq_4<|ai @pq.eq_1<|ai @pq.eq_2<|ai @pq.eq_3<|ai @pq.eq_4<|ai @fk.eq_1<|ai @fk.eq_2<|ai @EV.eq_1<|ai @EV.eq_3<|ai @mB.eq_1<|ai @mB.eq_2<|ai @mB.eq_3<|ai @jl.eq_1<|ai @jl.eq_2<|ai @jl.eq_3<|ai @jl.eq_4<|ai @jl.eq_5<|ai @jl.eq_6<|ai @jl.eq_7<|ai @jl.eq_10<|ai @jl.eq_11<|ai @jl.eq_12<|ai @jl.eq_13<|ai @jl.eq_14<|ai @jl.eq_15<|ai @XY.eq_1<|ai @XY.eq_4<|ai @acw.eq_1<|ai @aR.eq_1<|ai @aR.eq_2<|ai @gh.eq_1<|ai @gh.eq_3<|ai @ff.eq_1<|ai @ff.eq_2<|ai @live.eq_1<|ai @kU.eq_1<|ai @kU.eq_2<|ai @Ds.uk.eq_1<|ai @Ds.uk.eq_3<|ai @dV.eq_1<|ai @dV.eq_2<|ai @dV.eq_4<|ai @dV.eq_5<|ai @jx.eq_1<|ai @jx.eq_2<|ai @jx.eq_4<|ai @jx.eq_5<|ai @jx.eq_6<|ai @rS.eq_1<|ai @rS.eq_2<|ai @D9.eq_2<|ai @D9.eq_3<|ai @D9.eq_4<|ai @alive.eq_3<|ai @nm.eq_2<|ai @jr.eq_1<|ai @jr.eq_5<|ai @jr.eq_6<|ai @im.eq_1<|ai @th.eq_1<|ai @oN.eq_1<|ai @cF.eq_1<|ai @cF.eq_2<|ai @mc.eq_1<|ai @ik.eq_3<|ai @ij.eq_1<|ai @jK.eq_1<|ai @jK.eq_2<|ai @fieldAt.eq_1<|ai @eL.eq_1<|ai @sY.eq_1<|ai @kj.eq_1<|ai @content.eq_1<|ai @content.eq_2<|ai @putCells.eq_1<|ai @eqD.eq_1<|ai @eqD.eq_2<|ai @Ap.eq_1<|ai @Ap.eq_2<|ai @bn.eq_1<|ai @bn.eq_3<|ai @bn.eq_4<|ai @sd.eq_1<|ai @zt.eq_2<|ai @zt.eq_3<|@zt.eq_4
def ag7:=ai @IX<|ai @IW<|ai @Va<|ai @Pu<|ai @Pp<|ai @Kg<|ai @IY<|ai @Vb<|ai @Pv<|ai @Kh<|ai @Pq<|ai @Gb<|ai @Ps<|ai @Pr<|ai @UI<|@EX
section
variable {T:Nat->Option Ty} {Γ:Env} {N F e:Nat} {Q Q':Kt} {t:Nat->D} {h:Nat->Option Row}
def jE (hm:∀x t h e,Q x t h e->Q' x t h e):∀(ws:List W) (x:Ex) (t:Nat->D) (h:Nat->Option Row) (e:Nat),dD T Γ N F ws Q x t h e->dD T Γ N F ws Q' x t h e
 | [],x,t,h,e,hk=>hm _ _ _ _ hk
 | .code c::ws,x,t,h,e,hk=>by
  unfold dD at hk ⊢;cases x with
  | normal=>exact X7 c t h e _ _ hk (fun x t h e b=>jE hm ws x t h e b)
  | exit n=>exact jE hm ws _ t h e hk
  | ret=>exact jE hm ws _ t h e hk
 | .blk id::ws,x,t,h,e,hk=>by
  unfold dD YL at hk ⊢;cases x with
  | normal=>exact jE hm ws _ t h e hk
  | exit n =>
   simp only at hk ⊢;split at hk
   ·rename_i a;rw[if_pos a];exact jE hm ws _ t h e hk
   ·rename_i a;rw[if_neg a];exact jE hm ws _ t h e hk
  | ret=>exact jE hm ws _ t h e hk
def ss:∀(ws:List W) (k:Nat),dD T Γ N F ws Q=dD T Γ N F (ws.take k) (dD T Γ N F (ws.drop k) Q)
 | ws,0=>by simp[dD]
 | [],k+1=>by simp[dD]
 | .code c::ws,k+1=>by
  rw[aku,akt];funext x t h e;unfold dD;rw[ss ws k]
 | .blk id::ws,k+1=>by
  rw[aku,akt];funext x t h e;unfold dD;rw[ss ws k]
variable {σ:Type} {ops l:List Oper} {ws:List W} {dst:Option Nat} {fs:List lU} {d:D} {g:Nat}
def vX {J:σ->(Nat->D)->(Nat->Option Row)->Nat->Prop} {P:σ->Prop} {R:Kt} (a:∀s t h e,J s t h e->P s->R .normal t h e):∀x t h e,CK J P R x t h e->R x t h e:=by
 intro x t h e b;cases x with
 | normal=>obtain⟨s,c,d⟩:=b;exact a s t h e d c
 | exit n=>exact b
 | ret=>exact b
def yK (a:∀x t h e,Q x t h e->Q' x t h e) (b:l7 T Γ N F ops l ws Q t h e):l7 T Γ N F ops l ws Q' t h e:=yM (fun t h c=>jE a ws _ _ _ _ c) _ _ _ b
def yL (b:∀x t h e,Q x t h e->Q' x t h e) (c:mT T Γ N F ops l ws Q t h e fs):mT T Γ N F ops l ws Q' t h e fs:=yJ (fun t h fs a=>⟨a.1,jE b ws _ _ _ _ a.2⟩) _ _ _ _ c
def vM (k:Nat):l7 T Γ N F ops l ws Q t h e=l7 T Γ N F ops l (ws.take k) (dD T Γ N F (ws.drop k) Q) t h e:=by unfold l7;rw[ss ws k]
def vN (k:Nat):mT T Γ N F ops l ws Q t h e fs=mT T Γ N F ops l (ws.take k) (dD T Γ N F (ws.drop k) Q) t h e fs:=by unfold mT;rw[ss ws k]
def Jh (k:Nat) {o:Oper} : sF T Γ N F o ops l ws Q t h e=sF T Γ N F o ops l (ws.take k) (dD T Γ N F (ws.drop k) Q) t h e:=by
 unfold sF;congr 1;funext t E;rw[vM k]
def Jm (k:Nat) {o:Oper} : v7 T Γ N F o ops l ws Q t h e fs=v7 T Γ N F o ops l (ws.take k) (dD T Γ N F (ws.drop k) Q) t h e fs:=by
 unfold v7;congr 1;funext t E;rw[vN k]
def Od {o:Oper} (a:∀x t h e,Q x t h e->Q' x t h e) (b:sF T Γ N F o ops l ws Q t h e):sF T Γ N F o ops l ws Q' t h e:=BD b fun _ _ c=>yK a c
def Oj {o:Oper} (a:∀x t h e,Q x t h e->Q' x t h e) (b:v7 T Γ N F o ops l ws Q t h e fs):v7 T Γ N F o ops l ws Q' t h e fs:=BD b fun _ _ c=>yL a c
variable (k:Nat) (J:σ->(Nat->D)->(Nat->Option Row)->Nat->Prop) (P:σ->Prop)
def mn {x y:Code} (a:∀s t h e,J s t h e->P s->dD T Γ N F (ws.drop k) Q .normal t h e) (f:M6 T Γ N F d g x y (ws.take k) (CK J P (dD T Γ N F (ws.drop k) Q)) t h e):M6 T Γ N F d g x y ws Q t h e:=by
 unfold M6 at f ⊢;have i:∀c:Code,dD T Γ N F (.code c::ws) Q=dD T Γ N F (.code c::ws.take k) (dD T Γ N F (ws.drop k) Q):=fun c=>ss (.code c::ws) (k+1);rw[i,i];exact BB f (fun _ b=>jE (vX a) _ _ _ _ _ b) (fun _ b=>jE (vX a) _ _ _ _ _ b)
def bS {b:Bool} {o:Oper} (a:∀s t h e,J s t h e->P s->dD T Γ N F (ws.drop k) Q .normal t h e) (f:yZ T Γ N F d g b o ops l (ws.take k) (CK J P (dD T Γ N F (ws.drop k) Q)) t h e):yZ T Γ N F d g b o ops l ws Q t h e:=by
 unfold yZ at f ⊢;refine HR f (fun t c =>?_) (fun t c =>?_) (fun t c =>?_)
 ·cases b
  ·simp only[ai1,if_false]at c ⊢;rw[vM k];exact yK (vX a) c
  ·simp only[if_true]at c ⊢;rw[Jh k];exact Od (vX a) c
 ·cases b
  ·simp only[ai1,if_false]at c ⊢;rw[Jh k];exact Od (vX a) c
  ·simp only[if_true]at c ⊢;rw[vM k];exact yK (vX a) c
 ·rw[vM k];exact yK (vX a) c
def abi {b:Bool} {o:Oper} (a:∀s t h e,J s t h e->P s->dD T Γ N F (ws.drop k) Q .normal t h e) (f:y3 T Γ N F d g b o ops l (ws.take k) (CK J P (dD T Γ N F (ws.drop k) Q)) t h e fs):y3 T Γ N F d g b o ops l ws Q t h e fs:=by
 unfold y3 at f ⊢;refine HR f (fun t c =>?_) (fun t c =>?_) (fun t c =>?_)
 ·cases b
  ·simp only[ai1,if_false]at c ⊢;rw[vN k];exact yL (vX a) c
  ·simp only[if_true]at c ⊢;rw[Jm k];exact Oj (vX a) c
 ·cases b
  ·simp only[ai1,if_false]at c ⊢;rw[Jm k];exact Oj (vX a) c
  ·simp only[if_true]at c ⊢;rw[vN k];exact yL (vX a) c
 ·rw[vN k];exact yL (vX a) c
end
def mkW {α β γ:Type} (ty:Nat) (E:iF γ) (A:jH α) (F:List γ->α->Option (List γ×β)) (R:β->RK):Option (D×Row)->List D->Option (RK×Option Row):=fun lent a =>
 match lent with
 | some (.buf 0 0 s o n,⟨0,ty',cells,false,true,false⟩)=>open Classical in
  if h:ty'=ty∧s=E.size∧∃p:List D×List γ×List D×α,cells=p.1++(ae E p.2.1++p.2.2.1)∧o=p.1.length∧n=p.2.1.length∧a=A.ds p.2.2.2 then
   (F (Classical.choose h.2.2).2.1 (Classical.choose h.2.2).2.2.2).map fun r=>(R r.2,some ⟨0,ty,(Classical.choose h.2.2).1++(ae E r.1++(Classical.choose h.2.2).2.2.1),false,true,false⟩)
  else none
 | _=>none
def Wq {γ:Type} {E:iF γ} {p a q c:List D} {l b:List γ} (h:p++(ae E l++q)=a++(ae E b++c)) (d:p.length=a.length) (e:l.length=b.length):p=a∧l=b∧q=c:=by
 obtain⟨f,g⟩:=akv h d;obtain⟨i,j⟩:=akv g (by rw[bA,bA,e]);exact⟨f,xb E _ _ i,j⟩
def aal {α β γ:Type} (ty:Nat) (E:iF γ) (A:jH α) (F:List γ->α->Option (List γ×β)) (R:β->RK) (pre post:List D) (l:List γ) (a:α) :
  mkW ty E A F R (some (.buf 0 0 E.size pre.length l.length,⟨0,ty,pre++(ae E l++post),false,true,false⟩)) (A.ds a)=(F l a).map fun r=>(R r.2,some ⟨0,ty,pre++(ae E r.1++post),false,true,false⟩):=by
 have h:ty=ty∧E.size=E.size∧∃p:List D×List γ×List D×α,pre++(ae E l++post)=p.1++(ae E p.2.1++p.2.2.1)∧pre.length=p.1.length∧l.length=p.2.1.length∧A.ds a=A.ds p.2.2.2:=⟨rfl,rfl,(pre,l,post,a),rfl,rfl,rfl,rfl⟩;simp only[mkW];rw[dif_pos h];obtain⟨b,c,d,e⟩:=Classical.choose_spec h.2.2;obtain⟨f,g,i⟩:=Wq b c d;rw[<- A.inj _ _ e,<- f,<- g,<- i]
def P6 {α β γ:Type} {ty:Nat} {E:iF γ} {A:jH α} {F:List γ->α->Option (List γ×β)} {R:β->RK} {lent:Option (D×Row)} {e:List D} {f:RK} {b:Option Row} (h:mkW ty E A F R lent e=some (f,b)) :
  ∃pre l post a c r,lent=some (.buf 0 0 E.size pre.length l.length,⟨0,ty,pre++(ae E l++post),false,true,false⟩)∧e=A.ds a∧F l a=some (c,r)∧f=R r∧b=some ⟨0,ty,pre++(ae E c++post),false,true,false⟩:=by
 unfold mkW at h;split at h
 ·split at h
  ·rename_i d;obtain⟨rfl,rfl,d⟩:=d;rw[aip]at h;obtain⟨⟨c,r⟩,i,g⟩:=h;simp only[Prod.mk.injEq]at g;obtain⟨rfl,rfl⟩:=g;obtain⟨j,k,m,n⟩:=Classical.choose_spec d;refine⟨_,_,_,_,c,r,?_,n,i,rfl,rfl⟩;rw[<- j,<- k,<- m]
  ·cases h
 ·cases h
def bZ.afK {P:Program} {T:Nat->Option Ty} {Γ:Env} (i:ji P T) (j:bI P Γ) (k:P.follows .mixedOrders=true) {α β γ:Type} {ty:Nat} {E:iF γ} {A:jH α} {F:List γ->α->Option (List γ×β)} {R:β->RK} {mode:Mode} {f:FuncId} {b:Func} (g:P.funcs[f]? = some b) (e:(match b.body with|some c=>codeOk c|none=>true)=true)
  (m:(b.name == "runtime.NumGoroutine")=false∧b.body.isNone=false) (n:∀a,(A.ds a).length+1<=b.ntmps)
  (h:∀pre post l a d r,F l a=some (d,r)->lT mode T Γ FU b (some (.buf 0 0 E.size pre.length l.length,⟨0,ty,pre++(ae E l++post),false,true,false⟩)) (A.ds a)=some (R r,some ⟨0,ty,pre++(ae E d++post),false,true,false⟩)):bZ P f (mkW ty E A F R) where
 calls lent aim rk out o:=by
  obtain⟨pre,l,post,a,d,r,rfl,rfl,p,rfl,rfl⟩:=P6 o;exact lk i j k g e (n a) rfl (h pre post l a d r p)
 callable:=⟨b,g,m⟩
def mkE {α γ:Type} (ty:Nat) (E:iF γ) (A:jH α) (F:List γ->α->Option (List γ)):Option (D×Row)->List D->Option (RK×Option Row):=fun lent a =>
 match lent with
 | some (.buf 0 0 s o n,⟨0,ty',cells,false,true,false⟩)=>open Classical in
  if h:ty'=ty∧s=E.size∧∃p:List D×List γ×List D×α,cells=p.1++(ae E p.2.1++p.2.2.1)∧o=p.1.length∧n=p.2.1.length∧a=A.ds p.2.2.2 then
   (F (Classical.choose h.2.2).2.1 (Classical.choose h.2.2).2.2.2).map fun r=>(.fresh ty E.size r.length (ae E r),none)
  else none
 | _=>none
def aai {α γ:Type} (ty:Nat) (E:iF γ) (A:jH α) (F:List γ->α->Option (List γ)) (pre post:List D) (l:List γ) (a:α) :
  mkE ty E A F (some (.buf 0 0 E.size pre.length l.length,⟨0,ty,pre++(ae E l++post),false,true,false⟩)) (A.ds a)=(F l a).map fun r=>(.fresh ty E.size r.length (ae E r),none):=by
 have h:ty=ty∧E.size=E.size∧∃p:List D×List γ×List D×α,pre++(ae E l++post)=p.1++(ae E p.2.1++p.2.2.1)∧pre.length=p.1.length∧l.length=p.2.1.length∧A.ds a=A.ds p.2.2.2:=⟨rfl,rfl,(pre,l,post,a),rfl,rfl,rfl,rfl⟩;simp only[mkE];rw[dif_pos h];obtain⟨b,c,d,e⟩:=Classical.choose_spec h.2.2;obtain⟨g,f,i⟩:=Wq b c d;rw[<- A.inj _ _ e,<- f]
def P5 {α γ:Type} {ty:Nat} {E:iF γ} {A:jH α} {F:List γ->α->Option (List γ)} {lent:Option (D×Row)} {d:List D} {e:RK} {c:Option Row} (h:mkE ty E A F lent d=some (e,c)) :
  ∃pre l post a r,lent=some (.buf 0 0 E.size pre.length l.length,⟨0,ty,pre++(ae E l++post),false,true,false⟩)∧d=A.ds a∧F l a=some r∧e=.fresh ty E.size r.length (ae E r)∧c=none:=by
 unfold mkE at h;split at h
 ·split at h
  ·rename_i b;obtain⟨rfl,rfl,b⟩:=b;rw[aip]at h;obtain⟨r,g,f⟩:=h;simp only[Prod.mk.injEq]at f;obtain⟨rfl,rfl⟩:=f;obtain⟨i,j,k,m⟩:=Classical.choose_spec b;refine⟨(Classical.choose b).1,(Classical.choose b).2.1,(Classical.choose b).2.2.1,(Classical.choose b).2.2.2,r,?_,m,g,rfl,rfl⟩;rw[<- i,<- j,<- k]
  ·cases h
 ·cases h
def bZ.afJ {P:Program} {T:Nat->Option Ty} {Γ:Env} (g:ji P T) (i:bI P Γ) (j:P.follows .mixedOrders=true) {α γ:Type} {ty:Nat} {E:iF γ} {A:jH α} {F:List γ->α->Option (List γ)} {f:FuncId} {b:Func} (e:P.funcs[f]? = some b) (d:(match b.body with|some c=>codeOk c|none=>true)=true)
  (k:(b.name == "runtime.NumGoroutine")=false∧b.body.isNone=false) (m:∀a,(A.ds a).length+1<=b.ntmps)
  (h:∀pre post l a r,F l a=some r->lT (.fresh ty E.size) T Γ FU b (some (.buf 0 0 E.size pre.length l.length,⟨0,ty,pre++(ae E l++post),false,true,false⟩)) (A.ds a)=some (.fresh ty E.size r.length (ae E r),none)):bZ P f (mkE ty E A F) where
 calls lent aim rk out n:=by
  obtain⟨pre,l,post,a,r,rfl,rfl,o,rfl,rfl⟩:=P5 n;exact lk g i j e d (m a) rfl (h pre post l a r o)
 callable:=⟨b,e,k⟩
def bZ.zero {P:Program} {f:FuncId} {b:Func} (d:P.funcs[f]? = some b) (e:(b.name == "runtime.NumGoroutine")=false∧b.body.isNone=false) {α β:Type} {A:jH α} {F:α->Option β} {R:β->RK} (g:∀a,F a=none):bZ P f (dN A F R) where
 calls lent aim rk out h:=by
  obtain⟨rfl,rfl,a,r,rfl,c,rfl⟩:=sb h;rw[g]at c;cases c
 callable:=⟨b,d,e⟩
section
variable {h:Nat->Option Row} {Γ:Env} {g e x v d:Nat} {dst:Option Nat} {fr:List Nat} {aim rest:List D} {d0:D} {T:Nat->Option Ty} {rs:List ResultVar}
def ND (h:Nat->Option Row) (e:Nat) (dst:Option Nat) (x v:Nat) (fr:List Nat):Option (RK×Option Row)->Option ca
 | some (.clean c,some a)=>some ⟨c,kb h fr++[(x,some { a with v:=v })]⟩
 | some (.same s o n,some a)=>some ⟨.buf x v s o n,kb h fr++[(x,some { a with v:=v })]⟩
 | some (.fresh ty s n cells,none) =>
  match dst with
  | some d=>if fr.contains d=false then some ⟨.buf d e s 0 n,kb h fr++[(x,none),(d,some ⟨e,ty,cells,false,true,false⟩)]⟩ else none
  | none=>none
 | _=>none
def YR (Γ:Env) (h:Nat->Option Row) (e:Nat) (dst:Option Nat) (g x v:Nat) (d0:D) (r:Row):Option (List D×List Nat)->Option ca
 | some (aim,fr)=>if fr.contains x=false then ND h e dst x v fr (Γ.sem g (some (d0,r)) aim) else none
 | none=>none
def NC (Γ:Env) (h:Nat->Option Row) (e:Nat) (dst:Option Nat) (g x v:Nat) (d0:D) (rest:List D):Option Row->Option ca
 | some r=>if r.fz=false then YR Γ h e dst g x v d0 { r with v:=0 } (bQ h rest) else none
 | none=>none
def NF {s o n:Nat} : D3 true Γ h e dst g (.buf x v s o n::rest)=NC Γ h e dst g x v (.buf 0 0 s o n) rest (live h x v):=by
 simp only[D3,if_true,rG,A9];cases live h x v with
 | none=>rfl
 | some r =>
  simp only[NC];cases bQ h rest with
  | none=>rfl
  | some p=>rfl
def lvR (v:Nat):Option Row->Option Row
 | some r=>if r.v=v∧r.mp=true∧vx r=true then some r else none
 | none=>none
def PW {v ty:Nat} {b:List dx} {vs:List D} {fz lst:Bool} (a:ty<900000):lvR v (some ⟨v,ty,[.mpc b vs],fz,lst,true⟩)=some ⟨v,ty,[.mpc b vs],fz,lst,true⟩:=by simp[lvR,vx,a]
def UJ:D3 true Γ h e dst g (.mp x v::rest)=NC Γ h e dst g x v (.mp 0 0) rest (lvR v (h x)):=by
 simp only[D3,if_true,rG,A9];have:Ac h x v=lvR v (h x):=by unfold Ac lvR;cases h x<;>rfl
 rw[this];cases lvR v (h x) with
 | none=>rfl
 | some r =>
  simp only[NC];cases bQ h rest with
  | none=>rfl
  | some p=>rfl
def AG {c:D} {a ty:Nat} {cells:List D} {fz lst:Bool} : ND h e dst x v fr (some (.clean c,some ⟨a,ty,cells,fz,lst,true⟩))=some ⟨c,kb h fr++[(x,some ⟨v,ty,cells,fz,lst,true⟩)]⟩:=alM
def EY {r:Row} : NC Γ h e dst g x v d0 rest (some r)=if r.fz=false then YR Γ h e dst g x v d0 { r with v:=0 } (bQ h rest) else none:=alM
def EZ {r:Row} : YR Γ h e dst g x v d0 r (some (aim,fr))=if fr.contains x=false then ND h e dst x v fr (Γ.sem g (some (d0,r)) aim) else none:=alM
def C2 {c:D} {a ty:Nat} {cells:List D} {fz lst:Bool} : ND h e dst x v fr (some (.clean c,some ⟨a,ty,cells,fz,lst,false⟩))=some ⟨c,kb h fr++[(x,some ⟨v,ty,cells,fz,lst,false⟩)]⟩:=alM
def C3 {s n ty:Nat} {cells:List D} : ND h e (some d) x v fr (some (.fresh ty s n cells,none))=if fr.contains d=false then some ⟨.buf d e s 0 n,kb h fr++[(x,none),(d,some ⟨e,ty,cells,false,true,false⟩)]⟩ else none:=alM
def Dr {ty a i:Nat} {t:Nat->D} {l:D×Row} : gi (.fresh ty a) T (some l) [.tmp i] ⟨t,h,e⟩=qY ty a h (t i):=alM
def afz (y v s o:Nat):Option Row->Option Ty->Option (Nat×Nat)->Option ca
 | some _,some φ,some (l,k)=>if φ.size=s∧0<s then some ⟨.buf y v s (o+l*s) (k-l),[]⟩ else none
 | _,_,_=>none
def JE {y v s o l k:Nat} {r:Row} {φ:Ty} : afz y v s o (some r) (some φ) (some (l,k))=if φ.size=s∧0<s then some ⟨.buf y v s (o+l*s) (k-l),[]⟩ else none:=alM
def U9 {el b c y v s o n:Nat} {z:List Value} {q:Bool} {a d:Option D} : ik T ⟨.slice el,b,c,z,q⟩ h (.buf y v s o n) a d none=afz y v s o (live h y v) (T el) (zt n a d):=by
 simp only[ik];cases live h y v with
 | none=>rfl
 | some r =>
  simp only;cases T el with
  | none=>rfl
  | some φ =>
   cases zt n a d with
   | none=>rfl
   | some p=>rfl
def aeg (ty:Nat):Option (List D×List Nat)->Option Row->Option (RK×Option Row)
 | some (a,fr),some r=>if r.v=0∧r.fz=false∧r.ty=ty∧r.mp=false∧fr.contains 0=false then some (.clean (mS a),some r) else none
 | _,_=>none
def JA {ty:Nat} {a:List D} {r:Row} : aeg ty (some (a,fr)) (some r)=if r.v=0∧r.fz=false∧r.ty=ty∧r.mp=false∧fr.contains 0=false then some (.clean (mS a),some r) else none:=alM
def JB {t:Nat->D} {ty v:Nat} {cells:List D} {fz lst:Bool} : gi .clean T (some (d0,⟨v,ty,cells,fz,lst,false⟩)) rs ⟨t,h,e⟩=aeg ty (vK T ⟨t,h,e⟩ rs) (h 0):=by
 simp only[gi,rR,mC,aat,aeg];cases vK T ⟨t,h,e⟩ rs with
 | none=>rfl
 | some p =>
  obtain⟨b,fr⟩:=p;cases h 0 with
  | none=>rfl
  | some r =>
   simp only
   by_cases h1:r.v=0∧r.fz=false∧r.ty=ty∧r.mp=false
   ·rw[if_pos ⟨h1.1,h1.2.1,h1.2.2.1,h1.2.2.2,Gn h1.2.2.2⟩];simp only[ai3]
    by_cases h2:fr.contains 0=false
    ·rw[if_pos h2,if_pos ⟨h1.1,h1.2.1,h1.2.2.1,h1.2.2.2,h2⟩]
    ·rw[if_neg h2,if_neg (fun a=>h2 a.2.2.2.2)]
   ·rw[if_neg (fun a=>h1 ⟨a.1,a.2.1,a.2.2.1,a.2.2.2.1⟩),if_neg (fun a=>h1 ⟨a.1,a.2.1,a.2.2.1,a.2.2.2.1⟩)]
def U5 (ty:Nat):Option (List D×List Nat)->Option Row->Option (RK×Option Row)
 | some (a,fr),some r=>if r.v=0∧r.fz=false∧r.ty=ty∧(r.mp=true∧vx r=true)∧fr.contains 0=false then some (.clean (mS a),some r) else none
 | _,_=>none
def FE {ty:Nat} {b:List D} {c:List dx} {vs:List D} {lst:Bool} (a:ty<900000):U5 ty (some (b,fr)) (some ⟨0,ty,[.mpc c vs],false,lst,true⟩)=if fr.contains 0=false then some (.clean (mS b),some ⟨0,ty,[.mpc c vs],false,lst,true⟩) else none:=by
 simp[U5,vx,a]
def FH {t:Nat->D} {ty v:Nat} {cells:List D} {fz lst:Bool} : gi .clean T (some (d0,⟨v,ty,cells,fz,lst,true⟩)) rs ⟨t,h,e⟩=U5 ty (vK T ⟨t,h,e⟩ rs) (h 0):=by
 simp only[gi,rR,mC,aat,U5];cases vK T ⟨t,h,e⟩ rs with
 | none=>rfl
 | some p =>
  obtain⟨b,fr⟩:=p;cases h 0 with
  | none=>rfl
  | some r =>
   simp only
   by_cases h1:r.v=0∧r.fz=false∧r.ty=ty∧(r.mp=true∧vx r=true)
   ·rw[if_pos h1];simp only[ai3]
    by_cases h2:fr.contains 0=false
    ·rw[if_pos h2,if_pos ⟨h1.1,h1.2.1,h1.2.2.1,h1.2.2.2,h2⟩]
    ·rw[if_neg h2,if_neg (fun a=>h2 a.2.2.2.2)]
   ·rw[if_neg h1,if_neg (fun a=>h1 ⟨a.1,a.2.1,a.2.2.1,a.2.2.2.1⟩)]
end
section
variable {α:Type} (E:iF α) {l m u x:List α} {y y':α} {i a b:Int} {pre post:List D}
def acX (h:Eg l a b=some x):ae E (l.take a.toNat)++(ae E x++ae E (l.drop b.toNat))=ae E l:=by
 unfold Eg at h;split at h
 ·rename_i c;cases h;rw[<- gQ,<- gQ];congr 1;have e:l.drop b.toNat=(l.drop a.toNat).drop (b.toNat-a.toNat):=by rw[akm];congr 1;omega
  rw[e,akn,akn]
 ·cases h
def acY (h:Eg l a b=some x):(ae E (l.take a.toNat)).length=a.toNat*E.size:=by
 unfold Eg at h;split at h
 ·rw[bA,aiK,ajF (by omega)]
 ·cases h
def adY (h:Eg l a b=some x):x.length=b.toNat-a.toNat:=by
 unfold Eg at h;split at h
 ·cases h;simp;omega
 ·cases h
def acW:ae E (l.take i.toNat)++(ae E u++ae E (l.drop b.toNat))=ae E (l.take i.toNat++(u++l.drop b.toNat)):=by rw[gQ,gQ]
def ZU (h:P.idx l i=some y):(pre++(ae E l++post)).drop (pre.length+i.toNat*E.size)=E.cells y++(ae E (l.drop (i.toNat+1))++post):=by
 rw[<- akm,List.drop_left,ajQ (by rw[bA];have:=lv E h;omega),A7 E h,ajP]
def ZV (h:P.idx l i=some y):pre.length+i.toNat*E.size+E.size<=(pre++(ae E l++post)).length:=by
 have:=lv E h;rw[ajB,ajB,bA];omega
def Pn (h:P.idx l i=some y):(0<=i∧i<l.length)∧(pre++(ae E l++post)).drop (pre.length+i.toNat*E.size)=E.cells y++(ae E (l.drop (i.toNat+1))++post)∧pre.length+i.toNat*E.size+E.size<=(pre++(ae E l++post)).length:=⟨rX h,ZU E h,ZV E h⟩
def QT (h:P.idx l i=some y):putCells (pre++(ae E l++post)) (pre.length+i.toNat*E.size) (E.cells y')=pre++(ae E (l.set i.toNat y')++post):=by
 have a:=aaC E (x':=y') h;have d:=lv E h;have e:=bA E l;unfold putCells at a ⊢;rw[<- a,E.len];have b:(pre++(ae E l++post)).take (pre.length+i.toNat*E.size)=pre++(ae E l).take (i.toNat*E.size):=by
  rw[ajS,ajU (by omega),ajR,ajT (by omega)]
 have c:(pre++(ae E l++post)).drop (pre.length+i.toNat*E.size+E.size)=(ae E l).drop (i.toNat*E.size+E.size)++post:=by
  rw[aiM,akj,akk (by omega),ajR,akh,ajQ (by omega)]
 rw[b,c];simp only[ajP]
def abu (h:Eg l a b=some x) (c:u.length=x.length):(l.take a.toNat++(u++l.drop b.toNat)).length=l.length:=by
 have d:=adY h;unfold Eg at h;split at h
 ·simp only[ajB,aiK,aiL];omega
 ·cases h
def acK (h:Eg l 0 b=some x):pre.length+x.length*E.size<=(pre++(ae E l++post)).length∧((pre++(ae E l++post)).drop pre.length).take (x.length*E.size)=ae E x:=by
 obtain⟨d,e,a,f,c⟩:=MO E h;have:=ajd E.size a;refine⟨by rw[ajB,ajB,bA];omega,?_⟩;rw[List.drop_left,ajT (by rw[bA];exact this),c]
end
section
variable {h:Nat->Option Row} {Γ:Env} {e:Nat} {dst:Option Nat}
def caP:Option (D×List Nat)->Option (List D×List Nat)->Option (List D×List Nat)
 | some (d,fr),some (ds,a)=>some (d::ds,fr++a)
 | _,_=>none
def NB {d:D} {b:List D} {fr a:List Nat} : caP (some (d,fr)) (some (b,a))=some (d::b,fr++a):=alM
def NR:dJ h []=some ([],[]):=alM
def I5 {d:D} {a:List D} : dJ h (d::a)=caP (bF h d) (dJ h a):=by
 simp only[dJ];cases bF h d with
 | none=>rfl
 | some x=>cases dJ h a<;>rfl
def clC (f k:Nat):Option (List D×List Nat)->Option (D×List Nat)
 | some (a,fr)=>some (.clo f k a,fr)
 | none=>none
def NY {f k:Nat} {a:List D} {fr:List Nat} : clC f k (some (a,fr))=some (.clo f k a,fr):=alM
def NU {f k:Nat} {xs:List D} : ch h (.clo f k xs)=clC f k (dJ h xs):=by
 simp only[ch]<;>cases dJ h xs<;>rfl
def NO {g k:Nat} {a b:List D} : jq Γ h e dst (.clo g k a) b=if a.all s9 then D3 false Γ h e dst g (a.take k++(b++a.drop k)) else none:=by
 simp only[jq,D3,ai1,if_false]
end
def Hf:mS []=.tup []:=alM
def Yc (f:Nat):Arg Unit:=⟨fun _ =>.fn f,fun _ _ _=>rfl⟩
def ac9 {f:Nat} {x:Unit} : (Yc f).d x=.fn f:=alM
def Lr {α:Type} (f k:Nat) (a:jH α):Arg α:=⟨fun x =>.clo f k (a.ds x),fun x y h=>a.inj _ _ (by simpa using h)⟩
def Yv {α:Type} {f k:Nat} {a:jH α} {x:α} : (Lr f k a).d x=.clo f k (a.ds x):=alM
def vm7:=ai @NB<|ai @NR<|ai @I5<|ai @NY<|ai @NU<|ai @NO<|ai @Hf<|ai @AQ<|@UB
def vm6:=ai @Q3<|ai @aju<|ai @U9<|ai @JE<|ai @C3<|ai @Dr<|ai @NF<|ai @UJ<|ai @PW<|ai @AG<|ai @FE<|ai @FH<|ai @EY<|ai @EZ<|ai @C2<|ai @JA<|@JB
section
variable {T:Nat->Option Ty} {h:Nat->Option Row} {τ:Ty} {q:Nat->Bool}
def Z6 {x v o:Nat} : rL τ h (.ptr x v o)=tD τ h x v o (live h x v):=alM
def adr {xs:List D} : rL τ h (.ip xs)=ff τ h (.ip xs):=alM
def adp {x v o a ty:Nat} {c:List D} {fz:Bool} : tD τ h x v o (some ⟨a,ty,c,fz,true,false⟩)=ff τ h (.ptr x v o):=by
 simp only[tD,ajW,Bool.and_false,ai1,if_false]
def adq {x v o a ty:Nat} {c:List D} {lst:Bool} : tD τ h x v o (some ⟨a,ty,c,false,lst,false⟩)=ff τ h (.ptr x v o):=by
 simp only[tD,akA,ai1,if_false]
def V9 {p:D} {k:IntKind} {n:Int} : il τ h p (.int k n)=im τ h p (.int k n):=alM
def V8 {p:D} {x v s o n:Nat} : il τ h p (.buf x v s o n)=im τ h p (.buf x v s o n):=alM
def V7 {p:D} {xs:List D} : il τ h p (.agg xs)=im τ h p (.agg xs):=alM
def aft (b:Bool) (T:Nat->Option Ty) (τ:Ty) (h:Nat->Option Row) (a:List (Nat×D)):Option ca :=
 if b then ij T τ h a else
  match τ.ds,a with
  | .struct fs,[(0,.buf x v s o n)]=>if (alive h (.buf x v s o n))∧(fs.all fun f=>(T f.1).isSome)∧fieldAt T fs 0=some (0,1)∧τ.zero.length=1 then some ⟨.box1 x v s o n,[]⟩ else none
  | .struct fs,[(0,.box1 x v s o n)]=>if (alive h (.buf x v s o n))∧(fs.all fun f=>(T f.1).isSome)∧fieldAt T fs 0=some (0,1)∧τ.zero.length=1 then some ⟨.box1 x v s o n,[]⟩ else none
  | _,_=>cE (ij T τ h a)
def UG {d:Nat} {a:List (Nat×D)} : rJ q T τ h (some d) a=aft (q d) T τ h a:=alM
def IQ {a:List (Nat×D)} : aft true T τ h a=ij T τ h a:=alM
def IG {x v s o n:Nat} : alive h (.buf x v s o n)=(pM h x v).isSome:=alM
end
def vm8:=ai @Z6<|ai @adr<|ai @adp<|ai @adq<|ai @V9<|ai @V8<|ai @V7<|ai @UG<|ai @IQ<|@IG
def ag8:=ai @Yg<|ai @acZ<|ai @KQ<|ai @VY<|ai @aaM<|ai @Qb<|ai @Qa<|ai @adQ<|ai @JU<|ai @JT<|ai @OQ<|ai @Kn<|ai @Gz<|ai @Qd<|ai @VR<|ai @VX<|ai @PJ<|ai @aaf<|ai @Vs<|ai @J1<|ai @Vq<|ai @PC<|ai @Vr<|ai @V4<|ai @KY<|ai @KZ<|ai @KX<|ai @Ru<|ai @K6<|ai @QL<|ai @QK<|ai @Vp<|ai @Z4<|ai @Z5<|ai @J0<|ai @V1<|ai @aaV<|ai @aaW<|ai @Rx<|ai @Rw<|ai @Lg<|ai @Lh<|ai @HU<|ai @Wu<|ai @Wt<|ai @RU<|ai @Wm<|ai @abl<|ai @VL<|ai @aau<|@kG
def ag9:=ai @Vc<|ai @Pw<|ai @Kj<|ai @Qp<|ai @GC<|ai @Qr<|ai @Qq<|ai @Kr<|ai @Qo<|ai @Qn<|ai @KU<|ai @K4<|ai @KT<|ai @K3<|ai @V2<|ai @V5<|ai @KV<|ai @K5<|ai @Kb<|ai @Kc<|ai @Ns<|ai @Nt<|ai @Rs<|ai @KW<|ai @Rt<|ai @IK<|ai @IJ<|@pM.eq_1
def aha:=ai @ZJ<|ai @Vm<|ai @Vk<|ai @VJ<|ai @Ki<|ai @Kl<|ai @PN<|ai @PR<|ai @Gj<|ai @PS<|ai @PQ<|ai @J6<|ai @PM<|ai @PL<|ai @PO<|ai @Ql<|ai @Qi<|ai @GB<|ai @Qm<|ai @Qk<|ai @Kq<|ai @Qh<|ai @Qg<|ai @Qj<|ai @I2<|ai @C8<|ai @C6<|ai @C7<|ai @N4<|ai @N5<|ai @ZA<|ai @UY<|ai @Zz<|ai @UX<|ai @Ou<|ai @Ov<|ai @NJ<|ai @I1<|ai @Rp<|ai @KS<|ai @Rq<|ai @A2<|ai @Jz<|ai @Jy<|ai @U6<|ai @OI<|ai @U3<|ai @Jw<|@OG
def v:=ai @vmc<|ai @vmk<|ai @vm1<|ai @vm2<|ai @vm3<|ai @vm4<|ai @vm5<|ai @vm6<|ai @vm7<|ai @vm8<|ai @ag7<|ai @ag8<|ai @ag9<|ai @aha<|ai @vmu<|ai @Option.toList_some.{0}<|@Option.toList_none.{0}
class BI (κ:Type) where
 k:κ->dx
 inj:∀x y,k x=k y->x=y
instance:BI Int:=⟨fun n=>(n,none),fun x y h=>by simpa using h⟩
instance:BI (Int×Int):=⟨fun p=>(p.1,some p.2),fun x y h=>by
 obtain⟨a,b⟩:=x;obtain⟨c,d⟩:=y;simpa using h⟩
def eR {κ α:Type} [BI κ]:List (κ×α)->List dx
 | []=>[]
 | (k,_)::m=>BI.k k::eR m
def gJ {κ α:Type} (A:Arg α):List (κ×α)->List D
 | []=>[]
 | (_,v)::m=>A.d v::gJ A m
section
variable {κ α:Type} [BI κ] {A:Arg α}
def PA (k n:κ):BI.k k=BI.k n↔k=n:=⟨BI.inj _ _,fun h=>by rw[h]⟩
def P0 [DecidableEq κ] (n:κ):∀m:List (κ×α),(eR m).contains (BI.k n)=nS m n
 | []=>rfl
 | (k,v)::m=>by
  have:=P0 n m;simp only[eR,aju,nS,this];congr 1
  by_cases h:k=n
  ·subst h;rw[beq_self_eq_true,beq_self_eq_true]
  ·rw[beq_eq_false_iff_ne.2 h,beq_eq_false_iff_ne.2 (fun e=>h (BI.inj _ _ e.symm))]
def P3:∀m:List (κ×α),(eR m).length=m.length
 | []=>rfl
 | (k,v)::m=>by simp[eR,P3 m]
def J7 [DecidableEq κ] (z:α) (n:κ):∀m:List (κ×α),s6 (A.d z) (eR m) (gJ A m) (BI.k n)=A.d (fS z m n)
 | []=>rfl
 | (k,v)::m=>by
  simp only[eR,gJ,s6,fS,J7 z n m,PA]
  by_cases h:k=n<;>simp[h]
def QQ [DecidableEq κ] (n:κ) (v:α):∀m:List (κ×α),Ak (eR m) (BI.k n)=eR (sj m n v)
 | []=>rfl
 | (k,x)::m=>by
  have a:=QQ n v m;unfold Ak at a ⊢;simp only[eR,sj,aju]
  by_cases h:k=n
  ·subst h;simp[eR]
  ·have b:(BI.k n==BI.k k)=false:=by simpa [PA] using Ne.symm h
   rw[b,ajv,if_neg h];simp only[eR];rw[<- a];cases (eR m).contains (BI.k n)<;>rfl
def QS [DecidableEq κ] (n:κ) (v:α):∀m:List (κ×α),Ed (eR m) (gJ A m) (BI.k n) (A.d v)=gJ A (sj m n v)
 | []=>rfl
 | (k,x)::m=>by
  have a:=QS n v m;unfold Ed at a ⊢;simp only[eR,gJ,sj,aju]
  by_cases h:k=n
  ·subst h;simp[gJ,ajt]
  ·have b:(BI.k n==BI.k k)=false:=by simpa [PA] using Ne.symm h
   have c:(BI.k k==BI.k n)=false:=by simpa [PA] using h
   rw[b,ajv,if_neg h];simp only[gJ,ajt,c,cond_false];rw[<- a];cases (eR m).contains (BI.k n)<;>rfl
def map_inj:∀ {m a:List (κ×α)},eR m=eR a->gJ A m=gJ A a->m=a
 | [],[],_,_=>rfl
 | [],(k,v)::a,h,_=>by simp[eR]at h
 | (k,v)::m,[],h,_=>by simp[eR]at h
 | (k,v)::m,(k',v')::a,h,g=>by
  simp only[eR,aiP,PA]at h;simp only[gJ,aiP]at g;rw[h.1,A.inj _ _ g.1,map_inj h.2 g.2]
end
def JZ {α:Type} {a b:Int} {m:List ((Int×Int)×α)} : rY true (a,some b) (eR m)=true:=by
 unfold rY;simp only[ai2];refine⟨rfl,?_⟩
 induction m with
 | nil=>rfl
 | cons p m c=>simp only[eR,List.all_cons,ai2];exact⟨rfl,c⟩
def jT {κ ν α β:Type} [BI κ] (ty:Nat) (V:Arg ν) (A:jH α) (F:List (κ×ν)->α->Option (List (κ×ν)×β)) (R:β->RK):Option (D×Row)->List D->Option (RK×Option Row):=fun lent a =>
 match lent with
 | some (.mp 0 0,⟨0,ty',[.mpc ks vs],false,true,true⟩)=>open Classical in
  if h:ty'=ty∧∃p:List (κ×ν)×α,ks=eR p.1∧vs=gJ V p.1∧a=A.ds p.2 then
   (F (Classical.choose h.2).1 (Classical.choose h.2).2).map fun r=>(R r.2,some ⟨0,ty,[.mpc (eR r.1) (gJ V r.1)],false,true,true⟩)
  else none
 | _=>none
def aev {κ ν α β:Type} [BI κ] (ty:Nat) (V:Arg ν) (A:jH α) (F:List (κ×ν)->α->Option (List (κ×ν)×β)) (R:β->RK) (l:List (κ×ν)) (a:α) :
  jT ty V A F R (some (.mp 0 0,⟨0,ty,[.mpc (eR l) (gJ V l)],false,true,true⟩)) (A.ds a)=(F l a).map fun r=>(R r.2,some ⟨0,ty,[.mpc (eR r.1) (gJ V r.1)],false,true,true⟩):=by
 have h:ty=ty∧∃p:List (κ×ν)×α,eR l=eR p.1∧gJ V l=gJ V p.1∧A.ds a=A.ds p.2:=⟨rfl,(l,a),rfl,rfl,rfl⟩;simp only[jT];rw[dif_pos h];obtain⟨b,c,d⟩:=Classical.choose_spec h.2;rw[<- A.inj _ _ d,<- map_inj b c]
def aak {κ ν α β:Type} [BI κ] {ty:Nat} {V:Arg ν} {A:jH α} {F:List (κ×ν)->α->Option (List (κ×ν)×β)} {R:β->RK} {lent:Option (D×Row)} {e:List D} {f:RK} {b:Option Row} (h:jT ty V A F R lent e=some (f,b)) :
  ∃l a c r,lent=some (.mp 0 0,⟨0,ty,[.mpc (eR l) (gJ V l)],false,true,true⟩)∧e=A.ds a∧F l a=some (c,r)∧f=R r∧b=some ⟨0,ty,[.mpc (eR c) (gJ V c)],false,true,true⟩:=by
 unfold jT at h;split at h
 ·split at h
  ·rename_i d;obtain⟨rfl,d⟩:=d;rw[aip]at h;obtain⟨⟨c,r⟩,i,g⟩:=h;simp only[Prod.mk.injEq]at g;obtain⟨rfl,rfl⟩:=g;obtain⟨j,k,m⟩:=Classical.choose_spec d;refine⟨_,_,c,r,?_,m,i,rfl,rfl⟩;rw[<- j,<- k]
  ·cases h
 ·cases h
def bZ.aac {P:Program} {T:Nat->Option Ty} {Γ:Env} (i:ji P T) (j:bI P Γ) (k:P.follows .mixedOrders=true) {κ ν α β:Type} [BI κ] {ty:Nat} {V:Arg ν} {A:jH α} {F:List (κ×ν)->α->Option (List (κ×ν)×β)} {R:β->RK} {f:FuncId} {b:Func} (g:P.funcs[f]? = some b) (e:(match b.body with|some c=>codeOk c|none=>true)=true)
  (m:(b.name == "runtime.NumGoroutine")=false∧b.body.isNone=false) (n:∀a,(A.ds a).length+1<=b.ntmps)
  (h:∀l a d r,F l a=some (d,r)->lT .clean T Γ FU b (some (.mp 0 0,⟨0,ty,[.mpc (eR l) (gJ V l)],false,true,true⟩)) (A.ds a)=some (R r,some ⟨0,ty,[.mpc (eR d) (gJ V d)],false,true,true⟩)):bZ P f (jT ty V A F R) where
 calls lent aim rk out o:=by
  obtain⟨l,a,d,r,rfl,rfl,p,rfl,rfl⟩:=aak o;exact lk i j k g e (n a) rfl (h l a d r p)
 callable:=⟨b,g,m⟩
def RS {T:Nat->Option Ty} {Γ:Env} {F:Nat} {a:Mode} {d:Func} {c:Code} {n:Nat} {rs:List ResultVar} {d0:D} {ty:Nat} {cells:List D} {fz lst:Bool} {b:List D} {r:RK×Option Row} (g:d.body=some c) (f:d.ntmps=n) (h:d.results=rs.toArray)
  (i:dD T Γ n F [.code c] (ZH a T (some (d0,⟨0,ty,cells,fz,lst,true⟩)) rs r) .normal (AE (d0::b)) (nD ⟨0,ty,cells,fz,lst,true⟩) 1) (e:n<=1000000:=by exact aki rfl):lT a T Γ F d (some (d0,⟨0,ty,cells,fz,lst,true⟩)) b=some r:=by
 refine Ud ?_ (by rw[f];exact e);unfold wpf;rw[g,f,h];exact i
def Wx {α:Type} (e:iF α):Arg α:=⟨fun x =>.ip (e.cells x),fun x y h=>e.inj _ _ (by simpa using h)⟩
def ada {α:Type} (e:iF α) (x:α):(Wx e).d x=.ip (e.cells x):=alM
section
variable {T:Nat->Option Ty} {h:Nat->Option Row} {Γ:Env} {e:Nat} {dst:Option Nat}
def lvM (v:Nat):Option Row->Option (List dx×List D)
 | some r=>if r.v=v∧r.mp=true∧r.ty<900000 then (match r.cells with | [.mpc a vs]=>some (a,vs)|_=>none) else none
 | none=>none
def PI {x v:Nat} : lS h x v=lvM v (h x):=by
 unfold lS lvM;cases h x<;>rfl
def PV {v ty:Nat} {b:List dx} {vs:List D} {fz lst:Bool} (a:ty<900000):lvM v (some ⟨v,ty,[.mpc b vs],fz,lst,true⟩)=some (b,vs):=by simp[lvM,a]
def lkK (a:List dx) (n:dx):Bool:=a.contains n
def Vv {α:Type} {m:List ((Int×Int)×α)} {a b:Int} : lkK (eR m) (a,some b)=nS m (a,b):=P0 (a,b) m
def lkE (b c:Bool) (z:D) (n:dx):Option (List dx×List D)->Option ca
 | some (a,vs)=>if rY b n a=true then some ⟨if c then .tup [s6 z a vs n,.bool (lkK a n)] else s6 z a vs n,[]⟩ else none
 | none=>none
def adD {b:Bool} {z:D} {n:dx} {a:List dx} {vs:List D} : lkE b true z n (some (a,vs))=if rY b n a=true then some ⟨.tup [s6 z a vs n,.bool (lkK a n)],[]⟩ else none:=alM
def Ws (T:Nat->Option Ty) (τ:Ty) (b:Bool) (d:D):Prop:=∃φ z,Gp T τ=some (b,φ)∧kU φ (φ.zero.map pq)=some z∧(φ.zero.map pq).all bn=true∧jw z=d
def aer {τ:Ty} {b:Bool} {d:D} (c:Ws T τ b d) {m i:D} {n:dx} {a:Bool} (e:Xe i=some n):iL T τ h m i a=lkE b a d n (mapOf h m):=by
 obtain⟨φ,z,f,g,j,rfl⟩:=c;simp only[iL,f,e,lkE,lkK];cases mapOf h m with
 | none=>rfl
 | some p=>obtain⟨k,vs⟩:=p;simp only[g,j,and_true]
def P4 {x v:Nat} : mapOf h (.mp x v)=lS h x v:=alM
def muR (b:Bool) (h:Nat->Option Row) (y:Nat) (n:dx) (d:D) (fr:List Nat) (a:List dx) (vs:List D):Option Row->Option ca
 | some r=>if rY b n a=true∧r.fz=false∧fr.contains y=false then some ⟨.und,kb h fr++[(y,some ⟨r.v,r.ty,[.mpc (Ak a n) (Ed a vs n d)],false,true,true⟩)]⟩ else none
 | none=>none
def P9 {b:Bool} {y v ty:Nat} {n:dx} {d:D} {fr:List Nat} {a:List dx} {vs:List D} {cells:List D} {lst mp:Bool} : muR b h y n d fr a vs (some ⟨v,ty,cells,false,lst,mp⟩)=if rY b n a=true then (if fr.contains y=false then some ⟨.und,kb h fr++[(y,some ⟨v,ty,[.mpc (Ak a n) (Ed a vs n d)],false,true,true⟩)]⟩ else none) else none:=by
 simp only[muR,true_and]
 by_cases c:rY b n a=true<;>simp[c]
def muM (b:Bool) (h:Nat->Option Row) (y:Nat) (n:dx) (d:D) (fr:List Nat):Option (List dx×List D)->Option ca
 | some (ks,vs)=>muR b h y n d fr ks vs (h y)
 | none=>none
def P8 {b:Bool} {y:Nat} {n:dx} {d:D} {fr:List Nat} {a:List dx} {vs:List D} : muM b h y n d fr (some (a,vs))=muR b h y n d fr a vs (h y):=alM
def muE (b:Bool) (h:Nat->Option Row) (y v:Nat) (n:dx):Option (D×List Nat)->Option ca
 | some (d,fr)=>muM b h y n d fr (lS h y v)
 | none=>none
def P7 {b:Bool} {y v:Nat} {n:dx} {d:D} {fr:List Nat} : muE b h y v n (some (d,fr))=muM b h y n d fr (lS h y v):=alM
def aey {τ:Ty} {b:Bool} {d:D} (a:Ws T τ b d) {y v:Nat} {n:dx} {i x:D} (c:Xe i=some n):ej T τ h (.mp y v) i x=muE b h y v n (y5 h x):=by
 obtain⟨φ,z,e,_⟩:=a;simp only[ej,e,c];cases y5 h x with
 | none=>rfl
 | some p =>
  obtain⟨d,fr⟩:=p;simp only[muE];cases f:lS h y v with
  | none=>simp only[muM]<;>cases h y<;>rfl
  | some q =>
   obtain⟨g,vs⟩:=q;simp only[muM]<;>cases h y<;>rfl
def J9 {κ α:Type} [BI κ] {m:List (κ×α)} : (eR m).length=m.length:=P3 m
def RQ {xs:List D} : y5 h (.agg xs)=some (.agg (xs.map canon),[]):=alM
def acs {τ:Ty} {b:Bool} {d:D} (f:Ws T τ b d) {ty a:Nat} (c:ty<900000):aan T (some τ) ty e a=some ⟨.mp a e,[(a,some ⟨e,ty,[.mpc [] []],false,true,true⟩)]⟩:=by
 obtain⟨φ,z,g,_⟩:=f;exact aao g c
def YW {xs:List D} : bF h (.ip xs)=some (.ip xs,[]):=alM
def UL {x v o:Nat} : bF h (.ptr x v o)=clP x o (live h x v):=by
 simp only[bF];cases live h x v with
 | none=>rfl
 | some r=>simp only[clP]
def VM {x v o:Nat} : s9 (.ptr x v o)=true:=alM
def aav {xs:List D} : s9 (.ip xs)=true:=alM
def ZP {v ty:Nat} {cells:List D} {fz mp:Bool} : wq ⟨v,ty,cells,fz,true,mp⟩=⟨v,ty,cells,true,true,mp⟩:=by cases fz<;>rfl
def Vi {d:Nat} : bf.hint d=none:=alM
def Pm {f:Nat} {l:Bool} {G:Option (D×Row)->List D->Option (RK×Option Row)} {d:Nat} : (Am.ext Γ f l G).hint d=Γ.hint d:=alM
def JY {d i:Nat} : (Am.keep d Γ).hint i=Γ.hint i:=alM
end
structure wo {α:Type} (E:iF α) (C:List D) (o:Nat) (l:List α):Prop where
 fit:o+l.length*E.size<=C.length
 eq:(C.drop o).take (l.length*E.size)=ae E l
def wo.self {α:Type} (E:iF α) (l:List α):wo E (ae E l) 0 l:=⟨by rw[bA];omega,by rw[ajV,<- bA,akD]⟩
def wo.split {α:Type} {E:iF α} {C:List D} {o:Nat} {l:List α} (F:wo E C o l):C.drop o=ae E l++C.drop (o+l.length*E.size):=by
 rw[<- akm]
 conv=>lhs;rw[<- akn (l.length*E.size) (C.drop o)]
 rw[F.eq]
def wo.idx {α:Type} {E:iF α} {C:List D} {o:Nat} {l:List α} {i:Int} {x:α} (F:wo E C o l) (h:P.idx l i=some x):o+i.toNat*E.size+E.size<=C.length∧∃rest,C.drop (o+i.toNat*E.size)=E.cells x++rest:=by
 have a:=lv E h;have b:=F.fit;refine⟨by omega,ae E (l.drop (i.toNat+1))++C.drop (o+l.length*E.size),?_⟩;rw[<- akm,F.split,ajQ (by rw[bA];omega),A7 E h,ajP]
def wo.tail {α:Type} {E:iF α} {C:List D} {o:Nat} {l m:List α} {a:Int} (F:wo E C o l) (h:Eg l a (l.length:Int)=some m):wo E C (o+a.toNat*E.size) m:=by
 obtain⟨c,d,e,f,b⟩:=aaN E h;have g:=F.fit;have i:a.toNat*E.size+m.length*E.size=l.length*E.size:=by rw[<- ajG];congr 1;omega
 refine⟨by omega,?_⟩;rw[<- akm,F.split,ajQ (by rw[bA];omega),ajT (by rw[aiL,bA];omega),b]
def ahb:=ai @PI<|ai @PV<|ai @Vv<|ai @JZ<|ai @J9<|ai @adD<|ai @P4<|ai @P9<|ai @P8<|ai @P7<|@RQ
def ahc:=ai @YW<|ai @UL<|ai @VM<|ai @aav<|ai @ZP<|ai @Vi<|ai @Pm<|ai @JY<|ai @KA<|@ada
def ahd:=ai @De<|ai @Ff<|ai @za<|@YJ
def bZ.ofB {P:Program} {T:Nat->Option Ty} {Γ:Env} (g:ji P T) (i:bI P Γ) (j:P.follows .mixedOrders=true) {α β:Type} {A:jH α} {F:α->Option β} {R:β->RK} {e:Mode} {f:FuncId} {d:Func} (k:P.funcs[f]? = some d)
  (b:((match d.body with|some c=>codeOk c|none=>true)&&(!(d.name == "runtime.NumGoroutine") && !d.body.isNone))=true) (l:∀a,Nat.ble (A.ds a).length d.ntmps=true) (h:∀a r,F a=some r->lT e T Γ FU d none (A.ds a)=some (R r,none)):bZ P f (dN A F R):=by
 rw[ai2,ai2]at b;exact bZ.of g i j k b.1 ⟨by simpa using b.2.1,by simpa using b.2.2⟩ (fun a=>aki (l a)) h
def YH {α β:Type} (a:Arg α) (b:jH β) (x:α×β):(fK a b).ds x=a.d x.1::b.ds x.2:=alM
def YG {α:Type} (a:Arg α) (x:α):(dy a).ds x=[a.d x]:=alM
def YF (x:Unit):as0.ds x=[]:=alM
def hZ:=ai @YH<|ai @YG<|ai @YF<|ai @afo<|ai @Ux<|ai @adb<|ai @Yu<|ai @ac9<|ai @Yv<|@ada
def vi:=ai @ahb<|ai @ahc<|@ahd
def afm (P:Program) (f:FuncId):Prop:=∀(blk a b:Nat) (zs:List Int) (w:World),Go.Sort.Holds (Value.int .i64) w blk a zs.toArray->blk<w.heap.size->zs.length<4611686018427387904 ->
 Calls P f #[.slice (some ⟨blk,a,none⟩) zs.length b] w fun e c=>e=.returned (.tuple #[])∧∃n d,c=Go.Sort.grow (Go.Sort.putRow (Value.int .i64) (Go.Sort.ahead w n) blk a (qp zs).toArray) d
def xc (k:IntKind):∀(l:List Int) (j:Nat),(ae (eI k) l)[j]? = l[j]?.map fun n =>.int k n
 | [],j=>by simp[ae]
 | x::l,0=>by simp[ae,eI]
 | x::l,j+1=>by
  have:=xc k l j;simp only[ae,AV,List.cons_append,List.nil_append,List.getElem?_cons_succ];exact this
def qH (k:IntKind) (l:List Int):(ae (eI k) l).length=l.length:=by rw[bA];show l.length*1=_;omega
def QR {w:World} {b a:Nat} {d:List Int} {cs:Array Value} {ty:Nat} {fr:Nat×Nat} (h:w.heap[b]? = some (.cells cs ty fr)):(Go.Sort.putRow (Value.int .i64) w b a d.toArray).heap[b]? = some (.cells (Go.Sort.putCells (Value.int .i64) a d.toArray cs) ty fr):=by
 simp[Go.Sort.putRow,Go.Sort.mapBlock,aiB,h,Go.Sort.onCells]
def Hb {w:World} {b c a:Nat} {d:List Int} (h:c≠b):(Go.Sort.putRow (Value.int .i64) w b a d.toArray).heap[c]? = w.heap[c]?:=by
 simp[Go.Sort.putRow,Go.Sort.mapBlock,aiB,Ne.symm h]
def MC {a:Nat} {d:List Int} {cs:Array Value} {k:Nat} (b:k<cs.size):(Go.Sort.putCells (Value.int .i64) a d.toArray cs).getD k undef=if a<=k∧k<a+d.length then .int .i64 (d.getD (k-a) 0) else cs.getD k undef:=by
 have c:(Go.Sort.putCells (Value.int .i64) a d.toArray cs)[k]? = some (if a<=k∧k<a+d.length then .int .i64 (d.getD (k-a) 0) else cs[k]):=by
  simp only[Go.Sort.putCells,Array.getElem?_mapIdx,ajC b,Option.map_some,ajN];congr 1;split
  ·rename_i e;congr 1;have:k-a<d.length:=by omega
   simp[List.getD,this]
  ·rfl
 rw[aiw,c];simp[aiw,b]
end Go.Proofs.YtokgehacmjmfkaaGreat.Am
namespace Go.Proofs.YtokgehacmjmfkaaGreat.P
open Go.RowKit
def wrap64 {x:Int} (a : -9223372036854775808<=x) (b:x<9223372036854775808):IntKind.i64.wrap x=x:=by
 have key:IntKind.i64.wrap x=if x % 18446744073709551616>=9223372036854775808 then x % 18446744073709551616-18446744073709551616 else x % 18446744073709551616:=by
  unfold IntKind.wrap
  by_cases h:x % 18446744073709551616>=9223372036854775808
  ·rw[if_pos h];exact if_pos (by simpa [IntKind.bits,IntKind.signed] using h)
  ·rw[if_neg h];exact if_neg (by simpa [IntKind.bits,IntKind.signed] using h)
 rw[key];split<;>omega
def Po {α:Type} {l:List α} {i:Int} {x:α} (a:0<=i) (h:l[i.toNat]? = some x):P.idx l i=some x:=by
 have:=(aiU.1 h).1;unfold P.idx;rw[if_pos ⟨a,by omega⟩,h]
def cu {α:Type} {l:List α} {i:Nat} (h:i<l.length):P.idx l (i:Int)=some (l[i]):=Po (by omega) (by simp[h])
def MN {α:Type} {l:List α} {i:Nat} (h:i<=l.length):Eg l 0 (i:Int)=some (l.take i):=by
 unfold Eg;rw[if_pos ⟨by omega,by omega,by omega⟩];simp
end Go.Proofs.YtokgehacmjmfkaaGreat.P
namespace Go.Proofs.YtokgehacmjmfkaaGreat.Am
open Go.RowKit Go.Deep Go.ChangeShapes Go.WideShapes
def Ei (T:Nat->Option Ty):Nat->Nat->List D->Prop
 | 0,_,_=>False
 | n+1,t,xs =>
  match T t with
  | none=>False
  | some τ=>xs.length=τ.size ∧
   match τ.ds with
   | .int k=>∃i,xs=[.int k i]∧(Lit.int k i).wf=true
   | .bool=>∃b,xs=[.bool b]
   | .str=>∃s:ByteArray,xs=[.str s]∧s.size<=140737488351232
   | .slice e=>∃len a φ,xs=[.sl false false len a]∧len*φ.bytes<=140737488351232∧T e=some φ∧a.length=len*φ.size∧∀i,i<len->Ei T n e ((a.drop (i*φ.size)).take φ.size)
   | .struct fs=>∀f∈fs,∃φ,T f.1=some φ∧Ei T n f.1 ((xs.drop f.2).take φ.size)
   | .arr m e=>∃φ,T e=some φ∧∀i,i<m->Ei T n e ((xs.drop (i*φ.size)).take φ.size)
   | .map _ _=>False
   | .other=>False
def DB (T:Nat->Option Ty):Nat->List (Nat×Nat)->Nat->Bool
 | o,[],z=>o==z
 | o,(a,off)::fs,z=>off==o&&match T a with|some φ=>DB T (o+φ.size) fs z|none=>false
def Xw (T:Nat->Option Ty):Nat->Nat->Bool
 | 0,_=>false
 | n+1,t =>
  match T t with
  | none=>false
  | some τ =>
   match τ.ds with
   | .int _ | .bool | .str=>τ.size==1
   | .slice e=>τ.size==1&&Xw T n e&&(match T e with|some φ=>decide (0<φ.size)|none=>false)
   | .struct fs=>DB T 0 fs τ.size&&fs.all fun f=>Xw T n f.1
   | .arr m e=>Xw T n e&&(match T e with|some φ=>τ.size==m*φ.size|none=>false)
   | .map _ _=>false
   | .other=>false
def oC (w:World) (M:Nat->Prop) (xs:List D) (cs:List Value):Prop:=xs.length=cs.length∧∀(j:Nat) (x:D),xs[j]? = some x->bn x=true∧∃v,cs[j]? = some v∧RP w M x v
def oC.append {w:World} {M:Nat->Prop} {xs c:List D} {cs d:List Value} (h:oC w M xs cs) (k:oC w M c d):oC w M (xs++c) (cs++d):=by
 refine⟨by simp[h.1,k.1],fun j x b =>?_⟩;rw[ai8]at b ⊢;rw[<- h.1];split at b
 ·rename_i a;rw[if_pos a];exact h.2 j x b
 ·rename_i a;rw[if_neg a];exact k.2 _ x b
def FM {α:Type} (s:Nat):∀(ls:List (List α)),(∀l∈ls,l.length=s)->∀(i:Nat) (l:List α),ls[i]? = some l->(ls.flatten.drop (i*s)).take s=l
 | [],_,i,l,h=>by simp at h
 | a::ls,hl,0,l,h=>by
  simp only[List.getElem?_cons_zero,aiA]at h;subst h;have:a.length=s:=hl a (by simp);simp[this]
 | a::ls,hl,i+1,l,h=>by
  have b:a.length=s:=hl a (by simp);rw[List.flatten_cons,akj,akk (by rw[b,ajp];omega),akh,b,ajp,akl];exact FM s ls (fun x c=>hl x (aj3 _ c)) i l h
def pH {α:Type} (s:Nat):∀(ls:List (List α)),(∀l∈ls,l.length=s)->ls.flatten.length=ls.length*s
 | [],_=>by simp
 | a::ls,hl=>by
  rw[List.flatten_cons,ajB,pH s ls (fun x b=>hl x (aj3 _ b)),hl a (by simp),aiR,ajp];omega
section
variable {H:Type} {enc:TypeId×Value->H} {P:Program} {w:World} {base:Nat} {spare:Nat->Bool} {held:Bool} {T:Nat->Option Ty}
def eJ.bytesOf {P:Program} {t:Nat} {τ:Ty} (h:eJ P t τ):P.bytesOf t=τ.bytes:=by
 have:=h.info;unfold Program.bytesOf;cases a:P.info? t with
 | none=>rw[a]at this;simp at this
 | some i=>rw[a]at this;simp only[Option.map_some,aiA,Prod.mk.injEq]at this;simp[this.2.1]
def Reach (P:Program) (t:Nat) (d:DataW H):Prop:=∀k∈d.weights P t,k<=140737488351232
def CF {e:TypeId} : ∀(l:List (DataW H)) (j:Nat) (d:DataW H),l[j]? = some d->∀k∈d.weights P e,k∈DataW.weightsAll P e l
 | x::l,0,d,h,k,hk=>by
  simp only[List.getElem?_cons_zero,aiA]at h;subst h;simp only[DataW.weightsAll,ajI];exact .inl hk
 | x::l,j+1,d,h,k,hk=>by
  simp only[DataW.weightsAll,ajI];exact .inr (CF l j d (by simpa using h) k hk)
 | [],j,d,h,k,hk=>by simp at h
def eJ.cells {P:Program} {t:Nat} {τ:Ty} (h:eJ P t τ):P.cellsOf t=τ.size:=by
 have:=h.info;unfold Program.cellsOf;cases a:P.info? t with
 | none=>rw[a]at this;simp at this
 | some i=>rw[a]at this;simp only[Option.map_some,aiA,Prod.mk.injEq]at this;simp[this.1]
def Vo {T:Nat->Option Ty} {w:World} {M:Nat->Prop} {cs:List Value} : ∀(fs:List (Nat×Nat)) (o z:Nat) (f:Nat×Nat->List D),DB T o fs z=true->cs.length=z ->
  (∀p∈fs,∃φ,T p.1=some φ∧oC w M (f p) ((cs.drop p.2).take φ.size))->o<=z->∃xs,oC w M xs (cs.drop o)∧∀p∈fs,∃φ,T p.1=some φ∧o<=p.2∧(xs.drop (p.2-o)).take φ.size=f p
 | [],o,z,f,c,d,_,_=>by
  simp only[DB,beq_iff_eq]at c;refine⟨[],⟨by rw[aiL,d,c];simp,fun j x n=>by simp at n⟩,fun p hp=>by simp at hp⟩
 | (g,off)::fs,o,z,f,c,d,hp,q=>by
  simp only[DB,ai2,beq_iff_eq]at c;obtain⟨rfl,c⟩:=c;obtain⟨φ,l,m⟩:=hp (g,off) (by simp);simp only[l]at c;have r:off+φ.size<=z:=by
   have:∀(fs:List (Nat×Nat)) (o:Nat),DB T o fs z=true->o<=z:=by
    intro fs
    induction fs with
    | nil=>intro o h;simp only[DB,beq_iff_eq]at h;omega
    | cons p fs s =>
     intro o h;obtain⟨a,b⟩:=p;simp only[DB,ai2]at h;have e:=h.2;split at e
     ·have:=s _ e;omega
     ·cases e
   exact this fs _ c
  obtain⟨xs,t,i⟩:=Vo fs (off+φ.size) z f c d (fun p h=>hp p (aj3 _ h)) r;have k:(f (g,off)).length=φ.size:=by
   rw[m.1,aiK,aiL,d];omega
  refine⟨f (g,off)++xs,?_,fun p h =>?_⟩
  ·have:=m.append t;rw[<- akm,akn]at this;exact this
  ·rcases aiy.1 h with rfl|h
   ·exact⟨φ,l,air _,by simp only[ajD,ajV];rw[ajT (by omega),ajU (by omega)]⟩
   ·obtain⟨ψ,u,e,v⟩:=i p h;refine⟨ψ,u,by omega,?_⟩;rw[akj,akk (by omega),akh,k];have:p.2-off-φ.size=p.2-(off+φ.size):=by omega
    rw[this,v]
def oC.one {w:World} {M:Nat->Prop} {x:D} {v:Value} (b:bn x=true) (h:RP w M x v):oC w M [x] [v]:=by
 refine⟨rfl,fun j y a =>?_⟩
 match j,a with
 | 0,a=>simp only[List.getElem?_cons_zero,aiA]at a;subst a;exact⟨b,v,rfl,h⟩
 | j+1,a=>simp at a
def oC.flat {w:World} {M:Nat->Prop} {cs:List Value} {s:Nat} : ∀(ls:List (List D)) (o:Nat),(∀(i:Nat) l,ls[i]? = some l->oC w M l ((cs.drop (o+i*s)).take s))->(∀l∈ls,l.length=s)->oC w M ls.flatten ((cs.drop o).take (ls.length*s))
 | [],o,_,_=>⟨by simp,fun j x b=>by simp at b⟩
 | a::ls,o,h,hl=>by
  have c:=h 0 a rfl;have d:=oC.flat ls (o+s) (fun i l e=>by
   have:=h (i+1) l (by simpa using e);rw[ajp]at this;rw[show o+s+i*s=o+(i*s+s) by omega];exact this) (fun l f=>hl l (aj3 _ f))
  have:=c.append d;rw[ako,ai0]at this;rw[List.flatten_cons,aiR,ajp,Nat.add_comm (ls.length*s) s,List.take_add,akm];exact this
def ad7 (hT:ji P T) {M:Nat->Prop} (hM:∀b,base<=b->b<w.heap.size->¬M b):∀(n t Q:Nat) (cs:List Value) (x:DataW H×List MemPlace),Xw T n t=true->DataW.trod enc P w base spare held Q t cs=some x->Reach P t x.1->∃xs,Ei T n t xs∧oC w M xs cs:=by
 intro n
 induction n with
 | zero=>intro t Q cs x h;cases h
 | succ n ih =>
  intro t Q cs x c h hw;unfold Xw at c;unfold Ei;cases hτ:T t with
  | none=>rw[hτ]at c;cases c
  | some τ =>
   rw[hτ]at c;simp only at c ⊢;obtain⟨d,X,N⟩:=under hT hτ;cases B:τ.ds with
   | int k =>
    rw[B]at c N;simp only[beq_iff_eq]at c;have A:=AM N;subst A;obtain⟨i,rfl,_,hw⟩:=DataW.trod_int X h;exact⟨[.int k i],⟨by rw[c];rfl,i,rfl,hw⟩,.one rfl (.int k i)⟩
   | bool =>
    rw[B]at c N;simp only[beq_iff_eq]at c;have A:=yx N;subst A;obtain⟨b,rfl,_⟩:=DataW.trod_bool X h;exact⟨[.bool b],⟨by rw[c];rfl,b,rfl⟩,.one rfl (.bool b)⟩
   | str =>
    rw[B]at c N;simp only[beq_iff_eq]at c;have A:=ue N;subst A;obtain⟨s,rfl,rfl,hs⟩:=DataW.trod_string X h;have au:s.size<=140737488351232:=by
     have:=hw s.data.toList.length (by simp[DataW.weights]);simpa using this
    exact⟨[.str s],⟨by rw[c];rfl,s,rfl,au⟩,.one rfl (.str s)⟩
   | map _ _=>rw[B]at c;cases c
   | other=>rw[B]at c;cases c
   | struct fs =>
    rw[B]at c N;simp only[ai2,aiC]at c;obtain⟨F,rfl,hF⟩:=iV N;obtain⟨ys,m,_,rfl,q,av,hf⟩:=DataW.trod_struct X h;have R:∀(i:Nat) (f:Field) y,F[i]? = some f->ys[i]? = some y->Reach P f.type y.1:=by
     intro i f y aw ae k hk;apply hw k;simp only[DataW.weights,X];exact DataW.weights_mem_each (j:=i) (t:=f.type) (d:=y.1) (by rw[aio,aji,aw];rfl) (by simp[ae]) k hk
    rw[(hT t τ hτ).cells]at q;have u:∀p:Nat×Nat,∃D,p∈fs->∃φ,T p.1=some φ∧Ei T n p.1 D∧oC w M D ((cs.drop p.2).take φ.size):=by
     intro p
     by_cases O:p∈fs
     ·have C:=c.2 p O;rw[<- hF]at O;obtain⟨f,ax,rfl⟩:=aiq.1 O;obtain⟨i,g⟩:=List.mem_iff_getElem?.1 ax;have I:=hf i f (by simpa using g);simp only at C ⊢;cases Y:T f.type with
      | none=>cases n with
       | zero=>cases C
       | succ n=>simp only[Xw,Y]at C;cases C
      | some φ =>
       rw[(hT _ φ Y).cells]at I;have J:i<ys.length:=by
        have:=(aiU.1 g).1;simp only[Array.length_toList]at this;omega
       rw[aiE J]at I;obtain⟨D,S,K⟩:=ih _ _ _ _ C I (R i f _ (by simpa using g) (aiE J));exact⟨D,fun _=>⟨φ,rfl,S,K⟩⟩
     ·exact⟨[],fun h=>(O h).elim⟩
    obtain⟨f,r⟩:=Classical.axiomOfChoice u;obtain⟨xs,hx,aa⟩:=Vo fs 0 τ.size f c.1 q (fun p O=>by obtain⟨φ,a,_,b⟩:=r p O;exact⟨φ,a,b⟩) (ais _);rw[ajV]at hx;refine⟨xs,⟨by rw[hx.1,q],fun p O =>?_⟩,hx⟩;obtain⟨φ,I,_,h3⟩:=aa p O;obtain⟨ψ,g1,g2,_⟩:=r p O;rw[I]at g1;cases g1;rw[Nat.sub_zero]at h3;exact⟨φ,I,by rw[h3];exact g2⟩
   | arr m e =>
    rw[B]at c N;simp only[ai2]at c;have A:=AL N;subst A;obtain⟨ys,k,_,rfl,q,av,hf⟩:=DataW.trod_array X h;have R:∀(i:Nat) y,ys[i]? = some y->Reach P e y.1:=by
     intro i y ae k hk;apply hw k;simp only[DataW.weights,X];exact CF _ i y.1 (by simp[ae]) k hk
    rw[(hT t τ hτ).cells]at q;obtain⟨ah,E⟩:=c;split at E
    ·rename_i φ Y;simp only[beq_iff_eq]at E;have u:∀i:Nat,∃D,i<m->Ei T n e D∧oC w M D ((cs.drop (i*φ.size)).take φ.size):=by
      intro i
      by_cases g:i<m
      ·have I:=hf i g;rw[(hT _ φ Y).cells,aiE (by omega)]at I;obtain⟨D,S,K⟩:=ih _ _ _ _ ah I (R i _ (aiE (by omega)));exact⟨D,fun _=>⟨S,K⟩⟩
      ·exact⟨[],fun h=>(g h).elim⟩
     obtain⟨f,r⟩:=Classical.axiomOfChoice u;have U:∀l∈(List.range m).map f,l.length=φ.size:=by
      intro l Z;obtain⟨i,g,rfl⟩:=aiq.1 Z;have g:=akc.1 g;rw[(r i g).2.1,aiK,aiL,q,E];have:(i+1)*φ.size<=m*φ.size:=ajd _ g;rw[ajp]at this;omega
     have ai:∀(i:Nat) l,((List.range m).map f)[i]? = some l->i<m∧l=f i:=by
      intro i l Z;rw[aio,aip]at Z;obtain⟨j,V,rfl⟩:=Z;obtain⟨aj,ak⟩:=aiU.1 V;simp only[aiW]at aj;simp only[aiX]at ak;exact⟨aj,by rw[ak]⟩
     have W:oC w M ((List.range m).map f).flatten ((cs.drop 0).take (((List.range m).map f).length*φ.size)):=by
      refine oC.flat _ 0 (fun i l Z =>?_) U;obtain⟨g,rfl⟩:=ai i l Z;rw[ajf];exact (r i g).2
     rw[aiV,aiW,ajV,ajU (by omega)]at W;refine⟨_,⟨by rw[W.1,q],φ,Y,fun i g =>?_⟩,W⟩;have J:((List.range m).map f)[i]? = some (f i):=by simp[g]
     rw[FM φ.size _ U i _ J];exact (r i g).1
    ·cases E
   | slice e =>
    rw[B]at c N;simp only[ai2,beq_iff_eq]at c;have A:=gz N;subst A;obtain⟨⟨u,al⟩,G⟩:=c;split at G
    ·rename_i φ Y;simp only[decide_eq_true_eq]at G;rcases open_slice X h with⟨rfl,_⟩|⟨a,len,ay,m,k,D',Pl,rfl,hb,Z,hm,az,rfl,g⟩
     ·refine⟨[.sl false false 0 []],⟨by rw[u];rfl,0,[],φ,rfl,by omega,Y,by simp,fun i g=>by omega⟩,.one rfl ?_⟩;exact .sl none 0 false false 0 [] (fun _=>undef) (air _) (ais _) (fun h=>by cases h) (fun _=>⟨rfl,rfl⟩) (fun h=>by cases h) (fun h=>(h rfl).elim) (fun j x V=>by simp at V) (fun x hx=>by simp at hx)
     ·have aH:len<=m:=by rw[az];split<;>omega
      have aA:len*φ.bytes<=140737488351232:=by
       have I:=hw ((((List.range len).map D').length+((List.range (m-len)).map fun j=>D' (len+j)).length)*P.bytesOf e) (by simp[DataW.weights,X]);rw[(hT _ φ Y).bytesOf]at I;simp only[aiV,aiW]at I;exact ait (ajd _ (by omega)) I
      have R:∀i,i<len->Reach P e (D' i):=by
       intro i J k hk;apply hw k;simp only[DataW.weights,X,aiy,ajI];exact .inr (.inl (CF _ i (D' i) (by simp[J]) k hk))
      have ag:∀i:Nat,∃D,i<len->Ei T n e D∧D.length=φ.size∧∀(j:Nat) z,D[j]? = some z->bn z=true∧∃v,w.cell? (a.add (i*φ.size+j))=some v∧RP w M z v:=by
       intro i
       by_cases an:i<len
       ·obtain⟨aI,ao,aB⟩:=g i (by omega);rw[(hT _ φ Y).cells]at ao;obtain⟨_,g1,g2⟩:=World.cells?_some ao;obtain⟨D,S,K⟩:=ih _ _ _ _ al aB (R i an);refine⟨D,fun _=>⟨S,by rw[K.1,g1],fun j z V =>?_⟩⟩;obtain⟨p1,v,p2,p3⟩:=K.2 j z V;refine⟨p1,v,?_,p3⟩;have aC:j<φ.size:=by rw[<- g1];exact (aiU.1 p2).1
        rw[<- Go.Deep.add_add,g2 j aC,p2]
       ·exact⟨[],fun h=>(an h).elim⟩
      obtain⟨f,r⟩:=Classical.axiomOfChoice ag;have U:∀l∈(List.range len).map f,l.length=φ.size:=by
       intro l Z;obtain⟨i,g,rfl⟩:=aiq.1 Z;exact (r i (akc.1 g)).2.1
      have aq:((List.range len).map f).flatten.length=len*φ.size:=by rw[pH φ.size _ U];simp
      have ad:∀i,i<len->(((List.range len).map f).flatten.drop (i*φ.size)).take φ.size=f i:=fun i g=>FM φ.size _ U i (f i) (by simp[g]);have ab:∀(p:Nat) z,((List.range len).map f).flatten[p]? = some z->bn z=true∧∃v,w.cell? (a.add p)=some v∧RP w M z v:=by
       intro p z O;have aD:=(aiU.1 O).1;rw[aq]at aD;have hq:p / φ.size<len:=akp (by rwa [ajq]);have hr:p % φ.size<φ.size:=ajm _ G;have he:p / φ.size*φ.size+p % φ.size=p:=Nat.div_add_mod' p φ.size;have hz:(f (p / φ.size))[p % φ.size]? = some z:=by
        rw[<- ad _ hq,aiH,if_pos hr,aiI,he];exact O
       have:=(r _ hq).2.2 _ z hz;rw[he]at this;exact this
      refine⟨[.sl false false len ((List.range len).map f).flatten],⟨by rw[u];rfl,len,_,φ,rfl,aA,Y,aq,fun i g=>by rw[ad i g];exact (r i g).1⟩,.one rfl ?_⟩;refine .sl (some a) ay false false len _ (fun j=>(w.cell? (a.add j)).getD undef) Z hm (fun h=>by cases h) (fun h=>by cases h) (fun h=>by cases h) (fun aE =>?_) (fun j z V =>?_) (fun z hz =>?_)
      ·have h0:0<((List.range len).map f).flatten.length:=akq.2 aE;obtain⟨_,v,L,_⟩:=ab 0 _ (aiE h0);obtain⟨b,o,sp⟩:=a;have aF:sp=none:=by
        unfold World.cell? at L;split at L
        ·split at L
         ·cases L
         ·rename_i h;simpa [Addr.add] using h
        ·cases L
       subst aF;have ar:b<w.heap.size:=by
        unfold World.cell? at L;split at L
        ·rename_i hh;exact (aiv.1 hh).1
        ·cases L
       refine⟨b,o,rfl,ar,hM b hb ar,fun j V =>?_⟩;obtain⟨_,v,L,_⟩:=ab j _ (aiE V);have ha:Addr.add ⟨b,o,none⟩ j=⟨b,o+j,none⟩:=by
        unfold Addr.add;split
        ·rename_i h0;rw[h0];rfl
        ·rfl
       have aG:w.cell? ⟨b,o+j,none⟩=some v:=by rw[<- ha];exact L
       rw[aG];simp only[L,Option.getD_some]
      ·obtain⟨_,v,L,hr⟩:=ab j z V;rw[L];exact hr
      ·obtain⟨j,V⟩:=List.mem_iff_getElem?.1 hz;exact (ab j z V).1
    ·cases G
def wE (T:Nat->Option Ty) (n t:Nat) (d:D):Prop :=
 match T t with
 | some τ=>if τ.ds.uk then ∃xs,d=.agg xs∧Ei T n t xs else Ei T n t [d]
 | none=>False
def oC.agg {w:World} {M:Nat->Prop} {xs:List D} {cs:Array Value} (h:oC w M xs cs.toList):RP w M (.agg xs) (.agg cs):=by
 have:=RP.agg (w:=w) (M:=M) xs cs.toList h.1.symm (fun j x a=>by
  obtain⟨_,v,b,c⟩:=h.2 j x a;simp only[List.getD,b,Option.getD_some];exact c) (fun x d=>by
  obtain⟨j,a⟩:=List.mem_iff_getElem?.1 d;exact (h.2 j x a).1)
 simpa using this
def oC.single {w:World} {M:Nat->Prop} {xs:List D} {v:Value} (h:oC w M xs [v]):∃x,xs=[x]∧RP w M x v:=by
 match xs,h with
 | [],h=>have:=h.1;simp at this
 | [x],h=>obtain⟨_,u,a,b⟩:=h.2 0 x rfl;simp only[List.getElem?_cons_zero,aiA]at a;subst a;exact⟨x,rfl,b⟩
 | x::y::xs,h=>have:=h.1;simp at this
def abP (z:ji P T) {M:Nat->Prop} (A:∀b,base<=b->b<w.heap.size->¬M b) {n t B:Nat} {v:Value} {d:DataW H} {C:List MemPlace} (f:Xw T n t=true) (l:Value.okWide P w .any B t v) (h:DataW.Trod enc P w base spare held t v d C) (D:Reach P t d) :
  ∃x,wE T n t x∧RP w M x v:=by
 obtain⟨s,h⟩:=h;obtain⟨xs,p,q⟩:=ad7 z A n t s _ _ f h D;unfold wE;cases n with
 | zero=>cases f
 | succ n =>
 cases u:T t with
 | none=>simp only[Xw,u]at f;cases f
 | some τ =>
  simp only;obtain⟨E,r,j⟩:=under z u;cases g:τ.ds with
  | int k =>
   rw[g]at j;have c:=AM j;subst c;obtain⟨i,rfl⟩:=okWide_int r l;obtain⟨x,rfl,o⟩:=oC.single (v := .int k i) q;exact⟨x,by simpa [Ds.uk] using p,o⟩
  | bool =>
   rw[g]at j;have c:=yx j;subst c;obtain⟨i,rfl⟩:=okWide_bool r l;obtain⟨x,rfl,o⟩:=oC.single (v := .bool i) q;exact⟨x,by simpa [Ds.uk] using p,o⟩
  | str =>
   rw[g]at j;have c:=ue j;subst c;obtain⟨i,rfl⟩:=okWide_string r l;obtain⟨x,rfl,o⟩:=oC.single (v := .string i) q;exact⟨x,by simpa [Ds.uk] using p,o⟩
  | slice e =>
   rw[g]at j;have c:=gz j;subst c;obtain⟨a,len,y,rfl⟩:=okWide_slice r l;obtain⟨x,rfl,o⟩:=oC.single (v := .slice a len y) q;exact⟨x,by simpa [Ds.uk] using p,o⟩
  | struct fs =>
   rw[g]at j;obtain⟨F,rfl,_⟩:=iV j;obtain⟨cs,rfl,_⟩:=okWide_struct r l;exact⟨.agg xs,by simpa [Ds.uk] using p,oC.agg q⟩
  | arr m e =>
   rw[g]at j;have c:=AL j;subst c;have:∃cs,v=.agg cs:=by
    unfold Value.okWide at l;rw[r]at l;obtain⟨cs,h,_⟩:=l;exact⟨cs,h⟩
   obtain⟨cs,rfl⟩:=this;exact⟨.agg xs,by simpa [Ds.uk] using p,oC.agg q⟩
  | map _ _=>simp only[Xw,u,g]at f;cases f
  | other=>simp only[Xw,u,g]at f;cases f
def IT (s:ji P T) {M:Nat->Prop} (u:∀b,base<=b->b<w.heap.size->¬M b) {n b0:Nat} : ∀(e:List TypeId) (vs:List Value) (i:List (DataW H)) (l:List MemPlace),DataW.TrodAll enc P w base spare held e vs i l ->
  (∀(j:Nat) t v,e[j]? = some t->vs[j]? = some v->Value.okWide P w .any b0 t v)->(∀t∈e,Xw T n t=true)->(∀k∈DataW.weightsEach P e i,k<=140737488351232) ->
  ∃f:List D,f.length=vs.length∧(∀(j:Nat) x,f[j]? = some x->∃v,vs[j]? = some v∧RP w M x v)∧f.length=e.length∧∀(j:Nat) t,e[j]? = some t->∃x,f[j]? = some x∧wE T n t x
 | [],[],[],l,_,_,_,_=>⟨[],rfl,fun j x c=>by simp at c,rfl,fun j t c=>by simp at c⟩
 | t::e,v::vs,d::i,l,h,hv,hok,hw=>by
  obtain⟨p,q,z,A,_⟩:=h;obtain⟨x,m,o⟩:=abP s u (hok t (by simp)) (hv 0 t v rfl rfl) z (fun k r=>hw k (by simp only[DataW.weightsEach,ajI];exact .inl r));obtain⟨f,B,C,E,F⟩:=IT s u e vs i q A (fun j g G a b=>hv (j+1) g G (by simpa using a) (by simpa using b)) (fun g I=>hok g (aj3 _ I)) (fun k r=>hw k (by simp only[DataW.weightsEach,ajI];exact .inr r));refine⟨x::f,by simp[B],fun j y c =>?_,by simp[E],fun j g c =>?_⟩
  ·cases j with
   | zero=>simp only[List.getElem?_cons_zero,aiA]at c;subst c;exact⟨v,rfl,o⟩
   | succ j=>simpa using C j y (by simpa using c)
  ·cases j with
   | zero=>simp only[List.getElem?_cons_zero,aiA]at c;subst c;exact⟨x,rfl,m⟩
   | succ j=>simpa using F j g (by simpa using c)
 | [],[],_::_,_,h,_,_,_=>h.elim
 | [],_::_,_,_,h,_,_,_=>h.elim
 | _::_,[],_,_,h,_,_,_=>h.elim
 | _::_,_::_,[],_,h,_,_,_=>h.elim
end
open Go.RowKit Go.Deep Go.ChangeShapes Go.WideShapes Go.ChangeAt
section
variable {H:Type} {enc:TypeId×Value->H} {P:Program}
def Iq {f:Func} {s:ChangeSpec} {c fresh d n:Bool} {W o:World} {e:Array Value} {v:Value} {q u:List (DataW H)} {a pa pv:List MemPlace}
  (hW:DataW.Whole enc P f.params.toList s.vars c W e.toList q u a)
  (l:∀(b:Nat) (sp:Nat->Bool) (B:Bool),DataW.TrodAll enc P o b sp B f.resultTypes.toList (v.resultList f.resultTypes.size) (s.fn H (q++u)).results [])
  (g:∀sp:Nat->Bool,(∀p∈a,sp p.block=true)->DataW.TrodAll enc P o 0 sp true f.params.toList e.toList (s.fn H (q++u)).args pa)
  (h:∀sp:Nat->Bool,(∀p∈a,sp p.block=true)->DataW.TrodVars enc P o sp s.vars (s.fn H (q++u)).vars pv)
  (k:a=pa++pv) (A:Below W.heap.size W o)
  (z:∀(j:Nat) (t:TypeId) (r:Value),f.resultTypes[j]? = some t->(v.resultList f.resultTypes.size)[j]? = some r->Value.okWide P o .any 0 t r) :
  s.post enc P f c fresh d n W e v o:=by
 have w:∀p∈a,p.block<W.heap.size:=fun p i=>hW.lt p i;have m:∀p∈a,(fun b=>decide (b<W.heap.size)) p.block=true:=fun p i=>by simpa using w p i
 refine⟨q,u,a,[],pa,pv,hW,l _ _ _,g _ m,h _ m,World.keptBut_mono (fun p i=>⟨i,?_⟩) (A.frame (·∈a)),fun _ =>?_⟩
 ·rw[k,ajI]at i;exact Or.inr i
 ·obtain⟨_,_,_,_,_,C,D⟩:=hW;refine⟨z,_,_,([]++pa)++pv,⟨[]++pa,pv,trodAll_append (g _ (fun _ _=>rfl)) (l _ _ _),h _ (fun _ _=>rfl),rfl,?_,?_⟩,?_⟩
  ·intro b x i;have y:MemPlace.cell b x∈a:=by rw[k];simpa using i
   rw[A.frozen (w _ y)];exact C b x y
  ·intro E;have:=D E;rw[k]at this;simpa using this
  ·intro p i _;rw[k];simpa using i
def zn (j:laidOutB P=true) {W k:World} {b:Nat->Bool} : ∀ {c:List TypeId} {vs:List Value} {i:List (DataW H)} {f:List MemPlace},(∀t∈c,P.readableRec t=true∧t<P.types.size)->DataW.TrodAll enc P W 0 (fun _=>true) true c vs i f ->
  (∀p∈f,W.sameAt k p)->(∀p∈f,b p.block=true)->DataW.TrodAll enc P k 0 b true c vs i f
 | [],[],[],_,_,h,_,_=>h
 | t::c,v::vs,d::i,_,hr,⟨p,q,h1,h2,e⟩,hs,hp=>by
  subst e;have g:=hr t (by simp);exact⟨p,q,WideElems.Trod_stays j g.1 g.2 h1 (fun x a=>hs x (aiF _ a)) (fun x a=>hp x (aiF _ a)),
   zn j (fun t g=>hr t (aj3 _ g)) h2 (fun x a=>hs x (aiG _ a)) (fun x a=>hp x (aiG _ a)),rfl⟩
end
def aaF {H:Type} {enc:TypeId×Value->H} {C:Checked} {T:Nat->Option Ty} {f:FuncId} {c:Func} {s:ChangeSpec} {g fresh i o:Bool} {V n:Nat} (hT:ji C.prog T)
  (hl:laidOutB C.prog=true) (E:(c.params.toList.all fun t=>C.prog.readableRec t&&decide (t<C.prog.types.size)&&Xw T n t)=true)
  (m:c.resultTypes = #[V]) (u:C.prog.underlying V=some .bool) (F:s.vars=[])
  (hs:∀ds:List (DataW H),ds.length=c.params.toList.length->(s.fn H ds).results=[.lit (.bool true)]∧(s.fn H ds).args=ds∧(s.fn H ds).vars=[])
  (G:∀w:List D,w.length=c.params.toList.length->(∀(j:Nat) t,c.params.toList[j]? = some t->∃x,w[j]? = some x∧wE T n t x)->R0 C.prog f w (.bool true))
  {W:World} {base:Nat} {args:Array Value} {ds X:List (DataW H)} {l:List MemPlace}
  (hval:∀(j:Nat) t v,c.params[j]? = some t->args[j]? = some v->Value.okWide C.prog W .any base t v) (Y:DataW.Whole enc C.prog c.params.toList s.vars g W args.toList ds X l)
  (r:(DataW.weightsEach C.prog (c.params.toList++s.plain.varTypes C.prog) (ds++X)).all (·<=reachBytes)=true) (y:Ww W (fun _=>False)) :
  Calls C.prog f args W fun e I=>∃v,e=.returned v∧s.post enc C.prog c g fresh i o W args v I:=by
 have z:=Y;obtain⟨p,q,J,Z,rfl,aa,ab⟩:=Y;rw[F]at Z;obtain⟨rfl,rfl⟩:=trodVars_none Z;simp only[aiC,ai2,decide_eq_true_eq]at E;obtain⟨w,h1,K,h3,h4⟩:=IT (P:=C.prog) hT (M:=fun _=>False) (fun b _ _ h=>h) (n:=n) (b0:=base) c.params.toList args.toList ds p J
  (fun j t v a b=>hval j t v (by simpa using a) (by simpa using b)) (fun t L=>(E t L).2) (fun k hk=>by
   rw[aiC]at r;have N:s.plain.varTypes C.prog=[]:=by unfold ChangeSpec.plain;simp only[F];rfl
   rw[N,akr,akr]at r;have h:=r k hk;rw[decide_eq_true_eq]at h;exact h)
 refine (G w h3 h4 W (fun _=>False) args (fun b h=>h.elim) ⟨by simpa using h1.symm,fun j x hj =>?_,y⟩).mono fun e I hG =>?_
 ·obtain⟨v,g1,g2⟩:=K j x hj;have O:args[j]? = some v:=by simpa using g1
  rw[aiw,O];exact g2
 ·obtain⟨v,rfl,hb,Q⟩:=hG;have R:RP I (fun _=>False) (.bool true) v:=Q;cases R;have A:ds.length=c.params.toList.length:=by
   have:∀ {B:List TypeId} {vs:List Value} {ds:List (DataW H)} {S:List MemPlace},DataW.TrodAll enc C.prog W 0 (fun _=>true) true B vs ds S->ds.length=B.length:=by
    intro B
    induction B with
    | nil=>intro vs ds S h;cases vs<;>cases ds<;>first|rfl|exact h.elim
    | cons t B ih =>
     intro vs ds S h;cases vs with
     | nil=>exact h.elim
     | cons v vs=>cases ds with
      | nil=>exact h.elim
      | cons d ds=>obtain⟨_,_,_,K,_⟩:=h;simp[ih K]
   exact this J
  obtain⟨e1,e2,e3⟩:=hs ds A;refine⟨_,rfl,Iq (pa:=p) (pv:=[]) z ?_ ?_ ?_ (by simp) hb ?_⟩
  ·intro b sp hd;rw[akr,e1,m];exact trodAll_mk1 ⟨1,by simp[DataW.trod,u,Value.cells]⟩
  ·intro sp hsp;rw[akr,e2];refine zn hl (fun t L=>(E t L).1) J (fun x U=>hb.same (z.lt x (by simpa using U))) (fun x U=>hsp x (by simpa using U))
  ·intro sp _;rw[akr,e3,F];rfl
  ·exact ok_one m rfl (by simp[Value.okWide,u,Cell.okWide,Cell.ok])
def TA {H:Type} {enc:TypeId×Value->H} {C:Checked} {u:Os} {T:Nat->Option Ty} {f:FuncId} {k:Func} {s:ChangeSpec} {d:List PathCond} {a fresh e m:Bool} {tb n:Nat}
  (I:ji C.prog T) (own:ownKnob C.prog.godebug=none) (g:u.Started) (l:C.prog.inits.idxOf? f=none) (v:C.prog.funcs[f]? = some k)
  (h:∃(w:World) (c:Tape) (i:Input),w.os=u∧(w.forCall c i).Shaped C.prog∧i.vars=[]∧Input.okWide C.prog (w.forCall c i) .any w.heap.size f i ∧
   s.pre6 enc C.prog k d a (w.forCall c i).memory i.args∧({} : Assume).holds C.prog (lone (Frame.enter C.prog f i.args .normal) [] (w.forCall c i)))
  (J:laidOutB C.prog=true) (K:(k.params.toList.all fun t=>C.prog.readableRec t&&decide (t<C.prog.types.size)&&Xw T n t)=true)
  (p:k.resultTypes = #[tb]) (y:C.prog.underlying tb=some .bool) (L:s.vars=[])
  (M:∀o:List (DataW H),o.length=k.params.toList.length->(s.fn H o).results=[.lit (.bool true)]∧(s.fn H o).args=o∧(s.fn H o).vars=[])
  (z:∀A:List D,A.length=k.params.toList.length->(∀(j:Nat) t,k.params.toList[j]? = some t->∃x,A[j]? = some x∧wE T n t x)->R0 C.prog f A (.bool true)) (B:aa2=none:=by rfl) :
  ReturnsInHanded {} C u f .any (s.pre6 enc C.prog k d a) (s.post enc C.prog k a fresh e m):=by
 apply returnsInHanded_of_change_sized own g l v h;intro W base F o O r q N _ E _;exact aaF I J K p y L M z q N E (fun b G=>by rw[B]at G;cases G)
open Go.RowKit
def afr {T:Nat->Option Ty} {n t:Nat} {b:List D} (h:b.length=[t].length) (c:∀(j:Nat) u,[t][j]? = some u->∃x,b[j]? = some x∧wE T n u x):∃a,b=[a]∧wE T n t a:=by
 match b,h with
 | [a],_=>obtain⟨x,d,e⟩:=c 0 t rfl;cases d;exact⟨a,rfl,e⟩
def afs {T:Nat->Option Ty} {n t:Nat} {b:List Nat} {c:List D} (h:c.length=(t::b).length) (d:∀(j:Nat) u,(t::b)[j]? = some u->∃x,c[j]? = some x∧wE T n u x) :
  ∃a aim,c=a::aim∧wE T n t a∧aim.length=b.length∧∀(j:Nat) u,b[j]? = some u->∃x,aim[j]? = some x∧wE T n u x:=by
 match c,h with
 | a::aim,h =>
  obtain⟨x,e,f⟩:=d 0 t rfl;cases e;exact⟨a,aim,rfl,f,by simpa using h,fun j u g=>by simpa using d (j+1) u (by simpa using g)⟩
section
variable {T:Nat->Option Ty} {n t:Nat} {τ:Ty} {d:D}
def Sf {fs:List (Nat×Nat)} (h:wE T n t d) (a:T t=some τ) (b:τ.ds=.struct fs):∃xs,d=.agg xs∧Ei T n t xs:=by
 simp only[wE,a,b,Ds.uk,if_true]at h;exact h
def WB {e:Nat} (h:wE T n t d) (a:T t=some τ) (b:τ.ds=.slice e):Ei T n t [d]:=by
 simp only[wE,a,b,Ds.uk,ai1,if_false]at h;exact h
def acR {k:IntKind} {xs:List D} (h:Ei T (n+1) t xs) (a:T t=some τ) (b:τ.ds=.int k):∃i,xs=[.int k i]∧(Lit.int k i).wf=true:=by
 simp only[Ei,a,b]at h;exact h.2
def acS {xs:List D} (h:Ei T (n+1) t xs) (a:T t=some τ) (b:τ.ds=.str):∃s:ByteArray,xs=[.str s]∧s.size<=140737488351232:=by
 simp only[Ei,a,b]at h;exact h.2
def XX {e:Nat} {φ:Ty} {xs:List D} (h:Ei T (n+1) t xs) (c:T t=some τ) (d:τ.ds=.slice e) (f:T e=some φ) :
  ∃len a,xs=[.sl false false len a]∧len*φ.bytes<=140737488351232∧a.length=len*φ.size∧∀i,i<len->Ei T n e ((a.drop (i*φ.size)).take φ.size):=by
 simp only[Ei,c,d]at h;obtain⟨_,len,a,ψ,g,j,b,k,l⟩:=h;rw[f]at b;cases b;exact⟨len,a,g,j,k,l⟩
def T3 {fs:List (Nat×Nat)} {xs:List D} (h:Ei T (n+1) t xs) (a:T t=some τ) (b:τ.ds=.struct fs):xs.length=τ.size∧∀f∈fs,∃φ,T f.1=some φ∧Ei T n f.1 ((xs.drop f.2).take φ.size):=by
 simp only[Ei,a,b]at h;exact h
end
open Go.RowKit P
def C0 {α:Type} (T:Nat->Option Ty) (n t:Nat) (E:iF α) (a:α->Prop):Prop:=(∃φ,T t=some φ∧φ.size=E.size)∧∀xs,Ei T n t xs->∃x,xs=E.cells x∧a x
section
variable {T:Nat->Option Ty} {n t:Nat} {τ:Ty}
def opI {k:IntKind} (a:T t=some τ) (b:τ.ds=.int k) (c:τ.size=1):C0 T (n+1) t (eI k) (fun i=>(Lit.int k i).wf=true):=⟨⟨τ,a,c⟩,fun _ h=>acR h a b⟩
def afN (a:T t=some τ) (b:τ.ds=.str) (c:τ.size=1):C0 T (n+1) t aec (fun s=>s.size<=140737488351232):=⟨⟨τ,a,c⟩,fun _ h=>acS h a b⟩
def adR {α:Type} (E:iF α) (d:α->Prop):∀(len:Nat) (a:List D),a.length=len*E.size->(∀i,i<len->∃x,(a.drop (i*E.size)).take E.size=E.cells x∧d x)->∃l:List α,l.length=len∧a=ae E l∧∀x∈l,d x
 | 0,a,e,_=>⟨[],rfl,by simpa [ae] using e,fun x c=>by simp at c⟩
 | len+1,a,e,h=>by
  obtain⟨x,c,f⟩:=h 0 (by omega);obtain⟨l,j,k,m⟩:=adR E d len (a.drop E.size) (by rw[aiL,e,ajp];omega) (fun i n=>by
   obtain⟨y,b,g⟩:=h (i+1) (by omega);refine⟨y,?_,g⟩;rw[akm];rw[ajp,Nat.add_comm]at b;exact b)
  rw[ako,ajV]at c;refine⟨x::l,by simp[j],?_,fun y b =>?_⟩
  ·rw[bk,<- k,<- c,akn]
  ·rcases aiy.1 b with rfl|b
   ·exact f
   ·exact m y b
def Tq {α:Type} {E:iF α} {a:α->Prop} {e:Nat} (b:T t=some τ) (k:τ.ds=.slice e) (m:τ.size=1) {B:Nat} (c:(T e).map (·.bytes)=some B) (o:C0 T n e E a):C0 T (n+1) t (nM E) (fun l=>l.length*B<=140737488351232∧∀x∈l,a x):=by
 obtain⟨⟨φ,d,p⟩,hx⟩:=o;have q:φ.bytes=B:=by rw[d]at c;simpa using c
 refine⟨⟨τ,b,m⟩,fun xs h =>?_⟩;obtain⟨len,r,s,f,g,j⟩:=XX h b k d;rw[p]at g j;rw[q]at f;obtain⟨l,u,v,w⟩:=adR E a len r g fun i y=>hx _ (j i y);subst u v;exact⟨l,s,f,w⟩
def OpF {α:Type} (T:Nat->Option Ty) (n:Nat) (fs:List (Nat×Nat)) (o:Nat) (E:iF α) (a:α->Prop):Prop :=
 ∀xs:List D,xs.length=o+E.size->(∀f∈fs,∃φ,T f.1=some φ∧Ei T n f.1 ((xs.drop f.2).take φ.size))->∃x,xs.drop o=E.cells x∧a x
def QH {α:Type} {E:iF α} {b:α->Prop} {a o:Nat} (h:C0 T n a E b):OpF T n [(a,o)] o E b:=by
 obtain⟨⟨φ,d,i⟩,e⟩:=h;intro xs j f;obtain⟨ψ,g,c⟩:=f (a,o) (by simp);cases d.symm.trans g;rw[ajU (by rw[aiL];omega)]at c;exact e _ c
def CA {α β:Type} {E:iF α} {ok:α->Prop} {b:iF β} {a:β->Prop} {c o k:Nat} {fs:List (Nat×Nat)} (h:C0 T n c E ok) (l:k=o+E.size) (m:OpF T n fs k b a):OpF T n ((c,o)::fs) o (nc E b) (fun x=>ok x.1∧a x.2):=by
 subst l;obtain⟨⟨φ,p,q⟩,r⟩:=h;intro xs s hf;obtain⟨ψ,t,u⟩:=hf (c,o) (by simp);cases p.symm.trans t;obtain⟨x,d,e⟩:=r _ u;obtain⟨y,g,i⟩:=m xs (by rw[s];show o+(E.size+b.size)=_;omega) fun f j=>hf f (aj3 _ j);refine⟨(x,y),?_,e,i⟩;show xs.drop o=E.cells x++b.cells y;rw[<- d,<- g,<- q,<- akm,akn]
def opS {α β:Type} {E:iF β} {ok:β->Prop} {f:α->β} {d:∀x y,f x=f y->x=y} {g:β->α} {fs:List (Nat×Nat)} (a:T t=some τ) (e:τ.ds=.struct fs) (b:τ.size=E.size) (c:∀y,f (g y)=y) (h:OpF T n fs 0 E ok):C0 T (n+1) t (A0 E f d) (fun x=>ok (f x)):=by
 refine⟨⟨τ,a,b⟩,fun xs i =>?_⟩;obtain⟨j,k⟩:=T3 i a e;obtain⟨y,l,m⟩:=h xs (by rw[j,b,ajf]) k;refine⟨g y,?_,?_⟩
 ·show xs=E.cells (f (g y));rw[c,<- l,ajV]
 ·show ok (f (g y));rw[c];exact m
def OpA {α:Type} (T:Nat->Option Ty) (n t:Nat) (A:Arg α) (a:α->Prop):Prop:=∀d,wE T n t d->∃x,d=A.d x∧a x
def ahH {α:Type} {E:iF α} {a:List α->Prop} {e:Nat} (c:T t=some τ) (f:τ.ds=.slice e) (g:C0 T n t (nM E) a):OpA T n t (jZ E) a:=fun d h=>by
 obtain⟨x,b,i⟩:=g.2 _ (WB h c f);simp only[BV,aiP,and_true]at b;exact⟨x,b,i⟩
def oaS {α:Type} {E:iF α} {b:α->Prop} {fs:List (Nat×Nat)} (c:T t=some τ) (e:τ.ds=.struct fs) (f:C0 T n t E b):OpA T n t (bJ E) b:=fun d h=>by
 obtain⟨xs,rfl,a⟩:=Sf h c e;obtain⟨x,a,g⟩:=f.2 _ a;exact⟨x,by rw[a];rfl,g⟩
def Yp {α:Type} (T:Nat->Option Ty) (n:Nat) (b:List Nat) (A:jH α) (c:α->Prop):Prop:=∀a:List D,a.length=b.length->(∀(j:Nat) u,b[j]? = some u->∃x,a[j]? = some x∧wE T n u x)->∃x,a=A.ds x∧c x
def ahI {α:Type} {A:Arg α} {b:α->Prop} (h:OpA T n t A b):Yp T n [t] (dy A) b:=fun g c d=>by
 obtain⟨a,rfl,e⟩:=afr c d;obtain⟨x,rfl,f⟩:=h a e;exact⟨x,rfl,f⟩
def ahJ {α β:Type} {A:Arg α} {ok:α->Prop} {B:jH β} {b:β->Prop} {e:List Nat} (h:OpA T n t A ok) (g:Yp T n e B b):Yp T n (t::e) (fK A B) (fun x=>ok x.1∧b x.2):=fun f i j=>by
 obtain⟨a,f,rfl,k,c,d⟩:=afs i j;obtain⟨x,rfl,l⟩:=h a k;obtain⟨y,rfl,m⟩:=g f c d;exact⟨(x,y),rfl,l,m⟩
def aen {P:Program} {f:FuncId} {α:Type} {A:jH α} {F:α->Option Bool} {c:α->Prop} {b:List Nat} (d:Yp T n b A c) (e:bZ P f (dN A F (fun r =>.clean (.bool r)))) (h:∀x,c x->F x=some true) (a:List D) (g:a.length=b.length)
  (i:∀(j:Nat) u,b[j]? = some u->∃x,a[j]? = some x∧wE T n u x):R0 P f a (.bool true):=by
 obtain⟨x,rfl,k⟩:=d a g i;refine e.calls none _ _ none ?_;rw[cn,h x k];rfl
end
end Go.Proofs.YtokgehacmjmfkaaGreat.Am
namespace Go.Proofs.YtokgehacmjmfkaaGreat.P
open Go.RowKit
def M9 (l:List Int):Option (List Int):=some l
def Es (l:List Int):Option (List Int):=if l.length*8<=140737488351232 then some (qp l) else none
end Go.Proofs.YtokgehacmjmfkaaGreat.P
namespace Go.Proofs
open Go.Shelf
def Tryz.PB:Go.Shelf.Ren:=⟨fun|189=>131|125=>48|257=>136|128=>92|129=>93|294=>138|295=>139|296=>140|297=>141|298=>142|299=>143|216=>144|300=>145|301=>146|328=>147|329=>117|330=>118|331=>148|332=>149|215=>94|343=>150|n=>n,fun|28=>22|3=>3|46=>106|0=>0|51=>138|53=>140|4=>4|183=>132|182=>131|131=>111|5=>5|9=>9|218=>159|222=>163|228=>172|229=>173|n=>n,fun|n=>n⟩
def Tryz.Vn:Go.Proofs.Lays.n189 prog Tryz.PB:={
 mixed:=by kernel_rfl
 f125:=Tryz.func48.trans (congrArg some (by kernel_rfl))
 f128:=Tryz.func92.trans (congrArg some (by kernel_rfl))
 f129:=Tryz.func93.trans (congrArg some (by kernel_rfl))
 f189:=Tryz.func131.trans (congrArg some (by kernel_rfl))
 f215:=Tryz.func94.trans (congrArg some (by kernel_rfl))
 f216:=Tryz.func144.trans (congrArg some (by kernel_rfl))
 f257:=Tryz.func136.trans (congrArg some (by kernel_rfl))
 f294:=Tryz.func138.trans (congrArg some (by kernel_rfl))
 f295:=Tryz.func139.trans (congrArg some (by kernel_rfl))
 f296:=Tryz.func140.trans (congrArg some (by kernel_rfl))
 f297:=Tryz.func141.trans (congrArg some (by kernel_rfl))
 f298:=Tryz.func142.trans (congrArg some (by kernel_rfl))
 f299:=Tryz.func143.trans (congrArg some (by kernel_rfl))
 f300:=Tryz.func145.trans (congrArg some (by kernel_rfl))
 f301:=Tryz.func146.trans (congrArg some (by kernel_rfl))
 f328:=Tryz.func147.trans (congrArg some (by kernel_rfl))
 f329:=Tryz.func117.trans (congrArg some (by kernel_rfl))
 f330:=Tryz.func118.trans (congrArg some (by kernel_rfl))
 f331:=Tryz.func148.trans (congrArg some (by kernel_rfl))
 f332:=Tryz.func149.trans (congrArg some (by kernel_rfl))
 f343:=Tryz.func150.trans (congrArg some (by kernel_rfl))
 t0:=underlying0
 a0:=isAgg0
 z0:=sizeOf0
 v0:=zeroValue0
 t3:=underlying3
 a3:=isAgg3
 z3:=sizeOf3
 v3:=zeroValue3
 t4:=underlying4
 a4:=isAgg4
 z4:=sizeOf4
 v4:=zeroValue4
 t5:=underlying5
 a5:=isAgg5
 z5:=sizeOf5
 v5:=zeroValue5
 t9:=underlying9
 a9:=isAgg9
 z9:=sizeOf9
 v9:=zeroValue9
 t28:=underlying22
 a28:=isAgg22
 z28:=sizeOf22
 v28:=zeroValue22
 t46:=underlying106
 a46:=isAgg106
 z46:=sizeOf106
 v46:=zeroValue106
 t51:=underlying138
 a51:=isAgg138
 z51:=sizeOf138
 v51:=zeroValue138
 t53:=underlying140
 a53:=isAgg140
 z53:=sizeOf140
 v53:=zeroValue140
 t131:=underlying111
 a131:=isAgg111
 z131:=sizeOf111
 v131:=zeroValue111
 t182:=underlying131
 a182:=isAgg131
 z182:=sizeOf131
 v182:=zeroValue131
 t183:=underlying132
 a183:=isAgg132
 z183:=sizeOf132
 v183:=zeroValue132
 t218:=underlying159
 a218:=isAgg159
 z218:=sizeOf159
 v218:=zeroValue159
 t222:=underlying163
 a222:=isAgg163
 z222:=sizeOf163
 v222:=zeroValue163
 t228:=underlying172
 a228:=isAgg172
 z228:=sizeOf172
 v228:=zeroValue172
 t229:=underlying173
 a229:=isAgg173
 z229:=sizeOf173
 v229:=zeroValue173 }
def Tryz.TH:Go.Shelf.Ren:=⟨fun|6=>24|15=>48|14=>47|28=>92|29=>93|20=>84|21=>85|22=>86|23=>87|24=>88|25=>89|26=>90|27=>91|46=>116|47=>117|48=>118|49=>119|50=>120|57=>133|n=>n,fun|22=>30|24=>50|25=>72|3=>3|39=>106|0=>0|53=>138|55=>140|4=>4|46=>132|45=>131|50=>111|5=>5|9=>9|66=>159|70=>163|76=>172|77=>173|n=>n,fun|n=>n⟩
def Tryz.aaR:Go.Proofs.SlLaysF0.n6 prog Tryz.TH:={
 mixed:=by kernel_rfl
 f6:=⟨Tryz.f24.name,by decide,Tryz.func24.trans (congrArg some (by kernel_rfl))⟩
 f14:=⟨Tryz.f47.name,by decide,Tryz.func47.trans (congrArg some (by kernel_rfl))⟩
 f15:=Tryz.func48.trans (congrArg some (by kernel_rfl))
 f20:=⟨Tryz.f84.name,by decide,Tryz.func84.trans (congrArg some (by kernel_rfl))⟩
 f21:=⟨Tryz.f85.name,by decide,Tryz.func85.trans (congrArg some (by kernel_rfl))⟩
 f22:=⟨Tryz.f86.name,by decide,Tryz.func86.trans (congrArg some (by kernel_rfl))⟩
 f23:=⟨Tryz.f87.name,by decide,Tryz.func87.trans (congrArg some (by kernel_rfl))⟩
 f24:=⟨Tryz.f88.name,by decide,Tryz.func88.trans (congrArg some (by kernel_rfl))⟩
 f25:=⟨Tryz.f89.name,by decide,Tryz.func89.trans (congrArg some (by kernel_rfl))⟩
 f26:=⟨Tryz.f90.name,by decide,Tryz.func90.trans (congrArg some (by kernel_rfl))⟩
 f27:=⟨Tryz.f91.name,by decide,Tryz.func91.trans (congrArg some (by kernel_rfl))⟩
 f28:=Tryz.func92.trans (congrArg some (by kernel_rfl))
 f29:=Tryz.func93.trans (congrArg some (by kernel_rfl))
 f46:=⟨Tryz.f116.name,by decide,Tryz.func116.trans (congrArg some (by kernel_rfl))⟩
 f47:=Tryz.func117.trans (congrArg some (by kernel_rfl))
 f48:=Tryz.func118.trans (congrArg some (by kernel_rfl))
 f49:=⟨Tryz.f119.name,by decide,Tryz.func119.trans (congrArg some (by kernel_rfl))⟩
 f50:=⟨Tryz.f120.name,by decide,Tryz.func120.trans (congrArg some (by kernel_rfl))⟩
 f57:=⟨Tryz.f133.name,by decide,Tryz.func133.trans (congrArg some (by kernel_rfl))⟩
 t0:=underlying0
 a0:=isAgg0
 z0:=sizeOf0
 v0:=zeroValue0
 t3:=underlying3
 a3:=isAgg3
 z3:=sizeOf3
 v3:=zeroValue3
 t4:=underlying4
 a4:=isAgg4
 z4:=sizeOf4
 v4:=zeroValue4
 t5:=underlying5
 a5:=isAgg5
 z5:=sizeOf5
 v5:=zeroValue5
 t9:=underlying9
 a9:=isAgg9
 z9:=sizeOf9
 v9:=zeroValue9
 t22:=underlying30
 a22:=isAgg30
 z22:=sizeOf30
 v22:=zeroValue30
 t25:=underlying72
 a25:=isAgg72
 z25:=sizeOf72
 v25:=zeroValue72
 t39:=underlying106
 a39:=isAgg106
 z39:=sizeOf106
 v39:=zeroValue106
 t45:=underlying131
 a45:=isAgg131
 z45:=sizeOf131
 v45:=zeroValue131
 t46:=underlying132
 a46:=isAgg132
 z46:=sizeOf132
 v46:=zeroValue132
 t50:=underlying111
 a50:=isAgg111
 z50:=sizeOf111
 v50:=zeroValue111
 t53:=underlying138
 a53:=isAgg138
 z53:=sizeOf138
 v53:=zeroValue138
 t55:=underlying140
 a55:=isAgg140
 z55:=sizeOf140
 v55:=zeroValue140
 t66:=underlying159
 a66:=isAgg159
 z66:=sizeOf159
 v66:=zeroValue159
 t70:=underlying163
 a70:=isAgg163
 z70:=sizeOf163
 v70:=zeroValue163
 t76:=underlying172
 a76:=isAgg172
 z76:=sizeOf172
 v76:=zeroValue172
 t77:=underlying173
 a77:=isAgg173
 z77:=sizeOf173
 v77:=zeroValue173 }
end Go.Proofs
namespace Go.Proofs.YtokgehacmjmfkaaGreat.Am
open Go.RowKit P
def Ur {w:World} {M:Nat->Prop} {k:IntKind} {l:List Int} {u:Value} (h:RP w M (.sl false false l.length (ae (eI k) l)) u) :
  ∃A c,u=.slice A l.length c∧l.length<=c∧c<=maxLen∧(A=none->l.length=0∧c=0)∧(l≠[]->∃b o,A=some ⟨b,o,none⟩∧b<w.heap.size∧¬M b∧∀j,j<l.length->w.cell? ⟨b,o+j,none⟩=some (.int k (l.getD j 0))):=by
 cases h with
 | sl A c nl tight n xs us h1 h2 h3 h4 h5 h6 h7 h8 =>
  refine⟨A,c,rfl,h1,h2,h4,fun e =>?_⟩;have a:ae (eI k) l≠[]:=by
   intro f;have:=congrArg List.length f;rw[qH]at this;exact e (ajL this)
  obtain⟨b,o,rfl,g,i,m⟩:=h6 a;refine⟨b,o,rfl,g,i,fun j d =>?_⟩;rw[m j (by rw[qH];exact d)];have p:(ae (eI k) l)[j]? = some (.int k (l.getD j 0)):=by rw[xc];simp[List.getD,d]
  rw[R9 (h7 j _ p)]
open Go.RowKit Go.Shelf P
attribute [local go_sem] Oper.semAt_some
def upto (f:Nat->Int) (k:Nat):List Int:=(List.range k).map f
def Le (f:Nat->Int) (k:Nat):upto f (k+1)=upto f k++[f k]:=by simp[upto,aly]
def RN (f:Nat->Int) (k:Nat):(upto f k).length=k:=by simp[upto]
def abn (zs:List Int):upto (fun j=>zs[j]?.getD 0) zs.length=zs:=by
 apply List.ext_getElem
 ·simp[upto]
 ·intro i b a;simp[upto,a]
def X0 (zs:List Int) {k:Nat} (a:k<=zs.length):upto (fun j=>zs[j]?.getD 0) k=zs.take k:=by
 apply List.ext_getElem
 ·simp[upto,a]
 ·intro i b c;have:i<zs.length:=by simp[upto]at b;omega
  simp[upto,this]
set_option maxRecDepth 100000 in
set_option maxHeartbeats 2000000 in
def T7 (F:Fence) (n:Nat) (h7:F.fn 132) (hro:F.round=none) (hn:1<=n) (l Bs Bo n₀ b off len cap:Nat) (zs:List Int) (hreach:len*8<=140737488351232) (hb:b<n₀) (J Jx:List Int->World->Prop)
  (hY:∀pre x W,J pre W->pre.length<len->YieldAt F (n-1) prog l #[.int .i64 x] W fun e W' =>
   (e=.returned (.bool true)∧J (pre++[x]) W'∧Below n₀ W W')∨(e=.returned (.bool false)∧Jx (pre++[x]) W'))
  (W:World) (hBs:W.cell? ⟨Bs,Bo,none⟩=some (.slice (some ⟨b,off,none⟩) len cap)) (hc:∀j,j<len->W.cell? ⟨b,off+j,none⟩=some (.int .i64 (zs[j]?.getD 0))) (h0:J [] W) :
  CallsIn F n prog 132 #[.func (.yield l) #[] #[],.pointer (some ⟨Bs,Bo,none⟩)] W fun e W'=>(∃v,e=.returned v) ∧
   ((∃ys,ys=upto (fun j=>zs[j]?.getD 0) len∧J ys W')∨(∃pre,(∃k,k<=len∧pre=upto (fun j=>zs[j]?.getD 0) k)∧Jx pre W')):=by
 refine callsIn_of_wp func132 rfl h7 ?_ hro;simp only[ntmps132,ajN,List.length_cons,List.length_nil,Nat.reduceAdd,Nat.reduceSub,alH,Array.replicate_zero,alJ,alK,List.nil_append,List.cons_append]
 gi_wp2
 gi_loopw [7] (fun i wr=>∃k:Nat,k<=len∧i=.int .i64 k∧J (upto (fun j=>zs[j]?.getD 0) k) wr∧Below n₀ W wr)
  (fun i _=>len-(intOf i).toNat)
 case atStart=>exact⟨0,ais _,rfl,h0,Below.refl _ _⟩
 case round =>
  obtain⟨k,hk,rfl,hJs,hnx⟩:=hrel;have hcx:k<len->wr.cell? ⟨b,off+k,none⟩=some (.int .i64 (zs[k]?.getD 0)):=fun h=>(hnx.cell (p:=⟨b,off+k,none⟩) hb).trans (hc k h)
  by_cases hlt:k<len
  ·obtain⟨fn,tmps,assign,body,hy,hR⟩:=hY _ (zs[k]?.getD 0) wr hJs (by rw[RN];exact hlt);have hcx':=hcx hlt
   gi_wp2
   apply hR.mono;rintro e W3 (⟨rfl,hJ3,hk3⟩|⟨rfl,hJx3⟩)
   ·gi_wp2
    go_roundw
    case rel=>exact⟨k+1,by omega,by simp,by rw[Le];exact hJ3,hnx.trans hk3⟩
    case measure=>simp[intOf];omega
   ·gi_wp2
    refine bodyPost_ret (results_none rfl _ _ _) rfl ?_;exact⟨⟨_,rfl⟩,.inr ⟨_,⟨k+1,by omega,(Le _ _).symm⟩,hJx3⟩⟩
  ·obtain rfl:k=len:=by omega
   gi_wp2
   go_end0
   exact⟨⟨_,rfl⟩,.inl ⟨_,rfl,hJs⟩⟩
set_option maxRecDepth 100000 in
set_option maxHeartbeats 1000000 in
def HP (F:Fence) (n:Nat) (h7:F.fn 132) (hro:F.round=none) (l Bs Bo cap:Nat) (A:Option Addr) (J:List Int->World->Prop) (W:World) (hBs:W.cell? ⟨Bs,Bo,none⟩=some (.slice A 0 cap)) (h0:J [] W) :
  CallsIn F n prog 132 #[.func (.yield l) #[] #[],.pointer (some ⟨Bs,Bo,none⟩)] W fun e W'=>(∃v,e=.returned v)∧J [] W':=by
 refine callsIn_of_wp func132 rfl h7 ?_ hro;simp only[ntmps132,ajN,List.length_cons,List.length_nil,Nat.reduceAdd,Nat.reduceSub,alH,Array.replicate_zero,alJ,alK,List.nil_append,List.cons_append]
 gi_wp2
 gi_loopw [7] (fun i wr=>i=.int .i64 0∧J [] wr) (fun _ _=>0)
 case atStart=>exact⟨rfl,h0⟩
 case round =>
  obtain⟨rfl,hJs⟩:=hrel
  gi_wp2
  go_end0
  exact⟨⟨_,rfl⟩,hJs⟩
def Ints (g:Nat) (W:World) (f:Value) (d:List Int):Prop :=
 (∃A c,f=.slice A 0 c∧d=[])∨∃b a e,f=.slice (some ⟨b,a,none⟩) d.length e∧b<g∧∀j,j<d.length->W.cell? ⟨b,a+j,none⟩=some (.int .i64 (d[j]?.getD 0))
def Ints.below {a:Nat} {A B:World} (h:Below a A B) {c:Value} {d:List Int} : Ints a A c d->Ints a B c d
 | .inl e =>.inl e
 | .inr ⟨b,off,cap,e,f,g⟩ =>.inr ⟨b,off,cap,e,f,fun j i=>(h.cell (p:=⟨b,off+j,none⟩) f).trans (g j i)⟩
def Na (F:Fence) (n:Nat) (v:F.fn 132) (g:F.round=none) (C:1<=n) (f h m:Nat) (y:Value) (a:List Int) (d:a.length*8<=140737488351232) (w:World) (q:f<w.heap.size) (r:m<=w.heap.size)
  (D:w.cell? ⟨f,h,none⟩=some y) (E:Ints m w y a) :
  SeqStopsK F n prog 132 #[.pointer (some ⟨f,h,none⟩)] (fun x:Int=>#[Value.int .i64 x]) (Below m) (fun ys=>ys=a) (fun pre=>pre <+: a) a.length w:=fun l J G W z _ _ H B=>by
 have i:=(z.cell (p:=⟨f,h,none⟩) q).trans D;rcases E.below (z.mono r) with⟨A,c,rfl,rfl⟩|⟨b,s,t,rfl,I,u⟩
 ·exact (HP F n v g l f h _ _ J W i B).mono fun e K ⟨o,j⟩=>⟨o,.inl ⟨_,rfl,j⟩⟩
 ·refine (T7 F n v g C l f h m b s a.length t a d I J G H W i u B).mono ?_;rintro e K ⟨o,⟨ys,rfl,j⟩|⟨pre,⟨k,L,rfl⟩,j⟩⟩
  ·exact⟨o,.inl ⟨_,abn a,j⟩⟩
  ·exact⟨o,.inr ⟨_,by rw[X0 a L];exact List.take_prefix _ _,j⟩⟩
def afC:(Tryz.prog.info? 3).map (fun i=>(i.zero,i.size,i.bytes))=some (some (.int .i64 0),1,8):=by kernel_rfl
set_option maxRecDepth 100000 in
set_option maxHeartbeats 2000000 in
def appendSeq_in (F:Fence) (n:Nat) (h3:F.fn 135) (h7:F.fn 132) (hro:F.round=none) (hn:3<=n) (Bs Bo:Nat) (sv:Value) (zs:List Int) (hreach:zs.length*8<=140737488351232) (w:World)
  (hBs:Bs<w.heap.size) (hc:w.cell? ⟨Bs,Bo,none⟩=some sv) (hI:Ints w.heap.size w sv zs) :
  CallsIn F n prog 135 #[.slice none 0 0,.func (.func 132) #[] #[.pointer (some ⟨Bs,Bo,none⟩)]] w fun e W'=>∃v,e=.returned v∧W'.ownsRow w.heap.size 3 1 v zs.length (zs.map (Value.int .i64))∧(v=.slice none 0 0↔zs=[])∧Below w.heap.size w W':=by
 have h1:1<=n:=by omega
 obtain⟨i0,hi,hz0,hz1,hz2⟩:=info_parts afC;refine callsIn_of_wp_marks func135 rfl h3 ?_ hro;simp only[ntmps135,ajN,List.length_cons,List.length_nil,Nat.reduceAdd,Nat.reduceSub,alH,Array.replicate_zero,alJ,alK,List.nil_append,List.cons_append]
 gi_wp2
 have bO:=Boxed.new w 22 (.slice none 0 0);have hB0:Below w.heap.size w (w.alloc (.cells #[.slice none 0 0] 22)):=(Below.refl _ w).alloc (air _) _;refine wpIn_rangeFunc_ownG hro h1 (gf:=132) (lb:=#[.pointer (some ⟨Bs,Bo,none⟩)]) rfl h7 (enters_of func132 (by kernel_rfl) rfl)
  (Na F (n-1) h7 hro (by omega) Bs Bo w.heap.size sv zs hreach _ (by simp;omega) (by simp) ((hB0.cell (p:=⟨Bs,Bo,none⟩) hBs).trans hc) (hI.below hB0)) belowK_t (belowK_b (by simp)) (Below.refl _ _) (fun _=>rfl)
  (fun pre W=>(∃v,Boxed W w.heap.size 22 v∧W.ownsRow w.heap.size 3 1 v pre.length (pre.map (Value.int .i64))∧(v=.slice none 0 0↔pre=[]))∧Below w.heap.size w W)
  (fun _ _ _=>False)
  (OwnFrom.and (Own.from (holdsRow_own w.heap.size w.heap.size 22 3 1 (fun pre=>pre.length) (fun pre=>pre.map (Value.int .i64)) (fun pre v=>v=.slice none 0 0↔pre=[])) _) (ownFrom_below (air _) (by simp)))
  (fun _ _ _ _ _ hs _ _=>hs)
  ⟨⟨_,bO,World.ownsRow_nil _ _ _ _,by simp⟩,hB0⟩
  (fun x=>{ tmps:=#[.slice none 0 0,.func (.func 132) #[] #[.pointer (some ⟨Bs,Bo,none⟩)],.pointer (some ⟨w.heap.size,0,none⟩),undef,.slice none 0 0,.int .i64 x,.func (.func 132) #[] #[.pointer (some ⟨Bs,Bo,none⟩)],.int .i64 x,undef,undef,undef,undef,undef],defers:=[] }) ?assign ?body ?done ?stop
 case assign =>
  intro l x W K hK
  gi_wp2
  exact hK
 case body =>
  rintro l pre x W ⟨⟨v,hv,hrow,hnil⟩,hB⟩ hlt;have hc:=hv.cell
  gi_wp2_with (gi_at_builtin;refine wpListIn_append_own _ rfl _ _ 22 rfl w.heap.size 3 i0 (.int .i64 0) 1 8 underlying22 hi hz0 hz1 hz2 rfl (by decide) _ _ _ rfl (hrow.alloc _) ⟨W.heap.size,0,none⟩ 1 1 [.int .i64 x] rfl rfl (cell_one_new _ _ _) (by simp[Value.oneCell']) (by unfold maxLen;omega) (by omega) (by have:=hB.size;simp;omega) ?_;intro v' w1 hown' hgrow _;obtain⟨g',cap',rfl⟩:=ownsRow_succ hown';obtain⟨hv1,hv2,hr2,hk2,hb2⟩:=hv.appended (by decide) hrow hB.size (air _) hown' hgrow;have hc1:=hv1.cell;have hf1:=hv1.frozen)
  exact⟨hk2.from _,hb2,⟨_,hv2,by simpa using hr2,by simp⟩,hB.trans hb2⟩
 case done =>
  rintro D ys W hD rfl ⟨⟨v,hv,hrow,hnil⟩,hB⟩ hK;have hc:=hv.cell
  gi_wp2
  refine⟨by simp,.inl ⟨_,_,rfl,run_takeDeferred hK,?_⟩⟩;exact⟨_,results_tmp rfl _ _ _,v,rfl,ownsRow_putObj hrow _ hK rfl,hnil,hB.trans (belowK_b (w:=w) (air _) W D _ _ (by simp at hD;omega) hK rfl rfl)⟩
 case stop =>
  rintro D c pre W _ _ h _;exact h.elim
set_option maxHeartbeats 1000000 in
def collect_in (F:Fence) (n:Nat) (h2:F.fn 130) (h3:F.fn 135) (h7:F.fn 132) (hro:F.round=none) (hn:4<=n) (Bs Bo:Nat) (sv:Value) (zs:List Int) (hreach:zs.length*8<=140737488351232) (w:World)
  (hBs:Bs<w.heap.size) (hc:w.cell? ⟨Bs,Bo,none⟩=some sv) (hI:Ints w.heap.size w sv zs) :
  CallsIn F n prog 130 #[.func (.func 132) #[] #[.pointer (some ⟨Bs,Bo,none⟩)]] w fun e W'=>∃v,e=.returned v∧W'.ownsRow w.heap.size 3 1 v zs.length (zs.map (Value.int .i64))∧(v=.slice none 0 0↔zs=[])∧Below w.heap.size w W':=by
 have h1:1<=n:=by omega
 refine callsIn_of_wp func130 rfl h2 ?_ hro;simp only[ntmps130,ajN,List.length_cons,List.length_nil,Nat.reduceAdd,Nat.reduceSub,alH,Array.replicate_zero,alJ,alK,List.nil_append,List.cons_append]
 gi_wp2_with (gi_at_call 135;refine (appendSeq_in F (n-1) h3 h7 hro (by omega) Bs Bo sv zs hreach _ hBs hc hI).mono ?_;rintro e w' ⟨v,rfl,hrow,hnil,hb⟩)
 go_ret
 exact⟨v,rfl,hrow,hnil,hb⟩
def acV (a:Option Addr) (len cap:Nat) (w:World) :
  Calls prog 113 #[.slice a len cap] w fun e w'=>e=.returned (.func (.func 132) #[] #[.pointer (some ⟨w.heap.size,0,none⟩)])∧w'=w.alloc (.cells #[.slice a len cap] 22):=by
 go_enter func113,ntmps113
 go_wp2
 go_ret
 exact⟨rfl,rfl⟩
set_option maxHeartbeats 1000000 in
def acO (Bs Bo:Nat) (sv:Value) (zs:List Int) (hreach:zs.length*8<=140737488351232) (w:World) (hBs:Bs<w.heap.size) (hc:w.cell? ⟨Bs,Bo,none⟩=some sv) (hI:Ints w.heap.size w sv zs) :
  Calls prog 112 #[.func (.func 132) #[] #[.pointer (some ⟨Bs,Bo,none⟩)]] w fun e w'=>∃v,e=.returned v∧Below w.heap.size w w' ∧
   ((zs=[]∧v=.slice none 0 0)∨∃g cap cs,v=.slice (some ⟨g,0,none⟩) zs.length cap∧w.heap.size<=g∧w'.heap[g]? = some (.cells cs 3 (0,0))∧zs.length<=cap∧cap<=maxLen∧cs.size=cap∧∀j,j<zs.length->cs.getD j undef=.int .i64 ((qp zs).getD j 0)):=by
 refine (callsIn_wide (n:=6)).1 ?_;have hN:(1:Nat)<=6:=by omega
 have cC:=collect_in Fence.wide 5 trivial trivial trivial rfl (by omega) Bs Bo sv zs hreach w hBs hc hI;refine callsIn_of_wp func112 rfl trivial ?_ rfl;simp only[ntmps112,ajN,List.length_cons,List.length_nil,Nat.reduceAdd,Nat.reduceSub,alH,Array.replicate_zero,alJ,alK,List.nil_append,List.cons_append];have hf1:Fence.wide.fn 130:=trivial;have hf2:Fence.wide.fn 131:=trivial;have cS:afm prog 131:=fun blk off cap zs w hH hb hl=>Any.slices_Sort_int Tryz.Vn blk off cap zs w hH hb hl
 by_cases hz:zs=[]
 ·subst hz
  gi_wp2_with (first
   | (gi_at_call 130;refine cC.mono ?_;clear cC;rintro e w' ⟨v,rfl,hrow,hnil,hb⟩;obtain rfl:v=.slice none 0 0:=hnil.2 rfl)
   | (gi_at_call 131;refine (callsIn_wide.2 (Any.slices_Sort_int_none Tryz.Vn _ _ _)).mono ?_;rintro e2 w2 ⟨rfl,rfl⟩))
  go_ret
  first|exact⟨_,rfl,hb,.inl rfl⟩|exact⟨_,rfl,hb,.inl ⟨rfl,rfl⟩⟩
 ·gi_wp2_with (gi_at_call 130;refine cC.mono ?_;clear cC;rintro e w' ⟨v,rfl,hrow,hnil,hb⟩;obtain⟨g,cap,cur,rfl,k1,k2,k3,k4,k5,k6⟩:∃g cap cur,v=.slice (some ⟨g,0,none⟩) zs.length cap∧w.heap.size<=g∧w'.heap[g]? = some (.cells cur 3 (0,0))∧zs.length<=cap∧cap<=maxLen∧cur.size=cap*1∧cur.toList.take (zs.length*1)=zs.map (Value.int .i64):=hrow.2.resolve_left (fun hv=>hz (hnil.1 hv.1)))
  rw[Nat.mul_one]at k5 k6;have hcur:∀j,j<zs.length->cur[j]? = some (.int .i64 (zs.getD j 0)):=by
   intro j hj;have:(cur.toList.take zs.length)[j]? = (zs.map (Value.int .i64))[j]?:=by rw[k6]
   rw[aiH,if_pos hj,aio,aji]at this;rw[this];simp[List.getD,hj]
  have hH:Go.Sort.Holds (Value.int .i64) w' g 0 zs.toArray:=by
   intro j hj;simp only[ajN]at hj;refine⟨?_,by simp[World.frozen?,k2]⟩;simp only[World.cell?,k2,ajf];rw[hcur j hj];simp[List.getD,hj]
  have hlt:g<w'.heap.size:=(aiv.1 k2).1
  gi_wp2_with (gi_at_call 131;refine (callsIn_wide.2 (cS g 0 cap zs w' hH hlt (by omega))).mono ?_;rintro e2 w2 ⟨rfl,q,os,rfl⟩)
  go_ret
  refine⟨_,rfl,?_,.inr ⟨g,cap,Go.Sort.putCells (Value.int .i64) 0 (qp zs).toArray cur,rfl,k1,?_,k3,k4,?_,fun j hj =>?_⟩⟩
  ·refine⟨hb.os,hb.tape,hb.output,ait hb.size (by simp[Go.Sort.grow,Go.Sort.ahead]),fun k hk =>?_⟩;have hk':k<w'.heap.size:=aiu hk hb.size;rw[Go.Sort.heap_grow_old _ _ (by simpa [Go.Sort.ahead] using hk'),Hb (by omega)];exact hb.block k hk
  ·rw[Go.Sort.heap_grow_old _ _ (by simpa [Go.Sort.ahead] using hlt)];exact QR k2
  ·simp[Go.Sort.putCells,k5]
  ·rw[MC (by omega),if_pos (by rw[rm];omega),Nat.sub_zero]
def X3:bZ prog 113 (dN (dy (jZ (eI .i64))) M9 (fun r =>.clean (.clo 132 0 [.ip [.sl false false r.length (ae (eI .i64) r)]]))) where
 callable:=⟨_,func113,by kernel_rfl,by kernel_rfl⟩
 calls lent ds rk out m:=by
  obtain⟨rfl,rfl,l,r,rfl,n,rfl⟩:=sb m;cases n;intro w M vs o a;have g:vs.size=1:=a.size;rw[abp g];have p:=a.at_ 0 _ rfl;generalize vs.getD 0 undef=u at *;have f:RP w M (.sl false false l.length (ae (eI .i64) l)) u:=p;obtain⟨A,c,rfl,-⟩:=Ur f;refine (acV A l.length c w).mono fun e z ⟨q,s⟩ =>?_;subst s;have i:Below w.heap.size w (w.alloc (.cells #[.slice A l.length c] 22)):=(Below.refl _ w).alloc (air _) _;have t:∀b,b<w.heap.size->¬M b->b<(w.alloc (.cells #[.slice A l.length c] 22)).heap.size∧¬M b∧(w.alloc (.cells #[.slice A l.length c] 22)).heap[b]? = w.heap[b]?:=fun b v y=>⟨by simp;omega,y,i.block b v⟩;refine⟨_,q,i,RP.clo _ 0 _ [.pointer (some ⟨w.heap.size,0,none⟩)] rfl fun j x d =>?_⟩;cases j with
  | succ j=>simp at d
  | zero =>
   simp only[List.getElem?_cons_zero,aiA]at d;subst d;refine RP.ip _ ⟨w.heap.size,0,none⟩ (fun _ =>.slice A l.length c) (fun _=>⟨w.heap.size,0,rfl,by simp,fun h=>by have:=o _ h;omega,fun j d =>?_⟩) (fun j x d =>?_) (fun x k =>?_)
   ·simp only[List.length_cons,List.length_nil]at d;have:j=0:=by omega
    subst this;exact (aW (heap_alloc_new w _) (j:=0) (by simp)).trans rfl
   ·cases j with
    | succ j=>simp at d
    | zero =>
     simp only[List.getElem?_cons_zero,aiA]at d;subst d;exact f.keep t
   ·simp only[aiO]at k;subst k;rfl
def XM:bZ prog 112 (dN (dy (Lr 132 0 (dy (Wx (nM (eI .i64)))))) Es (fun r =>.fresh 3 1 r.length (ae (eI .i64) r))) where
 callable:=⟨_,func112,by kernel_rfl,by kernel_rfl⟩
 calls lent ds rk out N:=by
  obtain⟨rfl,rfl,l,r,rfl,s,rfl⟩:=sb N;unfold Es at s;split at s;rotate_left
  ·cases s
  rename_i i;cases s;intro w M vs hM h;have y:vs.size=1:=h.size;rw[abp y];have O:=h.at_ 0 _ rfl;generalize vs.getD 0 undef=u at *;have B:RP w M (.clo 132 0 [.ip [.sl false false l.length (ae (eI .i64) l)]]) u:=O;cases B with
  | clo f kk xs t P h2 =>
   have Q:=h2 0 _ rfl;have C:t=[t.getD 0 undef]:=by
    match t,P with
    | [x],_=>rfl
   rw[C];generalize t.getD 0 undef=q at *;cases Q with
   | ip xs ad m h6 h7 h8 =>
    obtain⟨b,o,rfl,R,S,k⟩:=h6 (by simp);have a:=k 0 (by simp);rw[ai0]at a;have T:=h7 0 _ rfl;have U:Ints w.heap.size w (m 0) l:=by
     obtain⟨A,c,V,I,J,K,D⟩:=Ur T;rw[V]
     by_cases L:l=[]
     ·subst L;exact .inl ⟨A,c,rfl,rfl⟩
     ·obtain⟨W,X,rfl,E,Y,F⟩:=D L;exact .inr ⟨W,X,c,rfl,E,fun j n=>by rw[F j n];simp[List.getD]⟩
    refine (acO b o (m 0) l i w R a U).mono fun e w' ⟨v,Z,G,hv⟩ =>?_;refine⟨v,Z,G,?_⟩;rcases hv with⟨rfl,rfl⟩|⟨g,H,cs,rfl,I,J,K,D,k5,k6⟩
    ·refine .inr ⟨?_,?_,none,rfl⟩
     ·rw[KR];rfl
     ·rw[KR];rfl
    ·refine .inl ⟨(g,0),H,cs,by rw[rm],.inl I,J,by rw[rm];exact K,D,by simp only;omega,by rw[qH,rm];simp only;omega,fun j d n =>?_⟩;have p:=(aiU.1 n).1;rw[qH,rm]at p;rw[xc,aip]at n;obtain⟨z,hz,rfl⟩:=n;simp only[ajf];rw[k6 j p];have:(qp l).getD j 0=z:=by simp[List.getD,hz]
     rw[this];exact⟨rfl,.int _ _⟩
open Go.RowKit P
def Ow {α:Type} (e:iF α):iF (List α):=⟨fun l=>[.nx l.length (ae e l)],1,fun _=>rfl,by decide,fun x y h=>by
 simp only[aiP,D.nx.injEq,and_true]at h;exact xb e _ _ h.2⟩
def Js {α:Type} (e:iF α) (l:List α):(Ow e).cells l=[.nx l.length (ae e l)]:=alM
def Ox {α:Type} (e:iF α):(Ow e).size=1:=alM
section
variable {α:Type} (E:iF α) {l:List α} {i:Int} {x x':α}
def MD (cs:List D) (o:Nat) (d:D) (h:o<cs.length):(putCells cs o [d]).length=cs.length:=by
 simp[putCells];omega
def ME (cs:List D) (o:Nat) (d a:D) (h:o<cs.length):putCells (putCells cs o [d]) o [a]=putCells cs o [a]:=by
 unfold putCells;have e:(cs.take o).length=o:=by simp;omega
 have b:(cs.take o++[d]++cs.drop (o+[d].length)).take o=cs.take o:=by
  rw[ajP,ajT (by omega),ajU (by omega)]
 have c:(cs.take o++[d]++cs.drop (o+[d].length)).drop (o+[a].length)=cs.drop (o+[a].length):=by
  rw[ajQ (by simp;omega),akk (by simp;omega),akh];rfl
 rw[b,c]
def Ml (a:Nat) (h:P.idx l i=some x) (b:a+1<=E.size):i.toNat*E.size+a<(ae E l).length:=by
 have:=lv E h;rw[bA];omega
def QP (a:Nat) (d c:D) (h:P.idx l i=some x) (e:E.cells x'=putCells (E.cells x) a [c]) (b:a+1<=E.size):putCells (putCells (ae E l) (i.toNat*E.size+a) [d]) (i.toNat*E.size+a) [c]=ae E (l.set i.toNat x'):=by
 rw[ME _ _ _ _ (Ml E a h b)];exact fE E a [c] h e b
def VQ (a:Nat) (d:D) (h:P.idx l i=some x) (b:a+1<=E.size):i.toNat*E.size+a+1<=(putCells (ae E l) (i.toNat*E.size+a) [d]).length:=by
 rw[MD _ _ _ (Ml E a h b)];exact Ml E a h b
end
def KO {t s nv n o:Nat} {fz:Bool} {cs xs:List D} : Hs t s nv fz cs o none (some (.nx n xs))=[.nr t s nv (putCells cs o [.und])]:=alM
def VC {α:Type} {E:iF α} {T:Nat->Option Ty} {el B ty' s f:Nat} {φ:Ty} {k:IntKind} {n:Int} {z:α} {m:List α} (o:T el=some φ) (p:ov φ f=E.cells z) (C:φ.size=E.size) (r:(φ.zero.map pq).all fA=true) (t:φ.zero.length=φ.size) (u:aar ((φ.zero.map pq).drop f).head? = true) (v:φ.bytes=B) (h:Gt B n n z=some m)
  : ∀(b c:Nat) (j:List Value) (q:Bool) (e d:Nat),d<1000000->pZ T ⟨.slice el,b,c,j,q⟩ e d ty' s f (.int k n) (.int k n)=some ⟨.buf d e φ.size 0 m.length,[(d,some ⟨e,el,[.nr ty' s (4*e+2) (ae E m)],false,true,true⟩)]⟩:=by
 intro b c j q e d g;obtain⟨w,i,x,y,A⟩:=mk_one E h;have a:sd (.int k n)=some n.toNat:=by simp[sd,w]
 have l:=E.pos;unfold pZ;simp only[o,a];rw[if_pos ⟨air _,by rw[i];exact x,by rw[i,v];exact A,by omega,r,t,by rw[cK];exact g,u⟩,p,i,y]
def Jb {k:IntKind} {n:Int} : fA (.int k n)=true:=alM
def N9 {a b:Bool} {n:Nat} {xs:List D} : fA (.sl a b n xs)=true:=alM
def cj {α β:Type} (A:jH α) (F:α->Option β) (R:β->Nat×Nat×Nat×Nat×Nat×List D):List D->Option (Nat×Nat×Nat×Nat×Nat×List D):=fun b=>open Classical in if h:∃a,A.ds a=b then (F (Classical.choose h)).map R else none
def aeu {α β:Type} (A:jH α) (F:α->Option β) (R:β->Nat×Nat×Nat×Nat×Nat×List D) (a:α):cj A F R (A.ds a)=(F a).map R:=by
 have h:∃b,A.ds b=A.ds a:=⟨a,rfl⟩;simp only[cj];rw[dif_pos h,A.inj _ _ (Classical.choose_spec h)]
def aaj {α β:Type} {A:jH α} {F:α->Option β} {R:β->Nat×Nat×Nat×Nat×Nat×List D} {b:List D} {q:Nat×Nat×Nat×Nat×Nat×List D} (h:cj A F R b=some q):∃a r,b=A.ds a∧F a=some r∧q=R r:=by
 unfold cj at h;split at h
 ·rename_i c;rw[aip]at h;obtain⟨r,d,e⟩:=h;exact⟨_,r,(Classical.choose_spec c).symm,d,e.symm⟩
 ·cases h
structure FOk (P:Program) (f:FuncId) (p:List D->Option (Nat×Nat×Nat×Nat×Nat×List D)):Prop where
 callable:eD P f
 calls:∀args ty t s S n cs,p args=some (ty,t,s,S,n,cs)->Li P f args ty t s S n cs
def FOk.of {P:Program} {T:Nat->Option Ty} {Γ:Env} (g:ji P T) (i:bI P Γ) (j:P.follows .mixedOrders=true) {α β:Type} {A:jH α} {F:α->Option β} {R:β->Nat×Nat×Nat×Nat×Nat×List D} {f:FuncId} {b:Func} (e:P.funcs[f]? = some b) (d:(match b.body with|some c=>codeOk c|none=>true)=true)
  (k:(b.name == "runtime.NumGoroutine")=false∧b.body.isNone=false) (l:∀a,(A.ds a).length<=b.ntmps) (h:∀a r,F a=some r->vT T Γ FU b (A.ds a)=some (R r)):FOk P f (cj A F R) where
 callable:=⟨b,e,k⟩
 calls args ty t s S n cs m:=by
  obtain⟨a,r,rfl,o,p⟩:=aaj m;exact Nb g i j e d (l a) ((h a r o).trans (by rw[p]))
def RJ {α:Type} {E a:iF α} (h:∀x,(a.cells x).map y4=E.cells x):∀l:List α,(ae a l).map y4=ae E l
 | []=>rfl
 | x::l=>by rw[bk,bk,ajY,h x,RJ h l]
def Ks {α:Type} {a:iF α} {s:Nat} (h:∀x,(a.cells x).all (tR s)=true):∀l:List α,(ae a l).all (tR s)=true
 | []=>rfl
 | x::l=>by rw[bk,List.all_append,h x,Ks h l];rfl
def bZ.ofW {P:Program} {T:Nat->Option Ty} {Γ:Env} (g:ji P T) (i:bI P Γ) (j:P.follows .mixedOrders=true) {α γ:Type} {A:jH α} {F:α->Option (List γ)} {E EN:iF γ} {ty t s:Nat} {f:FuncId} {b:Func} (e:P.funcs[f]? = some b) (d:(match b.body with|some c=>codeOk c|none=>true)=true)
  (k:(b.name == "runtime.NumGoroutine")=false∧b.body.isNone=false) (l:∀a,(A.ds a).length<=b.ntmps) (m:EN.size=E.size) (n:∀x,(EN.cells x).map y4=E.cells x) (o:∀x,(EN.cells x).all (tR s)=true)
  (h:∀a r,F a=some r->vT T Γ FU b (A.ds a)=some (ty,t,s,E.size,r.length,ae EN r)):bZ P f (dN A F fun r =>.clean (.sl false false r.length (ae E r))) where
 calls lent aim rk out p:=by
  obtain⟨rfl,rfl,a,r,rfl,q,rfl⟩:=sb p;refine Nd (F:=FU) g i j e d (l a) ?_;unfold Ua ZI;rw[h a r q];simp only;have u:(ae EN r).length=r.length*E.size:=by rw[bA,m]
  rw[if_pos ⟨by rw[u];exact air _,Ks o r⟩,RJ n r,ajU (by rw[bA];exact air _)]
 callable:=⟨b,e,k⟩
def Ii {α β γ:Type} (ty t s:Nat) (c:iF γ) (A:jH α) (F:γ->α->Option (γ×β)) (R:β->D):Nat->Nat->Nat->Nat->List D->List D->Option (D×List D):=fun b d e o cs a =>
 open Classical in if h:∃p:List D×List D×γ×α,b=ty∧d=t∧e=s∧cs=p.1++(c.cells p.2.2.1++p.2.1)∧o=p.1.length∧a=A.ds p.2.2.2 then
  (F (Classical.choose h).2.2.1 (Classical.choose h).2.2.2).map fun r=>(R r.2,(Classical.choose h).1++(c.cells r.1++(Classical.choose h).2.1)) else none
def Mk {α β γ:Type} (ty t s:Nat) (b:iF γ) (A:jH α) (F:γ->α->Option (γ×β)) (R:β->D) (pre post:List D) (x:γ) (a:α) :
  Ii ty t s b A F R ty t s pre.length (pre++(b.cells x++post)) (A.ds a)=(F x a).map fun r=>(R r.2,pre++(b.cells r.1++post)):=by
 have h:∃p:List D×List D×γ×α,ty=ty∧t=t∧s=s∧pre++(b.cells x++post)=p.1++(b.cells p.2.2.1++p.2.1)∧pre.length=p.1.length∧A.ds a=A.ds p.2.2.2:=⟨(pre,post,x,a),rfl,rfl,rfl,rfl,rfl,rfl⟩;obtain⟨_,_,_,c,d,e⟩:=Classical.choose_spec h;obtain⟨f,g⟩:=akv c d;obtain⟨i,j⟩:=akv g (by rw[b.len,b.len]);unfold Ii;rw[dif_pos h,<- f,<- j,<- b.inj _ _ i,<- A.inj _ _ e]
def Xt {α β γ:Type} {ty t s:Nat} {e:iF γ} {A:jH α} {F:γ->α->Option (γ×β)} {R:β->D} {ty' g i o:Nat} {cs b:List D} {d:D} {c:List D} (h:Ii ty t s e A F R ty' g i o cs b=some (d,c)) :
  ty'=ty∧g=t∧i=s∧∃pre post x a r,cs=pre++(e.cells x++post)∧o=pre.length∧b=A.ds a∧F x a=some r∧d=R r.2∧c=pre++(e.cells r.1++post):=by
 unfold Ii at h;split at h
 ·rename_i j;obtain⟨k,l,m,n,p,q⟩:=Classical.choose_spec j;rw[aip]at h;obtain⟨r,u,f⟩:=h;simp only[Prod.mk.injEq]at f;exact⟨k,l,m,_,_,_,_,r,n,p,q,u,f.1.symm,f.2.symm⟩
 ·cases h
structure NOk (P:Program) (f:FuncId) (p:Nat->Nat->Nat->Nat->List D->List D->Option (D×List D)):Prop where
 callable:eD P f
 calls:∀ty t s o cs args d cs',p ty t s o cs args=some (d,cs')->Lj P f ty t s o cs args d cs'
def NOk.of {P:Program} {T:Nat->Option Ty} {Γ:Env} (j:ji P T) (k:bI P Γ) (l:P.follows .mixedOrders=true) {α β γ:Type} {ty t s:Nat} {e:iF γ} {A:jH α} {F:γ->α->Option (γ×β)} {R:β->D} {f:FuncId} {b:Func} (i:P.funcs[f]? = some b) (g:(match b.body with|some c=>codeOk c|none=>true)=true)
  (m:(b.name == "runtime.NumGoroutine")=false∧b.body.isNone=false) (n:∀a,(A.ds a).length+1<=b.ntmps) (h:∀pre post x a x' r,F x a=some (x',r)->vU T Γ FU b ty t s pre.length (pre++(e.cells x++post)) (A.ds a)=some (R r,pre++(e.cells x'++post))):NOk P f (Ii ty t s e A F R) where
 callable:=⟨b,i,m⟩
 calls ty' u v o cs args d cs' p:=by
  obtain⟨rfl,rfl,rfl,pre,post,x,a,r,rfl,rfl,rfl,q,rfl,rfl⟩:=Xt p;exact Nc j k l i g (n a) (h pre post x a r.1 r.2 q)
def QJ {α:Type} {x:Bool×α} {q:α} (h:QI x=some q):x=(false,q):=by
 obtain⟨b,y⟩:=x;cases b
 ·cases h;rfl
 ·cases h
def Rn {α:Type} {x:Bool×α} {q:α} (h:Rm x=some q):x=(true,q):=by
 obtain⟨b,y⟩:=x;cases b
 ·cases h
 ·cases h;rfl
def afy {α:Type} (E EN:iF α) (d:EN.size=E.size) (a:∀x y,E.cells x≠EN.cells y):iF (Bool×α):=⟨fun p=>match p.1 with|true=>E.cells p.2|false=>EN.cells p.2,E.size,fun p=>by
  obtain⟨b,x⟩:=p;cases b
  ·exact (EN.len x).trans d
  ·exact E.len x,E.pos,fun p q h=>by
  obtain⟨b,x⟩:=p;obtain⟨c,y⟩:=q;cases b<;>cases c
  ·exact congrArg (Prod.mk false) (EN.inj x y h)
  ·exact absurd h.symm (a _ _)
  ·exact absurd h (a _ _)
  ·exact congrArg (Prod.mk true) (E.inj x y h)⟩
def JP {α:Type} {a:iF α} {b:iF (Bool×α)} (c:∀x,b.cells (false,x)=a.cells x):∀l:List α,ae a l=ae b (JO l)
 | []=>rfl
 | x::l=>by
  have d:=JP c l;rw[bk,d,<- c x];rfl
def JQ {α:Type} {l:List α} : (JO l).length=l.length:=aiV ..
def FD {γ:Type} {E:iF γ} {C:List γ} {i:Int} {x:γ} (h:P.idx C i=some x) (y:γ):ae E (C.set i.toNat y)=ae E (C.take i.toNat)++(E.cells y++ae E (C.drop (i.toNat+1)))∧(ae E (C.take i.toNat)).length=i.toNat*E.size:=by
 have a:=rX h;refine⟨?_,by rw[bA,aiK];congr 1;omega⟩;rw[TC E C i.toNat x (L9 h) y,<- lr,ajP];congr 2;have:i.toNat*E.size+E.size=(i.toNat+1)*E.size:=by rw[ajp]
 rw[this,oP]
def ZC {γ:Type} {E:iF γ} {C:List γ} {i:Int} {x:γ} (h:P.idx C i=some x):ae E C=ae E (C.take i.toNat)++(E.cells x++ae E (C.drop (i.toNat+1))):=by
 have a:=(FD (E:=E) h x).1;have b:C.set i.toNat x=C:=by
  obtain⟨c,d⟩:=aiU.1 (L9 h);rw[<- d,List.set_getElem_self]
 rwa [b]at a
def VA {α β γ:Type} {ty t s:Nat} {c:iF γ} {b:iF (Bool×γ)} (d:∀x,b.cells (false,x)=c.cells x) {A:jH α} {F:γ->α->Option (γ×β)} {R:β->D} {C:List (Bool×γ)} {i:Int} {q:γ} (h:P.idx C i=some (false,q)) (a:α) :
  Ii ty t s c A F R ty t s (i.toNat*b.size) (ae b C) (A.ds a)=(F q a).map fun r=>(R r.2,ae b (C.set i.toNat (false,r.1))):=by
 have e:=ZC (E:=b) h;have f:=(FD (E:=b) h (false,q)).2;rw[e,<- f,d,Mk];congr 1;funext r;rw[(FD (E:=b) h (false,r.1)).1,d]
def abr {K:Nat} (pre cs post:List D) (c:cs.length=K):nF K pre.length (pre++(cs++post))=pre++(cs.map y4++post):=by
 apply akE;intro j;rw[tz]
 by_cases a:j<pre.length
 ·rw[ai5 (l₁:=pre) a,ai5 (l₁:=pre) a,aiE a];simp only[Option.map_some];rw[if_neg (by omega)]
 ·rw[ai6 (l₁:=pre) (by omega),ai6 (l₁:=pre) (by omega)]
  by_cases b:j-pre.length<cs.length
  ·rw[ai5 (l₁:=cs) b,ai5 (l₁:=cs.map y4) (by rw[aiV];exact b),aio,aiE b];simp only[Option.map_some];rw[if_pos (by omega)]
  ·rw[ai6 (l₁:=cs) (by omega),ai6 (l₁:=cs.map y4) (by rw[aiV];omega),aiV];cases post[j-pre.length-cs.length]? with
   | none=>rfl
   | some d =>
    simp only[Option.map_some];rw[if_neg (by omega)]
def afB {γ:Type} {s:Nat} {E b:iF γ} {a:iF (Bool×γ)} (c:∀x,a.cells (false,x)=b.cells x) (f:∀x,a.cells (true,x)=E.cells x) (g:∀x,(b.cells x).map y4=E.cells x) (j:∀x,(b.cells x).all (tR s)=true) {C:List (Bool×γ)} {i:Int} {x:Bool×γ} (h:P.idx C i=some x) (q:γ) :
  (((ae a (C.set i.toNat (false,q))).drop (i.toNat*a.size)).take a.size).all (tR s)=true∧nF a.size (i.toNat*a.size) (ae a (C.set i.toNat (false,q)))=ae a (C.set i.toNat (true,q)):=by
 obtain⟨d,e⟩:=FD (E:=a) h (false,q);have k:=a.len (false,q);have l:=rX h;refine⟨?_,?_⟩
 ·rw[d,<- e,List.drop_left' rfl,ajT (by omega),ajU (by omega),c];exact j q
 ·rw[(FD (E:=a) h (true,q)).1,d,<- e,abr _ _ _ k,c,g,f]
section
variable {pre l:List D} {k m:Nat}
def abh:(pre++l).take (pre.length+k)=pre++l.take k:=List.take_length_add_append ..
def Wk:(pre++l).take pre.length=pre:=List.take_left' rfl
def Sw:(pre++l).drop (pre.length+k)=l.drop k:=List.drop_length_add_append ..
def UU:(pre++l).drop pre.length=l:=List.drop_left' rfl
def UW:(pre++l).drop (pre.length+k+m)=l.drop (k+m):=by rw[aiM,Sw]
def S8:(pre.length+k<=(pre++l).length)=(k<=l.length):=by rw[ajB];exact propext ⟨fun h=>by omega,fun h=>by omega⟩
def Vt:(pre.length+k+m<=(pre++l).length)=(k+m<=l.length):=by rw[aiM,S8]
end
def Qf {ty t s nv:Nat} {cs:List D} : ja ty t s nv cs=⟨0,ty,[.nr t s nv cs],false,true,true⟩:=alM
def vnp:=ai @Qf<|ai @abh<|ai @Wk<|ai @Sw<|ai @UU<|ai @UW<|ai @S8<|ai @Vt<|@ajP
def PD {τ:Ty} {h:Nat->Option Row} {x v o:Nat} : tD τ h x v o none=none:=alM
def Vh {d:D} {l:List D} : (d::l).head? = some d:=alM
def VU {r:Row} {f:Row->Option Row} : (some r).bind f=f r:=alM
def N0 {x o:Nat} : clP x o none=none:=alM
def Nz {q:Option (List D×List Nat)} : caC none q=none:=alM
def IU {Γ:Env} {h:Nat->Option Row} {e g:Nat} {dst:Option Nat} : abR Γ h e dst g none=none:=alM
def abt {o:Nat} {cs:List D} : nF 0 o cs=cs:=Lf o cs
def ac1 {x o n:Nat} (h:n<1000000):(NK x o=n)=False:=by
 have:=fJ x o;have:=cK;exact propext ⟨fun e=>by omega,fun e=>e.elim⟩
def DF {g:Nat} : bf.lends g=false:=alM
def Km {g:Nat} {l:Option (D×Row)} {aim:List D} : bf.sem g l aim=none:=alM
def vnl:=ai @DF<|@Km
def vn:=ai @KO<|ai @JQ<|ai @ac1<|ai @acg.eq_1<|ai @N0<|ai @Nz<|ai @IU<|ai @abt<|ai @VU<|ai @PD<|ai @Vh<|ai @Js<|ai @Jb<|ai @N9<|@Ox
end Go.Proofs.YtokgehacmjmfkaaGreat.Am
