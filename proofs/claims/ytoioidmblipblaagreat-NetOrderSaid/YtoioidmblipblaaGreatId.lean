import Derived.Test.YtoioidmblipblaaGreatIc
set_option linter.unusedSimpArgs false
set_option linter.unusedVariables false
noncomputable section
open Go.Proofs.Tryz
namespace Go.Proofs.YtoioidmblipblaaGreat.Am
open Go.RowKit
inductive W where
 | code (c:Code)
 | blk (id:Nat)
section
variable (T:Nat->Option Ty) (Γ:Env) (N F:Nat)
def cW:List W->Kt->Kt
 | [],Q=>Q
 | .code c::ws,Q=>fun x t h e=>adt x (O6 T Γ N F c t h e (cW ws Q)) (cW ws Q x t h e)
 | .blk id::ws,Q=>fun x t h e=>Wg id x t h e (cW ws Q)
def jV (ops l:List Oper) (ws:List W) (Q:Kt) (t:Nat->D) (h:Nat->Option Row) (e:Nat):Prop :=
 Ek T Γ N e ops l t h fun t h=>cW T Γ N F ws Q .normal t h (e+1)
def kC (ops l:List Oper) (ws:List W) (Q:Kt) (t:Nat->D) (h:Nat->Option Row) (e:Nat) (fs:List jP):Prop :=
 runK T Γ N e ops l t h fs fun t h fs=>Co ops.toArray fs=true∧cW T Γ N F ws Q .normal t h (e+1)
def nU (o:Oper) (ops l:List Oper) (ws:List W) (Q:Kt) (t:Nat->D) (h:Nat->Option Row) (e:Nat):Prop :=
 O4 T Γ e o t h fun t E=>jV T Γ N F ops l ws Q (eF t o.dst E.val) (aK h E.hw) e
def nV (o:Oper) (ops l:List Oper) (ws:List W) (Q:Kt) (t:Nat->D) (h:Nat->Option Row) (e:Nat) (fs:List jP):Prop :=
 O4 T Γ e o t h fun t E=>kC T Γ N F ops l ws Q (eF t o.dst E.val) (aK h E.hw) e (fs++[⟨bm o (ev t),E.hw.isEmpty⟩])
def uV (d:D) (g:Nat) (want:Bool) (o:Oper) (ops l:List Oper) (ws:List W) (Q:Kt) (t:Nat->D) (h:Nat->Option Row) (e:Nat):Prop :=
 wpS d t g (fun t=>if want then nU T Γ N F o ops l ws Q t h e else jV T Γ N F ops l ws Q (eF t o.dst .skp) h e) (fun t=>if want then jV T Γ N F ops l ws Q (eF t o.dst .skp) h e else nU T Γ N F o ops l ws Q t h e) (fun t=>jV T Γ N F ops l ws Q (eF t o.dst .skp) h e)
def uW (d:D) (g:Nat) (want:Bool) (o:Oper) (ops l:List Oper) (ws:List W) (Q:Kt) (t:Nat->D) (h:Nat->Option Row) (e:Nat) (fs:List jP):Prop :=
 wpS d t g (fun t=>if want then nV T Γ N F o ops l ws Q t h e fs else kC T Γ N F ops l ws Q (eF t o.dst .skp) h e (fs++[⟨[],true⟩])) (fun t=>if want then kC T Γ N F ops l ws Q (eF t o.dst .skp) h e (fs++[⟨[],true⟩]) else nV T Γ N F o ops l ws Q t h e fs) (fun t=>kC T Γ N F ops l ws Q (eF t o.dst .skp) h e (fs++[⟨[],true⟩]))
def Eu (x y:Option bB) (dst:Option Nat) (ops l:List Oper) (ws:List W) (Q:Kt) (t:Nat->D) (h:Nat->Option Row) (e:Nat):Prop :=
 oP (Zw h x y) fun E=>jV T Γ N F ops l ws Q (eF t dst E.val) (aK h E.hw) e
def Ev (x y:Option bB) (dst:Option Nat) (O:List Nat) (ops l:List Oper) (ws:List W) (Q:Kt) (t:Nat->D) (h:Nat->Option Row) (e:Nat) (fs:List jP):Prop :=
 oP (Zw h x y) fun E=>kC T Γ N F ops l ws Q (eF t dst E.val) (aK h E.hw) e (fs++[⟨O,E.hw.isEmpty⟩])
def xK (x:Option bB) (dst:Option Nat) (ops l:List Oper) (ws:List W) (Q:Kt) (t:Nat->D) (h:Nat->Option Row) (e:Nat):Prop:=Eu T Γ N F x none dst ops l ws Q t h e
def xL (x:Option bB) (dst:Option Nat) (O:List Nat) (ops l:List Oper) (ws:List W) (Q:Kt) (t:Nat->D) (h:Nat->Option Row) (e:Nat) (fs:List jP):Prop:=Ev T Γ N F x none dst O ops l ws Q t h e fs
def Fp (y:Option bB) (dst:Option Nat) (ops l:List Oper) (ws:List W) (Q:Kt) (t:Nat->D) (h:Nat->Option Row) (e:Nat):Prop :=
 oP y fun E=>jV T Γ N F ops l ws Q (eF t dst E.val) (aK h E.hw) e
def Fq (y:Option bB) (dst:Option Nat) (O:List Nat) (ops l:List Oper) (ws:List W) (Q:Kt) (t:Nat->D) (h:Nat->Option Row) (e:Nat) (fs:List jP):Prop :=
 oP y fun E=>kC T Γ N F ops l ws Q (eF t dst E.val) (aK h E.hw) e (fs++[⟨O,E.hw.isEmpty⟩])
def J2 (d:D) (g:Nat) (x y:Code) (ws:List W) (Q:Kt) (t:Nat->D) (h:Nat->Option Row) (e:Nat):Prop :=
 Rk d t g (fun t=>cW T Γ N F (.code x::ws) Q .normal t h e) (fun t=>cW T Γ N F (.code y::ws) Q .normal t h e)
def X3 (d:D) (g:Nat) (a b:Operand) (dst:Option Nat) (ops l:List Oper) (ws:List W) (Q:Kt) (t:Nat->D) (h:Nat->Option Row) (e:Nat):Prop :=
 Rk d t g (fun t=>jV T Γ N F ops l ws Q (eF t dst (ev t a)) h e) (fun t=>jV T Γ N F ops l ws Q (eF t dst (ev t b)) h e)
def X4 (d:D) (g:Nat) (a b:Operand) (dst:Option Nat) (ops l:List Oper) (ws:List W) (Q:Kt) (t:Nat->D) (h:Nat->Option Row) (e:Nat) (fs:List jP):Prop :=
 Rk d t g (fun t=>kC T Γ N F ops l ws Q (eF t dst (ev t a)) h e (fs++[⟨[],true⟩])) (fun t=>kC T Γ N F ops l ws Q (eF t dst (ev t b)) h e (fs++[⟨[],true⟩]))
def Tn (b:Code) (ws:List W) (Q:Kt) (t:Nat->D) (h:Nat->Option Row) (e:Nat):Prop:=O6 T Γ N F (.loop b) t h e (cW T Γ N F ws Q)
end
theorem He {n:Nat} (h:n<=1000000):n<=maxLen:=afF h (by decide)
theorem HP {z:List D} : mm 0 z=[]:=aiw
theorem HO {n:Nat} {z:List D} : mm (n+1) z=z++mm n z:=by simp[mm,List.replicate_succ]
theorem GU {N:Nat} : fits N none=true:=aiw
theorem GV {N i:Nat} : fits N (some i)=decide (i<N):=aiw
def sO:List Oper->Nat->Nat
 | [],_=>0
 | o::_,0=>o.dst.getD 0
 | _::l,j+1=>sO l j
def xh:List Oper->Nat->Bool
 | [],_=>false
 | o::_,0=>o.dst.isSome
 | _::l,j+1=>xh l j
theorem Ck:∀(l:List Oper) (j:Nat),xh l j=true->(l[j]?).bind (·.dst)=some (sO l j)
 | [],j,h=>by simp[xh]at h
 | o::l,0,h=>by
  simp only[xh]at h;simp only[List.getElem?_cons_zero,Option.bind_some,sO];cases O:o.dst with
  | none=>rw[O]at h;cases h
  | some d=>rfl
 | o::l,j+1,h=>by simpa [sO] using Ck l j h
theorem Cm {d:Nat} {op:Op} {ty:Nat} {pos:String} {af:Array Edge} {gd:Option (Nat×Bool)} {l:List Oper} : sO (⟨some d,op,ty,pos,af,gd⟩::l) 0=d:=aiw
theorem Cl {o:Oper} {l:List Oper} {j:Nat} : sO (o::l) (j+1)=sO l j:=aiw
theorem C5 {d:Nat} {op:Op} {ty:Nat} {pos:String} {af:Array Edge} {gd:Option (Nat×Bool)} {l:List Oper} : xh (⟨some d,op,ty,pos,af,gd⟩::l) 0=true:=aiw
theorem C4 {o:Oper} {l:List Oper} {j:Nat} : xh (o::l) (j+1)=xh l j:=aiw
section
variable {dst:Option Nat} {ty:Nat} {pos:String} {af:Array Edge} {gd:Option (Nat×Bool)} {vs:Operand->D}
def xp (vs:Operand->D):List Operand->List Nat
 | []=>[]
 | x::l=>nm (vs x)++xp vs l
theorem fI (vs:Operand->D):∀l:List Operand,(l.flatMap fun x=>nm (vs x))=xp vs l
 | []=>Eq.trans rfl rfl
 | x::l=>by rw[List.flatMap_cons,fI vs l];exact Eq.trans rfl rfl
theorem S6:xp vs []=[]:=aiw
theorem Nu {x:Operand} {l:List Operand} : xp vs (x::l)=nm (vs x)++xp vs l:=aiw
theorem Aw {o:BinOp} {O z:Nat} {x y:Operand} : bm ⟨dst,.binOp o O x y z,ty,pos,af,gd⟩ vs=(xp vs [x,y]++dst.toList).map rt:=by rw[<- fI];rfl
theorem EC {o:UnOp} {O:Nat} {x:Operand} : bm ⟨dst,.unOp o O x,ty,pos,af,gd⟩ vs=(xp vs [x]++dst.toList).map rt:=by rw[<- fI];rfl
theorem xM {x:Operand} : bm ⟨dst,.assign x,ty,pos,af,gd⟩ vs=(xp vs [x]++dst.toList).map rt:=by rw[<- fI];rfl
theorem EB {O:Nat} {x:Operand} : bm ⟨dst,.load O x,ty,pos,af,gd⟩ vs=(xp vs [x]++dst.toList).map rt:=by rw[<- fI];rfl
theorem AB {O:Nat} {x y:Operand} : bm ⟨dst,.store O x y,ty,pos,af,gd⟩ vs=(xp vs [x,y]++dst.toList).map rt:=by rw[<- fI];rfl
theorem tE {x:Operand} : bm ⟨dst,.nilCheck x,ty,pos,af,gd⟩ vs=(xp vs [x]++dst.toList).map rt:=by rw[<- fI];rfl
theorem sc {O i:Nat} {x:Operand} : bm ⟨dst,.fieldAddr O x i,ty,pos,af,gd⟩ vs=(xp vs [x]++dst.toList).map rt:=by rw[<- fI];rfl
theorem Ay {O i:Nat} {x:Operand} : bm ⟨dst,.field O x i,ty,pos,af,gd⟩ vs=(xp vs [x]++dst.toList).map rt:=by rw[<- fI];rfl
theorem sd {O:Nat} {x i:Operand} : bm ⟨dst,.indexAddr O x i,ty,pos,af,gd⟩ vs=(xp vs [x,i]++dst.toList).map rt:=by rw[<- fI];rfl
theorem Az {O:Nat} {x i:Operand} : bm ⟨dst,.index O x i,ty,pos,af,gd⟩ vs=(xp vs [x,i]++dst.toList).map rt:=by rw[<- fI];rfl
theorem se {O:Nat} {x y:Operand} : bm ⟨dst,.makeSlice O x y,ty,pos,af,gd⟩ vs=(xp vs [x,y]++dst.toList).map rt:=by rw[<- fI];rfl
theorem Av {O:Nat} : bm ⟨dst,.alloc O,ty,pos,af,gd⟩ vs=(xp vs []++dst.toList).map rt:=by rw[<- fI];rfl
theorem Iv {O:Nat} {x:Operand} : bm ⟨dst,.box O x,ty,pos,af,gd⟩ vs=(xp vs [x]++dst.toList).map rt:=by rw[<- fI];rfl
theorem vl {O:Nat} : bm ⟨dst,.makeMap O none,ty,pos,af,gd⟩ vs=(xp vs []++dst.toList).map rt:=by rw[<- fI];rfl
theorem xO {O:Nat} {m i:Operand} {ok:Bool} : bm ⟨dst,.lookup O m i ok,ty,pos,af,gd⟩ vs=(xp vs [m,i]++dst.toList).map rt:=by rw[<- fI];rfl
theorem sf {O:Nat} {m i x:Operand} : bm ⟨dst,.mapUpdate O m i x,ty,pos,af,gd⟩ vs=(xp vs [m,i,x]++dst.toList).map rt:=by rw[<- fI];rfl
theorem xN {O:Nat} {m i x:Operand} : bm ⟨dst,.insert O m i x,ty,pos,af,gd⟩ vs=(xp vs [m,i,x]++dst.toList).map rt:=by rw[<- fI];rfl
theorem vg {a b:Nat} {x:Operand} : bm ⟨dst,.convert a b x,ty,pos,af,gd⟩ vs=(xp vs [x]++dst.toList).map rt:=by rw[<- fI];rfl
theorem vk {x:Operand} {i:Nat} : bm ⟨dst,.extract x i,ty,pos,af,gd⟩ vs=(xp vs [x]++dst.toList).map rt:=by rw[<- fI];rfl
theorem Ax {U:Nat} {O:List (Nat×Operand)} : bm ⟨dst,.build U O.toArray,ty,pos,af,gd⟩ vs=(xp vs (O.map (·.2))++dst.toList).map rt:=by rw[<- fI];rfl
theorem qA {U len:Nat} {O:List (Nat×Operand)} : bm ⟨dst,.buildSlice U len O.toArray,ty,pos,af,gd⟩ vs=(xp vs (O.map (·.2))++dst.toList).map rt:=by rw[<- fI];rfl
theorem AA {Y:Nat} {x:Operand} {O U X:Option Operand} : bm ⟨dst,.slice Y x O U X,ty,pos,af,gd⟩ vs=(xp vs (x::(O.toList++(U.toList++X.toList)))++dst.toList).map rt:=by
 rw[<- fI];cases O<;>cases U<;>cases X<;>rfl
theorem EA {x:Operand} {l:List Operand} {O:Array Nat} : bm ⟨dst,.call ⟨.value x,l.toArray,O⟩,ty,pos,af,gd⟩ vs=(xp vs (x::l)++dst.toList).map rt:=by
 rw[<- fI];simp[bm,gj,Op.operands,Call.operands]
theorem vf {x:Builtin} {l:List Operand} {O:Array Nat} : bm ⟨dst,.call ⟨.builtin x,l.toArray,O⟩,ty,pos,af,gd⟩ vs=(xp vs l++dst.toList).map rt:=by
 rw[<- fI];simp[bm,gj,Op.operands,Call.operands]
end
section
variable {T:Nat->Option Ty} {ty e:Nat} {dst:Option Nat} {h:Nat->Option Row}
theorem RR {k:IntKind} {n:Int} : bN T ty e dst h (.int k n)=some ⟨.int k n,[]⟩:=aiw
theorem Kr {b:Bool} : bN T ty e dst h (.bool b)=some ⟨.bool b,[]⟩:=aiw
theorem RW {b:ByteArray} : bN T ty e dst h (.str b)=some ⟨.str b,[]⟩:=aiw
theorem Wd {O:Bool} {n:Nat} {xs:List D} : bN T ty e dst h (.sl false O n xs)=some ⟨.sl false O n xs,[]⟩:=aiw
theorem RV {x v o:Nat} : bN T ty e dst h (.ptr x v o)=some ⟨.ptr x v o,[]⟩:=aiw
theorem Wa {xs:List D} : bN T ty e dst h (.ip xs)=some ⟨.ip xs,[]⟩:=aiw
theorem RO {xs:List D} : bN T ty e dst h (.agg xs)=some ⟨.agg xs,[]⟩:=aiw
theorem RX {xs:List D} : bN T ty e dst h (.tup xs)=some ⟨.tup xs,[]⟩:=aiw
theorem V9 {f:Nat} : bN T ty e dst h (.fn f)=some ⟨.fn f,[]⟩:=aiw
theorem Wb {x v:Nat} : bN T ty e dst h (.mp x v)=some ⟨.mp x v,[]⟩:=aiw
theorem RS {ks:List ch} {vs:List D} : bN T ty e dst h (.mpc ks vs)=some ⟨.mpc ks vs,[]⟩:=aiw
theorem Wc {x v y:Nat} : bN T ty e dst h (.pm x v y)=some ⟨.pm x v y,[]⟩:=aiw
theorem A7 {f O:Nat} {xs:List D} : bN T ty e dst h (.clo f O xs)=some ⟨.clo f O xs,[]⟩:=aiw
def abG (b:Bool) (T:Nat->Option Ty) (ty e d:Nat) (h:Nat->Option Row) (x:D):Option bB:=if b then bN T ty e (some d) h x else ia h x
theorem FJ {d:Nat} {x:D} : abG true T ty e d h x=bN T ty e (some d) h x:=aiw
theorem BH {d:Nat} {x:D} : abG false T ty e d h x=ia h x:=aiw
theorem aaO {q:Nat->Bool} {d:Nat} {x:D} : pN T q ty e (some d) h x=abG (q d) T ty e d h x:=aiw
theorem RJ {k:IntKind} {n:Int} : ia h (.int k n)=some ⟨.int k n,[]⟩:=aiw
theorem Kl {b:Bool} : ia h (.bool b)=some ⟨.bool b,[]⟩:=aiw
theorem RL {b:ByteArray} : ia h (.str b)=some ⟨.str b,[]⟩:=aiw
theorem RH {xs:List D} : ia h (.agg xs)=some ⟨.agg (xs.map canon),[]⟩:=aiw
theorem VU {a b:Bool} {n:Nat} {xs:List D} : ia h (.sl a b n xs)=some ⟨.sl false false n xs,[]⟩:=aiw
theorem RY:bN T ty e dst h .und=some ⟨.und,[]⟩:=aiw
def ZD (e d y s o n:Nat) (r:Row):Bool->Option bB
 | true=>some ⟨.buf y r.v s o n,[]⟩
 | false=>some ⟨.buf d e s o n,[(y,none),(d,some { r with v:=e })]⟩
theorem BG {d y s o n:Nat} {r:Row} : ZD e d y s o n r false=some ⟨.buf d e s o n,[(y,none),(d,some { r with v:=e })]⟩:=aiw
def abF (y v s o n:Nat):Option Row->Option bB
 | some _=>some ⟨.buf y v s o n,[]⟩
 | none=>some ⟨.und,[]⟩
theorem FF {y v s o n:Nat} {r:Row} : abF y v s o n (some r)=some ⟨.buf y v s o n,[]⟩:=aiw
def V8 (e:Nat) (dst:Option Nat) (y s o n:Nat) (w:Option bB):Option Row->Option bB
 | some r=>match dst with|some d=>ZD e d y s o n r r.fz|none=>w
 | none=>w
theorem FH {d y s o n:Nat} {r:Row} {w:Option bB} : V8 e (some d) y s o n w (some r)=ZD e d y s o n r r.fz:=aiw
theorem FG {d y s o n:Nat} {w:Option bB} : V8 e (some d) y s o n w none=w:=aiw
theorem RQ {d y v s o n:Nat} : bN T ty e (some d) h (.buf y v s o n)=V8 e (some d) y s o n (abF y v s o n (mO h y v)) (live h y v):=by
 simp only[bN];cases O:live h y v with
 | none=>simp only[V8];cases mO h y v<;>simp[abF]
 | some r =>
  obtain⟨_,U⟩:=cg O;simp only[V8];cases X:r.fz<;>simp[ZD,U,X]
def ZE (e:Nat) (dst:Option Nat) (T:Nat->Option Ty):Option Ty->Option bB
 | some τ =>
  match dst with
  | some d=>match τ.ds with
   | .slice el=>match T el with|some φ=>some ⟨.buf d e φ.size 0 0,[(d,some ⟨e,el,[],false,true,false⟩)]⟩|none=>none
   | _=>none
  | none=>none
 | none=>none
theorem FI {d el b c:Nat} {z:List Value} {q:Bool} {φ:Ty} (O:T el=some φ):ZE e (some d) T (some ⟨.slice el,b,c,z,q⟩)=some ⟨.buf d e φ.size 0 0,[(d,some ⟨e,el,[],false,true,false⟩)]⟩:=by simp only[ZE,O]
theorem RU:bN T ty e dst h (.sl true true 0 [])=ZE e dst T (T ty):=by
 unfold bN ZE;cases dst<;>cases T ty<;>rfl
end
def okD (x:Option D):Option bB:=match x with|some d=>some ⟨d,[]⟩|none=>none
theorem NL (d:D):okD (some d)=some ⟨d,[]⟩:=aiw
def v8 (x:Option Ty) (f:Ty->Option bB):Option bB:=match x with|some τ=>f τ|none=>none
theorem NX (τ:Ty) (f:Ty->Option bB):v8 (some τ) f=f τ:=aiw
def abH (x:Option (List D×List Nat)) (h:Nat->Option Row) (ty d e:Nat):Option bB :=
 match x with
 | some (cs,fr)=>if fr.contains d=false then some ⟨.ptr d e 0,ik h fr++[(d,some ⟨e,ty,cs,false,false,false⟩)]⟩ else none
 | none=>none
theorem FN (cs:List D) (fr:List Nat) (h:Nat->Option Row) (ty d e:Nat):abH (some (cs,fr)) h ty d e=if fr.contains d=false then some ⟨.ptr d e 0,ik h fr++[(d,some ⟨e,ty,cs,false,false,false⟩)]⟩ else none:=aiw
def aad (d e:Nat):Option Nat->D
 | some y =>.pm d e y
 | none =>.ptr d e 0
theorem HL {d e y:Nat} : aad d e (some y)=.pm d e y:=aiw
theorem HK {d e:Nat} : aad d e none=.ptr d e 0:=aiw
def BD (x:Option Ty) (ty d e:Nat) (y:Option Nat):Option bB :=
 match x with
 | some τ=>if (τ.zero.map lB).all aW then some ⟨aad d e y,[(d,some ⟨e,ty,τ.zero.map lB,false,false,false⟩)]⟩ else none
 | none=>none
theorem zi (τ:Ty) (ty d e:Nat) (y:Option Nat):BD (some τ) ty d e y=if (τ.zero.map lB).all aW then some ⟨aad d e y,[(d,some ⟨e,ty,τ.zero.map lB,false,false,false⟩)]⟩ else none:=aiw
def UR (T:Nat->Option Ty) (x:Option Ty) (ty e d:Nat):Option bB:=match x with|some τ=>lZ T ty τ e d|none=>none
theorem XM {T:Nat->Option Ty} {τ φ:Ty} {b:Bool} {ty e d:Nat} (hm:Dp T τ=some (b,φ)) (O:ty<900000):UR T (some τ) ty e d=some ⟨.mp d e,[(d,some ⟨e,ty,[.mpc [] []],false,true,true⟩)]⟩:=by simp only[UR,lZ,hm];rw[if_neg (by omega)]
def WA (x y:Option Ty) (d:D):Option bB :=
 match x,y,d with
 | some τ,some _,.int _ n=>(match τ.ds with | .int k=>some ⟨.int k (k.wrap n),[]⟩|_=>none)
 | _,_,_=>none
theorem Gb (k:IntKind) (b c:Nat) (z:List Value) (q:Bool) (σ:Ty) (k':IntKind) (n:Int):WA (some ⟨.int k,b,c,z,q⟩) (some σ) (.int k' n)=some ⟨.int k (k.wrap n),[]⟩:=aiw
def ZV (d:D) (i:Nat):Option bB:=match d with | .tup xs=>(match xs[i]? with|some d=>some ⟨d,[]⟩|none=>none)|_=>none
theorem LQ (xs:List D) (i:Nat):ZV (.tup xs) i=okD xs[i]?:=by simp only[ZV,okD]
section
variable {T:Nat->Option Ty} {Γ:Env} {N F e:Nat} {ws:List W} {Q:Kt} {t:Nat->D} {h:Nat->Option Row}
theorem cJ {x:Ex} : cW T Γ N F [] Q x t h e=Q x t h e:=aiw
theorem HZ:cW T Γ N F (.code .skip::ws) Q .normal t h e=cW T Γ N F ws Q .normal t h e:=aiw
theorem Og {a b:Code} : cW T Γ N F (.code (.seq a b)::ws) Q .normal t h e=cW T Γ N F (.code a :: .code b::ws) Q .normal t h e:=aiw
theorem Of:cW T Γ N F (.code .ret::ws) Q .normal t h e=cW T Γ N F ws Q .ret t h e:=aiw
theorem HX {id:Nat} : cW T Γ N F (.code (.exit id)::ws) Q .normal t h e=cW T Γ N F ws Q (.exit id) t h e:=aiw
theorem El {id:Nat} {b:Code} : cW T Γ N F (.code (.block id b)::ws) Q .normal t h e=cW T Γ N F (.code b :: .blk id::ws) Q .normal t h e:=aiw
theorem HY {b:Code} : cW T Γ N F (.code (.loop b)::ws) Q .normal t h e=Tn T Γ N F b ws Q t h e:=aiw
theorem bc {c:Code} : cW T Γ N F (.code c::ws) Q .ret t h e=cW T Γ N F ws Q .ret t h e:=aiw
theorem aX {c:Code} {n:Nat} : cW T Γ N F (.code c::ws) Q (.exit n) t h e=cW T Γ N F ws Q (.exit n) t h e:=aiw
theorem sa {id:Nat} : cW T Γ N F (.blk id::ws) Q .normal t h e=cW T Γ N F ws Q .normal t h e:=aiw
theorem bj {id:Nat} : cW T Γ N F (.blk id::ws) Q .ret t h e=cW T Γ N F ws Q .ret t h e:=aiw
theorem vd {id n:Nat} : cW T Γ N F (.blk id::ws) Q (.exit n) t h e=if n=id then cW T Γ N F ws Q .normal t h e else cW T Γ N F ws Q (.exit n) t h e:=aiw
theorem Ar {i:Nat} {ops:List Oper} : cW T Γ N F (.code (.region i ops.toArray false)::ws) Q .normal t h e=jV T Γ N F ops ops ws Q t h e:=aiw
theorem Eo {i:Nat} {ops:List Oper} : cW T Γ N F (.code (.region i ops.toArray true)::ws) Q .normal t h e=kC T Γ N F ops ops ws Q t h e []:=aiw
theorem HW {g:Nat} {x y:Code} : cW T Γ N F (.code (.cond (.tmp g) x y)::ws) Q .normal t h e=J2 T Γ N F (t g) g x y ws Q t h e:=aiw
theorem En {x y:Code} : cW T Γ N F (.code (.cond (.const (.bool true)) x y)::ws) Q .normal t h e=cW T Γ N F (.code x::ws) Q .normal t h e:=aiw
theorem Em {x y:Code} : cW T Γ N F (.code (.cond (.const (.bool false)) x y)::ws) Q .normal t h e=cW T Γ N F (.code y::ws) Q .normal t h e:=aiw
theorem Iw {g:Nat} {x y:Code} (O:t g=.bool true):J2 T Γ N F (.bool true) g x y ws Q t h e=cW T Γ N F (.code x::ws) Q .normal t h e:=xS O
theorem ED {g:Nat} {x y:Code} (O:t g=.bool false):J2 T Γ N F (.bool false) g x y ws Q t h e=cW T Γ N F (.code y::ws) Q .normal t h e:=uL O
theorem Vh {b:Bool} {g:Nat} {x y:Code} : J2 T Γ N F (.bool b) g x y ws Q t h e=br b (cW T Γ N F (.code x::ws) Q .normal (bI t g (.bool true)) h e) (cW T Γ N F (.code y::ws) Q .normal (bI t g (.bool false)) h e):=by
 unfold J2;rw[Zp];cases b<;>simp[br]
variable {ops l:List Oper} {dst:Option Nat} {op:Op} {ty:Nat} {pos:String} {af:Array Edge} {gd:Option (Nat×Bool)} {fs:List jP}
theorem Od:jV T Γ N F ops [] ws Q t h e=cW T Γ N F ws Q .normal t h (e+1):=aiw
theorem HU (O:fits N dst=true):jV T Γ N F ops (⟨dst,op,ty,pos,af,none⟩::l) ws Q t h e=nU T Γ N F ⟨dst,op,ty,pos,af,none⟩ ops l ws Q t h e:=by
 simp only[jV,Ek,Zr,O,true_and,nU]
theorem Ei {j:Nat} {want:Bool} (O:fits N dst=true) (U:xh ops j=true):jV T Γ N F ops (⟨dst,op,ty,pos,af,some (j,want)⟩::l) ws Q t h e=uV T Γ N F (t (sO ops j)) (sO ops j) want ⟨dst,op,ty,pos,af,none⟩ ops l ws Q t h e:=by
 simp only[jV,Ek,Zr,O,true_and,Ck ops j U,rB,uV];cases want<;>rfl
theorem OR {g:Nat} {want:Bool} {o:Oper} : uV T Γ N F .skp g want o ops l ws Q t h e=jV T Γ N F ops l ws Q (eF t o.dst .skp) h e:=aiw
theorem Ix {g:Nat} {o:Oper} (O:t g=.bool true):uV T Γ N F (.bool true) g true o ops l ws Q t h e=nU T Γ N F o ops l ws Q t h e:=(xV O).trans (if_pos rfl)
theorem EE {g:Nat} {o:Oper} (O:t g=.bool false):uV T Γ N F (.bool false) g true o ops l ws Q t h e=jV T Γ N F ops l ws Q (eF t o.dst .skp) h e:=(uM O).trans (if_pos rfl)
theorem EF {g:Nat} {o:Oper} (O:t g=.bool true):uV T Γ N F (.bool true) g false o ops l ws Q t h e=jV T Γ N F ops l ws Q (eF t o.dst .skp) h e:=(xV O).trans (if_neg (by decide))
theorem AD {g:Nat} {o:Oper} (O:t g=.bool false):uV T Γ N F (.bool false) g false o ops l ws Q t h e=nU T Γ N F o ops l ws Q t h e:=(uM O).trans (if_neg (by decide))
theorem Vi {b:Bool} {g:Nat} {o:Oper} : uV T Γ N F (.bool b) g true o ops l ws Q t h e=br b (nU T Γ N F o ops l ws Q (bI t g (.bool true)) h e) (jV T Γ N F ops l ws Q (eF (bI t g (.bool false)) o.dst .skp) h e):=by
 unfold uV;rw[xU];cases b<;>simp[br]
theorem Q9 {b:Bool} {g:Nat} {o:Oper} : uV T Γ N F (.bool b) g false o ops l ws Q t h e=br b (jV T Γ N F ops l ws Q (eF (bI t g (.bool true)) o.dst .skp) h e) (nU T Γ N F o ops l ws Q (bI t g (.bool false)) h e):=by
 unfold uV;rw[xU];cases b<;>simp[br]
theorem Oe:kC T Γ N F ops [] ws Q t h e fs=(Co ops.toArray fs=true∧cW T Γ N F ws Q .normal t h (e+1)):=aiw
theorem HV (O:fits N dst=true):kC T Γ N F ops (⟨dst,op,ty,pos,af,none⟩::l) ws Q t h e fs=nV T Γ N F ⟨dst,op,ty,pos,af,none⟩ ops l ws Q t h e fs:=by
 simp only[kC,runK,Zr,O,true_and,nV]
theorem Ej {j:Nat} {want:Bool} (O:fits N dst=true) (U:xh ops j=true):kC T Γ N F ops (⟨dst,op,ty,pos,af,some (j,want)⟩::l) ws Q t h e fs=uW T Γ N F (t (sO ops j)) (sO ops j) want ⟨dst,op,ty,pos,af,none⟩ ops l ws Q t h e fs:=by
 simp only[kC,runK,Zr,O,true_and,Ck ops j U,rB,uW];cases want<;>rfl
theorem OT {g:Nat} {want:Bool} {o:Oper} : uW T Γ N F .skp g want o ops l ws Q t h e fs=kC T Γ N F ops l ws Q (eF t o.dst .skp) h e (fs++[⟨[],true⟩]):=aiw
theorem Iy {g:Nat} {o:Oper} (O:t g=.bool true):uW T Γ N F (.bool true) g true o ops l ws Q t h e fs=nV T Γ N F o ops l ws Q t h e fs:=(xV O).trans (if_pos rfl)
theorem EG {g:Nat} {o:Oper} (O:t g=.bool false):uW T Γ N F (.bool false) g true o ops l ws Q t h e fs=kC T Γ N F ops l ws Q (eF t o.dst .skp) h e (fs++[⟨[],true⟩]):=(uM O).trans (if_pos rfl)
theorem EI {g:Nat} {o:Oper} (O:t g=.bool true):uW T Γ N F (.bool true) g false o ops l ws Q t h e fs=kC T Γ N F ops l ws Q (eF t o.dst .skp) h e (fs++[⟨[],true⟩]):=(xV O).trans (if_neg (by decide))
theorem AE {g:Nat} {o:Oper} (O:t g=.bool false):uW T Γ N F (.bool false) g false o ops l ws Q t h e fs=nV T Γ N F o ops l ws Q t h e fs:=(uM O).trans (if_neg (by decide))
theorem Vj {b:Bool} {g:Nat} {o:Oper} : uW T Γ N F (.bool b) g true o ops l ws Q t h e fs=br b (nV T Γ N F o ops l ws Q (bI t g (.bool true)) h e fs) (kC T Γ N F ops l ws Q (eF (bI t g (.bool false)) o.dst .skp) h e (fs++[⟨[],true⟩])):=by
 unfold uW;rw[xU];cases b<;>simp[br]
theorem Ra {b:Bool} {g:Nat} {o:Oper} : uW T Γ N F (.bool b) g false o ops l ws Q t h e fs=br b (kC T Γ N F ops l ws Q (eF (bI t g (.bool true)) o.dst .skp) h e (fs++[⟨[],true⟩])) (nV T Γ N F o ops l ws Q (bI t g (.bool false)) h e fs):=by
 unfold uW;rw[xU];cases b<;>simp[br]
theorem Oz {d:D} {hw:List (Nat×Option Row)} : xK T Γ N F (some ⟨d,hw⟩) dst ops l ws Q t h e=jV T Γ N F ops l ws Q (eF t dst d) (aK h (jN h hw)) e:=aiw
theorem OH {d:D} {hw:List (Nat×Option Row)} {O:List Nat} : xL T Γ N F (some ⟨d,hw⟩) dst O ops l ws Q t h e fs=kC T Γ N F ops l ws Q (eF t dst d) (aK h (jN h hw)) e (fs++[⟨O,(jN h hw).isEmpty⟩]):=aiw
theorem Tw {c:Prop} [Decidable c] {E:bB} : xK T Γ N F (if c then some E else none) dst ops l ws Q t h e=(c∧xK T Γ N F (some E) dst ops l ws Q t h e):=by
 by_cases O:c<;>simp[O,xK,Eu,Zw,oP]
theorem TC {c:Prop} [Decidable c] {E:bB} {O:List Nat} : xL T Γ N F (if c then some E else none) dst O ops l ws Q t h e fs=(c∧xL T Γ N F (some E) dst O ops l ws Q t h e fs):=by
 by_cases U:c<;>simp[U,xL,Ev,Zw,oP]
theorem Ia {E:bB} {y:Option bB} : Eu T Γ N F (some E) y dst ops l ws Q t h e=xK T Γ N F (some E) dst ops l ws Q t h e:=aiw
theorem Im {E:bB} {y:Option bB} {O:List Nat} : Ev T Γ N F (some E) y dst O ops l ws Q t h e fs=xL T Γ N F (some E) dst O ops l ws Q t h e fs:=aiw
theorem H9 {y:Option bB} : Eu T Γ N F none y dst ops l ws Q t h e=Fp T Γ N F y dst ops l ws Q t h e:=aiw
theorem Il {y:Option bB} {O:List Nat} : Ev T Γ N F none y dst O ops l ws Q t h e fs=Fq T Γ N F y dst O ops l ws Q t h e fs:=aiw
theorem Tv {x:Option bB} : Eu T Γ N F x none dst ops l ws Q t h e=xK T Γ N F x dst ops l ws Q t h e:=aiw
theorem TB {x:Option bB} {O:List Nat} : Ev T Γ N F x none dst O ops l ws Q t h e fs=xL T Γ N F x dst O ops l ws Q t h e fs:=aiw
theorem Ib {d:D} {hw:List (Nat×Option Row)} : Fp T Γ N F (some ⟨d,hw⟩) dst ops l ws Q t h e=jV T Γ N F ops l ws Q (eF t dst d) (aK h hw) e:=aiw
theorem Io {d:D} {hw:List (Nat×Option Row)} {O:List Nat} : Fq T Γ N F (some ⟨d,hw⟩) dst O ops l ws Q t h e fs=kC T Γ N F ops l ws Q (eF t dst d) (aK h hw) e (fs++[⟨O,hw.isEmpty⟩]):=aiw
theorem Oy {c:Prop} [Decidable c] {E:bB} : Fp T Γ N F (if c then some E else none) dst ops l ws Q t h e=(c∧Fp T Γ N F (some E) dst ops l ws Q t h e):=by
 by_cases O:c<;>simp[O,Fp,oP]
theorem OG {c:Prop} [Decidable c] {E:bB} {O:List Nat} : Fq T Γ N F (if c then some E else none) dst O ops l ws Q t h e fs=(c∧Fq T Γ N F (some E) dst O ops l ws Q t h e fs):=by
 by_cases U:c<;>simp[U,Fq,oP]
theorem D4 {g:Nat} {a b:Operand} (O:t g=.bool true):X3 T Γ N F (.bool true) g a b dst ops l ws Q t h e=jV T Γ N F ops l ws Q (eF t dst (ev t a)) h e:=xS O
theorem Ah {g:Nat} {a b:Operand} (O:t g=.bool false):X3 T Γ N F (.bool false) g a b dst ops l ws Q t h e=jV T Γ N F ops l ws Q (eF t dst (ev t b)) h e:=uL O
theorem D5 {g:Nat} {a b:Operand} (O:t g=.bool true):X4 T Γ N F (.bool true) g a b dst ops l ws Q t h e fs=kC T Γ N F ops l ws Q (eF t dst (ev t a)) h e (fs++[⟨[],true⟩]):=xS O
theorem Ai {g:Nat} {a b:Operand} (O:t g=.bool false):X4 T Γ N F (.bool false) g a b dst ops l ws Q t h e fs=kC T Γ N F ops l ws Q (eF t dst (ev t b)) h e (fs++[⟨[],true⟩]):=uL O
theorem Lg {c:Nat} {a b:Operand} : nU T Γ N F ⟨dst,.pick (.tmp c) a b,ty,pos,af,gd⟩ ops l ws Q t h e=X3 T Γ N F (t c) c a b dst ops l ws Q t h e:=aiw
theorem Lm {c:Nat} {a b:Operand} : nV T Γ N F ⟨dst,.pick (.tmp c) a b,ty,pos,af,gd⟩ ops l ws Q t h e fs=X4 T Γ N F (t c) c a b dst ops l ws Q t h e fs:=aiw
theorem wQ {x y:Option bB} (U:∀c a b,op ≠ .pick c a b) (hm:gq T Γ e ⟨dst,op,ty,pos,af,gd⟩ (ev t)=none) (O:lH Γ e h dst (gO (ev t) op)=none) (X:lG T Γ e ⟨dst,op,ty,pos,af,gd⟩ (ev t) (EH h)=x) (Y:sT T Γ e ⟨dst,op,ty,pos,af,gd⟩ (ev t) h=y):nU T Γ N F ⟨dst,op,ty,pos,af,gd⟩ ops l ws Q t h e=Eu T Γ N F x y dst ops l ws Q t h e:=by
 subst X;subst Y;unfold nU Eu O4 nK;rw[hm];simp only;rw[O];cases op<;>first|rfl|exact absurd rfl (U _ _ _)
theorem wT {x y:Option bB} (U:∀c a b,op ≠ .pick c a b) (hm:gq T Γ e ⟨dst,op,ty,pos,af,gd⟩ (ev t)=none) (O:lH Γ e h dst (gO (ev t) op)=none) (X:lG T Γ e ⟨dst,op,ty,pos,af,gd⟩ (ev t) (EH h)=x) (Y:sT T Γ e ⟨dst,op,ty,pos,af,gd⟩ (ev t) h=y):nV T Γ N F ⟨dst,op,ty,pos,af,gd⟩ ops l ws Q t h e fs=Ev T Γ N F x y dst (bm ⟨dst,op,ty,pos,af,gd⟩ (ev t)) ops l ws Q t h e fs:=by
 subst X;subst Y;unfold nV Ev O4 nK;rw[hm];simp only;rw[O];cases op<;>first|rfl|exact absurd rfl (U _ _ _)
theorem eO {x:Option bB} (U:∀c a b,op ≠ .pick c a b) (X:lG T Γ e ⟨dst,op,ty,pos,af,gd⟩ (ev t) (EH h)=x) (hm:gq T Γ e ⟨dst,op,ty,pos,af,gd⟩ (ev t)=none:=by rfl) (Y:sT T Γ e ⟨dst,op,ty,pos,af,gd⟩ (ev t) h=none:=by rfl) (O:lH Γ e h dst (gO (ev t) op)=none:=by first|rfl|(cases dst<;>rfl)):nU T Γ N F ⟨dst,op,ty,pos,af,gd⟩ ops l ws Q t h e=xK T Γ N F x dst ops l ws Q t h e:=wQ U hm O X Y
theorem eP {x:Option bB} (U:∀c a b,op ≠ .pick c a b) (X:lG T Γ e ⟨dst,op,ty,pos,af,gd⟩ (ev t) (EH h)=x) (hm:gq T Γ e ⟨dst,op,ty,pos,af,gd⟩ (ev t)=none:=by rfl) (Y:sT T Γ e ⟨dst,op,ty,pos,af,gd⟩ (ev t) h=none:=by rfl) (O:lH Γ e h dst (gO (ev t) op)=none:=by first|rfl|(cases dst<;>rfl)):nV T Γ N F ⟨dst,op,ty,pos,af,gd⟩ ops l ws Q t h e fs=xL T Γ N F x dst (bm ⟨dst,op,ty,pos,af,gd⟩ (ev t)) ops l ws Q t h e fs:=wT U hm O X Y
theorem Lf {x:Operand} : nU T Γ N F ⟨dst,.move x,ty,pos,af,gd⟩ ops l ws Q t h e=jV T Γ N F ops l ws Q (eF t dst (ev t x)) h e:=(eO (fun _ _ _ O=>by cases O) rfl).trans rfl
theorem Ll {x:Operand} : nV T Γ N F ⟨dst,.move x,ty,pos,af,gd⟩ ops l ws Q t h e fs=kC T Γ N F ops l ws Q (eF t dst (ev t x)) h e (fs++[⟨[],true⟩]):=(eP (fun _ _ _ O=>by cases O) rfl).trans rfl
theorem Gf {o:BinOp} {O z:Nat} {x y:Operand} : nU T Γ N F ⟨dst,.binOp o O x y z,ty,pos,af,gd⟩ ops l ws Q t h e=xK T Γ N F (okD (yb T O o (ev t x) (ev t y))) dst ops l ws Q t h e:=eO (fun _ _ _ U=>by cases U) (by simp only[lG];first|rfl|(cases yb T O o (ev t x) (ev t y)<;>rfl))
theorem Gn {o:BinOp} {O z:Nat} {x y:Operand} : nV T Γ N F ⟨dst,.binOp o O x y z,ty,pos,af,gd⟩ ops l ws Q t h e fs=xL T Γ N F (okD (yb T O o (ev t x) (ev t y))) dst (bm ⟨dst,.binOp o O x y z,ty,pos,af,gd⟩ (ev t)) ops l ws Q t h e fs:=eP (fun _ _ _ U=>by cases U) (by simp only[lG];first|rfl|(cases yb T O o (ev t x) (ev t y)<;>rfl))
theorem Lh {o:UnOp} {O:Nat} {x:Operand} : nU T Γ N F ⟨dst,.unOp o O x,ty,pos,af,gd⟩ ops l ws Q t h e=xK T Γ N F (okD (Ft o (ev t x))) dst ops l ws Q t h e:=eO (fun _ _ _ U=>by cases U) (by simp only[lG];first|rfl|(cases Ft o (ev t x)<;>rfl))
theorem Lo {o:UnOp} {O:Nat} {x:Operand} : nV T Γ N F ⟨dst,.unOp o O x,ty,pos,af,gd⟩ ops l ws Q t h e fs=xL T Γ N F (okD (Ft o (ev t x))) dst (bm ⟨dst,.unOp o O x,ty,pos,af,gd⟩ (ev t)) ops l ws Q t h e fs:=eP (fun _ _ _ U=>by cases U) (by simp only[lG];first|rfl|(cases Ft o (ev t x)<;>rfl))
theorem Ca {x:Operand} : nU T Γ N F ⟨dst,.assign x,ty,pos,af,gd⟩ ops l ws Q t h e=xK T Γ N F (pN T Γ.own ty e dst (EH h) (ev t x)) dst ops l ws Q t h e:=eO (fun _ _ _ O=>by cases O) rfl
theorem Cd {x:Operand} : nV T Γ N F ⟨dst,.assign x,ty,pos,af,gd⟩ ops l ws Q t h e fs=xL T Γ N F (pN T Γ.own ty e dst (EH h) (ev t x)) dst (bm ⟨dst,.assign x,ty,pos,af,gd⟩ (ev t)) ops l ws Q t h e fs:=eP (fun _ _ _ O=>by cases O) rfl
theorem wR {f:Nat} {first caps:List Operand} : nU T Γ N F ⟨dst,.makeFunc (.func f) first.toArray caps.toArray,ty,pos,af,gd⟩ ops l ws Q t h e=xK T Γ N F (if (first.map (ev t)++caps.map (ev t)).all iS then some ⟨.clo f first.length (first.map (ev t)++caps.map (ev t)),[]⟩ else none) dst ops l ws Q t h e:=eO (fun _ _ _ O=>by cases O) rfl
theorem wU {f:Nat} {first caps:List Operand} : nV T Γ N F ⟨dst,.makeFunc (.func f) first.toArray caps.toArray,ty,pos,af,gd⟩ ops l ws Q t h e fs=xL T Γ N F (if (first.map (ev t)++caps.map (ev t)).all iS then some ⟨.clo f first.length (first.map (ev t)++caps.map (ev t)),[]⟩ else none) dst (bm ⟨dst,.makeFunc (.func f) first.toArray caps.toArray,ty,pos,af,gd⟩ (ev t)) ops l ws Q t h e fs:=eP (fun _ _ _ O=>by cases O) rfl
theorem Ld {O:Nat} {x:Operand} : nU T Γ N F ⟨dst,.load O x,ty,pos,af,gd⟩ ops l ws Q t h e=Eu T Γ N F (v8 (T O) fun τ=>mK τ (EH h) (ev t x)) (v8 (T O) fun τ=>sS τ h (ev t x)) dst ops l ws Q t h e:=wQ (fun _ _ _ U=>by cases U) rfl (by cases dst<;>rfl) (by simp only[lG];first|rfl|(cases T O<;>rfl)) (by simp only[sT];first|rfl|(cases T O<;>rfl))
theorem Lj {O:Nat} {x:Operand} : nV T Γ N F ⟨dst,.load O x,ty,pos,af,gd⟩ ops l ws Q t h e fs=Ev T Γ N F (v8 (T O) fun τ=>mK τ (EH h) (ev t x)) (v8 (T O) fun τ=>sS τ h (ev t x)) dst (bm ⟨dst,.load O x,ty,pos,af,gd⟩ (ev t)) ops l ws Q t h e fs:=wT (fun _ _ _ U=>by cases U) rfl (by cases dst<;>rfl) (by simp only[lG];first|rfl|(cases T O<;>rfl)) (by simp only[sT];first|rfl|(cases T O<;>rfl))
theorem Gl {O:Nat} {x y:Operand} : nU T Γ N F ⟨dst,.store O x y,ty,pos,af,gd⟩ ops l ws Q t h e=Eu T Γ N F (v8 (T O) fun τ=>dn τ (EH h) (ev t x) (ev t y)) (v8 (T O) fun τ=>sU τ e h (ev t x) (ev t y)) dst ops l ws Q t h e:=wQ (fun _ _ _ U=>by cases U) rfl (by cases dst<;>rfl) (by simp only[lG];first|rfl|(cases T O<;>rfl)) (by simp only[sT];first|rfl|(cases T O<;>rfl))
theorem Gu {O:Nat} {x y:Operand} : nV T Γ N F ⟨dst,.store O x y,ty,pos,af,gd⟩ ops l ws Q t h e fs=Ev T Γ N F (v8 (T O) fun τ=>dn τ (EH h) (ev t x) (ev t y)) (v8 (T O) fun τ=>sU τ e h (ev t x) (ev t y)) dst (bm ⟨dst,.store O x y,ty,pos,af,gd⟩ (ev t)) ops l ws Q t h e fs:=wT (fun _ _ _ U=>by cases U) rfl (by cases dst<;>rfl) (by simp only[lG];first|rfl|(cases T O<;>rfl)) (by simp only[sT];first|rfl|(cases T O<;>rfl))
theorem wS {x:Operand} : nU T Γ N F ⟨dst,.nilCheck x,ty,pos,af,gd⟩ ops l ws Q t h e=xK T Γ N F (iX (EH h) (ev t x)) dst ops l ws Q t h e:=eO (fun _ _ _ O=>by cases O) rfl
theorem wV {x:Operand} : nV T Γ N F ⟨dst,.nilCheck x,ty,pos,af,gd⟩ ops l ws Q t h e fs=xL T Γ N F (iX (EH h) (ev t x)) dst (bm ⟨dst,.nilCheck x,ty,pos,af,gd⟩ (ev t)) ops l ws Q t h e fs:=eP (fun _ _ _ O=>by cases O) rfl
theorem uY {O i:Nat} {x:Operand} : nU T Γ N F ⟨dst,.fieldAddr O x i,ty,pos,af,gd⟩ ops l ws Q t h e=xK T Γ N F (v8 (T O) fun τ=>dU T τ (EH h) i (ev t x)) dst ops l ws Q t h e:=eO (fun _ _ _ U=>by cases U) (by simp only[lG];first|rfl|(cases T O<;>rfl))
theorem u5 {O i:Nat} {x:Operand} : nV T Γ N F ⟨dst,.fieldAddr O x i,ty,pos,af,gd⟩ ops l ws Q t h e fs=xL T Γ N F (v8 (T O) fun τ=>dU T τ (EH h) i (ev t x)) dst (bm ⟨dst,.fieldAddr O x i,ty,pos,af,gd⟩ (ev t)) ops l ws Q t h e fs:=eP (fun _ _ _ U=>by cases U) (by simp only[lG];first|rfl|(cases T O<;>rfl))
theorem Gh {O i:Nat} {x:Operand} : nU T Γ N F ⟨dst,.field O x i,ty,pos,af,gd⟩ ops l ws Q t h e=xK T Γ N F (v8 (T O) fun τ=>kZ T τ i (ev t x)) dst ops l ws Q t h e:=eO (fun _ _ _ U=>by cases U) (by simp only[lG];first|rfl|(cases T O<;>rfl))
theorem Gq {O i:Nat} {x:Operand} : nV T Γ N F ⟨dst,.field O x i,ty,pos,af,gd⟩ ops l ws Q t h e fs=xL T Γ N F (v8 (T O) fun τ=>kZ T τ i (ev t x)) dst (bm ⟨dst,.field O x i,ty,pos,af,gd⟩ (ev t)) ops l ws Q t h e fs:=eP (fun _ _ _ U=>by cases U) (by simp only[lG];first|rfl|(cases T O<;>rfl))
theorem uZ {O:Nat} {x i:Operand} : nU T Γ N F ⟨dst,.indexAddr O x i,ty,pos,af,gd⟩ ops l ws Q t h e=xK T Γ N F (v8 (T O) fun τ=>bK T τ (EH h) (ev t x) (ev t i)) dst ops l ws Q t h e:=eO (fun _ _ _ U=>by cases U) (by simp only[lG];first|rfl|(cases T O<;>rfl))
theorem u6 {O:Nat} {x i:Operand} : nV T Γ N F ⟨dst,.indexAddr O x i,ty,pos,af,gd⟩ ops l ws Q t h e fs=xL T Γ N F (v8 (T O) fun τ=>bK T τ (EH h) (ev t x) (ev t i)) dst (bm ⟨dst,.indexAddr O x i,ty,pos,af,gd⟩ (ev t)) ops l ws Q t h e fs:=eP (fun _ _ _ U=>by cases U) (by simp only[lG];first|rfl|(cases T O<;>rfl))
theorem Gi {O:Nat} {x i:Operand} : nU T Γ N F ⟨dst,.index O x i,ty,pos,af,gd⟩ ops l ws Q t h e=xK T Γ N F (v8 (T O) fun τ=>gi T τ (ev t x) (ev t i)) dst ops l ws Q t h e:=eO (fun _ _ _ U=>by cases U) (by simp only[lG];first|rfl|(cases T O<;>rfl))
theorem Gr {O:Nat} {x i:Operand} : nV T Γ N F ⟨dst,.index O x i,ty,pos,af,gd⟩ ops l ws Q t h e fs=xL T Γ N F (v8 (T O) fun τ=>gi T τ (ev t x) (ev t i)) dst (bm ⟨dst,.index O x i,ty,pos,af,gd⟩ (ev t)) ops l ws Q t h e fs:=eP (fun _ _ _ U=>by cases U) (by simp only[lG];first|rfl|(cases T O<;>rfl))
theorem Gj {O:Nat} {x:Operand} {U X Y:Option Operand} : nU T Γ N F ⟨dst,.slice O x U X Y,ty,pos,af,gd⟩ ops l ws Q t h e=xK T Γ N F (v8 (T O) fun τ=>cN T τ (EH h) (ev t x) (U.map (ev t)) (X.map (ev t)) (Y.map (ev t))) dst ops l ws Q t h e:=eO (fun _ _ _ Z=>by cases Z) (by simp only[lG];first|rfl|(cases T O<;>rfl))
theorem Gs {O:Nat} {x:Operand} {U X Y:Option Operand} : nV T Γ N F ⟨dst,.slice O x U X Y,ty,pos,af,gd⟩ ops l ws Q t h e fs=xL T Γ N F (v8 (T O) fun τ=>cN T τ (EH h) (ev t x) (U.map (ev t)) (X.map (ev t)) (Y.map (ev t))) dst (bm ⟨dst,.slice O x U X Y,ty,pos,af,gd⟩ (ev t)) ops l ws Q t h e fs:=eP (fun _ _ _ Z=>by cases Z) (by simp only[lG];first|rfl|(cases T O<;>rfl))
theorem Gg {O:Nat} {U:List (Nat×Operand)} : nU T Γ N F ⟨dst,.build O U.toArray,ty,pos,af,gd⟩ ops l ws Q t h e=xK T Γ N F (v8 (T O) fun τ=>ox Γ.own T τ (EH h) dst (U.map fun p=>(p.1,ev t p.2))) dst ops l ws Q t h e:=eO (fun _ _ _ X=>by cases X) (by simp only[lG];first|rfl|(cases T O<;>rfl))
theorem Gp {O:Nat} {U:List (Nat×Operand)} : nV T Γ N F ⟨dst,.build O U.toArray,ty,pos,af,gd⟩ ops l ws Q t h e fs=xL T Γ N F (v8 (T O) fun τ=>ox Γ.own T τ (EH h) dst (U.map fun p=>(p.1,ev t p.2))) dst (bm ⟨dst,.build O U.toArray,ty,pos,af,gd⟩ (ev t)) ops l ws Q t h e fs:=eP (fun _ _ _ X=>by cases X) (by simp only[lG];first|rfl|(cases T O<;>rfl))
theorem sL {O len d:Nat} {U:List (Nat×Operand)} : nU T Γ N F ⟨some d,.buildSlice O len U.toArray,ty,pos,af,gd⟩ ops l ws Q t h e=xK T Γ N F (v8 (T O) fun τ=>dT T τ (EH h) e d len (U.map fun p=>(p.1,ev t p.2))) (some d) ops l ws Q t h e:=eO (fun _ _ _ X=>by cases X) (by simp only[lG];first|rfl|(cases T O<;>rfl))
theorem sM {O len d:Nat} {U:List (Nat×Operand)} : nV T Γ N F ⟨some d,.buildSlice O len U.toArray,ty,pos,af,gd⟩ ops l ws Q t h e fs=xL T Γ N F (v8 (T O) fun τ=>dT T τ (EH h) e d len (U.map fun p=>(p.1,ev t p.2))) (some d) (bm ⟨some d,.buildSlice O len U.toArray,ty,pos,af,gd⟩ (ev t)) ops l ws Q t h e fs:=eP (fun _ _ _ X=>by cases X) (by simp only[lG];first|rfl|(cases T O<;>rfl))
def Dt (T:Nat->Option Ty) (e d O:Nat) (x y:D):Option (Nat×Nat×Nat)->Option bB
 | some p=>(match T O with|some τ=>si T τ e d p.1 p.2.1 p.2.2 x y|none=>none)
 | none=>none
theorem Hm {d O:Nat} {x y:D} : Dt T e d O x y none=none:=aiw
theorem Hn {d O:Nat} {x y:D} {p:Nat×Nat×Nat} {τ:Ty} (U:T O=some τ):Dt T e d O x y (some p)=si T τ e d p.1 p.2.1 p.2.2 x y:=by simp only[Dt,U]
def stM (y x:Option bB) (dst:Option Nat) (ops l:List Oper) (ws:List W) (Q:Kt) (t:Nat->D) (h:Nat->Option Row) (e:Nat):Prop :=
 match y with
 | some E=>Fp T Γ N F (some E) dst ops l ws Q t h e
 | none=>xK T Γ N F x dst ops l ws Q t h e
def Yn (y x:Option bB) (dst:Option Nat) (O:List Nat) (ops l:List Oper) (ws:List W) (Q:Kt) (t:Nat->D) (h:Nat->Option Row) (e:Nat) (fs:List jP):Prop :=
 match y with
 | some E=>Fq T Γ N F (some E) dst O ops l ws Q t h e fs
 | none=>xL T Γ N F x dst O ops l ws Q t h e fs
theorem u3 {O d:Nat} {x y:Operand} : nU T Γ N F ⟨some d,.makeSlice O x y,ty,pos,af,gd⟩ ops l ws Q t h e=stM (T:=T) (Γ:=Γ) (N:=N) (F:=F) (Dt T e d O (ev t x) (ev t y) (Γ.nst d)) (v8 (T O) fun τ=>pt T τ e d (ev t x) (ev t y)) (some d) ops l ws Q t h e:=by
 have hm:gq T Γ e ⟨some d,.makeSlice O x y,ty,pos,af,gd⟩ (ev t)=Dt T e d O (ev t x) (ev t y) (Γ.nst d):=by
  unfold gq Dt;simp only;cases Γ.nst d<;>rfl
 cases U:Dt T e d O (ev t x) (ev t y) (Γ.nst d) with
 | none=>exact eO (fun _ _ _ X=>by cases X) (by simp only[lG];first|rfl|(cases T O<;>rfl)) (hm.trans U)
 | some E=>unfold nU O4 nK;rw[hm,U];rfl
theorem u7 {O d:Nat} {x y:Operand} : nV T Γ N F ⟨some d,.makeSlice O x y,ty,pos,af,gd⟩ ops l ws Q t h e fs=Yn (T:=T) (Γ:=Γ) (N:=N) (F:=F) (Dt T e d O (ev t x) (ev t y) (Γ.nst d)) (v8 (T O) fun τ=>pt T τ e d (ev t x) (ev t y)) (some d) (bm ⟨some d,.makeSlice O x y,ty,pos,af,gd⟩ (ev t)) ops l ws Q t h e fs:=by
 have hm:gq T Γ e ⟨some d,.makeSlice O x y,ty,pos,af,gd⟩ (ev t)=Dt T e d O (ev t x) (ev t y) (Γ.nst d):=by
  unfold gq Dt;simp only;cases Γ.nst d<;>rfl
 cases U:Dt T e d O (ev t x) (ev t y) (Γ.nst d) with
 | none=>exact eP (fun _ _ _ X=>by cases X) (by simp only[lG];first|rfl|(cases T O<;>rfl)) (hm.trans U)
 | some E=>unfold nV O4 nK;rw[hm,U];rfl
theorem OB {x:Option bB} : stM (T:=T) (Γ:=Γ) (N:=N) (F:=F) none x dst ops l ws Q t h e=xK T Γ N F x dst ops l ws Q t h e:=aiw
theorem Ic {x:Option bB} {O:List Nat} : Yn (T:=T) (Γ:=Γ) (N:=N) (F:=F) none x dst O ops l ws Q t h e fs=xL T Γ N F x dst O ops l ws Q t h e fs:=aiw
theorem OC {x:Option bB} {E:bB} : stM (T:=T) (Γ:=Γ) (N:=N) (F:=F) (some E) x dst ops l ws Q t h e=Fp T Γ N F (some E) dst ops l ws Q t h e:=aiw
theorem Ie {x:Option bB} {O:List Nat} {E:bB} : Yn (T:=T) (Γ:=Γ) (N:=N) (F:=F) (some E) x dst O ops l ws Q t h e fs=Fq T Γ N F (some E) dst O ops l ws Q t h e fs:=aiw
theorem Tx {x:Option bB} {c:Prop} [Decidable c] {E:bB} (O:c):stM (T:=T) (Γ:=Γ) (N:=N) (F:=F) (if c then some E else none) x dst ops l ws Q t h e=Fp T Γ N F (some E) dst ops l ws Q t h e:=by rw[if_pos O];rfl
theorem OA {x:Option bB} {O:List Nat} {c:Prop} [Decidable c] {E:bB} (U:c):Yn (T:=T) (Γ:=Γ) (N:=N) (F:=F) (if c then some E else none) x dst O ops l ws Q t h e fs=Fq T Γ N F (some E) dst O ops l ws Q t h e fs:=by rw[if_pos U];rfl
def V0 (T:Nat->Option Ty) (e d O:Nat):Option (Nat×Nat×Nat)->Option bB
 | some p=>(match T O with|some τ=>Z2 τ O e d p.1 p.2.1 p.2.2|none=>none)
 | none=>none
theorem Km {d O:Nat} : V0 T e d O none=none:=aiw
theorem Kn {d O:Nat} {p:Nat×Nat×Nat} {τ:Ty} (U:T O=some τ):V0 T e d O (some p)=Z2 τ O e d p.1 p.2.1 p.2.2:=by simp only[V0,U]
theorem Ge {O d:Nat} : nU T Γ N F ⟨some d,.alloc O,ty,pos,af,gd⟩ ops l ws Q t h e=stM (T:=T) (Γ:=Γ) (N:=N) (F:=F) (V0 T e d O (Γ.nst d)) (BD (T O) O d e (Γ.hint d)) (some d) ops l ws Q t h e:=by
 have hm:gq T Γ e ⟨some d,.alloc O,ty,pos,af,gd⟩ (ev t)=V0 T e d O (Γ.nst d):=by
  unfold gq V0;simp only;cases Γ.nst d<;>rfl
 cases U:V0 T e d O (Γ.nst d) with
 | none=>exact eO (fun _ _ _ X=>by cases X) (by simp only[lG];cases T O with|none=>rfl|some τ=>(dsimp only[BD];cases Γ.hint d<;>rfl)) (hm.trans U)
 | some E=>unfold nU O4 nK;rw[hm,U];rfl
theorem Gm {O d:Nat} : nV T Γ N F ⟨some d,.alloc O,ty,pos,af,gd⟩ ops l ws Q t h e fs=Yn (T:=T) (Γ:=Γ) (N:=N) (F:=F) (V0 T e d O (Γ.nst d)) (BD (T O) O d e (Γ.hint d)) (some d) (bm ⟨some d,.alloc O,ty,pos,af,gd⟩ (ev t)) ops l ws Q t h e fs:=by
 have hm:gq T Γ e ⟨some d,.alloc O,ty,pos,af,gd⟩ (ev t)=V0 T e d O (Γ.nst d):=by
  unfold gq V0;simp only;cases Γ.nst d<;>rfl
 cases U:V0 T e d O (Γ.nst d) with
 | none=>exact eP (fun _ _ _ X=>by cases X) (by simp only[lG];cases T O with|none=>rfl|some τ=>(dsimp only[BD];cases Γ.hint d<;>rfl)) (hm.trans U)
 | some E=>unfold nV O4 nK;rw[hm,U];rfl
theorem zy {O d:Nat} : nU T Γ N F ⟨some d,.makeMap O none,ty,pos,af,gd⟩ ops l ws Q t h e=xK T Γ N F (UR T (T O) O e d) (some d) ops l ws Q t h e:=eO (fun _ _ _ U=>by cases U) (by simp only[lG];first|rfl|(cases T O<;>rfl))
theorem zD {O d:Nat} : nV T Γ N F ⟨some d,.makeMap O none,ty,pos,af,gd⟩ ops l ws Q t h e fs=xL T Γ N F (UR T (T O) O e d) (some d) (bm ⟨some d,.makeMap O none,ty,pos,af,gd⟩ (ev t)) ops l ws Q t h e fs:=eP (fun _ _ _ U=>by cases U) (by simp only[lG];first|rfl|(cases T O<;>rfl))
theorem Cc {O:Nat} {m i:Operand} {ok:Bool} : nU T Γ N F ⟨dst,.lookup O m i ok,ty,pos,af,gd⟩ ops l ws Q t h e=xK T Γ N F (v8 (T O) fun τ=>fX T τ (EH h) (ev t m) (ev t i) ok) dst ops l ws Q t h e:=eO (fun _ _ _ U=>by cases U) (by simp only[lG];first|rfl|(cases T O<;>rfl))
theorem Cf {O:Nat} {m i:Operand} {ok:Bool} : nV T Γ N F ⟨dst,.lookup O m i ok,ty,pos,af,gd⟩ ops l ws Q t h e fs=xL T Γ N F (v8 (T O) fun τ=>fX T τ (EH h) (ev t m) (ev t i) ok) dst (bm ⟨dst,.lookup O m i ok,ty,pos,af,gd⟩ (ev t)) ops l ws Q t h e fs:=eP (fun _ _ _ U=>by cases U) (by simp only[lG];first|rfl|(cases T O<;>rfl))
theorem u4 {O:Nat} {m i x:Operand} : nU T Γ N F ⟨dst,.mapUpdate O m i x,ty,pos,af,gd⟩ ops l ws Q t h e=xK T Γ N F (v8 (T O) fun τ=>cF T τ (EH h) (ev t m) (ev t i) (ev t x)) dst ops l ws Q t h e:=eO (fun _ _ _ U=>by cases U) (by simp only[lG];first|rfl|(cases T O<;>rfl))
theorem u9 {O:Nat} {m i x:Operand} : nV T Γ N F ⟨dst,.mapUpdate O m i x,ty,pos,af,gd⟩ ops l ws Q t h e fs=xL T Γ N F (v8 (T O) fun τ=>cF T τ (EH h) (ev t m) (ev t i) (ev t x)) dst (bm ⟨dst,.mapUpdate O m i x,ty,pos,af,gd⟩ (ev t)) ops l ws Q t h e fs:=eP (fun _ _ _ U=>by cases U) (by simp only[lG];first|rfl|(cases T O<;>rfl))
theorem Cb {O:Nat} {m i x:Operand} : nU T Γ N F ⟨dst,.insert O m i x,ty,pos,af,gd⟩ ops l ws Q t h e=xK T Γ N F (v8 (T O) fun τ=>cF T τ (EH h) (ev t m) (ev t i) (ev t x)) dst ops l ws Q t h e:=eO (fun _ _ _ U=>by cases U) (by simp only[lG];first|rfl|(cases T O<;>rfl))
theorem Ce {O:Nat} {m i x:Operand} : nV T Γ N F ⟨dst,.insert O m i x,ty,pos,af,gd⟩ ops l ws Q t h e fs=xL T Γ N F (v8 (T O) fun τ=>cF T τ (EH h) (ev t m) (ev t i) (ev t x)) dst (bm ⟨dst,.insert O m i x,ty,pos,af,gd⟩ (ev t)) ops l ws Q t h e fs:=eP (fun _ _ _ U=>by cases U) (by simp only[lG];first|rfl|(cases T O<;>rfl))
theorem Sj {O d:Nat} {x:Operand} : nU T Γ N F ⟨some d,.box O x,ty,pos,af,gd⟩ ops l ws Q t h e=xK T Γ N F (abH (eN (EH h) (ev t x)) (EH h) O d e) (some d) ops l ws Q t h e:=eO (fun _ _ _ U=>by cases U) (by simp only[lG];first|rfl|(cases eN (EH h) (ev t x)<;>rfl))
theorem Sk {O d:Nat} {x:Operand} : nV T Γ N F ⟨some d,.box O x,ty,pos,af,gd⟩ ops l ws Q t h e fs=xL T Γ N F (abH (eN (EH h) (ev t x)) (EH h) O d e) (some d) (bm ⟨some d,.box O x,ty,pos,af,gd⟩ (ev t)) ops l ws Q t h e fs:=eP (fun _ _ _ U=>by cases U) (by simp only[lG];first|rfl|(cases eN (EH h) (ev t x)<;>rfl))
theorem zw {a b:Nat} {x:Operand} : nU T Γ N F ⟨dst,.convert a b x,ty,pos,af,gd⟩ ops l ws Q t h e=xK T Γ N F (WA (T b) (T a) (ev t x)) dst ops l ws Q t h e:=eO (fun _ _ _ O=>by cases O) rfl
theorem zB {a b:Nat} {x:Operand} : nV T Γ N F ⟨dst,.convert a b x,ty,pos,af,gd⟩ ops l ws Q t h e fs=xL T Γ N F (WA (T b) (T a) (ev t x)) dst (bm ⟨dst,.convert a b x,ty,pos,af,gd⟩ (ev t)) ops l ws Q t h e fs:=eP (fun _ _ _ O=>by cases O) rfl
theorem zx {x:Nat} {i:Nat} : nU T Γ N F ⟨dst,.extract (.tmp x) i,ty,pos,af,gd⟩ ops l ws Q t h e=xK T Γ N F (ZV (t x) i) dst ops l ws Q t h e:=eO (fun _ _ _ O=>by cases O) rfl
theorem zC {x:Nat} {i:Nat} : nV T Γ N F ⟨dst,.extract (.tmp x) i,ty,pos,af,gd⟩ ops l ws Q t h e fs=xL T Γ N F (ZV (t x) i) dst (bm ⟨dst,.extract (.tmp x) i,ty,pos,af,gd⟩ (ev t)) ops l ws Q t h e fs:=eP (fun _ _ _ O=>by cases O) rfl
def cnL (Γ:Env) (e:Nat) (h:Nat->Option Row) (g:Nat) (args:List D):Option (Nat×(Nat->Nat->Nat->Nat->List D->List D->Option (D×List D)))->Option bB
 | some _=>p8 Γ e h g args
 | none=>none
theorem K6 {g:Nat} {args:List D} : cnL Γ e h g args none=none:=aiw
theorem K7 {g:Nat} {args:List D} {p:Nat×(Nat->Nat->Nat->Nat->List D->List D->Option (D×List D))} : cnL Γ e h g args (some p)=p8 Γ e h g args:=aiw
theorem W1 {g:Nat} {args:List D} : zP Γ e h (some (.fn g,args))=cnL Γ e h g args (Γ.nx.lnd g):=by
 cases O:Γ.nx.lnd g with
 | some p=>rfl
 | none =>
  show p8 Γ e h g args=none;cases U:p8 Γ e h g args with
  | none=>rfl
  | some E =>
   obtain⟨_,_,_,_,_,_,_,_,_,_,_,_,_,_,_,_,h1,_⟩:=q9 U;rw[O]at h1;cases h1
theorem Sm {f k:Nat} {xs args:List D} : zP Γ e h (some (.clo f k xs,args))=none:=aiw
theorem W0 {d g:Nat} {args:List D} : lH Γ e h (some d) (some (.fn g,args))=Cw e d h args (Γ.nx.res g):=aiw
theorem Sl {dst:Option Nat} {f k:Nat} {xs args:List D} : lH Γ e h dst (some (.clo f k xs,args))=none:=by cases dst<;>rfl
theorem Ls {q:Option (D×List D)} : lH Γ e h none q=none:=aiw
theorem Lt {d:Nat} {args:List D} : Cw e d h args none=none:=aiw
theorem Lu {d:Nat} {args:List D} {p:List D->Option (Nat×Nat×Nat×Nat×Nat×List D)} : Cw e d h args (some p)=FZ p e d (bq (EH h) args):=aiw
theorem KF {d:Nat} {afy:List D} {p:List D->Option (Nat×Nat×Nat×Nat×Nat×List D)} : FZ p e d (some (afy,[]))=IV e d (p afy):=aiw
theorem F0 {d ty O s S n:Nat} {cs:List D} (U:d<1000000):IV e d (some (ty,O,s,S,n,cs))=some ⟨.buf d e S 0 n,[(d,some ⟨e,ty,[.nr O s (4*e+2) cs],false,true,true⟩)]⟩:=if_pos (by rw[cm];exact U)
def stC (y0 x y:Option bB) (dst:Option Nat) (ops l:List Oper) (ws:List W) (Q:Kt) (t:Nat->D) (h:Nat->Option Row) (e:Nat):Prop :=
 match y0 with
 | some E=>Fp T Γ N F (some E) dst ops l ws Q t h e
 | none=>Eu T Γ N F x y dst ops l ws Q t h e
def acn (y0 x y:Option bB) (dst:Option Nat) (O:List Nat) (ops l:List Oper) (ws:List W) (Q:Kt) (t:Nat->D) (h:Nat->Option Row) (e:Nat) (fs:List jP):Prop :=
 match y0 with
 | some E=>Fq T Γ N F (some E) dst O ops l ws Q t h e fs
 | none=>Ev T Γ N F x y dst O ops l ws Q t h e fs
theorem Ow {x y:Option bB} : stC (T:=T) (Γ:=Γ) (N:=N) (F:=F) none x y dst ops l ws Q t h e=Eu T Γ N F x y dst ops l ws Q t h e:=aiw
theorem H7 {x y:Option bB} {O:List Nat} : acn (T:=T) (Γ:=Γ) (N:=N) (F:=F) none x y dst O ops l ws Q t h e fs=Ev T Γ N F x y dst O ops l ws Q t h e fs:=aiw
theorem Ox {x y:Option bB} {E:bB} : stC (T:=T) (Γ:=Γ) (N:=N) (F:=F) (some E) x y dst ops l ws Q t h e=Fp T Γ N F (some E) dst ops l ws Q t h e:=aiw
theorem H8 {x y:Option bB} {O:List Nat} {E:bB} : acn (T:=T) (Γ:=Γ) (N:=N) (F:=F) (some E) x y dst O ops l ws Q t h e fs=Fq T Γ N F (some E) dst O ops l ws Q t h e fs:=aiw
theorem Lc {x:Operand} {afy:List Operand} {O:Array Nat} : nU T Γ N F ⟨dst,.call ⟨.value x,afy.toArray,O⟩,ty,pos,af,gd⟩ ops l ws Q t h e=stC (T:=T) (Γ:=Γ) (N:=N) (F:=F) (lH Γ e h dst (some (ev t x,afy.map (ev t)))) (gY Γ (EH h) e dst (ev t x) (afy.map (ev t))) (zP Γ e h (some (ev t x,afy.map (ev t)))) dst ops l ws Q t h e:=by
 have U:gO (ev t) (.call ⟨.value x,afy.toArray,O⟩)=some (ev t x,afy.map (ev t)):=rfl;cases X:lH Γ e h dst (some (ev t x,afy.map (ev t))) with
 | none=>exact wQ (fun _ _ _ Y=>by cases Y) rfl (by rw[U];exact X) rfl rfl
 | some E=>unfold nU O4 nK;simp only[gq,U,X];rfl
theorem Li {x:Operand} {afy:List Operand} {O:Array Nat} : nV T Γ N F ⟨dst,.call ⟨.value x,afy.toArray,O⟩,ty,pos,af,gd⟩ ops l ws Q t h e fs=acn (T:=T) (Γ:=Γ) (N:=N) (F:=F) (lH Γ e h dst (some (ev t x,afy.map (ev t)))) (gY Γ (EH h) e dst (ev t x) (afy.map (ev t))) (zP Γ e h (some (ev t x,afy.map (ev t)))) dst (bm ⟨dst,.call ⟨.value x,afy.toArray,O⟩,ty,pos,af,gd⟩ (ev t)) ops l ws Q t h e fs:=by
 have U:gO (ev t) (.call ⟨.value x,afy.toArray,O⟩)=some (ev t x,afy.map (ev t)):=rfl;cases X:lH Γ e h dst (some (ev t x,afy.map (ev t))) with
 | none=>exact wT (fun _ _ _ Y=>by cases Y) rfl (by rw[U];exact X) rfl rfl
 | some E=>unfold nV O4 nK;simp only[gq,U,X];rfl
theorem zu {x:Builtin} {afy:List Operand} {O:List Nat} : nU T Γ N F ⟨dst,.call ⟨.builtin x,afy.toArray,O.toArray⟩,ty,pos,af,gd⟩ ops l ws Q t h e=xK T Γ N F (cr T (EH h) e dst x O (afy.map (ev t))) dst ops l ws Q t h e:=eO (fun _ _ _ U=>by cases U) rfl
theorem zA {x:Builtin} {afy:List Operand} {O:List Nat} : nV T Γ N F ⟨dst,.call ⟨.builtin x,afy.toArray,O.toArray⟩,ty,pos,af,gd⟩ ops l ws Q t h e fs=xL T Γ N F (cr T (EH h) e dst x O (afy.map (ev t))) dst (bm ⟨dst,.call ⟨.builtin x,afy.toArray,O.toArray⟩,ty,pos,af,gd⟩ (ev t)) ops l ws Q t h e fs:=eP (fun _ _ _ U=>by cases U) rfl
theorem bH {o:Array Oper} {A:Prop} (h1:Co o fs=true) (h2:A):Co o fs=true∧A:=⟨h1,h2⟩
theorem aj {b:Bool} {g:Nat} {x y:Code} (h1:b=true->cW T Γ N F (.code x::ws) Q .normal (bI t g (.bool true)) h e) (h2:b=false->cW T Γ N F (.code y::ws) Q .normal (bI t g (.bool false)) h e):J2 T Γ N F (.bool b) g x y ws Q t h e:=by rw[Vh];exact⟨h1,h2⟩
theorem eW {b:Bool} {g:Nat} {o:Oper} (h1:b=true->nU T Γ N F o ops l ws Q (bI t g (.bool true)) h e) (h2:b=false->jV T Γ N F ops l ws Q (eF (bI t g (.bool false)) o.dst .skp) h e):uV T Γ N F (.bool b) g true o ops l ws Q t h e:=by rw[Vi];exact⟨h1,h2⟩
theorem aO {b:Bool} {g:Nat} {o:Oper} (h1:b=true->jV T Γ N F ops l ws Q (eF (bI t g (.bool true)) o.dst .skp) h e) (h2:b=false->nU T Γ N F o ops l ws Q (bI t g (.bool false)) h e):uV T Γ N F (.bool b) g false o ops l ws Q t h e:=by rw[Q9];exact⟨h1,h2⟩
theorem TT {b:Bool} {g:Nat} {o:Oper} (h1:b=true->nV T Γ N F o ops l ws Q (bI t g (.bool true)) h e fs) (h2:b=false->kC T Γ N F ops l ws Q (eF (bI t g (.bool false)) o.dst .skp) h e (fs++[⟨[],true⟩])):uW T Γ N F (.bool b) g true o ops l ws Q t h e fs:=by rw[Vj];exact⟨h1,h2⟩
theorem mY {b:Bool} {g:Nat} {o:Oper} (h1:b=true->kC T Γ N F ops l ws Q (eF (bI t g (.bool true)) o.dst .skp) h e (fs++[⟨[],true⟩])) (h2:b=false->nV T Γ N F o ops l ws Q (bI t g (.bool false)) h e fs):uW T Γ N F (.bool b) g false o ops l ws Q t h e fs:=by rw[Ra];exact⟨h1,h2⟩
def W9 (mode:Mode) (T:Nat->Option Ty) (lent:Option (D×Row)) (rs:List ResultVar) (r:RK×Option Row):Kt:=fun x t h e=>abO mode T lent rs x t h e r
theorem zR {mode:Mode} {lent:Option (D×Row)} {rs:List ResultVar} {r:RK×Option Row} : W9 mode T lent rs r .normal t h e=(fH mode T lent rs ⟨t,EH h,e⟩=some r):=aiw
theorem cG {mode:Mode} {lent:Option (D×Row)} {rs:List ResultVar} {r:RK×Option Row} : W9 mode T lent rs r .ret t h e=(fH mode T lent rs ⟨t,EH h,e⟩=some r):=aiw
def aaU (T:Nat->Option Ty) (ty O s:Nat) (rs:List ResultVar) (r:D×List D):Kt:=fun x t h e =>
 match x with
 | .exit _=>False
 | _=>Ut T ty O s rs ⟨t,h,e⟩=some r
theorem xd {ty O s:Nat} {rs:List ResultVar} {r:D×List D} : aaU T ty O s rs r .normal t h e=(Ut T ty O s rs ⟨t,h,e⟩=some r):=aiw
theorem cd {ty O s:Nat} {rs:List ResultVar} {r:D×List D} : aaU T ty O s rs r .ret t h e=(Ut T ty O s rs ⟨t,h,e⟩=some r):=aiw
def aaT (rs:List ResultVar) (r:Nat×Nat×Nat×Nat×Nat×List D):Kt:=fun x t h e =>
 match x with
 | .exit _=>False
 | _=>Us rs ⟨t,h,e⟩=some r
theorem xc {rs:List ResultVar} {r:Nat×Nat×Nat×Nat×Nat×List D} : aaT rs r .normal t h e=(Us rs ⟨t,h,e⟩=some r):=aiw
theorem cc {rs:List ResultVar} {r:Nat×Nat×Nat×Nat×Nat×List D} : aaT rs r .ret t h e=(Us rs ⟨t,h,e⟩=some r):=aiw
theorem Sv {ty O s:Nat} {rs:List ResultVar} : Ut T ty O s rs ⟨t,h,e⟩=LH ty O s (rJ T ⟨t,EH h,e⟩ rs) (h 0):=aiw
theorem LI {ty O s nv:Nat} {lst:Bool} {ds cs:List D} : LH ty O s (some (ds,[])) (some ⟨0,ty,[.nr O s nv cs],false,lst,true⟩)=some (kB ds,cs):=by
 simp[LH,W8]
theorem Ss {i:Nat} : Us [.tmp i] ⟨t,h,e⟩=Sr h (t i):=aiw
theorem GD {x v S n:Nat} : Sr h (.buf x v S 0 n)=LD x v S n (h x):=aiw
theorem LG {x v S n ty O s nv:Nat} {lst:Bool} {cs:List D} (U:x<1000000):LD x v S n (some ⟨v,ty,[.nr O s nv cs],false,lst,true⟩)=some (ty,O,s,S,n,cs):=by
 have:x<PK:=by rw[cm];exact U
 simp[LD,W7,this]
theorem aF {mode:Mode} {fn:Func} {c:Code} {n:Nat} {rs:List ResultVar} {args:List D} {r:RK×Option Row} (X:fn.body=some c) (U:fn.ntmps=n) (Y:fn.results=rs.toArray) (hw:cW T Γ n F [.code c] (W9 mode T none rs r) .normal (EY args) S8 0) (O:n<=1000000:=by exact ahr rfl):jO mode T Γ F fn none args=some r:=by
 refine Rm ?_ (by rw[U];exact O);unfold wpf;rw[X,U,Y];exact hw
theorem Oc (r:Row) (i:Nat):mn r i=if i=0 then some r else none:=aiw
theorem EO {mode:Mode} {fn:Func} {c:Code} {n:Nat} {rs:List ResultVar} {d0:D} {ty:Nat} {cells:List D} {fz lst:Bool} {args:List D} {r:RK×Option Row} (X:fn.body=some c) (U:fn.ntmps=n) (Y:fn.results=rs.toArray)
  (hw:cW T Γ n F [.code c] (W9 mode T (some (d0,⟨0,ty,cells,fz,lst,false⟩)) rs r) .normal (EY (d0::args)) (mn ⟨0,ty,cells,fz,lst,false⟩) 1) (O:n<=1000000:=by exact ahr rfl):jO mode T Γ F fn (some (d0,⟨0,ty,cells,fz,lst,false⟩)) args=some r:=by
 refine Rm ?_ (by rw[U];exact O);unfold wpf;rw[X,U,Y];exact hw
end
section
variable {h:Nat->Option Row} {k x o v ty fz' nv s n e:Nat} {cs xs:List D} {fz lst:Bool}
theorem VC (hk:k<2000000):EH h k=(h k).map (A3 k):=p6 (by rw[cm];exact hk)
theorem aaB (O:x<1000000):EH h (NK x o)=(h x).bind fun r=>pA r o:=p5 (by rw[cm];exact O)
theorem H4:A3 k ⟨v,ty,cs,fz,lst,false⟩=⟨v,ty,cs,fz,lst,false⟩:=aiw
theorem Ts {ks:List ch} : A3 k ⟨v,ty,[.mpc ks xs],fz,lst,true⟩=⟨v,ty,[.mpc ks xs],fz,lst,true⟩:=aiw
theorem Yi {y:Nat} : A3 k ⟨v,ty,[.ph y s n],fz,lst,true⟩=⟨v,ty,[.ph y s n],fz,lst,true⟩:=aiw
theorem Yh {t:Nat} : A3 k ⟨v,ty,[.nr t s nv cs],fz,lst,true⟩=⟨v,ty,cs.mapIdx (pb k s),fz,lst,true⟩:=aiw
theorem Nt {t:Nat} : pA ⟨v,ty,[.nr t s nv cs],fz,lst,true⟩ o=Dv t nv fz (cs.drop o).head?:=aiw
theorem Ns:Dv ty nv fz (some (.nx n xs))=some ⟨nv,ty,xs,fz,true,false⟩:=aiw
theorem abq (O:x<1000000):rt (NK x o)=x:=rZ (by rw[cm];exact O)
theorem G2:jN h []=[]:=aiw
theorem G1 {r:Option Row} {l:List (Nat×Option Row)} (hk:k<2000000):jN h ((k,r)::l)=(k,Dw r)::jN (bI h k (Dw r)) l:=by
 have h1:rt k=k:=gH (by rw[cm];exact hk);have h2:xv h k r=Dw r:=if_pos (by rw[cm];exact hk);simp only[jN,h1,h2]
theorem LV {r:Option Row} {l:List (Nat×Option Row)} (U:x<1000000):jN h ((NK x o,r)::l)=(x,(h x).map (D6 o r))::jN (bI h x ((h x).map (D6 o r))) l:=by
 have O:x<PK:=by rw[cm];exact U
 have h1:rt (NK x o)=x:=rZ O;have h2:xv h (NK x o) r=(h x).map (D6 o r):=by
  unfold xv;rw[if_neg (by have:=eL x o;omega),qP o O,Bu o O]
 simp only[jN,h1,h2]
theorem Hw:Dw none=none:=aiw
theorem Dx:Dw (some ⟨v,ty,cs,fz,lst,false⟩)=some ⟨v,ty,cs,fz,lst,false⟩:=aiw
theorem Nv {ks:List ch} : Dw (some ⟨v,ty,[.mpc ks xs],fz,lst,true⟩)=some ⟨v,ty,[.mpc ks xs],fz,lst,true⟩:=aiw
theorem S7 {y:Nat} : Dw (some ⟨v,ty,[.ph y s n],fz,lst,true⟩)=some ⟨v,ty,[.ph y s n],fz,lst,true⟩:=aiw
theorem Ti {t:Nat} {r:Option Row} : D6 o r ⟨v,ty,[.nr t s nv cs],fz,lst,true⟩=⟨v,ty,y6 t s nv fz cs o r (cs.drop o).head?,fz,lst,true⟩:=aiw
theorem Tq {t v':Nat} {O:List D} : y6 t s nv fz cs o (some ⟨v',t,O,fz,true,false⟩) (some (.nx n xs))=if v'=nv then [.nr t s nv (putCells cs o [.nx n O])] else [.nr t s nv (putCells cs o [.und])]:=by
 by_cases U:v'=nv<;>simp[y6,HI,U]
def lvN (x v:Nat):Option Row->Option (Row×Nat×Nat×Nat×List D)
 | some r=>if r.v=v∧r.fz=false∧r.mp=true∧x<1000000 then nrO r r.cells else none
 | none=>none
theorem MW:fC h x v=lvN x v (h x):=by
 unfold fC lvN;rw[cm];cases h x<;>rfl
theorem XE {t:Nat} (O:x<1000000):lvN x v (some ⟨v,ty,[.nr t s nv cs],false,lst,true⟩)=some (⟨v,ty,[.nr t s nv cs],false,lst,true⟩,t,s,nv,cs):=by
 simp only[lvN,true_and,O,and_self,if_true,nrO]
def abY (τ:Ty) (x o:Nat):Option (Row×Nat×Nat×Nat×List D)->Option bB
 | some (r,ty,s,nv,cs)=>Dc τ x s nv o cs (cs.drop o).head?
 | none=>none
theorem SS {τ:Ty} : oC τ h (.ptr x v o)=abY τ x o (fC h x v):=by
 simp only[oC,abY];cases fC h x v<;>rfl
theorem Hc {τ:Ty} {r:Row} {t:Nat} : abY τ x o (some (r,t,s,nv,cs))=Dc τ x s nv o cs (cs.drop o).head?:=aiw
theorem SQ {ds:Ds} {b:Nat} {z:List Value} {q:Bool} : Dc ⟨ds,1,b,z,q⟩ x s nv o cs (some (.nx n xs))=if ds.nM=false then some ⟨.buf (NK x o) nv s 0 n,[]⟩ else none:=by
 simp only[Dc,true_and]
def UK (τ:Ty) (o:Nat) (cs:List D):Option bB :=
 if o+τ.size<=cs.length∧((cs.drop o).take τ.size).all eX=true then okD (jb τ ((cs.drop o).take τ.size)) else none
theorem MM {τ:Ty} {O:IntKind} {i:Int} : Dc τ x s nv o cs (some (.int O i))=UK τ o cs:=aiw
theorem Hd {τ:Ty} {b:Bool} : Dc τ x s nv o cs (some (.bool b))=UK τ o cs:=aiw
theorem MN {τ:Ty} {b:ByteArray} : Dc τ x s nv o cs (some (.str b))=UK τ o cs:=aiw
theorem SR {τ:Ty} {a b:Bool} : Dc τ x s nv o cs (some (.sl a b n xs))=UK τ o cs:=aiw
def aaq (τ:Ty) (e:Nat) (h:Nat->Option Row) (x o:Nat) (d:D):Option (Row×Nat×Nat×Nat×List D)->Option bB
 | some (r,ty,s,nv,cs)=>if o+τ.size<=cs.length∧0<τ.size then uU τ e h x r ty s nv cs o d else none
 | none=>none
theorem TA {τ:Ty} {d:D} : l7 τ e h (.ptr x v o) d=aaq τ e h x o d (fC h x v):=by
 simp only[l7,aaq];cases fC h x v<;>rfl
theorem Ih {ds:Ds} {m b:Nat} {z:List Value} {q:Bool} {d:D} {r:Row} {t:Nat} (hm:0<m) (O:o+m<=cs.length):aaq ⟨ds,m,b,z,q⟩ e h x o d (some (r,t,s,nv,cs))=uU ⟨ds,m,b,z,q⟩ e h x r t s nv cs o d:=by
 simp only[aaq,hm,O,and_self,if_true]
theorem Ii {ds:Ds} {b:Nat} {z:List Value} {q:Bool} {r:Row} {t:Nat} : uU ⟨ds,1,b,z,q⟩ e h x r t s nv cs o (.buf (NK x o) nv s 0 n)=y8 x r t s nv cs o n (cs.drop o).head?:=by
 simp only[uU,and_self,if_true]
theorem H6 {ds:Ds} {r:Row} {t O:Nat} : y8 x r t s nv cs o n (some (.nx O xs))=if n*s<=xs.length then some ⟨.und,[(x,some ⟨r.v,r.ty,[.nr t s nv (putCells cs o [.nx n (xs.take (n*s))])],false,r.lst,true⟩)]⟩ else none:=aiw
def aco (x:Nat) (r:Row) (ty s:Nat) (cs:List D) (o y n:Nat) (b:Option Nat):Option Row->Option bB
 | some q=>if q.fz=false∧q.lst=true∧q.ty=ty∧q.cells.length=n*s then y9 x r ty s cs o y n q b else none
 | none=>none
theorem Ik {ds:Ds} {b y O:Nat} {z:List Value} {q:Bool} {r:Row} {t:Nat} (U:y<1000000):uU ⟨ds,1,b,z,q⟩ e h x r t s nv cs o (.buf y O s 0 n)=aco x r t s cs o y n (bump nv e) (live h y O):=by
 have h1:¬y=NK x o:=by have:=eL x o;rw[cm]at this;omega
 have h2:y<PK:=by rw[cm];exact U
 simp only[uU,and_self,if_true,h1,if_false,h2];cases live h y O<;>rfl
theorem Ig {r q:Row} {t O y:Nat} (U:q.fz=false∧q.lst=true∧q.ty=t∧q.cells.length=n*s):aco x r t s cs o y n (some O) (some q)=some ⟨.und,[(y,none),(x,some ⟨r.v,r.ty,[.nr t s O (putCells cs o [.nx n q.cells])],false,r.lst,true⟩)]⟩:=by
 simp only[aco,U,and_self,if_true,y9]
theorem OE {τ:Ty} {r:Row} {t:Nat} {O:IntKind} {i:Int} : uU τ e h x r t s nv cs o (.int O i)=za τ x r t s nv cs o (some [.int O i]):=aiw
theorem Ij {τ:Ty} {r:Row} {t:Nat} {b:Bool} : uU τ e h x r t s nv cs o (.bool b)=za τ x r t s nv cs o (some [.bool b]):=aiw
theorem OF {τ:Ty} {r:Row} {t:Nat} {b:ByteArray} : uU τ e h x r t s nv cs o (.str b)=za τ x r t s nv cs o (some [.str b]):=aiw
theorem Tz {τ:Ty} {r:Row} {t:Nat} {a b:Bool} : uU τ e h x r t s nv cs o (.sl a b n xs)=za τ x r t s nv cs o (some [.sl a b n xs]):=aiw
theorem OD {τ:Ty} {r:Row} {t:Nat} : uU τ e h x r t s nv cs o (.agg xs)=za τ x r t s nv cs o (some xs):=aiw
theorem Ip {τ:Ty} {r:Row} {t:Nat} {O:List D} : za τ x r t s nv cs o (some O)=if O.length=τ.size∧O.all eX=true then some ⟨.und,[(x,some ⟨r.v,r.ty,[.nr t s nv (putCells cs o (O.map canon))],false,r.lst,true⟩)]⟩ else none:=aiw
theorem A8 (O:nv<=4*e):bump nv e=some (4*e+1):=if_pos O
theorem Wi (O:nv=4*e+2):bump nv e=some (4*e+3):=by unfold bump;rw[if_neg (by omega),if_pos O]
theorem N0 {E:bB} {y:Option bB} : Zx (some E) y=some E:=aiw
theorem NZ {y:Option bB} : Zx none y=y:=aiw
def UH (τ:Ty) (x o:Nat):Option (Row×Nat×Nat×Nat×List D)->Option bB
 | some (r,ty,s,nv,cs)=>if r.lst=false∧o=0∧cs.length=τ.size∧1<τ.size∧cs.all (AS s)=true then Qg x r ty s nv (mq τ.size 0 cs) (jb τ (cs.map Vl)) else none
 | none=>none
theorem SP {τ:Ty} : sS τ h (.ptr x v o)=Zx (UH τ x o (fC h x v)) (oC τ h (.ptr x v o)):=by
 simp only[sS,oB];cases fC h x v<;>rfl
theorem Ha {τ:Ty} : UH τ x o none=none:=aiw
theorem Xy {τ:Ty} {v' ty:Nat} {cells:List D} {fz mp:Bool} {t:Nat} : UH τ x o (some (⟨v',ty,cells,fz,true,mp⟩,t,s,nv,cs))=none:=by simp[UH]
theorem Xz {τ:Ty} {v' ty:Nat} {cells:List D} {fz mp:Bool} {t:Nat} : UH τ x o (some (⟨v',ty,cells,fz,false,mp⟩,t,s,nv,cs))=if o=0∧cs.length=τ.size∧1<τ.size∧cs.all (AS s)=true then Qg x ⟨v',ty,cells,fz,false,mp⟩ t s nv (mq τ.size 0 cs) (jb τ (cs.map Vl)) else none:=by
 simp only[UH,true_and]
theorem Hb {r:Row} {t:Nat} {d:D} : Qg x r t s nv cs (some d)=some ⟨d,[(x,some ⟨r.v,r.ty,[.nr t s nv cs],false,r.lst,true⟩)]⟩:=aiw
def Vc (τ:Ty) (e x o:Nat) (d:D):Option (Row×Nat×Nat×Nat×List D)->Option bB
 | some (r,ty,s,nv,cs)=>if r.lst=false∧o=0∧cs.length=τ.size then QM τ.size e x r ty s nv cs d else none
 | none=>none
theorem Tu {τ:Ty} {d:D} : sU τ e h (.ptr x v o) d=Zx (Vc τ e x o d (fC h x v)) (l7 τ e h (.ptr x v o) d):=by
 simp only[sU,oG];cases fC h x v<;>rfl
theorem Ir {τ:Ty} {d:D} : Vc τ e x o d none=none:=aiw
theorem Yo {τ:Ty} {d:D} {v' ty:Nat} {cells:List D} {fz mp:Bool} {t:Nat} : Vc τ e x o d (some (⟨v',ty,cells,fz,true,mp⟩,t,s,nv,cs))=none:=by simp[Vc]
theorem Yp {τ:Ty} {d:D} {v' ty:Nat} {cells:List D} {fz mp:Bool} {t:Nat} : Vc τ e x o d (some (⟨v',ty,cells,fz,false,mp⟩,t,s,nv,cs))=if o=0∧cs.length=τ.size then QM τ.size e x ⟨v',ty,cells,fz,false,mp⟩ t s nv cs d else none:=by
 simp only[Vc,true_and]
theorem OK {O t:Nat} {r:Row} : QM O e x r t s nv cs (.agg xs)=if xs.length=O then stZ x r t s (bump nv e) (qB cs xs) else none:=aiw
theorem OJ {r:Row} {t O:Nat} {cs':List D} : stZ x r t s (some O) (some cs')=some ⟨.und,[(x,some ⟨r.v,r.ty,[.nr t s O cs'],false,r.lst,true⟩)]⟩:=aiw
def aaz:Option D->Option (List D)->Option (List D)
 | some y,some O=>some (y::O)
 | _,_=>none
theorem IE {y:D} {O:List D} : aaz (some y) (some O)=some (y::O):=aiw
theorem IF:qB [] []=some []:=aiw
theorem ES {c x:D} {cs xs:List D} : qB (c::cs) (x::xs)=aaz (Fy c x) (qB cs xs):=by
 simp only[qB];cases Fy c x<;>cases qB cs xs<;>rfl
theorem T4:Fy (.nx n xs) (.sl true true 0 [])=some (.nx 0 []):=aiw
theorem T2 {k k':IntKind} {i j:Int} : Fy (.int k i) (.int k' j)=some (.int k' j):=aiw
theorem O3 {a b:D} : mq 2 0 [a,b]=[Vl a,Vl b]:=aiw
theorem TU {k:IntKind} {i:Int} : Vl (.int k i)=.int k i:=aiw
theorem Y7:Vl (.nx n xs)=.sl false false n xs:=aiw
theorem Tb {k:IntKind} {i:Int} : AS s (.int k i)=true:=aiw
theorem XT:AS s (.nx n xs)=(xs.length==n*s):=aiw
theorem XU {a b:Bool} : AS s (.sl a b n xs)=true:=aiw
theorem Y8 {a b:Bool} : Vl (.sl a b n xs)=.sl a b n xs:=aiw
theorem T3 {m:Nat} {O:List D} : Fy (.nx n xs) (.sl false false m O)=none:=aiw
theorem T5 {a b c d:Bool} {m:Nat} {O:List D} : Fy (.sl a b n xs) (.sl c d m O)=some (.sl false false m O):=aiw
theorem ID {O:Option (List D)} : aaz none O=none:=aiw
theorem O7 {y:Option D} : aaz y none=none:=by cases y<;>rfl
theorem OI {r:Row} {t:Nat} {b:Option Nat} : stZ x r t s b none=none:=by cases b<;>rfl
end
section
variable {Γ:Env} {g d:Nat} {p:Nat×Nat×Nat}
theorem SB {f:Nat} {l:Bool} {G:Option (D×Row)->List D->Option (RK×Option Row)} : (Am.ext Γ f l G).nst g=Γ.nst g:=aiw
theorem ME:(Am.keep d Γ).nst g=Γ.nst g:=aiw
theorem Mr {y:Nat} : (Am.vc d y Γ).nst g=Γ.nst g:=aiw
theorem My {f:Nat} : (Am.C8 f p Γ).nst g=Γ.nst g:=aiw
theorem Ml {f:Nat} {q:Grow} : (Am.C2 f q Γ).nst g=Γ.nst g:=aiw
theorem Ht:bk.nst g=none:=aiw
theorem NG:(Am.uS d p Γ).nst g=if g=d then some p else Γ.nst g:=aiw
theorem DC:(Am.uS d p Γ).lends g=Γ.lends g:=aiw
theorem NI {l:Option (D×Row)} {afy:List D} : (Am.uS d p Γ).sem g l afy=Γ.sem g l afy:=aiw
theorem NH:(Am.uS d p Γ).own g=Γ.own g:=aiw
theorem HB:(Am.uS d p Γ).hint g=Γ.hint g:=aiw
theorem NF:(Am.uS d p Γ).ins g=Γ.ins g:=aiw
theorem ND:(Am.uS d p Γ).grw g=Γ.grw g:=aiw
theorem Xc {f:Nat} {l:Bool} {G:Option (D×Row)->List D->Option (RK×Option Row)} : (Am.ext Γ f l G).nx=Γ.nx:=aiw
theorem SM:(Am.keep d Γ).nx=Γ.nx:=aiw
theorem SJ {y:Nat} : (Am.vc d y Γ).nx=Γ.nx:=aiw
theorem SK {f:Nat} : (Am.C8 f p Γ).nx=Γ.nx:=aiw
theorem SG {f:Nat} {q:Grow} : (Am.C2 f q Γ).nx=Γ.nx:=aiw
theorem S9:(Am.uS d p Γ).nx=Γ.nx:=aiw
theorem Hs:bk.nx.lnd g=none:=aiw
theorem Hv:bk.nx.res g=none:=aiw
end
section
variable {Γ:Env} {g d f:Nat} {p:Nat×(Nat->Nat->Nat->Nat->List D->List D->Option (D×List D))}
theorem M3:(Am.AO f p Γ).nx.lnd g=if g=f then some p else Γ.nx.lnd g:=aiw
theorem M6:(Am.AO f p Γ).nx.res g=Γ.nx.res g:=aiw
theorem Dj:(Am.AO f p Γ).lends g=Γ.lends g:=aiw
theorem M7 {l:Option (D×Row)} {afy:List D} : (Am.AO f p Γ).sem g l afy=Γ.sem g l afy:=aiw
theorem M5:(Am.AO f p Γ).own g=Γ.own g:=aiw
theorem Hg:(Am.AO f p Γ).hint g=Γ.hint g:=aiw
theorem M0:(Am.AO f p Γ).ins g=Γ.ins g:=aiw
theorem MZ:(Am.AO f p Γ).grw g=Γ.grw g:=aiw
theorem M4:(Am.AO f p Γ).nst g=Γ.nst g:=aiw
end
section
variable {Γ:Env} {g d f:Nat} {p:List D->Option (Nat×Nat×Nat×Nat×Nat×List D)}
theorem NB:(Am.AR f p Γ).nx.res g=if g=f then some p else Γ.nx.res g:=aiw
theorem Ny:(Am.AR f p Γ).nx.lnd g=Γ.nx.lnd g:=aiw
theorem DB:(Am.AR f p Γ).lends g=Γ.lends g:=aiw
theorem NC {l:Option (D×Row)} {afy:List D} : (Am.AR f p Γ).sem g l afy=Γ.sem g l afy:=aiw
theorem NA:(Am.AR f p Γ).own g=Γ.own g:=aiw
theorem HA:(Am.AR f p Γ).hint g=Γ.hint g:=aiw
theorem Nx:(Am.AR f p Γ).ins g=Γ.ins g:=aiw
theorem Nw:(Am.AR f p Γ).grw g=Γ.grw g:=aiw
theorem Nz:(Am.AR f p Γ).nst g=Γ.nst g:=aiw
end
section
variable {Γ:Env} {h:Nat->Option Row} {e x v o g:Nat} {rest:List D}
def Ps (Γ:Env) (e:Nat) (h:Nat->Option Row) (g x o:Nat) (rest:List D):Option (Row×Nat×Nat×Nat×List D)->Option bB
 | some (r,ty,s,nv,cs)=>BV e x r ty s nv cs o (Γ.nx.lnd g) (bq (EH h) rest)
 | none=>none
theorem F1:p8 Γ e h g (.ptr x v o::rest)=Ps Γ e h g x o rest (fC h x v):=by
 simp only[p8,Ps];cases fC h x v<;>rfl
theorem zp {r:Row} {ty s nv:Nat} {cs:List D} : Ps Γ e h g x o rest (some (r,ty,s,nv,cs))=BV e x r ty s nv cs o (Γ.nx.lnd g) (bq (EH h) rest):=aiw
theorem zn {r:Row} {ty s nv:Nat} {cs afy:List D} {p:Nat×(Nat->Nat->Nat->Nat->List D->List D->Option (D×List D))} : BV e x r ty s nv cs o (some p) (some (afy,[]))=IW x r ty s o p.1 (bump nv e) (p.2 r.ty ty s o cs afy):=aiw
theorem zo {r:Row} {ty s O k:Nat} {d:D} {cs':List D} : IW x r ty s o k (some O) (some (d,cs'))=if ((cs'.drop o).take k).all (AS s)=true then some ⟨d,[(x,some ⟨r.v,r.ty,[.nr ty s O (mq k o cs')],false,r.lst,true⟩)]⟩ else none:=aiw
end
end Go.Proofs.YtoioidmblipblaaGreat.Am
namespace Go.Proofs.YtoioidmblipblaaGreat.P
open Go.RowKit
def FU:Nat:=1000000000000000000000000
def ns {σ ρ:Type} (body:σ->Option (σ⊕ρ)):Nat->σ->Option ρ
 | 0,_=>none
 | n+1,s =>
  match body s with
  | some (.inl O)=>ns body n O
  | some (.inr r)=>some r
  | none=>none
def ba {σ ρ:Type} (body:σ->Option (σ⊕ρ)) (s:σ):Option ρ:=ns body FU s
theorem Xu {σ ρ:Type} {body:σ->Option (σ⊕ρ)} (I:σ->Prop) (μ:σ->Nat) (Q:ρ->Prop)
  (O:∀s,I s->(∃U,body s=some (.inl U)∧I U∧μ U<μ s)∨(∃r,body s=some (.inr r)∧Q r)):∀(n:Nat) (s:σ),I s->μ s<n->∃r,ns body n s=some r∧Q r:=by
 intro n
 induction n with
 | zero=>intro s _ h;omega
 | succ n X =>
  intro s Y Z;rcases O s Y with⟨U,h1,h2,h3⟩|⟨r,h1,h2⟩
  ·obtain⟨r,h4,h5⟩:=X U h2 (by omega);exact⟨r,by simp only[ns,h1];exact h4,h5⟩
  ·exact⟨r,by simp only[ns,h1],h2⟩
theorem Dk {σ ρ:Type} {body:σ->Option (σ⊕ρ)} (I:σ->Prop) (μ:σ->Nat) (Q:ρ->Prop) {s:σ} (X:I s) (Y:μ s<FU)
  (O:∀s,I s->(∃U,body s=some (.inl U)∧I U∧μ U<μ s)∨(∃r,body s=some (.inr r)∧Q r)):∃r,ba body s=some r∧Q r:=Xu I μ Q O FU s X Y
def idx {α:Type} (l:List α) (i:Int):Option α:=if 0<=i∧i<l.length then l[i.toNat]? else none
def wo {α:Type} (l:List α) (a b:Int):Option (List α):=if 0<=a∧a<=b∧b<=l.length then some ((l.drop a.toNat).take (b.toNat-a.toNat)) else none
def Hl {α:Type} (bytes:Nat) (n c:Int) (z:α):Option (List α):=if 0<=n∧n<=c∧c<=maxLen∧c.toNat*bytes<=140737488355328 then some (List.replicate n.toNat z) else none
def kr {α:Type} (bytes:Nat) (l m:List α):Option (List α):=if l.length+m.length<=maxLen∧(l.length+m.length)*bytes<=140737488355328 then some (l++m) else none
def acU {α:Type} (l:List α):List (Bool×α):=l.map fun x=>(false,x)
def B9 (k:IntKind) (x y:Int):Option Int:=if y=0 then none else some (k.wrap (x.tdiv y))
def AQ (_:IntKind) (x y:Int):Option Int:=if y=0 then none else some (x.tmod y)
def Fm (k:IntKind) (x y:Int):Option Int:=if y<0 then none else some (k.wrap (x*2 ^ (min y.toNat k.bits)))
def A2 (k:IntKind) (x y:Int):Option Int:=if y<0 then none else some (x.fdiv (2 ^ (min y.toNat k.bits)))
def jQ (op:BinOp) (k:IntKind) (x y:Int):Int :=
 let a:=BitVec.ofInt k.bits x
 let b:=BitVec.ofInt k.bits y
 match op with
 | .and=>k.wrap (a &&& b).toNat
 | .or=>k.wrap (a ||| b).toNat
 | .xor=>k.wrap (a ^^^ b).toNat
 | _=>k.wrap (a &&& ~~~b).toNat
def ff {κ α:Type} [DecidableEq κ] (z:α):List (κ×α)->κ->α
 | [],_=>z
 | (k,v)::m,n=>if k=n then v else ff z m n
def kR {κ α:Type} [DecidableEq κ]:List (κ×α)->κ->Bool
 | [],_=>false
 | (k,_)::m,n=>k==n||kR m n
def oT {κ α:Type} [DecidableEq κ]:List (κ×α)->κ->α->List (κ×α)
 | [],n,v=>[(n,v)]
 | (k,x)::m,n,v=>if k=n then (k,v)::m else (k,x)::oT m n v
def nw (l:List Int):List Int:=l.mergeSort fun x y=>decide (x<=y)
theorem nY (l:List Int):(nw l).length=l.length:=List.length_mergeSort l
theorem H5:nw []=[]:=by simp[nw]
theorem ae {α β:Type} {o:Option α} {f:α->Option β} {r:β} (h:o.bind f=some r):∃a,o=some a∧f a=some r:=by
 cases o with
 | none=>cases h
 | some a=>exact⟨a,rfl,h⟩
theorem acZ {α:Type} {b:Bool} {x y r:α} (O:b=true) (h:(if b=true then x else y)=r):x=r:=by rw[if_pos O]at h;exact h
theorem acY {α:Type} {b:Bool} {x y r:α} (O:b=false) (h:(if b=true then x else y)=r):y=r:=by rw[O]at h;simpa using h
theorem ai {a b:Prop} (x:a) (y:b):a∧b:=⟨x,y⟩
theorem sp {α:Type} {b:Bool} {P1 P2 Q:Prop} {x y r:α} (k:(b=true->P1)->(b=false->P2)->Q) (h:(if b=true then x else y)=r) (h1:b=true->x=r->P1) (h2:b=false->y=r->P2):Q:=k (fun O=>h1 O (acZ O h)) fun O=>h2 O (acY O h)
end Go.Proofs.YtoioidmblipblaaGreat.P
namespace Go.Proofs.YtoioidmblipblaaGreat.Am
open Go.RowKit Go.Proofs.YtoioidmblipblaaGreat.P
structure iM (α:Type) where
 cells:α->List D
 size:Nat
 len:∀x,(cells x).length=size
 pos:0<size
 inj:∀x y,cells x=cells y->x=y
def ab {α:Type} (e:iM α):List α->List D
 | []=>[]
 | x::l=>e.cells x++ab e l
section
variable {α β:Type} (e:iM α)
theorem xb:ab e []=[]:=rfl
theorem bh (x:α) (l:List α):ab e (x::l)=e.cells x++ab e l:=rfl
theorem iY:∀l m:List α,ab e (l++m)=ab e l++ab e m
 | [],m=>rfl
 | x::l,m=>by rw[ahA,bh,bh,iY l m,ag1]
theorem bM:∀l:List α,(ab e l).length=l.length*e.size
 | []=>by simp[ab]
 | x::l=>by rw[bh,agP,bM l,e.len,af3,agC];omega
theorem ug:∀(l:List α) (i:Nat),(ab e l).drop (i*e.size)=ab e (l.drop i)
 | l,0=>by simp
 | [],i+1=>by simp[ab]
 | x::l,i+1=>by
  rw[bh,ahB,<- ug l i,ahs,e.len,aht (by rw[e.len,agC];omega),ahq];congr 1;rw[agC];omega
theorem gr:∀(l:List α) (i:Nat),(ab e l).take (i*e.size)=ab e (l.take i)
 | l,0=>by simp[ab]
 | [],i+1=>by simp[ab]
 | x::l,i+1=>by
  rw[bh,ahC,bh,ag4,e.len,ag6 (by rw[e.len,agC];omega),<- gr l i];congr 2;rw[agC];omega
theorem sV:∀l m:List α,ab e l=ab e m->l=m
 | [],[],_=>rfl
 | [],y::m,h=>by
  have:=congrArg List.length h;have O:=e.pos;rw[bh,agP,e.len]at this;simp[ab]at this;omega
 | x::l,[],h=>by
  have:=congrArg List.length h;have O:=e.pos;rw[bh,agP,e.len]at this;simp[ab]at this;omega
 | x::l,y::m,h=>by
  rw[bh,bh]at h;obtain⟨h1,h2⟩:=List.append_inj h (by rw[e.len,e.len]);rw[e.inj _ _ h1,sV l m h2]
theorem LC:∀(n:Nat) (x:α),mm n (e.cells x)=ab e (List.replicate n x)
 | 0,x=>by simp[mm,ab]
 | n+1,x=>by rw[agA,bh,<- LC n x];simp[mm,List.replicate_succ]
end
def eI (k:IntKind):iM Int:=⟨fun n=>[.int k n],1,fun _=>rfl,by decide,fun x y h=>by simpa using h⟩
def aaS:iM Bool:=⟨fun n=>[.bool n],1,fun _=>rfl,by decide,fun x y h=>by simpa using h⟩
def W2:iM ByteArray:=⟨fun n=>[.str n],1,fun _=>rfl,by decide,fun x y h=>by simpa using h⟩
def jM {α:Type} (e:iM α):iM (List α):=⟨fun l=>[.sl false false l.length (ab e l)],1,fun _=>rfl,by decide,fun x y h=>by
 simp only[af1,D.sl.injEq,true_and,and_true]at h;exact sV e _ _ h.2⟩
def lF {α β:Type} (e:iM α) (f:iM β):iM (α×β):=⟨fun x=>e.cells x.1++f.cells x.2,e.size+f.size,fun x=>by rw[agP,e.len,f.len],afG e.pos (Nat.le_add_right _ _),fun x y h=>by
 obtain⟨h1,h2⟩:=List.append_inj h (by rw[e.len,e.len]);exact Prod.ext (e.inj _ _ h1) (f.inj _ _ h2)⟩
def AI {α β:Type} (e:iM β) (f:α->β) (hf:∀x y,f x=f y->x=y):iM α:=⟨fun x=>e.cells (f x),e.size,fun x=>e.len _,e.pos,fun x y h=>hf _ _ (e.inj _ _ h)⟩
structure Arg (α:Type) where
 d:α->D
 inj:∀x y,d x=d y->x=y
def aI (k:IntKind):Arg Int:=⟨fun n =>.int k n,fun x y h=>by simpa using h⟩
def aaJ:Arg Bool:=⟨fun n =>.bool n,fun x y h=>by simpa using h⟩
def aeI:Arg ByteArray:=⟨fun n =>.str n,fun x y h=>by simpa using h⟩
def mG {α:Type} (e:iM α):Arg (List α):=⟨fun l =>.sl false false l.length (ab e l),fun x y h=>by
 simp only[D.sl.injEq,true_and]at h;exact sV e _ _ h.2⟩
def bt {α:Type} (e:iM α):Arg α:=⟨fun x =>.agg (e.cells x),fun x y h=>e.inj _ _ (by simpa using h)⟩
theorem acM (k:IntKind) (n:Int):(aI k).d n=.int k n:=aiw
theorem RF (n:Bool):aaJ.d n=.bool n:=aiw
theorem VT (n:ByteArray):aeI.d n=.str n:=aiw
theorem aaM {α:Type} (e:iM α) (l:List α):(mG e).d l=.sl false false l.length (ab e l):=aiw
theorem VR {α:Type} (e:iM α) (x:α):(bt e).d x=.agg (e.cells x):=aiw
theorem wX (k:IntKind) (n:Int):(eI k).cells n=[.int k n]:=aiw
theorem zG (n:Bool):aaS.cells n=[.bool n]:=aiw
theorem Cq (n:ByteArray):W2.cells n=[.str n]:=aiw
theorem Gy {α:Type} (e:iM α) (l:List α):(jM e).cells l=[.sl false false l.length (ab e l)]:=aiw
structure iU (α:Type) where
 ds:α->List D
 inj:∀x y,ds x=ds y->x=y
def as0:iU Unit:=⟨fun _=>[],fun _ _ _=>rfl⟩
def dL {α:Type} (a:Arg α):iU α:=⟨fun x=>[a.d x],fun x y h=>a.inj _ _ (by simpa using h)⟩
def gX {α β:Type} (a:Arg α) (b:iU β):iU (α×β):=⟨fun x=>a.d x.1::b.ds x.2,fun x y h=>by
 simp only[af1]at h;exact Prod.ext (a.inj _ _ h.1) (b.inj _ _ h.2)⟩
def dP {α β:Type} (A:iU α) (F:α->Option β) (R:β->RK):Option (D×Row)->List D->Option (RK×Option Row):=fun lent ds =>
 match lent with
 | none=>open Classical in if h:∃a,A.ds a=ds then (F (Classical.choose h)).map fun r=>(R r,none) else none
 | some _=>none
theorem cI {α β:Type} (A:iU α) (F:α->Option β) (R:β->RK) (a:α):dP A F R none (A.ds a)=(F a).map fun r=>(R r,none):=by
 have h:∃b,A.ds b=A.ds a:=⟨a,rfl⟩;simp only[dP];rw[dif_pos h,A.inj _ _ (Classical.choose_spec h)]
theorem qq {α β:Type} {A:iU α} {F:α->Option β} {R:β->RK} {lent:Option (D×Row)} {ds:List D} {rk:RK} {out:Option Row} (h:dP A F R lent ds=some (rk,out)):lent=none∧out=none∧∃a r,ds=A.ds a∧F a=some r∧rk=R r:=by
 unfold dP at h;split at h
 ·split at h
  ·rename_i he;rw[afB]at h;obtain⟨r,h1,h2⟩:=h;simp only[Prod.mk.injEq]at h2;obtain⟨rfl,rfl⟩:=h2;exact⟨rfl,rfl,_,r,(Classical.choose_spec he).symm,h1,rfl⟩
  ·cases h
 ·cases h
structure bT (P:Program) (f:FuncId) (G:Option (D×Row)->List D->Option (RK×Option Row)):Prop where
 calls:∀lent afy rk out,G lent afy=some (rk,out)->pL P f lent afy rk out
 callable:dQ P f
theorem bT.of {P:Program} {T:Nat->Option Ty} {Γ:Env} (X:gW P T) (Y:bF P Γ) (hm:P.follows .mixedOrders=true) {α β:Type} {A:iU α} {F:α->Option β} {R:β->RK} {mode:Mode} {f:FuncId} {fn:Func} (U:P.funcs[f]? = some fn) (O:(match fn.body with|some c=>codeOk c|none=>true)=true)
  (Z:(fn.name == "runtime.NumGoroutine")=false∧fn.body.isNone=false) (hn:∀a,(A.ds a).length<=fn.ntmps) (h:∀a r,F a=some r->jO mode T Γ FU fn none (A.ds a)=some (R r,none)):bT P f (dP A F R) where
 calls lent afy rk out hg:=by
  obtain⟨rfl,rfl,a,r,rfl,hr,rfl⟩:=qq hg;exact jm X Y hm U O (hn a) rfl (h a r hr)
 callable:=⟨fn,U,Z⟩
theorem bF.add {P:Program} {Γ:Env} (O:bF P Γ) {f:Nat} {G:Option (D×Row)->List D->Option (RK×Option Row)} (h:bT P f G) (l:Bool):bF P (Am.ext Γ f l G):=O.ext h.calls h.callable
section
variable {T:Nat->Option Ty} {Γ:Env} {N e:Nat} {ws:List W} {Q:Kt} {t:Nat->D} {h:Nat->Option Row}
def LK {σ ρ:Type} (Rel:σ->(Nat->D)->(Nat->Option Row)->Nat->Prop) (O:ρ->Ex->(Nat->D)->(Nat->Option Row)->Nat->Prop) (c:σ⊕ρ):Kt:=fun x t h e =>
 match x with
 | .normal=>∃U,c=.inl U∧Rel U t h e
 | x=>∃o,c=.inr o∧O o x t h e
theorem iP {σ ρ:Type} {Rel:σ->(Nat->D)->(Nat->Option Row)->Nat->Prop} {O:ρ->Ex->(Nat->D)->(Nat->Option Row)->Nat->Prop} {U:σ} (k:Rel U t h e):LK Rel O (.inl U) .normal t h e:=⟨U,rfl,k⟩
theorem jW {σ ρ:Type} {Rel:σ->(Nat->D)->(Nat->Option Row)->Nat->Prop} {O:ρ->Ex->(Nat->D)->(Nat->Option Row)->Nat->Prop} {o:ρ} {n:Nat} (k:O o (.exit n) t h e):LK Rel O (.inr o) (.exit n) t h e:=⟨o,rfl,k⟩
theorem rv {σ ρ:Type} {Rel:σ->(Nat->D)->(Nat->Option Row)->Nat->Prop} {O:ρ->Ex->(Nat->D)->(Nat->Option Row)->Nat->Prop} {o:ρ} (k:O o .ret t h e):LK Rel O (.inr o) .ret t h e:=⟨o,rfl,k⟩
theorem aC {σ ρ:Type} {body:σ->Option (σ⊕ρ)} {b:Code} (Rel:σ->(Nat->D)->(Nat->Option Row)->Nat->Prop) (O:ρ->Ex->(Nat->D)->(Nat->Option Row)->Nat->Prop) {s0:σ} {out:ρ} (hL:ba body s0=some out) (h0:Rel s0 t h e)
  (Y:∀s t h e,Rel s t h e->∀c,body s=some c->cW T Γ N FU [.code b] (LK Rel O c) .normal t h e)
  (U:∀x t h e,O out x t h e->cW T Γ N FU ws Q x t h e):Tn T Γ N FU b ws Q t h e:=by
 have key:∀(n:Nat) (s:σ) (t:Nat->D) (h:Nat->Option Row) (e:Nat),Rel s t h e->ns body n s=some out->∃x Z,iter (fK T Γ N FU b) n ⟨t,h,e⟩=some (x,Z)∧cW T Γ N FU ws Q x Z.t Z.h Z.e:=by
  intro n
  induction n with
  | zero=>intro s t h e _ X;cases X
  | succ n ih =>
   intro s t h e hR X;simp only[ns]at X;cases hb:body s with
   | none=>rw[hb]at X;cases X
   | some c =>
    rw[hb]at X;obtain⟨x,s1,h1,h2⟩:=J9 _ _ _ _ _ (show O6 T Γ N FU b t h e (LK Rel O c) from Y s t h e hR c hb);simp only[iter,h1];cases x with
    | normal =>
     obtain⟨Z,rfl,h4⟩:=h2;exact ih Z s1.t s1.h s1.e h4 X
    | exit m =>
     obtain⟨o,rfl,h4⟩:=h2;simp only[afM]at X;subst X;exact⟨_,_,rfl,U _ _ _ _ h4⟩
    | ret =>
     obtain⟨o,rfl,h4⟩:=h2;simp only[afM]at X;subst X;exact⟨_,_,rfl,U _ _ _ _ h4⟩
 exact key FU s0 t h e h0 hL
theorem xR {d:D} {g:Nat} {A B A' B':(Nat->D)->Prop} (hk:Rk d t g A B) (h1:∀t,A t->A' t) (h2:∀t,B t->B' t):Rk d t g A' B':=by
 cases d with
 | bool b=>exact⟨fun O=>h1 _ (hk.1 O),fun O=>h2 _ (hk.2 O)⟩
 | _=>exact hk
theorem EP {d:D} {g:Nat} {A B S A' B' S':(Nat->D)->Prop} (hk:wpS d t g A B S) (h1:∀t,A t->A' t) (h2:∀t,B t->B' t) (h3:∀t,S t->S' t):wpS d t g A' B' S':=by
 unfold wpS at hk ⊢;split at hk
 ·exact h3 _ hk
 ·exact xR hk h1 h2
theorem DF {α:Type} {x:Option α} {K K':α->Prop} (hk:oP x K) (h1:∀a,K a->K' a):oP x K':=by
 cases x with
 | none=>exact hk
 | some a=>exact h1 a hk
theorem O5 {ops:List Oper} {gd:Option (Nat×Bool)} {A B A' B':(Nat->D)->Prop} (hk:Zr ops t gd A B) (h1:∀t,A t->A' t) (h2:∀t,B t->B' t):Zr ops t gd A' B':=by
 unfold Zr at hk ⊢;split
 ·exact h1 _ hk
 ·rename_i j want;refine DF hk fun g O=>EP O ?_ ?_ h2
  ·intro t U;cases want<;>simp_all
  ·intro t U;cases want<;>simp_all
theorem xT {o:Oper} {K K':(Nat->D)->bB->Prop} (hk:O4 T Γ e o t h K) (h1:∀t E,K t E->K' t E):O4 T Γ e o t h K':=by
 unfold O4 at hk ⊢;split
 ·rename_i O;rw[O]at hk;exact xR hk (fun _ h=>h1 _ _ h) (fun _ h=>h1 _ _ h)
 ·rename_i U;split at hk
  ·rename_i c a b O;exact absurd O (U _ _ _)
  ·exact DF hk (fun _ h=>h1 _ _ h)
theorem uF {ops:List Oper} {K K':(Nat->D)->(Nat->Option Row)->Prop} (h1:∀t h,K t h->K' t h):∀(l:List Oper) (t:Nat->D) (h:Nat->Option Row),Ek T Γ N e ops l t h K->Ek T Γ N e ops l t h K'
 | [],t,h,hk=>h1 _ _ hk
 | o::l,t,h,hk=>by
  unfold Ek at hk ⊢;exact⟨hk.1,O5 hk.2 (fun t O=>xT O fun t E U=>uF h1 l _ _ U) (fun t O=>uF h1 l _ _ O)⟩
theorem uC {ops:List Oper} {K K':(Nat->D)->(Nat->Option Row)->List jP->Prop} (h1:∀t h fs,K t h fs->K' t h fs):∀(l:List Oper) (t:Nat->D) (h:Nat->Option Row) (fs:List jP),runK T Γ N e ops l t h fs K->runK T Γ N e ops l t h fs K'
 | [],t,h,fs,hk=>h1 _ _ _ hk
 | o::l,t,h,fs,hk=>by
  unfold runK at hk ⊢;exact⟨hk.1,O5 hk.2 (fun t O=>xT O fun t E U=>uC h1 l _ _ _ U) (fun t O=>uC h1 l _ _ _ O)⟩
theorem Zt {ops:Array Oper} {draw:Bool} {K K':(Nat->D)->(Nat->Option Row)->Prop} (hk:wpR T Γ N ops draw t h e K) (h1:∀t h,K t h->K' t h):wpR T Γ N ops draw t h e K':=by
 unfold wpR at hk ⊢;cases draw with
 | true=>exact uC (fun t h fs O=>⟨O.1,h1 _ _ O.2⟩) _ _ _ _ hk
 | false=>exact uF h1 _ _ _ hk
theorem Vt {F:Nat} : ∀(c:Code) (t:Nat->D) (h:Nat->Option Row) (e:Nat) (K K':Kt),O6 T Γ N F c t h e K->(∀x t h e,K x t h e->K' x t h e)->O6 T Γ N F c t h e K':=by
 intro c
 induction c with
 | skip=>intro t h e K K' hk hm;exact hm _ _ _ _ hk
 | region i ops draw=>intro t h e K K' hk hm;exact Zt hk fun t h hh=>hm _ _ _ _ hh
 | seq a b U X =>
  intro t h e K K' hk hm;refine U _ _ _ _ _ hk fun x t h e O =>?_;cases x with
  | normal=>exact X _ _ _ _ _ O hm
  | exit n=>exact hm _ _ _ _ O
  | ret=>exact hm _ _ _ _ O
 | cond c x y ihx ihy =>
  intro t h e K K' hk hm;unfold O6 at hk ⊢;cases c with
  | tmp g=>exact xR hk (fun t Y=>ihx _ _ _ _ _ Y hm) (fun t Y=>ihy _ _ _ _ _ Y hm)
  | const v =>
   cases v with
   | bool b =>
    cases b with
    | true=>exact ihx _ _ _ _ _ hk hm
    | false=>exact ihy _ _ _ _ _ hk hm
   | _=>exact hk
  | _=>exact hk
 | block id b ih =>
  intro t h e K K' hk hm;refine ih _ _ _ _ _ hk fun x t h e O =>?_;cases x with
  | normal=>exact hm _ _ _ _ O
  | ret=>exact hm _ _ _ _ O
  | exit n =>
   unfold Wg at O ⊢;simp only at O ⊢;split at O
   ·rename_i Z;rw[if_pos Z];exact hm _ _ _ _ O
   ·rename_i Z;rw[if_neg Z];exact hm _ _ _ _ O
 | loop b ih =>
  intro t h e K K' hk hm;obtain⟨x,s,h1,h2⟩:=hk;exact⟨x,s,h1,hm _ _ _ _ h2⟩
 | exit id=>intro t h e K K' hk hm;exact hm _ _ _ _ hk
 | ret=>intro t h e K K' hk hm;exact hm _ _ _ _ hk
 | _=>intro t h e K K' hk;exact hk.elim
def CK {σ:Type} (J:σ->(Nat->D)->(Nat->Option Row)->Nat->Prop) (P:σ->Prop) (R:Kt):Kt:=fun x t h e =>
 match x with
 | .normal=>∃s,P s∧J s t h e
 | x=>R x t h e
theorem al {σ:Type} {J:σ->(Nat->D)->(Nat->Option Row)->Nat->Prop} {P:σ->Prop} {R:Kt} : CK J P R .normal t h e = ∃s,P s∧J s t h e:=aiw
end
section
variable {h:Nat->Option Row}
theorem F4 {k:IntKind} {n:Int} : canon (.int k n)=.int k n:=aiw
theorem B0 {b:Bool} : canon (.bool b)=.bool b:=aiw
theorem F6 {b:ByteArray} : canon (.str b)=.str b:=aiw
theorem KL {a b:Bool} {n:Nat} {xs:List D} : canon (.sl a b n xs)=.sl false false n xs:=aiw
theorem BX {k:IntKind} {n:Int} : fF (.int k n)=.int k n:=aiw
theorem zq {b:Bool} : fF (.bool b)=.bool b:=aiw
theorem BZ {b:ByteArray} : fF (.str b)=.str b:=aiw
theorem F3 {a b:Bool} {n:Nat} {xs:List D} : fF (.sl a b n xs)=.sl false false n xs:=aiw
theorem BW {xs:List D} : fF (.agg xs)=.agg (xs.map canon):=aiw
def ZK (x s o n:Nat):Option Row->Option (D×List Nat)
 | some r=>if o+n*s<=r.cells.length then some (.sl false false n ((r.cells.drop o).take (n*s)),[x]) else none
 | none=>none
theorem KW {x s o n:Nat} {r:Row} : ZK x s o n (some r)=if o+n*s<=r.cells.length then some (.sl false false n ((r.cells.drop o).take (n*s)),[x]) else none:=aiw
def clP (x o:Nat):Option Row->Option (D×List Nat)
 | some r=>if o<=r.cells.length then some (.ip (r.cells.drop o),[x]) else none
 | none=>none
theorem K2 {x o:Nat} {r:Row} : clP x o (some r)=if o<=r.cells.length then some (.ip (r.cells.drop o),[x]) else none:=aiw
theorem KS {k:IntKind} {n:Int} : bL h (.int k n)=some (.int k n,[]):=aiw
theorem F8 {b:Bool} : bL h (.bool b)=some (.bool b,[]):=aiw
theorem KV {b:ByteArray} : bL h (.str b)=some (.str b,[]):=aiw
theorem Sf {a b:Bool} {n:Nat} {xs:List D} : bL h (.sl a b n xs)=some (.sl false false n xs,[]):=aiw
theorem KO {xs:List D} : bL h (.agg xs)=some (.agg (xs.map canon),[]):=aiw
theorem Sd {xs:List D} : bL h (.ip xs)=some (.ip xs,[]):=aiw
theorem Sc {f:Nat} : bL h (.fn f)=some (.fn f,[]):=aiw
theorem KQ {x v s o n:Nat} : bL h (.buf x v s o n)=ZK x s o n (live h x v):=by
 simp only[bL,aT,dA];cases live h x v with
 | none=>rfl
 | some r=>by_cases O:o+n*s<=r.cells.length<;>simp[ZK,O,canon]
theorem KU {x v o:Nat} : bL h (.ptr x v o)=clP x o (live h x v):=by
 simp only[bL,aT];cases live h x v with
 | none=>rfl
 | some r=>simp only[clP]
theorem WD {k:IntKind} {n:Int} : eN h (.int k n)=some ([.int k n],[]):=aiw
theorem Sh {b:Bool} : eN h (.bool b)=some ([.bool b],[]):=aiw
theorem WE {b:ByteArray} : eN h (.str b)=some ([.str b],[]):=aiw
theorem aaR {a b:Bool} {n:Nat} {xs:List D} : eN h (.sl a b n xs)=some ([.sl a b n xs],[]):=aiw
theorem WB {xs:List D} : eN h (.agg xs)=some (xs,[]):=aiw
def cvB:Option (D×List Nat)->Option (List D×List Nat)
 | some (d,fr)=>some ([d],fr)
 | none=>none
theorem La {d:D} {fr:List Nat} : cvB (some (d,fr))=some ([d],fr):=aiw
theorem WC {x v s o n:Nat} : eN h (.buf x v s o n)=cvB (ZK x s o n (live h x v)):=by
 simp only[eN,dA];cases live h x v with
 | none=>rfl
 | some r=>by_cases O:o+n*s<=r.cells.length<;>simp[ZK,cvB,O]
def clF (h:Nat->Option Row):Option (D×List Nat)->Option bB
 | some (d,fr)=>some ⟨d,ik h fr⟩
 | none=>none
theorem KY {d:D} {fr:List Nat} : clF h (some (d,fr))=some ⟨d,ik h fr⟩:=aiw
theorem RI {x v s o n:Nat} : ia h (.buf x v s o n)=clF h (ZK x s o n (live h x v)):=by
 simp only[ia,ow,dA];cases live h x v with
 | none=>rfl
 | some r=>by_cases O:o+n*s<=r.cells.length<;>simp[ZK,clF,O,canon,fF]
variable {Γ:Env} {f g e:Nat} {l:Bool} {G:Option (D×Row)->List D->Option (RK×Option Row)} {lent:Option (D×Row)} {afy:List D} {dst:Option Nat} {fr:List Nat}
theorem GQ:(Am.ext Γ f l G).lends g=if g=f then l else Γ.lends g:=aiw
theorem SD:(Am.ext Γ f l G).sem g lent afy=if g=f then G lent afy else Γ.sem g lent afy:=aiw
theorem SC {d:Nat} : (Am.ext Γ f l G).own d=Γ.own d:=aiw
theorem Hu {d:Nat} : bk.own d=true:=aiw
theorem MF {d i:Nat} : (Am.keep d Γ).own i=(i != d&&Γ.own i):=aiw
theorem Da {d i:Nat} : (Am.keep d Γ).lends i=Γ.lends i:=aiw
theorem MG {d i:Nat} : (Am.keep d Γ).sem i lent afy=Γ.sem i lent afy:=aiw
def AG (lends:Bool) (Γ:Env) (h:Nat->Option Row) (e:Nat) (dst:Option Nat) (g:Nat) (args:List D):Option bB :=
 if lends then
  match args with
  | .buf x v s o n::rest=>ov Γ h e dst g x v (.buf 0 0 s o n) rest
  | .ptr x v o::rest=>ov Γ h e dst g x v (.ptr 0 0 o) rest
  | .mp x v::rest=>ov Γ h e dst g x v (.mp 0 0) rest
  | _=>none
 else sA Γ h e dst g args
def ZJ (p:Option (Nat×Nat×Nat)) (Γ:Env) (h:Nat->Option Row) (e:Nat) (dst:Option Nat) (g:Nat) (args:List D):Option bB :=
 match p with
 | some p=>rU h e dst p args
 | none =>
  match Γ.grw g with
  | some p=>rT h p args
  | none=>AG (Γ.lends g) Γ h e dst g args
def abJ (p:Option Grow) (Γ:Env) (h:Nat->Option Row) (e:Nat) (dst:Option Nat) (g:Nat) (args:List D):Option bB :=
 match p with
 | some p=>rT h p args
 | none=>AG (Γ.lends g) Γ h e dst g args
theorem FW {args:List D} : ZJ none Γ h e dst g args=abJ (Γ.grw g) Γ h e dst g args:=aiw
theorem FR {args:List D} : abJ none Γ h e dst g args=AG (Γ.lends g) Γ h e dst g args:=aiw
theorem FT {p:Grow} {args:List D} : abJ (some p) Γ h e dst g args=rT h p args:=aiw
theorem Sz {f:Nat} {l:Bool} {G:Option (D×Row)->List D->Option (RK×Option Row)} : (Am.ext Γ f l G).grw g=Γ.grw g:=aiw
theorem MC {d:Nat} : (Am.keep d Γ).grw g=Γ.grw g:=aiw
theorem Mp {d y:Nat} : (Am.vc d y Γ).grw g=Γ.grw g:=aiw
theorem Mw {f:Nat} {p:Nat×Nat×Nat} : (Am.C8 f p Γ).grw g=Γ.grw g:=aiw
theorem Hq:bk.grw g=none:=aiw
theorem Mj {f:Nat} {p:Grow} : (Am.C2 f p Γ).grw g=if g=f then some p else Γ.grw g:=aiw
theorem Mk {f:Nat} {p:Grow} : (Am.C2 f p Γ).ins g=Γ.ins g:=aiw
theorem C3 {f:Nat} {p:Grow} : (Am.C2 f p Γ).lends g=Γ.lends g:=aiw
theorem Mn {f:Nat} {p:Grow} {l:Option (D×Row)} {afy:List D} : (Am.C2 f p Γ).sem g l afy=Γ.sem g l afy:=aiw
theorem Mm {f:Nat} {p:Grow} {d:Nat} : (Am.C2 f p Γ).own d=Γ.own d:=aiw
theorem G4 {f:Nat} {p:Grow} {d:Nat} : (Am.C2 f p Γ).hint d=Γ.hint d:=aiw
def lvP (v:Nat):Option Row->Option (Row×Nat×Nat×Nat)
 | some r=>if r.v=v∧r.mp=true then (match r.cells with | [.ph y s n]=>some (r,y,s,n)|_=>none) else none
 | none=>none
theorem MX {x v:Nat} : kI h x v=lvP v (h x):=by
 unfold kI lvP;cases h x<;>rfl
theorem Nb {v ty y s n:Nat} {fz lst:Bool} : lvP v (some ⟨v,ty,[.ph y s n],fz,lst,true⟩)=some (⟨v,ty,[.ph y s n],fz,lst,true⟩,y,s,n):=by simp[lvP]
def Wl (p:Grow) (y k:Nat) (rest:List D):Option (Row×Nat×Nat×Nat)->Option Row->Option bB
 | some (O,k',s,n),some r =>
   if k'=k∧k=PK+y∧y<PK∧O.fz=false∧r.mp=false∧r.fz=false∧r.lst=true∧s=p.k∧r.ty=p.ty∧r.cells.length=n*p.k∧(n+1)*p.bytes<=140737488355328 then
    match p.sem r.cells rest with
    | some cs=>some ⟨.int .i64 (n:Int),[(k,some ⟨r.v,p.ty,r.cells++cs,false,true,false⟩),(y,some ⟨O.v,O.ty,[.ph k p.k (n+1)],false,false,true⟩)]⟩
    | none=>none
   else none
 | _,_=>none
theorem R3 {p:Grow} {y v k:Nat} {rest:List D} : rT h p (.pm y v k::rest)=Wl p y k rest (kI h y v) (h k):=aiw
def aaQ (k y v ty O ty' k' n:Nat) (cells:List D):Option (List D)->Option bB
 | some cs=>some ⟨.int .i64 (n:Int),[(k,some ⟨O,ty',cells++cs,false,true,false⟩),(y,some ⟨v,ty,[.ph k k' (n+1)],false,false,true⟩)]⟩
 | none=>none
theorem BM {ty' k' O:Nat} {sem:List D->List D->Option (List D)} {y k:Nat} {rest:List D} {v ty s n X U:Nat} {cells:List D} : Wl ⟨ty',k',O,sem⟩ y k rest (some (⟨v,ty,[.ph k s n],false,false,true⟩,k,s,n)) (some ⟨X,U,cells,false,true,false⟩) =
  if k=1000000+y∧y<1000000∧s=k'∧U=ty'∧cells.length=n*k'∧(n+1)*O<=140737488355328 then aaQ k y v ty X ty' k' n cells (sem cells rest) else none:=by
 simp only[Wl,PK,true_and];cases sem cells rest<;>rfl
theorem BN {k y v ty O ty' k' n:Nat} {cells cs:List D} : aaQ k y v ty O ty' k' n cells (some cs)=some ⟨.int .i64 (n:Int),[(k,some ⟨O,ty',cells++cs,false,true,false⟩),(y,some ⟨v,ty,[.ph k k' (n+1)],false,false,true⟩)]⟩:=aiw
theorem FX {p:Nat×Nat×Nat} {args:List D} : ZJ (some p) Γ h e dst g args=rU h e dst p args:=aiw
theorem SA {f:Nat} {l:Bool} {G:Option (D×Row)->List D->Option (RK×Option Row)} : (Am.ext Γ f l G).ins g=Γ.ins g:=aiw
theorem MD {d:Nat} : (Am.keep d Γ).ins g=Γ.ins g:=aiw
theorem Mq {d y:Nat} : (Am.vc d y Γ).ins g=Γ.ins g:=aiw
theorem Hr:bk.ins g=none:=aiw
theorem Mx {f:Nat} {p:Nat×Nat×Nat} : (Am.C8 f p Γ).ins g=if g=f then some p else Γ.ins g:=aiw
theorem C9 {f:Nat} {p:Nat×Nat×Nat} : (Am.C8 f p Γ).lends g=Γ.lends g:=aiw
theorem MA {f:Nat} {p:Nat×Nat×Nat} {l:Option (D×Row)} {afy:List D} : (Am.C8 f p Γ).sem g l afy=Γ.sem g l afy:=aiw
theorem Mz {f:Nat} {p:Nat×Nat×Nat} {d:Nat} : (Am.C8 f p Γ).own d=Γ.own d:=aiw
theorem G7 {f:Nat} {p:Nat×Nat×Nat} {d:Nat} : (Am.C8 f p Γ).hint d=Γ.hint d:=aiw
def Wm (ty k O x y s U o o' n m:Nat) (i:Int) (e:Nat) (d:Nat):Option Row->Option Row->Option bB
 | some r,some r' =>
   if r.fz=false∧r'.fz=false∧r.lst=true∧r'.lst=true∧x≠y∧s=k∧U=k∧r.ty=ty∧r'.ty=ty∧o=0∧o'=0∧r.cells.length=n*k∧r'.cells.length=m*k∧0<=i∧i<=n∧0<m∧(n+m)*O<=140737488355328 then
    some ⟨.buf d e k 0 (n+m),[(y,none),(x,none),(d,some ⟨e,ty,r.cells.take (i.toNat*k)++(r'.cells++r.cells.drop (i.toNat*k)),false,true,false⟩)]⟩
   else none
 | _,_=>none
theorem R4 {ty k O x v s o n y v' U o' m d:Nat} {i:Int} : rU h e (some d) (ty,k,O) [.buf x v s o n,.int .i64 i,.buf y v' U o' m]=Wm ty k O x y s U o o' n m i e d (live h x v) (live h y v'):=by
 simp only[rU,Wm];cases live h x v with
 | none=>rfl
 | some r=>cases live h y v'<;>rfl
theorem BO {ty k O x y s U o o' n m : Nat} {i : Int} {d : Nat} {r r' : Row} : Wm ty k O x y s U o o' n m i e d (some r) (some r') = if r.fz = false ∧ r'.fz = false ∧ r.lst = true ∧ r'.lst = true ∧ x ≠ y ∧ s = k ∧ U = k ∧ r.ty = ty ∧ r'.ty = ty ∧ o = 0 ∧ o' = 0 ∧ r.cells.length = n * k ∧ r'.cells.length = m * k ∧ 0 <= i ∧ i <= n ∧ 0 < m ∧ (n + m) * O <= 140737488355328 then
        some ⟨.buf d e k 0 (n + m), [(y, none), (x, none), (d, some ⟨e, ty, r.cells.take (i.toNat * k) ++ (r'.cells ++ r.cells.drop (i.toNat * k)), false, true, false⟩)]⟩
      else none := Eq.trans rfl rfl
theorem R6 {args:List D} : gY Γ h e dst (.fn g) args=ZJ (Γ.ins g) Γ h e dst g args:=by
 simp only[gY,ZJ,AG];cases Γ.ins g with
 | none=>cases Γ.grw g<;>rfl
 | some p=>rfl
def Uf (h:Nat->Option Row) (e:Nat) (dst:Option Nat) (fr:List Nat):Option (RK×Option Row)->Option bB
 | some (.clean r,_)=>some ⟨r,if gp r then [] else ik h fr⟩
 | some (.fresh ty s n cells,_) =>
  match dst with
  | some d=>if fr.contains d=false then some ⟨.buf d e s 0 n,(if oI cells then [] else ik h fr)++[(d,some ⟨e,ty,cells,false,true,false⟩)]⟩ else none
  | none=>none
 | _=>none
def ZI (Γ:Env) (h:Nat->Option Row) (e:Nat) (dst:Option Nat) (g:Nat):Option (List D×List Nat)->Option bB
 | some (afy,fr)=>Uf h e dst fr (Γ.sem g none afy)
 | none=>none
theorem FY {args:List D} : AG false Γ h e dst g args=ZI Γ h e dst g (bq h args):=by
 simp only[AG,agd,if_false,sA,ZI];cases bq h args with
 | none=>rfl
 | some p =>
  obtain⟨afy,fr⟩:=p;simp only;cases hs:Γ.sem g none afy with
  | none=>rfl
  | some q =>
   obtain⟨rk,o⟩:=q;cases rk<;>rfl
theorem FQ:ZI Γ h e dst g (some (afy,fr))=Uf h e dst fr (Γ.sem g none afy):=aiw
def Xi (h:Nat->Option Row) (fr:List Nat):Bool->List (Nat×Option Row)
 | true=>[]
 | false=>ik h fr
theorem G3:Xi h fr true=[]:=aiw
theorem CN:Xi h fr false=ik h fr:=aiw
theorem LY {b:Bool} : Xi h [] b=[]:=by cases b<;>rfl
theorem BS {r:D} {o:Option Row} : Uf h e dst fr (some (.clean r,o))=some ⟨r,Xi h fr (gp r)⟩:=by
 simp only[Uf];cases gp r<;>rfl
theorem SE:ik h []=[]:=aiw
theorem LZ {x:Nat} : ik h (x::fr)=(x,(h x).map qo)::ik h fr:=aiw
theorem Xl {v ty:Nat} {cells:List D} {lst mp:Bool} : qo ⟨v,ty,cells,true,lst,mp⟩=⟨v,ty,cells,true,lst,mp⟩:=aiw
theorem Xj {v ty:Nat} {cells:List D} {lst mp:Bool} : qo ⟨v,ty,cells,false,lst,mp⟩=⟨v,ty,cells,true,true,mp⟩:=aiw
theorem F9:bq h []=some ([],[]):=aiw
def caC (p:Option (D×List Nat)) (q:Option (List D×List Nat)):Option (List D×List Nat) :=
 match p,q with
 | some (X,fr),some (O,U)=>some (X::O,fr++U)
 | _,_=>none
theorem Ky {d:D} {fr O:List Nat} {ds:List D} : caC (some (d,fr)) (some (ds,O))=some (d::ds,fr++O):=aiw
theorem B1 {d:D} {ds:List D} : bq h (d::ds)=caC (bL h d) (bq h ds):=by
 simp only[bq];cases bL h d with
 | none=>rfl
 | some p=>cases bq h ds<;>rfl
variable {T:Nat->Option Ty} {s:St} {rs:List ResultVar} {r:ResultVar}
theorem Ob:rJ T s []=some ([],[]):=aiw
theorem HS:rJ T s (r::rs)=caC (N9 T s r) (rJ T s rs):=by
 simp only[rJ];cases N9 T s r with
 | none=>rfl
 | some p=>cases rJ T s rs<;>rfl
theorem Oa {t:Nat->D} {i:Nat} : N9 T ⟨t,h,e⟩ (.tmp i)=bL h (t i):=aiw
def acf (T:Nat->Option Ty) (h:Nat->Option Row) (d:D) (τ:Option Ty):Option (D×List Nat) :=
 match τ,d with
 | some τ,.ptr x v o=>match dI τ h (.ptr x v o) with|some E=>some (fF E.val,[])|none=>none
 | _,_=>none
theorem HQ {t:Nat->D} {i ty:Nat} : N9 T ⟨t,h,e⟩ (.cell i ty)=acf T h (t i) (T ty):=aiw
def acg:Option bB->Option (D×List Nat)
 | some E=>some (fF E.val,[])
 | none=>none
theorem HR {d:D} {w:List (Nat×Option Row)} : acg (some ⟨d,w⟩)=some (fF d,[]):=aiw
theorem N8 {τ:Ty} {x v o:Nat} : acf T h (.ptr x v o) (some τ)=acg (dI τ h (.ptr x v o)):=by
 simp only[acf,acg]
def abN (p:Option (List D×List Nat)):Option (RK×Option Row) :=
 match p with
 | some (ds,_)=>some (.clean (kB ds),none)
 | none=>none
theorem GC {ds:List D} {fr:List Nat} : abN (some (ds,fr))=some (.clean (kB ds),none):=aiw
theorem CC:fH .clean T none rs s=abN (rJ T s rs):=by
 simp only[fH,oH,js,XS,abN];cases rJ T s rs<;>rfl
theorem BT {ty sz n d:Nat} {cells:List D} {o:Option Row} : Uf h e (some d) fr (some (.fresh ty sz n cells,o))=if fr.contains d=false then some ⟨.buf d e sz 0 n,Xi h fr (oI cells)++[(d,some ⟨e,ty,cells,false,true,false⟩)]⟩ else none:=by
 simp only[Uf];cases oI cells<;>rfl
theorem yf {k:IntKind} : ∀l:List Int,oI (ab (eI k) l)=true
 | []=>rfl
 | x::l=>by
  have:=yf (k:=k) l;simp only[bh,wX,List.cons_append,List.nil_append,oI,gp,this,Bool.and_self]
theorem CD {ty sz i:Nat} {t:Nat->D} : fH (.fresh ty sz) T none [.tmp i] ⟨t,h,e⟩=l8 ty sz h (t i):=aiw
theorem CF {i:Nat} {t:Nat->D} : fH .tight T none [.tmp i] ⟨t,h,e⟩=ui (t i):=aiw
theorem Xb {nl O:Bool} {n:Nat} {xs:List D} : ui (.sl nl O n xs)=some (.clean (.sl nl O n xs),none):=aiw
theorem Sp {ty sz x v o n:Nat} : l8 ty sz h (.buf x v sz o n)=uh ty sz o n (live h x v):=by simp[l8]
theorem W5 {ty sz:Nat} {nl O:Bool} {xs:List D} : l8 ty sz h (.sl nl O 0 xs)=if O=true then some (.fresh ty sz 0 [],none) else none:=aiw
theorem Lx {ty sz o n:Nat} {r:Row} : uh ty sz o n (some r)=if r.fz=false∧r.ty=ty∧o+n*sz<=r.cells.length then some (.fresh ty sz n ((r.cells.drop o).take (n*sz)),none) else none:=aiw
theorem Ed {d:D} : kB [d]=d:=aiw
theorem Ee {d O:D} {ds:List D} : kB (d::O::ds)=.tup (d::O::ds):=aiw
end
theorem Sn (k:IntKind):(eI k).size=1:=aiw
theorem Cp:aaS.size=1:=aiw
theorem Gz:W2.size=1:=aiw
theorem Lw {α:Type} (e:iM α):(jM e).size=1:=aiw
section
variable {α:Type} (E:iM α) {l m:List α} {x x' z:α} {i a b n c:Int} {B:Nat}
theorem Jq (h:P.idx l i=some x):0<=i∧i<l.length:=by
 unfold P.idx at h;split at h
 ·assumption
 ·cases h
theorem Xt (h:P.idx l i=some x):l[i.toNat]? = some x:=by
 unfold P.idx at h;split at h
 ·exact h
 ·cases h
theorem Bb (h:P.idx l i=some x):(ab E l).drop (i.toNat*E.size)=E.cells x++ab E (l.drop (i.toNat+1)):=by
 have h':=Xt h;obtain⟨O,rfl⟩:=af6.1 h';rw[ug,ahD O];rfl
theorem ru (h:P.idx l i=some x):i.toNat*E.size+E.size<=l.length*E.size:=by
 have h':=Jq h;have:i.toNat+1<=l.length:=by omega
 have:=agr E.size this
 rwa [agC]at this
theorem bC (h:P.idx l i=some x):(0<=i∧i<l.length)∧(ab E l).drop (i.toNat*E.size)=E.cells x++ab E (l.drop (i.toNat+1))∧i.toNat*E.size+E.size<=l.length*E.size:=⟨Jq h,Bb E h,ru E h⟩
theorem Ye:∀(l:List α) (i:Nat) (x:α),l[i]? = some x->∀x',ab E (l.set i x')=(ab E l).take (i*E.size)++E.cells x'++(ab E l).drop (i*E.size+E.size)
 | [],i,x,h,x'=>by simp at h
 | y::l,0,x,h,x'=>by
  rw[List.set_cons_zero,bh,bh,ahx,ahE,ahq,agt,ahs,E.len,agR,ag7,aht (by rw[E.len];exact afD _),ahq]
 | y::l,i+1,x,h,x'=>by
  have U:=Ye l i x (by simpa using h) x';rw[List.set_cons_succ,bh,bh,U,agC];have O:=E.len y;have X:(E.cells y++ab E l).take (i*E.size+E.size)=E.cells y++(ab E l).take (i*E.size):=by rw[ag4,O,ag6 (by omega),ahu]
  have Y:(E.cells y++ab E l).drop (i*E.size+E.size+E.size)=(ab E l).drop (i*E.size+E.size):=by
   rw[ahs,O,aht (by omega),ahq,ahu]
  rw[X,Y];simp only[ag1]
theorem fP (fo:Nat) (cs:List D) (h:P.idx l i=some x) (X:E.cells x'=putCells (E.cells x) fo cs) (Y:fo+cs.length<=E.size):putCells (ab E l) (i.toNat*E.size+fo) cs=ab E (l.set i.toNat x'):=by
 have h':=Xt h;rw[Ye E l i.toNat x h' x',X];have he:=Bb E h;have hf:=ru E h;have hl:=bM E l;have Z:=E.len x;have O:ab E l=(ab E l).take (i.toNat*E.size)++(E.cells x++(ab E l).drop (i.toNat*E.size+E.size)):=by
  have h1:=ahw (i.toNat*E.size) (ab E l);have h2:(ab E l).drop (i.toNat*E.size+E.size)=ab E (l.drop (i.toNat+1)):=by
   rw[<- ahv,he,ahs,Z,agR,ag7,aht (by omega),ahq]
  rw[h2,<- he,h1]
 generalize (ab E l).drop (i.toNat*E.size+E.size)=r at *;generalize ht:(ab E l).take (i.toNat*E.size)=p at *;have U:p.length=i.toNat*E.size:=by rw[<- ht];simp;omega
 unfold putCells;rw[O];have e1:(p++(E.cells x++r)).take (i.toNat*E.size+fo)=p++(E.cells x).take fo:=by
  rw[ag4,U,ag6 (by omega),ag3,ag5 (by omega)]
 have e2:(p++(E.cells x++r)).drop (i.toNat*E.size+fo+cs.length)=(E.cells x).drop (fo+cs.length)++r:=by
  rw[afY,ahs,U,aht (by omega),ag3,ahq,ag2 (by omega)]
 rw[e1,e2];simp only[ag1]
theorem X7 (h:P.idx l i=some x):putCells (ab E l) (i.toNat*E.size) (E.cells x')=ab E (l.set i.toNat x'):=by
 have:=fP E (x':=x') 0 (E.cells x') h (by unfold putCells;simp[E.len]) (by rw[E.len];omega);simpa using this
theorem XL (h:Hl B n c z=some m):m=List.replicate n.toNat z∧0<=n∧n<=c∧c<=maxLen∧c.toNat*B<=140737488355328:=by
 unfold Hl at h;split at h
 ·cases h;exact⟨rfl,by assumption⟩
 ·cases h
theorem mk_one (h:Hl B n n z=some m):0<=n∧n.toNat=m.length∧m.length<=maxLen∧mm m.length (E.cells z)=ab E m∧m.length*B<=140737488355328:=by
 obtain⟨rfl,h1,_,h3,h4⟩:=XL h;refine⟨h1,by simp,by simp;omega,by rw[LC];simp,by simpa using h4⟩
theorem y7 (h:wo l a b=some m):0<=a∧0<=b∧a.toNat<=b.toNat∧b.toNat<=l.length∧b.toNat-a.toNat=m.length∧(List.take (m.length*E.size) (List.drop (a.toNat*E.size) (ab E l))=ab E m):=by
 unfold wo at h;split at h
 ·rename_i U;cases h;have O:((l.drop a.toNat).take (b.toNat-a.toNat)).length=b.toNat-a.toNat:=by simp;omega
  refine⟨U.1,by omega,by omega,by omega,O.symm,?_⟩;rw[O,ug,gr]
 ·cases h
theorem acm (h:wo l a b=some m):0<=a∧0<=b∧(a.toNat<=b.toNat∧b.toNat<=l.length)∧b.toNat-a.toNat=m.length∧(List.take (m.length*E.size) (List.drop (a.toNat*E.size) (ab E l))=ab E m):=by
 obtain⟨h1,h2,h3,h4,h5,h6⟩:=y7 E h;exact⟨h1,h2,⟨h3,h4⟩,h5,h6⟩
theorem QK (h:wo l a (l.length:Int)=some m):0<=a∧0<=a∧a.toNat<=l.length∧l.length-a.toNat=m.length∧(List.take (m.length*E.size) (List.drop (a.toNat*E.size) (ab E l))=ab E m):=by
 obtain⟨h1,h2,h3,h4,h5,h6⟩:=y7 E h;simp only[Int.toNat_natCast]at h3 h5;exact⟨h1,h1,h3,h5,h6⟩
theorem Es (h:wo l 0 b=some m):0<=b∧0<=b∧m.length<=l.length∧b.toNat=m.length∧(List.take (m.length*E.size) (ab E l)=ab E m):=by
 obtain⟨h1,h2,h3,h4,h5,h6⟩:=y7 E h;have O:b.toNat=m.length:=by simpa using h5
 refine⟨h2,h2,by omega,O,by simpa using h6⟩
theorem xZ {n:List α} (h:kr B l m=some n):n=l++m∧n.length<=maxLen∧n.length*B<=140737488355328:=by
 unfold kr at h;split at h
 ·rename_i O;cases h;exact⟨rfl,by rw[agP];exact O.1,by rw[agP];exact O.2⟩
 ·cases h
theorem ir {n:List α} (h:kr B l [x]=some n):l.length+1=n.length∧ab E l++E.cells x=ab E n∧n.length<=maxLen∧n.length*B<=140737488355328:=by
 obtain⟨rfl,h1,h2⟩:=xZ h;exact⟨by simp,by rw[iY];simp[ab],h1,h2⟩
theorem wF {n:List α} (h:kr B [] l=some n):n=l∧l.length<=maxLen∧l.length*B<=140737488355328:=by
 obtain⟨rfl,h1,h2⟩:=xZ h;exact⟨rfl,h1,h2⟩
theorem RN {n:List α} (h:kr B l m=some n):l.length+m.length=n.length∧ab E l++ab E m=ab E n∧n.length<=maxLen∧n.length*B<=140737488355328:=by
 obtain⟨rfl,h1,h2⟩:=xZ h;exact⟨by simp,by rw[iY],h1,h2⟩
end
theorem rf {k:IntKind} {x y z:Int} (h:B9 k x y=some z):¬y=0∧k.wrap (x.tdiv y)=z:=by
 unfold B9 at h;split at h
 ·cases h
 ·cases h;exact⟨by assumption,rfl⟩
theorem uq {k:IntKind} {x y z:Int} (h:AQ k x y=some z):¬y=0∧x.tmod y=z:=by
 unfold AQ at h;split at h
 ·cases h
 ·cases h;exact⟨by assumption,rfl⟩
theorem Bl {k:IntKind} {x y z:Int} (h:Fm k x y=some z):¬y<0∧k.wrap (x*2 ^ (min y.toNat k.bits))=z:=by
 unfold Fm at h;split at h
 ·cases h
 ·cases h;exact⟨by assumption,rfl⟩
theorem uH {k:IntKind} {x y z:Int} (h:A2 k x y=some z):¬y<0∧x.fdiv (2 ^ (min y.toNat k.bits))=z:=by
 unfold A2 at h;split at h
 ·cases h
 ·cases h;exact⟨by assumption,rfl⟩
theorem R0 (op:BinOp) (k:IntKind) (x y:Int):BI op k x y=jQ op k x y:=aiw
theorem pL.emp {P:Program} {f:FuncId} {rk:RK} {out:Option Row} (h1:pL P f none [.sl true true 0 []] rk out) (h2:pL P f none [.sl true false 0 []] rk out):pL P f none [.sl false false 0 []] rk out:=by
 intro w M vs Y O;have Z:=O.2 0 _ rfl;generalize hu:vs.getD 0 undef=u at Z;cases Z with
 | sl A c nl tight n xs us k1 k2 k3 X k5 k6 k7 k8 =>
  cases A with
  | none =>
   refine h1 w M vs Y ⟨O.1,fun j d U =>?_,O.tab⟩;cases j with
   | zero=>cases U;rw[hu];exact .sl none c true true 0 [] us k1 k2 (fun _=>⟨fun _=>⟨rfl,(X rfl).2⟩,fun h=>by cases h⟩) X (fun _=>(X rfl).2) k6 k7 k8
   | succ j=>simp at U
  | some A =>
   refine h2 w M vs Y ⟨O.1,fun j d U =>?_,O.tab⟩;cases j with
   | zero=>cases U;rw[hu];exact .sl (some A) c true false 0 [] us k1 k2 (fun _=>⟨(fun h=>by cases h),fun _ h=>by cases h⟩) X (fun h=>by cases h) k6 k7 k8
   | succ j=>simp at U
theorem bT.ac4 {P:Program} {T:Nat->Option Ty} {Γ:Env} (X:gW P T) (Y:bF P Γ) (hm:P.follows .mixedOrders=true) {α β:Type} {E:iM α} {F:List α->Option β} {R:β->RK} {mode:Mode} {f:FuncId} {fn:Func} (U:P.funcs[f]? = some fn) (O:(match fn.body with|some c=>codeOk c|none=>true)=true)
  (hc:(fn.name == "runtime.NumGoroutine")=false∧fn.body.isNone=false) (Z:1<=fn.ntmps)
  (h0:∀r,F []=some r->jO mode T Γ FU fn none [.sl true true 0 []]=some (R r,none))
  (h1:∀r,F []=some r->jO mode T Γ FU fn none [.sl true false 0 []]=some (R r,none))
  (h2:∀l r,0<l.length->F l=some r->jO mode T Γ FU fn none [.sl false false l.length (ab E l)]=some (R r,none)):bT P f (dP (dL (mG E)) F R) where
 calls lent afy rk out hg:=by
  obtain⟨rfl,rfl,l,r,rfl,hr,rfl⟩:=qq hg;cases l with
  | nil=>exact pL.emp (jm X Y hm U O Z rfl (h0 r hr)) (jm X Y hm U O Z rfl (h1 r hr))
  | cons x l=>exact jm X Y hm U O Z rfl (h2 (x::l) r (by simp) hr)
 callable:=⟨fn,U,hc⟩
theorem abD {w:World} {M:Nat->Prop} {k:IntKind} {n:Int} {u:Value} (h:RP w M (.int k n) u):u=.int k n:=by cases h;rfl
theorem Zl {vs:Array Value} (h:vs.size=1):vs = #[vs.getD 0 undef]:=by
 apply Array.ext
 ·simp[h]
 ·intro i h1 h2;have:i=0:=by omega
  subst this;simp[agQ h1]
theorem vm1:type_of% (ai @IT<|ai @BK<|ai @HZ<|ai @Og<|ai @Of<|ai @HX<|ai @El<|ai @HY<|ai @bc<|ai @aX<|ai @sa<|ai @bj<|ai @vd<|ai @Ar<|ai @Eo<|ai @HW<|ai @Iw<|ai @ED<|ai @Od<|ai @HU<|ai @Ei<|ai @Ix<|ai @EE<|ai @EF<|ai @AD<|ai @Oe<|ai @HV<|ai @Ej<|ai @Iy<|ai @EG<|ai @EI<|ai @AE<|ai @Oz<|ai @OH<|ai @Tw<|ai @TC<|ai @D4<|ai @Ah<|ai @D5<|ai @Ai<|ai @Lg<|ai @Lm<|ai @Lf<|ai @Ll<|ai @Ca<|ai @Cd<|ai @Gf<|ai @Gn<|ai @Lh<|ai @Lo<|ai @Ld<|@Lj):=⟨@IT,@BK,@HZ,@Og,@Of,@HX,@El,@HY,@bc,@aX,@sa,@bj,@vd,@Ar,@Eo,@HW,@Iw,@ED,@Od,@HU,@Ei,@Ix,@EE,@EF,@AD,@Oe,@HV,@Ej,@Iy,@EG,@EI,@AE,@Oz,@OH,@Tw,@TC,@D4,@Ah,@D5,@Ai,@Lg,@Lm,@Lf,@Ll,@Ca,@Cd,@Gf,@Gn,@Lh,@Lo,@Ld,@Lj⟩
theorem vm2:type_of% (ai @Gl<|ai @Gu<|ai @wS<|ai @wV<|ai @uY<|ai @u5<|ai @Gh<|ai @Gq<|ai @uZ<|ai @u6<|ai @Gi<|ai @Gr<|ai @Gj<|ai @Gs<|ai @Gg<|ai @Gp<|ai @sL<|ai @sM<|ai @u3<|ai @u7<|ai @Ge<|ai @Gm<|ai @Sj<|ai @Sk<|ai @zw<|ai @zB<|ai @zx<|ai @zC<|ai @Lc<|ai @Li<|ai @zu<|ai @zA<|ai @NL<|ai @NX<|ai @FN<|ai @zi<|ai @Gb<|ai @LQ<|ai @Cm<|ai @Cl<|ai @C5<|ai @C4<|ai @cJ<|ai @zR<|ai @cG<|ai @rB<|ai @TW<|ai @Kq<|ai @FE<|ai @FD<|ai @Hy<|@GU):=⟨@Gl,@Gu,@wS,@wV,@uY,@u5,@Gh,@Gq,@uZ,@u6,@Gi,@Gr,@Gj,@Gs,@Gg,@Gp,@sL,@sM,@u3,@u7,@Ge,@Gm,@Sj,@Sk,@zw,@zB,@zx,@zC,@Lc,@Li,@zu,@zA,@NL,@NX,@FN,@zi,@Gb,@LQ,@Cm,@Cl,@C5,@C4,@cJ,@zR,@cG,@rB,@TW,@Kq,@FE,@FD,@Hy,@GU⟩
theorem vm3:type_of% (ai @GV<|ai @Aw<|ai @EC<|ai @EB<|ai @AB<|ai @tE<|ai @sc<|ai @Ay<|ai @sd<|ai @Az<|ai @se<|ai @Av<|ai @Iv<|ai @vg<|ai @vk<|ai @Ax<|ai @qA<|ai @AA<|ai @EA<|ai @vf<|ai @xM<|ai @S6<|ai @Nu<|ai @HP<|ai @HO<|ai @He<|ai @RR<|ai @Kr<|ai @RW<|ai @Wd<|ai @RV<|ai @Wa<|ai @RO<|ai @RX<|ai @V9<|ai @A7<|ai @RY<|ai @RQ<|ai @FH<|ai @BG<|ai @RU<|ai @FI<|ai @F4<|ai @B0<|ai @F6<|ai @KL<|ai @BX<|ai @zq<|ai @BZ<|ai @F3<|ai @BW<|@KW):=⟨@GV,@Aw,@EC,@EB,@AB,@tE,@sc,@Ay,@sd,@Az,@se,@Av,@Iv,@vg,@vk,@Ax,@qA,@AA,@EA,@vf,@xM,@S6,@Nu,@HP,@HO,@He,@RR,@Kr,@RW,@Wd,@RV,@Wa,@RO,@RX,@V9,@A7,@RY,@RQ,@FH,@BG,@RU,@FI,@F4,@B0,@F6,@KL,@BX,@zq,@BZ,@F3,@BW,@KW⟩
theorem vm4:type_of% (ai @K2<|ai @KS<|ai @F8<|ai @KV<|ai @Sf<|ai @KO<|ai @Sd<|ai @Sc<|ai @KQ<|ai @KU<|ai @WD<|ai @Sh<|ai @WE<|ai @aaR<|ai @WB<|ai @WC<|ai @La<|ai @GQ<|ai @SD<|ai @R6<|ai @FY<|ai @FQ<|ai @BS<|ai @G3<|ai @CN<|ai @LY<|ai @SE<|ai @LZ<|ai @F9<|ai @B1<|ai @Ky<|ai @Ob<|ai @HS<|ai @Oa<|ai @HQ<|ai @N8<|ai @HR<|ai @CC<|ai @GC<|ai @BT<|ai @yf<|ai @CD<|ai @CF<|ai @Xb<|ai @Sp<|ai @W5<|ai @Lx<|ai @Ed<|ai @Ee<|ai @R0<|ai @xb<|@bh):=⟨@K2,@KS,@F8,@KV,@Sf,@KO,@Sd,@Sc,@KQ,@KU,@WD,@Sh,@WE,@aaR,@WB,@WC,@La,@GQ,@SD,@R6,@FY,@FQ,@BS,@G3,@CN,@LY,@SE,@LZ,@F9,@B1,@Ky,@Ob,@HS,@Oa,@HQ,@N8,@HR,@CC,@GC,@BT,@yf,@CD,@CF,@Xb,@Sp,@W5,@Lx,@Ed,@Ee,@R0,@xb,@bh⟩
theorem vmk:type_of% (And.intro (@OR)<|@OT):=⟨@OR,@OT⟩
theorem vmc:type_of% (ai @true_and<|ai @and_true<|ai @agd<|ai @afJ<|ai @agu<|ai @ahB<|ai @ag7<|ai @ahC<|ai @ahE<|ai @af3<|ai @af4<|ai @List.contains_nil.{0}<|ai @ahq<|ai @ahA<|ai @ahz<|ai @af2<|ai @agN<|ai @decide_true<|ai @decide_false<|ai @beq_self_eq_true.{0}<|ai @List.isEmpty_nil.{0}<|ai @List.isEmpty_cons.{0}<|ai @Option.map_none.{0,0}<|ai @afL<|ai @agJ<|ai @List.all_nil.{0}<|ai @Option.isSome_some.{0}<|ai @Bool.and_true<|ai @ag9<|ai @ahF<|ai @Bool.and_self<|ai @ag8<|ai @ahG<|ai @and_self<|ai @agt<|ai @agc<|ai @ahx<|ai @agq<|ai @afE<|ai @afD<|ai @afM<|ai @Nat.le_zero_eq<|ai @ahH<|ai @Bool.or_self<|ai @Bool.or_true<|ai @Bool.true_or<|ai @Bool.or_false<|ai @agI<|@ahI):=⟨@true_and,@and_true,@agd,@afJ,@agu,@ahB,@ag7,@ahC,@ahE,@af3,@af4,@List.contains_nil.{0},@ahq,@ahA,@ahz,@af2,@agN,@decide_true,@decide_false,@beq_self_eq_true.{0},@List.isEmpty_nil.{0},@List.isEmpty_cons.{0},@Option.map_none.{0,0},@afL,@agJ,@List.all_nil.{0},@Option.isSome_some.{0},@Bool.and_true,@ag9,@ahF,@Bool.and_self,@ag8,@ahG,@and_self,@agt,@agc,@ahx,@agq,@afE,@afD,@afM,@Nat.le_zero_eq,@ahH,@Bool.or_self,@Bool.or_true,@Bool.true_or,@Bool.or_false,@agI,@ahI⟩
theorem vm5:type_of% (ai @En<|ai @Em<|ai @aaO<|ai @FJ<|ai @BH<|ai @RJ<|ai @Kl<|ai @RL<|ai @VU<|ai @RH<|ai @RI<|ai @KY<|ai @SC<|ai @Hu<|ai @MF<|ai @Da<|@MG):=⟨@En,@Em,@aaO,@FJ,@BH,@RJ,@Kl,@RL,@VU,@RH,@RI,@KY,@SC,@Hu,@MF,@Da,@MG⟩
theorem vmu:type_of% (ai @vZ.eq_1<|ai @vZ.eq_2<|ai @ev.eq_1<|ai @ev.eq_2<|ai @ev.eq_3<|ai @ev.eq_4<|ai @lB.eq_1<|ai @lB.eq_2<|ai @lB.eq_3<|ai @lB.eq_4<|ai @lB.eq_5<|ai @lB.eq_6<|ai @eF.eq_1<|ai @eF.eq_2<|ai @yb.eq_1<|ai @yb.eq_2<|ai @yb.eq_3<|ai @ki.eq_1<|ai @ki.eq_2<|ai @ki.eq_3<|ai @fM.eq_1<|ai @fM.eq_2<|ai @fM.eq_3<|ai @fM.eq_4<|ai @fM.eq_5<|ai @fM.eq_6<|ai @fM.eq_7<|ai @fM.eq_8<|ai @fM.eq_9<|ai @fM.eq_10<|ai @fM.eq_11<|ai @fM.eq_12<|ai @fM.eq_13<|ai @fM.eq_14<|ai @fM.eq_15<|ai @fM.eq_16<|ai @Ft.eq_1<|ai @Ft.eq_2<|ai @Ft.eq_3<|ai @Ft.eq_4<|ai @Ft.eq_5<|ai @Ft.eq_6<|ai @Z9.eq_1<|ai @aK.eq_1<|ai @aK.eq_2<|ai @dU.eq_1<|ai @dU.eq_2<|ai @dU.eq_3<|ai @dI.eq_1<|ai @dI.eq_2<|ai @dI.eq_3<|ai @live.eq_1<|ai @jb.eq_1<|ai @jb.eq_2<|ai @Ds.nM.eq_1<|ai @Ds.nM.eq_2<|ai @Ds.nM.eq_3<|ai @cr.eq_1<|ai @cr.eq_2<|ai @cr.eq_3<|ai @cr.eq_4<|ai @cr.eq_5<|ai @cr.eq_6<|ai @gp.eq_1<|ai @gp.eq_2<|ai @gp.eq_3<|ai @gp.eq_4<|ai @gp.eq_5<|ai @gp.eq_6<|ai @oI.eq_1<|ai @oI.eq_2<|ai @xj.eq_1<|ai @xj.eq_2<|ai @xj.eq_3<|ai @xj.eq_4<|ai @alive.eq_1<|ai @alive.eq_2<|ai @alive.eq_3<|ai @nm.eq_1<|ai @nm.eq_2<|ai @gx.eq_1<|ai @gx.eq_2<|ai @gx.eq_3<|ai @gx.eq_4<|ai @gx.eq_5<|ai @gx.eq_6<|ai @cX.eq_1<|ai @cX.eq_2<|ai @pE.eq_1<|ai @iX.eq_1<|ai @iX.eq_2<|ai @iX.eq_3<|ai @kZ.eq_1<|ai @kZ.eq_2<|ai @HJ.eq_1<|ai @bK.eq_1<|ai @bK.eq_2<|ai @bK.eq_3<|ai @bK.eq_4<|ai @gi.eq_1<|ai @gi.eq_2<|ai @gi.eq_3<|ai @cN.eq_1<|ai @cN.eq_2<|ai @cN.eq_3<|ai @cN.eq_4<|ai @cN.eq_5<|ai @cN.eq_6<|ai @eZ.eq_1<|ai @ij.eq_1<|ai @ij.eq_2<|ai @fieldAt.eq_1<|ai @dT.eq_1<|ai @pt.eq_1<|ai @iE.eq_1<|ai @content.eq_1<|ai @content.eq_2<|ai @content.eq_3<|ai @putCells.eq_1<|ai @Vx.eq_1<|ai @Vx.eq_2<|ai @Vx.eq_3<|ai @Vx.eq_4<|ai @O9.eq_1<|ai @O9.eq_2<|ai @O9.eq_3<|ai @O9.eq_4<|ai @Sw.eq_1<|ai @Sw.eq_2<|ai @Sw.eq_3<|ai @e9.eq_1<|ai @e9.eq_2<|ai @e9.eq_3<|ai @kindOk.eq_1<|ai @kindOk.eq_2<|ai @kindOk.eq_3<|ai @kindOk.eq_4<|ai @j8.eq_1<|ai @j8.eq_2<|ai @j8.eq_3<|ai @j8.eq_4<|ai @mW.eq_1<|ai @mW.eq_2<|ai @mW.eq_3<|ai @mW.eq_4<|ai @mW.eq_5<|ai @mW.eq_6<|ai @mW.eq_7<|ai @mW.eq_8<|ai @rO.eq_1<|ai @rO.eq_2<|ai @rO.eq_3<|ai @aW.eq_1<|ai @aW.eq_2<|ai @aW.eq_3<|ai @aW.eq_4<|ai @aW.eq_5<|ai @aW.eq_6<|ai @aW.eq_7<|ai @mR.eq_1<|ai @mR.eq_2<|ai @sw.eq_1<|ai @sw.eq_2<|ai @sw.eq_3<|@sw.eq_4):=⟨@vZ.eq_1,@vZ.eq_2,@ev.eq_1,@ev.eq_2,@ev.eq_3,@ev.eq_4,@lB.eq_1,@lB.eq_2,@lB.eq_3,@lB.eq_4,@lB.eq_5,@lB.eq_6,@eF.eq_1,@eF.eq_2,@yb.eq_1,@yb.eq_2,@yb.eq_3,@ki.eq_1,@ki.eq_2,@ki.eq_3,@fM.eq_1,@fM.eq_2,@fM.eq_3,@fM.eq_4,@fM.eq_5,@fM.eq_6,@fM.eq_7,@fM.eq_8,@fM.eq_9,@fM.eq_10,@fM.eq_11,@fM.eq_12,@fM.eq_13,@fM.eq_14,@fM.eq_15,@fM.eq_16,@Ft.eq_1,@Ft.eq_2,@Ft.eq_3,@Ft.eq_4,@Ft.eq_5,@Ft.eq_6,@Z9.eq_1,@aK.eq_1,@aK.eq_2,@dU.eq_1,@dU.eq_2,@dU.eq_3,@dI.eq_1,@dI.eq_2,@dI.eq_3,@live.eq_1,@jb.eq_1,@jb.eq_2,@Ds.nM.eq_1,@Ds.nM.eq_2,@Ds.nM.eq_3,@cr.eq_1,@cr.eq_2,@cr.eq_3,@cr.eq_4,@cr.eq_5,@cr.eq_6,@gp.eq_1,@gp.eq_2,@gp.eq_3,@gp.eq_4,@gp.eq_5,@gp.eq_6,@oI.eq_1,@oI.eq_2,@xj.eq_1,@xj.eq_2,@xj.eq_3,@xj.eq_4,@alive.eq_1,@alive.eq_2,@alive.eq_3,@nm.eq_1,@nm.eq_2,@gx.eq_1,@gx.eq_2,@gx.eq_3,@gx.eq_4,@gx.eq_5,@gx.eq_6,@cX.eq_1,@cX.eq_2,@pE.eq_1,@iX.eq_1,@iX.eq_2,@iX.eq_3,@kZ.eq_1,@kZ.eq_2,@HJ.eq_1,@bK.eq_1,@bK.eq_2,@bK.eq_3,@bK.eq_4,@gi.eq_1,@gi.eq_2,@gi.eq_3,@cN.eq_1,@cN.eq_2,@cN.eq_3,@cN.eq_4,@cN.eq_5,@cN.eq_6,@eZ.eq_1,@ij.eq_1,@ij.eq_2,@fieldAt.eq_1,@dT.eq_1,@pt.eq_1,@iE.eq_1,@content.eq_1,@content.eq_2,@content.eq_3,@putCells.eq_1,@Vx.eq_1,@Vx.eq_2,@Vx.eq_3,@Vx.eq_4,@O9.eq_1,@O9.eq_2,@O9.eq_3,@O9.eq_4,@Sw.eq_1,@Sw.eq_2,@Sw.eq_3,@e9.eq_1,@e9.eq_2,@e9.eq_3,@kindOk.eq_1,@kindOk.eq_2,@kindOk.eq_3,@kindOk.eq_4,@j8.eq_1,@j8.eq_2,@j8.eq_3,@j8.eq_4,@mW.eq_1,@mW.eq_2,@mW.eq_3,@mW.eq_4,@mW.eq_5,@mW.eq_6,@mW.eq_7,@mW.eq_8,@rO.eq_1,@rO.eq_2,@rO.eq_3,@aW.eq_1,@aW.eq_2,@aW.eq_3,@aW.eq_4,@aW.eq_5,@aW.eq_6,@aW.eq_7,@mR.eq_1,@mR.eq_2,@sw.eq_1,@sw.eq_2,@sw.eq_3,@sw.eq_4⟩
theorem aeh:type_of% (ai @FW<|ai @FR<|ai @FT<|ai @Sz<|ai @MC<|ai @Mp<|ai @Mw<|ai @Hq<|ai @Mj<|ai @Mk<|ai @C3<|ai @Mn<|ai @Mm<|ai @G4<|ai @MX<|ai @Nb<|ai @R3<|ai @BM<|ai @BN<|ai @FX<|ai @SA<|ai @MD<|ai @Mq<|ai @Hr<|ai @Mx<|ai @C9<|ai @MA<|ai @Mz<|ai @G7<|ai @R4<|@BO):=⟨@FW,@FR,@FT,@Sz,@MC,@Mp,@Mw,@Hq,@Mj,@Mk,@C3,@Mn,@Mm,@G4,@MX,@Nb,@R3,@BM,@BN,@FX,@SA,@MD,@Mq,@Hr,@Mx,@C9,@MA,@Mz,@G7,@R4,@BO⟩
section
variable {T:Nat->Option Ty} {Γ:Env} {N F e:Nat} {Q Q':Kt} {t:Nat->D} {h:Nat->Option Row}
theorem ie (hm:∀x t h e,Q x t h e->Q' x t h e):∀(ws:List W) (x:Ex) (t:Nat->D) (h:Nat->Option Row) (e:Nat),cW T Γ N F ws Q x t h e->cW T Γ N F ws Q' x t h e
 | [],x,t,h,e,hk=>hm _ _ _ _ hk
 | .code c::ws,x,t,h,e,hk=>by
  unfold cW at hk ⊢;cases x with
  | normal=>exact Vt c t h e _ _ hk (fun x t h e U=>ie hm ws x t h e U)
  | exit n=>exact ie hm ws _ t h e hk
  | ret=>exact ie hm ws _ t h e hk
 | .blk id::ws,x,t,h,e,hk=>by
  unfold cW Wg at hk ⊢;cases x with
  | normal=>exact ie hm ws _ t h e hk
  | exit n =>
   simp only at hk ⊢;split at hk
   ·rename_i O;rw[if_pos O];exact ie hm ws _ t h e hk
   ·rename_i O;rw[if_neg O];exact ie hm ws _ t h e hk
  | ret=>exact ie hm ws _ t h e hk
theorem oV:∀(ws:List W) (k:Nat),cW T Γ N F ws Q=cW T Γ N F (ws.take k) (cW T Γ N F (ws.drop k) Q)
 | ws,0=>by simp[cW]
 | [],k+1=>by simp[cW]
 | .code c::ws,k+1=>by
  rw[ahC,ahB];funext x t h e;unfold cW;rw[oV ws k]
 | .blk id::ws,k+1=>by
  rw[ahC,ahB];funext x t h e;unfold cW;rw[oV ws k]
variable {σ:Type} {ops l:List Oper} {ws:List W} {dst:Option Nat} {fs:List jP} {d:D} {g:Nat}
theorem rS {J:σ->(Nat->D)->(Nat->Option Row)->Nat->Prop} {P:σ->Prop} {R:Kt} (O:∀s t h e,J s t h e->P s->R .normal t h e):∀x t h e,CK J P R x t h e->R x t h e:=by
 intro x t h e U;cases x with
 | normal=>obtain⟨s,h1,h2⟩:=U;exact O s t h e h2 h1
 | exit n=>exact U
 | ret=>exact U
theorem uD (hm:∀x t h e,Q x t h e->Q' x t h e) (hk:jV T Γ N F ops l ws Q t h e):jV T Γ N F ops l ws Q' t h e:=uF (fun t h O=>ie hm ws _ _ _ _ O) _ _ _ hk
theorem uE (hm:∀x t h e,Q x t h e->Q' x t h e) (hk:kC T Γ N F ops l ws Q t h e fs):kC T Γ N F ops l ws Q' t h e fs:=uC (fun t h fs O=>⟨O.1,ie hm ws _ _ _ _ O.2⟩) _ _ _ _ hk
theorem rL (k:Nat):jV T Γ N F ops l ws Q t h e=jV T Γ N F ops l (ws.take k) (cW T Γ N F (ws.drop k) Q) t h e:=by unfold jV;rw[oV ws k]
theorem rM (k:Nat):kC T Γ N F ops l ws Q t h e fs=kC T Γ N F ops l (ws.take k) (cW T Γ N F (ws.drop k) Q) t h e fs:=by unfold kC;rw[oV ws k]
theorem Gk (k:Nat) {o:Oper} : nU T Γ N F o ops l ws Q t h e=nU T Γ N F o ops l (ws.take k) (cW T Γ N F (ws.drop k) Q) t h e:=by
 unfold nU;congr 1;funext t E;rw[rL k]
theorem Gt (k:Nat) {o:Oper} : nV T Γ N F o ops l ws Q t h e fs=nV T Γ N F o ops l (ws.take k) (cW T Γ N F (ws.drop k) Q) t h e fs:=by
 unfold nV;congr 1;funext t E;rw[rM k]
theorem Le {o:Oper} (hm:∀x t h e,Q x t h e->Q' x t h e) (hk:nU T Γ N F o ops l ws Q t h e):nU T Γ N F o ops l ws Q' t h e:=xT hk fun _ _ O=>uD hm O
theorem Lk {o:Oper} (hm:∀x t h e,Q x t h e->Q' x t h e) (hk:nV T Γ N F o ops l ws Q t h e fs):nV T Γ N F o ops l ws Q' t h e fs:=xT hk fun _ _ O=>uE hm O
variable (k:Nat) (J:σ->(Nat->D)->(Nat->Option Row)->Nat->Prop) (P:σ->Prop)
theorem j9 {x y:Code} (O:∀s t h e,J s t h e->P s->cW T Γ N F (ws.drop k) Q .normal t h e) (X:J2 T Γ N F d g x y (ws.take k) (CK J P (cW T Γ N F (ws.drop k) Q)) t h e):J2 T Γ N F d g x y ws Q t h e:=by
 unfold J2 at X ⊢;have Y:∀c:Code,cW T Γ N F (.code c::ws) Q=cW T Γ N F (.code c::ws.take k) (cW T Γ N F (ws.drop k) Q):=fun c=>oV (.code c::ws) (k+1);rw[Y,Y];exact xR X (fun _ U=>ie (rS O) _ _ _ _ _ U) (fun _ U=>ie (rS O) _ _ _ _ _ U)
theorem bz {want:Bool} {o:Oper} (O:∀s t h e,J s t h e->P s->cW T Γ N F (ws.drop k) Q .normal t h e) (X:uV T Γ N F d g want o ops l (ws.take k) (CK J P (cW T Γ N F (ws.drop k) Q)) t h e):uV T Γ N F d g want o ops l ws Q t h e:=by
 unfold uV at X ⊢;refine EP X (fun t U =>?_) (fun t U =>?_) (fun t U =>?_)
 ·cases want
  ·simp only[agd,if_false]at U ⊢;rw[rL k];exact uD (rS O) U
  ·simp only[if_true]at U ⊢;rw[Gk k];exact Le (rS O) U
 ·cases want
  ·simp only[agd,if_false]at U ⊢;rw[Gk k];exact Le (rS O) U
  ·simp only[if_true]at U ⊢;rw[rL k];exact uD (rS O) U
 ·rw[rL k];exact uD (rS O) U
theorem OS {want:Bool} {o:Oper} (O:∀s t h e,J s t h e->P s->cW T Γ N F (ws.drop k) Q .normal t h e) (X:uW T Γ N F d g want o ops l (ws.take k) (CK J P (cW T Γ N F (ws.drop k) Q)) t h e fs):uW T Γ N F d g want o ops l ws Q t h e fs:=by
 unfold uW at X ⊢;refine EP X (fun t U =>?_) (fun t U =>?_) (fun t U =>?_)
 ·cases want
  ·simp only[agd,if_false]at U ⊢;rw[rM k];exact uE (rS O) U
  ·simp only[if_true]at U ⊢;rw[Gt k];exact Lk (rS O) U
 ·cases want
  ·simp only[agd,if_false]at U ⊢;rw[Gt k];exact Lk (rS O) U
  ·simp only[if_true]at U ⊢;rw[rM k];exact uE (rS O) U
 ·rw[rM k];exact uE (rS O) U
end
def Z4 {α β γ:Type} (ty:Nat) (E:iM γ) (A:iU α) (F:List γ->α->Option (List γ×β)) (R:β->RK):Option (D×Row)->List D->Option (RK×Option Row):=fun lent ds =>
 match lent with
 | some (.buf 0 0 s o n,⟨0,ty',cells,false,true,false⟩)=>open Classical in
  if h:ty'=ty∧s=E.size∧∃p:List D×List γ×List D×α,cells=p.1++(ab E p.2.1++p.2.2.1)∧o=p.1.length∧n=p.2.1.length∧ds=A.ds p.2.2.2 then
   (F (Classical.choose h.2.2).2.1 (Classical.choose h.2.2).2.2.2).map fun r=>(R r.2,some ⟨0,ty,(Classical.choose h.2.2).1++(ab E r.1++(Classical.choose h.2.2).2.2.1),false,true,false⟩)
  else none
 | _=>none
theorem TZ {γ:Type} {E:iM γ} {p O q U:List D} {l l':List γ} (h:p++(ab E l++q)=O++(ab E l'++U)) (X:p.length=O.length) (Y:l.length=l'.length):p=O∧l=l'∧q=U:=by
 obtain⟨h1,h2⟩:=List.append_inj h X;obtain⟨h3,h4⟩:=List.append_inj h2 (by rw[bM,bM,Y]);exact⟨h1,sV E _ _ h3,h4⟩
theorem XK {α β γ:Type} (ty:Nat) (E:iM γ) (A:iU α) (F:List γ->α->Option (List γ×β)) (R:β->RK) (pre post:List D) (l:List γ) (a:α) :
  Z4 ty E A F R (some (.buf 0 0 E.size pre.length l.length,⟨0,ty,pre++(ab E l++post),false,true,false⟩)) (A.ds a)=(F l a).map fun r=>(R r.2,some ⟨0,ty,pre++(ab E r.1++post),false,true,false⟩):=by
 have h:ty=ty∧E.size=E.size∧∃p:List D×List γ×List D×α,pre++(ab E l++post)=p.1++(ab E p.2.1++p.2.2.1)∧pre.length=p.1.length∧l.length=p.2.1.length∧A.ds a=A.ds p.2.2.2:=⟨rfl,rfl,(pre,l,post,a),rfl,rfl,rfl,rfl⟩;simp only[Z4];rw[dif_pos h];obtain⟨h1,h2,h3,h4⟩:=Classical.choose_spec h.2.2;obtain⟨O,U,X⟩:=TZ h1 h2 h3;rw[<- A.inj _ _ h4,<- O,<- U,<- X]
theorem No {α β γ:Type} {ty:Nat} {E:iM γ} {A:iU α} {F:List γ->α->Option (List γ×β)} {R:β->RK} {lent:Option (D×Row)} {ds:List D} {rk:RK} {out:Option Row} (h:Z4 ty E A F R lent ds=some (rk,out)) :
  ∃pre l post a l' r,lent=some (.buf 0 0 E.size pre.length l.length,⟨0,ty,pre++(ab E l++post),false,true,false⟩)∧ds=A.ds a∧F l a=some (l',r)∧rk=R r∧out=some ⟨0,ty,pre++(ab E l'++post),false,true,false⟩:=by
 unfold Z4 at h;split at h
 ·split at h
  ·rename_i he;obtain⟨rfl,rfl,he⟩:=he;rw[afB]at h;obtain⟨⟨l',r⟩,h1,h2⟩:=h;simp only[Prod.mk.injEq]at h2;obtain⟨rfl,rfl⟩:=h2;obtain⟨g1,g2,g3,g4⟩:=Classical.choose_spec he;refine⟨_,_,_,_,l',r,?_,g4,h1,rfl,rfl⟩;rw[<- g1,<- g2,<- g3]
  ·cases h
 ·cases h
theorem bT.ac2 {P:Program} {T:Nat->Option Ty} {Γ:Env} (X:gW P T) (Y:bF P Γ) (hm:P.follows .mixedOrders=true) {α β γ:Type} {ty:Nat} {E:iM γ} {A:iU α} {F:List γ->α->Option (List γ×β)} {R:β->RK} {mode:Mode} {f:FuncId} {fn:Func} (U:P.funcs[f]? = some fn) (O:(match fn.body with|some c=>codeOk c|none=>true)=true)
  (Z:(fn.name == "runtime.NumGoroutine")=false∧fn.body.isNone=false) (hn:∀a,(A.ds a).length+1<=fn.ntmps)
  (h:∀pre post l a l' r,F l a=some (l',r)->jO mode T Γ FU fn (some (.buf 0 0 E.size pre.length l.length,⟨0,ty,pre++(ab E l++post),false,true,false⟩)) (A.ds a)=some (R r,some ⟨0,ty,pre++(ab E l'++post),false,true,false⟩)):bT P f (Z4 ty E A F R) where
 calls lent afy rk out hg:=by
  obtain⟨pre,l,post,a,l',r,rfl,rfl,hr,rfl,rfl⟩:=No hg;exact jm X Y hm U O (hn a) rfl (h pre post l a l' r hr)
 callable:=⟨fn,U,Z⟩
def mkE {α γ:Type} (ty:Nat) (E:iM γ) (A:iU α) (F:List γ->α->Option (List γ)):Option (D×Row)->List D->Option (RK×Option Row):=fun lent ds =>
 match lent with
 | some (.buf 0 0 s o n,⟨0,ty',cells,false,true,false⟩)=>open Classical in
  if h:ty'=ty∧s=E.size∧∃p:List D×List γ×List D×α,cells=p.1++(ab E p.2.1++p.2.2.1)∧o=p.1.length∧n=p.2.1.length∧ds=A.ds p.2.2.2 then
   (F (Classical.choose h.2.2).2.1 (Classical.choose h.2.2).2.2.2).map fun r=>(.fresh ty E.size r.length (ab E r),none)
  else none
 | _=>none
theorem ab2 {α γ:Type} (ty:Nat) (E:iM γ) (A:iU α) (F:List γ->α->Option (List γ)) (pre post:List D) (l:List γ) (a:α) :
  mkE ty E A F (some (.buf 0 0 E.size pre.length l.length,⟨0,ty,pre++(ab E l++post),false,true,false⟩)) (A.ds a)=(F l a).map fun r=>(.fresh ty E.size r.length (ab E r),none):=by
 have h:ty=ty∧E.size=E.size∧∃p:List D×List γ×List D×α,pre++(ab E l++post)=p.1++(ab E p.2.1++p.2.2.1)∧pre.length=p.1.length∧l.length=p.2.1.length∧A.ds a=A.ds p.2.2.2:=⟨rfl,rfl,(pre,l,post,a),rfl,rfl,rfl,rfl⟩;simp only[mkE];rw[dif_pos h];obtain⟨h1,h2,h3,h4⟩:=Classical.choose_spec h.2.2;obtain⟨U,O,X⟩:=TZ h1 h2 h3;rw[<- A.inj _ _ h4,<- O]
theorem XH {α γ:Type} {ty:Nat} {E:iM γ} {A:iU α} {F:List γ->α->Option (List γ)} {lent:Option (D×Row)} {ds:List D} {rk:RK} {out:Option Row} (h:mkE ty E A F lent ds=some (rk,out)) :
  ∃pre l post a r,lent=some (.buf 0 0 E.size pre.length l.length,⟨0,ty,pre++(ab E l++post),false,true,false⟩)∧ds=A.ds a∧F l a=some r∧rk=.fresh ty E.size r.length (ab E r)∧out=none:=by
 unfold mkE at h;split at h
 ·split at h
  ·rename_i he;obtain⟨rfl,rfl,he⟩:=he;rw[afB]at h;obtain⟨r,h1,h2⟩:=h;simp only[Prod.mk.injEq]at h2;obtain⟨rfl,rfl⟩:=h2;obtain⟨g1,g2,g3,g4⟩:=Classical.choose_spec he;refine⟨(Classical.choose he).1,(Classical.choose he).2.1,(Classical.choose he).2.2.1,(Classical.choose he).2.2.2,r,?_,g4,h1,rfl,rfl⟩;rw[<- g1,<- g2,<- g3]
  ·cases h
 ·cases h
theorem bT.ac1 {P:Program} {T:Nat->Option Ty} {Γ:Env} (X:gW P T) (Y:bF P Γ) (hm:P.follows .mixedOrders=true) {α γ:Type} {ty:Nat} {E:iM γ} {A:iU α} {F:List γ->α->Option (List γ)} {f:FuncId} {fn:Func} (U:P.funcs[f]? = some fn) (O:(match fn.body with|some c=>codeOk c|none=>true)=true)
  (Z:(fn.name == "runtime.NumGoroutine")=false∧fn.body.isNone=false) (hn:∀a,(A.ds a).length+1<=fn.ntmps)
  (h:∀pre post l a r,F l a=some r->jO (.fresh ty E.size) T Γ FU fn (some (.buf 0 0 E.size pre.length l.length,⟨0,ty,pre++(ab E l++post),false,true,false⟩)) (A.ds a)=some (.fresh ty E.size r.length (ab E r),none)):bT P f (mkE ty E A F) where
 calls lent afy rk out hg:=by
  obtain⟨pre,l,post,a,r,rfl,rfl,hr,rfl,rfl⟩:=XH hg;exact jm X Y hm U O (hn a) rfl (h pre post l a r hr)
 callable:=⟨fn,U,Z⟩
theorem bT.zero {P:Program} {f:FuncId} {fn:Func} (U:P.funcs[f]? = some fn) (X:(fn.name == "runtime.NumGoroutine")=false∧fn.body.isNone=false) {α β:Type} {A:iU α} {F:α->Option β} {R:β->RK} (Y:∀a,F a=none):bT P f (dP A F R) where
 calls lent afy rk out Z:=by
  obtain⟨rfl,rfl,a,r,rfl,O,rfl⟩:=qq Z;rw[Y]at O;cases O
 callable:=⟨fn,U,X⟩
section
variable {h:Nat->Option Row} {Γ:Env} {g e x v d:Nat} {dst:Option Nat} {fr:List Nat} {afy rest:List D} {d0:D} {T:Nat->Option Ty} {rs:List ResultVar}
def FV (h:Nat->Option Row) (e:Nat) (dst:Option Nat) (x v:Nat) (fr:List Nat):Option (RK×Option Row)->Option bB
 | some (.clean c,some O)=>some ⟨c,ik h fr++[(x,some { O with v:=v })]⟩
 | some (.same s o n,some O)=>some ⟨.buf x v s o n,ik h fr++[(x,some { O with v:=v })]⟩
 | some (.fresh ty s n cells,none) =>
  match dst with
  | some d=>if fr.contains d=false then some ⟨.buf d e s 0 n,ik h fr++[(x,none),(d,some ⟨e,ty,cells,false,true,false⟩)]⟩ else none
  | none=>none
 | _=>none
def Wn (Γ:Env) (h:Nat->Option Row) (e:Nat) (dst:Option Nat) (g x v:Nat) (d0:D) (r:Row):Option (List D×List Nat)->Option bB
 | some (afy,fr)=>if fr.contains x=false then FV h e dst x v fr (Γ.sem g (some (d0,r)) afy) else none
 | none=>none
def KA (Γ:Env) (h:Nat->Option Row) (e:Nat) (dst:Option Nat) (g x v:Nat) (d0:D) (rest:List D):Option Row->Option bB
 | some r=>if r.fz=false then Wn Γ h e dst g x v d0 { r with v:=0 } (bq h rest) else none
 | none=>none
theorem KB {s o n:Nat} : AG true Γ h e dst g (.buf x v s o n::rest)=KA Γ h e dst g x v (.buf 0 0 s o n) rest (live h x v):=by
 simp only[AG,if_true,ov,xk];cases live h x v with
 | none=>rfl
 | some r =>
  simp only[KA];cases bq h rest with
  | none=>rfl
  | some p=>rfl
def lvR (v:Nat):Option Row->Option Row
 | some r=>if r.v=v∧r.mp=true∧qp r=true then some r else none
 | none=>none
theorem Nc {v ty:Nat} {ks:List ch} {vs:List D} {fz lst:Bool} (O:ty<900000):lvR v (some ⟨v,ty,[.mpc ks vs],fz,lst,true⟩)=some ⟨v,ty,[.mpc ks vs],fz,lst,true⟩:=by simp[lvR,qp,O]
theorem R5:AG true Γ h e dst g (.mp x v::rest)=KA Γ h e dst g x v (.mp 0 0) rest (lvR v (h x)):=by
 simp only[AG,if_true,ov,xk];have:vX h x v=lvR v (h x):=by unfold vX lvR;cases h x<;>rfl
 rw[this];cases lvR v (h x) with
 | none=>rfl
 | some r =>
  simp only[KA];cases bq h rest with
  | none=>rfl
  | some p=>rfl
theorem wJ {c:D} {v' ty:Nat} {cells:List D} {fz lst:Bool} : FV h e dst x v fr (some (.clean c,some ⟨v',ty,cells,fz,lst,true⟩))=some ⟨c,ik h fr++[(x,some ⟨v,ty,cells,fz,lst,true⟩)]⟩:=aiw
theorem BP {r:Row} : KA Γ h e dst g x v d0 rest (some r)=if r.fz=false then Wn Γ h e dst g x v d0 { r with v:=0 } (bq h rest) else none:=aiw
theorem BQ {r:Row} : Wn Γ h e dst g x v d0 r (some (afy,fr))=if fr.contains x=false then FV h e dst x v fr (Γ.sem g (some (d0,r)) afy) else none:=aiw
theorem zj {c:D} {v' ty:Nat} {cells:List D} {fz lst:Bool} : FV h e dst x v fr (some (.clean c,some ⟨v',ty,cells,fz,lst,false⟩))=some ⟨c,ik h fr++[(x,some ⟨v,ty,cells,fz,lst,false⟩)]⟩:=aiw
theorem BR {s o n v' ty:Nat} {cells:List D} {fz lst:Bool} : FV h e dst x v fr (some (.same s o n,some ⟨v',ty,cells,fz,lst,false⟩))=some ⟨.buf x v s o n,ik h fr++[(x,some ⟨v,ty,cells,fz,lst,false⟩)]⟩:=aiw
theorem zk {s n ty:Nat} {cells:List D} : FV h e (some d) x v fr (some (.fresh ty s n cells,none))=if fr.contains d=false then some ⟨.buf d e s 0 n,ik h fr++[(x,none),(d,some ⟨e,ty,cells,false,true,false⟩)]⟩ else none:=aiw
theorem zQ {ty sz i:Nat} {t:Nat->D} {l:D×Row} : fH (.fresh ty sz) T (some l) [.tmp i] ⟨t,h,e⟩=l8 ty sz h (t i):=aiw
def acS (y v s o:Nat):Option Row->Option Ty->Option (Nat×Nat)->Option bB
 | some _,some φ,some (l,k)=>if φ.size=s∧0<s then some ⟨.buf y v s (o+l*s) (k-l),[]⟩ else none
 | _,_,_=>none
theorem GK {y v s o l k:Nat} {r:Row} {φ:Ty} : acS y v s o (some r) (some φ) (some (l,k))=if φ.size=s∧0<s then some ⟨.buf y v s (o+l*s) (k-l),[]⟩ else none:=aiw
theorem Sy {el b c y v s o n:Nat} {z:List Value} {q:Bool} {O U:Option D} : cN T ⟨.slice el,b,c,z,q⟩ h (.buf y v s o n) O U none=acS y v s o (live h y v) (T el) (sw n O U):=by
 simp only[cN];cases live h y v with
 | none=>rfl
 | some r =>
  simp only;cases T el with
  | none=>rfl
  | some φ =>
   cases sw n O U with
   | none=>rfl
   | some p=>rfl
def abP (ty:Nat):Option (List D×List Nat)->Option Row->Option (RK×Option Row)
 | some (ds,fr),some r=>if r.v=0∧r.fz=false∧r.ty=ty∧r.mp=false∧fr.contains 0=false then some (.clean (kB ds),some r) else none
 | _,_=>none
theorem GF {ty:Nat} {ds:List D} {r:Row} : abP ty (some (ds,fr)) (some r)=if r.v=0∧r.fz=false∧r.ty=ty∧r.mp=false∧fr.contains 0=false then some (.clean (kB ds),some r) else none:=aiw
theorem GG {t:Nat->D} {ty v:Nat} {cells:List D} {fz lst:Bool} : fH .clean T (some (d0,⟨v,ty,cells,fz,lst,false⟩)) rs ⟨t,h,e⟩=abP ty (rJ T ⟨t,h,e⟩ rs) (h 0):=by
 simp only[fH,oH,js,XS,abP];cases rJ T ⟨t,h,e⟩ rs with
 | none=>rfl
 | some p =>
  obtain⟨ds,fr⟩:=p;cases h 0 with
  | none=>rfl
  | some r =>
   simp only
   by_cases h1:r.v=0∧r.fz=false∧r.ty=ty∧r.mp=false
   ·rw[if_pos ⟨h1.1,h1.2.1,h1.2.2.1,h1.2.2.2,rz h1.2.2.2⟩];simp only[agf]
    by_cases h2:fr.contains 0=false
    ·rw[if_pos h2,if_pos ⟨h1.1,h1.2.1,h1.2.2.1,h1.2.2.2,h2⟩]
    ·rw[if_neg h2,if_neg (fun O=>h2 O.2.2.2.2)]
   ·rw[if_neg (fun O=>h1 ⟨O.1,O.2.1,O.2.2.1,O.2.2.2.1⟩),if_neg (fun O=>h1 ⟨O.1,O.2.1,O.2.2.1,O.2.2.2.1⟩)]
def Su (ty:Nat):Option (List D×List Nat)->Option Row->Option (RK×Option Row)
 | some (ds,fr),some r=>if r.v=0∧r.fz=false∧r.ty=ty∧(r.mp=true∧qp r=true)∧fr.contains 0=false then some (.clean (kB ds),some r) else none
 | _,_=>none
theorem CB {ty:Nat} {ds:List D} {ks:List ch} {vs:List D} {lst:Bool} (O:ty<900000):Su ty (some (ds,fr)) (some ⟨0,ty,[.mpc ks vs],false,lst,true⟩)=if fr.contains 0=false then some (.clean (kB ds),some ⟨0,ty,[.mpc ks vs],false,lst,true⟩) else none:=by
 simp[Su,qp,O]
theorem CE {t:Nat->D} {ty v:Nat} {cells:List D} {fz lst:Bool} : fH .clean T (some (d0,⟨v,ty,cells,fz,lst,true⟩)) rs ⟨t,h,e⟩=Su ty (rJ T ⟨t,h,e⟩ rs) (h 0):=by
 simp only[fH,oH,js,XS,Su];cases rJ T ⟨t,h,e⟩ rs with
 | none=>rfl
 | some p =>
  obtain⟨ds,fr⟩:=p;cases h 0 with
  | none=>rfl
  | some r =>
   simp only
   by_cases h1:r.v=0∧r.fz=false∧r.ty=ty∧(r.mp=true∧qp r=true)
   ·rw[if_pos h1];simp only[agf]
    by_cases h2:fr.contains 0=false
    ·rw[if_pos h2,if_pos ⟨h1.1,h1.2.1,h1.2.2.1,h1.2.2.2,h2⟩]
    ·rw[if_neg h2,if_neg (fun O=>h2 O.2.2.2.2)]
   ·rw[if_neg h1,if_neg (fun O=>h1 ⟨O.1,O.2.1,O.2.2.1,O.2.2.2.1⟩)]
def ZS (ty:Nat):D->Option Row->Option (RK×Option Row)
 | .buf 0 0 s o n,some r=>if r.v=0∧r.fz=false∧r.ty=ty∧r.mp=false then some (.same s o n,some r) else none
 | _,_=>none
theorem LJ {ty s o n:Nat} {r:Row} : ZS ty (.buf 0 0 s o n) (some r)=if r.v=0∧r.fz=false∧r.ty=ty∧r.mp=false then some (.same s o n,some r) else none:=aiw
theorem GH {t:Nat->D} {ty v i:Nat} {cells:List D} {fz lst:Bool} : fH .same T (some (d0,⟨v,ty,cells,fz,lst,false⟩)) [.tmp i] ⟨t,h,e⟩=ZS ty (t i) (h 0):=by
 simp only[fH,Ba,js];generalize t i=q;cases q with
 | buf a b s o n =>
  cases h 0 with
  | none=>rcases a with _|a<;>rcases b with _|b<;>rfl
  | some r =>
   simp only;have U:(r.v=0∧r.fz=false∧r.ty=ty∧r.mp=false∧qp r=true)↔(r.v=0∧r.fz=false∧r.ty=ty∧r.mp=false):=⟨fun O=>⟨O.1,O.2.1,O.2.2.1,O.2.2.2.1⟩,fun O=>⟨O.1,O.2.1,O.2.2.1,O.2.2.2,rz O.2.2.2⟩⟩
   by_cases h1:r.v=0∧r.fz=false∧r.ty=ty∧r.mp=false
   ·rcases a with _|a<;>rcases b with _|b<;>simp[ZS,h1,rz h1.2.2.2]
   ·rcases a with _|a<;>rcases b with _|b<;>simp only[ZS,U,h1,if_false]<;>rfl
 | _=>rfl
end
section
variable {α:Type} (E:iM α) {l m u x:List α} {y y':α} {i a b:Int} {pre post:List D}
theorem aax (h:wo l a b=some x):ab E (l.take a.toNat)++(ab E x++ab E (l.drop b.toNat))=ab E l:=by
 unfold wo at h;split at h
 ·rename_i O;cases h;rw[<- iY,<- iY];congr 1;have e:l.drop b.toNat=(l.drop a.toNat).drop (b.toNat-a.toNat):=by rw[ahv];congr 1;omega
  rw[e,ahw,ahw]
 ·cases h
theorem aay (h:wo l a b=some x):(ab E (l.take a.toNat)).length=a.toNat*E.size:=by
 unfold wo at h;split at h
 ·rw[bM,afW,agS (by omega)]
 ·cases h
theorem abw (h:wo l a b=some x):x.length=b.toNat-a.toNat:=by
 unfold wo at h;split at h
 ·cases h;simp;omega
 ·cases h
theorem aaw:ab E (l.take i.toNat)++(ab E u++ab E (l.drop b.toNat))=ab E (l.take i.toNat++(u++l.drop b.toNat)):=by rw[iY,iY]
theorem Xr (h:P.idx l i=some y):(pre++(ab E l++post)).drop (pre.length+i.toNat*E.size)=E.cells y++(ab E (l.drop (i.toNat+1))++post):=by
 rw[<- ahv,List.drop_left,ag2 (by rw[bM];have:=ru E h;omega),Bb E h,ag1]
theorem Xs (h:P.idx l i=some y):pre.length+i.toNat*E.size+E.size<=(pre++(ab E l++post)).length:=by
 have:=ru E h;rw[agP,agP,bM];omega
theorem Mu (h:P.idx l i=some y):(0<=i∧i<l.length)∧(pre++(ab E l++post)).drop (pre.length+i.toNat*E.size)=E.cells y++(ab E (l.drop (i.toNat+1))++post)∧pre.length+i.toNat*E.size+E.size<=(pre++(ab E l++post)).length:=⟨Jq h,Xr E h,Xs E h⟩
theorem N5 (h:P.idx l i=some y):putCells (pre++(ab E l++post)) (pre.length+i.toNat*E.size) (E.cells y')=pre++(ab E (l.set i.toNat y')++post):=by
 have h1:=X7 E (x':=y') h;have X:=ru E h;have Y:=bM E l;unfold putCells at h1 ⊢;rw[<- h1,E.len];have O:(pre++(ab E l++post)).take (pre.length+i.toNat*E.size)=pre++(ab E l).take (i.toNat*E.size):=by
  rw[ag4,ag6 (by omega),ag3,ag5 (by omega)]
 have U:(pre++(ab E l++post)).drop (pre.length+i.toNat*E.size+E.size)=(ab E l).drop (i.toNat*E.size+E.size)++post:=by
  rw[afY,ahs,aht (by omega),ag3,ahq,ag2 (by omega)]
 rw[O,U];simp only[ag1]
theorem Zo (h:wo l a b=some x) (hu:u.length=x.length):(l.take a.toNat++(u++l.drop b.toNat)).length=l.length:=by
 have O:=abw h;unfold wo at h;split at h
 ·simp only[agP,afW,afX];omega
 ·cases h
theorem aan (h:wo l 0 b=some x):pre.length+x.length*E.size<=(pre++(ab E l++post)).length∧((pre++(ab E l++post)).drop pre.length).take (x.length*E.size)=ab E x:=by
 obtain⟨h1,h2,h3,h4,h5⟩:=Es E h;have:=agr E.size h3;refine⟨by rw[agP,agP,bM];omega,?_⟩;rw[List.drop_left,ag5 (by rw[bM];exact this),h5]
end
section
variable {h:Nat->Option Row} {Γ:Env} {e:Nat} {dst:Option Nat}
def caP:Option (D×List Nat)->Option (List D×List Nat)->Option (List D×List Nat)
 | some (d,fr),some (ds,O)=>some (d::ds,fr++O)
 | _,_=>none
theorem Kz {d:D} {ds:List D} {fr O:List Nat} : caP (some (d,fr)) (some (ds,O))=some (d::ds,fr++O):=aiw
theorem KN:dc h []=some ([],[]):=aiw
theorem F7 {d:D} {ds:List D} : dc h (d::ds)=caP (aT h d) (dc h ds):=by
 simp only[dc];cases aT h d with
 | none=>rfl
 | some x=>cases dc h ds<;>rfl
theorem R8 {k:IntKind} {n:Int} : aT h (.int k n)=some (.int k n,[]):=aiw
theorem KM {b:Bool} : aT h (.bool b)=some (.bool b,[]):=aiw
theorem Sb {b:ByteArray} : aT h (.str b)=some (.str b,[]):=aiw
theorem Ww {a b:Bool} {n:Nat} {xs:List D} : aT h (.sl a b n xs)=some (.sl false false n xs,[]):=aiw
theorem R7 {xs:List D} : aT h (.agg xs)=some (.agg (xs.map canon),[]):=aiw
theorem Ws {f:Nat} : aT h (.fn f)=some (.fn f,[]):=aiw
def clC (f k:Nat):Option (List D×List Nat)->Option (D×List Nat)
 | some (O,fr)=>some (.clo f k O,fr)
 | none=>none
theorem KX {f k:Nat} {O:List D} {fr:List Nat} : clC f k (some (O,fr))=some (.clo f k O,fr):=aiw
theorem KR {f k:Nat} {xs:List D} : bL h (.clo f k xs)=clC f k (dc h xs):=by
 simp only[bL];cases dc h xs<;>rfl
theorem KJ {g k:Nat} {caps args:List D} : gY Γ h e dst (.clo g k caps) args=if caps.all iS then AG false Γ h e dst g (caps.take k++(args++caps.drop k)) else none:=by
 simp only[gY,AG,agd,if_false]
theorem Td {k:IntKind} {n:Int} : iS (.int k n)=true:=aiw
theorem NW {b:Bool} : iS (.bool b)=true:=aiw
theorem Tg {b:ByteArray} : iS (.str b)=true:=aiw
theorem XZ {a b:Bool} {n:Nat} {xs:List D} : iS (.sl a b n xs)=true:=aiw
theorem Tc {xs:List D} : iS (.agg xs)=true:=aiw
theorem XV {f:Nat} : iS (.fn f)=true:=aiw
end
theorem Ec:kB []=.tup []:=aiw
def aFn (f:Nat):Arg Unit:=⟨fun _ =>.fn f,fun _ _ _=>rfl⟩
theorem aaK {f:Nat} {x:Unit} : (aFn f).d x=.fn f:=aiw
def IQ {α:Type} (f k:Nat) (a:iU α):Arg α:=⟨fun x =>.clo f k (a.ds x),fun x y h=>a.inj _ _ (by simpa using h)⟩
theorem VS {α:Type} {f k:Nat} {a:iU α} {x:α} : (IQ f k a).d x=.clo f k (a.ds x):=aiw
theorem vm7:type_of% (ai @Kz<|ai @KN<|ai @F7<|ai @R8<|ai @KM<|ai @Sb<|ai @Ww<|ai @R7<|ai @Ws<|ai @KX<|ai @KR<|ai @KJ<|ai @Td<|ai @NW<|ai @Tg<|ai @XZ<|ai @Tc<|ai @XV<|ai @Ec<|ai @wR<|ai @wU<|@A7):=⟨@Kz,@KN,@F7,@R8,@KM,@Sb,@Ww,@R7,@Ws,@KX,@KR,@KJ,@Td,@NW,@Tg,@XZ,@Tc,@XV,@Ec,@wR,@wU,@A7⟩
theorem vm6:type_of% (ai @Oc<|ai @agH<|ai @Sy<|ai @GK<|ai @zk<|ai @zQ<|ai @KB<|ai @R5<|ai @Nc<|ai @wJ<|ai @CB<|ai @CE<|ai @BP<|ai @BQ<|ai @zj<|ai @BR<|ai @GF<|ai @GG<|ai @LJ<|@GH):=⟨@Oc,@agH,@Sy,@GK,@zk,@zQ,@KB,@R5,@Nc,@wJ,@CB,@CE,@BP,@BQ,@zj,@BR,@GF,@GG,@LJ,@GH⟩
section
variable {T:Nat->Option Ty} {h:Nat->Option Row} {τ:Ty} {q:Nat->Bool}
theorem XB {x v o:Nat} : mK τ h (.ptr x v o)=nf τ h x v o (live h x v):=aiw
theorem aa0 {xs:List D} : mK τ h (.ip xs)=dI τ h (.ip xs):=aiw
theorem aaY {x v o v' ty:Nat} {c:List D} {fz:Bool} : nf τ h x v o (some ⟨v',ty,c,fz,true,false⟩)=dI τ h (.ptr x v o):=by
 simp only[nf,ag8,Bool.and_false,agd,if_false]
theorem aaZ {x v o v' ty:Nat} {c:List D} {lst:Bool} : nf τ h x v o (some ⟨v',ty,c,false,lst,false⟩)=dI τ h (.ptr x v o):=by
 simp only[nf,ahF,agd,if_false]
def ldA:Option D->Option bB->Option bB
 | some d,_=>some ⟨d,[]⟩
 | none,E=>E
theorem ML {d:D} {E:Option bB} : ldA (some d) E=some ⟨d,[]⟩:=aiw
theorem MK {E:Option bB} : ldA none E=E:=aiw
theorem aaX {x v o v' ty:Nat} {c:List D} : nf τ h x v o (some ⟨v',ty,c,true,false,false⟩)=if o+τ.size<=c.length then ldA (Pn τ.ds.nM ((c.drop o).take τ.size)) (dI τ h (.ptr x v o)) else none:=by
 simp only[nf,ahG,Bool.and_self,if_true];cases Pn τ.ds.nM ((c.drop o).take τ.size)<;>rfl
theorem V2 {x v s o n:Nat} : Pn true [.ali x v s o n]=some (.box1 x v s o n):=aiw
theorem V1 {x v s o n:Nat} : Pn false [.ali x v s o n]=some (.buf x v s o n):=aiw
theorem TI {p:D} {k:IntKind} {n:Int} : dn τ h p (.int k n)=cX τ h p (.int k n):=aiw
theorem ON {p:D} {b:Bool} : dn τ h p (.bool b)=cX τ h p (.bool b):=aiw
theorem TK {p:D} {b:ByteArray} : dn τ h p (.str b)=cX τ h p (.str b):=aiw
theorem Yu {p:D} {a b:Bool} {n:Nat} {xs:List D} : dn τ h p (.sl a b n xs)=cX τ h p (.sl a b n xs):=aiw
theorem TJ {p:D} {x v o:Nat} : dn τ h p (.ptr x v o)=cX τ h p (.ptr x v o):=aiw
theorem Yr {p:D} {xs:List D} : dn τ h p (.ip xs)=cX τ h p (.ip xs):=aiw
theorem TG {p:D} {x v s o n:Nat} : dn τ h p (.buf x v s o n)=cX τ h p (.buf x v s o n):=aiw
theorem TE {p:D} {xs:List D} : dn τ h p (.agg xs)=cX τ h p (.agg xs):=aiw
theorem Yq {p:D} {f:Nat} : dn τ h p (.fn f)=cX τ h p (.fn f):=aiw
theorem TH {p:D} {f k:Nat} {xs:List D} : dn τ h p (.clo f k xs)=cX τ h p (.clo f k xs):=aiw
theorem TL {p:D}  : dn τ h p (.und)=cX τ h p (.und):=aiw
def adF (τ:Ty) (x o y O s U n:Nat):Option Row->Option bB
 | some r=>if τ.size=1∧o=0∧r.cells.length=1∧r.fz=false∧r.lst=false then some ⟨.und,[(x,some ⟨r.v,r.ty,[.ali y O s U n],true,false,false⟩)]⟩ else none
 | none=>none
theorem Is {x o y O s U n:Nat} {r:Row} : adF τ x o y O s U n (some r)=if τ.size=1∧o=0∧r.cells.length=1∧r.fz=false∧r.lst=false then some ⟨.und,[(x,some ⟨r.v,r.ty,[.ali y O s U n],true,false,false⟩)]⟩ else none:=aiw
theorem TF {x v o y O s U n:Nat} : dn τ h (.ptr x v o) (.box1 y O s U n)=adF τ x o y O s U n (live h x v):=by
 simp only[dn];cases live h x v<;>rfl
def Ku (b:Bool) (T:Nat->Option Ty) (τ:Ty) (h:Nat->Option Row) (O:List (Nat×D)):Option bB :=
 if b then eZ T τ h O else
  match τ.ds,O with
  | .struct fs,[(0,.buf x v s o n)]=>if (alive h (.buf x v s o n))∧(fs.all fun f=>(T f.1).isSome)∧fieldAt T fs 0=some (0,1)∧τ.zero.length=1 then some ⟨.box1 x v s o n,[]⟩ else none
  | .struct fs,[(0,.box1 x v s o n)]=>if (alive h (.buf x v s o n))∧(fs.all fun f=>(T f.1).isSome)∧fieldAt T fs 0=some (0,1)∧τ.zero.length=1 then some ⟨.box1 x v s o n,[]⟩ else none
  | _,_=>cE (eZ T τ h O)
theorem R1 {d:Nat} {O:List (Nat×D)} : ox q T τ h (some d) O=Ku (q d) T τ h O:=aiw
theorem FL:Ku false T τ h []=cE (eZ T τ h []):=by
 unfold Ku;rw[if_neg (by simp)];cases τ.ds<;>rfl
theorem Wj {cs:List D} {hw:List (Nat×Option Row)} : cE (some ⟨.agg cs,hw⟩)=some ⟨.agg (cs.map canon),hw⟩:=aiw
theorem FM {O:List (Nat×D)} : Ku true T τ h O=eZ T τ h O:=aiw
def We (T:Nat->Option Ty) (h:Nat->Option Row) (O x v s o n:Nat):Ds->Option bB
 | .struct fs=>if (alive h (.buf x v s o n))∧(fs.all fun f=>(T f.1).isSome)∧fieldAt T fs 0=some (0,1)∧O=1 then some ⟨.box1 x v s o n,[]⟩ else none
 | _=>none
theorem Wf {O x v s o n:Nat} {fs:List (Nat×Nat)} : We T h O x v s o n (.struct fs)=if (alive h (.buf x v s o n))∧(fs.all fun f=>(T f.1).isSome)∧fieldAt T fs 0=some (0,1)∧O=1 then some ⟨.box1 x v s o n,[]⟩ else none:=aiw
theorem Kv {x v s o n:Nat} : Ku false T τ h [(0,.box1 x v s o n)]=We T h τ.zero.length x v s o n τ.ds:=by
 unfold Ku We eZ;rw[if_neg (by simp)];cases τ.ds<;>rfl
theorem BJ {x v s o n:Nat} : Ku false T τ h [(0,.buf x v s o n)]=We T h τ.zero.length x v s o n τ.ds:=by
 unfold Ku We eZ;rw[if_neg (by simp)];cases τ.ds<;>rfl
def clX:Option (D×List Nat)->Option (D×List Nat)
 | some (d,fr)=>some (.agg [d],fr)
 | none=>none
theorem K4 {d:D} {fr:List Nat} : clX (some (d,fr))=some (.agg [d],fr):=aiw
theorem KP {x v s o n:Nat} : bL h (.box1 x v s o n)=clX (ZK x s o n (live h x v)):=by
 simp only[bL,aT,dA];cases live h x v with
 | none=>rfl
 | some r=>by_cases O:o+n*s<=r.cells.length<;>simp[ZK,clX,O,canon]
theorem XQ {x v s o n:Nat} : nm (.box1 x v s o n)=[x]:=aiw
theorem FC {x v s o n:Nat} : alive h (.buf x v s o n)=(mO h x v).isSome:=aiw
theorem GR {fs:List (Nat×Nat)} {O off:Nat} : fieldAt T ((O,off)::fs) 0=(T O).map fun φ=>(off,φ.size):=by
 simp only[fieldAt,List.getElem?_cons_zero];cases T O<;>rfl
end
theorem vm8:type_of% (ai @XB<|ai @aa0<|ai @aaY<|ai @aaZ<|ai @ML<|ai @MK<|ai @aaX<|ai @V2<|ai @V1<|ai @TI<|ai @ON<|ai @TK<|ai @Yu<|ai @TJ<|ai @Yr<|ai @TG<|ai @TE<|ai @Yq<|ai @TH<|ai @TL<|ai @TF<|ai @Is<|ai @R1<|ai @FM<|ai @Wf<|ai @BJ<|ai @FL<|ai @Kv<|ai @Wj<|ai @K4<|ai @KP<|ai @XQ<|ai @FC<|@GR):=⟨@XB,@aa0,@aaY,@aaZ,@ML,@MK,@aaX,@V2,@V1,@TI,@ON,@TK,@Yu,@TJ,@Yr,@TG,@TE,@Yq,@TH,@TL,@TF,@Is,@R1,@FM,@Wf,@BJ,@FL,@Kv,@Wj,@K4,@KP,@XQ,@FC,@GR⟩
theorem aej:type_of% (ai @VC<|ai @aaB<|ai @H4<|ai @Ts<|ai @Yi<|ai @Yh<|ai @Nt<|ai @Ns<|ai @abq<|ai @G2<|ai @G1<|ai @LV<|ai @Hw<|ai @Dx<|ai @Nv<|ai @S7<|ai @Ti<|ai @Tq<|ai @MW<|ai @XE<|ai @SS<|ai @Hc<|ai @SQ<|ai @MM<|ai @Hd<|ai @MN<|ai @SR<|ai @TA<|ai @Ih<|ai @Ii<|ai @H6<|ai @Ik<|ai @Ig<|ai @OE<|ai @Ij<|ai @OF<|ai @Tz<|ai @OD<|ai @Ip<|ai @N0<|ai @NZ<|ai @SP<|ai @Ha<|ai @Xy<|ai @Xz<|ai @Hb<|ai @Tu<|ai @Ir<|ai @Yo<|ai @Yp<|ai @OK<|ai @OJ<|ai @IE<|ai @IF<|ai @ES<|ai @T4<|ai @T2<|ai @O3<|ai @TU<|ai @Y7<|ai @Tb<|ai @XT<|ai @XU<|ai @Y8<|ai @T3<|ai @T5<|ai @ID<|ai @O7<|ai @OI<|@A8):=⟨@VC,@aaB,@H4,@Ts,@Yi,@Yh,@Nt,@Ns,@abq,@G2,@G1,@LV,@Hw,@Dx,@Nv,@S7,@Ti,@Tq,@MW,@XE,@SS,@Hc,@SQ,@MM,@Hd,@MN,@SR,@TA,@Ih,@Ii,@H6,@Ik,@Ig,@OE,@Ij,@OF,@Tz,@OD,@Ip,@N0,@NZ,@SP,@Ha,@Xy,@Xz,@Hb,@Tu,@Ir,@Yo,@Yp,@OK,@OJ,@IE,@IF,@ES,@T4,@T2,@O3,@TU,@Y7,@Tb,@XT,@XU,@Y8,@T3,@T5,@ID,@O7,@OI,@A8⟩
theorem aek:type_of% (ai @SB<|ai @ME<|ai @Mr<|ai @My<|ai @Ml<|ai @Ht<|ai @NG<|ai @DC<|ai @NI<|ai @NH<|ai @HB<|ai @NF<|ai @ND<|ai @Ia<|ai @Im<|ai @H9<|ai @Il<|ai @Tv<|ai @TB<|ai @Ib<|ai @Io<|ai @Oy<|ai @OG<|ai @Hm<|ai @Hn<|ai @Km<|ai @Kn<|ai @OB<|ai @Ic<|ai @OC<|ai @Ie<|ai @Tx<|ai @OA<|ai @FG<|ai @FF<|@mO.eq_1):=⟨@SB,@ME,@Mr,@My,@Ml,@Ht,@NG,@DC,@NI,@NH,@HB,@NF,@ND,@Ia,@Im,@H9,@Il,@Tv,@TB,@Ib,@Io,@Oy,@OG,@Hm,@Hn,@Km,@Kn,@OB,@Ic,@OC,@Ie,@Tx,@OA,@FG,@FF,@mO.eq_1⟩
theorem ael:type_of% (ai @Xc<|ai @SM<|ai @SJ<|ai @SK<|ai @SG<|ai @S9<|ai @Hs<|ai @Hv<|ai @M3<|ai @M6<|ai @Dj<|ai @M7<|ai @M5<|ai @Hg<|ai @M0<|ai @MZ<|ai @M4<|ai @NB<|ai @Ny<|ai @DB<|ai @NC<|ai @NA<|ai @HA<|ai @Nx<|ai @Nw<|ai @Nz<|ai @F1<|ai @zp<|ai @zn<|ai @zo<|ai @K6<|ai @K7<|ai @W1<|ai @Sm<|ai @W0<|ai @Sl<|ai @Ls<|ai @Lt<|ai @Lu<|ai @KF<|ai @F0<|ai @Ow<|ai @H7<|ai @Ox<|ai @H8<|ai @xd<|ai @cd<|ai @xc<|ai @cc<|ai @Sv<|ai @LI<|ai @Ss<|ai @GD<|@LG):=⟨@Xc,@SM,@SJ,@SK,@SG,@S9,@Hs,@Hv,@M3,@M6,@Dj,@M7,@M5,@Hg,@M0,@MZ,@M4,@NB,@Ny,@DB,@NC,@NA,@HA,@Nx,@Nw,@Nz,@F1,@zp,@zn,@zo,@K6,@K7,@W1,@Sm,@W0,@Sl,@Ls,@Lt,@Lu,@KF,@F0,@Ow,@H7,@Ox,@H8,@xd,@cd,@xc,@cc,@Sv,@LI,@Ss,@GD,@LG⟩
theorem v:type_of% (ai @vmc<|ai @vmk<|ai @vm1<|ai @vm2<|ai @vm3<|ai @vm4<|ai @vm5<|ai @vm6<|ai @vm7<|ai @vm8<|ai @aeh<|ai @aej<|ai @aek<|ai @ael<|ai @vmu<|ai @Option.toList_some.{0}<|@Option.toList_none.{0}):=⟨@vmc,@vmk,@vm1,@vm2,@vm3,@vm4,@vm5,@vm6,@vm7,@vm8,@aeh,@aej,@aek,@ael,@vmu,@Option.toList_some.{0},@Option.toList_none.{0}⟩
class uX (κ:Type) where
 k:κ->ch
 inj:∀x y,k x=k y->x=y
instance:uX Int:=⟨fun n=>(n,none),fun x y h=>by simpa using h⟩
instance:uX (Int×Int):=⟨fun p=>(p.1,some p.2),fun x y h=>by
 obtain⟨a,b⟩:=x;obtain⟨c,d⟩:=y;simpa using h⟩
def dC {κ α:Type} [uX κ]:List (κ×α)->List ch
 | []=>[]
 | (k,_)::m=>uX.k k::dC m
def fu {κ α:Type} (A:Arg α):List (κ×α)->List D
 | []=>[]
 | (_,v)::m=>A.d v::fu A m
theorem Nk {κ α:Type} {A:Arg α} : fu A ([]:List (κ×α))=[]:=aiw
section
variable {κ α:Type} [uX κ] {A:Arg α}
theorem MI (k n:κ):uX.k k=uX.k n↔k=n:=⟨uX.inj _ _,fun h=>by rw[h]⟩
theorem Ni:dC ([]:List (κ×α))=[]:=aiw
theorem Dn [DecidableEq κ] (n:κ):∀m:List (κ×α),(dC m).contains (uX.k n)=kR m n
 | []=>rfl
 | (k,v)::m=>by
  have:=Dn n m;simp only[dC,agH,kR,this];congr 1
  by_cases h:k=n
  ·subst h;rw[beq_self_eq_true,beq_self_eq_true]
  ·rw[beq_eq_false_iff_ne.2 h,beq_eq_false_iff_ne.2 (fun e=>h (uX.inj _ _ e.symm))]
theorem Nh:∀m:List (κ×α),(dC m).length=m.length
 | []=>rfl
 | (k,v)::m=>by simp[dC,Nh m]
theorem Hh [DecidableEq κ] (z:α) (n:κ):∀m:List (κ×α),oO (A.d z) (dC m) (fu A m) (uX.k n)=A.d (ff z m n)
 | []=>rfl
 | (k,v)::m=>by
  simp only[dC,fu,oO,ff,Hh z n m,MI]
  by_cases h:k=n<;>simp[h]
theorem N2 [DecidableEq κ] (n:κ) (v:α):∀m:List (κ×α),we (dC m) (uX.k n)=dC (oT m n v)
 | []=>rfl
 | (k,x)::m=>by
  have O:=N2 n v m;unfold we at O ⊢;simp only[dC,oT,agH]
  by_cases h:k=n
  ·subst h;simp[dC]
  ·have h1:(uX.k n==uX.k k)=false:=by simpa [MI] using Ne.symm h
   rw[h1,agI,if_neg h];simp only[dC];rw[<- O];cases (dC m).contains (uX.k n)<;>rfl
theorem N4 [DecidableEq κ] (n:κ) (v:α):∀m:List (κ×α),AX (dC m) (fu A m) (uX.k n) (A.d v)=fu A (oT m n v)
 | []=>rfl
 | (k,x)::m=>by
  have O:=N4 n v m;unfold AX at O ⊢;simp only[dC,fu,oT,agH]
  by_cases h:k=n
  ·subst h;simp[fu,agG]
  ·have h1:(uX.k n==uX.k k)=false:=by simpa [MI] using Ne.symm h
   have h2:(uX.k k==uX.k n)=false:=by simpa [MI] using h
   rw[h1,agI,if_neg h];simp only[fu,agG,h2,cond_false];rw[<- O];cases (dC m).contains (uX.k n)<;>rfl
theorem map_inj:∀ {m O:List (κ×α)},dC m=dC O->fu A m=fu A O->m=O
 | [],[],_,_=>rfl
 | [],(k,v)::O,h,_=>by simp[dC]at h
 | (k,v)::m,[],h,_=>by simp[dC]at h
 | (k,v)::m,(k',v')::O,h,g=>by
  simp only[dC,af1,MI]at h;simp only[fu,af1]at g;rw[h.1,A.inj _ _ g.1,map_inj h.2 g.2]
end
theorem G8 {α:Type} {n:Int} {m:List (Int×α)} : lf false (n,none) (dC m)=true:=by
 unfold lf;simp only[age];refine⟨rfl,?_⟩
 induction m with
 | nil=>rfl
 | cons p m O=>simp only[dC,List.all_cons,age];exact⟨rfl,O⟩
theorem G9 {α:Type} {a b:Int} {m:List ((Int×Int)×α)} : lf true (a,some b) (dC m)=true:=by
 unfold lf;simp only[age];refine⟨rfl,?_⟩
 induction m with
 | nil=>rfl
 | cons p m O=>simp only[dC,List.all_cons,age];exact⟨rfl,O⟩
def aMp {κ α:Type} [uX κ] (A:Arg α):Arg (List (κ×α)):=⟨fun m =>.mpc (dC m) (fu A m),fun x y h=>by
 simp only[D.mpc.injEq]at h;exact map_inj h.1 h.2⟩
theorem aaL {κ α:Type} [uX κ] (A:Arg α) (m:List (κ×α)):(aMp A).d m=.mpc (dC m) (fu A m):=aiw
def eMp {κ α:Type} [uX κ] (A:Arg α):iM (List (κ×α)):=⟨fun m=>[.mpc (dC m) (fu A m)],1,fun _=>rfl,by decide,fun x y h=>by
 simp only[af1,D.mpc.injEq,and_true]at h;exact map_inj h.1 h.2⟩
theorem Lv {κ α:Type} [uX κ] (A:Arg α):(eMp A:iM (List (κ×α))).size=1:=aiw
def mkM {κ ν α β:Type} [uX κ] (ty:Nat) (V:Arg ν) (A:iU α) (F:List (κ×ν)->α->Option (List (κ×ν)×β)) (R:β->RK):Option (D×Row)->List D->Option (RK×Option Row):=fun lent ds =>
 match lent with
 | some (.mp 0 0,⟨0,ty',[.mpc ks vs],false,true,true⟩)=>open Classical in
  if h:ty'=ty∧∃p:List (κ×ν)×α,ks=dC p.1∧vs=fu V p.1∧ds=A.ds p.2 then
   (F (Classical.choose h.2).1 (Classical.choose h.2).2).map fun r=>(R r.2,some ⟨0,ty,[.mpc (dC r.1) (fu V r.1)],false,true,true⟩)
  else none
 | _=>none
theorem ab3 {κ ν α β:Type} [uX κ] (ty:Nat) (V:Arg ν) (A:iU α) (F:List (κ×ν)->α->Option (List (κ×ν)×β)) (R:β->RK) (l:List (κ×ν)) (a:α) :
  mkM ty V A F R (some (.mp 0 0,⟨0,ty,[.mpc (dC l) (fu V l)],false,true,true⟩)) (A.ds a)=(F l a).map fun r=>(R r.2,some ⟨0,ty,[.mpc (dC r.1) (fu V r.1)],false,true,true⟩):=by
 have h:ty=ty∧∃p:List (κ×ν)×α,dC l=dC p.1∧fu V l=fu V p.1∧A.ds a=A.ds p.2:=⟨rfl,(l,a),rfl,rfl,rfl⟩;simp only[mkM];rw[dif_pos h];obtain⟨h1,h2,h3⟩:=Classical.choose_spec h.2;rw[<- A.inj _ _ h3,<- map_inj h1 h2]
theorem XJ {κ ν α β:Type} [uX κ] {ty:Nat} {V:Arg ν} {A:iU α} {F:List (κ×ν)->α->Option (List (κ×ν)×β)} {R:β->RK} {lent:Option (D×Row)} {ds:List D} {rk:RK} {out:Option Row} (h:mkM ty V A F R lent ds=some (rk,out)) :
  ∃l a l' r,lent=some (.mp 0 0,⟨0,ty,[.mpc (dC l) (fu V l)],false,true,true⟩)∧ds=A.ds a∧F l a=some (l',r)∧rk=R r∧out=some ⟨0,ty,[.mpc (dC l') (fu V l')],false,true,true⟩:=by
 unfold mkM at h;split at h
 ·split at h
  ·rename_i he;obtain⟨rfl,he⟩:=he;rw[afB]at h;obtain⟨⟨l',r⟩,h1,h2⟩:=h;simp only[Prod.mk.injEq]at h2;obtain⟨rfl,rfl⟩:=h2;obtain⟨g1,g2,g3⟩:=Classical.choose_spec he;refine⟨_,_,l',r,?_,g3,h1,rfl,rfl⟩;rw[<- g1,<- g2]
  ·cases h
 ·cases h
theorem bT.XC {P:Program} {T:Nat->Option Ty} {Γ:Env} (X:gW P T) (Y:bF P Γ) (hm:P.follows .mixedOrders=true) {κ ν α β:Type} [uX κ] {ty:Nat} {V:Arg ν} {A:iU α} {F:List (κ×ν)->α->Option (List (κ×ν)×β)} {R:β->RK} {f:FuncId} {fn:Func} (U:P.funcs[f]? = some fn) (O:(match fn.body with|some c=>codeOk c|none=>true)=true)
  (Z:(fn.name == "runtime.NumGoroutine")=false∧fn.body.isNone=false) (hn:∀a,(A.ds a).length+1<=fn.ntmps)
  (h:∀l a l' r,F l a=some (l',r)->jO .clean T Γ FU fn (some (.mp 0 0,⟨0,ty,[.mpc (dC l) (fu V l)],false,true,true⟩)) (A.ds a)=some (R r,some ⟨0,ty,[.mpc (dC l') (fu V l')],false,true,true⟩)):bT P f (mkM ty V A F R) where
 calls lent afy rk out hg:=by
  obtain⟨l,a,l',r,rfl,rfl,hr,rfl,rfl⟩:=XJ hg;exact jm X Y hm U O (hn a) rfl (h l a l' r hr)
 callable:=⟨fn,U,Z⟩
theorem O2 {T:Nat->Option Ty} {Γ:Env} {F:Nat} {mode:Mode} {fn:Func} {c:Code} {n:Nat} {rs:List ResultVar} {d0:D} {ty:Nat} {cells:List D} {fz lst:Bool} {args:List D} {r:RK×Option Row} (X:fn.body=some c) (U:fn.ntmps=n) (Y:fn.results=rs.toArray)
  (hw:cW T Γ n F [.code c] (W9 mode T (some (d0,⟨0,ty,cells,fz,lst,true⟩)) rs r) .normal (EY (d0::args)) (mn ⟨0,ty,cells,fz,lst,true⟩) 1) (O:n<=1000000:=by exact ahr rfl):jO mode T Γ F fn (some (d0,⟨0,ty,cells,fz,lst,true⟩)) args=some r:=by
 refine Rm ?_ (by rw[U];exact O);unfold wpf;rw[X,U,Y];exact hw
def T9 {α:Type} (e:iM α):Arg α:=⟨fun x =>.ip (e.cells x),fun x y h=>e.inj _ _ (by simpa using h)⟩
theorem RG {α:Type} (e:iM α) (x:α):(T9 e).d x=.ip (e.cells x):=aiw
section
variable {T:Nat->Option Ty} {h:Nat->Option Row} {Γ:Env} {e:Nat} {dst:Option Nat}
def lvM (v:Nat):Option Row->Option (List ch×List D)
 | some r=>if r.v=v∧r.mp=true∧r.ty<900000 then (match r.cells with | [.mpc ks vs]=>some (ks,vs)|_=>none) else none
 | none=>none
theorem MV {x v:Nat} : gD h x v=lvM v (h x):=by
 unfold gD lvM;cases h x<;>rfl
theorem Na {v ty:Nat} {ks:List ch} {vs:List D} {fz lst:Bool} (O:ty<900000):lvM v (some ⟨v,ty,[.mpc ks vs],fz,lst,true⟩)=some (ks,vs):=by simp[lvM,O]
def lkK (ks:List ch) (n:ch):Bool:=ks.contains n
theorem SU {α:Type} {m:List (Int×α)} {n:Int} : lkK (dC m) (n,none)=kR m n:=Dn n m
theorem SV {α:Type} {m:List ((Int×Int)×α)} {a b:Int} : lkK (dC m) (a,some b)=kR m (a,b):=Dn (a,b) m
def lkE (b ok:Bool) (z:D) (n:ch):Option (List ch×List D)->Option bB
 | some (ks,vs)=>if lf b n ks=true then some ⟨if ok then .tup [oO z ks vs n,.bool (lkK ks n)] else oO z ks vs n,[]⟩ else none
 | none=>none
theorem abg {b:Bool} {z:D} {n:ch} {ks:List ch} {vs:List D} : lkE b true z n (some (ks,vs))=if lf b n ks=true then some ⟨.tup [oO z ks vs n,.bool (lkK ks n)],[]⟩ else none:=aiw
theorem abf {b:Bool} {z:D} {n:ch} {ks:List ch} {vs:List D} : lkE b false z n (some (ks,vs))=if lf b n ks=true then some ⟨oO z ks vs n,[]⟩ else none:=aiw
def T1 (T:Nat->Option Ty) (τ:Ty) (b:Bool) (d:D):Prop:=∃φ z,Dp T τ=some (b,φ)∧jb φ (φ.zero.map lB)=some z∧(φ.zero.map lB).all aW=true∧fF z=d
theorem ab0 {τ:Ty} {b:Bool} {d:D} (O:T1 T τ b d) {m i:D} {n:ch} {ok:Bool} (U:UD i=some n):fX T τ h m i ok=lkE b ok d n (mapOf h m):=by
 obtain⟨φ,z,h1,h2,h3,rfl⟩:=O;simp only[fX,h1,U,lkE,lkK];cases mapOf h m with
 | none=>rfl
 | some p=>obtain⟨ks,vs⟩:=p;simp only[h2,h3,and_true]
theorem Nj {x v:Nat} : mapOf h (.mp x v)=gD h x v:=aiw
theorem Hj {ks:List ch} {vs:List D} : mapOf h (.mpc ks vs)=some (ks,vs):=aiw
def muR (b:Bool) (h:Nat->Option Row) (y:Nat) (n:ch) (d:D) (fr:List Nat) (ks:List ch) (vs:List D):Option Row->Option bB
 | some r=>if lf b n ks=true∧r.fz=false∧fr.contains y=false then some ⟨.und,ik h fr++[(y,some ⟨r.v,r.ty,[.mpc (we ks n) (AX ks vs n d)],false,true,true⟩)]⟩ else none
 | none=>none
theorem Nr {b:Bool} {y v ty:Nat} {n:ch} {d:D} {fr:List Nat} {ks:List ch} {vs:List D} {cells:List D} {lst mp:Bool} : muR b h y n d fr ks vs (some ⟨v,ty,cells,false,lst,mp⟩)=if lf b n ks=true then (if fr.contains y=false then some ⟨.und,ik h fr++[(y,some ⟨v,ty,[.mpc (we ks n) (AX ks vs n d)],false,true,true⟩)]⟩ else none) else none:=by
 simp only[muR,true_and]
 by_cases h1:lf b n ks=true<;>simp[h1]
def muM (b:Bool) (h:Nat->Option Row) (y:Nat) (n:ch) (d:D) (fr:List Nat):Option (List ch×List D)->Option bB
 | some (ks,vs)=>muR b h y n d fr ks vs (h y)
 | none=>none
theorem Nq {b:Bool} {y:Nat} {n:ch} {d:D} {fr:List Nat} {ks:List ch} {vs:List D} : muM b h y n d fr (some (ks,vs))=muR b h y n d fr ks vs (h y):=aiw
def muE (b:Bool) (h:Nat->Option Row) (y v:Nat) (n:ch):Option (D×List Nat)->Option bB
 | some (d,fr)=>muM b h y n d fr (gD h y v)
 | none=>none
theorem Np {b:Bool} {y v:Nat} {n:ch} {d:D} {fr:List Nat} : muE b h y v n (some (d,fr))=muM b h y n d fr (gD h y v):=aiw
theorem ab6 {τ:Ty} {b:Bool} {d:D} (O:T1 T τ b d) {y v:Nat} {n:ch} {i x:D} (U:UD i=some n):cF T τ h (.mp y v) i x=muE b h y v n (sj h x):=by
 obtain⟨φ,z,h1,_⟩:=O;simp only[cF,h1,U];cases sj h x with
 | none=>rfl
 | some p =>
  obtain⟨d,fr⟩:=p;simp only[muE];cases X:gD h y v with
  | none=>simp only[muM];cases h y<;>rfl
  | some q =>
   obtain⟨ks,vs⟩:=q;simp only[muM];cases h y<;>rfl
def lnE:Option (List ch×List D)->Option bB
 | some (ks,_)=>some ⟨.int .i64 (ks.length:Nat),[]⟩
 | none=>none
theorem MY {ks:List ch} {vs:List D} : lnE (some (ks,vs))=some ⟨.int .i64 (ks.length:Nat),[]⟩:=aiw
theorem Hi {κ α:Type} [uX κ] {m:List (κ×α)} : (dC m).length=m.length:=Nh m
theorem OZ {k:IntKind} {n:Int} : sj h (.int k n)=some (.int k n,[]):=aiw
theorem IB {b:Bool} : sj h (.bool b)=some (.bool b,[]):=aiw
theorem OY {xs:List D} : sj h (.agg xs)=some (.agg (xs.map canon),[]):=aiw
theorem Z5 {τ:Ty} {b:Bool} {d:D} (X:T1 T τ b d) {ty O:Nat} (U:ty<900000):UR T (some τ) ty e O=some ⟨.mp O e,[(O,some ⟨e,ty,[.mpc [] []],false,true,true⟩)]⟩:=by
 obtain⟨φ,z,h1,_⟩:=X;exact XM h1 U
def ldP (τ:Ty) (h:Nat->Option Row) (x v y:Nat):Option Row->Option bB
 | some r=>match r.cells with
  | [.alm y' v']=>if r.fz=true∧r.lst=false∧τ.size=1∧τ.ds.nM=false then some ⟨.mp y' v',[]⟩ else none
  | _=>none
 | none=>oD τ h x v y (kI h x v)
theorem aa1 {τ:Ty} {x v y:Nat} : mK τ h (.pm x v y)=ldP τ h x v y (live h x v):=by
 simp only[mK];cases live h x v with
 | none=>rfl
 | some r =>
  obtain⟨v',ty,cells,fz,lst,mp⟩:=r;rcases cells with _|⟨c,_|⟨O,cs⟩⟩<;>rfl
theorem MO {τ:Ty} {x v y:Nat} : ldP τ h x v y none=oD τ h x v y (kI h x v):=aiw
def ldQ (τ:Ty) (h:Nat->Option Row) (x y s n:Nat):Option Row->Option bB
 | some r=>if y=1000000+x∧r.mp=false∧r.lst=true∧r.cells.length=n*s∧τ.size=1 then some ⟨if τ.ds.nM then .agg [.sl false false n r.cells] else .sl false false n r.cells,ik h [y]⟩ else none
 | none=>none
theorem XA {τ:Ty} {r:Row} {x v y s n:Nat} : oD τ h x v y (some (r,y,s,n))=ldQ τ h x y s n (h y):=by
 simp only[oD,ldQ,PK];cases h y with
 | none=>rfl
 | some q=>simp
theorem MR {ty b:Nat} {ds:Ds} {z:List Value} {q:Bool} {x y s n O:Nat} {cells:List D} {fz:Bool} : ldQ ⟨ds,1,b,z,q⟩ h x y s n (some ⟨O,ty,cells,fz,true,false⟩)=if y=1000000+x∧cells.length=n*s then some ⟨if ds.nM then .agg [.sl false false n cells] else .sl false false n cells,ik h [y]⟩ else none:=by
 simp[ldQ]
def abT (T:Nat->Option Ty) (x v k:Nat):Option (Row×Nat×Nat×Nat)->Option (Nat×Nat)->Option bB
 | some _,some (O,0)=>match T O with|some φ=>if φ.size=0 then none else some ⟨.pm x v k,[]⟩|none=>none
 | _,_=>none
theorem G0 {T:Nat->Option Ty} {x v k O:Nat} {r:Row×Nat×Nat×Nat} : abT T x v k (some r) (some (O,0))=match T O with|some φ=>if φ.size=0 then none else some ⟨.pm x v k,[]⟩|none=>none:=aiw
theorem Xf {T:Nat->Option Ty} {b c:Nat} {z:List Value} {q:Bool} {fs:List (Nat×Nat)} {x v k i:Nat} : dU T ⟨.struct fs,b,c,z,q⟩ h i (.pm x v k)=abT T x v k (kI h x v) fs[i]?:=by
 simp only[dU,abT];cases kI h x v with
 | none=>rfl
 | some r=>simp only;generalize fs[i]? = z;rcases z with _|⟨O,_|off⟩<;>first|rfl|(simp;done)|(simp only;cases T O<;>rfl)
def TD (x y s O n k : Nat) : Option Row -> Option Row -> Option bB
  | some r, some q => if O = 0 ∧ r.cells.length = 1 ∧ r.fz = false ∧ r.lst = false ∧ q.fz = false ∧ q.lst = true ∧ q.cells.length = n * s ∧ x ≠ y ∧ k = 1000000 + x ∧ x < 1000000 then
          some ⟨.und, [(y, none), (k, some ⟨0, q.ty, q.cells, false, true, false⟩), (x, some ⟨r.v, r.ty, [.ph k s n], false, false, true⟩)]⟩ else none
  | _, _ => none
theorem Yt {ds:Ds} {b:Nat} {z:List Value} {q:Bool} {x v y O s U n k:Nat} : dn ⟨ds,1,b,z,q⟩ h (.pm x v k) (.box1 y O s U n)=TD x y s U n k (live h x v) (live h y O):=by
 simp only[dn,TD,PK,true_and];cases live h x v with
 | none=>rfl
 | some r=>cases live h y O<;>rfl
theorem Ew {x y s O n k v ty U ty':Nat} {c:D} {cells:List D} : TD x y s O n k (some ⟨v,ty,[c],false,false,false⟩) (some ⟨U,ty',cells,false,true,false⟩)=if O=0∧cells.length=n*s∧¬x=y∧k=1000000+x∧x<1000000 then
  some ⟨.und,[(y,none),(k,some ⟨0,ty',cells,false,true,false⟩),(x,some ⟨v,ty,[.ph k s n],false,false,true⟩)]⟩ else none:=by
 simp[TD]
theorem MP {v ty y' v':Nat} {b k el:Nat} {z:List Value} {q mp:Bool} {O v0 y0:Nat} : ldP ⟨.map k el,1,b,z,q⟩ h O v0 y0 (some ⟨v,ty,[.alm y' v'],true,false,mp⟩)=some ⟨.mp y' v',[]⟩:=by
 simp[ldP,Ds.nM]
def aar (τ:Ty) (x y y' v':Nat) (m:Bool):Option Row->Option bB
 | some r=>if τ.size=1∧y'=y∧r.cells.length=1∧r.fz=false∧r.lst=false∧m then some ⟨.und,[(x,some ⟨r.v,r.ty,[.alm y' v'],true,false,false⟩)]⟩ else none
 | none=>none
theorem Ys {τ:Ty} {x v y y' v':Nat} : dn τ h (.pm x v y) (.mp y' v')=aar τ x y y' v' (gD h y v').isSome (live h x v):=by
 simp only[dn,aar];cases live h x v<;>rfl
theorem Iq {x y v' v ty:Nat} {c:D} {b:Nat} {ds:Ds} {z:List Value} {q mp:Bool} : aar ⟨ds,1,b,z,q⟩ x y y v' true (some ⟨v,ty,[c],false,false,mp⟩)=some ⟨.und,[(x,some ⟨v,ty,[.alm y v'],true,false,false⟩)]⟩:=by
 simp[aar]
theorem abk {x v:Nat} : nm (.mp x v)=[x]:=aiw
theorem XR {ks:List ch} {vs:List D} : nm (.mpc ks vs)=[]:=aiw
theorem abl {x v y:Nat} : nm (.pm x v y)=[x,y]:=aiw
def clM (x:Nat):Option (List ch×List D)->Option (D×List Nat)
 | some (ks,vs)=>some (.mpc ks vs,[x])
 | none=>none
theorem KZ {x:Nat} {ks:List ch} {vs:List D} : clM x (some (ks,vs))=some (.mpc ks vs,[x]):=aiw
theorem Se {x v:Nat} : bL h (.mp x v)=clM x (gD h x v):=by
 simp only[bL,aT,clM];cases gD h x v<;>rfl
theorem KT {ks:List ch} {vs:List D} : bL h (.mpc ks vs)=some (.mpc ks vs,[]):=aiw
theorem Wu {x v:Nat} : aT h (.mp x v)=clM x (gD h x v):=by
 simp only[aT,clM];cases gD h x v<;>rfl
theorem R9 {ks:List ch} {vs:List D} : aT h (.mpc ks vs)=some (.mpc ks vs,[]):=aiw
theorem Wt {xs:List D} : aT h (.ip xs)=some (.ip xs,[]):=aiw
theorem Sa {x v o:Nat} : aT h (.ptr x v o)=clP x o (live h x v):=by
 simp only[aT];cases live h x v with
 | none=>rfl
 | some r=>simp only[clP]
def clN (x y:Nat):Option (List ch×List D)->Option (D×List Nat)
 | some (ks,vs)=>some (.ip [.mpc ks vs],[x,y])
 | none=>none
theorem K0 {x y:Nat} {ks:List ch} {vs:List D} : clN x y (some (ks,vs))=some (.ip [.mpc ks vs],[x,y]):=aiw
def clQ (h:Nat->Option Row) (x y:Nat):Option Row->Option (D×List Nat)
 | some r=>match r.cells with
  | [.alm y' v']=>if r.fz=true∧r.lst=false∧y'=y then clN x y (gD h y v') else none
  | _=>none
 | none=>none
theorem K3 {x y v' v ty:Nat} {mp:Bool} : clQ h x y (some ⟨v,ty,[.alm y v'],true,false,mp⟩)=clN x y (gD h y v'):=by
 simp[clQ]
theorem Wv {x v y:Nat} : aT h (.pm x v y)=clQ h x y (live h x v):=by
 simp only[aT];cases live h x v with
 | none=>rfl
 | some r =>
  obtain⟨v',ty,cells,fz,lst,mp⟩:=r;rcases cells with _|⟨c,_|⟨O,cs⟩⟩<;>rfl
theorem Tf {x v o:Nat} : iS (.ptr x v o)=true:=aiw
theorem XY {x v y:Nat} : iS (.pm x v y)=true:=aiw
theorem XW {xs:List D} : iS (.ip xs)=true:=aiw
theorem XX {x v:Nat} : iS (.mp x v)=true:=aiw
theorem Te {ks:List ch} {vs:List D} : iS (.mpc ks vs)=true:=aiw
theorem Xk {v ty:Nat} {cells:List D} {fz mp:Bool} : qo ⟨v,ty,cells,fz,true,mp⟩=⟨v,ty,cells,true,true,mp⟩:=by cases fz<;>rfl
theorem SI {d:Nat} : bk.hint d=none:=aiw
theorem Mo {f:Nat} {l:Bool} {G:Option (D×Row)->List D->Option (RK×Option Row)} {d:Nat} : (Am.ext Γ f l G).hint d=Γ.hint d:=aiw
theorem G6 {d i:Nat} : (Am.keep d Γ).hint i=Γ.hint i:=aiw
theorem G5 {d y i:Nat} : (Am.vc d y Γ).hint i=if i=d then some y else Γ.hint i:=aiw
theorem Ms {d y i:Nat} : (Am.vc d y Γ).own i=Γ.own i:=aiw
theorem C6 {d y i:Nat} : (Am.vc d y Γ).lends i=Γ.lends i:=aiw
theorem Mt {d y i:Nat} {lent:Option (D×Row)} {afy:List D} : (Am.vc d y Γ).sem i lent afy=Γ.sem i lent afy:=aiw
theorem GY {ks:List ch} {vs:List D} : gp (.mpc ks vs)=false:=aiw
theorem F5 {ks:List ch} {vs:List D} : canon (.mpc ks vs)=.mpc ks vs:=aiw
theorem BY {ks:List ch} {vs:List D} : fF (.mpc ks vs)=.mpc ks vs:=aiw
end
structure sg {α:Type} (E:iM α) (C:List D) (o:Nat) (l:List α):Prop where
 fit:o+l.length*E.size<=C.length
 eq:(C.drop o).take (l.length*E.size)=ab E l
theorem sg.self {α:Type} (E:iM α) (l:List α):sg E (ab E l) 0 l:=⟨by rw[bM];omega,by rw[ag7,<- bM,ahJ]⟩
theorem sg.split {α:Type} {E:iM α} {C:List D} {o:Nat} {l:List α} (F:sg E C o l):C.drop o=ab E l++C.drop (o+l.length*E.size):=by
 rw[<- ahv]
 conv=>lhs;rw[<- ahw (l.length*E.size) (C.drop o)]
 rw[F.eq]
theorem sg.idx {α:Type} {E:iM α} {C:List D} {o:Nat} {l:List α} {i:Int} {x:α} (F:sg E C o l) (h:P.idx l i=some x):o+i.toNat*E.size+E.size<=C.length∧∃rest,C.drop (o+i.toNat*E.size)=E.cells x++rest:=by
 have h1:=ru E h;have h2:=F.fit;refine⟨by omega,ab E (l.drop (i.toNat+1))++C.drop (o+l.length*E.size),?_⟩;rw[<- ahv,F.split,ag2 (by rw[bM];omega),Bb E h,ag1]
theorem sg.tail {α:Type} {E:iM α} {C:List D} {o:Nat} {l m:List α} {a:Int} (F:sg E C o l) (h:wo l a (l.length:Int)=some m):sg E C (o+a.toNat*E.size) m:=by
 obtain⟨h1,h2,h3,h4,h5⟩:=QK E h;have h6:=F.fit;have h7:a.toNat*E.size+m.length*E.size=l.length*E.size:=by rw[<- agT];congr 1;omega
 refine⟨by omega,?_⟩;rw[<- ahv,F.split,ag2 (by rw[bM];omega),ag5 (by rw[afX,bM];omega),h5]
theorem aem:type_of% (ai @Ni<|ai @Nk<|ai @MV<|ai @Na<|ai @SU<|ai @SV<|ai @G8<|ai @G9<|ai @MY<|ai @Hi<|ai @abg<|ai @abf<|ai @Nj<|ai @Hj<|ai @Nr<|ai @Nq<|ai @Np<|ai @OZ<|ai @IB<|ai @OY<|ai @aa1<|ai @MP<|ai @Ys<|ai @Iq<|ai @abk<|ai @XR<|@abl):=⟨@Ni,@Nk,@MV,@Na,@SU,@SV,@G8,@G9,@MY,@Hi,@abg,@abf,@Nj,@Hj,@Nr,@Nq,@Np,@OZ,@IB,@OY,@aa1,@MP,@Ys,@Iq,@abk,@XR,@abl⟩
theorem aen:type_of% (ai @KZ<|ai @Se<|ai @KT<|ai @Wu<|ai @R9<|ai @Wt<|ai @Sa<|ai @K0<|ai @K3<|ai @Wv<|ai @Tf<|ai @XY<|ai @XW<|ai @XX<|ai @Te<|ai @Xl<|ai @Xj<|ai @Xk<|ai @SI<|ai @Mo<|ai @G6<|ai @G5<|ai @Ms<|ai @C6<|ai @Mt<|ai @HL<|ai @HK<|ai @GY<|ai @F5<|ai @BY<|ai @Lv<|@RG):=⟨@KZ,@Se,@KT,@Wu,@R9,@Wt,@Sa,@K0,@K3,@Wv,@Tf,@XY,@XW,@XX,@Te,@Xl,@Xj,@Xk,@SI,@Mo,@G6,@G5,@Ms,@C6,@Mt,@HL,@HK,@GY,@F5,@BY,@Lv,@RG⟩
theorem aeo:type_of% (ai @zy<|ai @zD<|ai @Cc<|ai @Cf<|ai @u4<|ai @u9<|ai @Cb<|ai @Ce<|ai @vl<|ai @xO<|ai @sf<|ai @xN<|ai @Wb<|ai @RS<|@Wc):=⟨@zy,@zD,@Cc,@Cf,@u4,@u9,@Cb,@Ce,@vl,@xO,@sf,@xN,@Wb,@RS,@Wc⟩
theorem bT.ofB {P:Program} {T:Nat->Option Ty} {Γ:Env} (U:gW P T) (X:bF P Γ) (hm:P.follows .mixedOrders=true) {α β:Type} {A:iU α} {F:α->Option β} {R:β->RK} {mode:Mode} {f:FuncId} {fn:Func} (Y:P.funcs[f]? = some fn)
  (O:((match fn.body with|some c=>codeOk c|none=>true)&&(!(fn.name == "runtime.NumGoroutine") && !fn.body.isNone))=true) (Z:∀a,Nat.ble (A.ds a).length fn.ntmps=true) (h:∀a r,F a=some r->jO mode T Γ FU fn none (A.ds a)=some (R r,none)):bT P f (dP A F R):=by
 rw[age,age]at O;exact bT.of U X hm Y O.1 ⟨by simpa using O.2.1,by simpa using O.2.2⟩ (fun a=>ahr (Z a)) h
theorem V7 {α β:Type} (a:Arg α) (b:iU β) (x:α×β):(gX a b).ds x=a.d x.1::b.ds x.2:=aiw
theorem V6 {α:Type} (a:Arg α) (x:α):(dL a).ds x=[a.d x]:=aiw
theorem V5 (x:Unit):as0.ds x=[]:=aiw
theorem gK:type_of% (ai @V7<|ai @V6<|ai @V5<|ai @acM<|ai @RF<|ai @VT<|ai @aaM<|ai @VR<|ai @aaK<|ai @VS<|ai @aaL<|@RG):=⟨@V7,@V6,@V5,@acM,@RF,@VT,@aaM,@VR,@aaK,@VS,@aaL,@RG⟩
theorem aei:type_of% (ai @MO<|ai @XA<|ai @MR<|ai @Yt<|ai @Ew<|ai @G0<|@Xf):=⟨@MO,@XA,@MR,@Yt,@Ew,@G0,@Xf⟩
theorem vi:type_of% (ai @aem<|ai @aen<|ai @aei<|@aeo):=⟨@aem,@aen,@aei,@aeo⟩
def acK (P:Program) (f:FuncId):Prop:=∀(blk off cap:Nat) (zs:List Int) (w:World),Go.Sort.Holds (Value.int .i64) w blk off zs.toArray->blk<w.heap.size->zs.length<4611686018427387904 ->
 Calls P f #[.slice (some ⟨blk,off,none⟩) zs.length cap] w fun e w'=>e=.returned (.tuple #[])∧∃n os,w'=Go.Sort.grow (Go.Sort.putRow (Value.int .i64) (Go.Sort.ahead w n) blk off (nw zs).toArray) os
theorem sW (k:IntKind):∀(l:List Int) (j:Nat),(ab (eI k) l)[j]? = l[j]?.map fun n =>.int k n
 | [],j=>by simp[ab]
 | x::l,0=>by simp[ab,eI]
 | x::l,j+1=>by
  have:=sW k l j;simp only[ab,wX,List.cons_append,List.nil_append,List.getElem?_cons_succ];exact this
theorem nL (k:IntKind) (l:List Int):(ab (eI k) l).length=l.length:=by rw[bM];show l.length*1=_;omega
theorem N3 {w:World} {b off:Nat} {d:List Int} {cs:Array Value} {ty:Nat} {fr:Nat×Nat} (h:w.heap[b]? = some (.cells cs ty fr)):(Go.Sort.putRow (Value.int .i64) w b off d.toArray).heap[b]? = some (.cells (Go.Sort.putCells (Value.int .i64) off d.toArray cs) ty fr):=by
 simp[Go.Sort.putRow,Go.Sort.mapBlock,afN,h,Go.Sort.onCells]
theorem D7 {w:World} {b c off:Nat} {d:List Int} (h:c≠b):(Go.Sort.putRow (Value.int .i64) w b off d.toArray).heap[c]? = w.heap[c]?:=by
 simp[Go.Sort.putRow,Go.Sort.mapBlock,afN,Ne.symm h]
theorem JF {off:Nat} {d:List Int} {cs:Array Value} {k:Nat} (hk:k<cs.size):(Go.Sort.putCells (Value.int .i64) off d.toArray cs).getD k undef=if off<=k∧k<off+d.length then .int .i64 (d.getD (k-off) 0) else cs.getD k undef:=by
 have h1:(Go.Sort.putCells (Value.int .i64) off d.toArray cs)[k]? = some (if off<=k∧k<off+d.length then .int .i64 (d.getD (k-off) 0) else cs[k]):=by
  simp only[Go.Sort.putCells,Array.getElem?_mapIdx,agQ hk,Option.map_some,agZ];congr 1;split
  ·rename_i O;congr 1;have:k-off<d.length:=by omega
   simp[List.getD,this]
  ·rfl
 rw[afI,h1];simp[afI,hk]
end Go.Proofs.YtoioidmblipblaaGreat.Am
namespace Go.Proofs.YtoioidmblipblaaGreat.P
open Go.RowKit
theorem wrap64 {x:Int} (h1 : -9223372036854775808<=x) (h2:x<9223372036854775808):IntKind.i64.wrap x=x:=by
 have key:IntKind.i64.wrap x=if x % 18446744073709551616>=9223372036854775808 then x % 18446744073709551616-18446744073709551616 else x % 18446744073709551616:=by
  unfold IntKind.wrap
  by_cases h:x % 18446744073709551616>=9223372036854775808
  ·rw[if_pos h];exact if_pos (by simpa [IntKind.bits,IntKind.signed] using h)
  ·rw[if_neg h];exact if_neg (by simpa [IntKind.bits,IntKind.signed] using h)
 rw[key];split<;>omega
theorem Mv {α:Type} {l:List α} {i:Int} {x:α} (O:0<=i) (h:l[i.toNat]? = some x):P.idx l i=some x:=by
 have:=(af6.1 h).1;unfold P.idx;rw[if_pos ⟨O,by omega⟩,h]
theorem cR {α:Type} {l:List α} {i:Nat} (h:i<l.length):P.idx l (i:Int)=some (l[i]):=Mv (by omega) (by simp[h])
theorem aao {α:Type} {l:List α} {i:Nat} (h:i<=l.length):wo l 0 (i:Int)=some (l.take i):=by
 unfold wo;rw[if_pos ⟨by omega,by omega,by omega⟩];simp
end Go.Proofs.YtoioidmblipblaaGreat.P
namespace Go.Proofs.YtoioidmblipblaaGreat.Am
open Go.RowKit Go.Deep Go.ChangeShapes Go.WideShapes
def A6 (T:Nat->Option Ty):Nat->Nat->List D->Prop
 | 0,_,_=>False
 | n+1,t,xs =>
  match T t with
  | none=>False
  | some τ=>xs.length=τ.size ∧
   match τ.ds with
   | .int k=>∃i,xs=[.int k i]∧(Lit.int k i).wf=true
   | .bool=>∃b,xs=[.bool b]
   | .str=>∃s:ByteArray,xs=[.str s]∧s.size<=140737488351232
   | .slice e=>∃len O φ,xs=[.sl false false len O]∧len*φ.bytes<=140737488351232∧T e=some φ∧O.length=len*φ.size∧∀i,i<len->A6 T n e ((O.drop (i*φ.size)).take φ.size)
   | .struct fs=>∀f∈fs,∃φ,T f.1=some φ∧A6 T n f.1 ((xs.drop f.2).take φ.size)
   | .arr m e=>∃φ,T e=some φ∧∀i,i<m->A6 T n e ((xs.drop (i*φ.size)).take φ.size)
   | .map _ _=>False
   | .other=>False
def zZ (T:Nat->Option Ty):Nat->List (Nat×Nat)->Nat->Bool
 | o,[],z=>o==z
 | o,(O,off)::fs,z=>off==o&&match T O with|some φ=>zZ T (o+φ.size) fs z|none=>false
def UU (T:Nat->Option Ty):Nat->Nat->Bool
 | 0,_=>false
 | n+1,t =>
  match T t with
  | none=>false
  | some τ =>
   match τ.ds with
   | .int _ | .bool | .str=>τ.size==1
   | .slice e=>τ.size==1&&UU T n e&&(match T e with|some φ=>decide (0<φ.size)|none=>false)
   | .struct fs=>zZ T 0 fs τ.size&&fs.all fun f=>UU T n f.1
   | .arr m e=>UU T n e&&(match T e with|some φ=>τ.size==m*φ.size|none=>false)
   | .map _ _=>false
   | .other=>false
def lI (w:World) (M:Nat->Prop) (xs:List D) (cs:List Value):Prop:=xs.length=cs.length∧∀(j:Nat) (x:D),xs[j]? = some x->aW x=true∧∃v,cs[j]? = some v∧RP w M x v
theorem lI.append {w:World} {M:Nat->Prop} {xs X:List D} {cs ds:List Value} (h:lI w M xs cs) (k:lI w M X ds):lI w M (xs++X) (cs++ds):=by
 refine⟨by simp[h.1,k.1],fun j x U =>?_⟩;rw[agl]at U ⊢;rw[<- h.1];split at U
 ·rename_i O;rw[if_pos O];exact h.2 j x U
 ·rename_i O;rw[if_neg O];exact k.2 _ x U
theorem CL {α:Type} (s:Nat):∀(ls:List (List α)),(∀l∈ls,l.length=s)->∀(i:Nat) (l:List α),ls[i]? = some l->(ls.flatten.drop (i*s)).take s=l
 | [],_,i,l,h=>by simp at h
 | a::ls,hl,0,l,h=>by
  simp only[List.getElem?_cons_zero,afM]at h;subst h;have:a.length=s:=hl a (by simp);simp[this]
 | a::ls,hl,i+1,l,h=>by
  have O:a.length=s:=hl a (by simp);rw[List.flatten_cons,ahs,aht (by rw[O,agC];omega),ahq,O,agC,ahu];exact CL s ls (fun x U=>hl x (ahe _ U)) i l h
theorem mL {α:Type} (s:Nat):∀(ls:List (List α)),(∀l∈ls,l.length=s)->ls.flatten.length=ls.length*s
 | [],_=>by simp
 | a::ls,hl=>by
  rw[List.flatten_cons,agP,mL s ls (fun x O=>hl x (ahe _ O)),hl a (by simp),af3,agC];omega
section
variable {H:Type} {enc:TypeId×Value->H} {P:Program} {w:World} {base:Nat} {spare:Nat->Bool} {held:Bool} {T:Nat->Option Ty}
theorem eH.bytesOf {P:Program} {t:Nat} {τ:Ty} (h:eH P t τ):P.bytesOf t=τ.bytes:=by
 have:=h.info;unfold Program.bytesOf;cases O:P.info? t with
 | none=>rw[O]at this;simp at this
 | some i=>rw[O]at this;simp only[Option.map_some,afM,Prod.mk.injEq]at this;simp[this.2.1]
def Reach (P:Program) (t:Nat) (d:DataW H):Prop:=∀k∈d.weights P t,k<=140737488351232
theorem yZ {e:TypeId} : ∀(l:List (DataW H)) (j:Nat) (d:DataW H),l[j]? = some d->∀k∈d.weights P e,k∈DataW.weightsAll P e l
 | x::l,0,d,h,k,hk=>by
  simp only[List.getElem?_cons_zero,afM]at h;subst h;simp only[DataW.weightsAll,agV];exact .inl hk
 | x::l,j+1,d,h,k,hk=>by
  simp only[DataW.weightsAll,agV];exact .inr (yZ l j d (by simpa using h) k hk)
 | [],j,d,h,k,hk=>by simp at h
theorem eH.cells {P:Program} {t:Nat} {τ:Ty} (h:eH P t τ):P.cellsOf t=τ.size:=by
 have:=h.info;unfold Program.cellsOf;cases O:P.info? t with
 | none=>rw[O]at this;simp at this
 | some i=>rw[O]at this;simp only[Option.map_some,afM,Prod.mk.injEq]at this;simp[this.1]
theorem SO {T:Nat->Option Ty} {w:World} {M:Nat->Prop} {cs:List Value} : ∀(fs:List (Nat×Nat)) (o z:Nat) (f:Nat×Nat->List D),zZ T o fs z=true->cs.length=z ->
  (∀p∈fs,∃φ,T p.1=some φ∧lI w M (f p) ((cs.drop p.2).take φ.size))->o<=z->∃xs,lI w M xs (cs.drop o)∧∀p∈fs,∃φ,T p.1=some φ∧o<=p.2∧(xs.drop (p.2-o)).take φ.size=f p
 | [],o,z,f,O,U,_,_=>by
  simp only[zZ,beq_iff_eq]at O;refine⟨[],⟨by rw[afX,U,O];simp,fun j x hj=>by simp at hj⟩,fun p hp=>by simp at hp⟩
 | (X,off)::fs,o,z,f,O,U,hp,aa=>by
  simp only[zZ,age,beq_iff_eq]at O;obtain⟨rfl,O⟩:=O;obtain⟨φ,hφ,hR⟩:=hp (X,off) (by simp);simp only[hφ]at O;have hz:off+φ.size<=z:=by
   have:∀(fs:List (Nat×Nat)) (o:Nat),zZ T o fs z=true->o<=z:=by
    intro fs
    induction fs with
    | nil=>intro o h;simp only[zZ,beq_iff_eq]at h;omega
    | cons p fs ih =>
     intro o h;obtain⟨a,b⟩:=p;simp only[zZ,age]at h;have h2:=h.2;split at h2
     ·have:=ih _ h2;omega
     ·cases h2
   exact this fs _ O
  obtain⟨xs,hx,Y⟩:=SO fs (off+φ.size) z f O U (fun p h=>hp p (ahe _ h)) hz;have Z:(f (X,off)).length=φ.size:=by
   rw[hR.1,afW,afX,U];omega
  refine⟨f (X,off)++xs,?_,fun p h =>?_⟩
  ·have:=hR.append hx;rw[<- ahv,ahw]at this;exact this
  ·rcases afK.1 h with rfl|h
   ·exact⟨φ,hφ,afD _,by simp only[agR,ag7];rw[ag5 (by omega),ag6 (by omega)]⟩
   ·obtain⟨ψ,h1,h2,h3⟩:=Y p h;refine⟨ψ,h1,by omega,?_⟩;rw[ahs,aht (by omega),ahq,Z];have:p.2-off-φ.size=p.2-(off+φ.size):=by omega
    rw[this,h3]
theorem lI.one {w:World} {M:Nat->Prop} {x:D} {v:Value} (U:aW x=true) (h:RP w M x v):lI w M [x] [v]:=by
 refine⟨rfl,fun j y O =>?_⟩
 match j,O with
 | 0,O=>simp only[List.getElem?_cons_zero,afM]at O;subst O;exact⟨U,v,rfl,h⟩
 | j+1,O=>simp at O
theorem lI.flat {w:World} {M:Nat->Prop} {cs:List Value} {s:Nat} : ∀(ls:List (List D)) (o:Nat),(∀(i:Nat) l,ls[i]? = some l->lI w M l ((cs.drop (o+i*s)).take s))->(∀l∈ls,l.length=s)->lI w M ls.flatten ((cs.drop o).take (ls.length*s))
 | [],o,_,_=>⟨by simp,fun j x O=>by simp at O⟩
 | a::ls,o,h,hl=>by
  have U:=h 0 a rfl;have h1:=lI.flat ls (o+s) (fun i l X=>by
   have:=h (i+1) l (by simpa using X);rw[agC]at this;rw[show o+s+i*s=o+(i*s+s) by omega];exact this) (fun l Y=>hl l (ahe _ Y))
  have:=U.append h1;rw[ahx,agc]at this;rw[List.flatten_cons,af3,agC,Nat.add_comm (ls.length*s) s,List.take_add,ahv];exact this
theorem abI (hT:gW P T) {M:Nat->Prop} (hM:∀b,base<=b->b<w.heap.size->¬M b):∀(n t fuel:Nat) (cs:List Value) (x:DataW H×List MemPlace),UU T n t=true->DataW.trod enc P w base spare held fuel t cs=some x->Reach P t x.1->∃xs,A6 T n t xs∧lI w M xs cs:=by
 intro n
 induction n with
 | zero=>intro t fuel cs x h;cases h
 | succ n ih =>
  intro t fuel cs x O h hw;unfold UU at O;unfold A6;cases hτ:T t with
  | none=>rw[hτ]at O;cases O
  | some τ =>
   rw[hτ]at O;simp only at O ⊢;obtain⟨d,hd,hc⟩:=under hT hτ;cases aa:τ.ds with
   | int k =>
    rw[aa]at O hc;simp only[beq_iff_eq]at O;have Z:=wO hc;subst Z;obtain⟨i,rfl,_,hw⟩:=DataW.trod_int hd h;exact⟨[.int k i],⟨by rw[O];rfl,i,rfl,hw⟩,.one rfl (.int k i)⟩
   | bool =>
    rw[aa]at O hc;simp only[beq_iff_eq]at O;have Z:=ue hc;subst Z;obtain⟨b,rfl,_⟩:=DataW.trod_bool hd h;exact⟨[.bool b],⟨by rw[O];rfl,b,rfl⟩,.one rfl (.bool b)⟩
   | str =>
    rw[aa]at O hc;simp only[beq_iff_eq]at O;have Z:=qf hc;subst Z;obtain⟨s,rfl,rfl,hs⟩:=DataW.trod_string hd h;have aE:s.size<=140737488351232:=by
     have:=hw s.data.toList.length (by simp[DataW.weights]);simpa using this
    exact⟨[.str s],⟨by rw[O];rfl,s,rfl,aE⟩,.one rfl (.str s)⟩
   | map _ _=>rw[aa]at O;cases O
   | other=>rw[aa]at O;cases O
   | struct fs =>
    rw[aa]at O hc;simp only[age,afO]at O;obtain⟨F,rfl,hF⟩:=gC hc;obtain⟨ys,m,_,rfl,hlen,aF,hf⟩:=DataW.trod_struct hd h;have ai:∀(i:Nat) (f:Field) y,F[i]? = some f->ys[i]? = some y->Reach P f.type y.1:=by
     intro i f y aG ar k hk;apply hw k;simp only[DataW.weights,hd];exact DataW.weights_mem_each (j:=i) (t:=f.type) (d:=y.1) (by rw[afA,agw,aG];rfl) (by simp[ar]) k hk
    rw[(hT t τ hτ).cells]at hlen;have Y:∀p:Nat×Nat,∃zs,p∈fs->∃φ,T p.1=some φ∧A6 T n p.1 zs∧lI w M zs ((cs.drop p.2).take φ.size):=by
     intro p
     by_cases hp:p∈fs
     ·have ab:=O.2 p hp;rw[<- hF]at hp;obtain⟨f,aH,rfl⟩:=afC.1 hp;obtain⟨i,U⟩:=List.mem_iff_getElem?.1 aH;have h1:=hf i f (by simpa using U);simp only at ab ⊢;cases hφ:T f.type with
      | none=>cases n with
       | zero=>cases ab
       | succ n=>simp only[UU,hφ]at ab;cases ab
      | some φ =>
       rw[(hT _ φ hφ).cells]at h1;have ag:i<ys.length:=by
        have:=(af6.1 U).1;simp only[Array.length_toList]at this;omega
       rw[afQ ag]at h1;obtain⟨zs,aj,ah⟩:=ih _ _ _ _ ab h1 (ai i f _ (by simpa using U) (afQ ag));exact⟨zs,fun _=>⟨φ,rfl,aj,ah⟩⟩
     ·exact⟨[],fun h=>(hp h).elim⟩
    obtain⟨f,X⟩:=Classical.axiomOfChoice Y;obtain⟨xs,hx,an⟩:=SO fs 0 τ.size f O.1 hlen (fun p hp=>by obtain⟨φ,a,_,b⟩:=X p hp;exact⟨φ,a,b⟩) (afE _);rw[ag7]at hx;refine⟨xs,⟨by rw[hx.1,hlen],fun p hp =>?_⟩,hx⟩;obtain⟨φ,h1,_,h3⟩:=an p hp;obtain⟨ψ,g1,g2,_⟩:=X p hp;rw[h1]at g1;cases g1;rw[agq]at h3;exact⟨φ,h1,by rw[h3];exact g2⟩
   | arr m e =>
    rw[aa]at O hc;simp only[age]at O;have Z:=wN hc;subst Z;obtain⟨ys,k,_,rfl,hlen,aF,hf⟩:=DataW.trod_array hd h;have ai:∀(i:Nat) y,ys[i]? = some y->Reach P e y.1:=by
     intro i y ar k hk;apply hw k;simp only[DataW.weights,hd];exact yZ _ i y.1 (by simp[ar]) k hk
    rw[(hT t τ hτ).cells]at hlen;obtain⟨av,ad⟩:=O;split at ad
    ·rename_i φ hφ;simp only[beq_iff_eq]at ad;have Y:∀i:Nat,∃zs,i<m->A6 T n e zs∧lI w M zs ((cs.drop (i*φ.size)).take φ.size):=by
      intro i
      by_cases U:i<m
      ·have h1:=hf i U;rw[(hT _ φ hφ).cells,afQ (by omega)]at h1;obtain⟨zs,aj,ah⟩:=ih _ _ _ _ av h1 (ai i _ (afQ (by omega)));exact⟨zs,fun _=>⟨aj,ah⟩⟩
      ·exact⟨[],fun h=>(U h).elim⟩
     obtain⟨f,X⟩:=Classical.axiomOfChoice Y;have ak:∀l∈(List.range m).map f,l.length=φ.size:=by
      intro l hl;obtain⟨i,U,rfl⟩:=afC.1 hl;have U:=ahm.1 U;rw[(X i U).2.1,afW,afX,hlen,ad];have:(i+1)*φ.size<=m*φ.size:=agr _ U;rw[agC]at this;omega
     have aw:∀(i:Nat) l,((List.range m).map f)[i]? = some l->i<m∧l=f i:=by
      intro i l hl;rw[afA,afB]at hl;obtain⟨j,hj,rfl⟩:=hl;obtain⟨ax,ay⟩:=af6.1 hj;simp only[af8]at ax;simp only[af9]at ay;exact⟨ax,by rw[ay]⟩
     have al:lI w M ((List.range m).map f).flatten ((cs.drop 0).take (((List.range m).map f).length*φ.size)):=by
      refine lI.flat _ 0 (fun i l hl =>?_) ak;obtain⟨U,rfl⟩:=aw i l hl;rw[agt];exact (X i U).2
     rw[af7,af8,ag7,ag6 (by omega)]at al;refine⟨_,⟨by rw[al.1,hlen],φ,hφ,fun i U =>?_⟩,al⟩;have ag:((List.range m).map f)[i]? = some (f i):=by simp[U]
     rw[CL φ.size _ ak i _ ag];exact (X i U).1
    ·cases ad
   | slice e =>
    rw[aa]at O hc;simp only[age,beq_iff_eq]at O;have Z:=fG hc;subst Z;obtain⟨⟨Y,az⟩,ae⟩:=O;split at ae
    ·rename_i φ hφ;simp only[decide_eq_true_eq]at ae;rcases open_slice hd h with⟨rfl,_⟩|⟨a,len,cap,m,k,D',Pl,rfl,hb,hl,hm,aI,rfl,U⟩
     ·refine⟨[.sl false false 0 []],⟨by rw[Y];rfl,0,[],φ,rfl,by omega,hφ,by simp,fun i U=>by omega⟩,.one rfl ?_⟩;exact .sl none 0 false false 0 [] (fun _=>undef) (afD _) (afE _) (fun h=>by cases h) (fun _=>⟨rfl,rfl⟩) (fun h=>by cases h) (fun h=>(h rfl).elim) (fun j x hj=>by simp at hj) (fun x hx=>by simp at hx)
     ·have aQ:len<=m:=by rw[aI];split<;>omega
      have aJ:len*φ.bytes<=140737488351232:=by
       have h1:=hw ((((List.range len).map D').length+((List.range (m-len)).map fun j=>D' (len+j)).length)*P.bytesOf e) (by simp[DataW.weights,hd]);rw[(hT _ φ hφ).bytesOf]at h1;simp only[af7,af8]at h1;exact afF (agr _ (by omega)) h1
      have ai:∀i,i<len->Reach P e (D' i):=by
       intro i ag k hk;apply hw k;simp only[DataW.weights,hd,afK,agV];exact .inr (.inl (yZ _ i (D' i) (by simp[ag]) k hk))
      have au:∀i:Nat,∃zs,i<len->A6 T n e zs∧zs.length=φ.size∧∀(j:Nat) z,zs[j]? = some z->aW z=true∧∃v,w.cell? (a.add (i*φ.size+j))=some v∧RP w M z v:=by
       intro i
       by_cases aA:i<len
       ·obtain⟨cs',aB,aK⟩:=U i (by omega);rw[(hT _ φ hφ).cells]at aB;obtain⟨_,g1,g2⟩:=World.cells?_some aB;obtain⟨zs,aj,ah⟩:=ih _ _ _ _ az aK (ai i aA);refine⟨zs,fun _=>⟨aj,by rw[ah.1,g1],fun j z hj =>?_⟩⟩;obtain⟨p1,v,p2,p3⟩:=ah.2 j z hj;refine⟨p1,v,?_,p3⟩;have aL:j<φ.size:=by rw[<- g1];exact (af6.1 p2).1
        rw[<- Go.Deep.add_add,g2 j aL,p2]
       ·exact⟨[],fun h=>(aA h).elim⟩
      obtain⟨f,X⟩:=Classical.axiomOfChoice au;have ak:∀l∈(List.range len).map f,l.length=φ.size:=by
       intro l hl;obtain⟨i,U,rfl⟩:=afC.1 hl;exact (X i (ahm.1 U)).2.1
      have aC:((List.range len).map f).flatten.length=len*φ.size:=by rw[mL φ.size _ ak];simp
      have aq:∀i,i<len->(((List.range len).map f).flatten.drop (i*φ.size)).take φ.size=f i:=fun i U=>CL φ.size _ ak i (f i) (by simp[U]);have ao:∀(p:Nat) z,((List.range len).map f).flatten[p]? = some z->aW z=true∧∃v,w.cell? (a.add p)=some v∧RP w M z v:=by
       intro p z hp;have aM:=(af6.1 hp).1;rw[aC]at aM;have hq:p / φ.size<len:=Nat.div_lt_of_lt_mul (by rwa [agD]);have hr:p % φ.size<φ.size:=Nat.mod_lt _ ae;have he:p / φ.size*φ.size+p % φ.size=p:=Nat.div_add_mod' p φ.size;have hz:(f (p / φ.size))[p % φ.size]? = some z:=by
        rw[<- aq _ hq,afT,if_pos hr,afU,he];exact hp
       have:=(X _ hq).2.2 _ z hz;rw[he]at this;exact this
      refine⟨[.sl false false len ((List.range len).map f).flatten],⟨by rw[Y];rfl,len,_,φ,rfl,aJ,hφ,aC,fun i U=>by rw[aq i U];exact (X i U).1⟩,.one rfl ?_⟩;refine .sl (some a) cap false false len _ (fun j=>(w.cell? (a.add j)).getD undef) hl hm (fun h=>by cases h) (fun h=>by cases h) (fun h=>by cases h) (fun aN =>?_) (fun j z hj =>?_) (fun z hz =>?_)
      ·have h0:0<((List.range len).map f).flatten.length:=ahy.2 aN;obtain⟨_,v,hv,_⟩:=ao 0 _ (afQ h0);obtain⟨b,o,sp⟩:=a;have aO:sp=none:=by
        unfold World.cell? at hv;split at hv
        ·split at hv
         ·cases hv
         ·rename_i h;simpa [Addr.add] using h
        ·cases hv
       subst aO;have aD:b<w.heap.size:=by
        unfold World.cell? at hv;split at hv
        ·rename_i hh;exact (afH.1 hh).1
        ·cases hv
       refine⟨b,o,rfl,aD,hM b hb aD,fun j hj =>?_⟩;obtain⟨_,v,hv,_⟩:=ao j _ (afQ hj);have ha:Addr.add ⟨b,o,none⟩ j=⟨b,o+j,none⟩:=by
        unfold Addr.add;split
        ·rename_i h0;rw[h0];rfl
        ·rfl
       have aP:w.cell? ⟨b,o+j,none⟩=some v:=by rw[<- ha];exact hv
       rw[aP];simp only[hv,Option.getD_some]
      ·obtain⟨_,v,hv,hr⟩:=ao j z hj;rw[hv];exact hr
      ·obtain⟨j,hj⟩:=List.mem_iff_getElem?.1 hz;exact (ao j z hj).1
    ·cases ae
def sk (T:Nat->Option Ty) (n t:Nat) (d:D):Prop :=
 match T t with
 | some τ=>if τ.ds.nM then ∃xs,d=.agg xs∧A6 T n t xs else A6 T n t [d]
 | none=>False
theorem lI.agg {w:World} {M:Nat->Prop} {xs:List D} {cs:Array Value} (h:lI w M xs cs.toList):RP w M (.agg xs) (.agg cs):=by
 have:=RP.agg (w:=w) (M:=M) xs cs.toList h.1.symm (fun j x O=>by
  obtain⟨_,v,h1,h2⟩:=h.2 j x O;simp only[List.getD,h1,Option.getD_some];exact h2) (fun x U=>by
  obtain⟨j,O⟩:=List.mem_iff_getElem?.1 U;exact (h.2 j x O).1)
 simpa using this
theorem lI.single {w:World} {M:Nat->Prop} {xs:List D} {v:Value} (h:lI w M xs [v]):∃x,xs=[x]∧RP w M x v:=by
 match xs,h with
 | [],h=>have:=h.1;simp at this
 | [x],h=>obtain⟨_,u,h1,h2⟩:=h.2 0 x rfl;simp only[List.getElem?_cons_zero,afM]at h1;subst h1;exact⟨x,rfl,h2⟩
 | x::y::xs,h=>have:=h.1;simp at this
theorem ZG (hT:gW P T) {M:Nat->Prop} (hM:∀b,base<=b->b<w.heap.size->¬M b) {n t b0:Nat} {v:Value} {d:DataW H} {ps:List MemPlace} (U:UU T n t=true) (Z:Value.okWide P w .any b0 t v) (h:DataW.Trod enc P w base spare held t v d ps) (hw:Reach P t d) :
  ∃x,sk T n t x∧RP w M x v:=by
 obtain⟨fuel,h⟩:=h;obtain⟨xs,h1,h2⟩:=abI hT hM n t fuel _ _ U h hw;unfold sk;cases n with
 | zero=>cases U
 | succ n =>
 cases hτ:T t with
 | none=>simp only[UU,hτ]at U;cases U
 | some τ =>
  simp only;obtain⟨d',hd,Y⟩:=under hT hτ;cases X:τ.ds with
  | int k =>
   rw[X]at Y;have O:=wO Y;subst O;obtain⟨i,rfl⟩:=okWide_int hd Z;obtain⟨x,rfl,hx⟩:=lI.single (v := .int k i) h2;exact⟨x,by simpa [Ds.nM] using h1,hx⟩
  | bool =>
   rw[X]at Y;have O:=ue Y;subst O;obtain⟨i,rfl⟩:=okWide_bool hd Z;obtain⟨x,rfl,hx⟩:=lI.single (v := .bool i) h2;exact⟨x,by simpa [Ds.nM] using h1,hx⟩
  | str =>
   rw[X]at Y;have O:=qf Y;subst O;obtain⟨i,rfl⟩:=okWide_string hd Z;obtain⟨x,rfl,hx⟩:=lI.single (v := .string i) h2;exact⟨x,by simpa [Ds.nM] using h1,hx⟩
  | slice e =>
   rw[X]at Y;have O:=fG Y;subst O;obtain⟨a,len,cap,rfl⟩:=okWide_slice hd Z;obtain⟨x,rfl,hx⟩:=lI.single (v := .slice a len cap) h2;exact⟨x,by simpa [Ds.nM] using h1,hx⟩
  | struct fs =>
   rw[X]at Y;obtain⟨F,rfl,_⟩:=gC Y;obtain⟨cs,rfl,_⟩:=okWide_struct hd Z;exact⟨.agg xs,by simpa [Ds.nM] using h1,lI.agg h2⟩
  | arr m e =>
   rw[X]at Y;have O:=wN Y;subst O;have:∃cs,v=.agg cs:=by
    unfold Value.okWide at Z;rw[hd]at Z;obtain⟨cs,h,_⟩:=Z;exact⟨cs,h⟩
   obtain⟨cs,rfl⟩:=this;exact⟨.agg xs,by simpa [Ds.nM] using h1,lI.agg h2⟩
  | map _ _=>simp only[UU,hτ,X]at U;cases U
  | other=>simp only[UU,hτ,X]at U;cases U
theorem FO (hT:gW P T) {M:Nat->Prop} (hM:∀b,base<=b->b<w.heap.size->¬M b) {n b0:Nat} : ∀(U:List TypeId) (vs:List Value) (ds:List (DataW H)) (Z:List MemPlace),DataW.TrodAll enc P w base spare held U vs ds Z ->
  (∀(j:Nat) t v,U[j]? = some t->vs[j]? = some v->Value.okWide P w .any b0 t v)->(∀t∈U,UU T n t=true)->(∀k∈DataW.weightsEach P U ds,k<=140737488351232) ->
  ∃X:List D,X.length=vs.length∧(∀(j:Nat) x,X[j]? = some x->∃v,vs[j]? = some v∧RP w M x v)∧X.length=U.length∧∀(j:Nat) t,U[j]? = some t->∃x,X[j]? = some x∧sk T n t x
 | [],[],[],Z,_,_,_,_=>⟨[],rfl,fun j x O=>by simp at O,rfl,fun j t O=>by simp at O⟩
 | t::U,v::vs,d::ds,Z,h,hv,hok,hw=>by
  obtain⟨p,q,h1,h2,_⟩:=h;obtain⟨x,aa,ab⟩:=ZG hT hM (hok t (by simp)) (hv 0 t v rfl rfl) h1 (fun k hk=>hw k (by simp only[DataW.weightsEach,agV];exact .inl hk));obtain⟨X,g1,g2,g3,g4⟩:=FO hT hM U vs ds q h2 (fun j Y v' a b=>hv (j+1) Y v' (by simpa using a) (by simpa using b)) (fun Y ht=>hok Y (ahe _ ht)) (fun k hk=>hw k (by simp only[DataW.weightsEach,agV];exact .inr hk));refine⟨x::X,by simp[g1],fun j y O =>?_,by simp[g3],fun j Y O =>?_⟩
  ·cases j with
   | zero=>simp only[List.getElem?_cons_zero,afM]at O;subst O;exact⟨v,rfl,ab⟩
   | succ j=>simpa using g2 j y (by simpa using O)
  ·cases j with
   | zero=>simp only[List.getElem?_cons_zero,afM]at O;subst O;exact⟨x,rfl,aa⟩
   | succ j=>simpa using g4 j Y (by simpa using O)
 | [],[],_::_,_,h,_,_,_=>h.elim
 | [],_::_,_,_,h,_,_,_=>h.elim
 | _::_,[],_,_,h,_,_,_=>h.elim
 | _::_,_::_,[],_,h,_,_,_=>h.elim
end
end Go.Proofs.YtoioidmblipblaaGreat.Am
namespace Go.Proofs.YtoioidmblipblaaGreat.Am
open Go.RowKit Go.Deep Go.ChangeShapes Go.WideShapes Go.ChangeAt
section
variable {H:Type} {enc:TypeId×Value->H} {P:Program}
theorem Fj {f:Func} {s:ChangeSpec} {apart fresh handsOn again:Bool} {W W':World} {args:Array Value} {v:Value} {ds gs:List (DataW H)} {before pa pv:List MemPlace}
  (hW:DataW.Whole enc P f.params.toList s.vars apart W args.toList ds gs before)
  (Z:∀(b:Nat) (sp:Nat->Bool) (hd:Bool),DataW.TrodAll enc P W' b sp hd f.resultTypes.toList (v.resultList f.resultTypes.size) (s.fn H (ds++gs)).results [])
  (O:∀sp:Nat->Bool,(∀p∈before,sp p.block=true)->DataW.TrodAll enc P W' 0 sp true f.params.toList args.toList (s.fn H (ds++gs)).args pa)
  (U:∀sp:Nat->Bool,(∀p∈before,sp p.block=true)->DataW.TrodVars enc P W' sp s.vars (s.fn H (ds++gs)).vars pv)
  (Y:before=pa++pv) (hb:Below W.heap.size W W')
  (ad:∀(j:Nat) (t:TypeId) (r:Value),f.resultTypes[j]? = some t->(v.resultList f.resultTypes.size)[j]? = some r->Value.okWide P W' .any 0 t r) :
  s.post enc P f apart fresh handsOn again W args v W':=by
 have aa:∀p∈before,p.block<W.heap.size:=fun p X=>hW.lt p X;have hold:∀p∈before,(fun b=>decide (b<W.heap.size)) p.block=true:=fun p X=>by simpa using aa p X
 refine⟨ds,gs,before,[],pa,pv,hW,Z _ _ _,O _ hold,U _ hold,World.keptBut_mono (fun p X=>⟨X,?_⟩) (hb.frame (·∈before)),fun _ =>?_⟩
 ·rw[Y,agV]at X;exact Or.inr X
 ·obtain⟨_,_,_,_,_,hz,hn⟩:=hW;refine⟨ad,_,_,([]++pa)++pv,⟨[]++pa,pv,trodAll_append (O _ (fun _ _=>rfl)) (Z _ _ _),U _ (fun _ _=>rfl),rfl,?_,?_⟩,?_⟩
  ·intro b off X;have ab:MemPlace.cell b off∈before:=by rw[Y];simpa using X
   rw[hb.frozen (aa _ ab)];exact hz b off ab
  ·intro ha;have:=hn ha;rw[Y]at this;simpa using this
  ·intro p X _;rw[Y];simpa using X
theorem vo (hl:laidOutB P=true) {W W':World} {U:Nat->Bool} : ∀ {X:List TypeId} {vs:List Value} {ds:List (DataW H)} {Y:List MemPlace},(∀t∈X,P.readableRec t=true∧t<P.types.size)->DataW.TrodAll enc P W 0 (fun _=>true) true X vs ds Y ->
  (∀p∈Y,W.sameAt W' p)->(∀p∈Y,U p.block=true)->DataW.TrodAll enc P W' 0 U true X vs ds Y
 | [],[],[],_,_,h,_,_=>h
 | t::X,v::vs,d::ds,_,hr,⟨p,q,h1,h2,e⟩,hs,hp=>by
  subst e;have Z:=hr t (by simp);exact⟨p,q,WideElems.Trod_stays hl Z.1 Z.2 h1 (fun x O=>hs x (afR _ O)) (fun x O=>hp x (afR _ O)),
   vo hl (fun t Z=>hr t (ahe _ Z)) h2 (fun x O=>hs x (afS _ O)) (fun x O=>hp x (afS _ O)),rfl⟩
end
theorem Ya {H:Type} {enc:TypeId×Value->H} {C:Checked} {T:Nat->Option Ty} {f:FuncId} {fn:Func} {s:ChangeSpec} {apart fresh handsOn again:Bool} {tb n:Nat} (hT:gW C.prog T)
  (hl:laidOutB C.prog=true) (hr:(fn.params.toList.all fun t=>C.prog.readableRec t&&decide (t<C.prog.types.size)&&UU T n t)=true)
  (O:fn.resultTypes = #[tb]) (X:C.prog.underlying tb=some .bool) (hv:s.vars=[])
  (hs:∀ds:List (DataW H),ds.length=fn.params.toList.length->(s.fn H ds).results=[.lit (.bool true)]∧(s.fn H ds).args=ds∧(s.fn H ds).vars=[])
  (law:∀Y:List D,Y.length=fn.params.toList.length->(∀(j:Nat) t,fn.params.toList[j]? = some t->∃x,Y[j]? = some x∧sk T n t x)->Pb C.prog f Y (.bool true))
  {W:World} {base:Nat} {args:Array Value} {ds gs:List (DataW H)} {before:List MemPlace}
  (hval:∀(j:Nat) t v,fn.params[j]? = some t->args[j]? = some v->Value.okWide C.prog W .any base t v) (hW:DataW.Whole enc C.prog fn.params.toList s.vars apart W args.toList ds gs before)
  (U:(DataW.weightsEach C.prog (fn.params.toList++s.plain.varTypes C.prog) (ds++gs)).all (·<=reachBytes)=true) (Z:T8 W (fun _=>False)) :
  Calls C.prog f args W fun e W'=>∃v,e=.returned v∧s.post enc C.prog fn apart fresh handsOn again W args v W':=by
 have aa:=hW;obtain⟨p,q,hA,hV,rfl,hfz,ah⟩:=hW;rw[hv]at hV;obtain⟨rfl,rfl⟩:=trodVars_none hV;simp only[afO,age,decide_eq_true_eq]at hr;obtain⟨Y,h1,h2,h3,h4⟩:=FO (P:=C.prog) hT (M:=fun _=>False) (fun b _ _ h=>h) (n:=n) (b0:=base) fn.params.toList args.toList ds p hA
  (fun j t v a b=>hval j t v (by simpa using a) (by simpa using b)) (fun t ht=>(hr t ht).2) (fun k hk=>by
   rw[afO]at U;have ab:s.plain.varTypes C.prog=[]:=by unfold ChangeSpec.plain;simp only[hv];rfl
   rw[ab,ahz,ahz]at U;have h:=U k hk;rw[decide_eq_true_eq]at h;exact h)
 refine (law Y h3 h4 W (fun _=>False) args (fun b h=>h.elim) ⟨by simpa using h1.symm,fun j x hj =>?_,Z⟩).mono fun e W' hG =>?_
 ·obtain⟨v,g1,g2⟩:=h2 j x hj;have ad:args[j]? = some v:=by simpa using g1
  rw[afI,ad];exact g2
 ·obtain⟨v,rfl,hb,ae⟩:=hG;have ag:RP W' (fun _=>False) (.bool true) v:=ae;cases ag;have hlen:ds.length=fn.params.toList.length:=by
   have:∀ {ts:List TypeId} {vs:List Value} {ds:List (DataW H)} {ps:List MemPlace},DataW.TrodAll enc C.prog W 0 (fun _=>true) true ts vs ds ps->ds.length=ts.length:=by
    intro ts
    induction ts with
    | nil=>intro vs ds ps h;cases vs<;>cases ds<;>first|rfl|exact h.elim
    | cons t ts ih =>
     intro vs ds ps h;cases vs with
     | nil=>exact h.elim
     | cons v vs=>cases ds with
      | nil=>exact h.elim
      | cons d ds=>obtain⟨_,_,_,h2,_⟩:=h;simp[ih h2]
   exact this hA
  obtain⟨e1,e2,e3⟩:=hs ds hlen;refine⟨_,rfl,Fj (pa:=p) (pv:=[]) aa ?_ ?_ ?_ (by simp) hb ?_⟩
  ·intro b sp hd;rw[ahz,e1,O];exact trodAll_mk1 ⟨1,by simp[DataW.trod,X,Value.cells]⟩
  ·intro sp hsp;rw[ahz,e2];refine vo hl (fun t ht=>(hr t ht).1) hA (fun x hx=>hb.same (aa.lt x (by simpa using hx))) (fun x hx=>hsp x (by simpa using hx))
  ·intro sp _;rw[ahz,e3,hv];rfl
  ·exact ok_one O rfl (by simp[Value.okWide,X,Cell.okWide,Cell.ok])
theorem QG {H:Type} {enc:TypeId×Value->H} {C:Checked} {os:Os} {T:Nat->Option Ty} {f:FuncId} {fn:Func} {s:ChangeSpec} {conds:List PathCond} {apart fresh handsOn again:Bool} {tb n:Nat}
  (hT:gW C.prog T) (own:ownKnob C.prog.godebug=none) (started:os.Started) (O:C.prog.inits.idxOf? f=none) (Y:C.prog.funcs[f]? = some fn)
  (witness:∃(w:World) (tape:Tape) (i:Input),w.os=os∧(w.forCall tape i).Shaped C.prog∧i.vars=[]∧Input.okWide C.prog (w.forCall tape i) .any w.heap.size f i ∧
   s.pre6 enc C.prog fn conds apart (w.forCall tape i).memory i.args∧({} : Assume).holds C.prog (lone (Frame.enter C.prog f i.args .normal) [] (w.forCall tape i)))
  (hl:laidOutB C.prog=true) (hr:(fn.params.toList.all fun t=>C.prog.readableRec t&&decide (t<C.prog.types.size)&&UU T n t)=true)
  (U:fn.resultTypes = #[tb]) (Z:C.prog.underlying tb=some .bool) (hv:s.vars=[])
  (hs:∀ds:List (DataW H),ds.length=fn.params.toList.length->(s.fn H ds).results=[.lit (.bool true)]∧(s.fn H ds).args=ds∧(s.fn H ds).vars=[])
  (law:∀ar:List D,ar.length=fn.params.toList.length->(∀(j:Nat) t,fn.params.toList[j]? = some t->∃x,ar[j]? = some x∧sk T n t x)->Pb C.prog f ar (.bool true)) (aa:Yw=none:=by rfl) :
  ReturnsInHanded {} C os f .any (s.pre6 enc C.prog fn conds apart) (s.post enc C.prog fn apart fresh handsOn again):=by
 apply returnsInHanded_of_change_sized own started O Y witness;intro W base args ds gs before X hW _ ab _;exact Ya hT hl hr U Z hv hs law X hW ab (fun b hb=>by rw[aa]at hb;cases hb)
end Go.Proofs.YtoioidmblipblaaGreat.Am
namespace Go.Proofs.YtoioidmblipblaaGreat.Am
open Go.RowKit
theorem acN {T:Nat->Option Ty} {n t:Nat} {O:List D} (h:O.length=[t].length) (hs:∀(j:Nat) u,[t][j]? = some u->∃x,O[j]? = some x∧sk T n u x):∃a,O=[a]∧sk T n t a:=by
 match O,h with
 | [a],_=>obtain⟨x,h1,h2⟩:=hs 0 t rfl;cases h1;exact⟨a,rfl,h2⟩
theorem acO {T:Nat->Option Ty} {n t:Nat} {O:List Nat} {U:List D} (h:U.length=(t::O).length) (hs:∀(j:Nat) u,(t::O)[j]? = some u->∃x,U[j]? = some x∧sk T n u x) :
  ∃a afy,U=a::afy∧sk T n t a∧afy.length=O.length∧∀(j:Nat) u,O[j]? = some u->∃x,afy[j]? = some x∧sk T n u x:=by
 match U,h with
 | a::afy,h =>
  obtain⟨x,h1,h2⟩:=hs 0 t rfl;cases h1;exact⟨a,afy,rfl,h2,by simpa using h,fun j u hu=>by simpa using hs (j+1) u (by simpa using hu)⟩
section
variable {T:Nat->Option Ty} {n t:Nat} {τ:Ty} {d:D}
theorem ZC {k:IntKind} (h:sk T (n+1) t d) (O:T t=some τ) (U:τ.ds=.int k):∃i,d=.int k i∧(Lit.int k i).wf=true:=by
 simp only[sk,O,U,Ds.nM,agd,if_false,A6]at h;obtain⟨_,i,X,hw⟩:=h;cases X;exact⟨i,rfl,hw⟩
theorem Pp {fs:List (Nat×Nat)} (h:sk T n t d) (O:T t=some τ) (U:τ.ds=.struct fs):∃xs,d=.agg xs∧A6 T n t xs:=by
 simp only[sk,O,U,Ds.nM,if_true]at h;exact h
theorem aas {k:IntKind} {xs:List D} (h:A6 T (n+1) t xs) (O:T t=some τ) (U:τ.ds=.int k):∃i,xs=[.int k i]∧(Lit.int k i).wf=true:=by
 simp only[A6,O,U]at h;exact h.2
theorem aat {xs:List D} (h:A6 T (n+1) t xs) (O:T t=some τ) (U:τ.ds=.str):∃s:ByteArray,xs=[.str s]∧s.size<=140737488351232:=by
 simp only[A6,O,U]at h;exact h.2
theorem Vk {e:Nat} {φ:Ty} {xs:List D} (h:A6 T (n+1) t xs) (U:T t=some τ) (X:τ.ds=.slice e) (Y:T e=some φ) :
  ∃len O,xs=[.sl false false len O]∧len*φ.bytes<=140737488351232∧O.length=len*φ.size∧∀i,i<len->A6 T n e ((O.drop (i*φ.size)).take φ.size):=by
 simp only[A6,U,X]at h;obtain⟨_,len,O,ψ,h1,h3,h4,h5,h6⟩:=h;rw[Y]at h4;cases h4;exact⟨len,O,h1,h3,h5,h6⟩
theorem Rb {fs:List (Nat×Nat)} {xs:List D} (h:A6 T (n+1) t xs) (O:T t=some τ) (U:τ.ds=.struct fs):xs.length=τ.size∧∀f∈fs,∃φ,T f.1=some φ∧A6 T n f.1 ((xs.drop f.2).take φ.size):=by
 simp only[A6,O,U]at h;exact h
end
end Go.Proofs.YtoioidmblipblaaGreat.Am
namespace Go.Proofs.YtoioidmblipblaaGreat.Am
open Go.RowKit Go.Proofs.YtoioidmblipblaaGreat.P
def AF {α:Type} (T:Nat->Option Ty) (n t:Nat) (E:iM α) (ok:α->Prop):Prop:=(∃φ,T t=some φ∧φ.size=E.size)∧∀xs,A6 T n t xs->∃x,xs=E.cells x∧ok x
section
variable {T:Nat->Option Ty} {n t:Nat} {τ:Ty}
theorem opI {k:IntKind} (O:T t=some τ) (U:τ.ds=.int k) (hs:τ.size=1):AF T (n+1) t (eI k) (fun i=>(Lit.int k i).wf=true):=⟨⟨τ,O,hs⟩,fun _ h=>aas h O U⟩
theorem ac9 (O:T t=some τ) (U:τ.ds=.str) (hs:τ.size=1):AF T (n+1) t W2 (fun s=>s.size<=140737488351232):=⟨⟨τ,O,hs⟩,fun _ h=>aat h O U⟩
theorem abr {α:Type} (E:iM α) (ok:α->Prop):∀(len:Nat) (O:List D),O.length=len*E.size->(∀i,i<len->∃x,(O.drop (i*E.size)).take E.size=E.cells x∧ok x)->∃l:List α,l.length=len∧O=ab E l∧∀x∈l,ok x
 | 0,O,Y,_=>⟨[],rfl,by simpa [ab] using Y,fun x X=>by simp at X⟩
 | len+1,O,Y,h=>by
  obtain⟨x,X,Z⟩:=h 0 (by omega);obtain⟨l,h1,h2,h3⟩:=abr E ok len (O.drop E.size) (by rw[afX,Y,agC];omega) (fun i hi=>by
   obtain⟨y,U,aa⟩:=h (i+1) (by omega);refine⟨y,?_,aa⟩;rw[ahv];rw[agC,Nat.add_comm]at U;exact U)
  rw[ahx,ag7]at X;refine⟨x::l,by simp[h1],?_,fun y U =>?_⟩
  ·rw[bh,<- h2,<- X,ahw]
  ·rcases afK.1 U with rfl|U
   ·exact Z
   ·exact h3 y U
theorem Qz {α:Type} {E:iM α} {ok:α->Prop} {e:Nat} (O:T t=some τ) (Y:τ.ds=.slice e) (hs:τ.size=1) {B:Nat} (U:(T e).map (·.bytes)=some B) (he:AF T n e E ok):AF T (n+1) t (jM E) (fun l=>l.length*B<=140737488351232∧∀x∈l,ok x):=by
 obtain⟨⟨φ,X,Z⟩,hx⟩:=he;have hb:φ.bytes=B:=by rw[X]at U;simpa using U
 refine⟨⟨τ,O,hs⟩,fun xs h =>?_⟩;obtain⟨len,ys,h1,h2,h3,h4⟩:=Vk h O Y X;rw[Z]at h3 h4;rw[hb]at h2;obtain⟨l,k1,k2,k3⟩:=abr E ok len ys h3 fun i hi=>hx _ (h4 i hi);subst k1 k2;exact⟨l,h1,h2,k3⟩
def OpF {α:Type} (T:Nat->Option Ty) (n:Nat) (fs:List (Nat×Nat)) (o:Nat) (E:iM α) (ok:α->Prop):Prop :=
 ∀xs:List D,xs.length=o+E.size->(∀f∈fs,∃φ,T f.1=some φ∧A6 T n f.1 ((xs.drop f.2).take φ.size))->∃x,xs.drop o=E.cells x∧ok x
theorem NY {α:Type} {E:iM α} {ok:α->Prop} {O o:Nat} (h:AF T n O E ok):OpF T n [(O,o)] o E ok:=by
 obtain⟨⟨φ,U,Z⟩,X⟩:=h;intro xs hl Y;obtain⟨ψ,h1,h2⟩:=Y (O,o) (by simp);cases U.symm.trans h1;rw[ag6 (by rw[afX];omega)]at h2;exact X _ h2
theorem yT {α β:Type} {E:iM α} {ok:α->Prop} {U:iM β} {O:β->Prop} {X o o':Nat} {fs:List (Nat×Nat)} (h:AF T n X E ok) (ho:o'=o+E.size) (h':OpF T n fs o' U O):OpF T n ((X,o)::fs) o (lF E U) (fun x=>ok x.1∧O x.2):=by
 subst ho;obtain⟨⟨φ,hφ,hz⟩,hx⟩:=h;intro xs hl hf;obtain⟨ψ,h1,h2⟩:=hf (X,o) (by simp);cases hφ.symm.trans h1;obtain⟨x,Y,Z⟩:=hx _ h2;obtain⟨y,aa,ab⟩:=h' xs (by rw[hl];show o+(E.size+U.size)=_;omega) fun f ad=>hf f (ahe _ ad);refine⟨(x,y),?_,Z,ab⟩;show xs.drop o=E.cells x++U.cells y;rw[<- Y,<- aa,<- hz,<- ahv,ahw]
theorem opS {α β:Type} {E:iM β} {ok:β->Prop} {f:α->β} {X:∀x y,f x=f y->x=y} {g:β->α} {fs:List (Nat×Nat)} (O:T t=some τ) (Y:τ.ds=.struct fs) (hs:τ.size=E.size) (U:∀y,f (g y)=y) (h:OpF T n fs 0 E ok):AF T (n+1) t (AI E f X) (fun x=>ok (f x)):=by
 refine⟨⟨τ,O,hs⟩,fun xs Z =>?_⟩;obtain⟨h1,h2⟩:=Rb Z O Y;obtain⟨y,h3,h4⟩:=h xs (by rw[h1,hs,agt]) h2;refine⟨g y,?_,?_⟩
 ·show xs=E.cells (f (g y));rw[U,<- h3,ag7]
 ·show ok (f (g y));rw[U];exact h4
def OpA {α:Type} (T:Nat->Option Ty) (n t:Nat) (A:Arg α) (ok:α->Prop):Prop:=∀d,sk T n t d->∃x,d=A.d x∧ok x
theorem oaI {k:IntKind} (O:T t=some τ) (U:τ.ds=.int k):OpA T (n+1) t (aI k) (fun i=>(Lit.int k i).wf=true):=fun _ h=>ZC h O U
theorem oaS {α:Type} {E:iM α} {ok:α->Prop} {fs:List (Nat×Nat)} (O:T t=some τ) (U:τ.ds=.struct fs) (X:AF T n t E ok):OpA T n t (bt E) ok:=fun d h=>by
 obtain⟨xs,rfl,h1⟩:=Pp h O U;obtain⟨x,h1,h2⟩:=X.2 _ h1;exact⟨x,by rw[h1];rfl,h2⟩
def VM {α:Type} (T:Nat->Option Ty) (n:Nat) (U:List Nat) (A:iU α) (ok:α->Prop):Prop:=∀O:List D,O.length=U.length->(∀(j:Nat) u,U[j]? = some u->∃x,O[j]? = some x∧sk T n u x)->∃x,O=A.ds x∧ok x
theorem aeU {α:Type} {A:Arg α} {ok:α->Prop} (h:OpA T n t A ok):VM T n [t] (dL A) ok:=fun Y O hs=>by
 obtain⟨a,rfl,U⟩:=acN O hs;obtain⟨x,rfl,X⟩:=h a U;exact⟨x,rfl,X⟩
theorem aeV {α β:Type} {A:Arg α} {ok:α->Prop} {B:iU β} {O:β->Prop} {Y:List Nat} (h:OpA T n t A ok) (h':VM T n Y B O):VM T n (t::Y) (gX A B) (fun x=>ok x.1∧O x.2):=fun Z hl hs=>by
 obtain⟨a,Z,rfl,ha,U,X⟩:=acO hl hs;obtain⟨x,rfl,hx⟩:=h a ha;obtain⟨y,rfl,hy⟩:=h' Z U X;exact⟨(x,y),rfl,hx,hy⟩
theorem abX {P:Program} {f:FuncId} {α:Type} {A:iU α} {F:α->Option Bool} {ok:α->Prop} {U:List Nat} (X:VM T n U A ok) (Y:bT P f (dP A F (fun r =>.clean (.bool r)))) (h:∀x,ok x->F x=some true) (O:List D) (Z:O.length=U.length)
  (hs:∀(j:Nat) u,U[j]? = some u->∃x,O[j]? = some x∧sk T n u x):Pb P f O (.bool true):=by
 obtain⟨x,rfl,hx⟩:=X O Z hs;refine Y.calls none _ _ none ?_;rw[cI,h x hx];rfl
end
end Go.Proofs.YtoioidmblipblaaGreat.Am
namespace Go.Proofs.YtoioidmblipblaaGreat.P
open Go.RowKit
def J4 (l:List Int):Option (List Int):=some l
def Bm (l:List Int):Option (List Int):=if l.length*8<=140737488351232 then some (nw l) else none
end Go.Proofs.YtoioidmblipblaaGreat.P
namespace Go.Proofs
open Go.Shelf
def Tryz.MJ:Go.Shelf.Ren:=⟨fun|189=>133|125=>74|257=>146|128=>116|129=>117|294=>148|295=>149|296=>150|297=>151|298=>152|299=>153|216=>154|300=>155|301=>156|328=>157|329=>137|330=>138|331=>158|332=>159|215=>118|343=>160|n=>n,fun|28=>22|3=>3|46=>109|0=>0|51=>138|53=>140|4=>4|183=>131|182=>130|131=>135|5=>5|9=>9|218=>146|222=>150|228=>158|229=>159|n=>n,fun|n=>n⟩
theorem Tryz.SN:Go.Proofs.Lays.n189 prog Tryz.MJ:={
 mixed:=by kernel_rfl
 f125:=Tryz.func74.trans (congrArg some (by kernel_rfl))
 f128:=Tryz.func116.trans (congrArg some (by kernel_rfl))
 f129:=Tryz.func117.trans (congrArg some (by kernel_rfl))
 f189:=Tryz.func133.trans (congrArg some (by kernel_rfl))
 f215:=Tryz.func118.trans (congrArg some (by kernel_rfl))
 f216:=Tryz.func154.trans (congrArg some (by kernel_rfl))
 f257:=Tryz.func146.trans (congrArg some (by kernel_rfl))
 f294:=Tryz.func148.trans (congrArg some (by kernel_rfl))
 f295:=Tryz.func149.trans (congrArg some (by kernel_rfl))
 f296:=Tryz.func150.trans (congrArg some (by kernel_rfl))
 f297:=Tryz.func151.trans (congrArg some (by kernel_rfl))
 f298:=Tryz.func152.trans (congrArg some (by kernel_rfl))
 f299:=Tryz.func153.trans (congrArg some (by kernel_rfl))
 f300:=Tryz.func155.trans (congrArg some (by kernel_rfl))
 f301:=Tryz.func156.trans (congrArg some (by kernel_rfl))
 f328:=Tryz.func157.trans (congrArg some (by kernel_rfl))
 f329:=Tryz.func137.trans (congrArg some (by kernel_rfl))
 f330:=Tryz.func138.trans (congrArg some (by kernel_rfl))
 f331:=Tryz.func158.trans (congrArg some (by kernel_rfl))
 f332:=Tryz.func159.trans (congrArg some (by kernel_rfl))
 f343:=Tryz.func160.trans (congrArg some (by kernel_rfl))
 t0:=underlying0
 a0:=isAgg0
 z0:=sizeOf0
 v0:=zeroValue0
 t3:=underlying3
 a3:=isAgg3
 z3:=sizeOf3
 v3:=zeroValue3
 t4:=underlying4
 a4:=isAgg4
 z4:=sizeOf4
 v4:=zeroValue4
 t5:=underlying5
 a5:=isAgg5
 z5:=sizeOf5
 v5:=zeroValue5
 t9:=underlying9
 a9:=isAgg9
 z9:=sizeOf9
 v9:=zeroValue9
 t28:=underlying22
 a28:=isAgg22
 z28:=sizeOf22
 v28:=zeroValue22
 t46:=underlying109
 a46:=isAgg109
 z46:=sizeOf109
 v46:=zeroValue109
 t51:=underlying138
 a51:=isAgg138
 z51:=sizeOf138
 v51:=zeroValue138
 t53:=underlying140
 a53:=isAgg140
 z53:=sizeOf140
 v53:=zeroValue140
 t131:=underlying135
 a131:=isAgg135
 z131:=sizeOf135
 v131:=zeroValue135
 t182:=underlying130
 a182:=isAgg130
 z182:=sizeOf130
 v182:=zeroValue130
 t183:=underlying131
 a183:=isAgg131
 z183:=sizeOf131
 v183:=zeroValue131
 t218:=underlying146
 a218:=isAgg146
 z218:=sizeOf146
 v218:=zeroValue146
 t222:=underlying150
 a222:=isAgg150
 z222:=sizeOf150
 v222:=zeroValue150
 t228:=underlying158
 a228:=isAgg158
 z228:=sizeOf158
 v228:=zeroValue158
 t229:=underlying159
 a229:=isAgg159
 z229:=sizeOf159
 v229:=zeroValue159 }
def Tryz.QL:Go.Shelf.Ren:=⟨fun|6=>42|15=>74|14=>73|28=>116|29=>117|20=>108|21=>109|22=>110|23=>111|24=>112|25=>113|26=>114|27=>115|46=>136|47=>137|48=>138|49=>139|50=>140|57=>147|n=>n,fun|22=>26|24=>65|25=>79|3=>3|39=>109|0=>0|53=>138|55=>140|4=>4|46=>131|45=>130|50=>135|5=>5|9=>9|66=>146|70=>150|76=>158|77=>159|n=>n,fun|n=>n⟩
theorem Tryz.Yl:Go.Proofs.SlLaysF0.n6 prog Tryz.QL:={
 mixed:=by kernel_rfl
 f6:=⟨Tryz.f42.name,by decide,Tryz.func42.trans (congrArg some (by kernel_rfl))⟩
 f14:=⟨Tryz.f73.name,by decide,Tryz.func73.trans (congrArg some (by kernel_rfl))⟩
 f15:=Tryz.func74.trans (congrArg some (by kernel_rfl))
 f20:=⟨Tryz.f108.name,by decide,Tryz.func108.trans (congrArg some (by kernel_rfl))⟩
 f21:=⟨Tryz.f109.name,by decide,Tryz.func109.trans (congrArg some (by kernel_rfl))⟩
 f22:=⟨Tryz.f110.name,by decide,Tryz.func110.trans (congrArg some (by kernel_rfl))⟩
 f23:=⟨Tryz.f111.name,by decide,Tryz.func111.trans (congrArg some (by kernel_rfl))⟩
 f24:=⟨Tryz.f112.name,by decide,Tryz.func112.trans (congrArg some (by kernel_rfl))⟩
 f25:=⟨Tryz.f113.name,by decide,Tryz.func113.trans (congrArg some (by kernel_rfl))⟩
 f26:=⟨Tryz.f114.name,by decide,Tryz.func114.trans (congrArg some (by kernel_rfl))⟩
 f27:=⟨Tryz.f115.name,by decide,Tryz.func115.trans (congrArg some (by kernel_rfl))⟩
 f28:=Tryz.func116.trans (congrArg some (by kernel_rfl))
 f29:=Tryz.func117.trans (congrArg some (by kernel_rfl))
 f46:=⟨Tryz.f136.name,by decide,Tryz.func136.trans (congrArg some (by kernel_rfl))⟩
 f47:=Tryz.func137.trans (congrArg some (by kernel_rfl))
 f48:=Tryz.func138.trans (congrArg some (by kernel_rfl))
 f49:=⟨Tryz.f139.name,by decide,Tryz.func139.trans (congrArg some (by kernel_rfl))⟩
 f50:=⟨Tryz.f140.name,by decide,Tryz.func140.trans (congrArg some (by kernel_rfl))⟩
 f57:=⟨Tryz.f147.name,by decide,Tryz.func147.trans (congrArg some (by kernel_rfl))⟩
 t0:=underlying0
 a0:=isAgg0
 z0:=sizeOf0
 v0:=zeroValue0
 t3:=underlying3
 a3:=isAgg3
 z3:=sizeOf3
 v3:=zeroValue3
 t4:=underlying4
 a4:=isAgg4
 z4:=sizeOf4
 v4:=zeroValue4
 t5:=underlying5
 a5:=isAgg5
 z5:=sizeOf5
 v5:=zeroValue5
 t9:=underlying9
 a9:=isAgg9
 z9:=sizeOf9
 v9:=zeroValue9
 t22:=underlying26
 a22:=isAgg26
 z22:=sizeOf26
 v22:=zeroValue26
 t25:=underlying79
 a25:=isAgg79
 z25:=sizeOf79
 v25:=zeroValue79
 t39:=underlying109
 a39:=isAgg109
 z39:=sizeOf109
 v39:=zeroValue109
 t45:=underlying130
 a45:=isAgg130
 z45:=sizeOf130
 v45:=zeroValue130
 t46:=underlying131
 a46:=isAgg131
 z46:=sizeOf131
 v46:=zeroValue131
 t50:=underlying135
 a50:=isAgg135
 z50:=sizeOf135
 v50:=zeroValue135
 t53:=underlying138
 a53:=isAgg138
 z53:=sizeOf138
 v53:=zeroValue138
 t55:=underlying140
 a55:=isAgg140
 z55:=sizeOf140
 v55:=zeroValue140
 t66:=underlying146
 a66:=isAgg146
 z66:=sizeOf146
 v66:=zeroValue146
 t70:=underlying150
 a70:=isAgg150
 z70:=sizeOf150
 v70:=zeroValue150
 t76:=underlying158
 a76:=isAgg158
 z76:=sizeOf158
 v76:=zeroValue158
 t77:=underlying159
 a77:=isAgg159
 z77:=sizeOf159
 v77:=zeroValue159 }
end Go.Proofs
namespace Go.Proofs.YtoioidmblipblaaGreat.Am
open Go.RowKit Go.Proofs.YtoioidmblipblaaGreat.P
theorem Rz {w:World} {M:Nat->Prop} {k:IntKind} {l:List Int} {u:Value} (h:RP w M (.sl false false l.length (ab (eI k) l)) u) :
  ∃A c,u=.slice A l.length c∧l.length<=c∧c<=maxLen∧(A=none->l.length=0∧c=0)∧(l≠[]->∃b o,A=some ⟨b,o,none⟩∧b<w.heap.size∧¬M b∧∀j,j<l.length->w.cell? ⟨b,o+j,none⟩=some (.int k (l.getD j 0))):=by
 cases h with
 | sl A c nl tight n xs us h1 h2 h3 h4 h5 h6 h7 h8 =>
  refine⟨A,c,rfl,h1,h2,h4,fun X =>?_⟩;have O:ab (eI k) l≠[]:=by
   intro he;have:=congrArg List.length he;rw[nL]at this;exact X (agY this)
  obtain⟨b,o,rfl,Y,Z,hc⟩:=h6 O;refine⟨b,o,rfl,Y,Z,fun j U =>?_⟩;rw[hc j (by rw[nL];exact U)];have hg:(ab (eI k) l)[j]? = some (.int k (l.getD j 0)):=by rw[sW];simp[List.getD,U]
  rw[abD (h7 j _ hg)]
end Go.Proofs.YtoioidmblipblaaGreat.Am
namespace Go.Proofs.YtoioidmblipblaaGreat.Am
open Go.RowKit Go.Shelf Go.Proofs.YtoioidmblipblaaGreat.P
attribute [local go_sem] Oper.semAt_some
def upto (f:Nat->Int) (k:Nat):List Int:=(List.range k).map f
theorem Iz (f:Nat->Int) (k:Nat):upto f (k+1)=upto f k++[f k]:=by simp[upto,List.range_succ]
theorem OW (f:Nat->Int) (k:Nat):(upto f k).length=k:=by simp[upto]
theorem Zj (zs:List Int):upto (fun j=>zs[j]?.getD 0) zs.length=zs:=by
 apply List.ext_getElem
 ·simp[upto]
 ·intro i h1 h2;simp[upto,h2]
theorem Vn (zs:List Int) {k:Nat} (hk:k<=zs.length):upto (fun j=>zs[j]?.getD 0) k=zs.take k:=by
 apply List.ext_getElem
 ·simp[upto,hk]
 ·intro i h1 h2;have:i<zs.length:=by simp[upto]at h1;omega
  simp[upto,this]
set_option maxRecDepth 100000 in
set_option maxHeartbeats 2000000 in
theorem Rg (F:Fence) (n:Nat) (h7:F.fn 134) (hro:F.round=none) (hn:1<=n) (l Bs Bo n₀ b off len cap:Nat) (zs:List Int) (hreach:len*8<=140737488351232) (hb:b<n₀) (J Jx:List Int->World->Prop)
  (hY:∀pre x W,J pre W->pre.length<len->YieldAt F (n-1) prog l #[.int .i64 x] W fun e W' =>
   (e=.returned (.bool true)∧J (pre++[x]) W'∧Below n₀ W W')∨(e=.returned (.bool false)∧Jx (pre++[x]) W'))
  (W:World) (hBs:W.cell? ⟨Bs,Bo,none⟩=some (.slice (some ⟨b,off,none⟩) len cap)) (hc:∀j,j<len->W.cell? ⟨b,off+j,none⟩=some (.int .i64 (zs[j]?.getD 0))) (h0:J [] W) :
  CallsIn F n prog 134 #[.func (.yield l) #[] #[],.pointer (some ⟨Bs,Bo,none⟩)] W fun e W'=>(∃v,e=.returned v) ∧
   ((∃ys,ys=upto (fun j=>zs[j]?.getD 0) len∧J ys W')∨(∃pre,(∃k,k<=len∧pre=upto (fun j=>zs[j]?.getD 0) k)∧Jx pre W')):=by
 refine callsIn_of_wp func134 rfl h7 ?_ hro;simp only[ntmps134,agZ,List.length_cons,List.length_nil,Nat.reduceAdd,Nat.reduceSub,ais,Array.replicate_zero,aiu,aiv,List.nil_append,List.cons_append]
 gi_wp2
 gi_loopw [7] (fun i wr=>∃k:Nat,k<=len∧i=.int .i64 k∧J (upto (fun j=>zs[j]?.getD 0) k) wr∧Below n₀ W wr)
  (fun i _=>len-(intOf i).toNat)
 case atStart=>exact⟨0,afE _,rfl,h0,Below.refl _ _⟩
 case round =>
  obtain⟨k,hk,rfl,hJs,hnx⟩:=hrel;have hcx:k<len->wr.cell? ⟨b,off+k,none⟩=some (.int .i64 (zs[k]?.getD 0)):=fun h=>(hnx.cell (p:=⟨b,off+k,none⟩) hb).trans (hc k h)
  by_cases hlt:k<len
  ·obtain⟨fn,tmps,assign,body,hy,hR⟩:=hY _ (zs[k]?.getD 0) wr hJs (by rw[OW];exact hlt);have hcx':=hcx hlt
   gi_wp2
   apply hR.mono;rintro e W3 (⟨rfl,hJ3,hk3⟩|⟨rfl,hJx3⟩)
   ·gi_wp2
    go_roundw
    case rel=>exact⟨k+1,by omega,by simp,by rw[Iz];exact hJ3,hnx.trans hk3⟩
    case measure=>simp[intOf];omega
   ·gi_wp2
    refine bodyPost_ret (results_none rfl _ _ _) rfl ?_;exact⟨⟨_,rfl⟩,.inr ⟨_,⟨k+1,by omega,(Iz _ _).symm⟩,hJx3⟩⟩
  ·obtain rfl:k=len:=by omega
   gi_wp2
   go_end0
   exact⟨⟨_,rfl⟩,.inl ⟨_,rfl,hJs⟩⟩
set_option maxRecDepth 100000 in
set_option maxHeartbeats 1000000 in
theorem EM (F:Fence) (n:Nat) (h7:F.fn 134) (hro:F.round=none) (l Bs Bo cap:Nat) (A:Option Addr) (J:List Int->World->Prop) (W:World) (hBs:W.cell? ⟨Bs,Bo,none⟩=some (.slice A 0 cap)) (h0:J [] W) :
  CallsIn F n prog 134 #[.func (.yield l) #[] #[],.pointer (some ⟨Bs,Bo,none⟩)] W fun e W'=>(∃v,e=.returned v)∧J [] W':=by
 refine callsIn_of_wp func134 rfl h7 ?_ hro;simp only[ntmps134,agZ,List.length_cons,List.length_nil,Nat.reduceAdd,Nat.reduceSub,ais,Array.replicate_zero,aiu,aiv,List.nil_append,List.cons_append]
 gi_wp2
 gi_loopw [7] (fun i wr=>i=.int .i64 0∧J [] wr) (fun _ _=>0)
 case atStart=>exact⟨rfl,h0⟩
 case round =>
  obtain⟨rfl,hJs⟩:=hrel
  gi_wp2
  go_end0
  exact⟨⟨_,rfl⟩,hJs⟩
def Ints (X:Nat) (W:World) (U:Value) (O:List Int):Prop :=
 (∃A c,U=.slice A 0 c∧O=[])∨∃b off cap,U=.slice (some ⟨b,off,none⟩) O.length cap∧b<X∧∀j,j<O.length->W.cell? ⟨b,off+j,none⟩=some (.int .i64 (O[j]?.getD 0))
theorem Ints.below {O:Nat} {A B:World} (h:Below O A B) {U:Value} {X:List Int} : Ints O A U X->Ints O B U X
 | .inl e =>.inl e
 | .inr ⟨b,off,cap,e,Y,Z⟩ =>.inr ⟨b,off,cap,e,Y,fun j hj=>(h.cell (p:=⟨b,off+j,none⟩) Y).trans (Z j hj)⟩
theorem J5 (F:Fence) (n:Nat) (h7:F.fn 134) (Y:F.round=none) (hn:1<=n) (X Z n₀:Nat) (sv:Value) (O:List Int) (U:O.length*8<=140737488351232) (w:World) (ab:X<w.heap.size) (ad:n₀<=w.heap.size)
  (hc:w.cell? ⟨X,Z,none⟩=some sv) (hI:Ints n₀ w sv O) :
  SeqStopsK F n prog 134 #[.pointer (some ⟨X,Z,none⟩)] (fun x:Int=>#[Value.int .i64 x]) (Below n₀) (fun ys=>ys=O) (fun pre=>pre <+: O) O.length w:=fun l J Jx W hW _ _ hY h0=>by
 have aa:=(hW.cell (p:=⟨X,Z,none⟩) ab).trans hc;rcases hI.below (hW.mono ad) with⟨A,c,rfl,rfl⟩|⟨b,off,cap,rfl,hb,ae⟩
 ·exact (EM F n h7 Y l X Z _ _ J W aa h0).mono fun e W' ⟨he,hj⟩=>⟨he,.inl ⟨_,rfl,hj⟩⟩
 ·refine (Rg F n h7 Y hn l X Z n₀ b off O.length cap O U hb J Jx hY W aa ae h0).mono ?_;rintro e W' ⟨he,⟨ys,rfl,hj⟩|⟨pre,⟨k,hk,rfl⟩,hj⟩⟩
  ·exact⟨he,.inl ⟨_,Zj O,hj⟩⟩
  ·exact⟨he,.inr ⟨_,by rw[Vn O hk];exact List.take_prefix _ _,hj⟩⟩
theorem acV:(Tryz.prog.info? 3).map (fun i=>(i.zero,i.size,i.bytes))=some (some (.int .i64 0),1,8):=by kernel_rfl
set_option maxRecDepth 100000 in
set_option maxHeartbeats 2000000 in
theorem appendSeq_in (F:Fence) (n:Nat) (h3:F.fn 145) (h7:F.fn 134) (hro:F.round=none) (hn:3<=n) (Bs Bo:Nat) (sv:Value) (zs:List Int) (hreach:zs.length*8<=140737488351232) (w:World)
  (hBs:Bs<w.heap.size) (hc:w.cell? ⟨Bs,Bo,none⟩=some sv) (hI:Ints w.heap.size w sv zs) :
  CallsIn F n prog 145 #[.slice none 0 0,.func (.func 134) #[] #[.pointer (some ⟨Bs,Bo,none⟩)]] w fun e W'=>∃v,e=.returned v∧W'.ownsRow w.heap.size 3 1 v zs.length (zs.map (Value.int .i64))∧(v=.slice none 0 0↔zs=[])∧Below w.heap.size w W':=by
 have h1:1<=n:=by omega
 obtain⟨i0,hi,hz0,hz1,hz2⟩:=info_parts acV;refine callsIn_of_wp_marks func145 rfl h3 ?_ hro;simp only[ntmps145,agZ,List.length_cons,List.length_nil,Nat.reduceAdd,Nat.reduceSub,ais,Array.replicate_zero,aiu,aiv,List.nil_append,List.cons_append]
 gi_wp2
 have bO:=Boxed.new w 22 (.slice none 0 0);have hB0:Below w.heap.size w (w.alloc (.cells #[.slice none 0 0] 22)):=(Below.refl _ w).alloc (afD _) _;refine wpIn_rangeFunc_ownG hro h1 (gf:=134) (lb:=#[.pointer (some ⟨Bs,Bo,none⟩)]) rfl h7 (enters_of func134 (by kernel_rfl) rfl)
  (J5 F (n-1) h7 hro (by omega) Bs Bo w.heap.size sv zs hreach _ (by simp;omega) (by simp) ((hB0.cell (p:=⟨Bs,Bo,none⟩) hBs).trans hc) (hI.below hB0)) belowK_t (belowK_b (by simp)) (Below.refl _ _) (fun _=>rfl)
  (fun pre W=>(∃v,Boxed W w.heap.size 22 v∧W.ownsRow w.heap.size 3 1 v pre.length (pre.map (Value.int .i64))∧(v=.slice none 0 0↔pre=[]))∧Below w.heap.size w W)
  (fun _ _ _=>False)
  (OwnFrom.and (Own.from (holdsRow_own w.heap.size w.heap.size 22 3 1 (fun pre=>pre.length) (fun pre=>pre.map (Value.int .i64)) (fun pre v=>v=.slice none 0 0↔pre=[])) _) (ownFrom_below (afD _) (by simp)))
  (fun _ _ _ _ _ hs _ _=>hs)
  ⟨⟨_,bO,World.ownsRow_nil _ _ _ _,by simp⟩,hB0⟩
  (fun x=>{ tmps:=#[.slice none 0 0,.func (.func 134) #[] #[.pointer (some ⟨Bs,Bo,none⟩)],.pointer (some ⟨w.heap.size,0,none⟩),undef,.slice none 0 0,.int .i64 x,.func (.func 134) #[] #[.pointer (some ⟨Bs,Bo,none⟩)],.int .i64 x,undef,undef,undef,undef,undef],defers:=[] }) ?assign ?body ?done ?stop
 case assign =>
  intro l x W K hK
  gi_wp2
  exact hK
 case body =>
  rintro l pre x W ⟨⟨v,hv,hrow,hnil⟩,hB⟩ hlt;have hc:=hv.cell
  gi_wp2_with (gi_at_builtin;refine wpListIn_append_own _ rfl _ _ 22 rfl w.heap.size 3 i0 (.int .i64 0) 1 8 underlying22 hi hz0 hz1 hz2 rfl (by decide) _ _ _ rfl (hrow.alloc _) ⟨W.heap.size,0,none⟩ 1 1 [.int .i64 x] rfl rfl (cell_one_new _ _ _) (by simp[Value.oneCell']) (by unfold maxLen;omega) (by omega) (by have:=hB.size;simp;omega) ?_;intro v' w1 hown' hgrow _;obtain⟨g',cap',rfl⟩:=ownsRow_succ hown';obtain⟨hv1,hv2,hr2,hk2,hb2⟩:=hv.appended (by decide) hrow hB.size (afD _) hown' hgrow;have hc1:=hv1.cell;have hf1:=hv1.frozen)
  exact⟨hk2.from _,hb2,⟨_,hv2,by simpa using hr2,by simp⟩,hB.trans hb2⟩
 case done =>
  rintro D ys W hD rfl ⟨⟨v,hv,hrow,hnil⟩,hB⟩ hK;have hc:=hv.cell
  gi_wp2
  refine⟨by simp,.inl ⟨_,_,rfl,run_takeDeferred hK,?_⟩⟩;exact⟨_,results_tmp rfl _ _ _,v,rfl,ownsRow_putObj hrow _ hK rfl,hnil,hB.trans (belowK_b (w:=w) (afD _) W D _ _ (by simp at hD;omega) hK rfl rfl)⟩
 case stop =>
  rintro D c pre W _ _ h _;exact h.elim
set_option maxHeartbeats 1000000 in
theorem collect_in (F:Fence) (n:Nat) (h2:F.fn 132) (h3:F.fn 145) (h7:F.fn 134) (hro:F.round=none) (hn:4<=n) (Bs Bo:Nat) (sv:Value) (zs:List Int) (hreach:zs.length*8<=140737488351232) (w:World)
  (hBs:Bs<w.heap.size) (hc:w.cell? ⟨Bs,Bo,none⟩=some sv) (hI:Ints w.heap.size w sv zs) :
  CallsIn F n prog 132 #[.func (.func 134) #[] #[.pointer (some ⟨Bs,Bo,none⟩)]] w fun e W'=>∃v,e=.returned v∧W'.ownsRow w.heap.size 3 1 v zs.length (zs.map (Value.int .i64))∧(v=.slice none 0 0↔zs=[])∧Below w.heap.size w W':=by
 have h1:1<=n:=by omega
 refine callsIn_of_wp func132 rfl h2 ?_ hro;simp only[ntmps132,agZ,List.length_cons,List.length_nil,Nat.reduceAdd,Nat.reduceSub,ais,Array.replicate_zero,aiu,aiv,List.nil_append,List.cons_append]
 gi_wp2_with (gi_at_call 145;refine (appendSeq_in F (n-1) h3 h7 hro (by omega) Bs Bo sv zs hreach _ hBs hc hI).mono ?_;rintro e w' ⟨v,rfl,hrow,hnil,hb⟩)
 go_ret
 exact⟨v,rfl,hrow,hnil,hb⟩
theorem aav (a:Option Addr) (len cap:Nat) (w:World) :
  Calls prog 102 #[.slice a len cap] w fun e w'=>e=.returned (.func (.func 134) #[] #[.pointer (some ⟨w.heap.size,0,none⟩)])∧w'=w.alloc (.cells #[.slice a len cap] 22):=by
 go_enter func102,ntmps102
 go_wp2
 go_ret
 exact⟨rfl,rfl⟩
set_option maxHeartbeats 1000000 in
theorem aap (Bs Bo:Nat) (sv:Value) (zs:List Int) (hreach:zs.length*8<=140737488351232) (w:World) (hBs:Bs<w.heap.size) (hc:w.cell? ⟨Bs,Bo,none⟩=some sv) (hI:Ints w.heap.size w sv zs) :
  Calls prog 101 #[.func (.func 134) #[] #[.pointer (some ⟨Bs,Bo,none⟩)]] w fun e w'=>∃v,e=.returned v∧Below w.heap.size w w' ∧
   ((zs=[]∧v=.slice none 0 0)∨∃g cap cs,v=.slice (some ⟨g,0,none⟩) zs.length cap∧w.heap.size<=g∧w'.heap[g]? = some (.cells cs 3 (0,0))∧zs.length<=cap∧cap<=maxLen∧cs.size=cap∧∀j,j<zs.length->cs.getD j undef=.int .i64 ((nw zs).getD j 0)):=by
 refine (callsIn_wide (n:=6)).1 ?_;have hN:(1:Nat)<=6:=by omega
 have cC:=collect_in Fence.wide 5 trivial trivial trivial rfl (by omega) Bs Bo sv zs hreach w hBs hc hI;refine callsIn_of_wp func101 rfl trivial ?_ rfl;simp only[ntmps101,agZ,List.length_cons,List.length_nil,Nat.reduceAdd,Nat.reduceSub,ais,Array.replicate_zero,aiu,aiv,List.nil_append,List.cons_append];have hf1:Fence.wide.fn 132:=trivial;have hf2:Fence.wide.fn 133:=trivial;have cS:acK prog 133:=fun blk off cap zs w hH hb hl=>Any.slices_Sort_int Tryz.SN blk off cap zs w hH hb hl
 by_cases hz:zs=[]
 ·subst hz
  gi_wp2_with (first
   | (gi_at_call 132;refine cC.mono ?_;clear cC;rintro e w' ⟨v,rfl,hrow,hnil,hb⟩;obtain rfl:v=.slice none 0 0:=hnil.2 rfl)
   | (gi_at_call 133;refine (callsIn_wide.2 (Any.slices_Sort_int_none Tryz.SN _ _ _)).mono ?_;rintro e2 w2 ⟨rfl,rfl⟩))
  go_ret
  first|exact⟨_,rfl,hb,.inl rfl⟩|exact⟨_,rfl,hb,.inl ⟨rfl,rfl⟩⟩
 ·gi_wp2_with (gi_at_call 132;refine cC.mono ?_;clear cC;rintro e w' ⟨v,rfl,hrow,hnil,hb⟩;obtain⟨g,cap,cur,rfl,k1,k2,k3,k4,k5,k6⟩:∃g cap cur,v=.slice (some ⟨g,0,none⟩) zs.length cap∧w.heap.size<=g∧w'.heap[g]? = some (.cells cur 3 (0,0))∧zs.length<=cap∧cap<=maxLen∧cur.size=cap*1∧cur.toList.take (zs.length*1)=zs.map (Value.int .i64):=hrow.2.resolve_left (fun hv=>hz (hnil.1 hv.1)))
  rw[Nat.mul_one]at k5 k6;have hcur:∀j,j<zs.length->cur[j]? = some (.int .i64 (zs.getD j 0)):=by
   intro j hj;have:(cur.toList.take zs.length)[j]? = (zs.map (Value.int .i64))[j]?:=by rw[k6]
   rw[afT,if_pos hj,afA,agw]at this;rw[this];simp[List.getD,hj]
  have hH:Go.Sort.Holds (Value.int .i64) w' g 0 zs.toArray:=by
   intro j hj;simp only[agZ]at hj;refine⟨?_,by simp[World.frozen?,k2]⟩;simp only[World.cell?,k2,agt];rw[hcur j hj];simp[List.getD,hj]
  have hlt:g<w'.heap.size:=(afH.1 k2).1
  gi_wp2_with (gi_at_call 133;refine (callsIn_wide.2 (cS g 0 cap zs w' hH hlt (by omega))).mono ?_;rintro e2 w2 ⟨rfl,q,os,rfl⟩)
  go_ret
  refine⟨_,rfl,?_,.inr ⟨g,cap,Go.Sort.putCells (Value.int .i64) 0 (nw zs).toArray cur,rfl,k1,?_,k3,k4,?_,fun j hj =>?_⟩⟩
  ·refine⟨hb.os,hb.tape,hb.output,afF hb.size (by simp[Go.Sort.grow,Go.Sort.ahead]),fun k hk =>?_⟩;have hk':k<w'.heap.size:=afG hk hb.size;rw[Go.Sort.heap_grow_old _ _ (by simpa [Go.Sort.ahead] using hk'),D7 (by omega)];exact hb.block k hk
  ·rw[Go.Sort.heap_grow_old _ _ (by simpa [Go.Sort.ahead] using hlt)];exact N3 k2
  ·simp[Go.Sort.putCells,k5]
  ·rw[JF (by omega),if_pos (by rw[nY];omega),agq]
theorem Vq:bT prog 102 (dP (dL (mG (eI .i64))) J4 (fun r =>.clean (.clo 134 0 [.ip [.sl false false r.length (ab (eI .i64) r)]]))) where
 callable:=⟨_,func102,by kernel_rfl,by kernel_rfl⟩
 calls lent ds rk out hg:=by
  obtain⟨rfl,rfl,l,r,rfl,hr,rfl⟩:=qq hg;cases hr;intro w M vs hM O;have Y:vs.size=1:=O.size;rw[Zl Y];have hu:=O.at_ 0 _ rfl;generalize vs.getD 0 undef=u at *;have X:RP w M (.sl false false l.length (ab (eI .i64) l)) u:=hu;obtain⟨A,c,rfl,-⟩:=Rz X;refine (aav A l.length c w).mono fun e w' ⟨he,hw⟩ =>?_;subst hw;have Z:Below w.heap.size w (w.alloc (.cells #[.slice A l.length c] 22)):=(Below.refl _ w).alloc (afD _) _;have hk:∀b,b<w.heap.size->¬M b->b<(w.alloc (.cells #[.slice A l.length c] 22)).heap.size∧¬M b∧(w.alloc (.cells #[.slice A l.length c] 22)).heap[b]? = w.heap[b]?:=fun b h1 h2=>⟨by simp;omega,h2,Z.block b h1⟩;refine⟨_,he,Z,RP.clo _ 0 _ [.pointer (some ⟨w.heap.size,0,none⟩)] rfl fun j x U =>?_⟩;cases j with
  | succ j=>simp at U
  | zero =>
   simp only[List.getElem?_cons_zero,afM]at U;subst U;refine RP.ip _ ⟨w.heap.size,0,none⟩ (fun _ =>.slice A l.length c) (fun _=>⟨w.heap.size,0,rfl,by simp,fun h=>by have:=hM _ h;omega,fun j U =>?_⟩) (fun j x U =>?_) (fun x hx =>?_)
   ·simp only[List.length_cons,List.length_nil]at U;have:j=0:=by omega
    subst this;exact (aP (heap_alloc_new w _) (j:=0) (by simp)).trans rfl
   ·cases j with
    | succ j=>simp at U
    | zero =>
     simp only[List.getElem?_cons_zero,afM]at U;subst U;exact X.keep hk
   ·simp only[af0]at hx;subst hx;rfl
theorem U9:bT prog 101 (dP (dL (IQ 134 0 (dL (T9 (jM (eI .i64)))))) Bm (fun r =>.fresh 3 1 r.length (ab (eI .i64) r))) where
 callable:=⟨_,func101,by kernel_rfl,by kernel_rfl⟩
 calls lent ds rk out hg:=by
  obtain⟨rfl,rfl,l,r,rfl,hr,rfl⟩:=qq hg;unfold Bm at hr;split at hr;rotate_left
  ·cases hr
  rename_i X;cases hr;intro w M vs hM U;have ae:vs.size=1:=U.size;rw[Zl ae];have hu:=U.at_ 0 _ rfl;generalize vs.getD 0 undef=u at *;have ag:RP w M (.clo 134 0 [.ip [.sl false false l.length (ab (eI .i64) l)]]) u:=hu;cases ag with
  | clo f kk xs us h1 h2 =>
   have hp:=h2 0 _ rfl;have ah:us=[us.getD 0 undef]:=by
    match us,h1 with
    | [x],_=>rfl
   rw[ah];generalize us.getD 0 undef=q at *;cases hp with
   | ip xs ad Z h6 h7 h8 =>
    obtain⟨b,o,rfl,hb,al,Y⟩:=h6 (by simp);have O:=Y 0 (by simp);rw[agc]at O;have hs:=h7 0 _ rfl;have hI:Ints w.heap.size w (Z 0) l:=by
     obtain⟨A,c,hA,k1,k2,k3,k4⟩:=Rz hs;rw[hA]
     by_cases hl:l=[]
     ·subst hl;exact .inl ⟨A,c,rfl,rfl⟩
     ·obtain⟨b',o',rfl,ai,an,aj⟩:=k4 hl;exact .inr ⟨b',o',c,rfl,ai,fun j hj=>by rw[aj j hj];simp[List.getD]⟩
    refine (aap b o (Z 0) l X w hb O hI).mono fun e w' ⟨v,he,ak,hv⟩ =>?_;refine⟨v,he,ak,?_⟩;rcases hv with⟨rfl,rfl⟩|⟨g,cap,cs,rfl,k1,k2,k3,k4,k5,k6⟩
    ·refine .inr ⟨?_,?_,none,rfl⟩
     ·rw[H5];rfl
     ·rw[H5];rfl
    ·refine .inl ⟨(g,0),cap,cs,by rw[nY],.inl k1,k2,by rw[nY];exact k3,k4,by simp only;omega,by rw[nL,nY];simp only;omega,fun j d hj =>?_⟩;have aa:=(af6.1 hj).1;rw[nL,nY]at aa;rw[sW,afB]at hj;obtain⟨z,hz,rfl⟩:=hj;simp only[agt];rw[k6 j aa];have:(nw l).getD j 0=z:=by simp[List.getD,hz]
     rw[this];exact⟨rfl,.int _ _⟩
end Go.Proofs.YtoioidmblipblaaGreat.Am
