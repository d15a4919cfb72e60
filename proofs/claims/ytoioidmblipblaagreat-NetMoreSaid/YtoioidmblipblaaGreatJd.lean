import Derived.Test.YtoioidmblipblaaGreatJc
set_option linter.unusedSimpArgs false
set_option linter.unusedVariables false
noncomputable section
open Go.Proofs.Tryz
namespace Go.Proofs.YtoioidmblipblaaGreat.Am
open Go.RowKit
inductive W where
 | code (c:Code)
 | blk (id:Nat)
section
variable (T:Nat->Option Ty) (Γ:Env) (N F:Nat)
def de:List W->Kt->Kt
 | [],Q=>Q
 | .code c::ws,Q=>fun x t h e=>aeC x (PT T Γ N F c t h e (de ws Q)) (de ws Q x t h e)
 | .blk id::ws,Q=>fun x t h e=>Xa id x t h e (de ws Q)
def kd (ops l:List Oper) (ws:List W) (Q:Kt) (t:Nat->D) (h:Nat->Option Row) (e:Nat):Prop :=
 EU T Γ N e ops l t h fun t h=>de T Γ N F ws Q .normal t h (e+1)
def kK (ops l:List Oper) (ws:List W) (Q:Kt) (t:Nat->D) (h:Nat->Option Row) (e:Nat) (fs:List jZ):Prop :=
 runK T Γ N e ops l t h fs fun t h fs=>CU ops.toArray fs=true∧de T Γ N F ws Q .normal t h (e+1)
def oB (o:Oper) (ops l:List Oper) (ws:List W) (Q:Kt) (t:Nat->D) (h:Nat->Option Row) (e:Nat):Prop :=
 PR T Γ e o t h fun t E=>kd T Γ N F ops l ws Q (eL t o.dst E.val) (aM h E.hw) e
def oC (o:Oper) (ops l:List Oper) (ws:List W) (Q:Kt) (t:Nat->D) (h:Nat->Option Row) (e:Nat) (fs:List jZ):Prop :=
 PR T Γ e o t h fun t E=>kK T Γ N F ops l ws Q (eL t o.dst E.val) (aM h E.hw) e (fs++[⟨bs o (ev t),E.hw.isEmpty⟩])
def vH (d:D) (g:Nat) (want:Bool) (o:Oper) (ops l:List Oper) (ws:List W) (Q:Kt) (t:Nat->D) (h:Nat->Option Row) (e:Nat):Prop :=
 wpS d t g (fun t=>if want then oB T Γ N F o ops l ws Q t h e else kd T Γ N F ops l ws Q (eL t o.dst .skp) h e) (fun t=>if want then kd T Γ N F ops l ws Q (eL t o.dst .skp) h e else oB T Γ N F o ops l ws Q t h e) (fun t=>kd T Γ N F ops l ws Q (eL t o.dst .skp) h e)
def vJ (d:D) (g:Nat) (want:Bool) (o:Oper) (ops l:List Oper) (ws:List W) (Q:Kt) (t:Nat->D) (h:Nat->Option Row) (e:Nat) (fs:List jZ):Prop :=
 wpS d t g (fun t=>if want then oC T Γ N F o ops l ws Q t h e fs else kK T Γ N F ops l ws Q (eL t o.dst .skp) h e (fs++[⟨[],true⟩])) (fun t=>if want then kK T Γ N F ops l ws Q (eL t o.dst .skp) h e (fs++[⟨[],true⟩]) else oC T Γ N F o ops l ws Q t h e fs) (fun t=>kK T Γ N F ops l ws Q (eL t o.dst .skp) h e (fs++[⟨[],true⟩]))
def E2 (x y:Option bE) (dst:Option Nat) (ops l:List Oper) (ws:List W) (Q:Kt) (t:Nat->D) (h:Nat->Option Row) (e:Nat):Prop :=
 pq (or2 h x y) fun E=>kd T Γ N F ops l ws Q (eL t dst E.val) (aM h E.hw) e
def E3 (x y:Option bE) (dst:Option Nat) (O:List Nat) (ops l:List Oper) (ws:List W) (Q:Kt) (t:Nat->D) (h:Nat->Option Row) (e:Nat) (fs:List jZ):Prop :=
 pq (or2 h x y) fun E=>kK T Γ N F ops l ws Q (eL t dst E.val) (aM h E.hw) e (fs++[⟨O,E.hw.isEmpty⟩])
def yu (x:Option bE) (dst:Option Nat) (ops l:List Oper) (ws:List W) (Q:Kt) (t:Nat->D) (h:Nat->Option Row) (e:Nat):Prop:=E2 T Γ N F x none dst ops l ws Q t h e
def yv (x:Option bE) (dst:Option Nat) (O:List Nat) (ops l:List Oper) (ws:List W) (Q:Kt) (t:Nat->D) (h:Nat->Option Row) (e:Nat) (fs:List jZ):Prop:=E3 T Γ N F x none dst O ops l ws Q t h e fs
def F0 (y:Option bE) (dst:Option Nat) (ops l:List Oper) (ws:List W) (Q:Kt) (t:Nat->D) (h:Nat->Option Row) (e:Nat):Prop :=
 pq y fun E=>kd T Γ N F ops l ws Q (eL t dst E.val) (aM h E.hw) e
def F1 (y:Option bE) (dst:Option Nat) (O:List Nat) (ops l:List Oper) (ws:List W) (Q:Kt) (t:Nat->D) (h:Nat->Option Row) (e:Nat) (fs:List jZ):Prop :=
 pq y fun E=>kK T Γ N F ops l ws Q (eL t dst E.val) (aM h E.hw) e (fs++[⟨O,E.hw.isEmpty⟩])
def KI (d:D) (g:Nat) (x y:Code) (ws:List W) (Q:Kt) (t:Nat->D) (h:Nat->Option Row) (e:Nat):Prop :=
 R5 d t g (fun t=>de T Γ N F (.code x::ws) Q .normal t h e) (fun t=>de T Γ N F (.code y::ws) Q .normal t h e)
def YW (d:D) (g:Nat) (a b:Operand) (dst:Option Nat) (ops l:List Oper) (ws:List W) (Q:Kt) (t:Nat->D) (h:Nat->Option Row) (e:Nat):Prop :=
 R5 d t g (fun t=>kd T Γ N F ops l ws Q (eL t dst (ev t a)) h e) (fun t=>kd T Γ N F ops l ws Q (eL t dst (ev t b)) h e)
def YX (d:D) (g:Nat) (a b:Operand) (dst:Option Nat) (ops l:List Oper) (ws:List W) (Q:Kt) (t:Nat->D) (h:Nat->Option Row) (e:Nat) (fs:List jZ):Prop :=
 R5 d t g (fun t=>kK T Γ N F ops l ws Q (eL t dst (ev t a)) h e (fs++[⟨[],true⟩])) (fun t=>kK T Γ N F ops l ws Q (eL t dst (ev t b)) h e (fs++[⟨[],true⟩]))
def T7 (b:Code) (ws:List W) (Q:Kt) (t:Nat->D) (h:Nat->Option Row) (e:Nat):Prop:=PT T Γ N F (.loop b) t h e (de T Γ N F ws Q)
end
theorem HP {n:Nat} (h:n<=1000000):n<=maxLen:=agR h (by decide)
theorem It {z:List D} : mC 0 z=[]:=ajU
theorem Is {n:Nat} {z:List D} : mC (n+1) z=z++mC n z:=by simp[mC,List.replicate_succ]
theorem Hs {N:Nat} : fits N none=true:=ajU
theorem Ht {N i:Nat} : fits N (some i)=decide (i<N):=ajU
def tx:List Oper->Nat->Nat
 | [],_=>0
 | o::_,0=>o.dst.getD 0
 | _::l,j+1=>tx l j
def xQ:List Oper->Nat->Bool
 | [],_=>false
 | o::_,0=>o.dst.isSome
 | _::l,j+1=>xQ l j
theorem CQ:∀(l:List Oper) (j:Nat),xQ l j=true->(l[j]?).bind (·.dst)=some (tx l j)
 | [],j,h=>by simp[xQ]at h
 | o::l,0,h=>by
  simp only[xQ]at h;simp only[List.getElem?_cons_zero,Option.bind_some,tx];cases O:o.dst with
  | none=>rw[O]at h;cases h
  | some d=>rfl
 | o::l,j+1,h=>by simpa [tx] using CQ l j h
theorem CS {d:Nat} {op:Op} {ty:Nat} {pos:String} {af:Array Edge} {gd:Option (Nat×Bool)} {l:List Oper} : tx (⟨some d,op,ty,pos,af,gd⟩::l) 0=d:=ajU
theorem CR {o:Oper} {l:List Oper} {j:Nat} : tx (o::l) (j+1)=tx l j:=ajU
theorem DF {d:Nat} {op:Op} {ty:Nat} {pos:String} {af:Array Edge} {gd:Option (Nat×Bool)} {l:List Oper} : xQ (⟨some d,op,ty,pos,af,gd⟩::l) 0=true:=ajU
theorem DE {o:Oper} {l:List Oper} {j:Nat} : xQ (o::l) (j+1)=xQ l j:=ajU
section
variable {dst:Option Nat} {ty:Nat} {pos:String} {af:Array Edge} {gd:Option (Nat×Bool)} {vs:Operand->D}
def x4 (vs:Operand->D):List Operand->List Nat
 | []=>[]
 | x::l=>nm (vs x)++x4 vs l
theorem fP (vs:Operand->D):∀l:List Operand,(l.flatMap fun x=>nm (vs x))=x4 vs l
 | []=>Eq.trans rfl rfl
 | x::l=>by rw[aiq,fP vs l];exact Eq.trans rfl rfl
theorem TP:x4 vs []=[]:=ajU
theorem Ob {x:Operand} {l:List Operand} : x4 vs (x::l)=nm (vs x)++x4 vs l:=ajU
theorem A3 {o:BinOp} {O z:Nat} {x y:Operand} : bs ⟨dst,.binOp o O x y z,ty,pos,af,gd⟩ vs=(x4 vs [x,y]++dst.toList).map rt:=by rw[<- fP];rfl
theorem Fc {o:UnOp} {O:Nat} {x:Operand} : bs ⟨dst,.unOp o O x,ty,pos,af,gd⟩ vs=(x4 vs [x]++dst.toList).map rt:=by rw[<- fP];rfl
theorem yz {x:Operand} : bs ⟨dst,.assign x,ty,pos,af,gd⟩ vs=(x4 vs [x]++dst.toList).map rt:=by rw[<- fP];rfl
theorem Fb {O:Nat} {x:Operand} : bs ⟨dst,.load O x,ty,pos,af,gd⟩ vs=(x4 vs [x]++dst.toList).map rt:=by rw[<- fP];rfl
theorem A8 {O:Nat} {x y:Operand} : bs ⟨dst,.store O x y,ty,pos,af,gd⟩ vs=(x4 vs [x,y]++dst.toList).map rt:=by rw[<- fP];rfl
theorem uw {x:Operand} : bs ⟨dst,.nilCheck x,ty,pos,af,gd⟩ vs=(x4 vs [x]++dst.toList).map rt:=by rw[<- fP];rfl
theorem sQ {O i:Nat} {x:Operand} : bs ⟨dst,.fieldAddr O x i,ty,pos,af,gd⟩ vs=(x4 vs [x]++dst.toList).map rt:=by rw[<- fP];rfl
theorem A5 {O i:Nat} {x:Operand} : bs ⟨dst,.field O x i,ty,pos,af,gd⟩ vs=(x4 vs [x]++dst.toList).map rt:=by rw[<- fP];rfl
theorem sR {O:Nat} {x i:Operand} : bs ⟨dst,.indexAddr O x i,ty,pos,af,gd⟩ vs=(x4 vs [x,i]++dst.toList).map rt:=by rw[<- fP];rfl
theorem A6 {O:Nat} {x i:Operand} : bs ⟨dst,.index O x i,ty,pos,af,gd⟩ vs=(x4 vs [x,i]++dst.toList).map rt:=by rw[<- fP];rfl
theorem sS {O:Nat} {x y:Operand} : bs ⟨dst,.makeSlice O x y,ty,pos,af,gd⟩ vs=(x4 vs [x,y]++dst.toList).map rt:=by rw[<- fP];rfl
theorem A2 {O:Nat} : bs ⟨dst,.alloc O,ty,pos,af,gd⟩ vs=(x4 vs []++dst.toList).map rt:=by rw[<- fP];rfl
theorem I9 {O:Nat} {x:Operand} : bs ⟨dst,.box O x,ty,pos,af,gd⟩ vs=(x4 vs [x]++dst.toList).map rt:=by rw[<- fP];rfl
theorem v8 {O:Nat} : bs ⟨dst,.makeMap O none,ty,pos,af,gd⟩ vs=(x4 vs []++dst.toList).map rt:=by rw[<- fP];rfl
theorem yB {O:Nat} {m i:Operand} {ok:Bool} : bs ⟨dst,.lookup O m i ok,ty,pos,af,gd⟩ vs=(x4 vs [m,i]++dst.toList).map rt:=by rw[<- fP];rfl
theorem sT {O:Nat} {m i x:Operand} : bs ⟨dst,.mapUpdate O m i x,ty,pos,af,gd⟩ vs=(x4 vs [m,i,x]++dst.toList).map rt:=by rw[<- fP];rfl
theorem yA {O:Nat} {m i x:Operand} : bs ⟨dst,.insert O m i x,ty,pos,af,gd⟩ vs=(x4 vs [m,i,x]++dst.toList).map rt:=by rw[<- fP];rfl
theorem vZ {a b:Nat} {x:Operand} : bs ⟨dst,.convert a b x,ty,pos,af,gd⟩ vs=(x4 vs [x]++dst.toList).map rt:=by rw[<- fP];rfl
theorem v7 {x:Operand} {i:Nat} : bs ⟨dst,.extract x i,ty,pos,af,gd⟩ vs=(x4 vs [x]++dst.toList).map rt:=by rw[<- fP];rfl
theorem A4 {U:Nat} {O:List (Nat×Operand)} : bs ⟨dst,.build U O.toArray,ty,pos,af,gd⟩ vs=(x4 vs (O.map (·.2))++dst.toList).map rt:=by rw[<- fP];rfl
theorem rn {U len:Nat} {O:List (Nat×Operand)} : bs ⟨dst,.buildSlice U len O.toArray,ty,pos,af,gd⟩ vs=(x4 vs (O.map (·.2))++dst.toList).map rt:=by rw[<- fP];rfl
theorem A7 {Y:Nat} {x:Operand} {O U X:Option Operand} : bs ⟨dst,.slice Y x O U X,ty,pos,af,gd⟩ vs=(x4 vs (x::(O.toList++(U.toList++X.toList)))++dst.toList).map rt:=by
 rw[<- fP];cases O<;>cases U<;>cases X<;>rfl
theorem Fa {x:Operand} {l:List Operand} {O:Array Nat} : bs ⟨dst,.call ⟨.value x,l.toArray,O⟩,ty,pos,af,gd⟩ vs=(x4 vs (x::l)++dst.toList).map rt:=by
 rw[<- fP];simp[bs,gw,Op.operands,Call.operands]
theorem vY {x:Builtin} {l:List Operand} {O:Array Nat} : bs ⟨dst,.call ⟨.builtin x,l.toArray,O⟩,ty,pos,af,gd⟩ vs=(x4 vs l++dst.toList).map rt:=by
 rw[<- fP];simp[bs,gw,Op.operands,Call.operands]
end
section
variable {T:Nat->Option Ty} {ty e:Nat} {dst:Option Nat} {h:Nat->Option Row}
theorem SA {k:IntKind} {n:Int} : bQ T ty e dst h (.int k n)=some ⟨.int k n,[]⟩:=ajU
theorem K6 {b:Bool} : bQ T ty e dst h (.bool b)=some ⟨.bool b,[]⟩:=ajU
theorem SE {b:ByteArray} : bQ T ty e dst h (.str b)=some ⟨.str b,[]⟩:=ajU
theorem W7 {O:Bool} {n:Nat} {xs:List D} : bQ T ty e dst h (.sl false O n xs)=some ⟨.sl false O n xs,[]⟩:=ajU
theorem SD {x v o:Nat} : bQ T ty e dst h (.ptr x v o)=some ⟨.ptr x v o,[]⟩:=ajU
theorem W4 {xs:List D} : bQ T ty e dst h (.ip xs)=some ⟨.ip xs,[]⟩:=ajU
theorem Sy {xs:List D} : bQ T ty e dst h (.agg xs)=some ⟨.agg xs,[]⟩:=ajU
theorem SF {xs:List D} : bQ T ty e dst h (.tup xs)=some ⟨.tup xs,[]⟩:=ajU
theorem W2 {f:Nat} : bQ T ty e dst h (.fn f)=some ⟨.fn f,[]⟩:=ajU
theorem W5 {x v:Nat} : bQ T ty e dst h (.mp x v)=some ⟨.mp x v,[]⟩:=ajU
theorem SB {ks:List cn} {vs:List D} : bQ T ty e dst h (.mpc ks vs)=some ⟨.mpc ks vs,[]⟩:=ajU
theorem W6 {x v y:Nat} : bQ T ty e dst h (.pm x v y)=some ⟨.pm x v y,[]⟩:=ajU
theorem BE {f O:Nat} {xs:List D} : bQ T ty e dst h (.clo f O xs)=some ⟨.clo f O xs,[]⟩:=ajU
def acN (b:Bool) (T:Nat->Option Ty) (ty e d:Nat) (h:Nat->Option Row) (x:D):Option bE:=if b then bQ T ty e (some d) h x else im h x
theorem Gj {d:Nat} {x:D} : acN true T ty e d h x=bQ T ty e (some d) h x:=ajU
theorem Cf {d:Nat} {x:D} : acN false T ty e d h x=im h x:=ajU
theorem abT {q:Nat->Bool} {d:Nat} {x:D} : qp T q ty e (some d) h x=acN (q d) T ty e d h x:=ajU
theorem Sv {k:IntKind} {n:Int} : im h (.int k n)=some ⟨.int k n,[]⟩:=ajU
theorem K0 {b:Bool} : im h (.bool b)=some ⟨.bool b,[]⟩:=ajU
theorem Sw {b:ByteArray} : im h (.str b)=some ⟨.str b,[]⟩:=ajU
theorem Ss {xs:List D} : im h (.agg xs)=some ⟨.agg (xs.map canon),[]⟩:=ajU
theorem WL {a b:Bool} {n:Nat} {xs:List D} : im h (.sl a b n xs)=some ⟨.sl false false n xs,[]⟩:=ajU
theorem SG:bQ T ty e dst h .und=some ⟨.und,[]⟩:=ajU
def aaE (e d y s o n:Nat) (r:Row):Bool->Option bE
 | true=>some ⟨.buf y r.v s o n,[]⟩
 | false=>some ⟨.buf d e s o n,[(y,none),(d,some { r with v:=e })]⟩
theorem Ce {d y s o n:Nat} {r:Row} : aaE e d y s o n r false=some ⟨.buf d e s o n,[(y,none),(d,some { r with v:=e })]⟩:=ajU
def acM (y v s o n:Nat):Option Row->Option bE
 | some _=>some ⟨.buf y v s o n,[]⟩
 | none=>some ⟨.und,[]⟩
theorem Gf {y v s o n:Nat} {r:Row} : acM y v s o n (some r)=some ⟨.buf y v s o n,[]⟩:=ajU
def W1 (e:Nat) (dst:Option Nat) (y s o n:Nat) (w:Option bE):Option Row->Option bE
 | some r=>match dst with|some d=>aaE e d y s o n r r.fz|none=>w
 | none=>w
theorem Gh {d y s o n:Nat} {r:Row} {w:Option bE} : W1 e (some d) y s o n w (some r)=aaE e d y s o n r r.fz:=ajU
theorem Gg {d y s o n:Nat} {w:Option bE} : W1 e (some d) y s o n w none=w:=ajU
theorem Sz {d y v s o n:Nat} : bQ T ty e (some d) h (.buf y v s o n)=W1 e (some d) y s o n (acM y v s o n (mY h y v)) (live h y v):=by
 simp only[bQ];cases O:live h y v with
 | none=>simp only[W1];cases mY h y v<;>simp[acM]
 | some r =>
  obtain⟨_,U⟩:=cm O;simp only[W1];cases X:r.fz<;>simp[aaE,U,X]
def aaF (e:Nat) (dst:Option Nat) (T:Nat->Option Ty):Option Ty->Option bE
 | some τ =>
  match dst with
  | some d=>match τ.ds with
   | .slice el=>match T el with|some φ=>some ⟨.buf d e φ.size 0 0,[(d,some ⟨e,el,[],false,true,false⟩)]⟩|none=>none
   | _=>none
  | none=>none
 | none=>none
theorem Gi {d el b c:Nat} {z:List Value} {q:Bool} {φ:Ty} (O:T el=some φ):aaF e (some d) T (some ⟨.slice el,b,c,z,q⟩)=some ⟨.buf d e φ.size 0 0,[(d,some ⟨e,el,[],false,true,false⟩)]⟩:=by simp only[aaF,O]
theorem SC:bQ T ty e dst h (.sl true true 0 [])=aaF e dst T (T ty):=by
 unfold bQ aaF;cases dst<;>cases T ty<;>rfl
end
def okD (x:Option D):Option bE:=match x with|some d=>some ⟨d,[]⟩|none=>none
theorem Ou (d:D):okD (some d)=some ⟨d,[]⟩:=ajU
def wW (x:Option Ty) (f:Ty->Option bE):Option bE:=match x with|some τ=>f τ|none=>none
theorem OG (τ:Ty) (f:Ty->Option bE):wW (some τ) f=f τ:=ajU
def acO (x:Option (List D×List Nat)) (h:Nat->Option Row) (ty d e:Nat):Option bE :=
 match x with
 | some (cs,fr)=>if fr.contains d=false then some ⟨.ptr d e 0,iC h fr++[(d,some ⟨e,ty,cs,false,false,false⟩)]⟩ else none
 | none=>none
theorem Gn (cs:List D) (fr:List Nat) (h:Nat->Option Row) (ty d e:Nat):acO (some (cs,fr)) h ty d e=if fr.contains d=false then some ⟨.ptr d e 0,iC h fr++[(d,some ⟨e,ty,cs,false,false,false⟩)]⟩ else none:=ajU
def abg (d e:Nat):Option Nat->D
 | some y =>.pm d e y
 | none =>.ptr d e 0
theorem Iq {d e y:Nat} : abg d e (some y)=.pm d e y:=ajU
theorem Ip {d e:Nat} : abg d e none=.ptr d e 0:=ajU
def Cc (x:Option Ty) (ty d e:Nat) (y:Option Nat):Option bE :=
 match x with
 | some τ=>if (τ.zero.map lO).all a8 then some ⟨abg d e y,[(d,some ⟨e,ty,τ.zero.map lO,false,false,false⟩)]⟩ else none
 | none=>none
theorem zW (τ:Ty) (ty d e:Nat) (y:Option Nat):Cc (some τ) ty d e y=if (τ.zero.map lO).all a8 then some ⟨abg d e y,[(d,some ⟨e,ty,τ.zero.map lO,false,false,false⟩)]⟩ else none:=ajU
def VK (T:Nat->Option Ty) (x:Option Ty) (ty e d:Nat):Option bE:=match x with|some τ=>ml T ty τ e d|none=>none
theorem YE {T:Nat->Option Ty} {τ φ:Ty} {b:Bool} {ty e d:Nat} (hm:DX T τ=some (b,φ)) (O:ty<900000):VK T (some τ) ty e d=some ⟨.mp d e,[(d,some ⟨e,ty,[.mpc [] []],false,true,true⟩)]⟩:=by simp only[VK,ml,hm];rw[if_neg (by omega)]
def Xv (x y:Option Ty) (d:D):Option bE :=
 match x,y,d with
 | some τ,some _,.int _ n=>(match τ.ds with | .int k=>some ⟨.int k (k.wrap n),[]⟩|_=>none)
 | _,_,_=>none
theorem GL (k:IntKind) (b c:Nat) (z:List Value) (q:Bool) (σ:Ty) (k':IntKind) (n:Int):Xv (some ⟨.int k,b,c,z,q⟩) (some σ) (.int k' n)=some ⟨.int k (k.wrap n),[]⟩:=ajU
def aaY (d:D) (i:Nat):Option bE:=match d with | .tup xs=>(match xs[i]? with|some d=>some ⟨d,[]⟩|none=>none)|_=>none
theorem Mw (xs:List D) (i:Nat):aaY (.tup xs) i=okD xs[i]?:=by simp only[aaY,okD]
section
variable {T:Nat->Option Ty} {Γ:Env} {N F e:Nat} {ws:List W} {Q:Kt} {t:Nat->D} {h:Nat->Option Row}
theorem cJ {x:Ex} : de T Γ N F [] Q x t h e=Q x t h e:=ajU
theorem IE:de T Γ N F (.code .skip::ws) Q .normal t h e=de T Γ N F ws Q .normal t h e:=ajU
theorem O1 {a b:Code} : de T Γ N F (.code (.seq a b)::ws) Q .normal t h e=de T Γ N F (.code a :: .code b::ws) Q .normal t h e:=ajU
theorem O0:de T Γ N F (.code .ret::ws) Q .normal t h e=de T Γ N F ws Q .ret t h e:=ajU
theorem IC {id:Nat} : de T Γ N F (.code (.exit id)::ws) Q .normal t h e=de T Γ N F ws Q (.exit id) t h e:=ajU
theorem EV {id:Nat} {b:Code} : de T Γ N F (.code (.block id b)::ws) Q .normal t h e=de T Γ N F (.code b :: .blk id::ws) Q .normal t h e:=ajU
theorem ID {b:Code} : de T Γ N F (.code (.loop b)::ws) Q .normal t h e=T7 T Γ N F b ws Q t h e:=ajU
theorem bd {c:Code} : de T Γ N F (.code c::ws) Q .ret t h e=de T Γ N F ws Q .ret t h e:=ajU
theorem aX {c:Code} {n:Nat} : de T Γ N F (.code c::ws) Q (.exit n) t h e=de T Γ N F ws Q (.exit n) t h e:=ajU
theorem sO {id:Nat} : de T Γ N F (.blk id::ws) Q .normal t h e=de T Γ N F ws Q .normal t h e:=ajU
theorem bk {id:Nat} : de T Γ N F (.blk id::ws) Q .ret t h e=de T Γ N F ws Q .ret t h e:=ajU
theorem vW {id n:Nat} : de T Γ N F (.blk id::ws) Q (.exit n) t h e=if n=id then de T Γ N F ws Q .normal t h e else de T Γ N F ws Q (.exit n) t h e:=ajU
theorem AZ {i:Nat} {ops:List Oper} : de T Γ N F (.code (.region i ops.toArray false)::ws) Q .normal t h e=kd T Γ N F ops ops ws Q t h e:=ajU
theorem EY {i:Nat} {ops:List Oper} : de T Γ N F (.code (.region i ops.toArray true)::ws) Q .normal t h e=kK T Γ N F ops ops ws Q t h e []:=ajU
theorem IB {g:Nat} {x y:Code} : de T Γ N F (.code (.cond (.tmp g) x y)::ws) Q .normal t h e=KI T Γ N F (t g) g x y ws Q t h e:=ajU
theorem EX {x y:Code} : de T Γ N F (.code (.cond (.const (.bool true)) x y)::ws) Q .normal t h e=de T Γ N F (.code x::ws) Q .normal t h e:=ajU
theorem EW {x y:Code} : de T Γ N F (.code (.cond (.const (.bool false)) x y)::ws) Q .normal t h e=de T Γ N F (.code y::ws) Q .normal t h e:=ajU
theorem Jb {g:Nat} {x y:Code} (O:t g=.bool true):KI T Γ N F (.bool true) g x y ws Q t h e=de T Γ N F (.code x::ws) Q .normal t h e:=yE O
theorem Ff {g:Nat} {x y:Code} (O:t g=.bool false):KI T Γ N F (.bool false) g x y ws Q t h e=de T Γ N F (.code y::ws) Q .normal t h e:=vA O
theorem Wd {b:Bool} {g:Nat} {x y:Code} : KI T Γ N F (.bool b) g x y ws Q t h e=br b (de T Γ N F (.code x::ws) Q .normal (bI t g (.bool true)) h e) (de T Γ N F (.code y::ws) Q .normal (bI t g (.bool false)) h e):=by
 unfold KI;rw[aao];cases b<;>simp[br]
variable {ops l:List Oper} {dst:Option Nat} {op:Op} {ty:Nat} {pos:String} {af:Array Edge} {gd:Option (Nat×Bool)} {fs:List jZ}
theorem OY:kd T Γ N F ops [] ws Q t h e=de T Γ N F ws Q .normal t h (e+1):=ajU
theorem Iz (O:fits N dst=true):kd T Γ N F ops (⟨dst,op,ty,pos,af,none⟩::l) ws Q t h e=oB T Γ N F ⟨dst,op,ty,pos,af,none⟩ ops l ws Q t h e:=by
 simp only[kd,EU,wpG,O,true_and,oB]
theorem ES {j:Nat} {want:Bool} (O:fits N dst=true) (U:xQ ops j=true):kd T Γ N F ops (⟨dst,op,ty,pos,af,some (j,want)⟩::l) ws Q t h e=vH T Γ N F (t (tx ops j)) (tx ops j) want ⟨dst,op,ty,pos,af,none⟩ ops l ws Q t h e:=by
 simp only[kd,EU,wpG,O,true_and,CQ ops j U,se,vH];cases want<;>rfl
theorem PC {g:Nat} {want:Bool} {o:Oper} : vH T Γ N F .skp g want o ops l ws Q t h e=kd T Γ N F ops l ws Q (eL t o.dst .skp) h e:=ajU
theorem Jc {g:Nat} {o:Oper} (O:t g=.bool true):vH T Γ N F (.bool true) g true o ops l ws Q t h e=oB T Γ N F o ops l ws Q t h e:=(yH O).trans (if_pos rfl)
theorem Fg {g:Nat} {o:Oper} (O:t g=.bool false):vH T Γ N F (.bool false) g true o ops l ws Q t h e=kd T Γ N F ops l ws Q (eL t o.dst .skp) h e:=(vB O).trans (if_pos rfl)
theorem Fh {g:Nat} {o:Oper} (O:t g=.bool true):vH T Γ N F (.bool true) g false o ops l ws Q t h e=kd T Γ N F ops l ws Q (eL t o.dst .skp) h e:=(yH O).trans (if_neg (by decide))
theorem A9 {g:Nat} {o:Oper} (O:t g=.bool false):vH T Γ N F (.bool false) g false o ops l ws Q t h e=oB T Γ N F o ops l ws Q t h e:=(vB O).trans (if_neg (by decide))
theorem We {b:Bool} {g:Nat} {o:Oper} : vH T Γ N F (.bool b) g true o ops l ws Q t h e=br b (oB T Γ N F o ops l ws Q (bI t g (.bool true)) h e) (kd T Γ N F ops l ws Q (eL (bI t g (.bool false)) o.dst .skp) h e):=by
 unfold vH;rw[yG];cases b<;>simp[br]
theorem RW {b:Bool} {g:Nat} {o:Oper} : vH T Γ N F (.bool b) g false o ops l ws Q t h e=br b (kd T Γ N F ops l ws Q (eL (bI t g (.bool true)) o.dst .skp) h e) (oB T Γ N F o ops l ws Q (bI t g (.bool false)) h e):=by
 unfold vH;rw[yG];cases b<;>simp[br]
theorem OZ:kK T Γ N F ops [] ws Q t h e fs=(CU ops.toArray fs=true∧de T Γ N F ws Q .normal t h (e+1)):=ajU
theorem IA (O:fits N dst=true):kK T Γ N F ops (⟨dst,op,ty,pos,af,none⟩::l) ws Q t h e fs=oC T Γ N F ⟨dst,op,ty,pos,af,none⟩ ops l ws Q t h e fs:=by
 simp only[kK,runK,wpG,O,true_and,oC]
theorem ET {j:Nat} {want:Bool} (O:fits N dst=true) (U:xQ ops j=true):kK T Γ N F ops (⟨dst,op,ty,pos,af,some (j,want)⟩::l) ws Q t h e fs=vJ T Γ N F (t (tx ops j)) (tx ops j) want ⟨dst,op,ty,pos,af,none⟩ ops l ws Q t h e fs:=by
 simp only[kK,runK,wpG,O,true_and,CQ ops j U,se,vJ];cases want<;>rfl
theorem PD {g:Nat} {want:Bool} {o:Oper} : vJ T Γ N F .skp g want o ops l ws Q t h e fs=kK T Γ N F ops l ws Q (eL t o.dst .skp) h e (fs++[⟨[],true⟩]):=ajU
theorem Jd {g:Nat} {o:Oper} (O:t g=.bool true):vJ T Γ N F (.bool true) g true o ops l ws Q t h e fs=oC T Γ N F o ops l ws Q t h e fs:=(yH O).trans (if_pos rfl)
theorem Fi {g:Nat} {o:Oper} (O:t g=.bool false):vJ T Γ N F (.bool false) g true o ops l ws Q t h e fs=kK T Γ N F ops l ws Q (eL t o.dst .skp) h e (fs++[⟨[],true⟩]):=(vB O).trans (if_pos rfl)
theorem Fj {g:Nat} {o:Oper} (O:t g=.bool true):vJ T Γ N F (.bool true) g false o ops l ws Q t h e fs=kK T Γ N F ops l ws Q (eL t o.dst .skp) h e (fs++[⟨[],true⟩]):=(yH O).trans (if_neg (by decide))
theorem Ba {g:Nat} {o:Oper} (O:t g=.bool false):vJ T Γ N F (.bool false) g false o ops l ws Q t h e fs=oC T Γ N F o ops l ws Q t h e fs:=(vB O).trans (if_neg (by decide))
theorem Wf {b:Bool} {g:Nat} {o:Oper} : vJ T Γ N F (.bool b) g true o ops l ws Q t h e fs=br b (oC T Γ N F o ops l ws Q (bI t g (.bool true)) h e fs) (kK T Γ N F ops l ws Q (eL (bI t g (.bool false)) o.dst .skp) h e (fs++[⟨[],true⟩])):=by
 unfold vJ;rw[yG];cases b<;>simp[br]
theorem RX {b:Bool} {g:Nat} {o:Oper} : vJ T Γ N F (.bool b) g false o ops l ws Q t h e fs=br b (kK T Γ N F ops l ws Q (eL (bI t g (.bool true)) o.dst .skp) h e (fs++[⟨[],true⟩])) (oC T Γ N F o ops l ws Q (bI t g (.bool false)) h e fs):=by
 unfold vJ;rw[yG];cases b<;>simp[br]
theorem Pg {d:D} {hw:List (Nat×Option Row)} : yu T Γ N F (some ⟨d,hw⟩) dst ops l ws Q t h e=kd T Γ N F ops l ws Q (eL t dst d) (aM h (jX h hw)) e:=ajU
theorem Pq {d:D} {hw:List (Nat×Option Row)} {O:List Nat} : yv T Γ N F (some ⟨d,hw⟩) dst O ops l ws Q t h e fs=kK T Γ N F ops l ws Q (eL t dst d) (aM h (jX h hw)) e (fs++[⟨O,(jX h hw).isEmpty⟩]):=ajU
theorem Uh {c:Prop} [Decidable c] {E:bE} : yu T Γ N F (if c then some E else none) dst ops l ws Q t h e=(c∧yu T Γ N F (some E) dst ops l ws Q t h e):=by
 by_cases O:c<;>simp[O,yu,E2,or2,pq]
theorem Um {c:Prop} [Decidable c] {E:bE} {O:List Nat} : yv T Γ N F (if c then some E else none) dst O ops l ws Q t h e fs=(c∧yv T Γ N F (some E) dst O ops l ws Q t h e fs):=by
 by_cases U:c<;>simp[U,yv,E3,or2,pq]
theorem IQ {E:bE} {y:Option bE} : E2 T Γ N F (some E) y dst ops l ws Q t h e=yu T Γ N F (some E) dst ops l ws Q t h e:=ajU
theorem I1 {E:bE} {y:Option bE} {O:List Nat} : E3 T Γ N F (some E) y dst O ops l ws Q t h e fs=yv T Γ N F (some E) dst O ops l ws Q t h e fs:=ajU
theorem IP {y:Option bE} : E2 T Γ N F none y dst ops l ws Q t h e=F0 T Γ N F y dst ops l ws Q t h e:=ajU
theorem I0 {y:Option bE} {O:List Nat} : E3 T Γ N F none y dst O ops l ws Q t h e fs=F1 T Γ N F y dst O ops l ws Q t h e fs:=ajU
theorem Ug {x:Option bE} : E2 T Γ N F x none dst ops l ws Q t h e=yu T Γ N F x dst ops l ws Q t h e:=ajU
theorem Ul {x:Option bE} {O:List Nat} : E3 T Γ N F x none dst O ops l ws Q t h e fs=yv T Γ N F x dst O ops l ws Q t h e fs:=ajU
theorem IS {d:D} {hw:List (Nat×Option Row)} : F0 T Γ N F (some ⟨d,hw⟩) dst ops l ws Q t h e=kd T Γ N F ops l ws Q (eL t dst d) (aM h hw) e:=ajU
theorem I2 {d:D} {hw:List (Nat×Option Row)} {O:List Nat} : F1 T Γ N F (some ⟨d,hw⟩) dst O ops l ws Q t h e fs=kK T Γ N F ops l ws Q (eL t dst d) (aM h hw) e (fs++[⟨O,hw.isEmpty⟩]):=ajU
theorem Pf {c:Prop} [Decidable c] {E:bE} : F0 T Γ N F (if c then some E else none) dst ops l ws Q t h e=(c∧F0 T Γ N F (some E) dst ops l ws Q t h e):=by
 by_cases O:c<;>simp[O,F0,pq]
theorem Pp {c:Prop} [Decidable c] {E:bE} {O:List Nat} : F1 T Γ N F (if c then some E else none) dst O ops l ws Q t h e fs=(c∧F1 T Γ N F (some E) dst O ops l ws Q t h e fs):=by
 by_cases U:c<;>simp[U,F1,pq]
theorem EC {g:Nat} {a b:Operand} (O:t g=.bool true):YW T Γ N F (.bool true) g a b dst ops l ws Q t h e=kd T Γ N F ops l ws Q (eL t dst (ev t a)) h e:=yE O
theorem AT {g:Nat} {a b:Operand} (O:t g=.bool false):YW T Γ N F (.bool false) g a b dst ops l ws Q t h e=kd T Γ N F ops l ws Q (eL t dst (ev t b)) h e:=vA O
theorem ED {g:Nat} {a b:Operand} (O:t g=.bool true):YX T Γ N F (.bool true) g a b dst ops l ws Q t h e fs=kK T Γ N F ops l ws Q (eL t dst (ev t a)) h e (fs++[⟨[],true⟩]):=yE O
theorem AU {g:Nat} {a b:Operand} (O:t g=.bool false):YX T Γ N F (.bool false) g a b dst ops l ws Q t h e fs=kK T Γ N F ops l ws Q (eL t dst (ev t b)) h e (fs++[⟨[],true⟩]):=vA O
theorem L3 {c:Nat} {a b:Operand} : oB T Γ N F ⟨dst,.pick (.tmp c) a b,ty,pos,af,gd⟩ ops l ws Q t h e=YW T Γ N F (t c) c a b dst ops l ws Q t h e:=ajU
theorem L9 {c:Nat} {a b:Operand} : oC T Γ N F ⟨dst,.pick (.tmp c) a b,ty,pos,af,gd⟩ ops l ws Q t h e fs=YX T Γ N F (t c) c a b dst ops l ws Q t h e fs:=ajU
theorem xx {x y:Option bE} (U:∀c a b,op ≠ .pick c a b) (hm:gA T Γ e ⟨dst,op,ty,pos,af,gd⟩ (ev t)=none) (O:lT Γ e h dst (gU (ev t) op)=none) (X:lS T Γ e ⟨dst,op,ty,pos,af,gd⟩ (ev t) (EH h)=x) (Y:tD T Γ e ⟨dst,op,ty,pos,af,gd⟩ (ev t) h=y):oB T Γ N F ⟨dst,op,ty,pos,af,gd⟩ ops l ws Q t h e=E2 T Γ N F x y dst ops l ws Q t h e:=by
 subst X;subst Y;unfold oB E2 PR nZ;rw[hm];simp only;rw[O];cases op<;>first|rfl|exact absurd rfl (U _ _ _)
theorem xA {x y:Option bE} (U:∀c a b,op ≠ .pick c a b) (hm:gA T Γ e ⟨dst,op,ty,pos,af,gd⟩ (ev t)=none) (O:lT Γ e h dst (gU (ev t) op)=none) (X:lS T Γ e ⟨dst,op,ty,pos,af,gd⟩ (ev t) (EH h)=x) (Y:tD T Γ e ⟨dst,op,ty,pos,af,gd⟩ (ev t) h=y):oC T Γ N F ⟨dst,op,ty,pos,af,gd⟩ ops l ws Q t h e fs=E3 T Γ N F x y dst (bs ⟨dst,op,ty,pos,af,gd⟩ (ev t)) ops l ws Q t h e fs:=by
 subst X;subst Y;unfold oC E3 PR nZ;rw[hm];simp only;rw[O];cases op<;>first|rfl|exact absurd rfl (U _ _ _)
theorem eT {x:Option bE} (U:∀c a b,op ≠ .pick c a b) (X:lS T Γ e ⟨dst,op,ty,pos,af,gd⟩ (ev t) (EH h)=x) (hm:gA T Γ e ⟨dst,op,ty,pos,af,gd⟩ (ev t)=none:=by rfl) (Y:tD T Γ e ⟨dst,op,ty,pos,af,gd⟩ (ev t) h=none:=by rfl) (O:lT Γ e h dst (gU (ev t) op)=none:=by first|rfl|(cases dst<;>rfl)):oB T Γ N F ⟨dst,op,ty,pos,af,gd⟩ ops l ws Q t h e=yu T Γ N F x dst ops l ws Q t h e:=xx U hm O X Y
theorem eU {x:Option bE} (U:∀c a b,op ≠ .pick c a b) (X:lS T Γ e ⟨dst,op,ty,pos,af,gd⟩ (ev t) (EH h)=x) (hm:gA T Γ e ⟨dst,op,ty,pos,af,gd⟩ (ev t)=none:=by rfl) (Y:tD T Γ e ⟨dst,op,ty,pos,af,gd⟩ (ev t) h=none:=by rfl) (O:lT Γ e h dst (gU (ev t) op)=none:=by first|rfl|(cases dst<;>rfl)):oC T Γ N F ⟨dst,op,ty,pos,af,gd⟩ ops l ws Q t h e fs=yv T Γ N F x dst (bs ⟨dst,op,ty,pos,af,gd⟩ (ev t)) ops l ws Q t h e fs:=xA U hm O X Y
theorem L2 {x:Operand} : oB T Γ N F ⟨dst,.move x,ty,pos,af,gd⟩ ops l ws Q t h e=kd T Γ N F ops l ws Q (eL t dst (ev t x)) h e:=(eT (fun _ _ _ O=>by cases O) rfl).trans rfl
theorem L8 {x:Operand} : oC T Γ N F ⟨dst,.move x,ty,pos,af,gd⟩ ops l ws Q t h e fs=kK T Γ N F ops l ws Q (eL t dst (ev t x)) h e (fs++[⟨[],true⟩]):=(eU (fun _ _ _ O=>by cases O) rfl).trans rfl
theorem GP {o:BinOp} {O z:Nat} {x y:Operand} : oB T Γ N F ⟨dst,.binOp o O x y z,ty,pos,af,gd⟩ ops l ws Q t h e=yu T Γ N F (okD (yN T O o (ev t x) (ev t y))) dst ops l ws Q t h e:=eT (fun _ _ _ U=>by cases U) (by simp only[lS];first|rfl|(cases yN T O o (ev t x) (ev t y)<;>rfl))
theorem GY {o:BinOp} {O z:Nat} {x y:Operand} : oC T Γ N F ⟨dst,.binOp o O x y z,ty,pos,af,gd⟩ ops l ws Q t h e fs=yv T Γ N F (okD (yN T O o (ev t x) (ev t y))) dst (bs ⟨dst,.binOp o O x y z,ty,pos,af,gd⟩ (ev t)) ops l ws Q t h e fs:=eU (fun _ _ _ U=>by cases U) (by simp only[lS];first|rfl|(cases yN T O o (ev t x) (ev t y)<;>rfl))
theorem L4 {o:UnOp} {O:Nat} {x:Operand} : oB T Γ N F ⟨dst,.unOp o O x,ty,pos,af,gd⟩ ops l ws Q t h e=yu T Γ N F (okD (F3 o (ev t x))) dst ops l ws Q t h e:=eT (fun _ _ _ U=>by cases U) (by simp only[lS];first|rfl|(cases F3 o (ev t x)<;>rfl))
theorem Ma {o:UnOp} {O:Nat} {x:Operand} : oC T Γ N F ⟨dst,.unOp o O x,ty,pos,af,gd⟩ ops l ws Q t h e fs=yv T Γ N F (okD (F3 o (ev t x))) dst (bs ⟨dst,.unOp o O x,ty,pos,af,gd⟩ (ev t)) ops l ws Q t h e fs:=eU (fun _ _ _ U=>by cases U) (by simp only[lS];first|rfl|(cases F3 o (ev t x)<;>rfl))
theorem CF {x:Operand} : oB T Γ N F ⟨dst,.assign x,ty,pos,af,gd⟩ ops l ws Q t h e=yu T Γ N F (qp T Γ.own ty e dst (EH h) (ev t x)) dst ops l ws Q t h e:=eT (fun _ _ _ O=>by cases O) rfl
theorem CI {x:Operand} : oC T Γ N F ⟨dst,.assign x,ty,pos,af,gd⟩ ops l ws Q t h e fs=yv T Γ N F (qp T Γ.own ty e dst (EH h) (ev t x)) dst (bs ⟨dst,.assign x,ty,pos,af,gd⟩ (ev t)) ops l ws Q t h e fs:=eU (fun _ _ _ O=>by cases O) rfl
theorem xy {f:Nat} {first caps:List Operand} : oB T Γ N F ⟨dst,.makeFunc (.func f) first.toArray caps.toArray,ty,pos,af,gd⟩ ops l ws Q t h e=yu T Γ N F (if (first.map (ev t)++caps.map (ev t)).all jf then some ⟨.clo f first.length (first.map (ev t)++caps.map (ev t)),[]⟩ else none) dst ops l ws Q t h e:=eT (fun _ _ _ O=>by cases O) rfl
theorem xB {f:Nat} {first caps:List Operand} : oC T Γ N F ⟨dst,.makeFunc (.func f) first.toArray caps.toArray,ty,pos,af,gd⟩ ops l ws Q t h e fs=yv T Γ N F (if (first.map (ev t)++caps.map (ev t)).all jf then some ⟨.clo f first.length (first.map (ev t)++caps.map (ev t)),[]⟩ else none) dst (bs ⟨dst,.makeFunc (.func f) first.toArray caps.toArray,ty,pos,af,gd⟩ (ev t)) ops l ws Q t h e fs:=eU (fun _ _ _ O=>by cases O) rfl
theorem L0 {O:Nat} {x:Operand} : oB T Γ N F ⟨dst,.load O x,ty,pos,af,gd⟩ ops l ws Q t h e=E2 T Γ N F (wW (T O) fun τ=>mV τ (EH h) (ev t x)) (wW (T O) fun τ=>tC τ h (ev t x)) dst ops l ws Q t h e:=xx (fun _ _ _ U=>by cases U) rfl (by cases dst<;>rfl) (by simp only[lS];first|rfl|(cases T O<;>rfl)) (by simp only[tD];first|rfl|(cases T O<;>rfl))
theorem L6 {O:Nat} {x:Operand} : oC T Γ N F ⟨dst,.load O x,ty,pos,af,gd⟩ ops l ws Q t h e fs=E3 T Γ N F (wW (T O) fun τ=>mV τ (EH h) (ev t x)) (wW (T O) fun τ=>tC τ h (ev t x)) dst (bs ⟨dst,.load O x,ty,pos,af,gd⟩ (ev t)) ops l ws Q t h e fs:=xA (fun _ _ _ U=>by cases U) rfl (by cases dst<;>rfl) (by simp only[lS];first|rfl|(cases T O<;>rfl)) (by simp only[tD];first|rfl|(cases T O<;>rfl))
theorem GW {O:Nat} {x y:Operand} : oB T Γ N F ⟨dst,.store O x y,ty,pos,af,gd⟩ ops l ws Q t h e=E2 T Γ N F (wW (T O) fun τ=>dw τ (EH h) (ev t x) (ev t y)) (wW (T O) fun τ=>tE τ e h (ev t x) (ev t y)) dst ops l ws Q t h e:=xx (fun _ _ _ U=>by cases U) rfl (by cases dst<;>rfl) (by simp only[lS];first|rfl|(cases T O<;>rfl)) (by simp only[tD];first|rfl|(cases T O<;>rfl))
theorem G4 {O:Nat} {x y:Operand} : oC T Γ N F ⟨dst,.store O x y,ty,pos,af,gd⟩ ops l ws Q t h e fs=E3 T Γ N F (wW (T O) fun τ=>dw τ (EH h) (ev t x) (ev t y)) (wW (T O) fun τ=>tE τ e h (ev t x) (ev t y)) dst (bs ⟨dst,.store O x y,ty,pos,af,gd⟩ (ev t)) ops l ws Q t h e fs:=xA (fun _ _ _ U=>by cases U) rfl (by cases dst<;>rfl) (by simp only[lS];first|rfl|(cases T O<;>rfl)) (by simp only[tD];first|rfl|(cases T O<;>rfl))
theorem xz {x:Operand} : oB T Γ N F ⟨dst,.nilCheck x,ty,pos,af,gd⟩ ops l ws Q t h e=yu T Γ N F (jk (EH h) (ev t x)) dst ops l ws Q t h e:=eT (fun _ _ _ O=>by cases O) rfl
theorem xC {x:Operand} : oC T Γ N F ⟨dst,.nilCheck x,ty,pos,af,gd⟩ ops l ws Q t h e fs=yv T Γ N F (jk (EH h) (ev t x)) dst (bs ⟨dst,.nilCheck x,ty,pos,af,gd⟩ (ev t)) ops l ws Q t h e fs:=eU (fun _ _ _ O=>by cases O) rfl
theorem vL {O i:Nat} {x:Operand} : oB T Γ N F ⟨dst,.fieldAddr O x i,ty,pos,af,gd⟩ ops l ws Q t h e=yu T Γ N F (wW (T O) fun τ=>ee T τ (EH h) i (ev t x)) dst ops l ws Q t h e:=eT (fun _ _ _ U=>by cases U) (by simp only[lS];first|rfl|(cases T O<;>rfl))
theorem vP {O i:Nat} {x:Operand} : oC T Γ N F ⟨dst,.fieldAddr O x i,ty,pos,af,gd⟩ ops l ws Q t h e fs=yv T Γ N F (wW (T O) fun τ=>ee T τ (EH h) i (ev t x)) dst (bs ⟨dst,.fieldAddr O x i,ty,pos,af,gd⟩ (ev t)) ops l ws Q t h e fs:=eU (fun _ _ _ U=>by cases U) (by simp only[lS];first|rfl|(cases T O<;>rfl))
theorem GR {O i:Nat} {x:Operand} : oB T Γ N F ⟨dst,.field O x i,ty,pos,af,gd⟩ ops l ws Q t h e=yu T Γ N F (wW (T O) fun τ=>lx T τ i (ev t x)) dst ops l ws Q t h e:=eT (fun _ _ _ U=>by cases U) (by simp only[lS];first|rfl|(cases T O<;>rfl))
theorem G0 {O i:Nat} {x:Operand} : oC T Γ N F ⟨dst,.field O x i,ty,pos,af,gd⟩ ops l ws Q t h e fs=yv T Γ N F (wW (T O) fun τ=>lx T τ i (ev t x)) dst (bs ⟨dst,.field O x i,ty,pos,af,gd⟩ (ev t)) ops l ws Q t h e fs:=eU (fun _ _ _ U=>by cases U) (by simp only[lS];first|rfl|(cases T O<;>rfl))
theorem vM {O:Nat} {x i:Operand} : oB T Γ N F ⟨dst,.indexAddr O x i,ty,pos,af,gd⟩ ops l ws Q t h e=yu T Γ N F (wW (T O) fun τ=>bL T τ (EH h) (ev t x) (ev t i)) dst ops l ws Q t h e:=eT (fun _ _ _ U=>by cases U) (by simp only[lS];first|rfl|(cases T O<;>rfl))
theorem vQ {O:Nat} {x i:Operand} : oC T Γ N F ⟨dst,.indexAddr O x i,ty,pos,af,gd⟩ ops l ws Q t h e fs=yv T Γ N F (wW (T O) fun τ=>bL T τ (EH h) (ev t x) (ev t i)) dst (bs ⟨dst,.indexAddr O x i,ty,pos,af,gd⟩ (ev t)) ops l ws Q t h e fs:=eU (fun _ _ _ U=>by cases U) (by simp only[lS];first|rfl|(cases T O<;>rfl))
theorem GS {O:Nat} {x i:Operand} : oB T Γ N F ⟨dst,.index O x i,ty,pos,af,gd⟩ ops l ws Q t h e=yu T Γ N F (wW (T O) fun τ=>gu T τ (ev t x) (ev t i)) dst ops l ws Q t h e:=eT (fun _ _ _ U=>by cases U) (by simp only[lS];first|rfl|(cases T O<;>rfl))
theorem G1 {O:Nat} {x i:Operand} : oC T Γ N F ⟨dst,.index O x i,ty,pos,af,gd⟩ ops l ws Q t h e fs=yv T Γ N F (wW (T O) fun τ=>gu T τ (ev t x) (ev t i)) dst (bs ⟨dst,.index O x i,ty,pos,af,gd⟩ (ev t)) ops l ws Q t h e fs:=eU (fun _ _ _ U=>by cases U) (by simp only[lS];first|rfl|(cases T O<;>rfl))
theorem GU {O:Nat} {x:Operand} {U X Y:Option Operand} : oB T Γ N F ⟨dst,.slice O x U X Y,ty,pos,af,gd⟩ ops l ws Q t h e=yu T Γ N F (wW (T O) fun τ=>cU T τ (EH h) (ev t x) (U.map (ev t)) (X.map (ev t)) (Y.map (ev t))) dst ops l ws Q t h e:=eT (fun _ _ _ Z=>by cases Z) (by simp only[lS];first|rfl|(cases T O<;>rfl))
theorem G2 {O:Nat} {x:Operand} {U X Y:Option Operand} : oC T Γ N F ⟨dst,.slice O x U X Y,ty,pos,af,gd⟩ ops l ws Q t h e fs=yv T Γ N F (wW (T O) fun τ=>cU T τ (EH h) (ev t x) (U.map (ev t)) (X.map (ev t)) (Y.map (ev t))) dst (bs ⟨dst,.slice O x U X Y,ty,pos,af,gd⟩ (ev t)) ops l ws Q t h e fs:=eU (fun _ _ _ Z=>by cases Z) (by simp only[lS];first|rfl|(cases T O<;>rfl))
theorem GQ {O:Nat} {U:List (Nat×Operand)} : oB T Γ N F ⟨dst,.build O U.toArray,ty,pos,af,gd⟩ ops l ws Q t h e=yu T Γ N F (wW (T O) fun τ=>oU Γ.own T τ (EH h) dst (U.map fun p=>(p.1,ev t p.2))) dst ops l ws Q t h e:=eT (fun _ _ _ X=>by cases X) (by simp only[lS];first|rfl|(cases T O<;>rfl))
theorem GZ {O:Nat} {U:List (Nat×Operand)} : oC T Γ N F ⟨dst,.build O U.toArray,ty,pos,af,gd⟩ ops l ws Q t h e fs=yv T Γ N F (wW (T O) fun τ=>oU Γ.own T τ (EH h) dst (U.map fun p=>(p.1,ev t p.2))) dst (bs ⟨dst,.build O U.toArray,ty,pos,af,gd⟩ (ev t)) ops l ws Q t h e fs:=eU (fun _ _ _ X=>by cases X) (by simp only[lS];first|rfl|(cases T O<;>rfl))
theorem tu {O len d:Nat} {U:List (Nat×Operand)} : oB T Γ N F ⟨some d,.buildSlice O len U.toArray,ty,pos,af,gd⟩ ops l ws Q t h e=yu T Γ N F (wW (T O) fun τ=>ec T τ (EH h) e d len (U.map fun p=>(p.1,ev t p.2))) (some d) ops l ws Q t h e:=eT (fun _ _ _ X=>by cases X) (by simp only[lS];first|rfl|(cases T O<;>rfl))
theorem tv {O len d:Nat} {U:List (Nat×Operand)} : oC T Γ N F ⟨some d,.buildSlice O len U.toArray,ty,pos,af,gd⟩ ops l ws Q t h e fs=yv T Γ N F (wW (T O) fun τ=>ec T τ (EH h) e d len (U.map fun p=>(p.1,ev t p.2))) (some d) (bs ⟨some d,.buildSlice O len U.toArray,ty,pos,af,gd⟩ (ev t)) ops l ws Q t h e fs:=eU (fun _ _ _ X=>by cases X) (by simp only[lS];first|rfl|(cases T O<;>rfl))
def D0 (T:Nat->Option Ty) (e d O:Nat) (x y:D):Option (Nat×Nat×Nat)->Option bE
 | some p=>(match T O with|some τ=>sK T τ e d p.1 p.2.1 p.2.2 x y|none=>none)
 | none=>none
theorem HY {d O:Nat} {x y:D} : D0 T e d O x y none=none:=ajU
theorem HZ {d O:Nat} {x y:D} {p:Nat×Nat×Nat} {τ:Ty} (U:T O=some τ):D0 T e d O x y (some p)=sK T τ e d p.1 p.2.1 p.2.2 x y:=by simp only[D0,U]
def stM (y x:Option bE) (dst:Option Nat) (ops l:List Oper) (ws:List W) (Q:Kt) (t:Nat->D) (h:Nat->Option Row) (e:Nat):Prop :=
 match y with
 | some E=>F0 T Γ N F (some E) dst ops l ws Q t h e
 | none=>yu T Γ N F x dst ops l ws Q t h e
def Zs (y x:Option bE) (dst:Option Nat) (O:List Nat) (ops l:List Oper) (ws:List W) (Q:Kt) (t:Nat->D) (h:Nat->Option Row) (e:Nat) (fs:List jZ):Prop :=
 match y with
 | some E=>F1 T Γ N F (some E) dst O ops l ws Q t h e fs
 | none=>yv T Γ N F x dst O ops l ws Q t h e fs
theorem vN {O d:Nat} {x y:Operand} : oB T Γ N F ⟨some d,.makeSlice O x y,ty,pos,af,gd⟩ ops l ws Q t h e=stM (T:=T) (Γ:=Γ) (N:=N) (F:=F) (D0 T e d O (ev t x) (ev t y) (Γ.nst d)) (wW (T O) fun τ=>pV T τ e d (ev t x) (ev t y)) (some d) ops l ws Q t h e:=by
 have hm:gA T Γ e ⟨some d,.makeSlice O x y,ty,pos,af,gd⟩ (ev t)=D0 T e d O (ev t x) (ev t y) (Γ.nst d):=by
  unfold gA D0;simp only;cases Γ.nst d<;>rfl
 cases U:D0 T e d O (ev t x) (ev t y) (Γ.nst d) with
 | none=>exact eT (fun _ _ _ X=>by cases X) (by simp only[lS];first|rfl|(cases T O<;>rfl)) (hm.trans U)
 | some E=>unfold oB PR nZ;rw[hm,U];rfl
theorem vR {O d:Nat} {x y:Operand} : oC T Γ N F ⟨some d,.makeSlice O x y,ty,pos,af,gd⟩ ops l ws Q t h e fs=Zs (T:=T) (Γ:=Γ) (N:=N) (F:=F) (D0 T e d O (ev t x) (ev t y) (Γ.nst d)) (wW (T O) fun τ=>pV T τ e d (ev t x) (ev t y)) (some d) (bs ⟨some d,.makeSlice O x y,ty,pos,af,gd⟩ (ev t)) ops l ws Q t h e fs:=by
 have hm:gA T Γ e ⟨some d,.makeSlice O x y,ty,pos,af,gd⟩ (ev t)=D0 T e d O (ev t x) (ev t y) (Γ.nst d):=by
  unfold gA D0;simp only;cases Γ.nst d<;>rfl
 cases U:D0 T e d O (ev t x) (ev t y) (Γ.nst d) with
 | none=>exact eU (fun _ _ _ X=>by cases X) (by simp only[lS];first|rfl|(cases T O<;>rfl)) (hm.trans U)
 | some E=>unfold oC PR nZ;rw[hm,U];rfl
theorem Pj {x:Option bE} : stM (T:=T) (Γ:=Γ) (N:=N) (F:=F) none x dst ops l ws Q t h e=yu T Γ N F x dst ops l ws Q t h e:=ajU
theorem IT {x:Option bE} {O:List Nat} : Zs (T:=T) (Γ:=Γ) (N:=N) (F:=F) none x dst O ops l ws Q t h e fs=yv T Γ N F x dst O ops l ws Q t h e fs:=ajU
theorem Pk {x:Option bE} {E:bE} : stM (T:=T) (Γ:=Γ) (N:=N) (F:=F) (some E) x dst ops l ws Q t h e=F0 T Γ N F (some E) dst ops l ws Q t h e:=ajU
theorem IU {x:Option bE} {O:List Nat} {E:bE} : Zs (T:=T) (Γ:=Γ) (N:=N) (F:=F) (some E) x dst O ops l ws Q t h e fs=F1 T Γ N F (some E) dst O ops l ws Q t h e fs:=ajU
theorem Ui {x:Option bE} {c:Prop} [Decidable c] {E:bE} (O:c):stM (T:=T) (Γ:=Γ) (N:=N) (F:=F) (if c then some E else none) x dst ops l ws Q t h e=F0 T Γ N F (some E) dst ops l ws Q t h e:=by rw[if_pos O];rfl
theorem Ph {x:Option bE} {O:List Nat} {c:Prop} [Decidable c] {E:bE} (U:c):Zs (T:=T) (Γ:=Γ) (N:=N) (F:=F) (if c then some E else none) x dst O ops l ws Q t h e fs=F1 T Γ N F (some E) dst O ops l ws Q t h e fs:=by rw[if_pos U];rfl
def WT (T:Nat->Option Ty) (e d O:Nat):Option (Nat×Nat×Nat)->Option bE
 | some p=>(match T O with|some τ=>Yw τ O e d p.1 p.2.1 p.2.2|none=>none)
 | none=>none
theorem K1 {d O:Nat} : WT T e d O none=none:=ajU
theorem K2 {d O:Nat} {p:Nat×Nat×Nat} {τ:Ty} (U:T O=some τ):WT T e d O (some p)=Yw τ O e d p.1 p.2.1 p.2.2:=by simp only[WT,U]
theorem GO {O d:Nat} : oB T Γ N F ⟨some d,.alloc O,ty,pos,af,gd⟩ ops l ws Q t h e=stM (T:=T) (Γ:=Γ) (N:=N) (F:=F) (WT T e d O (Γ.nst d)) (Cc (T O) O d e (Γ.hint d)) (some d) ops l ws Q t h e:=by
 have hm:gA T Γ e ⟨some d,.alloc O,ty,pos,af,gd⟩ (ev t)=WT T e d O (Γ.nst d):=by
  unfold gA WT;simp only;cases Γ.nst d<;>rfl
 cases U:WT T e d O (Γ.nst d) with
 | none=>exact eT (fun _ _ _ X=>by cases X) (by simp only[lS];cases T O with|none=>rfl|some τ=>(dsimp only[Cc];cases Γ.hint d<;>rfl)) (hm.trans U)
 | some E=>unfold oB PR nZ;rw[hm,U];rfl
theorem GX {O d:Nat} : oC T Γ N F ⟨some d,.alloc O,ty,pos,af,gd⟩ ops l ws Q t h e fs=Zs (T:=T) (Γ:=Γ) (N:=N) (F:=F) (WT T e d O (Γ.nst d)) (Cc (T O) O d e (Γ.hint d)) (some d) (bs ⟨some d,.alloc O,ty,pos,af,gd⟩ (ev t)) ops l ws Q t h e fs:=by
 have hm:gA T Γ e ⟨some d,.alloc O,ty,pos,af,gd⟩ (ev t)=WT T e d O (Γ.nst d):=by
  unfold gA WT;simp only;cases Γ.nst d<;>rfl
 cases U:WT T e d O (Γ.nst d) with
 | none=>exact eU (fun _ _ _ X=>by cases X) (by simp only[lS];cases T O with|none=>rfl|some τ=>(dsimp only[Cc];cases Γ.hint d<;>rfl)) (hm.trans U)
 | some E=>unfold oC PR nZ;rw[hm,U];rfl
theorem Ah {O d:Nat} : oB T Γ N F ⟨some d,.makeMap O none,ty,pos,af,gd⟩ ops l ws Q t h e=yu T Γ N F (VK T (T O) O e d) (some d) ops l ws Q t h e:=eT (fun _ _ _ U=>by cases U) (by simp only[lS];first|rfl|(cases T O<;>rfl))
theorem Al {O d:Nat} : oC T Γ N F ⟨some d,.makeMap O none,ty,pos,af,gd⟩ ops l ws Q t h e fs=yv T Γ N F (VK T (T O) O e d) (some d) (bs ⟨some d,.makeMap O none,ty,pos,af,gd⟩ (ev t)) ops l ws Q t h e fs:=eU (fun _ _ _ U=>by cases U) (by simp only[lS];first|rfl|(cases T O<;>rfl))
theorem CH {O:Nat} {m i:Operand} {ok:Bool} : oB T Γ N F ⟨dst,.lookup O m i ok,ty,pos,af,gd⟩ ops l ws Q t h e=yu T Γ N F (wW (T O) fun τ=>gm T τ (EH h) (ev t m) (ev t i) ok) dst ops l ws Q t h e:=eT (fun _ _ _ U=>by cases U) (by simp only[lS];first|rfl|(cases T O<;>rfl))
theorem CL {O:Nat} {m i:Operand} {ok:Bool} : oC T Γ N F ⟨dst,.lookup O m i ok,ty,pos,af,gd⟩ ops l ws Q t h e fs=yv T Γ N F (wW (T O) fun τ=>gm T τ (EH h) (ev t m) (ev t i) ok) dst (bs ⟨dst,.lookup O m i ok,ty,pos,af,gd⟩ (ev t)) ops l ws Q t h e fs:=eU (fun _ _ _ U=>by cases U) (by simp only[lS];first|rfl|(cases T O<;>rfl))
theorem vO {O:Nat} {m i x:Operand} : oB T Γ N F ⟨dst,.mapUpdate O m i x,ty,pos,af,gd⟩ ops l ws Q t h e=yu T Γ N F (wW (T O) fun τ=>cM T τ (EH h) (ev t m) (ev t i) (ev t x)) dst ops l ws Q t h e:=eT (fun _ _ _ U=>by cases U) (by simp only[lS];first|rfl|(cases T O<;>rfl))
theorem vS {O:Nat} {m i x:Operand} : oC T Γ N F ⟨dst,.mapUpdate O m i x,ty,pos,af,gd⟩ ops l ws Q t h e fs=yv T Γ N F (wW (T O) fun τ=>cM T τ (EH h) (ev t m) (ev t i) (ev t x)) dst (bs ⟨dst,.mapUpdate O m i x,ty,pos,af,gd⟩ (ev t)) ops l ws Q t h e fs:=eU (fun _ _ _ U=>by cases U) (by simp only[lS];first|rfl|(cases T O<;>rfl))
theorem CG {O:Nat} {m i x:Operand} : oB T Γ N F ⟨dst,.insert O m i x,ty,pos,af,gd⟩ ops l ws Q t h e=yu T Γ N F (wW (T O) fun τ=>cM T τ (EH h) (ev t m) (ev t i) (ev t x)) dst ops l ws Q t h e:=eT (fun _ _ _ U=>by cases U) (by simp only[lS];first|rfl|(cases T O<;>rfl))
theorem CJ {O:Nat} {m i x:Operand} : oC T Γ N F ⟨dst,.insert O m i x,ty,pos,af,gd⟩ ops l ws Q t h e fs=yv T Γ N F (wW (T O) fun τ=>cM T τ (EH h) (ev t m) (ev t i) (ev t x)) dst (bs ⟨dst,.insert O m i x,ty,pos,af,gd⟩ (ev t)) ops l ws Q t h e fs:=eU (fun _ _ _ U=>by cases U) (by simp only[lS];first|rfl|(cases T O<;>rfl))
theorem S4 {O d:Nat} {x:Operand} : oB T Γ N F ⟨some d,.box O x,ty,pos,af,gd⟩ ops l ws Q t h e=yu T Γ N F (acO (eS (EH h) (ev t x)) (EH h) O d e) (some d) ops l ws Q t h e:=eT (fun _ _ _ U=>by cases U) (by simp only[lS];first|rfl|(cases eS (EH h) (ev t x)<;>rfl))
theorem S5 {O d:Nat} {x:Operand} : oC T Γ N F ⟨some d,.box O x,ty,pos,af,gd⟩ ops l ws Q t h e fs=yv T Γ N F (acO (eS (EH h) (ev t x)) (EH h) O d e) (some d) (bs ⟨some d,.box O x,ty,pos,af,gd⟩ (ev t)) ops l ws Q t h e fs:=eU (fun _ _ _ U=>by cases U) (by simp only[lS];first|rfl|(cases eS (EH h) (ev t x)<;>rfl))
theorem Af {a b:Nat} {x:Operand} : oB T Γ N F ⟨dst,.convert a b x,ty,pos,af,gd⟩ ops l ws Q t h e=yu T Γ N F (Xv (T b) (T a) (ev t x)) dst ops l ws Q t h e:=eT (fun _ _ _ O=>by cases O) rfl
theorem Aj {a b:Nat} {x:Operand} : oC T Γ N F ⟨dst,.convert a b x,ty,pos,af,gd⟩ ops l ws Q t h e fs=yv T Γ N F (Xv (T b) (T a) (ev t x)) dst (bs ⟨dst,.convert a b x,ty,pos,af,gd⟩ (ev t)) ops l ws Q t h e fs:=eU (fun _ _ _ O=>by cases O) rfl
theorem Ag {x:Nat} {i:Nat} : oB T Γ N F ⟨dst,.extract (.tmp x) i,ty,pos,af,gd⟩ ops l ws Q t h e=yu T Γ N F (aaY (t x) i) dst ops l ws Q t h e:=eT (fun _ _ _ O=>by cases O) rfl
theorem Ak {x:Nat} {i:Nat} : oC T Γ N F ⟨dst,.extract (.tmp x) i,ty,pos,af,gd⟩ ops l ws Q t h e fs=yv T Γ N F (aaY (t x) i) dst (bs ⟨dst,.extract (.tmp x) i,ty,pos,af,gd⟩ (ev t)) ops l ws Q t h e fs:=eU (fun _ _ _ O=>by cases O) rfl
def cnL (Γ:Env) (e:Nat) (h:Nat->Option Row) (g:Nat) (args:List D):Option (Nat×(Nat->Nat->Nat->Nat->List D->List D->Option (D×List D)))->Option bE
 | some _=>qM Γ e h g args
 | none=>none
theorem LS {g:Nat} {args:List D} : cnL Γ e h g args none=none:=ajU
theorem LU {g:Nat} {args:List D} {p:Nat×(Nat->Nat->Nat->Nat->List D->List D->Option (D×List D))} : cnL Γ e h g args (some p)=qM Γ e h g args:=ajU
theorem XU {g:Nat} {args:List D} : Ay Γ e h (some (.fn g,args))=cnL Γ e h g args (Γ.nx.lnd g):=by
 cases O:Γ.nx.lnd g with
 | some p=>rfl
 | none =>
  show qM Γ e h g args=none;cases U:qM Γ e h g args with
  | none=>rfl
  | some E =>
   obtain⟨_,_,_,_,_,_,_,_,_,_,_,_,_,_,_,_,h1,_⟩:=rS U;rw[O]at h1;cases h1
theorem S7 {f k:Nat} {xs args:List D} : Ay Γ e h (some (.clo f k xs,args))=none:=ajU
theorem XT {d g:Nat} {args:List D} : lT Γ e h (some d) (some (.fn g,args))=C2 e d h args (Γ.nx.res g):=ajU
theorem S6 {dst:Option Nat} {f k:Nat} {xs args:List D} : lT Γ e h dst (some (.clo f k xs,args))=none:=by cases dst<;>rfl
theorem Me {q:Option (D×List D)} : lT Γ e h none q=none:=ajU
theorem Mf {d:Nat} {args:List D} : C2 e d h args none=none:=ajU
theorem Mg {d:Nat} {args:List D} {p:List D->Option (Nat×Nat×Nat×Nat×Nat×List D)} : C2 e d h args (some p)=Gy p e d (bz (EH h) args):=ajU
theorem Lk {d:Nat} {agK:List D} {p:List D->Option (Nat×Nat×Nat×Nat×Nat×List D)} : Gy p e d (some (agK,[]))=Jy e d (p agK):=ajU
theorem Gz {d ty O s S n:Nat} {cs:List D} (U:d<1000000):Jy e d (some (ty,O,s,S,n,cs))=some ⟨.buf d e S 0 n,[(d,some ⟨e,ty,[.nr O s (4*e+2) cs],false,true,true⟩)]⟩:=if_pos (by rw[cr];exact U)
def stC (y0 x y:Option bE) (dst:Option Nat) (ops l:List Oper) (ws:List W) (Q:Kt) (t:Nat->D) (h:Nat->Option Row) (e:Nat):Prop :=
 match y0 with
 | some E=>F0 T Γ N F (some E) dst ops l ws Q t h e
 | none=>E2 T Γ N F x y dst ops l ws Q t h e
def ady (y0 x y:Option bE) (dst:Option Nat) (O:List Nat) (ops l:List Oper) (ws:List W) (Q:Kt) (t:Nat->D) (h:Nat->Option Row) (e:Nat) (fs:List jZ):Prop :=
 match y0 with
 | some E=>F1 T Γ N F (some E) dst O ops l ws Q t h e fs
 | none=>E3 T Γ N F x y dst O ops l ws Q t h e fs
theorem Pd {x y:Option bE} : stC (T:=T) (Γ:=Γ) (N:=N) (F:=F) none x y dst ops l ws Q t h e=E2 T Γ N F x y dst ops l ws Q t h e:=ajU
theorem IM {x y:Option bE} {O:List Nat} : ady (T:=T) (Γ:=Γ) (N:=N) (F:=F) none x y dst O ops l ws Q t h e fs=E3 T Γ N F x y dst O ops l ws Q t h e fs:=ajU
theorem Pe {x y:Option bE} {E:bE} : stC (T:=T) (Γ:=Γ) (N:=N) (F:=F) (some E) x y dst ops l ws Q t h e=F0 T Γ N F (some E) dst ops l ws Q t h e:=ajU
theorem IN {x y:Option bE} {O:List Nat} {E:bE} : ady (T:=T) (Γ:=Γ) (N:=N) (F:=F) (some E) x y dst O ops l ws Q t h e fs=F1 T Γ N F (some E) dst O ops l ws Q t h e fs:=ajU
theorem LZ {x:Operand} {agK:List Operand} {O:Array Nat} : oB T Γ N F ⟨dst,.call ⟨.value x,agK.toArray,O⟩,ty,pos,af,gd⟩ ops l ws Q t h e=stC (T:=T) (Γ:=Γ) (N:=N) (F:=F) (lT Γ e h dst (some (ev t x,agK.map (ev t)))) (ig Γ (EH h) e dst (ev t x) (agK.map (ev t))) (Ay Γ e h (some (ev t x,agK.map (ev t)))) dst ops l ws Q t h e:=by
 have U:gU (ev t) (.call ⟨.value x,agK.toArray,O⟩)=some (ev t x,agK.map (ev t)):=rfl;cases X:lT Γ e h dst (some (ev t x,agK.map (ev t))) with
 | none=>exact xx (fun _ _ _ Y=>by cases Y) rfl (by rw[U];exact X) rfl rfl
 | some E=>unfold oB PR nZ;simp only[gA,U,X];rfl
theorem L5 {x:Operand} {agK:List Operand} {O:Array Nat} : oC T Γ N F ⟨dst,.call ⟨.value x,agK.toArray,O⟩,ty,pos,af,gd⟩ ops l ws Q t h e fs=ady (T:=T) (Γ:=Γ) (N:=N) (F:=F) (lT Γ e h dst (some (ev t x,agK.map (ev t)))) (ig Γ (EH h) e dst (ev t x) (agK.map (ev t))) (Ay Γ e h (some (ev t x,agK.map (ev t)))) dst (bs ⟨dst,.call ⟨.value x,agK.toArray,O⟩,ty,pos,af,gd⟩ (ev t)) ops l ws Q t h e fs:=by
 have U:gU (ev t) (.call ⟨.value x,agK.toArray,O⟩)=some (ev t x,agK.map (ev t)):=rfl;cases X:lT Γ e h dst (some (ev t x,agK.map (ev t))) with
 | none=>exact xA (fun _ _ _ Y=>by cases Y) rfl (by rw[U];exact X) rfl rfl
 | some E=>unfold oC PR nZ;simp only[gA,U,X];rfl
theorem Ae {x:Builtin} {agK:List Operand} {O:List Nat} : oB T Γ N F ⟨dst,.call ⟨.builtin x,agK.toArray,O.toArray⟩,ty,pos,af,gd⟩ ops l ws Q t h e=yu T Γ N F (cA T (EH h) e dst x O (agK.map (ev t))) dst ops l ws Q t h e:=eT (fun _ _ _ U=>by cases U) rfl
theorem Ai {x:Builtin} {agK:List Operand} {O:List Nat} : oC T Γ N F ⟨dst,.call ⟨.builtin x,agK.toArray,O.toArray⟩,ty,pos,af,gd⟩ ops l ws Q t h e fs=yv T Γ N F (cA T (EH h) e dst x O (agK.map (ev t))) dst (bs ⟨dst,.call ⟨.builtin x,agK.toArray,O.toArray⟩,ty,pos,af,gd⟩ (ev t)) ops l ws Q t h e fs:=eU (fun _ _ _ U=>by cases U) rfl
theorem bH {o:Array Oper} {A:Prop} (h1:CU o fs=true) (h2:A):CU o fs=true∧A:=⟨h1,h2⟩
theorem ak {b:Bool} {g:Nat} {x y:Code} (h1:b=true->de T Γ N F (.code x::ws) Q .normal (bI t g (.bool true)) h e) (h2:b=false->de T Γ N F (.code y::ws) Q .normal (bI t g (.bool false)) h e):KI T Γ N F (.bool b) g x y ws Q t h e:=by rw[Wd];exact⟨h1,h2⟩
theorem e7 {b:Bool} {g:Nat} {o:Oper} (h1:b=true->oB T Γ N F o ops l ws Q (bI t g (.bool true)) h e) (h2:b=false->kd T Γ N F ops l ws Q (eL (bI t g (.bool false)) o.dst .skp) h e):vH T Γ N F (.bool b) g true o ops l ws Q t h e:=by rw[We];exact⟨h1,h2⟩
theorem aP {b:Bool} {g:Nat} {o:Oper} (h1:b=true->kd T Γ N F ops l ws Q (eL (bI t g (.bool true)) o.dst .skp) h e) (h2:b=false->oB T Γ N F o ops l ws Q (bI t g (.bool false)) h e):vH T Γ N F (.bool b) g false o ops l ws Q t h e:=by rw[RW];exact⟨h1,h2⟩
theorem UH {b:Bool} {g:Nat} {o:Oper} (h1:b=true->oC T Γ N F o ops l ws Q (bI t g (.bool true)) h e fs) (h2:b=false->kK T Γ N F ops l ws Q (eL (bI t g (.bool false)) o.dst .skp) h e (fs++[⟨[],true⟩])):vJ T Γ N F (.bool b) g true o ops l ws Q t h e fs:=by rw[Wf];exact⟨h1,h2⟩
theorem pG {b:Bool} {g:Nat} {o:Oper} (h1:b=true->kK T Γ N F ops l ws Q (eL (bI t g (.bool true)) o.dst .skp) h e (fs++[⟨[],true⟩])) (h2:b=false->oC T Γ N F o ops l ws Q (bI t g (.bool false)) h e fs):vJ T Γ N F (.bool b) g false o ops l ws Q t h e fs:=by rw[RX];exact⟨h1,h2⟩
def X1 (mode:Mode) (T:Nat->Option Ty) (lent:Option (D×Row)) (rs:List ResultVar) (r:RK×Option Row):Kt:=fun x t h e=>acW mode T lent rs x t h e r
theorem AA {mode:Mode} {lent:Option (D×Row)} {rs:List ResultVar} {r:RK×Option Row} : X1 mode T lent rs r .normal t h e=(fF mode T lent rs ⟨t,EH h,e⟩=some r):=ajU
theorem cI {mode:Mode} {lent:Option (D×Row)} {rs:List ResultVar} {r:RK×Option Row} : X1 mode T lent rs r .ret t h e=(fF mode T lent rs ⟨t,EH h,e⟩=some r):=ajU
def abY (T:Nat->Option Ty) (ty O s:Nat) (rs:List ResultVar) (r:D×List D):Kt:=fun x t h e =>
 match x with
 | .exit _=>False
 | _=>Vh T ty O s rs ⟨t,h,e⟩=some r
theorem xN {ty O s:Nat} {rs:List ResultVar} {r:D×List D} : abY T ty O s rs r .normal t h e=(Vh T ty O s rs ⟨t,h,e⟩=some r):=ajU
theorem cc {ty O s:Nat} {rs:List ResultVar} {r:D×List D} : abY T ty O s rs r .ret t h e=(Vh T ty O s rs ⟨t,h,e⟩=some r):=ajU
def abX (rs:List ResultVar) (r:Nat×Nat×Nat×Nat×Nat×List D):Kt:=fun x t h e =>
 match x with
 | .exit _=>False
 | _=>Vg rs ⟨t,h,e⟩=some r
theorem xM {rs:List ResultVar} {r:Nat×Nat×Nat×Nat×Nat×List D} : abX rs r .normal t h e=(Vg rs ⟨t,h,e⟩=some r):=ajU
theorem ca {rs:List ResultVar} {r:Nat×Nat×Nat×Nat×Nat×List D} : abX rs r .ret t h e=(Vg rs ⟨t,h,e⟩=some r):=ajU
theorem Te {ty O s:Nat} {rs:List ResultVar} : Vh T ty O s rs ⟨t,h,e⟩=Mp ty O s (sn T ⟨t,EH h,e⟩ rs) (h 0):=ajU
theorem Mq {ty O s nv:Nat} {lst:Bool} {ds cs:List D} : Mp ty O s (some (ds,[])) (some ⟨0,ty,[.nr O s nv cs],false,lst,true⟩)=some (kJ ds,cs):=by
 simp[Mp,X0]
theorem Tc {i:Nat} : Vg [.tmp i] ⟨t,h,e⟩=Tb h (t i):=ajU
theorem He {x v S n:Nat} : Tb h (.buf x v S 0 n)=Mn x v S n (h x):=ajU
theorem Mo {x v S n ty O s nv:Nat} {lst:Bool} {cs:List D} (U:x<1000000):Mn x v S n (some ⟨v,ty,[.nr O s nv cs],false,lst,true⟩)=some (ty,O,s,S,n,cs):=by
 have:x<PK:=by rw[cr];exact U
 simp[Mn,XZ,this]
theorem aG {mode:Mode} {fn:Func} {c:Code} {n:Nat} {rs:List ResultVar} {args:List D} {r:RK×Option Row} (X:fn.body=some c) (U:fn.ntmps=n) (Y:fn.results=rs.toArray) (hw:de T Γ n F [.code c] (X1 mode T none rs r) .normal (FA args) TR 0) (O:n<=1000000:=by exact aiG rfl):jY mode T Γ F fn none args=some r:=by
 refine R7 ?_ (by rw[U];exact O);unfold wpf;rw[X,U,Y];exact hw
theorem OX (r:Row) (i:Nat):mE r i=if i=0 then some r else none:=ajU
theorem Fq {mode:Mode} {fn:Func} {c:Code} {n:Nat} {rs:List ResultVar} {d0:D} {ty:Nat} {cells:List D} {fz lst:Bool} {args:List D} {r:RK×Option Row} (X:fn.body=some c) (U:fn.ntmps=n) (Y:fn.results=rs.toArray)
  (hw:de T Γ n F [.code c] (X1 mode T (some (d0,⟨0,ty,cells,fz,lst,false⟩)) rs r) .normal (FA (d0::args)) (mE ⟨0,ty,cells,fz,lst,false⟩) 1) (O:n<=1000000:=by exact aiG rfl):jY mode T Γ F fn (some (d0,⟨0,ty,cells,fz,lst,false⟩)) args=some r:=by
 refine R7 ?_ (by rw[U];exact O);unfold wpf;rw[X,U,Y];exact hw
end
section
variable {h:Nat->Option Row} {k x o v ty fz' nv s n e:Nat} {cs xs:List D} {fz lst:Bool}
theorem Wx (hk:k<2000000):EH h k=(h k).map (Bz k):=qJ (by rw[cr];exact hk)
theorem abF (O:x<1000000):EH h (NK x o)=(h x).bind fun r=>pZ r o:=qI (by rw[cr];exact O)
theorem IJ:Bz k ⟨v,ty,cs,fz,lst,false⟩=⟨v,ty,cs,fz,lst,false⟩:=ajU
theorem Ud {ks:List cn} : Bz k ⟨v,ty,[.mpc ks xs],fz,lst,true⟩=⟨v,ty,[.mpc ks xs],fz,lst,true⟩:=ajU
theorem Zm {y:Nat} : Bz k ⟨v,ty,[.ph y s n],fz,lst,true⟩=⟨v,ty,[.ph y s n],fz,lst,true⟩:=ajU
theorem Zl {t:Nat} : Bz k ⟨v,ty,[.nr t s nv cs],fz,lst,true⟩=⟨v,ty,cs.mapIdx (pL k s),fz,lst,true⟩:=ajU
theorem Oa {t:Nat} : pZ ⟨v,ty,[.nr t s nv cs],fz,lst,true⟩ o=D2 t nv fz (cs.drop o).head?:=ajU
theorem N9:D2 ty nv fz (some (.nx n xs))=some ⟨nv,ty,xs,fz,true,false⟩:=ajU
theorem acz (O:x<1000000):rt (NK x o)=x:=sN (by rw[cr];exact O)
theorem HB:jX h []=[]:=ajU
theorem HA {r:Option Row} {l:List (Nat×Option Row)} (hk:k<2000000):jX h ((k,r)::l)=(k,D3 r)::jX (bI h k (D3 r)) l:=by
 have h1:rt k=k:=gN (by rw[cr];exact hk);have h2:yj h k r=D3 r:=if_pos (by rw[cr];exact hk);simp only[jX,h1,h2]
theorem MA {r:Option Row} {l:List (Nat×Option Row)} (U:x<1000000):jX h ((NK x o,r)::l)=(x,(h x).map (EE o r))::jX (bI h x ((h x).map (EE o r))) l:=by
 have O:x<PK:=by rw[cr];exact U
 have h1:rt (NK x o)=x:=sN O;have h2:yj h (NK x o) r=(h x).map (EE o r):=by
  unfold yj;rw[if_neg (by have:=eR x o;omega),rH o O,B3 o O]
 simp only[jX,h1,h2]
theorem Ia:D3 none=none:=ajU
theorem D4:D3 (some ⟨v,ty,cs,fz,lst,false⟩)=some ⟨v,ty,cs,fz,lst,false⟩:=ajU
theorem Oc {ks:List cn} : D3 (some ⟨v,ty,[.mpc ks xs],fz,lst,true⟩)=some ⟨v,ty,[.mpc ks xs],fz,lst,true⟩:=ajU
theorem TQ {y:Nat} : D3 (some ⟨v,ty,[.ph y s n],fz,lst,true⟩)=some ⟨v,ty,[.ph y s n],fz,lst,true⟩:=ajU
theorem T2 {t:Nat} {r:Option Row} : EE o r ⟨v,ty,[.nr t s nv cs],fz,lst,true⟩=⟨v,ty,zL t s nv fz cs o r (cs.drop o).head?,fz,lst,true⟩:=ajU
theorem Ua {t v':Nat} {O:List D} : zL t s nv fz cs o (some ⟨v',t,O,fz,true,false⟩) (some (.nx n xs))=if v'=nv then [.nr t s nv (putCells cs o [.nx n O])] else [.nr t s nv (putCells cs o [.und])]:=by
 by_cases U:v'=nv<;>simp[zL,Im,U]
def lvN (x v:Nat):Option Row->Option (Row×Nat×Nat×Nat×List D)
 | some r=>if r.v=v∧r.fz=false∧r.mp=true∧x<1000000 then nrO r r.cells else none
 | none=>none
theorem NH:fJ h x v=lvN x v (h x):=by
 unfold fJ lvN;rw[cr];cases h x<;>rfl
theorem Yu {t:Nat} (O:x<1000000):lvN x v (some ⟨v,ty,[.nr t s nv cs],false,lst,true⟩)=some (⟨v,ty,[.nr t s nv cs],false,lst,true⟩,t,s,nv,cs):=by
 simp only[lvN,true_and,O,and_self,if_true,nrO]
def ac6 (τ:Ty) (x o:Nat):Option (Row×Nat×Nat×Nat×List D)->Option bE
 | some (r,ty,s,nv,cs)=>DM τ x s nv o cs (cs.drop o).head?
 | none=>none
theorem TC {τ:Ty} : oX τ h (.ptr x v o)=ac6 τ x o (fJ h x v):=by
 simp only[oX,ac6];cases fJ h x v<;>rfl
theorem HN {τ:Ty} {r:Row} {t:Nat} : ac6 τ x o (some (r,t,s,nv,cs))=DM τ x s nv o cs (cs.drop o).head?:=ajU
theorem TA {ds:Ds} {b:Nat} {z:List Value} {q:Bool} : DM ⟨ds,1,b,z,q⟩ x s nv o cs (some (.nx n xs))=if ds.n9=false then some ⟨.buf (NK x o) nv s 0 n,[]⟩ else none:=by
 simp only[DM,true_and]
def VC (τ:Ty) (o:Nat) (cs:List D):Option bE :=
 if o+τ.size<=cs.length∧((cs.drop o).take τ.size).all e8=true then okD (js τ ((cs.drop o).take τ.size)) else none
theorem Nx {τ:Ty} {O:IntKind} {i:Int} : DM τ x s nv o cs (some (.int O i))=VC τ o cs:=ajU
theorem HO {τ:Ty} {b:Bool} : DM τ x s nv o cs (some (.bool b))=VC τ o cs:=ajU
theorem Ny {τ:Ty} {b:ByteArray} : DM τ x s nv o cs (some (.str b))=VC τ o cs:=ajU
theorem TB {τ:Ty} {a b:Bool} : DM τ x s nv o cs (some (.sl a b n xs))=VC τ o cs:=ajU
def abt (τ:Ty) (e:Nat) (h:Nat->Option Row) (x o:Nat) (d:D):Option (Row×Nat×Nat×Nat×List D)->Option bE
 | some (r,ty,s,nv,cs)=>if o+τ.size<=cs.length∧0<τ.size then vF τ e h x r ty s nv cs o d else none
 | none=>none
theorem Uk {τ:Ty} {d:D} : mm τ e h (.ptr x v o) d=abt τ e h x o d (fJ h x v):=by
 simp only[mm,abt];cases fJ h x v<;>rfl
theorem IW {ds:Ds} {m b:Nat} {z:List Value} {q:Bool} {d:D} {r:Row} {t:Nat} (hm:0<m) (O:o+m<=cs.length):abt ⟨ds,m,b,z,q⟩ e h x o d (some (r,t,s,nv,cs))=vF ⟨ds,m,b,z,q⟩ e h x r t s nv cs o d:=by
 simp only[abt,hm,O,and_self,if_true]
theorem IX {ds:Ds} {b:Nat} {z:List Value} {q:Bool} {r:Row} {t:Nat} : vF ⟨ds,1,b,z,q⟩ e h x r t s nv cs o (.buf (NK x o) nv s 0 n)=zN x r t s nv cs o n (cs.drop o).head?:=by
 simp only[vF,and_self,if_true]
theorem IL {ds:Ds} {r:Row} {t O:Nat} : zN x r t s nv cs o n (some (.nx O xs))=if n*s<=xs.length then some ⟨.und,[(x,some ⟨r.v,r.ty,[.nr t s nv (putCells cs o [.nx n (xs.take (n*s))])],false,r.lst,true⟩)]⟩ else none:=ajU
def adz (x:Nat) (r:Row) (ty s:Nat) (cs:List D) (o y n:Nat) (b:Option Nat):Option Row->Option bE
 | some q=>if q.fz=false∧q.lst=true∧q.ty=ty∧q.cells.length=n*s then zO x r ty s cs o y n q b else none
 | none=>none
theorem IZ {ds:Ds} {b y O:Nat} {z:List Value} {q:Bool} {r:Row} {t:Nat} (U:y<1000000):vF ⟨ds,1,b,z,q⟩ e h x r t s nv cs o (.buf y O s 0 n)=adz x r t s cs o y n (bump nv e) (live h y O):=by
 have h1:¬y=NK x o:=by have:=eR x o;rw[cr]at this;omega
 have h2:y<PK:=by rw[cr];exact U
 simp only[vF,and_self,if_true,h1,if_false,h2];cases live h y O<;>rfl
theorem IV {r q:Row} {t O y:Nat} (U:q.fz=false∧q.lst=true∧q.ty=t∧q.cells.length=n*s):adz x r t s cs o y n (some O) (some q)=some ⟨.und,[(y,none),(x,some ⟨r.v,r.ty,[.nr t s O (putCells cs o [.nx n q.cells])],false,r.lst,true⟩)]⟩:=by
 simp only[adz,U,and_self,if_true,zO]
theorem Pn {τ:Ty} {r:Row} {t:Nat} {O:IntKind} {i:Int} : vF τ e h x r t s nv cs o (.int O i)=zP τ x r t s nv cs o (some [.int O i]):=ajU
theorem IY {τ:Ty} {r:Row} {t:Nat} {b:Bool} : vF τ e h x r t s nv cs o (.bool b)=zP τ x r t s nv cs o (some [.bool b]):=ajU
theorem Po {τ:Ty} {r:Row} {t:Nat} {b:ByteArray} : vF τ e h x r t s nv cs o (.str b)=zP τ x r t s nv cs o (some [.str b]):=ajU
theorem Uj {τ:Ty} {r:Row} {t:Nat} {a b:Bool} : vF τ e h x r t s nv cs o (.sl a b n xs)=zP τ x r t s nv cs o (some [.sl a b n xs]):=ajU
theorem Pm {τ:Ty} {r:Row} {t:Nat} : vF τ e h x r t s nv cs o (.agg xs)=zP τ x r t s nv cs o (some xs):=ajU
theorem I3 {τ:Ty} {r:Row} {t:Nat} {O:List D} : zP τ x r t s nv cs o (some O)=if O.length=τ.size∧O.all e8=true then some ⟨.und,[(x,some ⟨r.v,r.ty,[.nr t s nv (putCells cs o (O.map canon))],false,r.lst,true⟩)]⟩ else none:=ajU
theorem xm (O:nv<=4*e):bump nv e=some (4*e+1):=if_pos O
theorem Xc (O:nv=4*e+2):bump nv e=some (4*e+3):=by unfold bump;rw[if_neg (by omega),if_pos O]
theorem OJ {E:bE} {y:Option bE} : orE (some E) y=some E:=ajU
theorem OI {y:Option bE} : orE none y=y:=ajU
def Vz (τ:Ty) (x o:Nat):Option (Row×Nat×Nat×Nat×List D)->Option bE
 | some (r,ty,s,nv,cs)=>if r.lst=false∧o=0∧cs.length=τ.size∧1<τ.size∧cs.all (Bm s)=true then QY x r ty s nv (mG τ.size 0 cs) (js τ (cs.map Wh)) else none
 | none=>none
theorem Tz {τ:Ty} : tC τ h (.ptr x v o)=orE (Vz τ x o (fJ h x v)) (oX τ h (.ptr x v o)):=by
 simp only[tC,oW];cases fJ h x v<;>rfl
theorem HL {τ:Ty} : Vz τ x o none=none:=ajU
theorem Yo {τ:Ty} {v' ty:Nat} {cells:List D} {fz mp:Bool} {t:Nat} : Vz τ x o (some (⟨v',ty,cells,fz,true,mp⟩,t,s,nv,cs))=none:=by simp[Vz]
theorem Yp {τ:Ty} {v' ty:Nat} {cells:List D} {fz mp:Bool} {t:Nat} : Vz τ x o (some (⟨v',ty,cells,fz,false,mp⟩,t,s,nv,cs))=if o=0∧cs.length=τ.size∧1<τ.size∧cs.all (Bm s)=true then QY x ⟨v',ty,cells,fz,false,mp⟩ t s nv (mG τ.size 0 cs) (js τ (cs.map Wh)) else none:=by
 simp only[Vz,true_and]
theorem HM {r:Row} {t:Nat} {d:D} : QY x r t s nv cs (some d)=some ⟨d,[(x,some ⟨r.v,r.ty,[.nr t s nv cs],false,r.lst,true⟩)]⟩:=ajU
def V9 (τ:Ty) (e x o:Nat) (d:D):Option (Row×Nat×Nat×Nat×List D)->Option bE
 | some (r,ty,s,nv,cs)=>if r.lst=false∧o=0∧cs.length=τ.size then Ru τ.size e x r ty s nv cs d else none
 | none=>none
theorem Uf {τ:Ty} {d:D} : tE τ e h (.ptr x v o) d=orE (V9 τ e x o d (fJ h x v)) (mm τ e h (.ptr x v o) d):=by
 simp only[tE,pb];cases fJ h x v<;>rfl
theorem I5 {τ:Ty} {d:D} : V9 τ e x o d none=none:=ajU
theorem Zt {τ:Ty} {d:D} {v' ty:Nat} {cells:List D} {fz mp:Bool} {t:Nat} : V9 τ e x o d (some (⟨v',ty,cells,fz,true,mp⟩,t,s,nv,cs))=none:=by simp[V9]
theorem Zu {τ:Ty} {d:D} {v' ty:Nat} {cells:List D} {fz mp:Bool} {t:Nat} : V9 τ e x o d (some (⟨v',ty,cells,fz,false,mp⟩,t,s,nv,cs))=if o=0∧cs.length=τ.size then Ru τ.size e x ⟨v',ty,cells,fz,false,mp⟩ t s nv cs d else none:=by
 simp only[V9,true_and]
theorem Pt {O t:Nat} {r:Row} : Ru O e x r t s nv cs (.agg xs)=if xs.length=O then stZ x r t s (bump nv e) (rp cs xs) else none:=ajU
theorem Ps {r:Row} {t O:Nat} {cs':List D} : stZ x r t s (some O) (some cs')=some ⟨.und,[(x,some ⟨r.v,r.ty,[.nr t s O cs'],false,r.lst,true⟩)]⟩:=ajU
def abD:Option D->Option (List D)->Option (List D)
 | some y,some O=>some (y::O)
 | _,_=>none
theorem Ji {y:D} {O:List D} : abD (some y) (some O)=some (y::O):=ajU
theorem Jj:rp [] []=some []:=ajU
theorem Fu {c x:D} {cs xs:List D} : rp (c::cs) (x::xs)=abD (F8 c x) (rp cs xs):=by
 simp only[rp];cases F8 c x<;>cases rp cs xs<;>rfl
theorem UR:F8 (.nx n xs) (.sl true true 0 [])=some (.nx 0 []):=ajU
theorem UP {k k':IntKind} {i j:Int} : F8 (.int k i) (.int k' j)=some (.int k' j):=ajU
theorem PQ {a b:D} : mG 2 0 [a,b]=[Wh a,Wh b]:=ajU
theorem UI {k:IntKind} {i:Int} : Wh (.int k i)=.int k i:=ajU
theorem aaf:Wh (.nx n xs)=.sl false false n xs:=ajU
theorem TU {k:IntKind} {i:Int} : Bm s (.int k i)=true:=ajU
theorem YM:Bm s (.nx n xs)=(xs.length==n*s):=ajU
theorem YN {a b:Bool} : Bm s (.sl a b n xs)=true:=ajU
theorem aag {a b:Bool} : Wh (.sl a b n xs)=.sl a b n xs:=ajU
theorem UQ {m:Nat} {O:List D} : F8 (.nx n xs) (.sl false false m O)=none:=ajU
theorem US {a b c d:Bool} {m:Nat} {O:List D} : F8 (.sl a b n xs) (.sl c d m O)=some (.sl false false m O):=ajU
theorem Jh {O:Option (List D)} : abD none O=none:=ajU
theorem PU {y:Option D} : abD y none=none:=by cases y<;>rfl
theorem Pr {r:Row} {t:Nat} {b:Option Nat} : stZ x r t s b none=none:=by cases b<;>rfl
end
section
variable {Γ:Env} {g d:Nat} {p:Nat×Nat×Nat}
theorem Tl {f:Nat} {l:Bool} {G:Option (D×Row)->List D->Option (RK×Option Row)} : (Am.ext Γ f l G).nst g=Γ.nst g:=ajU
theorem Np:(Am.keep d Γ).nst g=Γ.nst g:=ajU
theorem Na {y:Nat} : (Am.vV d y Γ).nst g=Γ.nst g:=ajU
theorem Ni {f:Nat} : (Am.DI f p Γ).nst g=Γ.nst g:=ajU
theorem M4 {f:Nat} {q:Grow} : (Am.DC f q Γ).nst g=Γ.nst g:=ajU
theorem H7:bm.nst g=none:=ajU
theorem Oo:(Am.sW d p Γ).nst g=if g=d then some p else Γ.nst g:=ajU
theorem D8:(Am.sW d p Γ).lends g=Γ.lends g:=ajU
theorem Ot {l:Option (D×Row)} {agK:List D} : (Am.sW d p Γ).sem g l agK=Γ.sem g l agK:=ajU
theorem Oq:(Am.sW d p Γ).own g=Γ.own g:=ajU
theorem Ig:(Am.sW d p Γ).hint g=Γ.hint g:=ajU
theorem On:(Am.sW d p Γ).ins g=Γ.ins g:=ajU
theorem Om:(Am.sW d p Γ).grw g=Γ.grw g:=ajU
theorem X3 {f:Nat} {l:Bool} {G:Option (D×Row)->List D->Option (RK×Option Row)} : (Am.ext Γ f l G).nx=Γ.nx:=ajU
theorem Tv:(Am.keep d Γ).nx=Γ.nx:=ajU
theorem Ts {y:Nat} : (Am.vV d y Γ).nx=Γ.nx:=ajU
theorem Tt {f:Nat} : (Am.DI f p Γ).nx=Γ.nx:=ajU
theorem Tp {f:Nat} {q:Grow} : (Am.DC f q Γ).nx=Γ.nx:=ajU
theorem TS:(Am.sW d p Γ).nx=Γ.nx:=ajU
theorem H6:bm.nx.lnd g=none:=ajU
theorem H9:bm.nx.res g=none:=ajU
end
section
variable {Γ:Env} {g d f:Nat} {p:Nat×(Nat->Nat->Nat->Nat->List D->List D->Option (D×List D))}
theorem NN:(Am.Bj f p Γ).nx.lnd g=if g=f then some p else Γ.nx.lnd g:=ajU
theorem NQ:(Am.Bj f p Γ).nx.res g=Γ.nx.res g:=ajU
theorem DS:(Am.Bj f p Γ).lends g=Γ.lends g:=ajU
theorem NR {l:Option (D×Row)} {agK:List D} : (Am.Bj f p Γ).sem g l agK=Γ.sem g l agK:=ajU
theorem NP:(Am.Bj f p Γ).own g=Γ.own g:=ajU
theorem HS:(Am.Bj f p Γ).hint g=Γ.hint g:=ajU
theorem NM:(Am.Bj f p Γ).ins g=Γ.ins g:=ajU
theorem NL:(Am.Bj f p Γ).grw g=Γ.grw g:=ajU
theorem NO:(Am.Bj f p Γ).nst g=Γ.nst g:=ajU
end
section
variable {Γ:Env} {g d f:Nat} {p:List D->Option (Nat×Nat×Nat×Nat×Nat×List D)}
theorem Oj:(Am.Bl f p Γ).nx.res g=if g=f then some p else Γ.nx.res g:=ajU
theorem Og:(Am.Bl f p Γ).nx.lnd g=Γ.nx.lnd g:=ajU
theorem D7:(Am.Bl f p Γ).lends g=Γ.lends g:=ajU
theorem Ol {l:Option (D×Row)} {agK:List D} : (Am.Bl f p Γ).sem g l agK=Γ.sem g l agK:=ajU
theorem Oi:(Am.Bl f p Γ).own g=Γ.own g:=ajU
theorem Ie:(Am.Bl f p Γ).hint g=Γ.hint g:=ajU
theorem Of:(Am.Bl f p Γ).ins g=Γ.ins g:=ajU
theorem Oe:(Am.Bl f p Γ).grw g=Γ.grw g:=ajU
theorem Oh:(Am.Bl f p Γ).nst g=Γ.nst g:=ajU
end
section
variable {Γ:Env} {h:Nat->Option Row} {e x v o g:Nat} {rest:List D}
def Qf (Γ:Env) (e:Nat) (h:Nat->Option Row) (g x o:Nat) (rest:List D):Option (Row×Nat×Nat×Nat×List D)->Option bE
 | some (r,ty,s,nv,cs)=>Cs e x r ty s nv cs o (Γ.nx.lnd g) (bz (EH h) rest)
 | none=>none
theorem GA:qM Γ e h g (.ptr x v o::rest)=Qf Γ e h g x o rest (fJ h x v):=by
 simp only[qM,Qf];cases fJ h x v<;>rfl
theorem Aa {r:Row} {ty s nv:Nat} {cs:List D} : Qf Γ e h g x o rest (some (r,ty,s,nv,cs))=Cs e x r ty s nv cs o (Γ.nx.lnd g) (bz (EH h) rest):=ajU
theorem z7 {r:Row} {ty s nv:Nat} {cs agK:List D} {p:Nat×(Nat->Nat->Nat->Nat->List D->List D->Option (D×List D))} : Cs e x r ty s nv cs o (some p) (some (agK,[]))=Jz x r ty s o p.1 (bump nv e) (p.2 r.ty ty s o cs agK):=ajU
theorem z8 {r:Row} {ty s O k:Nat} {d:D} {cs':List D} : Jz x r ty s o k (some O) (some (d,cs'))=if ((cs'.drop o).take k).all (Bm s)=true then some ⟨d,[(x,some ⟨r.v,r.ty,[.nr ty s O (mG k o cs')],false,r.lst,true⟩)]⟩ else none:=ajU
end
end Go.Proofs.YtoioidmblipblaaGreat.Am
namespace Go.Proofs.YtoioidmblipblaaGreat.P
open Go.RowKit
def FU:Nat:=1000000000000000000000000
def nM {σ ρ:Type} (body:σ->Option (σ⊕ρ)):Nat->σ->Option ρ
 | 0,_=>none
 | n+1,s =>
  match body s with
  | some (.inl O)=>nM body n O
  | some (.inr r)=>some r
  | none=>none
def aS {σ ρ:Type} (body:σ->Option (σ⊕ρ)) (s:σ):Option ρ:=nM body FU s
theorem Yk {σ ρ:Type} {body:σ->Option (σ⊕ρ)} (I:σ->Prop) (μ:σ->Nat) (Q:ρ->Prop)
  (O:∀s,I s->(∃U,body s=some (.inl U)∧I U∧μ U<μ s)∨(∃r,body s=some (.inr r)∧Q r)):∀(n:Nat) (s:σ),I s->μ s<n->∃r,nM body n s=some r∧Q r:=by
 intro n
 induction n with
 | zero=>intro s _ h;omega
 | succ n X =>
  intro s Y Z;rcases O s Y with⟨U,h1,h2,h3⟩|⟨r,h1,h2⟩
  ·obtain⟨r,h4,h5⟩:=X U h2 (by omega);exact⟨r,by simp only[nM,h1];exact h4,h5⟩
  ·exact⟨r,by simp only[nM,h1],h2⟩
theorem qW {σ ρ:Type} {body:σ->Option (σ⊕ρ)} (I:σ->Prop) (μ:σ->Nat) (Q:ρ->Prop) {s:σ} (X:I s) (Y:μ s<FU)
  (O:∀s,I s->(∃U,body s=some (.inl U)∧I U∧μ U<μ s)∨(∃r,body s=some (.inr r)∧Q r)):∃r,aS body s=some r∧Q r:=Yk I μ Q O FU s X Y
def idx {α:Type} (l:List α) (i:Int):Option α:=if 0<=i∧i<l.length then l[i.toNat]? else none
def BA {α:Type} (l:List α) (a b:Int):Option (List α):=if 0<=a∧a<=b∧b<=l.length then some ((l.drop a.toNat).take (b.toNat-a.toNat)) else none
def HX {α:Type} (bytes:Nat) (n c:Int) (z:α):Option (List α):=if 0<=n∧n<=c∧c<=maxLen∧c.toNat*bytes<=140737488355328 then some (List.replicate n.toNat z) else none
def lf {α:Type} (bytes:Nat) (l m:List α):Option (List α):=if l.length+m.length<=maxLen∧(l.length+m.length)*bytes<=140737488355328 then some (l++m) else none
def ad5 {α:Type} (l:List α):List (Bool×α):=l.map fun x=>(false,x)
def yP (k:IntKind) (x y:Int):Option Int:=if y=0 then none else some (k.wrap (x.tdiv y))
def xY (_:IntKind) (x y:Int):Option Int:=if y=0 then none else some (x.tmod y)
def FY (k:IntKind) (x y:Int):Option Int:=if y<0 then none else some (k.wrap (x*2 ^ (min y.toNat k.bits)))
def By (k:IntKind) (x y:Int):Option Int:=if y<0 then none else some (x.fdiv (2 ^ (min y.toNat k.bits)))
def j0 (op:BinOp) (k:IntKind) (x y:Int):Int :=
 let a:=BitVec.ofInt k.bits x
 let b:=BitVec.ofInt k.bits y
 match op with
 | .and=>k.wrap (a &&& b).toNat
 | .or=>k.wrap (a ||| b).toNat
 | .xor=>k.wrap (a ^^^ b).toNat
 | _=>k.wrap (a &&& ~~~b).toNat
def fl {κ α:Type} [DecidableEq κ] (z:α):List (κ×α)->κ->α
 | [],_=>z
 | (k,v)::m,n=>if k=n then v else fl z m n
def lh {κ α:Type} [DecidableEq κ]:List (κ×α)->κ->Bool
 | [],_=>false
 | (k,_)::m,n=>k==n||lh m n
def pz {κ α:Type} [DecidableEq κ]:List (κ×α)->κ->α->List (κ×α)
 | [],n,v=>[(n,v)]
 | (k,x)::m,n,v=>if k=n then (k,v)::m else (k,x)::pz m n v
def nN (l:List Int):List Int:=l.mergeSort fun x y=>decide (x<=y)
theorem oG (l:List Int):(nN l).length=l.length:=List.length_mergeSort l
theorem IK:nN []=[]:=by simp[nN]
theorem ae {α β:Type} {o:Option α} {f:α->Option β} {r:β} (h:o.bind f=some r):∃a,o=some a∧f a=some r:=by
 cases o with
 | none=>cases h
 | some a=>exact⟨a,rfl,h⟩
theorem aea {α:Type} {b:Bool} {x y r:α} (O:b=true) (h:(if b=true then x else y)=r):x=r:=by rw[if_pos O]at h;exact h
theorem ad9 {α:Type} {b:Bool} {x y r:α} (O:b=false) (h:(if b=true then x else y)=r):y=r:=by rw[O]at h;simpa using h
theorem ai {a b:Prop} (x:a) (y:b):a∧b:=⟨x,y⟩
theorem sp {α:Type} {b:Bool} {P1 P2 Q:Prop} {x y r:α} (k:(b=true->P1)->(b=false->P2)->Q) (h:(if b=true then x else y)=r) (h1:b=true->x=r->P1) (h2:b=false->y=r->P2):Q:=k (fun O=>h1 O (aea O h)) fun O=>h2 O (ad9 O h)
end Go.Proofs.YtoioidmblipblaaGreat.P
namespace Go.Proofs.YtoioidmblipblaaGreat.Am
open Go.RowKit Go.Proofs.YtoioidmblipblaaGreat.P
structure jb (α:Type) where
 cells:α->List D
 size:Nat
 len:∀x,(cells x).length=size
 pos:0<size
 inj:∀x y,cells x=cells y->x=y
def ab {α:Type} (e:jb α):List α->List D
 | []=>[]
 | x::l=>e.cells x++ab e l
section
variable {α β:Type} (e:jb α)
theorem xL:ab e []=[]:=rfl
theorem bg (x:α) (l:List α):ab e (x::l)=e.cells x++ab e l:=rfl
theorem jl:∀l m:List α,ab e (l++m)=ab e l++ab e m
 | [],m=>rfl
 | x::l,m=>by rw[aiQ,bg,bg,jl l m,aid]
theorem bN:∀l:List α,(ab e l).length=l.length*e.size
 | []=>by simp[ab]
 | x::l=>by rw[bg,ah1,bN l,e.len,ahf,ahO];omega
theorem u4:∀(l:List α) (i:Nat),(ab e l).drop (i*e.size)=ab e (l.drop i)
 | l,0=>by simp
 | [],i+1=>by simp[ab]
 | x::l,i+1=>by
  rw[bg,aiR,<- u4 l i,aiH,e.len,aiI (by rw[e.len,ahO];omega),aiF];congr 1;rw[ahO];omega
theorem gB:∀(l:List α) (i:Nat),(ab e l).take (i*e.size)=ab e (l.take i)
 | l,0=>by simp[ab]
 | [],i+1=>by simp[ab]
 | x::l,i+1=>by
  rw[bg,aiS,bg,aih,e.len,aij (by rw[e.len,ahO];omega),<- gB l i];congr 2;rw[ahO];omega
theorem tF:∀l m:List α,ab e l=ab e m->l=m
 | [],[],_=>rfl
 | [],y::m,h=>by
  have:=congrArg List.length h;have O:=e.pos;rw[bg,ah1,e.len]at this;simp[ab]at this;omega
 | x::l,[],h=>by
  have:=congrArg List.length h;have O:=e.pos;rw[bg,ah1,e.len]at this;simp[ab]at this;omega
 | x::l,y::m,h=>by
  rw[bg,bg]at h;obtain⟨h1,h2⟩:=List.append_inj h (by rw[e.len,e.len]);rw[e.inj _ _ h1,tF l m h2]
theorem Mm:∀(n:Nat) (x:α),mC n (e.cells x)=ab e (List.replicate n x)
 | 0,x=>by simp[mC,ab]
 | n+1,x=>by rw[ahM,bg,<- Mm n x];simp[mC,List.replicate_succ]
end
def eI (k:IntKind):jb Int:=⟨fun n=>[.int k n],1,fun _=>rfl,by decide,fun x y h=>by simpa using h⟩
def abW:jb Bool:=⟨fun n=>[.bool n],1,fun _=>rfl,by decide,fun x y h=>by simpa using h⟩
def XV:jb ByteArray:=⟨fun n=>[.str n],1,fun _=>rfl,by decide,fun x y h=>by simpa using h⟩
def jW {α:Type} (e:jb α):jb (List α):=⟨fun l=>[.sl false false l.length (ab e l)],1,fun _=>rfl,by decide,fun x y h=>by
 simp only[ahd,D.sl.injEq,true_and,and_true]at h;exact tF e _ _ h.2⟩
def lR {α β:Type} (e:jb α) (f:jb β):jb (α×β):=⟨fun x=>e.cells x.1++f.cells x.2,e.size+f.size,fun x=>by rw[ah1,e.len,f.len],agS e.pos (Nat.le_add_right _ _),fun x y h=>by
 obtain⟨h1,h2⟩:=List.append_inj h (by rw[e.len,e.len]);exact Prod.ext (e.inj _ _ h1) (f.inj _ _ h2)⟩
def Be {α β:Type} (e:jb β) (f:α->β) (hf:∀x y,f x=f y->x=y):jb α:=⟨fun x=>e.cells (f x),e.size,fun x=>e.len _,e.pos,fun x y h=>hf _ _ (e.inj _ _ h)⟩
structure Arg (α:Type) where
 d:α->D
 inj:∀x y,d x=d y->x=y
def aI (k:IntKind):Arg Int:=⟨fun n =>.int k n,fun x y h=>by simpa using h⟩
def abO:Arg Bool:=⟨fun n =>.bool n,fun x y h=>by simpa using h⟩
def afT:Arg ByteArray:=⟨fun n =>.str n,fun x y h=>by simpa using h⟩
def mS {α:Type} (e:jb α):Arg (List α):=⟨fun l =>.sl false false l.length (ab e l),fun x y h=>by
 simp only[D.sl.injEq,true_and]at h;exact tF e _ _ h.2⟩
def bD {α:Type} (e:jb α):Arg α:=⟨fun x =>.agg (e.cells x),fun x y h=>e.inj _ _ (by simpa using h)⟩
theorem adX (k:IntKind) (n:Int):(aI k).d n=.int k n:=ajU
theorem Sq (n:Bool):abO.d n=.bool n:=ajU
theorem WK (n:ByteArray):afT.d n=.str n:=ajU
theorem abR {α:Type} (e:jb α) (l:List α):(mS e).d l=.sl false false l.length (ab e l):=ajU
theorem WI {α:Type} (e:jb α) (x:α):(bD e).d x=.agg (e.cells x):=ajU
theorem xE (k:IntKind) (n:Int):(eI k).cells n=[.int k n]:=ajU
theorem Ao (n:Bool):abW.cells n=[.bool n]:=ajU
theorem CW (n:ByteArray):XV.cells n=[.str n]:=ajU
theorem G9 {α:Type} (e:jb α) (l:List α):(jW e).cells l=[.sl false false l.length (ab e l)]:=ajU
structure jh (α:Type) where
 ds:α->List D
 inj:∀x y,ds x=ds y->x=y
def as0:jh Unit:=⟨fun _=>[],fun _ _ _=>rfl⟩
def dT {α:Type} (a:Arg α):jh α:=⟨fun x=>[a.d x],fun x y h=>a.inj _ _ (by simpa using h)⟩
def ie {α β:Type} (a:Arg α) (b:jh β):jh (α×β):=⟨fun x=>a.d x.1::b.ds x.2,fun x y h=>by
 simp only[ahd]at h;exact Prod.ext (a.inj _ _ h.1) (b.inj _ _ h.2)⟩
def dV {α β:Type} (A:jh α) (F:α->Option β) (R:β->RK):Option (D×Row)->List D->Option (RK×Option Row):=fun lent ds =>
 match lent with
 | none=>open Classical in if h:∃a,A.ds a=ds then (F (Classical.choose h)).map fun r=>(R r,none) else none
 | some _=>none
theorem cP {α β:Type} (A:jh α) (F:α->Option β) (R:β->RK) (a:α):dV A F R none (A.ds a)=(F a).map fun r=>(R r,none):=by
 have h:∃b,A.ds b=A.ds a:=⟨a,rfl⟩;simp only[dV];rw[dif_pos h,A.inj _ _ (Classical.choose_spec h)]
theorem qY {α β:Type} {A:jh α} {F:α->Option β} {R:β->RK} {lent:Option (D×Row)} {ds:List D} {rk:RK} {out:Option Row} (h:dV A F R lent ds=some (rk,out)):lent=none∧out=none∧∃a r,ds=A.ds a∧F a=some r∧rk=R r:=by
 unfold dV at h;split at h
 ·split at h
  ·rename_i he;rw[agN]at h;obtain⟨r,h1,h2⟩:=h;simp only[Prod.mk.injEq]at h2;obtain⟨rfl,rfl⟩:=h2;exact⟨rfl,rfl,_,r,(Classical.choose_spec he).symm,h1,rfl⟩
  ·cases h
 ·cases h
structure bX (P:Program) (f:FuncId) (G:Option (D×Row)->List D->Option (RK×Option Row)):Prop where
 calls:∀lent agK rk out,G lent agK=some (rk,out)->qn P f lent agK rk out
 callable:dW P f
theorem bX.of {P:Program} {T:Nat->Option Ty} {Γ:Env} (X:ic P T) (Y:bG P Γ) (hm:P.follows .mixedOrders=true) {α β:Type} {A:jh α} {F:α->Option β} {R:β->RK} {mode:Mode} {f:FuncId} {fn:Func} (U:P.funcs[f]? = some fn) (O:(match fn.body with|some c=>codeOk c|none=>true)=true)
  (Z:(fn.name == "runtime.NumGoroutine")=false∧fn.body.isNone=false) (hn:∀a,(A.ds a).length<=fn.ntmps) (h:∀a r,F a=some r->jY mode T Γ FU fn none (A.ds a)=some (R r,none)):bX P f (dV A F R) where
 calls lent agK rk out hg:=by
  obtain⟨rfl,rfl,a,r,rfl,hr,rfl⟩:=qY hg;exact jB X Y hm U O (hn a) rfl (h a r hr)
 callable:=⟨fn,U,Z⟩
theorem bG.add {P:Program} {Γ:Env} (O:bG P Γ) {f:Nat} {G:Option (D×Row)->List D->Option (RK×Option Row)} (h:bX P f G) (l:Bool):bG P (Am.ext Γ f l G):=O.ext h.calls h.callable
section
variable {T:Nat->Option Ty} {Γ:Env} {N e:Nat} {ws:List W} {Q:Kt} {t:Nat->D} {h:Nat->Option Row}
def LK {σ ρ:Type} (Rel:σ->(Nat->D)->(Nat->Option Row)->Nat->Prop) (O:ρ->Ex->(Nat->D)->(Nat->Option Row)->Nat->Prop) (c:σ⊕ρ):Kt:=fun x t h e =>
 match x with
 | .normal=>∃U,c=.inl U∧Rel U t h e
 | x=>∃o,c=.inr o∧O o x t h e
theorem iS {σ ρ:Type} {Rel:σ->(Nat->D)->(Nat->Option Row)->Nat->Prop} {O:ρ->Ex->(Nat->D)->(Nat->Option Row)->Nat->Prop} {U:σ} (k:Rel U t h e):LK Rel O (.inl U) .normal t h e:=⟨U,rfl,k⟩
theorem ka {σ ρ:Type} {Rel:σ->(Nat->D)->(Nat->Option Row)->Nat->Prop} {O:ρ->Ex->(Nat->D)->(Nat->Option Row)->Nat->Prop} {o:ρ} {n:Nat} (k:O o (.exit n) t h e):LK Rel O (.inr o) (.exit n) t h e:=⟨o,rfl,k⟩
theorem qH {σ ρ:Type} {Rel:σ->(Nat->D)->(Nat->Option Row)->Nat->Prop} {O:ρ->Ex->(Nat->D)->(Nat->Option Row)->Nat->Prop} {o:ρ} (k:O o .ret t h e):LK Rel O (.inr o) .ret t h e:=⟨o,rfl,k⟩
theorem aC {σ ρ:Type} {body:σ->Option (σ⊕ρ)} {b:Code} (Rel:σ->(Nat->D)->(Nat->Option Row)->Nat->Prop) (O:ρ->Ex->(Nat->D)->(Nat->Option Row)->Nat->Prop) {s0:σ} {out:ρ} (hL:aS body s0=some out) (h0:Rel s0 t h e)
  (Y:∀s t h e,Rel s t h e->∀c,body s=some c->de T Γ N FU [.code b] (LK Rel O c) .normal t h e)
  (U:∀x t h e,O out x t h e->de T Γ N FU ws Q x t h e):T7 T Γ N FU b ws Q t h e:=by
 have key:∀(n:Nat) (s:σ) (t:Nat->D) (h:Nat->Option Row) (e:Nat),Rel s t h e->nM body n s=some out->∃x Z,iter (fR T Γ N FU b) n ⟨t,h,e⟩=some (x,Z)∧de T Γ N FU ws Q x Z.t Z.h Z.e:=by
  intro n
  induction n with
  | zero=>intro s t h e _ X;cases X
  | succ n ih =>
   intro s t h e hR X;simp only[nM]at X;cases hb:body s with
   | none=>rw[hb]at X;cases X
   | some c =>
    rw[hb]at X;obtain⟨x,s1,h1,h2⟩:=KQ _ _ _ _ _ (show PT T Γ N FU b t h e (LK Rel O c) from Y s t h e hR c hb);simp only[iter,h1];cases x with
    | normal =>
     obtain⟨Z,rfl,h4⟩:=h2;exact ih Z s1.t s1.h s1.e h4 X
    | exit m =>
     obtain⟨o,rfl,h4⟩:=h2;simp only[agY]at X;subst X;exact⟨_,_,rfl,U _ _ _ _ h4⟩
    | ret =>
     obtain⟨o,rfl,h4⟩:=h2;simp only[agY]at X;subst X;exact⟨_,_,rfl,U _ _ _ _ h4⟩
 exact key FU s0 t h e h0 hL
theorem yD {d:D} {g:Nat} {A B A' B':(Nat->D)->Prop} (hk:R5 d t g A B) (h1:∀t,A t->A' t) (h2:∀t,B t->B' t):R5 d t g A' B':=by
 cases d with
 | bool b=>exact⟨fun O=>h1 _ (hk.1 O),fun O=>h2 _ (hk.2 O)⟩
 | _=>exact hk
theorem Fs {d:D} {g:Nat} {A B S A' B' S':(Nat->D)->Prop} (hk:wpS d t g A B S) (h1:∀t,A t->A' t) (h2:∀t,B t->B' t) (h3:∀t,S t->S' t):wpS d t g A' B' S':=by
 unfold wpS at hk ⊢;split at hk
 ·exact h3 _ hk
 ·exact yD hk h1 h2
theorem Eb {α:Type} {x:Option α} {K K':α->Prop} (hk:pq x K) (h1:∀a,K a->K' a):pq x K':=by
 cases x with
 | none=>exact hk
 | some a=>exact h1 a hk
theorem PS {ops:List Oper} {gd:Option (Nat×Bool)} {A B A' B':(Nat->D)->Prop} (hk:wpG ops t gd A B) (h1:∀t,A t->A' t) (h2:∀t,B t->B' t):wpG ops t gd A' B':=by
 unfold wpG at hk ⊢;split
 ·exact h1 _ hk
 ·rename_i j want;refine Eb hk fun g O=>Fs O ?_ ?_ h2
  ·intro t U;cases want<;>simp_all
  ·intro t U;cases want<;>simp_all
theorem yF {o:Oper} {K K':(Nat->D)->bE->Prop} (hk:PR T Γ e o t h K) (h1:∀t E,K t E->K' t E):PR T Γ e o t h K':=by
 unfold PR at hk ⊢;split
 ·rename_i O;rw[O]at hk;exact yD hk (fun _ h=>h1 _ _ h) (fun _ h=>h1 _ _ h)
 ·rename_i U;split at hk
  ·rename_i c a b O;exact absurd O (U _ _ _)
  ·exact Eb hk (fun _ h=>h1 _ _ h)
theorem vt {ops:List Oper} {K K':(Nat->D)->(Nat->Option Row)->Prop} (h1:∀t h,K t h->K' t h):∀(l:List Oper) (t:Nat->D) (h:Nat->Option Row),EU T Γ N e ops l t h K->EU T Γ N e ops l t h K'
 | [],t,h,hk=>h1 _ _ hk
 | o::l,t,h,hk=>by
  unfold EU at hk ⊢;exact⟨hk.1,PS hk.2 (fun t O=>yF O fun t E U=>vt h1 l _ _ U) (fun t O=>vt h1 l _ _ O)⟩
theorem vo {ops:List Oper} {K K':(Nat->D)->(Nat->Option Row)->List jZ->Prop} (h1:∀t h fs,K t h fs->K' t h fs):∀(l:List Oper) (t:Nat->D) (h:Nat->Option Row) (fs:List jZ),runK T Γ N e ops l t h fs K->runK T Γ N e ops l t h fs K'
 | [],t,h,fs,hk=>h1 _ _ _ hk
 | o::l,t,h,fs,hk=>by
  unfold runK at hk ⊢;exact⟨hk.1,PS hk.2 (fun t O=>yF O fun t E U=>vo h1 l _ _ _ U) (fun t O=>vo h1 l _ _ _ O)⟩
theorem aas {ops:Array Oper} {draw:Bool} {K K':(Nat->D)->(Nat->Option Row)->Prop} (hk:wpR T Γ N ops draw t h e K) (h1:∀t h,K t h->K' t h):wpR T Γ N ops draw t h e K':=by
 unfold wpR at hk ⊢;cases draw with
 | true=>exact vo (fun t h fs O=>⟨O.1,h1 _ _ O.2⟩) _ _ _ _ hk
 | false=>exact vt h1 _ _ _ hk
theorem Wp {F:Nat} : ∀(c:Code) (t:Nat->D) (h:Nat->Option Row) (e:Nat) (K K':Kt),PT T Γ N F c t h e K->(∀x t h e,K x t h e->K' x t h e)->PT T Γ N F c t h e K':=by
 intro c
 induction c with
 | skip=>intro t h e K K' hk hm;exact hm _ _ _ _ hk
 | region i ops draw=>intro t h e K K' hk hm;exact aas hk fun t h hh=>hm _ _ _ _ hh
 | seq a b U X =>
  intro t h e K K' hk hm;refine U _ _ _ _ _ hk fun x t h e O =>?_;cases x with
  | normal=>exact X _ _ _ _ _ O hm
  | exit n=>exact hm _ _ _ _ O
  | ret=>exact hm _ _ _ _ O
 | cond c x y ihx ihy =>
  intro t h e K K' hk hm;unfold PT at hk ⊢;cases c with
  | tmp g=>exact yD hk (fun t Y=>ihx _ _ _ _ _ Y hm) (fun t Y=>ihy _ _ _ _ _ Y hm)
  | const v =>
   cases v with
   | bool b =>
    cases b with
    | true=>exact ihx _ _ _ _ _ hk hm
    | false=>exact ihy _ _ _ _ _ hk hm
   | _=>exact hk
  | _=>exact hk
 | block id b ih =>
  intro t h e K K' hk hm;refine ih _ _ _ _ _ hk fun x t h e O =>?_;cases x with
  | normal=>exact hm _ _ _ _ O
  | ret=>exact hm _ _ _ _ O
  | exit n =>
   unfold Xa at O ⊢;simp only at O ⊢;split at O
   ·rename_i Z;rw[if_pos Z];exact hm _ _ _ _ O
   ·rename_i Z;rw[if_neg Z];exact hm _ _ _ _ O
 | loop b ih =>
  intro t h e K K' hk hm;obtain⟨x,s,h1,h2⟩:=hk;exact⟨x,s,h1,hm _ _ _ _ h2⟩
 | exit id=>intro t h e K K' hk hm;exact hm _ _ _ _ hk
 | ret=>intro t h e K K' hk hm;exact hm _ _ _ _ hk
 | _=>intro t h e K K' hk;exact hk.elim
def CK {σ:Type} (J:σ->(Nat->D)->(Nat->Option Row)->Nat->Prop) (P:σ->Prop) (R:Kt):Kt:=fun x t h e =>
 match x with
 | .normal=>∃s,P s∧J s t h e
 | x=>R x t h e
theorem an {σ:Type} {J:σ->(Nat->D)->(Nat->Option Row)->Nat->Prop} {P:σ->Prop} {R:Kt} : CK J P R .normal t h e = ∃s,P s∧J s t h e:=ajU
end
section
variable {h:Nat->Option Row}
theorem GD {k:IntKind} {n:Int} : canon (.int k n)=.int k n:=ajU
theorem Cx {b:Bool} : canon (.bool b)=.bool b:=ajU
theorem GG {b:ByteArray} : canon (.str b)=.str b:=ajU
theorem Lr {a b:Bool} {n:Nat} {xs:List D} : canon (.sl a b n xs)=.sl false false n xs:=ajU
theorem Cu {k:IntKind} {n:Int} : fM (.int k n)=.int k n:=ajU
theorem Ab {b:Bool} : fM (.bool b)=.bool b:=ajU
theorem Cw {b:ByteArray} : fM (.str b)=.str b:=ajU
theorem GC {a b:Bool} {n:Nat} {xs:List D} : fM (.sl a b n xs)=.sl false false n xs:=ajU
theorem Ct {xs:List D} : fM (.agg xs)=.agg (xs.map canon):=ajU
def clB (x s o n:Nat):Option Row->Option (D×List Nat)
 | some r=>if o+n*s<=r.cells.length then some (.sl false false n ((r.cells.drop o).take (n*s)),[x]) else none
 | none=>none
theorem LG {x s o n:Nat} {r:Row} : clB x s o n (some r)=if o+n*s<=r.cells.length then some (.sl false false n ((r.cells.drop o).take (n*s)),[x]) else none:=ajU
def clP (x o:Nat):Option Row->Option (D×List Nat)
 | some r=>if o<=r.cells.length then some (.ip (r.cells.drop o),[x]) else none
 | none=>none
theorem LO {x o:Nat} {r:Row} : clP x o (some r)=if o<=r.cells.length then some (.ip (r.cells.drop o),[x]) else none:=ajU
theorem Ly {k:IntKind} {n:Int} : bM h (.int k n)=some (.int k n,[]):=ajU
theorem GI {b:Bool} : bM h (.bool b)=some (.bool b,[]):=ajU
theorem LD {b:ByteArray} : bM h (.str b)=some (.str b,[]):=ajU
theorem SZ {a b:Bool} {n:Nat} {xs:List D} : bM h (.sl a b n xs)=some (.sl false false n xs,[]):=ajU
theorem Lu {xs:List D} : bM h (.agg xs)=some (.agg (xs.map canon),[]):=ajU
theorem SX {xs:List D} : bM h (.ip xs)=some (.ip xs,[]):=ajU
theorem SV {f:Nat} : bM h (.fn f)=some (.fn f,[]):=ajU
theorem Lw {x v s o n:Nat} : bM h (.buf x v s o n)=clB x s o n (live h x v):=by
 simp only[bM,aW,dE];cases live h x v with
 | none=>rfl
 | some r=>by_cases O:o+n*s<=r.cells.length<;>simp[clB,O,canon]
theorem LC {x v o:Nat} : bM h (.ptr x v o)=clP x o (live h x v):=by
 simp only[bM,aW];cases live h x v with
 | none=>rfl
 | some r=>simp only[clP]
theorem Xy {k:IntKind} {n:Int} : eS h (.int k n)=some ([.int k n],[]):=ajU
theorem S1 {b:Bool} : eS h (.bool b)=some ([.bool b],[]):=ajU
theorem Xz {b:ByteArray} : eS h (.str b)=some ([.str b],[]):=ajU
theorem abV {a b:Bool} {n:Nat} {xs:List D} : eS h (.sl a b n xs)=some ([.sl a b n xs],[]):=ajU
theorem Xw {xs:List D} : eS h (.agg xs)=some (xs,[]):=ajU
def cvB:Option (D×List Nat)->Option (List D×List Nat)
 | some (d,fr)=>some ([d],fr)
 | none=>none
theorem LX {d:D} {fr:List Nat} : cvB (some (d,fr))=some ([d],fr):=ajU
theorem Xx {x v s o n:Nat} : eS h (.buf x v s o n)=cvB (clB x s o n (live h x v)):=by
 simp only[eS,dE];cases live h x v with
 | none=>rfl
 | some r=>by_cases O:o+n*s<=r.cells.length<;>simp[clB,cvB,O]
def clF (h:Nat->Option Row):Option (D×List Nat)->Option bE
 | some (d,fr)=>some ⟨d,iC h fr⟩
 | none=>none
theorem LI {d:D} {fr:List Nat} : clF h (some (d,fr))=some ⟨d,iC h fr⟩:=ajU
theorem Su {x v s o n:Nat} : im h (.buf x v s o n)=clF h (clB x s o n (live h x v)):=by
 simp only[im,oT,dE];cases live h x v with
 | none=>rfl
 | some r=>by_cases O:o+n*s<=r.cells.length<;>simp[clB,clF,O,canon,fM]
variable {Γ:Env} {f g e:Nat} {l:Bool} {G:Option (D×Row)->List D->Option (RK×Option Row)} {lent:Option (D×Row)} {agK:List D} {dst:Option Nat} {fr:List Nat}
theorem Hp:(Am.ext Γ f l G).lends g=if g=f then l else Γ.lends g:=ajU
theorem Tn:(Am.ext Γ f l G).sem g lent agK=if g=f then G lent agK else Γ.sem g lent agK:=ajU
theorem Tm {d:Nat} : (Am.ext Γ f l G).own d=Γ.own d:=ajU
theorem H8 {d:Nat} : bm.own d=true:=ajU
theorem Nq {d i:Nat} : (Am.keep d Γ).own i=(i != d&&Γ.own i):=ajU
theorem DK {d i:Nat} : (Am.keep d Γ).lends i=Γ.lends i:=ajU
theorem Nr {d i:Nat} : (Am.keep d Γ).sem i lent agK=Γ.sem i lent agK:=ajU
def Bc (lends:Bool) (Γ:Env) (h:Nat->Option Row) (e:Nat) (dst:Option Nat) (g:Nat) (args:List D):Option bE :=
 if lends then
  match args with
  | .buf x v s o n::rest=>oS Γ h e dst g x v (.buf 0 0 s o n) rest
  | .ptr x v o::rest=>oS Γ h e dst g x v (.ptr 0 0 o) rest
  | .mp x v::rest=>oS Γ h e dst g x v (.mp 0 0) rest
  | _=>none
 else tf Γ h e dst g args
def aaK (p:Option (Nat×Nat×Nat)) (Γ:Env) (h:Nat->Option Row) (e:Nat) (dst:Option Nat) (g:Nat) (args:List D):Option bE :=
 match p with
 | some p=>sG h e dst p args
 | none =>
  match Γ.grw g with
  | some p=>sF h p args
  | none=>Bc (Γ.lends g) Γ h e dst g args
def acQ (p:Option Grow) (Γ:Env) (h:Nat->Option Row) (e:Nat) (dst:Option Nat) (g:Nat) (args:List D):Option bE :=
 match p with
 | some p=>sF h p args
 | none=>Bc (Γ.lends g) Γ h e dst g args
theorem Gv {args:List D} : aaK none Γ h e dst g args=acQ (Γ.grw g) Γ h e dst g args:=ajU
theorem Gs {args:List D} : acQ none Γ h e dst g args=Bc (Γ.lends g) Γ h e dst g args:=ajU
theorem Gt {p:Grow} {args:List D} : acQ (some p) Γ h e dst g args=sF h p args:=ajU
theorem Ti {f:Nat} {l:Bool} {G:Option (D×Row)->List D->Option (RK×Option Row)} : (Am.ext Γ f l G).grw g=Γ.grw g:=ajU
theorem Nn {d:Nat} : (Am.keep d Γ).grw g=Γ.grw g:=ajU
theorem M8 {d y:Nat} : (Am.vV d y Γ).grw g=Γ.grw g:=ajU
theorem Ng {f:Nat} {p:Nat×Nat×Nat} : (Am.DI f p Γ).grw g=Γ.grw g:=ajU
theorem H4:bm.grw g=none:=ajU
theorem M0 {f:Nat} {p:Grow} : (Am.DC f p Γ).grw g=if g=f then some p else Γ.grw g:=ajU
theorem M3 {f:Nat} {p:Grow} : (Am.DC f p Γ).ins g=Γ.ins g:=ajU
theorem DD {f:Nat} {p:Grow} : (Am.DC f p Γ).lends g=Γ.lends g:=ajU
theorem M6 {f:Nat} {p:Grow} {l:Option (D×Row)} {agK:List D} : (Am.DC f p Γ).sem g l agK=Γ.sem g l agK:=ajU
theorem M5 {f:Nat} {p:Grow} {d:Nat} : (Am.DC f p Γ).own d=Γ.own d:=ajU
theorem HF {f:Nat} {p:Grow} {d:Nat} : (Am.DC f p Γ).hint d=Γ.hint d:=ajU
def lvP (v:Nat):Option Row->Option (Row×Nat×Nat×Nat)
 | some r=>if r.v=v∧r.mp=true then (match r.cells with | [.ph y s n]=>some (r,y,s,n)|_=>none) else none
 | none=>none
theorem NI {x v:Nat} : kR h x v=lvP v (h x):=by
 unfold kR lvP;cases h x<;>rfl
theorem NV {v ty y s n:Nat} {fz lst:Bool} : lvP v (some ⟨v,ty,[.ph y s n],fz,lst,true⟩)=some (⟨v,ty,[.ph y s n],fz,lst,true⟩,y,s,n):=by simp[lvP]
def Xf (p:Grow) (y k:Nat) (rest:List D):Option (Row×Nat×Nat×Nat)->Option Row->Option bE
 | some (O,k',s,n),some r =>
   if k'=k∧k=PK+y∧y<PK∧O.fz=false∧r.mp=false∧r.fz=false∧r.lst=true∧s=p.k∧r.ty=p.ty∧r.cells.length=n*p.k∧(n+1)*p.bytes<=140737488355328 then
    match p.sem r.cells rest with
    | some cs=>some ⟨.int .i64 (n:Int),[(k,some ⟨r.v,p.ty,r.cells++cs,false,true,false⟩),(y,some ⟨O.v,O.ty,[.ph k p.k (n+1)],false,false,true⟩)]⟩
    | none=>none
   else none
 | _,_=>none
theorem SL {p:Grow} {y v k:Nat} {rest:List D} : sF h p (.pm y v k::rest)=Xf p y k rest (kR h y v) (h k):=ajU
def abU (k y v ty O ty' k' n:Nat) (cells:List D):Option (List D)->Option bE
 | some cs=>some ⟨.int .i64 (n:Int),[(k,some ⟨O,ty',cells++cs,false,true,false⟩),(y,some ⟨v,ty,[.ph k k' (n+1)],false,false,true⟩)]⟩
 | none=>none
theorem Cj {ty' k' O:Nat} {sem:List D->List D->Option (List D)} {y k:Nat} {rest:List D} {v ty s n X U:Nat} {cells:List D} : Xf ⟨ty',k',O,sem⟩ y k rest (some (⟨v,ty,[.ph k s n],false,false,true⟩,k,s,n)) (some ⟨X,U,cells,false,true,false⟩) =
  if k=1000000+y∧y<1000000∧s=k'∧U=ty'∧cells.length=n*k'∧(n+1)*O<=140737488355328 then abU k y v ty X ty' k' n cells (sem cells rest) else none:=by
 simp only[Xf,PK,true_and];cases sem cells rest<;>rfl
theorem Ck {k y v ty O ty' k' n:Nat} {cells cs:List D} : abU k y v ty O ty' k' n cells (some cs)=some ⟨.int .i64 (n:Int),[(k,some ⟨O,ty',cells++cs,false,true,false⟩),(y,some ⟨v,ty,[.ph k k' (n+1)],false,false,true⟩)]⟩:=ajU
theorem Gw {p:Nat×Nat×Nat} {args:List D} : aaK (some p) Γ h e dst g args=sG h e dst p args:=ajU
theorem Tj {f:Nat} {l:Bool} {G:Option (D×Row)->List D->Option (RK×Option Row)} : (Am.ext Γ f l G).ins g=Γ.ins g:=ajU
theorem No {d:Nat} : (Am.keep d Γ).ins g=Γ.ins g:=ajU
theorem M9 {d y:Nat} : (Am.vV d y Γ).ins g=Γ.ins g:=ajU
theorem H5:bm.ins g=none:=ajU
theorem Nh {f:Nat} {p:Nat×Nat×Nat} : (Am.DI f p Γ).ins g=if g=f then some p else Γ.ins g:=ajU
theorem DJ {f:Nat} {p:Nat×Nat×Nat} : (Am.DI f p Γ).lends g=Γ.lends g:=ajU
theorem Nk {f:Nat} {p:Nat×Nat×Nat} {l:Option (D×Row)} {agK:List D} : (Am.DI f p Γ).sem g l agK=Γ.sem g l agK:=ajU
theorem Nj {f:Nat} {p:Nat×Nat×Nat} {d:Nat} : (Am.DI f p Γ).own d=Γ.own d:=ajU
theorem HI {f:Nat} {p:Nat×Nat×Nat} {d:Nat} : (Am.DI f p Γ).hint d=Γ.hint d:=ajU
def Xg (ty k O x y s U o o' n m:Nat) (i:Int) (e:Nat) (d:Nat):Option Row->Option Row->Option bE
 | some r,some r' =>
   if r.fz=false∧r'.fz=false∧r.lst=true∧r'.lst=true∧x≠y∧s=k∧U=k∧r.ty=ty∧r'.ty=ty∧o=0∧o'=0∧r.cells.length=n*k∧r'.cells.length=m*k∧0<=i∧i<=n∧0<m∧(n+m)*O<=140737488355328 then
    some ⟨.buf d e k 0 (n+m),[(y,none),(x,none),(d,some ⟨e,ty,r.cells.take (i.toNat*k)++(r'.cells++r.cells.drop (i.toNat*k)),false,true,false⟩)]⟩
   else none
 | _,_=>none
theorem SM {ty k O x v s o n y v' U o' m d:Nat} {i:Int} : sG h e (some d) (ty,k,O) [.buf x v s o n,.int .i64 i,.buf y v' U o' m]=Xg ty k O x y s U o o' n m i e d (live h x v) (live h y v'):=by
 simp only[sG,Xg];cases live h x v with
 | none=>rfl
 | some r=>cases live h y v'<;>rfl
theorem Cl {ty k O x y s U o o' n m : Nat} {i : Int} {d : Nat} {r r' : Row} : Xg ty k O x y s U o o' n m i e d (some r) (some r') = if r.fz = false ∧ r'.fz = false ∧ r.lst = true ∧ r'.lst = true ∧ x ≠ y ∧ s = k ∧ U = k ∧ r.ty = ty ∧ r'.ty = ty ∧ o = 0 ∧ o' = 0 ∧ r.cells.length = n * k ∧ r'.cells.length = m * k ∧ 0 <= i ∧ i <= n ∧ 0 < m ∧ (n + m) * O <= 140737488355328 then
        some ⟨.buf d e k 0 (n + m), [(y, none), (x, none), (d, some ⟨e, ty, r.cells.take (i.toNat * k) ++ (r'.cells ++ r.cells.drop (i.toNat * k)), false, true, false⟩)]⟩
      else none := Eq.trans rfl rfl
theorem SO {args:List D} : ig Γ h e dst (.fn g) args=aaK (Γ.ins g) Γ h e dst g args:=by
 simp only[ig,aaK,Bc];cases Γ.ins g with
 | none=>cases Γ.grw g<;>rfl
 | some p=>rfl
def U3 (h:Nat->Option Row) (e:Nat) (dst:Option Nat) (fr:List Nat):Option (RK×Option Row)->Option bE
 | some (.clean r,_)=>some ⟨r,if gz r then [] else iC h fr⟩
 | some (.fresh ty s n cells,_) =>
  match dst with
  | some d=>if fr.contains d=false then some ⟨.buf d e s 0 n,(if pe cells then [] else iC h fr)++[(d,some ⟨e,ty,cells,false,true,false⟩)]⟩ else none
  | none=>none
 | _=>none
def aaJ (Γ:Env) (h:Nat->Option Row) (e:Nat) (dst:Option Nat) (g:Nat):Option (List D×List Nat)->Option bE
 | some (agK,fr)=>U3 h e dst fr (Γ.sem g none agK)
 | none=>none
theorem Gx {args:List D} : Bc false Γ h e dst g args=aaJ Γ h e dst g (bz h args):=by
 simp only[Bc,ahp,if_false,tf,aaJ];cases bz h args with
 | none=>rfl
 | some p =>
  obtain⟨agK,fr⟩:=p;simp only;cases hs:Γ.sem g none agK with
  | none=>rfl
  | some q =>
   obtain⟨rk,o⟩:=q;cases rk<;>rfl
theorem Gr:aaJ Γ h e dst g (some (agK,fr))=U3 h e dst fr (Γ.sem g none agK):=ajU
def Ya (h:Nat->Option Row) (fr:List Nat):Bool->List (Nat×Option Row)
 | true=>[]
 | false=>iC h fr
theorem HC:Ya h fr true=[]:=ajU
theorem Dl:Ya h fr false=iC h fr:=ajU
theorem MD {b:Bool} : Ya h [] b=[]:=by cases b<;>rfl
theorem Cp {r:D} {o:Option Row} : U3 h e dst fr (some (.clean r,o))=some ⟨r,Ya h fr (gz r)⟩:=by
 simp only[U3];cases gz r<;>rfl
theorem To:iC h []=[]:=ajU
theorem ME {x:Nat} : iC h (x::fr)=(x,(h x).map qV)::iC h fr:=ajU
theorem Yd {v ty:Nat} {cells:List D} {lst mp:Bool} : qV ⟨v,ty,cells,true,lst,mp⟩=⟨v,ty,cells,true,lst,mp⟩:=ajU
theorem Yb {v ty:Nat} {cells:List D} {lst mp:Bool} : qV ⟨v,ty,cells,false,lst,mp⟩=⟨v,ty,cells,true,true,mp⟩:=ajU
theorem GJ:bz h []=some ([],[]):=ajU
def caC (p:Option (D×List Nat)) (q:Option (List D×List Nat)):Option (List D×List Nat) :=
 match p,q with
 | some (X,fr),some (O,U)=>some (X::O,fr++U)
 | _,_=>none
theorem Ld {d:D} {fr O:List Nat} {ds:List D} : caC (some (d,fr)) (some (ds,O))=some (d::ds,fr++O):=ajU
theorem Cy {d:D} {ds:List D} : bz h (d::ds)=caC (bM h d) (bz h ds):=by
 simp only[bz];cases bM h d with
 | none=>rfl
 | some p=>cases bz h ds<;>rfl
variable {T:Nat->Option Ty} {s:St} {rs:List ResultVar} {r:ResultVar}
theorem OV:sn T s []=some ([],[]):=ajU
theorem Iw:sn T s (r::rs)=caC (OT T s r) (sn T s rs):=by
 simp only[sn];cases OT T s r with
 | none=>rfl
 | some p=>cases sn T s rs<;>rfl
theorem OU {t:Nat->D} {i:Nat} : OT T ⟨t,h,e⟩ (.tmp i)=bM h (t i):=ajU
def adq (T:Nat->Option Ty) (h:Nat->Option Row) (d:D) (τ:Option Ty):Option (D×List Nat) :=
 match τ,d with
 | some τ,.ptr x v o=>match dO τ h (.ptr x v o) with|some E=>some (fM E.val,[])|none=>none
 | _,_=>none
theorem Iu {t:Nat->D} {i ty:Nat} : OT T ⟨t,h,e⟩ (.cell i ty)=adq T h (t i) (T ty):=ajU
def adr:Option bE->Option (D×List Nat)
 | some E=>some (fM E.val,[])
 | none=>none
theorem Iv {d:D} {w:List (Nat×Option Row)} : adr (some ⟨d,w⟩)=some (fM d,[]):=ajU
theorem OS {τ:Ty} {x v o:Nat} : adq T h (.ptr x v o) (some τ)=adr (dO τ h (.ptr x v o)):=by
 simp only[adq,adr]
def acV (p:Option (List D×List Nat)):Option (RK×Option Row) :=
 match p with
 | some (ds,_)=>some (.clean (kJ ds),none)
 | none=>none
theorem Hd {ds:List D} {fr:List Nat} : acV (some (ds,fr))=some (.clean (kJ ds),none):=ajU
theorem C8:fF .clean T none rs s=acV (sn T s rs):=by
 simp only[fF,pc,jE,YL,acV];cases sn T s rs<;>rfl
theorem Cq {ty sz n d:Nat} {cells:List D} {o:Option Row} : U3 h e (some d) fr (some (.fresh ty sz n cells,o))=if fr.contains d=false then some ⟨.buf d e sz 0 n,Ya h fr (pe cells)++[(d,some ⟨e,ty,cells,false,true,false⟩)]⟩ else none:=by
 simp only[U3];cases pe cells<;>rfl
theorem yU {k:IntKind} : ∀l:List Int,pe (ab (eI k) l)=true
 | []=>rfl
 | x::l=>by
  have:=yU (k:=k) l;simp only[bg,xE,List.cons_append,List.nil_append,pe,gz,this,Bool.and_self]
theorem C9 {ty sz i:Nat} {t:Nat->D} : fF (.fresh ty sz) T none [.tmp i] ⟨t,h,e⟩=mn ty sz h (t i):=ajU
theorem Db {i:Nat} {t:Nat->D} : fF .tight T none [.tmp i] ⟨t,h,e⟩=u6 (t i):=ajU
theorem X2 {nl O:Bool} {n:Nat} {xs:List D} : u6 (.sl nl O n xs)=some (.clean (.sl nl O n xs),none):=ajU
theorem S9 {ty sz x v o n:Nat} : mn ty sz h (.buf x v sz o n)=u5 ty sz o n (live h x v):=by simp[mn]
theorem XX {ty sz:Nat} {nl O:Bool} {xs:List D} : mn ty sz h (.sl nl O 0 xs)=if O=true then some (.fresh ty sz 0 [],none) else none:=ajU
theorem Mj {ty sz o n:Nat} {r:Row} : u5 ty sz o n (some r)=if r.fz=false∧r.ty=ty∧o+n*sz<=r.cells.length then some (.fresh ty sz n ((r.cells.drop o).take (n*sz)),none) else none:=ajU
theorem EL {d:D} : kJ [d]=d:=ajU
theorem EM {d O:D} {ds:List D} : kJ (d::O::ds)=.tup (d::O::ds):=ajU
end
theorem S8 (k:IntKind):(eI k).size=1:=ajU
theorem CV:abW.size=1:=ajU
theorem Ha:XV.size=1:=ajU
theorem Mi {α:Type} (e:jb α):(jW e).size=1:=ajU
section
variable {α:Type} (E:jb α) {l m:List α} {x x' z:α} {i a b n c:Int} {B:Nat}
theorem J3 (h:P.idx l i=some x):0<=i∧i<l.length:=by
 unfold P.idx at h;split at h
 ·assumption
 ·cases h
theorem Yj (h:P.idx l i=some x):l[i.toNat]? = some x:=by
 unfold P.idx at h;split at h
 ·exact h
 ·cases h
theorem BI (h:P.idx l i=some x):(ab E l).drop (i.toNat*E.size)=E.cells x++ab E (l.drop (i.toNat+1)):=by
 have h':=Yj h;obtain⟨O,rfl⟩:=ahi.1 h';rw[u4,aiT O];rfl
theorem sc (h:P.idx l i=some x):i.toNat*E.size+E.size<=l.length*E.size:=by
 have h':=J3 h;have:i.toNat+1<=l.length:=by omega
 have:=ahC E.size this
 rwa [ahO]at this
theorem bn (h:P.idx l i=some x):(0<=i∧i<l.length)∧(ab E l).drop (i.toNat*E.size)=E.cells x++ab E (l.drop (i.toNat+1))∧i.toNat*E.size+E.size<=l.length*E.size:=⟨J3 h,BI E h,sc E h⟩
theorem Y9:∀(l:List α) (i:Nat) (x:α),l[i]? = some x->∀x',ab E (l.set i x')=(ab E l).take (i*E.size)++E.cells x'++(ab E l).drop (i*E.size+E.size)
 | [],i,x,h,x'=>by simp at h
 | y::l,0,x,h,x'=>by
  rw[List.set_cons_zero,bg,bg,aiM,aiU,aiF,ahE,aiH,E.len,ah3,aik,aiI (by rw[E.len];exact agP _),aiF]
 | y::l,i+1,x,h,x'=>by
  have U:=Y9 l i x (by simpa using h) x';rw[List.set_cons_succ,bg,bg,U,ahO];have O:=E.len y;have e1:(E.cells y++ab E l).take (i*E.size+E.size)=E.cells y++(ab E l).take (i*E.size):=by rw[aih,O,aij (by omega),aiJ]
  have e2:(E.cells y++ab E l).drop (i*E.size+E.size+E.size)=(ab E l).drop (i*E.size+E.size):=by
   rw[aiH,O,aiI (by omega),aiF,aiJ]
  rw[e1,e2];simp only[aid]
theorem fK (fo:Nat) (cs:List D) (h:P.idx l i=some x) (X:E.cells x'=putCells (E.cells x) fo cs) (Y:fo+cs.length<=E.size):putCells (ab E l) (i.toNat*E.size+fo) cs=ab E (l.set i.toNat x'):=by
 have h':=Yj h;rw[Y9 E l i.toNat x h' x',X];have he:=BI E h;have hf:=sc E h;have hl:=bN E l;have Z:=E.len x;have O:ab E l=(ab E l).take (i.toNat*E.size)++(E.cells x++(ab E l).drop (i.toNat*E.size+E.size)):=by
  have h1:=aiL (i.toNat*E.size) (ab E l);have h2:(ab E l).drop (i.toNat*E.size+E.size)=ab E (l.drop (i.toNat+1)):=by
   rw[<- aiK,he,aiH,Z,ah3,aik,aiI (by omega),aiF]
  rw[h2,<- he,h1]
 generalize (ab E l).drop (i.toNat*E.size+E.size)=r at *;generalize ht:(ab E l).take (i.toNat*E.size)=p at *;have U:p.length=i.toNat*E.size:=by rw[<- ht];simp;omega
 unfold putCells;rw[O];have e1:(p++(E.cells x++r)).take (i.toNat*E.size+fo)=p++(E.cells x).take fo:=by
  rw[aih,U,aij (by omega),aif,aii (by omega)]
 have e2:(p++(E.cells x++r)).drop (i.toNat*E.size+fo+cs.length)=(E.cells x).drop (fo+cs.length)++r:=by
  rw[aha,aiH,U,aiI (by omega),aif,aiF,aie (by omega)]
 rw[e1,e2];simp only[aid]
theorem Y0 (h:P.idx l i=some x):putCells (ab E l) (i.toNat*E.size) (E.cells x')=ab E (l.set i.toNat x'):=by
 have:=fK E (x':=x') 0 (E.cells x') h (by unfold putCells;simp[E.len]) (by rw[E.len];omega);simpa using this
theorem YD (h:HX B n c z=some m):m=List.replicate n.toNat z∧0<=n∧n<=c∧c<=maxLen∧c.toNat*B<=140737488355328:=by
 unfold HX at h;split at h
 ·cases h;exact⟨rfl,by assumption⟩
 ·cases h
theorem mk_one (h:HX B n n z=some m):0<=n∧n.toNat=m.length∧m.length<=maxLen∧mC m.length (E.cells z)=ab E m∧m.length*B<=140737488355328:=by
 obtain⟨rfl,h1,_,h3,h4⟩:=YD h;refine⟨h1,by simp,by simp;omega,by rw[Mm];simp,by simpa using h4⟩
theorem zM (h:BA l a b=some m):0<=a∧0<=b∧a.toNat<=b.toNat∧b.toNat<=l.length∧b.toNat-a.toNat=m.length∧(List.take (m.length*E.size) (List.drop (a.toNat*E.size) (ab E l))=ab E m):=by
 unfold BA at h;split at h
 ·rename_i U;cases h;have O:((l.drop a.toNat).take (b.toNat-a.toNat)).length=b.toNat-a.toNat:=by simp;omega
  refine⟨U.1,by omega,by omega,by omega,O.symm,?_⟩;rw[O,u4,gB]
 ·cases h
theorem adx (h:BA l a b=some m):0<=a∧0<=b∧(a.toNat<=b.toNat∧b.toNat<=l.length)∧b.toNat-a.toNat=m.length∧(List.take (m.length*E.size) (List.drop (a.toNat*E.size) (ab E l))=ab E m):=by
 obtain⟨h1,h2,h3,h4,h5,h6⟩:=zM E h;exact⟨h1,h2,⟨h3,h4⟩,h5,h6⟩
theorem Zn (h:BA l a (l.length:Int)=some m):0<=a∧0<=a∧a.toNat<=l.length∧l.length-a.toNat=m.length∧(List.take (m.length*E.size) (List.drop (a.toNat*E.size) (ab E l))=ab E m):=by
 obtain⟨h1,h2,h3,h4,h5,h6⟩:=zM E h;simp only[Int.toNat_natCast]at h3 h5;exact⟨h1,h1,h3,h5,h6⟩
theorem Kw (h:BA l 0 b=some m):0<=b∧0<=b∧m.length<=l.length∧b.toNat=m.length∧(List.take (m.length*E.size) (ab E l)=ab E m):=by
 obtain⟨h1,h2,h3,h4,h5,h6⟩:=zM E h;have O:b.toNat=m.length:=by simpa using h5
 refine⟨h2,h2,by omega,O,by simpa using h6⟩
theorem yL {n:List α} (h:lf B l m=some n):n=l++m∧n.length<=maxLen∧n.length*B<=140737488355328:=by
 unfold lf at h;split at h
 ·rename_i O;cases h;exact⟨rfl,by rw[ah1];exact O.1,by rw[ah1];exact O.2⟩
 ·cases h
theorem iG {n:List α} (h:lf B l [x]=some n):l.length+1=n.length∧ab E l++E.cells x=ab E n∧n.length<=maxLen∧n.length*B<=140737488355328:=by
 obtain⟨rfl,h1,h2⟩:=yL h;exact⟨by simp,by rw[jl];simp[ab],h1,h2⟩
theorem xk {n:List α} (h:lf B [] l=some n):n=l∧l.length<=maxLen∧l.length*B<=140737488355328:=by
 obtain⟨rfl,h1,h2⟩:=yL h;exact⟨rfl,h1,h2⟩
theorem aaC {n:List α} (h:lf B l m=some n):l.length+m.length=n.length∧ab E l++ab E m=ab E n∧n.length<=maxLen∧n.length*B<=140737488355328:=by
 obtain⟨rfl,h1,h2⟩:=yL h;exact⟨by simp,by rw[jl],h1,h2⟩
end
theorem rU {k:IntKind} {x y z:Int} (h:yP k x y=some z):¬y=0∧k.wrap (x.tdiv y)=z:=by
 unfold yP at h;split at h
 ·cases h
 ·cases h;exact⟨by assumption,rfl⟩
theorem vb {k:IntKind} {x y z:Int} (h:xY k x y=some z):¬y=0∧x.tmod y=z:=by
 unfold xY at h;split at h
 ·cases h
 ·cases h;exact⟨by assumption,rfl⟩
theorem BU {k:IntKind} {x y z:Int} (h:FY k x y=some z):¬y<0∧k.wrap (x*2 ^ (min y.toNat k.bits))=z:=by
 unfold FY at h;split at h
 ·cases h
 ·cases h;exact⟨by assumption,rfl⟩
theorem vv {k:IntKind} {x y z:Int} (h:By k x y=some z):¬y<0∧x.fdiv (2 ^ (min y.toNat k.bits))=z:=by
 unfold By at h;split at h
 ·cases h
 ·cases h;exact⟨by assumption,rfl⟩
theorem SI (op:BinOp) (k:IntKind) (x y:Int):Cg op k x y=j0 op k x y:=ajU
theorem qn.emp {P:Program} {f:FuncId} {rk:RK} {out:Option Row} (h1:qn P f none [.sl true true 0 []] rk out) (h2:qn P f none [.sl true false 0 []] rk out):qn P f none [.sl false false 0 []] rk out:=by
 intro w M vs Y O;have Z:=O.2 0 _ rfl;generalize hu:vs.getD 0 undef=u at Z;cases Z with
 | sl A c nl tight n xs us k1 k2 k3 X k5 k6 k7 k8 =>
  cases A with
  | none =>
   refine h1 w M vs Y ⟨O.1,fun j d U =>?_,O.tab⟩;cases j with
   | zero=>cases U;rw[hu];exact .sl none c true true 0 [] us k1 k2 (fun _=>⟨fun _=>⟨rfl,(X rfl).2⟩,fun h=>by cases h⟩) X (fun _=>(X rfl).2) k6 k7 k8
   | succ j=>simp at U
  | some A =>
   refine h2 w M vs Y ⟨O.1,fun j d U =>?_,O.tab⟩;cases j with
   | zero=>cases U;rw[hu];exact .sl (some A) c true false 0 [] us k1 k2 (fun _=>⟨(fun h=>by cases h),fun _ h=>by cases h⟩) X (fun h=>by cases h) k6 k7 k8
   | succ j=>simp at U
theorem bX.aef {P:Program} {T:Nat->Option Ty} {Γ:Env} (X:ic P T) (Y:bG P Γ) (hm:P.follows .mixedOrders=true) {α β:Type} {E:jb α} {F:List α->Option β} {R:β->RK} {mode:Mode} {f:FuncId} {fn:Func} (U:P.funcs[f]? = some fn) (O:(match fn.body with|some c=>codeOk c|none=>true)=true)
  (hc:(fn.name == "runtime.NumGoroutine")=false∧fn.body.isNone=false) (Z:1<=fn.ntmps)
  (h0:∀r,F []=some r->jY mode T Γ FU fn none [.sl true true 0 []]=some (R r,none))
  (h1:∀r,F []=some r->jY mode T Γ FU fn none [.sl true false 0 []]=some (R r,none))
  (h2:∀l r,0<l.length->F l=some r->jY mode T Γ FU fn none [.sl false false l.length (ab E l)]=some (R r,none)):bX P f (dV (dT (mS E)) F R) where
 calls lent agK rk out hg:=by
  obtain⟨rfl,rfl,l,r,rfl,hr,rfl⟩:=qY hg;cases l with
  | nil=>exact qn.emp (jB X Y hm U O Z rfl (h0 r hr)) (jB X Y hm U O Z rfl (h1 r hr))
  | cons x l=>exact jB X Y hm U O Z rfl (h2 (x::l) r (by simp) hr)
 callable:=⟨fn,U,hc⟩
theorem acK {w:World} {M:Nat->Prop} {k:IntKind} {n:Int} {u:Value} (h:RP w M (.int k n) u):u=.int k n:=by cases h;rfl
theorem aak {vs:Array Value} (h:vs.size=1):vs = #[vs.getD 0 undef]:=by
 apply Array.ext
 ·simp[h]
 ·intro i h1 h2;have:i=0:=by omega
  subst this;simp[ah2 h1]
theorem vm1:type_of% (ai @Jv<|ai @Ci<|ai @IE<|ai @O1<|ai @O0<|ai @IC<|ai @EV<|ai @ID<|ai @bd<|ai @aX<|ai @sO<|ai @bk<|ai @vW<|ai @AZ<|ai @EY<|ai @IB<|ai @Jb<|ai @Ff<|ai @OY<|ai @Iz<|ai @ES<|ai @Jc<|ai @Fg<|ai @Fh<|ai @A9<|ai @OZ<|ai @IA<|ai @ET<|ai @Jd<|ai @Fi<|ai @Fj<|ai @Ba<|ai @Pg<|ai @Pq<|ai @Uh<|ai @Um<|ai @EC<|ai @AT<|ai @ED<|ai @AU<|ai @L3<|ai @L9<|ai @L2<|ai @L8<|ai @CF<|ai @CI<|ai @GP<|ai @GY<|ai @L4<|ai @Ma<|ai @L0<|@L6):=⟨@Jv,@Ci,@IE,@O1,@O0,@IC,@EV,@ID,@bd,@aX,@sO,@bk,@vW,@AZ,@EY,@IB,@Jb,@Ff,@OY,@Iz,@ES,@Jc,@Fg,@Fh,@A9,@OZ,@IA,@ET,@Jd,@Fi,@Fj,@Ba,@Pg,@Pq,@Uh,@Um,@EC,@AT,@ED,@AU,@L3,@L9,@L2,@L8,@CF,@CI,@GP,@GY,@L4,@Ma,@L0,@L6⟩
theorem vm2:type_of% (ai @GW<|ai @G4<|ai @xz<|ai @xC<|ai @vL<|ai @vP<|ai @GR<|ai @G0<|ai @vM<|ai @vQ<|ai @GS<|ai @G1<|ai @GU<|ai @G2<|ai @GQ<|ai @GZ<|ai @tu<|ai @tv<|ai @vN<|ai @vR<|ai @GO<|ai @GX<|ai @S4<|ai @S5<|ai @Af<|ai @Aj<|ai @Ag<|ai @Ak<|ai @LZ<|ai @L5<|ai @Ae<|ai @Ai<|ai @Ou<|ai @OG<|ai @Gn<|ai @zW<|ai @GL<|ai @Mw<|ai @CS<|ai @CR<|ai @DF<|ai @DE<|ai @cJ<|ai @AA<|ai @cI<|ai @se<|ai @UK<|ai @K5<|ai @Ge<|ai @Gd<|ai @Ib<|@Hs):=⟨@GW,@G4,@xz,@xC,@vL,@vP,@GR,@G0,@vM,@vQ,@GS,@G1,@GU,@G2,@GQ,@GZ,@tu,@tv,@vN,@vR,@GO,@GX,@S4,@S5,@Af,@Aj,@Ag,@Ak,@LZ,@L5,@Ae,@Ai,@Ou,@OG,@Gn,@zW,@GL,@Mw,@CS,@CR,@DF,@DE,@cJ,@AA,@cI,@se,@UK,@K5,@Ge,@Gd,@Ib,@Hs⟩
theorem vm3:type_of% (ai @Ht<|ai @A3<|ai @Fc<|ai @Fb<|ai @A8<|ai @uw<|ai @sQ<|ai @A5<|ai @sR<|ai @A6<|ai @sS<|ai @A2<|ai @I9<|ai @vZ<|ai @v7<|ai @A4<|ai @rn<|ai @A7<|ai @Fa<|ai @vY<|ai @yz<|ai @TP<|ai @Ob<|ai @It<|ai @Is<|ai @HP<|ai @SA<|ai @K6<|ai @SE<|ai @W7<|ai @SD<|ai @W4<|ai @Sy<|ai @SF<|ai @W2<|ai @BE<|ai @SG<|ai @Sz<|ai @Gh<|ai @Ce<|ai @SC<|ai @Gi<|ai @GD<|ai @Cx<|ai @GG<|ai @Lr<|ai @Cu<|ai @Ab<|ai @Cw<|ai @GC<|ai @Ct<|@LG):=⟨@Ht,@A3,@Fc,@Fb,@A8,@uw,@sQ,@A5,@sR,@A6,@sS,@A2,@I9,@vZ,@v7,@A4,@rn,@A7,@Fa,@vY,@yz,@TP,@Ob,@It,@Is,@HP,@SA,@K6,@SE,@W7,@SD,@W4,@Sy,@SF,@W2,@BE,@SG,@Sz,@Gh,@Ce,@SC,@Gi,@GD,@Cx,@GG,@Lr,@Cu,@Ab,@Cw,@GC,@Ct,@LG⟩
theorem vm4:type_of% (ai @LO<|ai @Ly<|ai @GI<|ai @LD<|ai @SZ<|ai @Lu<|ai @SX<|ai @SV<|ai @Lw<|ai @LC<|ai @Xy<|ai @S1<|ai @Xz<|ai @abV<|ai @Xw<|ai @Xx<|ai @LX<|ai @Hp<|ai @Tn<|ai @SO<|ai @Gx<|ai @Gr<|ai @Cp<|ai @HC<|ai @Dl<|ai @MD<|ai @To<|ai @ME<|ai @GJ<|ai @Cy<|ai @Ld<|ai @OV<|ai @Iw<|ai @OU<|ai @Iu<|ai @OS<|ai @Iv<|ai @C8<|ai @Hd<|ai @Cq<|ai @yU<|ai @C9<|ai @Db<|ai @X2<|ai @S9<|ai @XX<|ai @Mj<|ai @EL<|ai @EM<|ai @SI<|ai @xL<|@bg):=⟨@LO,@Ly,@GI,@LD,@SZ,@Lu,@SX,@SV,@Lw,@LC,@Xy,@S1,@Xz,@abV,@Xw,@Xx,@LX,@Hp,@Tn,@SO,@Gx,@Gr,@Cp,@HC,@Dl,@MD,@To,@ME,@GJ,@Cy,@Ld,@OV,@Iw,@OU,@Iu,@OS,@Iv,@C8,@Hd,@Cq,@yU,@C9,@Db,@X2,@S9,@XX,@Mj,@EL,@EM,@SI,@xL,@bg⟩
theorem vmk:type_of% (And.intro (@PC)<|@PD):=⟨@PC,@PD⟩
theorem vmc:type_of% (ai @true_and<|ai @and_true<|ai @ahp<|ai @agV<|ai @ahF<|ai @aiR<|ai @aik<|ai @aiS<|ai @aiU<|ai @ahf<|ai @ahg<|ai @List.contains_nil.{0}<|ai @aiF<|ai @aiQ<|ai @aiP<|ai @ahe<|ai @ahZ<|ai @decide_true<|ai @decide_false<|ai @beq_self_eq_true.{0}<|ai @List.isEmpty_nil.{0}<|ai @List.isEmpty_cons.{0}<|ai @Option.map_none.{0,0}<|ai @agX<|ai @ahV<|ai @List.all_nil.{0}<|ai @Option.isSome_some.{0}<|ai @Bool.and_true<|ai @aim<|ai @aiV<|ai @Bool.and_self<|ai @ail<|ai @aiW<|ai @and_self<|ai @ahE<|ai @aho<|ai @aiM<|ai @ahB<|ai @agQ<|ai @agP<|ai @agY<|ai @Nat.le_zero_eq<|ai @aiX<|ai @Bool.or_self<|ai @Bool.or_true<|ai @Bool.true_or<|ai @Bool.or_false<|ai @ahU<|@aiY):=⟨@true_and,@and_true,@ahp,@agV,@ahF,@aiR,@aik,@aiS,@aiU,@ahf,@ahg,@List.contains_nil.{0},@aiF,@aiQ,@aiP,@ahe,@ahZ,@decide_true,@decide_false,@beq_self_eq_true.{0},@List.isEmpty_nil.{0},@List.isEmpty_cons.{0},@Option.map_none.{0,0},@agX,@ahV,@List.all_nil.{0},@Option.isSome_some.{0},@Bool.and_true,@aim,@aiV,@Bool.and_self,@ail,@aiW,@and_self,@ahE,@aho,@aiM,@ahB,@agQ,@agP,@agY,@Nat.le_zero_eq,@aiX,@Bool.or_self,@Bool.or_true,@Bool.true_or,@Bool.or_false,@ahU,@aiY⟩
theorem vm5:type_of% (ai @EX<|ai @EW<|ai @abT<|ai @Gj<|ai @Cf<|ai @Sv<|ai @K0<|ai @Sw<|ai @WL<|ai @Ss<|ai @Su<|ai @LI<|ai @Tm<|ai @H8<|ai @Nq<|ai @DK<|@Nr):=⟨@EX,@EW,@abT,@Gj,@Cf,@Sv,@K0,@Sw,@WL,@Ss,@Su,@LI,@Tm,@H8,@Nq,@DK,@Nr⟩
theorem vmu:type_of% (ai @wU.eq_1<|ai @wU.eq_2<|ai @ev.eq_1<|ai @ev.eq_2<|ai @ev.eq_3<|ai @ev.eq_4<|ai @lO.eq_1<|ai @lO.eq_2<|ai @lO.eq_3<|ai @lO.eq_4<|ai @lO.eq_5<|ai @lO.eq_6<|ai @eL.eq_1<|ai @eL.eq_2<|ai @yN.eq_1<|ai @yN.eq_2<|ai @yN.eq_3<|ai @ku.eq_1<|ai @ku.eq_2<|ai @ku.eq_3<|ai @fU.eq_1<|ai @fU.eq_2<|ai @fU.eq_3<|ai @fU.eq_4<|ai @fU.eq_5<|ai @fU.eq_6<|ai @fU.eq_7<|ai @fU.eq_8<|ai @fU.eq_9<|ai @fU.eq_10<|ai @fU.eq_11<|ai @fU.eq_12<|ai @fU.eq_13<|ai @fU.eq_14<|ai @fU.eq_15<|ai @fU.eq_16<|ai @F3.eq_1<|ai @F3.eq_2<|ai @F3.eq_3<|ai @F3.eq_4<|ai @F3.eq_5<|ai @F3.eq_6<|ai @abc.eq_1<|ai @aM.eq_1<|ai @aM.eq_2<|ai @ee.eq_1<|ai @ee.eq_2<|ai @ee.eq_3<|ai @dO.eq_1<|ai @dO.eq_2<|ai @dO.eq_3<|ai @live.eq_1<|ai @js.eq_1<|ai @js.eq_2<|ai @Ds.n9.eq_1<|ai @Ds.n9.eq_2<|ai @Ds.n9.eq_3<|ai @cA.eq_1<|ai @cA.eq_2<|ai @cA.eq_3<|ai @cA.eq_4<|ai @cA.eq_5<|ai @cA.eq_6<|ai @gz.eq_1<|ai @gz.eq_2<|ai @gz.eq_3<|ai @gz.eq_4<|ai @gz.eq_5<|ai @gz.eq_6<|ai @pe.eq_1<|ai @pe.eq_2<|ai @xT.eq_1<|ai @xT.eq_2<|ai @xT.eq_3<|ai @xT.eq_4<|ai @alive.eq_1<|ai @alive.eq_2<|ai @alive.eq_3<|ai @nm.eq_1<|ai @nm.eq_2<|ai @gD.eq_1<|ai @gD.eq_2<|ai @gD.eq_3<|ai @gD.eq_4<|ai @gD.eq_5<|ai @gD.eq_6<|ai @df.eq_1<|ai @df.eq_2<|ai @p7.eq_1<|ai @jk.eq_1<|ai @jk.eq_2<|ai @jk.eq_3<|ai @lx.eq_1<|ai @lx.eq_2<|ai @Io.eq_1<|ai @bL.eq_1<|ai @bL.eq_2<|ai @bL.eq_3<|ai @bL.eq_4<|ai @gu.eq_1<|ai @gu.eq_2<|ai @gu.eq_3<|ai @cU.eq_1<|ai @cU.eq_2<|ai @cU.eq_3<|ai @cU.eq_4<|ai @cU.eq_5<|ai @cU.eq_6<|ai @fa.eq_1<|ai @iB.eq_1<|ai @iB.eq_2<|ai @fieldAt.eq_1<|ai @ec.eq_1<|ai @pV.eq_1<|ai @iR.eq_1<|ai @content.eq_1<|ai @content.eq_2<|ai @content.eq_3<|ai @putCells.eq_1<|ai @Wt.eq_1<|ai @Wt.eq_2<|ai @Wt.eq_3<|ai @Wt.eq_4<|ai @PW.eq_1<|ai @PW.eq_2<|ai @PW.eq_3<|ai @PW.eq_4<|ai @Tf.eq_1<|ai @Tf.eq_2<|ai @Tf.eq_3<|ai @fe.eq_1<|ai @fe.eq_2<|ai @fe.eq_3<|ai @kindOk.eq_1<|ai @kindOk.eq_2<|ai @kindOk.eq_3<|ai @kindOk.eq_4<|ai @ki.eq_1<|ai @ki.eq_2<|ai @ki.eq_3<|ai @ki.eq_4<|ai @nt.eq_1<|ai @nt.eq_2<|ai @nt.eq_3<|ai @nt.eq_4<|ai @nt.eq_5<|ai @nt.eq_6<|ai @nt.eq_7<|ai @nt.eq_8<|ai @sw.eq_1<|ai @sw.eq_2<|ai @sw.eq_3<|ai @a8.eq_1<|ai @a8.eq_2<|ai @a8.eq_3<|ai @a8.eq_4<|ai @a8.eq_5<|ai @a8.eq_6<|ai @a8.eq_7<|ai @nd.eq_1<|ai @nd.eq_2<|ai @td.eq_1<|ai @td.eq_2<|ai @td.eq_3<|@td.eq_4):=⟨@wU.eq_1,@wU.eq_2,@ev.eq_1,@ev.eq_2,@ev.eq_3,@ev.eq_4,@lO.eq_1,@lO.eq_2,@lO.eq_3,@lO.eq_4,@lO.eq_5,@lO.eq_6,@eL.eq_1,@eL.eq_2,@yN.eq_1,@yN.eq_2,@yN.eq_3,@ku.eq_1,@ku.eq_2,@ku.eq_3,@fU.eq_1,@fU.eq_2,@fU.eq_3,@fU.eq_4,@fU.eq_5,@fU.eq_6,@fU.eq_7,@fU.eq_8,@fU.eq_9,@fU.eq_10,@fU.eq_11,@fU.eq_12,@fU.eq_13,@fU.eq_14,@fU.eq_15,@fU.eq_16,@F3.eq_1,@F3.eq_2,@F3.eq_3,@F3.eq_4,@F3.eq_5,@F3.eq_6,@abc.eq_1,@aM.eq_1,@aM.eq_2,@ee.eq_1,@ee.eq_2,@ee.eq_3,@dO.eq_1,@dO.eq_2,@dO.eq_3,@live.eq_1,@js.eq_1,@js.eq_2,@Ds.n9.eq_1,@Ds.n9.eq_2,@Ds.n9.eq_3,@cA.eq_1,@cA.eq_2,@cA.eq_3,@cA.eq_4,@cA.eq_5,@cA.eq_6,@gz.eq_1,@gz.eq_2,@gz.eq_3,@gz.eq_4,@gz.eq_5,@gz.eq_6,@pe.eq_1,@pe.eq_2,@xT.eq_1,@xT.eq_2,@xT.eq_3,@xT.eq_4,@alive.eq_1,@alive.eq_2,@alive.eq_3,@nm.eq_1,@nm.eq_2,@gD.eq_1,@gD.eq_2,@gD.eq_3,@gD.eq_4,@gD.eq_5,@gD.eq_6,@df.eq_1,@df.eq_2,@p7.eq_1,@jk.eq_1,@jk.eq_2,@jk.eq_3,@lx.eq_1,@lx.eq_2,@Io.eq_1,@bL.eq_1,@bL.eq_2,@bL.eq_3,@bL.eq_4,@gu.eq_1,@gu.eq_2,@gu.eq_3,@cU.eq_1,@cU.eq_2,@cU.eq_3,@cU.eq_4,@cU.eq_5,@cU.eq_6,@fa.eq_1,@iB.eq_1,@iB.eq_2,@fieldAt.eq_1,@ec.eq_1,@pV.eq_1,@iR.eq_1,@content.eq_1,@content.eq_2,@content.eq_3,@putCells.eq_1,@Wt.eq_1,@Wt.eq_2,@Wt.eq_3,@Wt.eq_4,@PW.eq_1,@PW.eq_2,@PW.eq_3,@PW.eq_4,@Tf.eq_1,@Tf.eq_2,@Tf.eq_3,@fe.eq_1,@fe.eq_2,@fe.eq_3,@kindOk.eq_1,@kindOk.eq_2,@kindOk.eq_3,@kindOk.eq_4,@ki.eq_1,@ki.eq_2,@ki.eq_3,@ki.eq_4,@nt.eq_1,@nt.eq_2,@nt.eq_3,@nt.eq_4,@nt.eq_5,@nt.eq_6,@nt.eq_7,@nt.eq_8,@sw.eq_1,@sw.eq_2,@sw.eq_3,@a8.eq_1,@a8.eq_2,@a8.eq_3,@a8.eq_4,@a8.eq_5,@a8.eq_6,@a8.eq_7,@nd.eq_1,@nd.eq_2,@td.eq_1,@td.eq_2,@td.eq_3,@td.eq_4⟩
theorem afq:type_of% (ai @Gv<|ai @Gs<|ai @Gt<|ai @Ti<|ai @Nn<|ai @M8<|ai @Ng<|ai @H4<|ai @M0<|ai @M3<|ai @DD<|ai @M6<|ai @M5<|ai @HF<|ai @NI<|ai @NV<|ai @SL<|ai @Cj<|ai @Ck<|ai @Gw<|ai @Tj<|ai @No<|ai @M9<|ai @H5<|ai @Nh<|ai @DJ<|ai @Nk<|ai @Nj<|ai @HI<|ai @SM<|@Cl):=⟨@Gv,@Gs,@Gt,@Ti,@Nn,@M8,@Ng,@H4,@M0,@M3,@DD,@M6,@M5,@HF,@NI,@NV,@SL,@Cj,@Ck,@Gw,@Tj,@No,@M9,@H5,@Nh,@DJ,@Nk,@Nj,@HI,@SM,@Cl⟩
section
variable {T:Nat->Option Ty} {Γ:Env} {N F e:Nat} {Q Q':Kt} {t:Nat->D} {h:Nat->Option Row}
theorem iy (hm:∀x t h e,Q x t h e->Q' x t h e):∀(ws:List W) (x:Ex) (t:Nat->D) (h:Nat->Option Row) (e:Nat),de T Γ N F ws Q x t h e->de T Γ N F ws Q' x t h e
 | [],x,t,h,e,hk=>hm _ _ _ _ hk
 | .code c::ws,x,t,h,e,hk=>by
  unfold de at hk ⊢;cases x with
  | normal=>exact Wp c t h e _ _ hk (fun x t h e U=>iy hm ws x t h e U)
  | exit n=>exact iy hm ws _ t h e hk
  | ret=>exact iy hm ws _ t h e hk
 | .blk id::ws,x,t,h,e,hk=>by
  unfold de Xa at hk ⊢;cases x with
  | normal=>exact iy hm ws _ t h e hk
  | exit n =>
   simp only at hk ⊢;split at hk
   ·rename_i O;rw[if_pos O];exact iy hm ws _ t h e hk
   ·rename_i O;rw[if_neg O];exact iy hm ws _ t h e hk
  | ret=>exact iy hm ws _ t h e hk
theorem pC:∀(ws:List W) (k:Nat),de T Γ N F ws Q=de T Γ N F (ws.take k) (de T Γ N F (ws.drop k) Q)
 | ws,0=>by simp[de]
 | [],k+1=>by simp[de]
 | .code c::ws,k+1=>by
  rw[aiS,aiR];funext x t h e;unfold de;rw[pC ws k]
 | .blk id::ws,k+1=>by
  rw[aiS,aiR];funext x t h e;unfold de;rw[pC ws k]
variable {σ:Type} {ops l:List Oper} {ws:List W} {dst:Option Nat} {fs:List jZ} {d:D} {g:Nat}
theorem sD {J:σ->(Nat->D)->(Nat->Option Row)->Nat->Prop} {P:σ->Prop} {R:Kt} (O:∀s t h e,J s t h e->P s->R .normal t h e):∀x t h e,CK J P R x t h e->R x t h e:=by
 intro x t h e U;cases x with
 | normal=>obtain⟨s,h1,h2⟩:=U;exact O s t h e h2 h1
 | exit n=>exact U
 | ret=>exact U
theorem vp (hm:∀x t h e,Q x t h e->Q' x t h e) (hk:kd T Γ N F ops l ws Q t h e):kd T Γ N F ops l ws Q' t h e:=vt (fun t h O=>iy hm ws _ _ _ _ O) _ _ _ hk
theorem vr (hm:∀x t h e,Q x t h e->Q' x t h e) (hk:kK T Γ N F ops l ws Q t h e fs):kK T Γ N F ops l ws Q' t h e fs:=vo (fun t h fs O=>⟨O.1,iy hm ws _ _ _ _ O.2⟩) _ _ _ _ hk
theorem sr (k:Nat):kd T Γ N F ops l ws Q t h e=kd T Γ N F ops l (ws.take k) (de T Γ N F (ws.drop k) Q) t h e:=by unfold kd;rw[pC ws k]
theorem ss (k:Nat):kK T Γ N F ops l ws Q t h e fs=kK T Γ N F ops l (ws.take k) (de T Γ N F (ws.drop k) Q) t h e fs:=by unfold kK;rw[pC ws k]
theorem GV (k:Nat) {o:Oper} : oB T Γ N F o ops l ws Q t h e=oB T Γ N F o ops l (ws.take k) (de T Γ N F (ws.drop k) Q) t h e:=by
 unfold oB;congr 1;funext t E;rw[sr k]
theorem G3 (k:Nat) {o:Oper} : oC T Γ N F o ops l ws Q t h e fs=oC T Γ N F o ops l (ws.take k) (de T Γ N F (ws.drop k) Q) t h e fs:=by
 unfold oC;congr 1;funext t E;rw[ss k]
theorem L1 {o:Oper} (hm:∀x t h e,Q x t h e->Q' x t h e) (hk:oB T Γ N F o ops l ws Q t h e):oB T Γ N F o ops l ws Q' t h e:=yF hk fun _ _ O=>vp hm O
theorem L7 {o:Oper} (hm:∀x t h e,Q x t h e->Q' x t h e) (hk:oC T Γ N F o ops l ws Q t h e fs):oC T Γ N F o ops l ws Q' t h e fs:=yF hk fun _ _ O=>vr hm O
variable (k:Nat) (J:σ->(Nat->D)->(Nat->Option Row)->Nat->Prop) (P:σ->Prop)
theorem jA {x y:Code} (O:∀s t h e,J s t h e->P s->de T Γ N F (ws.drop k) Q .normal t h e) (X:KI T Γ N F d g x y (ws.take k) (CK J P (de T Γ N F (ws.drop k) Q)) t h e):KI T Γ N F d g x y ws Q t h e:=by
 unfold KI at X ⊢;have e1:∀c:Code,de T Γ N F (.code c::ws) Q=de T Γ N F (.code c::ws.take k) (de T Γ N F (ws.drop k) Q):=fun c=>pC (.code c::ws) (k+1);rw[e1,e1];exact yD X (fun _ U=>iy (sD O) _ _ _ _ _ U) (fun _ U=>iy (sD O) _ _ _ _ _ U)
theorem bB {want:Bool} {o:Oper} (O:∀s t h e,J s t h e->P s->de T Γ N F (ws.drop k) Q .normal t h e) (X:vH T Γ N F d g want o ops l (ws.take k) (CK J P (de T Γ N F (ws.drop k) Q)) t h e):vH T Γ N F d g want o ops l ws Q t h e:=by
 unfold vH at X ⊢;refine Fs X (fun t U =>?_) (fun t U =>?_) (fun t U =>?_)
 ·cases want
  ·simp only[ahp,if_false]at U ⊢;rw[sr k];exact vp (sD O) U
  ·simp only[if_true]at U ⊢;rw[GV k];exact L1 (sD O) U
 ·cases want
  ·simp only[ahp,if_false]at U ⊢;rw[GV k];exact L1 (sD O) U
  ·simp only[if_true]at U ⊢;rw[sr k];exact vp (sD O) U
 ·rw[sr k];exact vp (sD O) U
theorem aad {want:Bool} {o:Oper} (O:∀s t h e,J s t h e->P s->de T Γ N F (ws.drop k) Q .normal t h e) (X:vJ T Γ N F d g want o ops l (ws.take k) (CK J P (de T Γ N F (ws.drop k) Q)) t h e fs):vJ T Γ N F d g want o ops l ws Q t h e fs:=by
 unfold vJ at X ⊢;refine Fs X (fun t U =>?_) (fun t U =>?_) (fun t U =>?_)
 ·cases want
  ·simp only[ahp,if_false]at U ⊢;rw[ss k];exact vr (sD O) U
  ·simp only[if_true]at U ⊢;rw[G3 k];exact L7 (sD O) U
 ·cases want
  ·simp only[ahp,if_false]at U ⊢;rw[G3 k];exact L7 (sD O) U
  ·simp only[if_true]at U ⊢;rw[ss k];exact vr (sD O) U
 ·rw[ss k];exact vr (sD O) U
end
def mkW {α β γ:Type} (ty:Nat) (E:jb γ) (A:jh α) (F:List γ->α->Option (List γ×β)) (R:β->RK):Option (D×Row)->List D->Option (RK×Option Row):=fun lent ds =>
 match lent with
 | some (.buf 0 0 s o n,⟨0,ty',cells,false,true,false⟩)=>open Classical in
  if h:ty'=ty∧s=E.size∧∃p:List D×List γ×List D×α,cells=p.1++(ab E p.2.1++p.2.2.1)∧o=p.1.length∧n=p.2.1.length∧ds=A.ds p.2.2.2 then
   (F (Classical.choose h.2.2).2.1 (Classical.choose h.2.2).2.2.2).map fun r=>(R r.2,some ⟨0,ty,(Classical.choose h.2.2).1++(ab E r.1++(Classical.choose h.2.2).2.2.1),false,true,false⟩)
  else none
 | _=>none
theorem UM {γ:Type} {E:jb γ} {p O q U:List D} {l l':List γ} (h:p++(ab E l++q)=O++(ab E l'++U)) (X:p.length=O.length) (Y:l.length=l'.length):p=O∧l=l'∧q=U:=by
 obtain⟨h1,h2⟩:=List.append_inj h X;obtain⟨h3,h4⟩:=List.append_inj h2 (by rw[bN,bN,Y]);exact⟨h1,tF E _ _ h3,h4⟩
theorem YC {α β γ:Type} (ty:Nat) (E:jb γ) (A:jh α) (F:List γ->α->Option (List γ×β)) (R:β->RK) (pre post:List D) (l:List γ) (a:α) :
  mkW ty E A F R (some (.buf 0 0 E.size pre.length l.length,⟨0,ty,pre++(ab E l++post),false,true,false⟩)) (A.ds a)=(F l a).map fun r=>(R r.2,some ⟨0,ty,pre++(ab E r.1++post),false,true,false⟩):=by
 have h:ty=ty∧E.size=E.size∧∃p:List D×List γ×List D×α,pre++(ab E l++post)=p.1++(ab E p.2.1++p.2.2.1)∧pre.length=p.1.length∧l.length=p.2.1.length∧A.ds a=A.ds p.2.2.2:=⟨rfl,rfl,(pre,l,post,a),rfl,rfl,rfl,rfl⟩;simp only[mkW];rw[dif_pos h];obtain⟨h1,h2,h3,h4⟩:=Classical.choose_spec h.2.2;obtain⟨e1,e2,e3⟩:=UM h1 h2 h3;rw[<- A.inj _ _ h4,<- e1,<- e2,<- e3]
theorem N5 {α β γ:Type} {ty:Nat} {E:jb γ} {A:jh α} {F:List γ->α->Option (List γ×β)} {R:β->RK} {lent:Option (D×Row)} {ds:List D} {rk:RK} {out:Option Row} (h:mkW ty E A F R lent ds=some (rk,out)) :
  ∃pre l post a l' r,lent=some (.buf 0 0 E.size pre.length l.length,⟨0,ty,pre++(ab E l++post),false,true,false⟩)∧ds=A.ds a∧F l a=some (l',r)∧rk=R r∧out=some ⟨0,ty,pre++(ab E l'++post),false,true,false⟩:=by
 unfold mkW at h;split at h
 ·split at h
  ·rename_i he;obtain⟨rfl,rfl,he⟩:=he;rw[agN]at h;obtain⟨⟨l',r⟩,h1,h2⟩:=h;simp only[Prod.mk.injEq]at h2;obtain⟨rfl,rfl⟩:=h2;obtain⟨g1,g2,g3,g4⟩:=Classical.choose_spec he;refine⟨_,_,_,_,l',r,?_,g4,h1,rfl,rfl⟩;rw[<- g1,<- g2,<- g3]
  ·cases h
 ·cases h
theorem bX.aed {P:Program} {T:Nat->Option Ty} {Γ:Env} (X:ic P T) (Y:bG P Γ) (hm:P.follows .mixedOrders=true) {α β γ:Type} {ty:Nat} {E:jb γ} {A:jh α} {F:List γ->α->Option (List γ×β)} {R:β->RK} {mode:Mode} {f:FuncId} {fn:Func} (U:P.funcs[f]? = some fn) (O:(match fn.body with|some c=>codeOk c|none=>true)=true)
  (Z:(fn.name == "runtime.NumGoroutine")=false∧fn.body.isNone=false) (hn:∀a,(A.ds a).length+1<=fn.ntmps)
  (h:∀pre post l a l' r,F l a=some (l',r)->jY mode T Γ FU fn (some (.buf 0 0 E.size pre.length l.length,⟨0,ty,pre++(ab E l++post),false,true,false⟩)) (A.ds a)=some (R r,some ⟨0,ty,pre++(ab E l'++post),false,true,false⟩)):bX P f (mkW ty E A F R) where
 calls lent agK rk out hg:=by
  obtain⟨pre,l,post,a,l',r,rfl,rfl,hr,rfl,rfl⟩:=N5 hg;exact jB X Y hm U O (hn a) rfl (h pre post l a l' r hr)
 callable:=⟨fn,U,Z⟩
def mkE {α γ:Type} (ty:Nat) (E:jb γ) (A:jh α) (F:List γ->α->Option (List γ)):Option (D×Row)->List D->Option (RK×Option Row):=fun lent ds =>
 match lent with
 | some (.buf 0 0 s o n,⟨0,ty',cells,false,true,false⟩)=>open Classical in
  if h:ty'=ty∧s=E.size∧∃p:List D×List γ×List D×α,cells=p.1++(ab E p.2.1++p.2.2.1)∧o=p.1.length∧n=p.2.1.length∧ds=A.ds p.2.2.2 then
   (F (Classical.choose h.2.2).2.1 (Classical.choose h.2.2).2.2.2).map fun r=>(.fresh ty E.size r.length (ab E r),none)
  else none
 | _=>none
theorem adb {α γ:Type} (ty:Nat) (E:jb γ) (A:jh α) (F:List γ->α->Option (List γ)) (pre post:List D) (l:List γ) (a:α) :
  mkE ty E A F (some (.buf 0 0 E.size pre.length l.length,⟨0,ty,pre++(ab E l++post),false,true,false⟩)) (A.ds a)=(F l a).map fun r=>(.fresh ty E.size r.length (ab E r),none):=by
 have h:ty=ty∧E.size=E.size∧∃p:List D×List γ×List D×α,pre++(ab E l++post)=p.1++(ab E p.2.1++p.2.2.1)∧pre.length=p.1.length∧l.length=p.2.1.length∧A.ds a=A.ds p.2.2.2:=⟨rfl,rfl,(pre,l,post,a),rfl,rfl,rfl,rfl⟩;simp only[mkE];rw[dif_pos h];obtain⟨h1,h2,h3,h4⟩:=Classical.choose_spec h.2.2;obtain⟨e1,e2,e3⟩:=UM h1 h2 h3;rw[<- A.inj _ _ h4,<- e2]
theorem Yz {α γ:Type} {ty:Nat} {E:jb γ} {A:jh α} {F:List γ->α->Option (List γ)} {lent:Option (D×Row)} {ds:List D} {rk:RK} {out:Option Row} (h:mkE ty E A F lent ds=some (rk,out)) :
  ∃pre l post a r,lent=some (.buf 0 0 E.size pre.length l.length,⟨0,ty,pre++(ab E l++post),false,true,false⟩)∧ds=A.ds a∧F l a=some r∧rk=.fresh ty E.size r.length (ab E r)∧out=none:=by
 unfold mkE at h;split at h
 ·split at h
  ·rename_i he;obtain⟨rfl,rfl,he⟩:=he;rw[agN]at h;obtain⟨r,h1,h2⟩:=h;simp only[Prod.mk.injEq]at h2;obtain⟨rfl,rfl⟩:=h2;obtain⟨g1,g2,g3,g4⟩:=Classical.choose_spec he;refine⟨(Classical.choose he).1,(Classical.choose he).2.1,(Classical.choose he).2.2.1,(Classical.choose he).2.2.2,r,?_,g4,h1,rfl,rfl⟩;rw[<- g1,<- g2,<- g3]
  ·cases h
 ·cases h
theorem bX.aec {P:Program} {T:Nat->Option Ty} {Γ:Env} (X:ic P T) (Y:bG P Γ) (hm:P.follows .mixedOrders=true) {α γ:Type} {ty:Nat} {E:jb γ} {A:jh α} {F:List γ->α->Option (List γ)} {f:FuncId} {fn:Func} (U:P.funcs[f]? = some fn) (O:(match fn.body with|some c=>codeOk c|none=>true)=true)
  (Z:(fn.name == "runtime.NumGoroutine")=false∧fn.body.isNone=false) (hn:∀a,(A.ds a).length+1<=fn.ntmps)
  (h:∀pre post l a r,F l a=some r->jY (.fresh ty E.size) T Γ FU fn (some (.buf 0 0 E.size pre.length l.length,⟨0,ty,pre++(ab E l++post),false,true,false⟩)) (A.ds a)=some (.fresh ty E.size r.length (ab E r),none)):bX P f (mkE ty E A F) where
 calls lent agK rk out hg:=by
  obtain⟨pre,l,post,a,r,rfl,rfl,hr,rfl,rfl⟩:=Yz hg;exact jB X Y hm U O (hn a) rfl (h pre post l a r hr)
 callable:=⟨fn,U,Z⟩
theorem bX.zero {P:Program} {f:FuncId} {fn:Func} (U:P.funcs[f]? = some fn) (X:(fn.name == "runtime.NumGoroutine")=false∧fn.body.isNone=false) {α β:Type} {A:jh α} {F:α->Option β} {R:β->RK} (Y:∀a,F a=none):bX P f (dV A F R) where
 calls lent agK rk out Z:=by
  obtain⟨rfl,rfl,a,r,rfl,O,rfl⟩:=qY Z;rw[Y]at O;cases O
 callable:=⟨fn,U,X⟩
section
variable {h:Nat->Option Row} {Γ:Env} {g e x v d:Nat} {dst:Option Nat} {fr:List Nat} {agK rest:List D} {d0:D} {T:Nat->Option Ty} {rs:List ResultVar}
def Gu (h:Nat->Option Row) (e:Nat) (dst:Option Nat) (x v:Nat) (fr:List Nat):Option (RK×Option Row)->Option bE
 | some (.clean c,some O)=>some ⟨c,iC h fr++[(x,some { O with v:=v })]⟩
 | some (.same s o n,some O)=>some ⟨.buf x v s o n,iC h fr++[(x,some { O with v:=v })]⟩
 | some (.fresh ty s n cells,none) =>
  match dst with
  | some d=>if fr.contains d=false then some ⟨.buf d e s 0 n,iC h fr++[(x,none),(d,some ⟨e,ty,cells,false,true,false⟩)]⟩ else none
  | none=>none
 | _=>none
def Xh (Γ:Env) (h:Nat->Option Row) (e:Nat) (dst:Option Nat) (g x v:Nat) (d0:D) (r:Row):Option (List D×List Nat)->Option bE
 | some (agK,fr)=>if fr.contains x=false then Gu h e dst x v fr (Γ.sem g (some (d0,r)) agK) else none
 | none=>none
def Lf (Γ:Env) (h:Nat->Option Row) (e:Nat) (dst:Option Nat) (g x v:Nat) (d0:D) (rest:List D):Option Row->Option bE
 | some r=>if r.fz=false then Xh Γ h e dst g x v d0 { r with v:=0 } (bz h rest) else none
 | none=>none
theorem Lg {s o n:Nat} : Bc true Γ h e dst g (.buf x v s o n::rest)=Lf Γ h e dst g x v (.buf 0 0 s o n) rest (live h x v):=by
 simp only[Bc,if_true,oS,xU];cases live h x v with
 | none=>rfl
 | some r =>
  simp only[Lf];cases bz h rest with
  | none=>rfl
  | some p=>rfl
def lvR (v:Nat):Option Row->Option Row
 | some r=>if r.v=v∧r.mp=true∧qX r=true then some r else none
 | none=>none
theorem NW {v ty:Nat} {ks:List cn} {vs:List D} {fz lst:Bool} (O:ty<900000):lvR v (some ⟨v,ty,[.mpc ks vs],fz,lst,true⟩)=some ⟨v,ty,[.mpc ks vs],fz,lst,true⟩:=by simp[lvR,qX,O]
theorem SN:Bc true Γ h e dst g (.mp x v::rest)=Lf Γ h e dst g x v (.mp 0 0) rest (lvR v (h x)):=by
 simp only[Bc,if_true,oS,xU];have:wS h x v=lvR v (h x):=by unfold wS lvR;cases h x<;>rfl
 rw[this];cases lvR v (h x) with
 | none=>rfl
 | some r =>
  simp only[Lf];cases bz h rest with
  | none=>rfl
  | some p=>rfl
theorem xn {c:D} {v' ty:Nat} {cells:List D} {fz lst:Bool} : Gu h e dst x v fr (some (.clean c,some ⟨v',ty,cells,fz,lst,true⟩))=some ⟨c,iC h fr++[(x,some ⟨v,ty,cells,fz,lst,true⟩)]⟩:=ajU
theorem Cm {r:Row} : Lf Γ h e dst g x v d0 rest (some r)=if r.fz=false then Xh Γ h e dst g x v d0 { r with v:=0 } (bz h rest) else none:=ajU
theorem Cn {r:Row} : Xh Γ h e dst g x v d0 r (some (agK,fr))=if fr.contains x=false then Gu h e dst x v fr (Γ.sem g (some (d0,r)) agK) else none:=ajU
theorem zX {c:D} {v' ty:Nat} {cells:List D} {fz lst:Bool} : Gu h e dst x v fr (some (.clean c,some ⟨v',ty,cells,fz,lst,false⟩))=some ⟨c,iC h fr++[(x,some ⟨v,ty,cells,fz,lst,false⟩)]⟩:=ajU
theorem Co {s o n v' ty:Nat} {cells:List D} {fz lst:Bool} : Gu h e dst x v fr (some (.same s o n,some ⟨v',ty,cells,fz,lst,false⟩))=some ⟨.buf x v s o n,iC h fr++[(x,some ⟨v,ty,cells,fz,lst,false⟩)]⟩:=ajU
theorem zY {s n ty:Nat} {cells:List D} : Gu h e (some d) x v fr (some (.fresh ty s n cells,none))=if fr.contains d=false then some ⟨.buf d e s 0 n,iC h fr++[(x,none),(d,some ⟨e,ty,cells,false,true,false⟩)]⟩ else none:=ajU
theorem Az {ty sz i:Nat} {t:Nat->D} {l:D×Row} : fF (.fresh ty sz) T (some l) [.tmp i] ⟨t,h,e⟩=mn ty sz h (t i):=ajU
def ad3 (y v s o:Nat):Option Row->Option Ty->Option (Nat×Nat)->Option bE
 | some _,some φ,some (l,k)=>if φ.size=s∧0<s then some ⟨.buf y v s (o+l*s) (k-l),[]⟩ else none
 | _,_,_=>none
theorem Hj {y v s o l k:Nat} {r:Row} {φ:Ty} : ad3 y v s o (some r) (some φ) (some (l,k))=if φ.size=s∧0<s then some ⟨.buf y v s (o+l*s) (k-l),[]⟩ else none:=ajU
theorem Th {el b c y v s o n:Nat} {z:List Value} {q:Bool} {O U:Option D} : cU T ⟨.slice el,b,c,z,q⟩ h (.buf y v s o n) O U none=ad3 y v s o (live h y v) (T el) (td n O U):=by
 simp only[cU];cases live h y v with
 | none=>rfl
 | some r =>
  simp only;cases T el with
  | none=>rfl
  | some φ =>
   cases td n O U with
   | none=>rfl
   | some p=>rfl
def acX (ty:Nat):Option (List D×List Nat)->Option Row->Option (RK×Option Row)
 | some (ds,fr),some r=>if r.v=0∧r.fz=false∧r.ty=ty∧r.mp=false∧fr.contains 0=false then some (.clean (kJ ds),some r) else none
 | _,_=>none
theorem Hf {ty:Nat} {ds:List D} {r:Row} : acX ty (some (ds,fr)) (some r)=if r.v=0∧r.fz=false∧r.ty=ty∧r.mp=false∧fr.contains 0=false then some (.clean (kJ ds),some r) else none:=ajU
theorem Hg {t:Nat->D} {ty v:Nat} {cells:List D} {fz lst:Bool} : fF .clean T (some (d0,⟨v,ty,cells,fz,lst,false⟩)) rs ⟨t,h,e⟩=acX ty (sn T ⟨t,h,e⟩ rs) (h 0):=by
 simp only[fF,pc,jE,YL,acX];cases sn T ⟨t,h,e⟩ rs with
 | none=>rfl
 | some p =>
  obtain⟨ds,fr⟩:=p;cases h 0 with
  | none=>rfl
  | some r =>
   simp only
   by_cases h1:r.v=0∧r.fz=false∧r.ty=ty∧r.mp=false
   ·rw[if_pos ⟨h1.1,h1.2.1,h1.2.2.1,h1.2.2.2,sd h1.2.2.2⟩];simp only[ahr]
    by_cases h2:fr.contains 0=false
    ·rw[if_pos h2,if_pos ⟨h1.1,h1.2.1,h1.2.2.1,h1.2.2.2,h2⟩]
    ·rw[if_neg h2,if_neg (fun O=>h2 O.2.2.2.2)]
   ·rw[if_neg (fun O=>h1 ⟨O.1,O.2.1,O.2.2.1,O.2.2.2.1⟩),if_neg (fun O=>h1 ⟨O.1,O.2.1,O.2.2.1,O.2.2.2.1⟩)]
def Td (ty:Nat):Option (List D×List Nat)->Option Row->Option (RK×Option Row)
 | some (ds,fr),some r=>if r.v=0∧r.fz=false∧r.ty=ty∧(r.mp=true∧qX r=true)∧fr.contains 0=false then some (.clean (kJ ds),some r) else none
 | _,_=>none
theorem C7 {ty:Nat} {ds:List D} {ks:List cn} {vs:List D} {lst:Bool} (O:ty<900000):Td ty (some (ds,fr)) (some ⟨0,ty,[.mpc ks vs],false,lst,true⟩)=if fr.contains 0=false then some (.clean (kJ ds),some ⟨0,ty,[.mpc ks vs],false,lst,true⟩) else none:=by
 simp[Td,qX,O]
theorem Da {t:Nat->D} {ty v:Nat} {cells:List D} {fz lst:Bool} : fF .clean T (some (d0,⟨v,ty,cells,fz,lst,true⟩)) rs ⟨t,h,e⟩=Td ty (sn T ⟨t,h,e⟩ rs) (h 0):=by
 simp only[fF,pc,jE,YL,Td];cases sn T ⟨t,h,e⟩ rs with
 | none=>rfl
 | some p =>
  obtain⟨ds,fr⟩:=p;cases h 0 with
  | none=>rfl
  | some r =>
   simp only
   by_cases h1:r.v=0∧r.fz=false∧r.ty=ty∧(r.mp=true∧qX r=true)
   ·rw[if_pos h1];simp only[ahr]
    by_cases h2:fr.contains 0=false
    ·rw[if_pos h2,if_pos ⟨h1.1,h1.2.1,h1.2.2.1,h1.2.2.2,h2⟩]
    ·rw[if_neg h2,if_neg (fun O=>h2 O.2.2.2.2)]
   ·rw[if_neg h1,if_neg (fun O=>h1 ⟨O.1,O.2.1,O.2.2.1,O.2.2.2.1⟩)]
def aaU (ty:Nat):D->Option Row->Option (RK×Option Row)
 | .buf 0 0 s o n,some r=>if r.v=0∧r.fz=false∧r.ty=ty∧r.mp=false then some (.same s o n,some r) else none
 | _,_=>none
theorem Mr {ty s o n:Nat} {r:Row} : aaU ty (.buf 0 0 s o n) (some r)=if r.v=0∧r.fz=false∧r.ty=ty∧r.mp=false then some (.same s o n,some r) else none:=ajU
theorem Hh {t:Nat->D} {ty v i:Nat} {cells:List D} {fz lst:Bool} : fF .same T (some (d0,⟨v,ty,cells,fz,lst,false⟩)) [.tmp i] ⟨t,h,e⟩=aaU ty (t i) (h 0):=by
 simp only[fF,BH,jE];generalize t i=q;cases q with
 | buf a b s o n =>
  cases h 0 with
  | none=>rcases a with _|a<;>rcases b with _|b<;>rfl
  | some r =>
   simp only;have U:(r.v=0∧r.fz=false∧r.ty=ty∧r.mp=false∧qX r=true)↔(r.v=0∧r.fz=false∧r.ty=ty∧r.mp=false):=⟨fun O=>⟨O.1,O.2.1,O.2.2.1,O.2.2.2.1⟩,fun O=>⟨O.1,O.2.1,O.2.2.1,O.2.2.2,sd O.2.2.2⟩⟩
   by_cases h1:r.v=0∧r.fz=false∧r.ty=ty∧r.mp=false
   ·rcases a with _|a<;>rcases b with _|b<;>simp[aaU,h1,sd h1.2.2.2]
   ·rcases a with _|a<;>rcases b with _|b<;>simp only[aaU,U,h1,if_false]<;>rfl
 | _=>rfl
end
section
variable {α:Type} (E:jb α) {l m u x:List α} {y y':α} {i a b:Int} {pre post:List D}
theorem abB (h:BA l a b=some x):ab E (l.take a.toNat)++(ab E x++ab E (l.drop b.toNat))=ab E l:=by
 unfold BA at h;split at h
 ·rename_i O;cases h;rw[<- jl,<- jl];congr 1;have e:l.drop b.toNat=(l.drop a.toNat).drop (b.toNat-a.toNat):=by rw[aiK];congr 1;omega
  rw[e,aiL,aiL]
 ·cases h
theorem abC (h:BA l a b=some x):(ab E (l.take a.toNat)).length=a.toNat*E.size:=by
 unfold BA at h;split at h
 ·rw[bN,ag8,ah4 (by omega)]
 ·cases h
theorem acE (h:BA l a b=some x):x.length=b.toNat-a.toNat:=by
 unfold BA at h;split at h
 ·cases h;simp;omega
 ·cases h
theorem abA:ab E (l.take i.toNat)++(ab E u++ab E (l.drop b.toNat))=ab E (l.take i.toNat++(u++l.drop b.toNat)):=by rw[jl,jl]
theorem Yh (h:P.idx l i=some y):(pre++(ab E l++post)).drop (pre.length+i.toNat*E.size)=E.cells y++(ab E (l.drop (i.toNat+1))++post):=by
 rw[<- aiK,List.drop_left,aie (by rw[bN];have:=sc E h;omega),BI E h,aid]
theorem Yi (h:P.idx l i=some y):pre.length+i.toNat*E.size+E.size<=(pre++(ab E l++post)).length:=by
 have:=sc E h;rw[ah1,ah1,bN];omega
theorem Nd (h:P.idx l i=some y):(0<=i∧i<l.length)∧(pre++(ab E l++post)).drop (pre.length+i.toNat*E.size)=E.cells y++(ab E (l.drop (i.toNat+1))++post)∧pre.length+i.toNat*E.size+E.size<=(pre++(ab E l++post)).length:=⟨J3 h,Yh E h,Yi E h⟩
theorem OP (h:P.idx l i=some y):putCells (pre++(ab E l++post)) (pre.length+i.toNat*E.size) (E.cells y')=pre++(ab E (l.set i.toNat y')++post):=by
 have h1:=Y0 E (x':=y') h;have O:=sc E h;have U:=bN E l;unfold putCells at h1 ⊢;rw[<- h1,E.len];have e1:(pre++(ab E l++post)).take (pre.length+i.toNat*E.size)=pre++(ab E l).take (i.toNat*E.size):=by
  rw[aih,aij (by omega),aif,aii (by omega)]
 have e2:(pre++(ab E l++post)).drop (pre.length+i.toNat*E.size+E.size)=(ab E l).drop (i.toNat*E.size+E.size)++post:=by
  rw[aha,aiH,aiI (by omega),aif,aiF,aie (by omega)]
 rw[e1,e2];simp only[aid]
theorem aan (h:BA l a b=some x) (hu:u.length=x.length):(l.take a.toNat++(u++l.drop b.toNat)).length=l.length:=by
 have O:=acE h;unfold BA at h;split at h
 ·simp only[ah1,ag8,ag9];omega
 ·cases h
theorem abq (h:BA l 0 b=some x):pre.length+x.length*E.size<=(pre++(ab E l++post)).length∧((pre++(ab E l++post)).drop pre.length).take (x.length*E.size)=ab E x:=by
 obtain⟨h1,h2,h3,h4,h5⟩:=Kw E h;have:=ahC E.size h3;refine⟨by rw[ah1,ah1,bN];omega,?_⟩;rw[List.drop_left,aii (by rw[bN];exact this),h5]
end
section
variable {h:Nat->Option Row} {Γ:Env} {e:Nat} {dst:Option Nat}
def caP:Option (D×List Nat)->Option (List D×List Nat)->Option (List D×List Nat)
 | some (d,fr),some (ds,O)=>some (d::ds,fr++O)
 | _,_=>none
theorem Le {d:D} {ds:List D} {fr O:List Nat} : caP (some (d,fr)) (some (ds,O))=some (d::ds,fr++O):=ajU
theorem Lt:dp h []=some ([],[]):=ajU
theorem GH {d:D} {ds:List D} : dp h (d::ds)=caP (aW h d) (dp h ds):=by
 simp only[dp];cases aW h d with
 | none=>rfl
 | some x=>cases dp h ds<;>rfl
theorem SQ {k:IntKind} {n:Int} : aW h (.int k n)=some (.int k n,[]):=ajU
theorem Ls {b:Bool} : aW h (.bool b)=some (.bool b,[]):=ajU
theorem SU {b:ByteArray} : aW h (.str b)=some (.str b,[]):=ajU
theorem Xq {a b:Bool} {n:Nat} {xs:List D} : aW h (.sl a b n xs)=some (.sl false false n xs,[]):=ajU
theorem SP {xs:List D} : aW h (.agg xs)=some (.agg (xs.map canon),[]):=ajU
theorem Xm {f:Nat} : aW h (.fn f)=some (.fn f,[]):=ajU
def clC (f k:Nat):Option (List D×List Nat)->Option (D×List Nat)
 | some (O,fr)=>some (.clo f k O,fr)
 | none=>none
theorem LH {f k:Nat} {O:List D} {fr:List Nat} : clC f k (some (O,fr))=some (.clo f k O,fr):=ajU
theorem Lx {f k:Nat} {xs:List D} : bM h (.clo f k xs)=clC f k (dp h xs):=by
 simp only[bM];cases dp h xs<;>rfl
theorem Lp {g k:Nat} {caps args:List D} : ig Γ h e dst (.clo g k caps) args=if caps.all jf then Bc false Γ h e dst g (caps.take k++(args++caps.drop k)) else none:=by
 simp only[ig,Bc,ahp,if_false]
theorem TW {k:IntKind} {n:Int} : jf (.int k n)=true:=ajU
theorem OF {b:Bool} : jf (.bool b)=true:=ajU
theorem TZ {b:ByteArray} : jf (.str b)=true:=ajU
theorem YS {a b:Bool} {n:Nat} {xs:List D} : jf (.sl a b n xs)=true:=ajU
theorem TV {xs:List D} : jf (.agg xs)=true:=ajU
theorem YO {f:Nat} : jf (.fn f)=true:=ajU
end
theorem EK:kJ []=.tup []:=ajU
def aFn (f:Nat):Arg Unit:=⟨fun _ =>.fn f,fun _ _ _=>rfl⟩
theorem abP {f:Nat} {x:Unit} : (aFn f).d x=.fn f:=ajU
def Ju {α:Type} (f k:Nat) (a:jh α):Arg α:=⟨fun x =>.clo f k (a.ds x),fun x y h=>a.inj _ _ (by simpa using h)⟩
theorem WJ {α:Type} {f k:Nat} {a:jh α} {x:α} : (Ju f k a).d x=.clo f k (a.ds x):=ajU
theorem vm7:type_of% (ai @Le<|ai @Lt<|ai @GH<|ai @SQ<|ai @Ls<|ai @SU<|ai @Xq<|ai @SP<|ai @Xm<|ai @LH<|ai @Lx<|ai @Lp<|ai @TW<|ai @OF<|ai @TZ<|ai @YS<|ai @TV<|ai @YO<|ai @EK<|ai @xy<|ai @xB<|@BE):=⟨@Le,@Lt,@GH,@SQ,@Ls,@SU,@Xq,@SP,@Xm,@LH,@Lx,@Lp,@TW,@OF,@TZ,@YS,@TV,@YO,@EK,@xy,@xB,@BE⟩
theorem vm6:type_of% (ai @OX<|ai @ahT<|ai @Th<|ai @Hj<|ai @zY<|ai @Az<|ai @Lg<|ai @SN<|ai @NW<|ai @xn<|ai @C7<|ai @Da<|ai @Cm<|ai @Cn<|ai @zX<|ai @Co<|ai @Hf<|ai @Hg<|ai @Mr<|@Hh):=⟨@OX,@ahT,@Th,@Hj,@zY,@Az,@Lg,@SN,@NW,@xn,@C7,@Da,@Cm,@Cn,@zX,@Co,@Hf,@Hg,@Mr,@Hh⟩
section
variable {T:Nat->Option Ty} {h:Nat->Option Row} {τ:Ty} {q:Nat->Bool}
theorem Yr {x v o:Nat} : mV τ h (.ptr x v o)=nD τ h x v o (live h x v):=ajU
theorem ab5 {xs:List D} : mV τ h (.ip xs)=dO τ h (.ip xs):=ajU
theorem ab3 {x v o v' ty:Nat} {c:List D} {fz:Bool} : nD τ h x v o (some ⟨v',ty,c,fz,true,false⟩)=dO τ h (.ptr x v o):=by
 simp only[nD,ail,Bool.and_false,ahp,if_false]
theorem ab4 {x v o v' ty:Nat} {c:List D} {lst:Bool} : nD τ h x v o (some ⟨v',ty,c,false,lst,false⟩)=dO τ h (.ptr x v o):=by
 simp only[nD,aiV,ahp,if_false]
def ldA:Option D->Option bE->Option bE
 | some d,_=>some ⟨d,[]⟩
 | none,E=>E
theorem Nw {d:D} {E:Option bE} : ldA (some d) E=some ⟨d,[]⟩:=ajU
theorem Nv {E:Option bE} : ldA none E=E:=ajU
theorem ab2 {x v o v' ty:Nat} {c:List D} : nD τ h x v o (some ⟨v',ty,c,true,false,false⟩)=if o+τ.size<=c.length then ldA (Qa τ.ds.n9 ((c.drop o).take τ.size)) (dO τ h (.ptr x v o)) else none:=by
 simp only[nD,aiW,Bool.and_self,if_true];cases Qa τ.ds.n9 ((c.drop o).take τ.size)<;>rfl
theorem WV {x v s o n:Nat} : Qa true [.ali x v s o n]=some (.box1 x v s o n):=ajU
theorem WU {x v s o n:Nat} : Qa false [.ali x v s o n]=some (.buf x v s o n):=ajU
theorem Us {p:D} {k:IntKind} {n:Int} : dw τ h p (.int k n)=df τ h p (.int k n):=ajU
theorem Pw {p:D} {b:Bool} : dw τ h p (.bool b)=df τ h p (.bool b):=ajU
theorem Uu {p:D} {b:ByteArray} : dw τ h p (.str b)=df τ h p (.str b):=ajU
theorem Zz {p:D} {a b:Bool} {n:Nat} {xs:List D} : dw τ h p (.sl a b n xs)=df τ h p (.sl a b n xs):=ajU
theorem Ut {p:D} {x v o:Nat} : dw τ h p (.ptr x v o)=df τ h p (.ptr x v o):=ajU
theorem Zw {p:D} {xs:List D} : dw τ h p (.ip xs)=df τ h p (.ip xs):=ajU
theorem Uq {p:D} {x v s o n:Nat} : dw τ h p (.buf x v s o n)=df τ h p (.buf x v s o n):=ajU
theorem Uo {p:D} {xs:List D} : dw τ h p (.agg xs)=df τ h p (.agg xs):=ajU
theorem Zv {p:D} {f:Nat} : dw τ h p (.fn f)=df τ h p (.fn f):=ajU
theorem Ur {p:D} {f k:Nat} {xs:List D} : dw τ h p (.clo f k xs)=df τ h p (.clo f k xs):=ajU
theorem Uv {p:D}  : dw τ h p (.und)=df τ h p (.und):=ajU
def aeN (τ:Ty) (x o y O s U n:Nat):Option Row->Option bE
 | some r=>if τ.size=1∧o=0∧r.cells.length=1∧r.fz=false∧r.lst=false then some ⟨.und,[(x,some ⟨r.v,r.ty,[.ali y O s U n],true,false,false⟩)]⟩ else none
 | none=>none
theorem I6 {x o y O s U n:Nat} {r:Row} : aeN τ x o y O s U n (some r)=if τ.size=1∧o=0∧r.cells.length=1∧r.fz=false∧r.lst=false then some ⟨.und,[(x,some ⟨r.v,r.ty,[.ali y O s U n],true,false,false⟩)]⟩ else none:=ajU
theorem Up {x v o y O s U n:Nat} : dw τ h (.ptr x v o) (.box1 y O s U n)=aeN τ x o y O s U n (live h x v):=by
 simp only[dw];cases live h x v<;>rfl
def K8 (b:Bool) (T:Nat->Option Ty) (τ:Ty) (h:Nat->Option Row) (O:List (Nat×D)):Option bE :=
 if b then fa T τ h O else
  match τ.ds,O with
  | .struct fs,[(0,.buf x v s o n)]=>if (alive h (.buf x v s o n))∧(fs.all fun f=>(T f.1).isSome)∧fieldAt T fs 0=some (0,1)∧τ.zero.length=1 then some ⟨.box1 x v s o n,[]⟩ else none
  | .struct fs,[(0,.box1 x v s o n)]=>if (alive h (.buf x v s o n))∧(fs.all fun f=>(T f.1).isSome)∧fieldAt T fs 0=some (0,1)∧τ.zero.length=1 then some ⟨.box1 x v s o n,[]⟩ else none
  | _,_=>cE (fa T τ h O)
theorem SJ {d:Nat} {O:List (Nat×D)} : oU q T τ h (some d) O=K8 (q d) T τ h O:=ajU
theorem Gl:K8 false T τ h []=cE (fa T τ h []):=by
 unfold K8;rw[if_neg (by simp)];cases τ.ds<;>rfl
theorem Xd {cs:List D} {hw:List (Nat×Option Row)} : cE (some ⟨.agg cs,hw⟩)=some ⟨.agg (cs.map canon),hw⟩:=ajU
theorem Gm {O:List (Nat×D)} : K8 true T τ h O=fa T τ h O:=ajU
def W8 (T:Nat->Option Ty) (h:Nat->Option Row) (O x v s o n:Nat):Ds->Option bE
 | .struct fs=>if (alive h (.buf x v s o n))∧(fs.all fun f=>(T f.1).isSome)∧fieldAt T fs 0=some (0,1)∧O=1 then some ⟨.box1 x v s o n,[]⟩ else none
 | _=>none
theorem W9 {O x v s o n:Nat} {fs:List (Nat×Nat)} : W8 T h O x v s o n (.struct fs)=if (alive h (.buf x v s o n))∧(fs.all fun f=>(T f.1).isSome)∧fieldAt T fs 0=some (0,1)∧O=1 then some ⟨.box1 x v s o n,[]⟩ else none:=ajU
theorem K9 {x v s o n:Nat} : K8 false T τ h [(0,.box1 x v s o n)]=W8 T h τ.zero.length x v s o n τ.ds:=by
 unfold K8 W8 fa;rw[if_neg (by simp)];cases τ.ds<;>rfl
theorem Ch {x v s o n:Nat} : K8 false T τ h [(0,.buf x v s o n)]=W8 T h τ.zero.length x v s o n τ.ds:=by
 unfold K8 W8 fa;rw[if_neg (by simp)];cases τ.ds<;>rfl
def clX:Option (D×List Nat)->Option (D×List Nat)
 | some (d,fr)=>some (.agg [d],fr)
 | none=>none
theorem LQ {d:D} {fr:List Nat} : clX (some (d,fr))=some (.agg [d],fr):=ajU
theorem Lv {x v s o n:Nat} : bM h (.box1 x v s o n)=clX (clB x s o n (live h x v)):=by
 simp only[bM,aW,dE];cases live h x v with
 | none=>rfl
 | some r=>by_cases O:o+n*s<=r.cells.length<;>simp[clB,clX,O,canon]
theorem YI {x v s o n:Nat} : nm (.box1 x v s o n)=[x]:=ajU
theorem Gc {x v s o n:Nat} : alive h (.buf x v s o n)=(mY h x v).isSome:=ajU
theorem Hq {fs:List (Nat×Nat)} {O off:Nat} : fieldAt T ((O,off)::fs) 0=(T O).map fun φ=>(off,φ.size):=by
 simp only[fieldAt,List.getElem?_cons_zero];cases T O<;>rfl
end
theorem vm8:type_of% (ai @Yr<|ai @ab5<|ai @ab3<|ai @ab4<|ai @Nw<|ai @Nv<|ai @ab2<|ai @WV<|ai @WU<|ai @Us<|ai @Pw<|ai @Uu<|ai @Zz<|ai @Ut<|ai @Zw<|ai @Uq<|ai @Uo<|ai @Zv<|ai @Ur<|ai @Uv<|ai @Up<|ai @I6<|ai @SJ<|ai @Gm<|ai @W9<|ai @Ch<|ai @Gl<|ai @K9<|ai @Xd<|ai @LQ<|ai @Lv<|ai @YI<|ai @Gc<|@Hq):=⟨@Yr,@ab5,@ab3,@ab4,@Nw,@Nv,@ab2,@WV,@WU,@Us,@Pw,@Uu,@Zz,@Ut,@Zw,@Uq,@Uo,@Zv,@Ur,@Uv,@Up,@I6,@SJ,@Gm,@W9,@Ch,@Gl,@K9,@Xd,@LQ,@Lv,@YI,@Gc,@Hq⟩
theorem afs:type_of% (ai @Wx<|ai @abF<|ai @IJ<|ai @Ud<|ai @Zm<|ai @Zl<|ai @Oa<|ai @N9<|ai @acz<|ai @HB<|ai @HA<|ai @MA<|ai @Ia<|ai @D4<|ai @Oc<|ai @TQ<|ai @T2<|ai @Ua<|ai @NH<|ai @Yu<|ai @TC<|ai @HN<|ai @TA<|ai @Nx<|ai @HO<|ai @Ny<|ai @TB<|ai @Uk<|ai @IW<|ai @IX<|ai @IL<|ai @IZ<|ai @IV<|ai @Pn<|ai @IY<|ai @Po<|ai @Uj<|ai @Pm<|ai @I3<|ai @OJ<|ai @OI<|ai @Tz<|ai @HL<|ai @Yo<|ai @Yp<|ai @HM<|ai @Uf<|ai @I5<|ai @Zt<|ai @Zu<|ai @Pt<|ai @Ps<|ai @Ji<|ai @Jj<|ai @Fu<|ai @UR<|ai @UP<|ai @PQ<|ai @UI<|ai @aaf<|ai @TU<|ai @YM<|ai @YN<|ai @aag<|ai @UQ<|ai @US<|ai @Jh<|ai @PU<|ai @Pr<|@xm):=⟨@Wx,@abF,@IJ,@Ud,@Zm,@Zl,@Oa,@N9,@acz,@HB,@HA,@MA,@Ia,@D4,@Oc,@TQ,@T2,@Ua,@NH,@Yu,@TC,@HN,@TA,@Nx,@HO,@Ny,@TB,@Uk,@IW,@IX,@IL,@IZ,@IV,@Pn,@IY,@Po,@Uj,@Pm,@I3,@OJ,@OI,@Tz,@HL,@Yo,@Yp,@HM,@Uf,@I5,@Zt,@Zu,@Pt,@Ps,@Ji,@Jj,@Fu,@UR,@UP,@PQ,@UI,@aaf,@TU,@YM,@YN,@aag,@UQ,@US,@Jh,@PU,@Pr,@xm⟩
theorem aft:type_of% (ai @Tl<|ai @Np<|ai @Na<|ai @Ni<|ai @M4<|ai @H7<|ai @Oo<|ai @D8<|ai @Ot<|ai @Oq<|ai @Ig<|ai @On<|ai @Om<|ai @IQ<|ai @I1<|ai @IP<|ai @I0<|ai @Ug<|ai @Ul<|ai @IS<|ai @I2<|ai @Pf<|ai @Pp<|ai @HY<|ai @HZ<|ai @K1<|ai @K2<|ai @Pj<|ai @IT<|ai @Pk<|ai @IU<|ai @Ui<|ai @Ph<|ai @Gg<|ai @Gf<|@mY.eq_1):=⟨@Tl,@Np,@Na,@Ni,@M4,@H7,@Oo,@D8,@Ot,@Oq,@Ig,@On,@Om,@IQ,@I1,@IP,@I0,@Ug,@Ul,@IS,@I2,@Pf,@Pp,@HY,@HZ,@K1,@K2,@Pj,@IT,@Pk,@IU,@Ui,@Ph,@Gg,@Gf,@mY.eq_1⟩
theorem afu:type_of% (ai @X3<|ai @Tv<|ai @Ts<|ai @Tt<|ai @Tp<|ai @TS<|ai @H6<|ai @H9<|ai @NN<|ai @NQ<|ai @DS<|ai @NR<|ai @NP<|ai @HS<|ai @NM<|ai @NL<|ai @NO<|ai @Oj<|ai @Og<|ai @D7<|ai @Ol<|ai @Oi<|ai @Ie<|ai @Of<|ai @Oe<|ai @Oh<|ai @GA<|ai @Aa<|ai @z7<|ai @z8<|ai @LS<|ai @LU<|ai @XU<|ai @S7<|ai @XT<|ai @S6<|ai @Me<|ai @Mf<|ai @Mg<|ai @Lk<|ai @Gz<|ai @Pd<|ai @IM<|ai @Pe<|ai @IN<|ai @xN<|ai @cc<|ai @xM<|ai @ca<|ai @Te<|ai @Mq<|ai @Tc<|ai @He<|@Mo):=⟨@X3,@Tv,@Ts,@Tt,@Tp,@TS,@H6,@H9,@NN,@NQ,@DS,@NR,@NP,@HS,@NM,@NL,@NO,@Oj,@Og,@D7,@Ol,@Oi,@Ie,@Of,@Oe,@Oh,@GA,@Aa,@z7,@z8,@LS,@LU,@XU,@S7,@XT,@S6,@Me,@Mf,@Mg,@Lk,@Gz,@Pd,@IM,@Pe,@IN,@xN,@cc,@xM,@ca,@Te,@Mq,@Tc,@He,@Mo⟩
theorem v:type_of% (ai @vmc<|ai @vmk<|ai @vm1<|ai @vm2<|ai @vm3<|ai @vm4<|ai @vm5<|ai @vm6<|ai @vm7<|ai @vm8<|ai @afq<|ai @afs<|ai @aft<|ai @afu<|ai @vmu<|ai @Option.toList_some.{0}<|@Option.toList_none.{0}):=⟨@vmc,@vmk,@vm1,@vm2,@vm3,@vm4,@vm5,@vm6,@vm7,@vm8,@afq,@afs,@aft,@afu,@vmu,@Option.toList_some.{0},@Option.toList_none.{0}⟩
class vK (κ:Type) where
 k:κ->cn
 inj:∀x y,k x=k y->x=y
instance:vK Int:=⟨fun n=>(n,none),fun x y h=>by simpa using h⟩
instance:vK (Int×Int):=⟨fun p=>(p.1,some p.2),fun x y h=>by
 obtain⟨a,b⟩:=x;obtain⟨c,d⟩:=y;simpa using h⟩
def dH {κ α:Type} [vK κ]:List (κ×α)->List cn
 | []=>[]
 | (k,_)::m=>vK.k k::dH m
def fC {κ α:Type} (A:Arg α):List (κ×α)->List D
 | []=>[]
 | (_,v)::m=>A.d v::fC A m
theorem N3 {κ α:Type} {A:Arg α} : fC A ([]:List (κ×α))=[]:=ajU
section
variable {κ α:Type} [vK κ] {A:Arg α}
theorem Nt (k n:κ):vK.k k=vK.k n↔k=n:=⟨vK.inj _ _,fun h=>by rw[h]⟩
theorem N1:dH ([]:List (κ×α))=[]:=ajU
theorem DW [DecidableEq κ] (n:κ):∀m:List (κ×α),(dH m).contains (vK.k n)=lh m n
 | []=>rfl
 | (k,v)::m=>by
  have:=DW n m;simp only[dH,ahT,lh,this];congr 1
  by_cases h:k=n
  ·subst h;rw[beq_self_eq_true,beq_self_eq_true]
  ·rw[beq_eq_false_iff_ne.2 h,beq_eq_false_iff_ne.2 (fun e=>h (vK.inj _ _ e.symm))]
theorem N0:∀m:List (κ×α),(dH m).length=m.length
 | []=>rfl
 | (k,v)::m=>by simp[dH,N0 m]
theorem HT [DecidableEq κ] (z:α) (n:κ):∀m:List (κ×α),po (A.d z) (dH m) (fC A m) (vK.k n)=A.d (fl z m n)
 | []=>rfl
 | (k,v)::m=>by
  simp only[dH,fC,po,fl,HT z n m,Nt]
  by_cases h:k=n<;>simp[h]
theorem OM [DecidableEq κ] (n:κ) (v:α):∀m:List (κ×α),wZ (dH m) (vK.k n)=dH (pz m n v)
 | []=>rfl
 | (k,x)::m=>by
  have O:=OM n v m;unfold wZ at O ⊢;simp only[dH,pz,ahT]
  by_cases h:k=n
  ·subst h;simp[dH]
  ·have h1:(vK.k n==vK.k k)=false:=by simpa [Nt] using Ne.symm h
   rw[h1,ahU,if_neg h];simp only[dH];rw[<- O];cases (dH m).contains (vK.k n)<;>rfl
theorem OO [DecidableEq κ] (n:κ) (v:α):∀m:List (κ×α),Bt (dH m) (fC A m) (vK.k n) (A.d v)=fC A (pz m n v)
 | []=>rfl
 | (k,x)::m=>by
  have O:=OO n v m;unfold Bt at O ⊢;simp only[dH,fC,pz,ahT]
  by_cases h:k=n
  ·subst h;simp[fC,ahS]
  ·have h1:(vK.k n==vK.k k)=false:=by simpa [Nt] using Ne.symm h
   have h2:(vK.k k==vK.k n)=false:=by simpa [Nt] using h
   rw[h1,ahU,if_neg h];simp only[fC,ahS,h2,cond_false];rw[<- O];cases (dH m).contains (vK.k n)<;>rfl
theorem map_inj:∀ {m O:List (κ×α)},dH m=dH O->fC A m=fC A O->m=O
 | [],[],_,_=>rfl
 | [],(k,v)::O,h,_=>by simp[dH]at h
 | (k,v)::m,[],h,_=>by simp[dH]at h
 | (k,v)::m,(k',v')::O,h,g=>by
  simp only[dH,ahd,Nt]at h;simp only[fC,ahd]at g;rw[h.1,A.inj _ _ g.1,map_inj h.2 g.2]
end
theorem HJ {α:Type} {n:Int} {m:List (Int×α)} : lz false (n,none) (dH m)=true:=by
 unfold lz;simp only[ahq];refine⟨rfl,?_⟩
 induction m with
 | nil=>rfl
 | cons p m O=>simp only[dH,List.all_cons,ahq];exact⟨rfl,O⟩
theorem HK {α:Type} {a b:Int} {m:List ((Int×Int)×α)} : lz true (a,some b) (dH m)=true:=by
 unfold lz;simp only[ahq];refine⟨rfl,?_⟩
 induction m with
 | nil=>rfl
 | cons p m O=>simp only[dH,List.all_cons,ahq];exact⟨rfl,O⟩
def aMp {κ α:Type} [vK κ] (A:Arg α):Arg (List (κ×α)):=⟨fun m =>.mpc (dH m) (fC A m),fun x y h=>by
 simp only[D.mpc.injEq]at h;exact map_inj h.1 h.2⟩
theorem abQ {κ α:Type} [vK κ] (A:Arg α) (m:List (κ×α)):(aMp A).d m=.mpc (dH m) (fC A m):=ajU
def eMp {κ α:Type} [vK κ] (A:Arg α):jb (List (κ×α)):=⟨fun m=>[.mpc (dH m) (fC A m)],1,fun _=>rfl,by decide,fun x y h=>by
 simp only[ahd,D.mpc.injEq,and_true]at h;exact map_inj h.1 h.2⟩
theorem Mh {κ α:Type} [vK κ] (A:Arg α):(eMp A:jb (List (κ×α))).size=1:=ajU
def mkM {κ ν α β:Type} [vK κ] (ty:Nat) (V:Arg ν) (A:jh α) (F:List (κ×ν)->α->Option (List (κ×ν)×β)) (R:β->RK):Option (D×Row)->List D->Option (RK×Option Row):=fun lent ds =>
 match lent with
 | some (.mp 0 0,⟨0,ty',[.mpc ks vs],false,true,true⟩)=>open Classical in
  if h:ty'=ty∧∃p:List (κ×ν)×α,ks=dH p.1∧vs=fC V p.1∧ds=A.ds p.2 then
   (F (Classical.choose h.2).1 (Classical.choose h.2).2).map fun r=>(R r.2,some ⟨0,ty,[.mpc (dH r.1) (fC V r.1)],false,true,true⟩)
  else none
 | _=>none
theorem ade {κ ν α β:Type} [vK κ] (ty:Nat) (V:Arg ν) (A:jh α) (F:List (κ×ν)->α->Option (List (κ×ν)×β)) (R:β->RK) (l:List (κ×ν)) (a:α) :
  mkM ty V A F R (some (.mp 0 0,⟨0,ty,[.mpc (dH l) (fC V l)],false,true,true⟩)) (A.ds a)=(F l a).map fun r=>(R r.2,some ⟨0,ty,[.mpc (dH r.1) (fC V r.1)],false,true,true⟩):=by
 have h:ty=ty∧∃p:List (κ×ν)×α,dH l=dH p.1∧fC V l=fC V p.1∧A.ds a=A.ds p.2:=⟨rfl,(l,a),rfl,rfl,rfl⟩;simp only[mkM];rw[dif_pos h];obtain⟨h1,h2,h3⟩:=Classical.choose_spec h.2;rw[<- A.inj _ _ h3,<- map_inj h1 h2]
theorem YB {κ ν α β:Type} [vK κ] {ty:Nat} {V:Arg ν} {A:jh α} {F:List (κ×ν)->α->Option (List (κ×ν)×β)} {R:β->RK} {lent:Option (D×Row)} {ds:List D} {rk:RK} {out:Option Row} (h:mkM ty V A F R lent ds=some (rk,out)) :
  ∃l a l' r,lent=some (.mp 0 0,⟨0,ty,[.mpc (dH l) (fC V l)],false,true,true⟩)∧ds=A.ds a∧F l a=some (l',r)∧rk=R r∧out=some ⟨0,ty,[.mpc (dH l') (fC V l')],false,true,true⟩:=by
 unfold mkM at h;split at h
 ·split at h
  ·rename_i he;obtain⟨rfl,he⟩:=he;rw[agN]at h;obtain⟨⟨l',r⟩,h1,h2⟩:=h;simp only[Prod.mk.injEq]at h2;obtain⟨rfl,rfl⟩:=h2;obtain⟨g1,g2,g3⟩:=Classical.choose_spec he;refine⟨_,_,l',r,?_,g3,h1,rfl,rfl⟩;rw[<- g1,<- g2]
  ·cases h
 ·cases h
theorem bX.Ys {P:Program} {T:Nat->Option Ty} {Γ:Env} (X:ic P T) (Y:bG P Γ) (hm:P.follows .mixedOrders=true) {κ ν α β:Type} [vK κ] {ty:Nat} {V:Arg ν} {A:jh α} {F:List (κ×ν)->α->Option (List (κ×ν)×β)} {R:β->RK} {f:FuncId} {fn:Func} (U:P.funcs[f]? = some fn) (O:(match fn.body with|some c=>codeOk c|none=>true)=true)
  (Z:(fn.name == "runtime.NumGoroutine")=false∧fn.body.isNone=false) (hn:∀a,(A.ds a).length+1<=fn.ntmps)
  (h:∀l a l' r,F l a=some (l',r)->jY .clean T Γ FU fn (some (.mp 0 0,⟨0,ty,[.mpc (dH l) (fC V l)],false,true,true⟩)) (A.ds a)=some (R r,some ⟨0,ty,[.mpc (dH l') (fC V l')],false,true,true⟩)):bX P f (mkM ty V A F R) where
 calls lent agK rk out hg:=by
  obtain⟨l,a,l',r,rfl,rfl,hr,rfl,rfl⟩:=YB hg;exact jB X Y hm U O (hn a) rfl (h l a l' r hr)
 callable:=⟨fn,U,Z⟩
theorem PO {T:Nat->Option Ty} {Γ:Env} {F:Nat} {mode:Mode} {fn:Func} {c:Code} {n:Nat} {rs:List ResultVar} {d0:D} {ty:Nat} {cells:List D} {fz lst:Bool} {args:List D} {r:RK×Option Row} (X:fn.body=some c) (U:fn.ntmps=n) (Y:fn.results=rs.toArray)
  (hw:de T Γ n F [.code c] (X1 mode T (some (d0,⟨0,ty,cells,fz,lst,true⟩)) rs r) .normal (FA (d0::args)) (mE ⟨0,ty,cells,fz,lst,true⟩) 1) (O:n<=1000000:=by exact aiG rfl):jY mode T Γ F fn (some (d0,⟨0,ty,cells,fz,lst,true⟩)) args=some r:=by
 refine R7 ?_ (by rw[U];exact O);unfold wpf;rw[X,U,Y];exact hw
def UX {α:Type} (e:jb α):Arg α:=⟨fun x =>.ip (e.cells x),fun x y h=>e.inj _ _ (by simpa using h)⟩
theorem Sr {α:Type} (e:jb α) (x:α):(UX e).d x=.ip (e.cells x):=ajU
section
variable {T:Nat->Option Ty} {h:Nat->Option Row} {Γ:Env} {e:Nat} {dst:Option Nat}
def lvM (v:Nat):Option Row->Option (List cn×List D)
 | some r=>if r.v=v∧r.mp=true∧r.ty<900000 then (match r.cells with | [.mpc ks vs]=>some (ks,vs)|_=>none) else none
 | none=>none
theorem NG {x v:Nat} : gJ h x v=lvM v (h x):=by
 unfold gJ lvM;cases h x<;>rfl
theorem NU {v ty:Nat} {ks:List cn} {vs:List D} {fz lst:Bool} (O:ty<900000):lvM v (some ⟨v,ty,[.mpc ks vs],fz,lst,true⟩)=some (ks,vs):=by simp[lvM,O]
def lkK (ks:List cn) (n:cn):Bool:=ks.contains n
theorem TE {α:Type} {m:List (Int×α)} {n:Int} : lkK (dH m) (n,none)=lh m n:=DW n m
theorem TF {α:Type} {m:List ((Int×Int)×α)} {a b:Int} : lkK (dH m) (a,some b)=lh m (a,b):=DW (a,b) m
def lkE (b ok:Bool) (z:D) (n:cn):Option (List cn×List D)->Option bE
 | some (ks,vs)=>if lz b n ks=true then some ⟨if ok then .tup [po z ks vs n,.bool (lkK ks n)] else po z ks vs n,[]⟩ else none
 | none=>none
theorem acn {b:Bool} {z:D} {n:cn} {ks:List cn} {vs:List D} : lkE b true z n (some (ks,vs))=if lz b n ks=true then some ⟨.tup [po z ks vs n,.bool (lkK ks n)],[]⟩ else none:=ajU
theorem acm {b:Bool} {z:D} {n:cn} {ks:List cn} {vs:List D} : lkE b false z n (some (ks,vs))=if lz b n ks=true then some ⟨po z ks vs n,[]⟩ else none:=ajU
def UO (T:Nat->Option Ty) (τ:Ty) (b:Bool) (d:D):Prop:=∃φ z,DX T τ=some (b,φ)∧js φ (φ.zero.map lO)=some z∧(φ.zero.map lO).all a8=true∧fM z=d
theorem ac8 {τ:Ty} {b:Bool} {d:D} (O:UO T τ b d) {m i:D} {n:cn} {ok:Bool} (U:Vv i=some n):gm T τ h m i ok=lkE b ok d n (mapOf h m):=by
 obtain⟨φ,z,h1,h2,h3,rfl⟩:=O;simp only[gm,h1,U,lkE,lkK];cases mapOf h m with
 | none=>rfl
 | some p=>obtain⟨ks,vs⟩:=p;simp only[h2,h3,and_true]
theorem N2 {x v:Nat} : mapOf h (.mp x v)=gJ h x v:=ajU
theorem HV {ks:List cn} {vs:List D} : mapOf h (.mpc ks vs)=some (ks,vs):=ajU
def muR (b:Bool) (h:Nat->Option Row) (y:Nat) (n:cn) (d:D) (fr:List Nat) (ks:List cn) (vs:List D):Option Row->Option bE
 | some r=>if lz b n ks=true∧r.fz=false∧fr.contains y=false then some ⟨.und,iC h fr++[(y,some ⟨r.v,r.ty,[.mpc (wZ ks n) (Bt ks vs n d)],false,true,true⟩)]⟩ else none
 | none=>none
theorem N8 {b:Bool} {y v ty:Nat} {n:cn} {d:D} {fr:List Nat} {ks:List cn} {vs:List D} {cells:List D} {lst mp:Bool} : muR b h y n d fr ks vs (some ⟨v,ty,cells,false,lst,mp⟩)=if lz b n ks=true then (if fr.contains y=false then some ⟨.und,iC h fr++[(y,some ⟨v,ty,[.mpc (wZ ks n) (Bt ks vs n d)],false,true,true⟩)]⟩ else none) else none:=by
 simp only[muR,true_and]
 by_cases h1:lz b n ks=true<;>simp[h1]
def muM (b:Bool) (h:Nat->Option Row) (y:Nat) (n:cn) (d:D) (fr:List Nat):Option (List cn×List D)->Option bE
 | some (ks,vs)=>muR b h y n d fr ks vs (h y)
 | none=>none
theorem N7 {b:Bool} {y:Nat} {n:cn} {d:D} {fr:List Nat} {ks:List cn} {vs:List D} : muM b h y n d fr (some (ks,vs))=muR b h y n d fr ks vs (h y):=ajU
def muE (b:Bool) (h:Nat->Option Row) (y v:Nat) (n:cn):Option (D×List Nat)->Option bE
 | some (d,fr)=>muM b h y n d fr (gJ h y v)
 | none=>none
theorem N6 {b:Bool} {y v:Nat} {n:cn} {d:D} {fr:List Nat} : muE b h y v n (some (d,fr))=muM b h y n d fr (gJ h y v):=ajU
theorem adi {τ:Ty} {b:Bool} {d:D} (O:UO T τ b d) {y v:Nat} {n:cn} {i x:D} (U:Vv i=some n):cM T τ h (.mp y v) i x=muE b h y v n (sZ h x):=by
 obtain⟨φ,z,h1,_⟩:=O;simp only[cM,h1,U];cases sZ h x with
 | none=>rfl
 | some p =>
  obtain⟨d,fr⟩:=p;simp only[muE];cases X:gJ h y v with
  | none=>simp only[muM];cases h y<;>rfl
  | some q =>
   obtain⟨ks,vs⟩:=q;simp only[muM];cases h y<;>rfl
def lnE:Option (List cn×List D)->Option bE
 | some (ks,_)=>some ⟨.int .i64 (ks.length:Nat),[]⟩
 | none=>none
theorem NJ {ks:List cn} {vs:List D} : lnE (some (ks,vs))=some ⟨.int .i64 (ks.length:Nat),[]⟩:=ajU
theorem HU {κ α:Type} [vK κ] {m:List (κ×α)} : (dH m).length=m.length:=N0 m
theorem PL {k:IntKind} {n:Int} : sZ h (.int k n)=some (.int k n,[]):=ajU
theorem Jf {b:Bool} : sZ h (.bool b)=some (.bool b,[]):=ajU
theorem PJ {xs:List D} : sZ h (.agg xs)=some (.agg (xs.map canon),[]):=ajU
theorem aa9 {τ:Ty} {b:Bool} {d:D} (X:UO T τ b d) {ty O:Nat} (U:ty<900000):VK T (some τ) ty e O=some ⟨.mp O e,[(O,some ⟨e,ty,[.mpc [] []],false,true,true⟩)]⟩:=by
 obtain⟨φ,z,h1,_⟩:=X;exact YE h1 U
def ldP (τ:Ty) (h:Nat->Option Row) (x v y:Nat):Option Row->Option bE
 | some r=>match r.cells with
  | [.alm y' v']=>if r.fz=true∧r.lst=false∧τ.size=1∧τ.ds.n9=false then some ⟨.mp y' v',[]⟩ else none
  | _=>none
 | none=>oY τ h x v y (kR h x v)
theorem ab6 {τ:Ty} {x v y:Nat} : mV τ h (.pm x v y)=ldP τ h x v y (live h x v):=by
 simp only[mV];cases live h x v with
 | none=>rfl
 | some r =>
  obtain⟨v',ty,cells,fz,lst,mp⟩:=r;rcases cells with _|⟨c,_|⟨O,cs⟩⟩<;>rfl
theorem Nz {τ:Ty} {x v y:Nat} : ldP τ h x v y none=oY τ h x v y (kR h x v):=ajU
def ldQ (τ:Ty) (h:Nat->Option Row) (x y s n:Nat):Option Row->Option bE
 | some r=>if y=1000000+x∧r.mp=false∧r.lst=true∧r.cells.length=n*s∧τ.size=1 then some ⟨if τ.ds.n9 then .agg [.sl false false n r.cells] else .sl false false n r.cells,iC h [y]⟩ else none
 | none=>none
theorem Yq {τ:Ty} {r:Row} {x v y s n:Nat} : oY τ h x v y (some (r,y,s,n))=ldQ τ h x y s n (h y):=by
 simp only[oY,ldQ,PK];cases h y with
 | none=>rfl
 | some q=>simp
theorem NB {ty b:Nat} {ds:Ds} {z:List Value} {q:Bool} {x y s n O:Nat} {cells:List D} {fz:Bool} : ldQ ⟨ds,1,b,z,q⟩ h x y s n (some ⟨O,ty,cells,fz,true,false⟩)=if y=1000000+x∧cells.length=n*s then some ⟨if ds.n9 then .agg [.sl false false n cells] else .sl false false n cells,iC h [y]⟩ else none:=by
 simp[ldQ]
def ac1 (T:Nat->Option Ty) (x v k:Nat):Option (Row×Nat×Nat×Nat)->Option (Nat×Nat)->Option bE
 | some _,some (O,0)=>match T O with|some φ=>if φ.size=0 then none else some ⟨.pm x v k,[]⟩|none=>none
 | _,_=>none
theorem Hz {T:Nat->Option Ty} {x v k O:Nat} {r:Row×Nat×Nat×Nat} : ac1 T x v k (some r) (some (O,0))=match T O with|some φ=>if φ.size=0 then none else some ⟨.pm x v k,[]⟩|none=>none:=ajU
theorem X6 {T:Nat->Option Ty} {b c:Nat} {z:List Value} {q:Bool} {fs:List (Nat×Nat)} {x v k i:Nat} : ee T ⟨.struct fs,b,c,z,q⟩ h i (.pm x v k)=ac1 T x v k (kR h x v) fs[i]?:=by
 simp only[ee,ac1];cases kR h x v with
 | none=>rfl
 | some r=>simp only;generalize fs[i]? = z;rcases z with _|⟨O,_|off⟩<;>first|rfl|(simp;done)|(simp only;cases T O<;>rfl)
def Un (x y s O n k : Nat) : Option Row -> Option Row -> Option bE
  | some r, some q => if O = 0 ∧ r.cells.length = 1 ∧ r.fz = false ∧ r.lst = false ∧ q.fz = false ∧ q.lst = true ∧ q.cells.length = n * s ∧ x ≠ y ∧ k = 1000000 + x ∧ x < 1000000 then
          some ⟨.und, [(y, none), (k, some ⟨0, q.ty, q.cells, false, true, false⟩), (x, some ⟨r.v, r.ty, [.ph k s n], false, false, true⟩)]⟩ else none
  | _, _ => none
theorem Zy {ds:Ds} {b:Nat} {z:List Value} {q:Bool} {x v y O s U n k:Nat} : dw ⟨ds,1,b,z,q⟩ h (.pm x v k) (.box1 y O s U n)=Un x y s U n k (live h x v) (live h y O):=by
 simp only[dw,Un,PK,true_and];cases live h x v with
 | none=>rfl
 | some r=>cases live h y O<;>rfl
theorem E4 {x y s O n k v ty U ty':Nat} {c:D} {cells:List D} : Un x y s O n k (some ⟨v,ty,[c],false,false,false⟩) (some ⟨U,ty',cells,false,true,false⟩)=if O=0∧cells.length=n*s∧¬x=y∧k=1000000+x∧x<1000000 then
  some ⟨.und,[(y,none),(k,some ⟨0,ty',cells,false,true,false⟩),(x,some ⟨v,ty,[.ph k s n],false,false,true⟩)]⟩ else none:=by
 simp[Un]
theorem NA {v ty y' v':Nat} {b k el:Nat} {z:List Value} {q mp:Bool} {O v0 y0:Nat} : ldP ⟨.map k el,1,b,z,q⟩ h O v0 y0 (some ⟨v,ty,[.alm y' v'],true,false,mp⟩)=some ⟨.mp y' v',[]⟩:=by
 simp[ldP,Ds.n9]
def abu (τ:Ty) (x y y' v':Nat) (m:Bool):Option Row->Option bE
 | some r=>if τ.size=1∧y'=y∧r.cells.length=1∧r.fz=false∧r.lst=false∧m then some ⟨.und,[(x,some ⟨r.v,r.ty,[.alm y' v'],true,false,false⟩)]⟩ else none
 | none=>none
theorem Zx {τ:Ty} {x v y y' v':Nat} : dw τ h (.pm x v y) (.mp y' v')=abu τ x y y' v' (gJ h y v').isSome (live h x v):=by
 simp only[dw,abu];cases live h x v<;>rfl
theorem I4 {x y v' v ty:Nat} {c:D} {b:Nat} {ds:Ds} {z:List Value} {q mp:Bool} : abu ⟨ds,1,b,z,q⟩ x y y v' true (some ⟨v,ty,[c],false,false,mp⟩)=some ⟨.und,[(x,some ⟨v,ty,[.alm y v'],true,false,false⟩)]⟩:=by
 simp[abu]
theorem acr {x v:Nat} : nm (.mp x v)=[x]:=ajU
theorem YJ {ks:List cn} {vs:List D} : nm (.mpc ks vs)=[]:=ajU
theorem acs {x v y:Nat} : nm (.pm x v y)=[x,y]:=ajU
def clM (x:Nat):Option (List cn×List D)->Option (D×List Nat)
 | some (ks,vs)=>some (.mpc ks vs,[x])
 | none=>none
theorem LJ {x:Nat} {ks:List cn} {vs:List D} : clM x (some (ks,vs))=some (.mpc ks vs,[x]):=ajU
theorem SY {x v:Nat} : bM h (.mp x v)=clM x (gJ h x v):=by
 simp only[bM,aW,clM];cases gJ h x v<;>rfl
theorem LA {ks:List cn} {vs:List D} : bM h (.mpc ks vs)=some (.mpc ks vs,[]):=ajU
theorem Xo {x v:Nat} : aW h (.mp x v)=clM x (gJ h x v):=by
 simp only[aW,clM];cases gJ h x v<;>rfl
theorem SR {ks:List cn} {vs:List D} : aW h (.mpc ks vs)=some (.mpc ks vs,[]):=ajU
theorem Xn {xs:List D} : aW h (.ip xs)=some (.ip xs,[]):=ajU
theorem SS {x v o:Nat} : aW h (.ptr x v o)=clP x o (live h x v):=by
 simp only[aW];cases live h x v with
 | none=>rfl
 | some r=>simp only[clP]
def clN (x y:Nat):Option (List cn×List D)->Option (D×List Nat)
 | some (ks,vs)=>some (.ip [.mpc ks vs],[x,y])
 | none=>none
theorem LM {x y:Nat} {ks:List cn} {vs:List D} : clN x y (some (ks,vs))=some (.ip [.mpc ks vs],[x,y]):=ajU
def clQ (h:Nat->Option Row) (x y:Nat):Option Row->Option (D×List Nat)
 | some r=>match r.cells with
  | [.alm y' v']=>if r.fz=true∧r.lst=false∧y'=y then clN x y (gJ h y v') else none
  | _=>none
 | none=>none
theorem LP {x y v' v ty:Nat} {mp:Bool} : clQ h x y (some ⟨v,ty,[.alm y v'],true,false,mp⟩)=clN x y (gJ h y v'):=by
 simp[clQ]
theorem Xp {x v y:Nat} : aW h (.pm x v y)=clQ h x y (live h x v):=by
 simp only[aW];cases live h x v with
 | none=>rfl
 | some r =>
  obtain⟨v',ty,cells,fz,lst,mp⟩:=r;rcases cells with _|⟨c,_|⟨O,cs⟩⟩<;>rfl
theorem TY {x v o:Nat} : jf (.ptr x v o)=true:=ajU
theorem YR {x v y:Nat} : jf (.pm x v y)=true:=ajU
theorem YP {xs:List D} : jf (.ip xs)=true:=ajU
theorem YQ {x v:Nat} : jf (.mp x v)=true:=ajU
theorem TX {ks:List cn} {vs:List D} : jf (.mpc ks vs)=true:=ajU
theorem Yc {v ty:Nat} {cells:List D} {fz mp:Bool} : qV ⟨v,ty,cells,fz,true,mp⟩=⟨v,ty,cells,true,true,mp⟩:=by cases fz<;>rfl
theorem Tr {d:Nat} : bm.hint d=none:=ajU
theorem M7 {f:Nat} {l:Bool} {G:Option (D×Row)->List D->Option (RK×Option Row)} {d:Nat} : (Am.ext Γ f l G).hint d=Γ.hint d:=ajU
theorem HH {d i:Nat} : (Am.keep d Γ).hint i=Γ.hint i:=ajU
theorem HG {d y i:Nat} : (Am.vV d y Γ).hint i=if i=d then some y else Γ.hint i:=ajU
theorem Nb {d y i:Nat} : (Am.vV d y Γ).own i=Γ.own i:=ajU
theorem DG {d y i:Nat} : (Am.vV d y Γ).lends i=Γ.lends i:=ajU
theorem Nc {d y i:Nat} {lent:Option (D×Row)} {agK:List D} : (Am.vV d y Γ).sem i lent agK=Γ.sem i lent agK:=ajU
theorem Hw {ks:List cn} {vs:List D} : gz (.mpc ks vs)=false:=ajU
theorem GF {ks:List cn} {vs:List D} : canon (.mpc ks vs)=.mpc ks vs:=ajU
theorem Cv {ks:List cn} {vs:List D} : fM (.mpc ks vs)=.mpc ks vs:=ajU
end
structure sU {α:Type} (E:jb α) (C:List D) (o:Nat) (l:List α):Prop where
 fit:o+l.length*E.size<=C.length
 eq:(C.drop o).take (l.length*E.size)=ab E l
theorem sU.self {α:Type} (E:jb α) (l:List α):sU E (ab E l) 0 l:=⟨by rw[bN];omega,by rw[aik,<- bN,aiZ]⟩
theorem sU.split {α:Type} {E:jb α} {C:List D} {o:Nat} {l:List α} (F:sU E C o l):C.drop o=ab E l++C.drop (o+l.length*E.size):=by
 rw[<- aiK]
 conv=>lhs;rw[<- aiL (l.length*E.size) (C.drop o)]
 rw[F.eq]
theorem sU.idx {α:Type} {E:jb α} {C:List D} {o:Nat} {l:List α} {i:Int} {x:α} (F:sU E C o l) (h:P.idx l i=some x):o+i.toNat*E.size+E.size<=C.length∧∃rest,C.drop (o+i.toNat*E.size)=E.cells x++rest:=by
 have h1:=sc E h;have h2:=F.fit;refine⟨by omega,ab E (l.drop (i.toNat+1))++C.drop (o+l.length*E.size),?_⟩;rw[<- aiK,F.split,aie (by rw[bN];omega),BI E h,aid]
theorem sU.tail {α:Type} {E:jb α} {C:List D} {o:Nat} {l m:List α} {a:Int} (F:sU E C o l) (h:BA l a (l.length:Int)=some m):sU E C (o+a.toNat*E.size) m:=by
 obtain⟨h1,h2,h3,h4,h5⟩:=Zn E h;have h6:=F.fit;have h7:a.toNat*E.size+m.length*E.size=l.length*E.size:=by rw[<- ah5];congr 1;omega
 refine⟨by omega,?_⟩;rw[<- aiK,F.split,aie (by rw[bN];omega),aii (by rw[ag9,bN];omega),h5]
theorem afv:type_of% (ai @N1<|ai @N3<|ai @NG<|ai @NU<|ai @TE<|ai @TF<|ai @HJ<|ai @HK<|ai @NJ<|ai @HU<|ai @acn<|ai @acm<|ai @N2<|ai @HV<|ai @N8<|ai @N7<|ai @N6<|ai @PL<|ai @Jf<|ai @PJ<|ai @ab6<|ai @NA<|ai @Zx<|ai @I4<|ai @acr<|ai @YJ<|@acs):=⟨@N1,@N3,@NG,@NU,@TE,@TF,@HJ,@HK,@NJ,@HU,@acn,@acm,@N2,@HV,@N8,@N7,@N6,@PL,@Jf,@PJ,@ab6,@NA,@Zx,@I4,@acr,@YJ,@acs⟩
theorem afw:type_of% (ai @LJ<|ai @SY<|ai @LA<|ai @Xo<|ai @SR<|ai @Xn<|ai @SS<|ai @LM<|ai @LP<|ai @Xp<|ai @TY<|ai @YR<|ai @YP<|ai @YQ<|ai @TX<|ai @Yd<|ai @Yb<|ai @Yc<|ai @Tr<|ai @M7<|ai @HH<|ai @HG<|ai @Nb<|ai @DG<|ai @Nc<|ai @Iq<|ai @Ip<|ai @Hw<|ai @GF<|ai @Cv<|ai @Mh<|@Sr):=⟨@LJ,@SY,@LA,@Xo,@SR,@Xn,@SS,@LM,@LP,@Xp,@TY,@YR,@YP,@YQ,@TX,@Yd,@Yb,@Yc,@Tr,@M7,@HH,@HG,@Nb,@DG,@Nc,@Iq,@Ip,@Hw,@GF,@Cv,@Mh,@Sr⟩
theorem afx:type_of% (ai @Ah<|ai @Al<|ai @CH<|ai @CL<|ai @vO<|ai @vS<|ai @CG<|ai @CJ<|ai @v8<|ai @yB<|ai @sT<|ai @yA<|ai @W5<|ai @SB<|@W6):=⟨@Ah,@Al,@CH,@CL,@vO,@vS,@CG,@CJ,@v8,@yB,@sT,@yA,@W5,@SB,@W6⟩
theorem bX.ofB {P:Program} {T:Nat->Option Ty} {Γ:Env} (U:ic P T) (X:bG P Γ) (hm:P.follows .mixedOrders=true) {α β:Type} {A:jh α} {F:α->Option β} {R:β->RK} {mode:Mode} {f:FuncId} {fn:Func} (Y:P.funcs[f]? = some fn)
  (O:((match fn.body with|some c=>codeOk c|none=>true)&&(!(fn.name == "runtime.NumGoroutine") && !fn.body.isNone))=true) (Z:∀a,Nat.ble (A.ds a).length fn.ntmps=true) (h:∀a r,F a=some r->jY mode T Γ FU fn none (A.ds a)=some (R r,none)):bX P f (dV A F R):=by
 rw[ahq,ahq]at O;exact bX.of U X hm Y O.1 ⟨by simpa using O.2.1,by simpa using O.2.2⟩ (fun a=>aiG (Z a)) h
theorem W0 {α β:Type} (a:Arg α) (b:jh β) (x:α×β):(ie a b).ds x=a.d x.1::b.ds x.2:=ajU
theorem WZ {α:Type} (a:Arg α) (x:α):(dT a).ds x=[a.d x]:=ajU
theorem WY (x:Unit):as0.ds x=[]:=ajU
theorem gQ:type_of% (ai @W0<|ai @WZ<|ai @WY<|ai @adX<|ai @Sq<|ai @WK<|ai @abR<|ai @WI<|ai @abP<|ai @WJ<|ai @abQ<|@Sr):=⟨@W0,@WZ,@WY,@adX,@Sq,@WK,@abR,@WI,@abP,@WJ,@abQ,@Sr⟩
theorem afr:type_of% (ai @Nz<|ai @Yq<|ai @NB<|ai @Zy<|ai @E4<|ai @Hz<|@X6):=⟨@Nz,@Yq,@NB,@Zy,@E4,@Hz,@X6⟩
theorem vi:type_of% (ai @afv<|ai @afw<|ai @afr<|@afx):=⟨@afv,@afw,@afr,@afx⟩
def adV (P:Program) (f:FuncId):Prop:=∀(blk off cap:Nat) (zs:List Int) (w:World),Go.Sort.Holds (Value.int .i64) w blk off zs.toArray->blk<w.heap.size->zs.length<4611686018427387904 ->
 Calls P f #[.slice (some ⟨blk,off,none⟩) zs.length cap] w fun e w'=>e=.returned (.tuple #[])∧∃n os,w'=Go.Sort.grow (Go.Sort.putRow (Value.int .i64) (Go.Sort.ahead w n) blk off (nN zs).toArray) os
theorem tG (k:IntKind):∀(l:List Int) (j:Nat),(ab (eI k) l)[j]? = l[j]?.map fun n =>.int k n
 | [],j=>by simp[ab]
 | x::l,0=>by simp[ab,eI]
 | x::l,j+1=>by
  have:=tG k l j;simp only[ab,xE,List.cons_append,List.nil_append,List.getElem?_cons_succ];exact this
theorem n5 (k:IntKind) (l:List Int):(ab (eI k) l).length=l.length:=by rw[bN];show l.length*1=_;omega
theorem ON {w:World} {b off:Nat} {d:List Int} {cs:Array Value} {ty:Nat} {fr:Nat×Nat} (h:w.heap[b]? = some (.cells cs ty fr)):(Go.Sort.putRow (Value.int .i64) w b off d.toArray).heap[b]? = some (.cells (Go.Sort.putCells (Value.int .i64) off d.toArray cs) ty fr):=by
 simp[Go.Sort.putRow,Go.Sort.mapBlock,agZ,h,Go.Sort.onCells]
theorem EF {w:World} {b c off:Nat} {d:List Int} (h:c≠b):(Go.Sort.putRow (Value.int .i64) w b off d.toArray).heap[c]? = w.heap[c]?:=by
 simp[Go.Sort.putRow,Go.Sort.mapBlock,agZ,Ne.symm h]
theorem Kj {off:Nat} {d:List Int} {cs:Array Value} {k:Nat} (hk:k<cs.size):(Go.Sort.putCells (Value.int .i64) off d.toArray cs).getD k undef=if off<=k∧k<off+d.length then .int .i64 (d.getD (k-off) 0) else cs.getD k undef:=by
 have h1:(Go.Sort.putCells (Value.int .i64) off d.toArray cs)[k]? = some (if off<=k∧k<off+d.length then .int .i64 (d.getD (k-off) 0) else cs[k]):=by
  simp only[Go.Sort.putCells,Array.getElem?_mapIdx,ah2 hk,Option.map_some,aib];congr 1;split
  ·rename_i O;congr 1;have:k-off<d.length:=by omega
   simp[List.getD,this]
  ·rfl
 rw[agU,h1];simp[agU,hk]
end Go.Proofs.YtoioidmblipblaaGreat.Am
namespace Go.Proofs.YtoioidmblipblaaGreat.P
open Go.RowKit
theorem wrap64 {x:Int} (h1 : -9223372036854775808<=x) (h2:x<9223372036854775808):IntKind.i64.wrap x=x:=by
 have key:IntKind.i64.wrap x=if x % 18446744073709551616>=9223372036854775808 then x % 18446744073709551616-18446744073709551616 else x % 18446744073709551616:=by
  unfold IntKind.wrap
  by_cases h:x % 18446744073709551616>=9223372036854775808
  ·rw[if_pos h];exact if_pos (by simpa [IntKind.bits,IntKind.signed] using h)
  ·rw[if_neg h];exact if_neg (by simpa [IntKind.bits,IntKind.signed] using h)
 rw[key];split<;>omega
theorem Nf {α:Type} {l:List α} {i:Int} {x:α} (O:0<=i) (h:l[i.toNat]? = some x):P.idx l i=some x:=by
 have:=(ahi.1 h).1;unfold P.idx;rw[if_pos ⟨O,by omega⟩,h]
theorem cj {α:Type} {l:List α} {i:Nat} (h:i<l.length):P.idx l (i:Int)=some (l[i]):=Nf (by omega) (by simp[h])
theorem Kv {α:Type} {l:List α} {i:Nat} (h:i<=l.length):BA l 0 (i:Int)=some (l.take i):=by
 unfold BA;rw[if_pos ⟨by omega,by omega,by omega⟩];simp
end Go.Proofs.YtoioidmblipblaaGreat.P
namespace Go.Proofs.YtoioidmblipblaaGreat.Am
open Go.RowKit Go.Deep Go.ChangeShapes Go.WideShapes
def BD (T:Nat->Option Ty):Nat->Nat->List D->Prop
 | 0,_,_=>False
 | n+1,t,xs =>
  match T t with
  | none=>False
  | some τ=>xs.length=τ.size ∧
   match τ.ds with
   | .int k=>∃i,xs=[.int k i]∧(Lit.int k i).wf=true
   | .bool=>∃b,xs=[.bool b]
   | .str=>∃s:ByteArray,xs=[.str s]∧s.size<=140737488351232
   | .slice e=>∃len O φ,xs=[.sl false false len O]∧len*φ.bytes<=140737488351232∧T e=some φ∧O.length=len*φ.size∧∀i,i<len->BD T n e ((O.drop (i*φ.size)).take φ.size)
   | .struct fs=>∀f∈fs,∃φ,T f.1=some φ∧BD T n f.1 ((xs.drop f.2).take φ.size)
   | .arr m e=>∃φ,T e=some φ∧∀i,i<m->BD T n e ((xs.drop (i*φ.size)).take φ.size)
   | .map _ _=>False
   | .other=>False
def AJ (T:Nat->Option Ty):Nat->List (Nat×Nat)->Nat->Bool
 | o,[],z=>o==z
 | o,(O,off)::fs,z=>off==o&&match T O with|some φ=>AJ T (o+φ.size) fs z|none=>false
def VP (T:Nat->Option Ty):Nat->Nat->Bool
 | 0,_=>false
 | n+1,t =>
  match T t with
  | none=>false
  | some τ =>
   match τ.ds with
   | .int _ | .bool | .str=>τ.size==1
   | .slice e=>τ.size==1&&VP T n e&&(match T e with|some φ=>decide (0<φ.size)|none=>false)
   | .struct fs=>AJ T 0 fs τ.size&&fs.all fun f=>VP T n f.1
   | .arr m e=>VP T n e&&(match T e with|some φ=>τ.size==m*φ.size|none=>false)
   | .map _ _=>false
   | .other=>false
def lU (w:World) (M:Nat->Prop) (xs:List D) (cs:List Value):Prop:=xs.length=cs.length∧∀(j:Nat) (x:D),xs[j]? = some x->a8 x=true∧∃v,cs[j]? = some v∧RP w M x v
theorem lU.append {w:World} {M:Nat->Prop} {xs X:List D} {cs ds:List Value} (h:lU w M xs cs) (k:lU w M X ds):lU w M (xs++X) (cs++ds):=by
 refine⟨by simp[h.1,k.1],fun j x U =>?_⟩;rw[ahw]at U ⊢;rw[<- h.1];split at U
 ·rename_i O;rw[if_pos O];exact h.2 j x U
 ·rename_i O;rw[if_neg O];exact k.2 _ x U
theorem Di {α:Type} (s:Nat):∀(ls:List (List α)),(∀l∈ls,l.length=s)->∀(i:Nat) (l:List α),ls[i]? = some l->(ls.flatten.drop (i*s)).take s=l
 | [],_,i,l,h=>by simp at h
 | a::ls,hl,0,l,h=>by
  simp only[List.getElem?_cons_zero,agY]at h;subst h;have:a.length=s:=hl a (by simp);simp[this]
 | a::ls,hl,i+1,l,h=>by
  have O:a.length=s:=hl a (by simp);rw[List.flatten_cons,aiH,aiI (by rw[O,ahO];omega),aiF,O,ahO,aiJ];exact Di s ls (fun x U=>hl x (ais _ U)) i l h
theorem mW {α:Type} (s:Nat):∀(ls:List (List α)),(∀l∈ls,l.length=s)->ls.flatten.length=ls.length*s
 | [],_=>by simp
 | a::ls,hl=>by
  rw[List.flatten_cons,ah1,mW s ls (fun x O=>hl x (ais _ O)),hl a (by simp),ahf,ahO];omega
section
variable {H:Type} {enc:TypeId×Value->H} {P:Program} {w:World} {base:Nat} {spare:Nat->Bool} {held:Bool} {T:Nat->Option Ty}
theorem eN.bytesOf {P:Program} {t:Nat} {τ:Ty} (h:eN P t τ):P.bytesOf t=τ.bytes:=by
 have:=h.info;unfold Program.bytesOf;cases O:P.info? t with
 | none=>rw[O]at this;simp at this
 | some i=>rw[O]at this;simp only[Option.map_some,agY,Prod.mk.injEq]at this;simp[this.2.1]
def Reach (P:Program) (t:Nat) (d:DataW H):Prop:=∀k∈d.weights P t,k<=140737488351232
theorem zI {e:TypeId} : ∀(l:List (DataW H)) (j:Nat) (d:DataW H),l[j]? = some d->∀k∈d.weights P e,k∈DataW.weightsAll P e l
 | x::l,0,d,h,k,hk=>by
  simp only[List.getElem?_cons_zero,agY]at h;subst h;simp only[DataW.weightsAll,ah7];exact .inl hk
 | x::l,j+1,d,h,k,hk=>by
  simp only[DataW.weightsAll,ah7];exact .inr (zI l j d (by simpa using h) k hk)
 | [],j,d,h,k,hk=>by simp at h
theorem eN.cells {P:Program} {t:Nat} {τ:Ty} (h:eN P t τ):P.cellsOf t=τ.size:=by
 have:=h.info;unfold Program.cellsOf;cases O:P.info? t with
 | none=>rw[O]at this;simp at this
 | some i=>rw[O]at this;simp only[Option.map_some,agY,Prod.mk.injEq]at this;simp[this.1]
theorem Tx {T:Nat->Option Ty} {w:World} {M:Nat->Prop} {cs:List Value} : ∀(fs:List (Nat×Nat)) (o z:Nat) (f:Nat×Nat->List D),AJ T o fs z=true->cs.length=z ->
  (∀p∈fs,∃φ,T p.1=some φ∧lU w M (f p) ((cs.drop p.2).take φ.size))->o<=z->∃xs,lU w M xs (cs.drop o)∧∀p∈fs,∃φ,T p.1=some φ∧o<=p.2∧(xs.drop (p.2-o)).take φ.size=f p
 | [],o,z,f,O,U,_,_=>by
  simp only[AJ,beq_iff_eq]at O;refine⟨[],⟨by rw[ag9,U,O];simp,fun j x hj=>by simp at hj⟩,fun p hp=>by simp at hp⟩
 | (X,off)::fs,o,z,f,O,U,hp,aa=>by
  simp only[AJ,ahq,beq_iff_eq]at O;obtain⟨rfl,O⟩:=O;obtain⟨φ,hφ,hR⟩:=hp (X,off) (by simp);simp only[hφ]at O;have hz:off+φ.size<=z:=by
   have:∀(fs:List (Nat×Nat)) (o:Nat),AJ T o fs z=true->o<=z:=by
    intro fs
    induction fs with
    | nil=>intro o h;simp only[AJ,beq_iff_eq]at h;omega
    | cons p fs ih =>
     intro o h;obtain⟨a,b⟩:=p;simp only[AJ,ahq]at h;have h2:=h.2;split at h2
     ·have:=ih _ h2;omega
     ·cases h2
   exact this fs _ O
  obtain⟨xs,hx,Y⟩:=Tx fs (off+φ.size) z f O U (fun p h=>hp p (ais _ h)) hz;have Z:(f (X,off)).length=φ.size:=by
   rw[hR.1,ag8,ag9,U];omega
  refine⟨f (X,off)++xs,?_,fun p h =>?_⟩
  ·have:=hR.append hx;rw[<- aiK,aiL]at this;exact this
  ·rcases agW.1 h with rfl|h
   ·exact⟨φ,hφ,agP _,by simp only[ah3,aik];rw[aii (by omega),aij (by omega)]⟩
   ·obtain⟨ψ,h1,h2,h3⟩:=Y p h;refine⟨ψ,h1,by omega,?_⟩;rw[aiH,aiI (by omega),aiF,Z];have:p.2-off-φ.size=p.2-(off+φ.size):=by omega
    rw[this,h3]
theorem lU.one {w:World} {M:Nat->Prop} {x:D} {v:Value} (U:a8 x=true) (h:RP w M x v):lU w M [x] [v]:=by
 refine⟨rfl,fun j y O =>?_⟩
 match j,O with
 | 0,O=>simp only[List.getElem?_cons_zero,agY]at O;subst O;exact⟨U,v,rfl,h⟩
 | j+1,O=>simp at O
theorem lU.flat {w:World} {M:Nat->Prop} {cs:List Value} {s:Nat} : ∀(ls:List (List D)) (o:Nat),(∀(i:Nat) l,ls[i]? = some l->lU w M l ((cs.drop (o+i*s)).take s))->(∀l∈ls,l.length=s)->lU w M ls.flatten ((cs.drop o).take (ls.length*s))
 | [],o,_,_=>⟨by simp,fun j x O=>by simp at O⟩
 | a::ls,o,h,hl=>by
  have U:=h 0 a rfl;have h1:=lU.flat ls (o+s) (fun i l X=>by
   have:=h (i+1) l (by simpa using X);rw[ahO]at this;rw[show o+s+i*s=o+(i*s+s) by omega];exact this) (fun l Y=>hl l (ais _ Y))
  have:=U.append h1;rw[aiM,aho]at this;rw[List.flatten_cons,ahf,ahO,Nat.add_comm (ls.length*s) s,List.take_add,aiK];exact this
theorem acP (hT:ic P T) {M:Nat->Prop} (hM:∀b,base<=b->b<w.heap.size->¬M b):∀(n t fuel:Nat) (cs:List Value) (x:DataW H×List MemPlace),VP T n t=true->DataW.trod enc P w base spare held fuel t cs=some x->Reach P t x.1->∃xs,BD T n t xs∧lU w M xs cs:=by
 intro n
 induction n with
 | zero=>intro t fuel cs x h;cases h
 | succ n ih =>
  intro t fuel cs x O h hw;unfold VP at O;unfold BD;cases hτ:T t with
  | none=>rw[hτ]at O;cases O
  | some τ =>
   rw[hτ]at O;simp only at O ⊢;obtain⟨d,hd,hc⟩:=under hT hτ;cases aa:τ.ds with
   | int k =>
    rw[aa]at O hc;simp only[beq_iff_eq]at O;have Z:=xu hc;subst Z;obtain⟨i,rfl,_,hw⟩:=DataW.trod_int hd h;exact⟨[.int k i],⟨by rw[O];rfl,i,rfl,hw⟩,.one rfl (.int k i)⟩
   | bool =>
    rw[aa]at O hc;simp only[beq_iff_eq]at O;have Z:=uZ hc;subst Z;obtain⟨b,rfl,_⟩:=DataW.trod_bool hd h;exact⟨[.bool b],⟨by rw[O];rfl,b,rfl⟩,.one rfl (.bool b)⟩
   | str =>
    rw[aa]at O hc;simp only[beq_iff_eq]at O;have Z:=qP hc;subst Z;obtain⟨s,rfl,rfl,hs⟩:=DataW.trod_string hd h;have aE:s.size<=140737488351232:=by
     have:=hw s.data.toList.length (by simp[DataW.weights]);simpa using this
    exact⟨[.str s],⟨by rw[O];rfl,s,rfl,aE⟩,.one rfl (.str s)⟩
   | map _ _=>rw[aa]at O;cases O
   | other=>rw[aa]at O;cases O
   | struct fs =>
    rw[aa]at O hc;simp only[ahq,ag0]at O;obtain⟨F,rfl,hF⟩:=gH hc;obtain⟨ys,m,_,rfl,hlen,aF,hf⟩:=DataW.trod_struct hd h;have ai:∀(i:Nat) (f:Field) y,F[i]? = some f->ys[i]? = some y->Reach P f.type y.1:=by
     intro i f y aG ar k hk;apply hw k;simp only[DataW.weights,hd];exact DataW.weights_mem_each (j:=i) (t:=f.type) (d:=y.1) (by rw[agM,ahH,aG];rfl) (by simp[ar]) k hk
    rw[(hT t τ hτ).cells]at hlen;have Y:∀p:Nat×Nat,∃zs,p∈fs->∃φ,T p.1=some φ∧BD T n p.1 zs∧lU w M zs ((cs.drop p.2).take φ.size):=by
     intro p
     by_cases hp:p∈fs
     ·have ab:=O.2 p hp;rw[<- hF]at hp;obtain⟨f,aH,rfl⟩:=agO.1 hp;obtain⟨i,U⟩:=List.mem_iff_getElem?.1 aH;have h1:=hf i f (by simpa using U);simp only at ab ⊢;cases hφ:T f.type with
      | none=>cases n with
       | zero=>cases ab
       | succ n=>simp only[VP,hφ]at ab;cases ab
      | some φ =>
       rw[(hT _ φ hφ).cells]at h1;have ag:i<ys.length:=by
        have:=(ahi.1 U).1;simp only[Array.length_toList]at this;omega
       rw[ag2 ag]at h1;obtain⟨zs,aj,ah⟩:=ih _ _ _ _ ab h1 (ai i f _ (by simpa using U) (ag2 ag));exact⟨zs,fun _=>⟨φ,rfl,aj,ah⟩⟩
     ·exact⟨[],fun h=>(hp h).elim⟩
    obtain⟨f,X⟩:=Classical.axiomOfChoice Y;obtain⟨xs,hx,an⟩:=Tx fs 0 τ.size f O.1 hlen (fun p hp=>by obtain⟨φ,a,_,b⟩:=X p hp;exact⟨φ,a,b⟩) (agQ _);rw[aik]at hx;refine⟨xs,⟨by rw[hx.1,hlen],fun p hp =>?_⟩,hx⟩;obtain⟨φ,h1,_,h3⟩:=an p hp;obtain⟨ψ,g1,g2,_⟩:=X p hp;rw[h1]at g1;cases g1;rw[ahB]at h3;exact⟨φ,h1,by rw[h3];exact g2⟩
   | arr m e =>
    rw[aa]at O hc;simp only[ahq]at O;have Z:=xt hc;subst Z;obtain⟨ys,k,_,rfl,hlen,aF,hf⟩:=DataW.trod_array hd h;have ai:∀(i:Nat) y,ys[i]? = some y->Reach P e y.1:=by
     intro i y ar k hk;apply hw k;simp only[DataW.weights,hd];exact zI _ i y.1 (by simp[ar]) k hk
    rw[(hT t τ hτ).cells]at hlen;obtain⟨av,ad⟩:=O;split at ad
    ·rename_i φ hφ;simp only[beq_iff_eq]at ad;have Y:∀i:Nat,∃zs,i<m->BD T n e zs∧lU w M zs ((cs.drop (i*φ.size)).take φ.size):=by
      intro i
      by_cases U:i<m
      ·have h1:=hf i U;rw[(hT _ φ hφ).cells,ag2 (by omega)]at h1;obtain⟨zs,aj,ah⟩:=ih _ _ _ _ av h1 (ai i _ (ag2 (by omega)));exact⟨zs,fun _=>⟨aj,ah⟩⟩
      ·exact⟨[],fun h=>(U h).elim⟩
     obtain⟨f,X⟩:=Classical.axiomOfChoice Y;have ak:∀l∈(List.range m).map f,l.length=φ.size:=by
      intro l hl;obtain⟨i,U,rfl⟩:=agO.1 hl;have U:=aiB.1 U;rw[(X i U).2.1,ag8,ag9,hlen,ad];have:(i+1)*φ.size<=m*φ.size:=ahC _ U;rw[ahO]at this;omega
     have aw:∀(i:Nat) l,((List.range m).map f)[i]? = some l->i<m∧l=f i:=by
      intro i l hl;rw[agM,agN]at hl;obtain⟨j,hj,rfl⟩:=hl;obtain⟨ax,ay⟩:=ahi.1 hj;simp only[ahk]at ax;simp only[ahl]at ay;exact⟨ax,by rw[ay]⟩
     have al:lU w M ((List.range m).map f).flatten ((cs.drop 0).take (((List.range m).map f).length*φ.size)):=by
      refine lU.flat _ 0 (fun i l hl =>?_) ak;obtain⟨U,rfl⟩:=aw i l hl;rw[ahE];exact (X i U).2
     rw[ahj,ahk,aik,aij (by omega)]at al;refine⟨_,⟨by rw[al.1,hlen],φ,hφ,fun i U =>?_⟩,al⟩;have ag:((List.range m).map f)[i]? = some (f i):=by simp[U]
     rw[Di φ.size _ ak i _ ag];exact (X i U).1
    ·cases ad
   | slice e =>
    rw[aa]at O hc;simp only[ahq,beq_iff_eq]at O;have Z:=fN hc;subst Z;obtain⟨⟨Y,az⟩,ae⟩:=O;split at ae
    ·rename_i φ hφ;simp only[decide_eq_true_eq]at ae;rcases open_slice hd h with⟨rfl,_⟩|⟨a,len,cap,m,k,D',Pl,rfl,hb,hl,hm,aI,rfl,U⟩
     ·refine⟨[.sl false false 0 []],⟨by rw[Y];rfl,0,[],φ,rfl,by omega,hφ,by simp,fun i U=>by omega⟩,.one rfl ?_⟩;exact .sl none 0 false false 0 [] (fun _=>undef) (agP _) (agQ _) (fun h=>by cases h) (fun _=>⟨rfl,rfl⟩) (fun h=>by cases h) (fun h=>(h rfl).elim) (fun j x hj=>by simp at hj) (fun x hx=>by simp at hx)
     ·have aQ:len<=m:=by rw[aI];split<;>omega
      have aJ:len*φ.bytes<=140737488351232:=by
       have h1:=hw ((((List.range len).map D').length+((List.range (m-len)).map fun j=>D' (len+j)).length)*P.bytesOf e) (by simp[DataW.weights,hd]);rw[(hT _ φ hφ).bytesOf]at h1;simp only[ahj,ahk]at h1;exact agR (ahC _ (by omega)) h1
      have ai:∀i,i<len->Reach P e (D' i):=by
       intro i ag k hk;apply hw k;simp only[DataW.weights,hd,agW,ah7];exact .inr (.inl (zI _ i (D' i) (by simp[ag]) k hk))
      have au:∀i:Nat,∃zs,i<len->BD T n e zs∧zs.length=φ.size∧∀(j:Nat) z,zs[j]? = some z->a8 z=true∧∃v,w.cell? (a.add (i*φ.size+j))=some v∧RP w M z v:=by
       intro i
       by_cases aA:i<len
       ·obtain⟨cs',aB,aK⟩:=U i (by omega);rw[(hT _ φ hφ).cells]at aB;obtain⟨_,g1,g2⟩:=World.cells?_some aB;obtain⟨zs,aj,ah⟩:=ih _ _ _ _ az aK (ai i aA);refine⟨zs,fun _=>⟨aj,by rw[ah.1,g1],fun j z hj =>?_⟩⟩;obtain⟨p1,v,p2,p3⟩:=ah.2 j z hj;refine⟨p1,v,?_,p3⟩;have aL:j<φ.size:=by rw[<- g1];exact (ahi.1 p2).1
        rw[<- Go.Deep.add_add,g2 j aL,p2]
       ·exact⟨[],fun h=>(aA h).elim⟩
      obtain⟨f,X⟩:=Classical.axiomOfChoice au;have ak:∀l∈(List.range len).map f,l.length=φ.size:=by
       intro l hl;obtain⟨i,U,rfl⟩:=agO.1 hl;exact (X i (aiB.1 U)).2.1
      have aC:((List.range len).map f).flatten.length=len*φ.size:=by rw[mW φ.size _ ak];simp
      have aq:∀i,i<len->(((List.range len).map f).flatten.drop (i*φ.size)).take φ.size=f i:=fun i U=>Di φ.size _ ak i (f i) (by simp[U]);have ao:∀(p:Nat) z,((List.range len).map f).flatten[p]? = some z->a8 z=true∧∃v,w.cell? (a.add p)=some v∧RP w M z v:=by
       intro p z hp;have aM:=(ahi.1 hp).1;rw[aC]at aM;have hq:p / φ.size<len:=aiN (by rwa [ahP]);have hr:p % φ.size<φ.size:=ahL _ ae;have he:p / φ.size*φ.size+p % φ.size=p:=Nat.div_add_mod' p φ.size;have hz:(f (p / φ.size))[p % φ.size]? = some z:=by
        rw[<- aq _ hq,ag5,if_pos hr,ag6,he];exact hp
       have:=(X _ hq).2.2 _ z hz;rw[he]at this;exact this
      refine⟨[.sl false false len ((List.range len).map f).flatten],⟨by rw[Y];rfl,len,_,φ,rfl,aJ,hφ,aC,fun i U=>by rw[aq i U];exact (X i U).1⟩,.one rfl ?_⟩;refine .sl (some a) cap false false len _ (fun j=>(w.cell? (a.add j)).getD undef) hl hm (fun h=>by cases h) (fun h=>by cases h) (fun h=>by cases h) (fun aN =>?_) (fun j z hj =>?_) (fun z hz =>?_)
      ·have h0:0<((List.range len).map f).flatten.length:=aiO.2 aN;obtain⟨_,v,hv,_⟩:=ao 0 _ (ag2 h0);obtain⟨b,o,sp⟩:=a;have aO:sp=none:=by
        unfold World.cell? at hv;split at hv
        ·split at hv
         ·cases hv
         ·rename_i h;simpa [Addr.add] using h
        ·cases hv
       subst aO;have aD:b<w.heap.size:=by
        unfold World.cell? at hv;split at hv
        ·rename_i hh;exact (agT.1 hh).1
        ·cases hv
       refine⟨b,o,rfl,aD,hM b hb aD,fun j hj =>?_⟩;obtain⟨_,v,hv,_⟩:=ao j _ (ag2 hj);have ha:Addr.add ⟨b,o,none⟩ j=⟨b,o+j,none⟩:=by
        unfold Addr.add;split
        ·rename_i h0;rw[h0];rfl
        ·rfl
       have aP:w.cell? ⟨b,o+j,none⟩=some v:=by rw[<- ha];exact hv
       rw[aP];simp only[hv,Option.getD_some]
      ·obtain⟨_,v,hv,hr⟩:=ao j z hj;rw[hv];exact hr
      ·obtain⟨j,hj⟩:=List.mem_iff_getElem?.1 hz;exact (ao j z hj).1
    ·cases ae
def s3 (T:Nat->Option Ty) (n t:Nat) (d:D):Prop :=
 match T t with
 | some τ=>if τ.ds.n9 then ∃xs,d=.agg xs∧BD T n t xs else BD T n t [d]
 | none=>False
theorem lU.agg {w:World} {M:Nat->Prop} {xs:List D} {cs:Array Value} (h:lU w M xs cs.toList):RP w M (.agg xs) (.agg cs):=by
 have:=RP.agg (w:=w) (M:=M) xs cs.toList h.1.symm (fun j x O=>by
  obtain⟨_,v,h1,h2⟩:=h.2 j x O;simp only[List.getD,h1,Option.getD_some];exact h2) (fun x U=>by
  obtain⟨j,O⟩:=List.mem_iff_getElem?.1 U;exact (h.2 j x O).1)
 simpa using this
theorem lU.single {w:World} {M:Nat->Prop} {xs:List D} {v:Value} (h:lU w M xs [v]):∃x,xs=[x]∧RP w M x v:=by
 match xs,h with
 | [],h=>have:=h.1;simp at this
 | [x],h=>obtain⟨_,u,h1,h2⟩:=h.2 0 x rfl;simp only[List.getElem?_cons_zero,agY]at h1;subst h1;exact⟨x,rfl,h2⟩
 | x::y::xs,h=>have:=h.1;simp at this
theorem aaH (hT:ic P T) {M:Nat->Prop} (hM:∀b,base<=b->b<w.heap.size->¬M b) {n t b0:Nat} {v:Value} {d:DataW H} {ps:List MemPlace} (U:VP T n t=true) (Z:Value.okWide P w .any b0 t v) (h:DataW.Trod enc P w base spare held t v d ps) (hw:Reach P t d) :
  ∃x,s3 T n t x∧RP w M x v:=by
 obtain⟨fuel,h⟩:=h;obtain⟨xs,h1,h2⟩:=acP hT hM n t fuel _ _ U h hw;unfold s3;cases n with
 | zero=>cases U
 | succ n =>
 cases hτ:T t with
 | none=>simp only[VP,hτ]at U;cases U
 | some τ =>
  simp only;obtain⟨d',hd,Y⟩:=under hT hτ;cases X:τ.ds with
  | int k =>
   rw[X]at Y;have O:=xu Y;subst O;obtain⟨i,rfl⟩:=okWide_int hd Z;obtain⟨x,rfl,hx⟩:=lU.single (v := .int k i) h2;exact⟨x,by simpa [Ds.n9] using h1,hx⟩
  | bool =>
   rw[X]at Y;have O:=uZ Y;subst O;obtain⟨i,rfl⟩:=okWide_bool hd Z;obtain⟨x,rfl,hx⟩:=lU.single (v := .bool i) h2;exact⟨x,by simpa [Ds.n9] using h1,hx⟩
  | str =>
   rw[X]at Y;have O:=qP Y;subst O;obtain⟨i,rfl⟩:=okWide_string hd Z;obtain⟨x,rfl,hx⟩:=lU.single (v := .string i) h2;exact⟨x,by simpa [Ds.n9] using h1,hx⟩
  | slice e =>
   rw[X]at Y;have O:=fN Y;subst O;obtain⟨a,len,cap,rfl⟩:=okWide_slice hd Z;obtain⟨x,rfl,hx⟩:=lU.single (v := .slice a len cap) h2;exact⟨x,by simpa [Ds.n9] using h1,hx⟩
  | struct fs =>
   rw[X]at Y;obtain⟨F,rfl,_⟩:=gH Y;obtain⟨cs,rfl,_⟩:=okWide_struct hd Z;exact⟨.agg xs,by simpa [Ds.n9] using h1,lU.agg h2⟩
  | arr m e =>
   rw[X]at Y;have O:=xt Y;subst O;have:∃cs,v=.agg cs:=by
    unfold Value.okWide at Z;rw[hd]at Z;obtain⟨cs,h,_⟩:=Z;exact⟨cs,h⟩
   obtain⟨cs,rfl⟩:=this;exact⟨.agg xs,by simpa [Ds.n9] using h1,lU.agg h2⟩
  | map _ _=>simp only[VP,hτ,X]at U;cases U
  | other=>simp only[VP,hτ,X]at U;cases U
theorem Gp (hT:ic P T) {M:Nat->Prop} (hM:∀b,base<=b->b<w.heap.size->¬M b) {n b0:Nat} : ∀(U:List TypeId) (vs:List Value) (ds:List (DataW H)) (Z:List MemPlace),DataW.TrodAll enc P w base spare held U vs ds Z ->
  (∀(j:Nat) t v,U[j]? = some t->vs[j]? = some v->Value.okWide P w .any b0 t v)->(∀t∈U,VP T n t=true)->(∀k∈DataW.weightsEach P U ds,k<=140737488351232) ->
  ∃X:List D,X.length=vs.length∧(∀(j:Nat) x,X[j]? = some x->∃v,vs[j]? = some v∧RP w M x v)∧X.length=U.length∧∀(j:Nat) t,U[j]? = some t->∃x,X[j]? = some x∧s3 T n t x
 | [],[],[],Z,_,_,_,_=>⟨[],rfl,fun j x O=>by simp at O,rfl,fun j t O=>by simp at O⟩
 | t::U,v::vs,d::ds,Z,h,hv,hok,hw=>by
  obtain⟨p,q,h1,h2,_⟩:=h;obtain⟨x,aa,ab⟩:=aaH hT hM (hok t (by simp)) (hv 0 t v rfl rfl) h1 (fun k hk=>hw k (by simp only[DataW.weightsEach,ah7];exact .inl hk));obtain⟨X,g1,g2,g3,g4⟩:=Gp hT hM U vs ds q h2 (fun j Y v' a b=>hv (j+1) Y v' (by simpa using a) (by simpa using b)) (fun Y ht=>hok Y (ais _ ht)) (fun k hk=>hw k (by simp only[DataW.weightsEach,ah7];exact .inr hk));refine⟨x::X,by simp[g1],fun j y O =>?_,by simp[g3],fun j Y O =>?_⟩
  ·cases j with
   | zero=>simp only[List.getElem?_cons_zero,agY]at O;subst O;exact⟨v,rfl,ab⟩
   | succ j=>simpa using g2 j y (by simpa using O)
  ·cases j with
   | zero=>simp only[List.getElem?_cons_zero,agY]at O;subst O;exact⟨x,rfl,aa⟩
   | succ j=>simpa using g4 j Y (by simpa using O)
 | [],[],_::_,_,h,_,_,_=>h.elim
 | [],_::_,_,_,h,_,_,_=>h.elim
 | _::_,[],_,_,h,_,_,_=>h.elim
 | _::_,_::_,[],_,h,_,_,_=>h.elim
end
end Go.Proofs.YtoioidmblipblaaGreat.Am
namespace Go.Proofs.YtoioidmblipblaaGreat.Am
open Go.RowKit Go.Deep Go.ChangeShapes Go.WideShapes Go.ChangeAt
section
variable {H:Type} {enc:TypeId×Value->H} {P:Program}
theorem FV {f:Func} {s:ChangeSpec} {apart fresh handsOn again:Bool} {W W':World} {args:Array Value} {v:Value} {ds gs:List (DataW H)} {before pa pv:List MemPlace}
  (hW:DataW.Whole enc P f.params.toList s.vars apart W args.toList ds gs before)
  (Z:∀(b:Nat) (sp:Nat->Bool) (hd:Bool),DataW.TrodAll enc P W' b sp hd f.resultTypes.toList (v.resultList f.resultTypes.size) (s.fn H (ds++gs)).results [])
  (O:∀sp:Nat->Bool,(∀p∈before,sp p.block=true)->DataW.TrodAll enc P W' 0 sp true f.params.toList args.toList (s.fn H (ds++gs)).args pa)
  (U:∀sp:Nat->Bool,(∀p∈before,sp p.block=true)->DataW.TrodVars enc P W' sp s.vars (s.fn H (ds++gs)).vars pv)
  (Y:before=pa++pv) (hb:Below W.heap.size W W')
  (ad:∀(j:Nat) (t:TypeId) (r:Value),f.resultTypes[j]? = some t->(v.resultList f.resultTypes.size)[j]? = some r->Value.okWide P W' .any 0 t r) :
  s.post enc P f apart fresh handsOn again W args v W':=by
 have aa:∀p∈before,p.block<W.heap.size:=fun p X=>hW.lt p X;have hold:∀p∈before,(fun b=>decide (b<W.heap.size)) p.block=true:=fun p X=>by simpa using aa p X
 refine⟨ds,gs,before,[],pa,pv,hW,Z _ _ _,O _ hold,U _ hold,World.keptBut_mono (fun p X=>⟨X,?_⟩) (hb.frame (·∈before)),fun _ =>?_⟩
 ·rw[Y,ah7]at X;exact Or.inr X
 ·obtain⟨_,_,_,_,_,hz,hn⟩:=hW;refine⟨ad,_,_,([]++pa)++pv,⟨[]++pa,pv,trodAll_append (O _ (fun _ _=>rfl)) (Z _ _ _),U _ (fun _ _=>rfl),rfl,?_,?_⟩,?_⟩
  ·intro b off X;have ab:MemPlace.cell b off∈before:=by rw[Y];simpa using X
   rw[hb.frozen (aa _ ab)];exact hz b off ab
  ·intro ha;have:=hn ha;rw[Y]at this;simpa using this
  ·intro p X _;rw[Y];simpa using X
theorem wa (hl:laidOutB P=true) {W W':World} {U:Nat->Bool} : ∀ {X:List TypeId} {vs:List Value} {ds:List (DataW H)} {Y:List MemPlace},(∀t∈X,P.readableRec t=true∧t<P.types.size)->DataW.TrodAll enc P W 0 (fun _=>true) true X vs ds Y ->
  (∀p∈Y,W.sameAt W' p)->(∀p∈Y,U p.block=true)->DataW.TrodAll enc P W' 0 U true X vs ds Y
 | [],[],[],_,_,h,_,_=>h
 | t::X,v::vs,d::ds,_,hr,⟨p,q,h1,h2,e⟩,hs,hp=>by
  subst e;have Z:=hr t (by simp);exact⟨p,q,WideElems.Trod_stays hl Z.1 Z.2 h1 (fun x O=>hs x (ag3 _ O)) (fun x O=>hp x (ag3 _ O)),
   wa hl (fun t Z=>hr t (ais _ Z)) h2 (fun x O=>hs x (ag4 _ O)) (fun x O=>hp x (ag4 _ O)),rfl⟩
end
theorem Y5 {H:Type} {enc:TypeId×Value->H} {C:Checked} {T:Nat->Option Ty} {f:FuncId} {fn:Func} {s:ChangeSpec} {apart fresh handsOn again:Bool} {tb n:Nat} (hT:ic C.prog T)
  (hl:laidOutB C.prog=true) (hr:(fn.params.toList.all fun t=>C.prog.readableRec t&&decide (t<C.prog.types.size)&&VP T n t)=true)
  (O:fn.resultTypes = #[tb]) (X:C.prog.underlying tb=some .bool) (hv:s.vars=[])
  (hs:∀ds:List (DataW H),ds.length=fn.params.toList.length->(s.fn H ds).results=[.lit (.bool true)]∧(s.fn H ds).args=ds∧(s.fn H ds).vars=[])
  (law:∀Y:List D,Y.length=fn.params.toList.length->(∀(j:Nat) t,fn.params.toList[j]? = some t->∃x,Y[j]? = some x∧s3 T n t x)->PX C.prog f Y (.bool true))
  {W:World} {base:Nat} {args:Array Value} {ds gs:List (DataW H)} {before:List MemPlace}
  (hval:∀(j:Nat) t v,fn.params[j]? = some t->args[j]? = some v->Value.okWide C.prog W .any base t v) (hW:DataW.Whole enc C.prog fn.params.toList s.vars apart W args.toList ds gs before)
  (U:(DataW.weightsEach C.prog (fn.params.toList++s.plain.varTypes C.prog) (ds++gs)).all (·<=reachBytes)=true) (Z:UW W (fun _=>False)) :
  Calls C.prog f args W fun e W'=>∃v,e=.returned v∧s.post enc C.prog fn apart fresh handsOn again W args v W':=by
 have aa:=hW;obtain⟨p,q,hA,hV,rfl,hfz,ah⟩:=hW;rw[hv]at hV;obtain⟨rfl,rfl⟩:=trodVars_none hV;simp only[ag0,ahq,decide_eq_true_eq]at hr;obtain⟨Y,h1,h2,h3,h4⟩:=Gp (P:=C.prog) hT (M:=fun _=>False) (fun b _ _ h=>h) (n:=n) (b0:=base) fn.params.toList args.toList ds p hA
  (fun j t v a b=>hval j t v (by simpa using a) (by simpa using b)) (fun t ht=>(hr t ht).2) (fun k hk=>by
   rw[ag0]at U;have ab:s.plain.varTypes C.prog=[]:=by unfold ChangeSpec.plain;simp only[hv];rfl
   rw[ab,aiP,aiP]at U;have h:=U k hk;rw[decide_eq_true_eq]at h;exact h)
 refine (law Y h3 h4 W (fun _=>False) args (fun b h=>h.elim) ⟨by simpa using h1.symm,fun j x hj =>?_,Z⟩).mono fun e W' hG =>?_
 ·obtain⟨v,g1,g2⟩:=h2 j x hj;have ad:args[j]? = some v:=by simpa using g1
  rw[agU,ad];exact g2
 ·obtain⟨v,rfl,hb,ae⟩:=hG;have ag:RP W' (fun _=>False) (.bool true) v:=ae;cases ag;have hlen:ds.length=fn.params.toList.length:=by
   have:∀ {ts:List TypeId} {vs:List Value} {ds:List (DataW H)} {ps:List MemPlace},DataW.TrodAll enc C.prog W 0 (fun _=>true) true ts vs ds ps->ds.length=ts.length:=by
    intro ts
    induction ts with
    | nil=>intro vs ds ps h;cases vs<;>cases ds<;>first|rfl|exact h.elim
    | cons t ts ih =>
     intro vs ds ps h;cases vs with
     | nil=>exact h.elim
     | cons v vs=>cases ds with
      | nil=>exact h.elim
      | cons d ds=>obtain⟨_,_,_,h2,_⟩:=h;simp[ih h2]
   exact this hA
  obtain⟨e1,e2,e3⟩:=hs ds hlen;refine⟨_,rfl,FV (pa:=p) (pv:=[]) aa ?_ ?_ ?_ (by simp) hb ?_⟩
  ·intro b sp hd;rw[aiP,e1,O];exact trodAll_mk1 ⟨1,by simp[DataW.trod,X,Value.cells]⟩
  ·intro sp hsp;rw[aiP,e2];refine wa hl (fun t ht=>(hr t ht).1) hA (fun x hx=>hb.same (aa.lt x (by simpa using hx))) (fun x hx=>hsp x (by simpa using hx))
  ·intro sp _;rw[aiP,e3,hv];rfl
  ·exact ok_one O rfl (by simp[Value.okWide,X,Cell.okWide,Cell.ok])
theorem Rp {H:Type} {enc:TypeId×Value->H} {C:Checked} {os:Os} {T:Nat->Option Ty} {f:FuncId} {fn:Func} {s:ChangeSpec} {conds:List PathCond} {apart fresh handsOn again:Bool} {tb n:Nat}
  (hT:ic C.prog T) (own:ownKnob C.prog.godebug=none) (started:os.Started) (O:C.prog.inits.idxOf? f=none) (Y:C.prog.funcs[f]? = some fn)
  (witness:∃(w:World) (tape:Tape) (i:Input),w.os=os∧(w.forCall tape i).Shaped C.prog∧i.vars=[]∧Input.okWide C.prog (w.forCall tape i) .any w.heap.size f i ∧
   s.pre6 enc C.prog fn conds apart (w.forCall tape i).memory i.args∧({} : Assume).holds C.prog (lone (Frame.enter C.prog f i.args .normal) [] (w.forCall tape i)))
  (hl:laidOutB C.prog=true) (hr:(fn.params.toList.all fun t=>C.prog.readableRec t&&decide (t<C.prog.types.size)&&VP T n t)=true)
  (U:fn.resultTypes = #[tb]) (Z:C.prog.underlying tb=some .bool) (hv:s.vars=[])
  (hs:∀ds:List (DataW H),ds.length=fn.params.toList.length->(s.fn H ds).results=[.lit (.bool true)]∧(s.fn H ds).args=ds∧(s.fn H ds).vars=[])
  (law:∀ar:List D,ar.length=fn.params.toList.length->(∀(j:Nat) t,fn.params.toList[j]? = some t->∃x,ar[j]? = some x∧s3 T n t x)->PX C.prog f ar (.bool true)) (aa:ZD=none:=by rfl) :
  ReturnsInHanded {} C os f .any (s.pre6 enc C.prog fn conds apart) (s.post enc C.prog fn apart fresh handsOn again):=by
 apply returnsInHanded_of_change_sized own started O Y witness;intro W base args ds gs before X hW _ ab _;exact Y5 hT hl hr U Z hv hs law X hW ab (fun b hb=>by rw[aa]at hb;cases hb)
end Go.Proofs.YtoioidmblipblaaGreat.Am
namespace Go.Proofs.YtoioidmblipblaaGreat.Am
open Go.RowKit
theorem adY {T:Nat->Option Ty} {n t:Nat} {O:List D} (h:O.length=[t].length) (hs:∀(j:Nat) u,[t][j]? = some u->∃x,O[j]? = some x∧s3 T n u x):∃a,O=[a]∧s3 T n t a:=by
 match O,h with
 | [a],_=>obtain⟨x,h1,h2⟩:=hs 0 t rfl;cases h1;exact⟨a,rfl,h2⟩
theorem adZ {T:Nat->Option Ty} {n t:Nat} {O:List Nat} {U:List D} (h:U.length=(t::O).length) (hs:∀(j:Nat) u,(t::O)[j]? = some u->∃x,U[j]? = some x∧s3 T n u x) :
  ∃a agK,U=a::agK∧s3 T n t a∧agK.length=O.length∧∀(j:Nat) u,O[j]? = some u->∃x,agK[j]? = some x∧s3 T n u x:=by
 match U,h with
 | a::agK,h =>
  obtain⟨x,h1,h2⟩:=hs 0 t rfl;cases h1;exact⟨a,agK,rfl,h2,by simpa using h,fun j u hu=>by simpa using hs (j+1) u (by simpa using hu)⟩
section
variable {T:Nat->Option Ty} {n t:Nat} {τ:Ty} {d:D}
theorem aaD {k:IntKind} (h:s3 T (n+1) t d) (O:T t=some τ) (U:τ.ds=.int k):∃i,d=.int k i∧(Lit.int k i).wf=true:=by
 simp only[s3,O,U,Ds.n9,ahp,if_false,BD]at h;obtain⟨_,i,X,hw⟩:=h;cases X;exact⟨i,rfl,hw⟩
theorem Qc {fs:List (Nat×Nat)} (h:s3 T n t d) (O:T t=some τ) (U:τ.ds=.struct fs):∃xs,d=.agg xs∧BD T n t xs:=by
 simp only[s3,O,U,Ds.n9,if_true]at h;exact h
theorem abv {k:IntKind} {xs:List D} (h:BD T (n+1) t xs) (O:T t=some τ) (U:τ.ds=.int k):∃i,xs=[.int k i]∧(Lit.int k i).wf=true:=by
 simp only[BD,O,U]at h;exact h.2
theorem abw {xs:List D} (h:BD T (n+1) t xs) (O:T t=some τ) (U:τ.ds=.str):∃s:ByteArray,xs=[.str s]∧s.size<=140737488351232:=by
 simp only[BD,O,U]at h;exact h.2
theorem Wg {e:Nat} {φ:Ty} {xs:List D} (h:BD T (n+1) t xs) (U:T t=some τ) (X:τ.ds=.slice e) (Y:T e=some φ) :
  ∃len O,xs=[.sl false false len O]∧len*φ.bytes<=140737488351232∧O.length=len*φ.size∧∀i,i<len->BD T n e ((O.drop (i*φ.size)).take φ.size):=by
 simp only[BD,U,X]at h;obtain⟨_,len,O,ψ,h1,h3,h4,h5,h6⟩:=h;rw[Y]at h4;cases h4;exact⟨len,O,h1,h3,h5,h6⟩
theorem RY {fs:List (Nat×Nat)} {xs:List D} (h:BD T (n+1) t xs) (O:T t=some τ) (U:τ.ds=.struct fs):xs.length=τ.size∧∀f∈fs,∃φ,T f.1=some φ∧BD T n f.1 ((xs.drop f.2).take φ.size):=by
 simp only[BD,O,U]at h;exact h
end
end Go.Proofs.YtoioidmblipblaaGreat.Am
namespace Go.Proofs.YtoioidmblipblaaGreat.Am
open Go.RowKit Go.Proofs.YtoioidmblipblaaGreat.P
def Bb {α:Type} (T:Nat->Option Ty) (n t:Nat) (E:jb α) (ok:α->Prop):Prop:=(∃φ,T t=some φ∧φ.size=E.size)∧∀xs,BD T n t xs->∃x,xs=E.cells x∧ok x
section
variable {T:Nat->Option Ty} {n t:Nat} {τ:Ty}
theorem opI {k:IntKind} (O:T t=some τ) (U:τ.ds=.int k) (hs:τ.size=1):Bb T (n+1) t (eI k) (fun i=>(Lit.int k i).wf=true):=⟨⟨τ,O,hs⟩,fun _ h=>abv h O U⟩
theorem aek (O:T t=some τ) (U:τ.ds=.str) (hs:τ.size=1):Bb T (n+1) t XV (fun s=>s.size<=140737488351232):=⟨⟨τ,O,hs⟩,fun _ h=>abw h O U⟩
theorem acA {α:Type} (E:jb α) (ok:α->Prop):∀(len:Nat) (O:List D),O.length=len*E.size->(∀i,i<len->∃x,(O.drop (i*E.size)).take E.size=E.cells x∧ok x)->∃l:List α,l.length=len∧O=ab E l∧∀x∈l,ok x
 | 0,O,Y,_=>⟨[],rfl,by simpa [ab] using Y,fun x X=>by simp at X⟩
 | len+1,O,Y,h=>by
  obtain⟨x,X,Z⟩:=h 0 (by omega);obtain⟨l,h1,h2,h3⟩:=acA E ok len (O.drop E.size) (by rw[ag9,Y,ahO];omega) (fun i hi=>by
   obtain⟨y,U,aa⟩:=h (i+1) (by omega);refine⟨y,?_,aa⟩;rw[aiK];rw[ahO,Nat.add_comm]at U;exact U)
  rw[aiM,aik]at X;refine⟨x::l,by simp[h1],?_,fun y U =>?_⟩
  ·rw[bg,<- h2,<- X,aiL]
  ·rcases agW.1 U with rfl|U
   ·exact Z
   ·exact h3 y U
theorem Ri {α:Type} {E:jb α} {ok:α->Prop} {e:Nat} (O:T t=some τ) (Y:τ.ds=.slice e) (hs:τ.size=1) {B:Nat} (U:(T e).map (·.bytes)=some B) (he:Bb T n e E ok):Bb T (n+1) t (jW E) (fun l=>l.length*B<=140737488351232∧∀x∈l,ok x):=by
 obtain⟨⟨φ,X,Z⟩,hx⟩:=he;have hb:φ.bytes=B:=by rw[X]at U;simpa using U
 refine⟨⟨τ,O,hs⟩,fun xs h =>?_⟩;obtain⟨len,ys,h1,h2,h3,h4⟩:=Wg h O Y X;rw[Z]at h3 h4;rw[hb]at h2;obtain⟨l,k1,k2,k3⟩:=acA E ok len ys h3 fun i hi=>hx _ (h4 i hi);subst k1 k2;exact⟨l,h1,h2,k3⟩
def OpF {α:Type} (T:Nat->Option Ty) (n:Nat) (fs:List (Nat×Nat)) (o:Nat) (E:jb α) (ok:α->Prop):Prop :=
 ∀xs:List D,xs.length=o+E.size->(∀f∈fs,∃φ,T f.1=some φ∧BD T n f.1 ((xs.drop f.2).take φ.size))->∃x,xs.drop o=E.cells x∧ok x
theorem OH {α:Type} {E:jb α} {ok:α->Prop} {O o:Nat} (h:Bb T n O E ok):OpF T n [(O,o)] o E ok:=by
 obtain⟨⟨φ,U,Z⟩,X⟩:=h;intro xs hl Y;obtain⟨ψ,h1,h2⟩:=Y (O,o) (by simp);cases U.symm.trans h1;rw[aij (by rw[ag9];omega)]at h2;exact X _ h2
theorem zD {α β:Type} {E:jb α} {ok:α->Prop} {U:jb β} {O:β->Prop} {X o o':Nat} {fs:List (Nat×Nat)} (h:Bb T n X E ok) (ho:o'=o+E.size) (h':OpF T n fs o' U O):OpF T n ((X,o)::fs) o (lR E U) (fun x=>ok x.1∧O x.2):=by
 subst ho;obtain⟨⟨φ,hφ,hz⟩,hx⟩:=h;intro xs hl hf;obtain⟨ψ,h1,h2⟩:=hf (X,o) (by simp);cases hφ.symm.trans h1;obtain⟨x,Y,Z⟩:=hx _ h2;obtain⟨y,aa,ab⟩:=h' xs (by rw[hl];show o+(E.size+U.size)=_;omega) fun f ad=>hf f (ais _ ad);refine⟨(x,y),?_,Z,ab⟩;show xs.drop o=E.cells x++U.cells y;rw[<- Y,<- aa,<- hz,<- aiK,aiL]
theorem opS {α β:Type} {E:jb β} {ok:β->Prop} {f:α->β} {X:∀x y,f x=f y->x=y} {g:β->α} {fs:List (Nat×Nat)} (O:T t=some τ) (Y:τ.ds=.struct fs) (hs:τ.size=E.size) (U:∀y,f (g y)=y) (h:OpF T n fs 0 E ok):Bb T (n+1) t (Be E f X) (fun x=>ok (f x)):=by
 refine⟨⟨τ,O,hs⟩,fun xs Z =>?_⟩;obtain⟨h1,h2⟩:=RY Z O Y;obtain⟨y,h3,h4⟩:=h xs (by rw[h1,hs,ahE]) h2;refine⟨g y,?_,?_⟩
 ·show xs=E.cells (f (g y));rw[U,<- h3,aik]
 ·show ok (f (g y));rw[U];exact h4
def OpA {α:Type} (T:Nat->Option Ty) (n t:Nat) (A:Arg α) (ok:α->Prop):Prop:=∀d,s3 T n t d->∃x,d=A.d x∧ok x
theorem oaI {k:IntKind} (O:T t=some τ) (U:τ.ds=.int k):OpA T (n+1) t (aI k) (fun i=>(Lit.int k i).wf=true):=fun _ h=>aaD h O U
theorem oaS {α:Type} {E:jb α} {ok:α->Prop} {fs:List (Nat×Nat)} (O:T t=some τ) (U:τ.ds=.struct fs) (X:Bb T n t E ok):OpA T n t (bD E) ok:=fun d h=>by
 obtain⟨xs,rfl,h1⟩:=Qc h O U;obtain⟨x,h1,h2⟩:=X.2 _ h1;exact⟨x,by rw[h1];rfl,h2⟩
def WD {α:Type} (T:Nat->Option Ty) (n:Nat) (U:List Nat) (A:jh α) (ok:α->Prop):Prop:=∀O:List D,O.length=U.length->(∀(j:Nat) u,U[j]? = some u->∃x,O[j]? = some x∧s3 T n u x)->∃x,O=A.ds x∧ok x
theorem af4 {α:Type} {A:Arg α} {ok:α->Prop} (h:OpA T n t A ok):WD T n [t] (dT A) ok:=fun Y O hs=>by
 obtain⟨a,rfl,U⟩:=adY O hs;obtain⟨x,rfl,X⟩:=h a U;exact⟨x,rfl,X⟩
theorem aej {α β:Type} {A:Arg α} {ok:α->Prop} {B:jh β} {O:β->Prop} {Y:List Nat} (h:OpA T n t A ok) (h':WD T n Y B O):WD T n (t::Y) (ie A B) (fun x=>ok x.1∧O x.2):=fun Z hl hs=>by
 obtain⟨a,Z,rfl,ha,U,X⟩:=adZ hl hs;obtain⟨x,rfl,hx⟩:=h a ha;obtain⟨y,rfl,hy⟩:=h' Z U X;exact⟨(x,y),rfl,hx,hy⟩
theorem ac5 {P:Program} {f:FuncId} {α:Type} {A:jh α} {F:α->Option Bool} {ok:α->Prop} {U:List Nat} (X:WD T n U A ok) (Y:bX P f (dV A F (fun r =>.clean (.bool r)))) (h:∀x,ok x->F x=some true) (O:List D) (Z:O.length=U.length)
  (hs:∀(j:Nat) u,U[j]? = some u->∃x,O[j]? = some x∧s3 T n u x):PX P f O (.bool true):=by
 obtain⟨x,rfl,hx⟩:=X O Z hs;refine Y.calls none _ _ none ?_;rw[cP,h x hx];rfl
end
end Go.Proofs.YtoioidmblipblaaGreat.Am
namespace Go.Proofs.YtoioidmblipblaaGreat.P
open Go.RowKit
def KL (l:List Int):Option (List Int):=some l
def BV (l:List Int):Option (List Int):=if l.length*8<=140737488351232 then some (nN l) else none
end Go.Proofs.YtoioidmblipblaaGreat.P
namespace Go.Proofs
open Go.Shelf
def Tryz.Nu:Go.Shelf.Ren:=⟨fun|189=>133|125=>74|257=>146|128=>116|129=>117|294=>148|295=>149|296=>150|297=>151|298=>152|299=>153|216=>154|300=>155|301=>156|328=>157|329=>137|330=>138|331=>158|332=>159|215=>118|343=>160|n=>n,fun|28=>22|3=>3|46=>109|0=>0|51=>138|53=>140|4=>4|183=>131|182=>130|131=>135|5=>5|9=>9|218=>146|222=>150|228=>158|229=>159|n=>n,fun|n=>n⟩
theorem Tryz.Tw:Go.Proofs.Lays.n189 prog Tryz.Nu:={
 mixed:=by kernel_rfl
 f125:=Tryz.func74.trans (congrArg some (by kernel_rfl))
 f128:=Tryz.func116.trans (congrArg some (by kernel_rfl))
 f129:=Tryz.func117.trans (congrArg some (by kernel_rfl))
 f189:=Tryz.func133.trans (congrArg some (by kernel_rfl))
 f215:=Tryz.func118.trans (congrArg some (by kernel_rfl))
 f216:=Tryz.func154.trans (congrArg some (by kernel_rfl))
 f257:=Tryz.func146.trans (congrArg some (by kernel_rfl))
 f294:=Tryz.func148.trans (congrArg some (by kernel_rfl))
 f295:=Tryz.func149.trans (congrArg some (by kernel_rfl))
 f296:=Tryz.func150.trans (congrArg some (by kernel_rfl))
 f297:=Tryz.func151.trans (congrArg some (by kernel_rfl))
 f298:=Tryz.func152.trans (congrArg some (by kernel_rfl))
 f299:=Tryz.func153.trans (congrArg some (by kernel_rfl))
 f300:=Tryz.func155.trans (congrArg some (by kernel_rfl))
 f301:=Tryz.func156.trans (congrArg some (by kernel_rfl))
 f328:=Tryz.func157.trans (congrArg some (by kernel_rfl))
 f329:=Tryz.func137.trans (congrArg some (by kernel_rfl))
 f330:=Tryz.func138.trans (congrArg some (by kernel_rfl))
 f331:=Tryz.func158.trans (congrArg some (by kernel_rfl))
 f332:=Tryz.func159.trans (congrArg some (by kernel_rfl))
 f343:=Tryz.func160.trans (congrArg some (by kernel_rfl))
 t0:=underlying0
 a0:=isAgg0
 z0:=sizeOf0
 v0:=zeroValue0
 t3:=underlying3
 a3:=isAgg3
 z3:=sizeOf3
 v3:=zeroValue3
 t4:=underlying4
 a4:=isAgg4
 z4:=sizeOf4
 v4:=zeroValue4
 t5:=underlying5
 a5:=isAgg5
 z5:=sizeOf5
 v5:=zeroValue5
 t9:=underlying9
 a9:=isAgg9
 z9:=sizeOf9
 v9:=zeroValue9
 t28:=underlying22
 a28:=isAgg22
 z28:=sizeOf22
 v28:=zeroValue22
 t46:=underlying109
 a46:=isAgg109
 z46:=sizeOf109
 v46:=zeroValue109
 t51:=underlying138
 a51:=isAgg138
 z51:=sizeOf138
 v51:=zeroValue138
 t53:=underlying140
 a53:=isAgg140
 z53:=sizeOf140
 v53:=zeroValue140
 t131:=underlying135
 a131:=isAgg135
 z131:=sizeOf135
 v131:=zeroValue135
 t182:=underlying130
 a182:=isAgg130
 z182:=sizeOf130
 v182:=zeroValue130
 t183:=underlying131
 a183:=isAgg131
 z183:=sizeOf131
 v183:=zeroValue131
 t218:=underlying146
 a218:=isAgg146
 z218:=sizeOf146
 v218:=zeroValue146
 t222:=underlying150
 a222:=isAgg150
 z222:=sizeOf150
 v222:=zeroValue150
 t228:=underlying158
 a228:=isAgg158
 z228:=sizeOf158
 v228:=zeroValue158
 t229:=underlying159
 a229:=isAgg159
 z229:=sizeOf159
 v229:=zeroValue159 }
def Tryz.Rt:Go.Shelf.Ren:=⟨fun|6=>42|15=>74|14=>73|28=>116|29=>117|20=>108|21=>109|22=>110|23=>111|24=>112|25=>113|26=>114|27=>115|46=>136|47=>137|48=>138|49=>139|50=>140|57=>147|n=>n,fun|22=>26|24=>65|25=>79|3=>3|39=>109|0=>0|53=>138|55=>140|4=>4|46=>131|45=>130|50=>135|5=>5|9=>9|66=>146|70=>150|76=>158|77=>159|n=>n,fun|n=>n⟩
theorem Tryz.Zq:Go.Proofs.SlLaysF0.n6 prog Tryz.Rt:={
 mixed:=by kernel_rfl
 f6:=⟨Tryz.f42.name,by decide,Tryz.func42.trans (congrArg some (by kernel_rfl))⟩
 f14:=⟨Tryz.f73.name,by decide,Tryz.func73.trans (congrArg some (by kernel_rfl))⟩
 f15:=Tryz.func74.trans (congrArg some (by kernel_rfl))
 f20:=⟨Tryz.f108.name,by decide,Tryz.func108.trans (congrArg some (by kernel_rfl))⟩
 f21:=⟨Tryz.f109.name,by decide,Tryz.func109.trans (congrArg some (by kernel_rfl))⟩
 f22:=⟨Tryz.f110.name,by decide,Tryz.func110.trans (congrArg some (by kernel_rfl))⟩
 f23:=⟨Tryz.f111.name,by decide,Tryz.func111.trans (congrArg some (by kernel_rfl))⟩
 f24:=⟨Tryz.f112.name,by decide,Tryz.func112.trans (congrArg some (by kernel_rfl))⟩
 f25:=⟨Tryz.f113.name,by decide,Tryz.func113.trans (congrArg some (by kernel_rfl))⟩
 f26:=⟨Tryz.f114.name,by decide,Tryz.func114.trans (congrArg some (by kernel_rfl))⟩
 f27:=⟨Tryz.f115.name,by decide,Tryz.func115.trans (congrArg some (by kernel_rfl))⟩
 f28:=Tryz.func116.trans (congrArg some (by kernel_rfl))
 f29:=Tryz.func117.trans (congrArg some (by kernel_rfl))
 f46:=⟨Tryz.f136.name,by decide,Tryz.func136.trans (congrArg some (by kernel_rfl))⟩
 f47:=Tryz.func137.trans (congrArg some (by kernel_rfl))
 f48:=Tryz.func138.trans (congrArg some (by kernel_rfl))
 f49:=⟨Tryz.f139.name,by decide,Tryz.func139.trans (congrArg some (by kernel_rfl))⟩
 f50:=⟨Tryz.f140.name,by decide,Tryz.func140.trans (congrArg some (by kernel_rfl))⟩
 f57:=⟨Tryz.f147.name,by decide,Tryz.func147.trans (congrArg some (by kernel_rfl))⟩
 t0:=underlying0
 a0:=isAgg0
 z0:=sizeOf0
 v0:=zeroValue0
 t3:=underlying3
 a3:=isAgg3
 z3:=sizeOf3
 v3:=zeroValue3
 t4:=underlying4
 a4:=isAgg4
 z4:=sizeOf4
 v4:=zeroValue4
 t5:=underlying5
 a5:=isAgg5
 z5:=sizeOf5
 v5:=zeroValue5
 t9:=underlying9
 a9:=isAgg9
 z9:=sizeOf9
 v9:=zeroValue9
 t22:=underlying26
 a22:=isAgg26
 z22:=sizeOf26
 v22:=zeroValue26
 t25:=underlying79
 a25:=isAgg79
 z25:=sizeOf79
 v25:=zeroValue79
 t39:=underlying109
 a39:=isAgg109
 z39:=sizeOf109
 v39:=zeroValue109
 t45:=underlying130
 a45:=isAgg130
 z45:=sizeOf130
 v45:=zeroValue130
 t46:=underlying131
 a46:=isAgg131
 z46:=sizeOf131
 v46:=zeroValue131
 t50:=underlying135
 a50:=isAgg135
 z50:=sizeOf135
 v50:=zeroValue135
 t53:=underlying138
 a53:=isAgg138
 z53:=sizeOf138
 v53:=zeroValue138
 t55:=underlying140
 a55:=isAgg140
 z55:=sizeOf140
 v55:=zeroValue140
 t66:=underlying146
 a66:=isAgg146
 z66:=sizeOf146
 v66:=zeroValue146
 t70:=underlying150
 a70:=isAgg150
 z70:=sizeOf150
 v70:=zeroValue150
 t76:=underlying158
 a76:=isAgg158
 z76:=sizeOf158
 v76:=zeroValue158
 t77:=underlying159
 a77:=isAgg159
 z77:=sizeOf159
 v77:=zeroValue159 }
end Go.Proofs
namespace Go.Proofs.YtoioidmblipblaaGreat.Am
open Go.RowKit Go.Proofs.YtoioidmblipblaaGreat.P
theorem Sk {w:World} {M:Nat->Prop} {k:IntKind} {l:List Int} {u:Value} (h:RP w M (.sl false false l.length (ab (eI k) l)) u) :
  ∃A c,u=.slice A l.length c∧l.length<=c∧c<=maxLen∧(A=none->l.length=0∧c=0)∧(l≠[]->∃b o,A=some ⟨b,o,none⟩∧b<w.heap.size∧¬M b∧∀j,j<l.length->w.cell? ⟨b,o+j,none⟩=some (.int k (l.getD j 0))):=by
 cases h with
 | sl A c nl tight n xs us h1 h2 h3 h4 h5 h6 h7 h8 =>
  refine⟨A,c,rfl,h1,h2,h4,fun X =>?_⟩;have O:ab (eI k) l≠[]:=by
   intro he;have:=congrArg List.length he;rw[n5]at this;exact X (aia this)
  obtain⟨b,o,rfl,Y,Z,hc⟩:=h6 O;refine⟨b,o,rfl,Y,Z,fun j U =>?_⟩;rw[hc j (by rw[n5];exact U)];have hg:(ab (eI k) l)[j]? = some (.int k (l.getD j 0)):=by rw[tG];simp[List.getD,U]
  rw[acK (h7 j _ hg)]
end Go.Proofs.YtoioidmblipblaaGreat.Am
namespace Go.Proofs.YtoioidmblipblaaGreat.Am
open Go.RowKit Go.Shelf Go.Proofs.YtoioidmblipblaaGreat.P
attribute [local go_sem] Oper.semAt_some
def upto (f:Nat->Int) (k:Nat):List Int:=(List.range k).map f
theorem Je (f:Nat->Int) (k:Nat):upto f (k+1)=upto f k++[f k]:=by simp[upto,ajM]
theorem PG (f:Nat->Int) (k:Nat):(upto f k).length=k:=by simp[upto]
theorem aai (zs:List Int):upto (fun j=>zs[j]?.getD 0) zs.length=zs:=by
 apply List.ext_getElem
 ·simp[upto]
 ·intro i h1 h2;simp[upto,h2]
theorem Wj (zs:List Int) {k:Nat} (hk:k<=zs.length):upto (fun j=>zs[j]?.getD 0) k=zs.take k:=by
 apply List.ext_getElem
 ·simp[upto,hk]
 ·intro i h1 h2;have:i<zs.length:=by simp[upto]at h1;omega
  simp[upto,this]
set_option maxRecDepth 100000 in
set_option maxHeartbeats 2000000 in
theorem R1 (F:Fence) (n:Nat) (h7:F.fn 134) (hro:F.round=none) (hn:1<=n) (l Bs Bo n₀ b off len cap:Nat) (zs:List Int) (hreach:len*8<=140737488351232) (hb:b<n₀) (J Jx:List Int->World->Prop)
  (hY:∀pre x W,J pre W->pre.length<len->YieldAt F (n-1) prog l #[.int .i64 x] W fun e W' =>
   (e=.returned (.bool true)∧J (pre++[x]) W'∧Below n₀ W W')∨(e=.returned (.bool false)∧Jx (pre++[x]) W'))
  (W:World) (hBs:W.cell? ⟨Bs,Bo,none⟩=some (.slice (some ⟨b,off,none⟩) len cap)) (hc:∀j,j<len->W.cell? ⟨b,off+j,none⟩=some (.int .i64 (zs[j]?.getD 0))) (h0:J [] W) :
  CallsIn F n prog 134 #[.func (.yield l) #[] #[],.pointer (some ⟨Bs,Bo,none⟩)] W fun e W'=>(∃v,e=.returned v) ∧
   ((∃ys,ys=upto (fun j=>zs[j]?.getD 0) len∧J ys W')∨(∃pre,(∃k,k<=len∧pre=upto (fun j=>zs[j]?.getD 0) k)∧Jx pre W')):=by
 refine callsIn_of_wp func134 rfl h7 ?_ hro;simp only[ntmps134,aib,List.length_cons,List.length_nil,Nat.reduceAdd,Nat.reduceSub,ajQ,Array.replicate_zero,ajS,ajT,List.nil_append,List.cons_append]
 gi_wp2
 gi_loopw [7] (fun i wr=>∃k:Nat,k<=len∧i=.int .i64 k∧J (upto (fun j=>zs[j]?.getD 0) k) wr∧Below n₀ W wr)
  (fun i _=>len-(intOf i).toNat)
 case atStart=>exact⟨0,agQ _,rfl,h0,Below.refl _ _⟩
 case round =>
  obtain⟨k,hk,rfl,hJs,hnx⟩:=hrel;have hcx:k<len->wr.cell? ⟨b,off+k,none⟩=some (.int .i64 (zs[k]?.getD 0)):=fun h=>(hnx.cell (p:=⟨b,off+k,none⟩) hb).trans (hc k h)
  by_cases hlt:k<len
  ·obtain⟨fn,tmps,assign,body,hy,hR⟩:=hY _ (zs[k]?.getD 0) wr hJs (by rw[PG];exact hlt);have hcx':=hcx hlt
   gi_wp2
   apply hR.mono;rintro e W3 (⟨rfl,hJ3,hk3⟩|⟨rfl,hJx3⟩)
   ·gi_wp2
    go_roundw
    case rel=>exact⟨k+1,by omega,by simp,by rw[Je];exact hJ3,hnx.trans hk3⟩
    case measure=>simp[intOf];omega
   ·gi_wp2
    refine bodyPost_ret (results_none rfl _ _ _) rfl ?_;exact⟨⟨_,rfl⟩,.inr ⟨_,⟨k+1,by omega,(Je _ _).symm⟩,hJx3⟩⟩
  ·obtain rfl:k=len:=by omega
   gi_wp2
   go_end0
   exact⟨⟨_,rfl⟩,.inl ⟨_,rfl,hJs⟩⟩
set_option maxRecDepth 100000 in
set_option maxHeartbeats 1000000 in
theorem Fp (F:Fence) (n:Nat) (h7:F.fn 134) (hro:F.round=none) (l Bs Bo cap:Nat) (A:Option Addr) (J:List Int->World->Prop) (W:World) (hBs:W.cell? ⟨Bs,Bo,none⟩=some (.slice A 0 cap)) (h0:J [] W) :
  CallsIn F n prog 134 #[.func (.yield l) #[] #[],.pointer (some ⟨Bs,Bo,none⟩)] W fun e W'=>(∃v,e=.returned v)∧J [] W':=by
 refine callsIn_of_wp func134 rfl h7 ?_ hro;simp only[ntmps134,aib,List.length_cons,List.length_nil,Nat.reduceAdd,Nat.reduceSub,ajQ,Array.replicate_zero,ajS,ajT,List.nil_append,List.cons_append]
 gi_wp2
 gi_loopw [7] (fun i wr=>i=.int .i64 0∧J [] wr) (fun _ _=>0)
 case atStart=>exact⟨rfl,h0⟩
 case round =>
  obtain⟨rfl,hJs⟩:=hrel
  gi_wp2
  go_end0
  exact⟨⟨_,rfl⟩,hJs⟩
def Ints (X:Nat) (W:World) (U:Value) (O:List Int):Prop :=
 (∃A c,U=.slice A 0 c∧O=[])∨∃b off cap,U=.slice (some ⟨b,off,none⟩) O.length cap∧b<X∧∀j,j<O.length->W.cell? ⟨b,off+j,none⟩=some (.int .i64 (O[j]?.getD 0))
theorem Ints.below {O:Nat} {A B:World} (h:Below O A B) {U:Value} {X:List Int} : Ints O A U X->Ints O B U X
 | .inl e =>.inl e
 | .inr ⟨b,off,cap,e,Y,Z⟩ =>.inr ⟨b,off,cap,e,Y,fun j hj=>(h.cell (p:=⟨b,off+j,none⟩) Y).trans (Z j hj)⟩
theorem KM (F:Fence) (n:Nat) (h7:F.fn 134) (Y:F.round=none) (hn:1<=n) (X Z n₀:Nat) (sv:Value) (O:List Int) (U:O.length*8<=140737488351232) (w:World) (ab:X<w.heap.size) (ad:n₀<=w.heap.size)
  (hc:w.cell? ⟨X,Z,none⟩=some sv) (hI:Ints n₀ w sv O) :
  SeqStopsK F n prog 134 #[.pointer (some ⟨X,Z,none⟩)] (fun x:Int=>#[Value.int .i64 x]) (Below n₀) (fun ys=>ys=O) (fun pre=>pre <+: O) O.length w:=fun l J Jx W hW _ _ hY h0=>by
 have aa:=(hW.cell (p:=⟨X,Z,none⟩) ab).trans hc;rcases hI.below (hW.mono ad) with⟨A,c,rfl,rfl⟩|⟨b,off,cap,rfl,hb,ae⟩
 ·exact (Fp F n h7 Y l X Z _ _ J W aa h0).mono fun e W' ⟨he,hj⟩=>⟨he,.inl ⟨_,rfl,hj⟩⟩
 ·refine (R1 F n h7 Y hn l X Z n₀ b off O.length cap O U hb J Jx hY W aa ae h0).mono ?_;rintro e W' ⟨he,⟨ys,rfl,hj⟩|⟨pre,⟨k,hk,rfl⟩,hj⟩⟩
  ·exact⟨he,.inl ⟨_,aai O,hj⟩⟩
  ·exact⟨he,.inr ⟨_,by rw[Wj O hk];exact List.take_prefix _ _,hj⟩⟩
theorem ad6:(Tryz.prog.info? 3).map (fun i=>(i.zero,i.size,i.bytes))=some (some (.int .i64 0),1,8):=by kernel_rfl
set_option maxRecDepth 100000 in
set_option maxHeartbeats 2000000 in
theorem appendSeq_in (F:Fence) (n:Nat) (h3:F.fn 145) (h7:F.fn 134) (hro:F.round=none) (hn:3<=n) (Bs Bo:Nat) (sv:Value) (zs:List Int) (hreach:zs.length*8<=140737488351232) (w:World)
  (hBs:Bs<w.heap.size) (hc:w.cell? ⟨Bs,Bo,none⟩=some sv) (hI:Ints w.heap.size w sv zs) :
  CallsIn F n prog 145 #[.slice none 0 0,.func (.func 134) #[] #[.pointer (some ⟨Bs,Bo,none⟩)]] w fun e W'=>∃v,e=.returned v∧W'.ownsRow w.heap.size 3 1 v zs.length (zs.map (Value.int .i64))∧(v=.slice none 0 0↔zs=[])∧Below w.heap.size w W':=by
 have h1:1<=n:=by omega
 obtain⟨i0,hi,hz0,hz1,hz2⟩:=info_parts ad6;refine callsIn_of_wp_marks func145 rfl h3 ?_ hro;simp only[ntmps145,aib,List.length_cons,List.length_nil,Nat.reduceAdd,Nat.reduceSub,ajQ,Array.replicate_zero,ajS,ajT,List.nil_append,List.cons_append]
 gi_wp2
 have bO:=Boxed.new w 22 (.slice none 0 0);have hB0:Below w.heap.size w (w.alloc (.cells #[.slice none 0 0] 22)):=(Below.refl _ w).alloc (agP _) _;refine wpIn_rangeFunc_ownG hro h1 (gf:=134) (lb:=#[.pointer (some ⟨Bs,Bo,none⟩)]) rfl h7 (enters_of func134 (by kernel_rfl) rfl)
  (KM F (n-1) h7 hro (by omega) Bs Bo w.heap.size sv zs hreach _ (by simp;omega) (by simp) ((hB0.cell (p:=⟨Bs,Bo,none⟩) hBs).trans hc) (hI.below hB0)) belowK_t (belowK_b (by simp)) (Below.refl _ _) (fun _=>rfl)
  (fun pre W=>(∃v,Boxed W w.heap.size 22 v∧W.ownsRow w.heap.size 3 1 v pre.length (pre.map (Value.int .i64))∧(v=.slice none 0 0↔pre=[]))∧Below w.heap.size w W)
  (fun _ _ _=>False)
  (OwnFrom.and (Own.from (holdsRow_own w.heap.size w.heap.size 22 3 1 (fun pre=>pre.length) (fun pre=>pre.map (Value.int .i64)) (fun pre v=>v=.slice none 0 0↔pre=[])) _) (ownFrom_below (agP _) (by simp)))
  (fun _ _ _ _ _ hs _ _=>hs)
  ⟨⟨_,bO,World.ownsRow_nil _ _ _ _,by simp⟩,hB0⟩
  (fun x=>{ tmps:=#[.slice none 0 0,.func (.func 134) #[] #[.pointer (some ⟨Bs,Bo,none⟩)],.pointer (some ⟨w.heap.size,0,none⟩),undef,.slice none 0 0,.int .i64 x,.func (.func 134) #[] #[.pointer (some ⟨Bs,Bo,none⟩)],.int .i64 x,undef,undef,undef,undef,undef],defers:=[] }) ?assign ?body ?done ?stop
 case assign =>
  intro l x W K hK
  gi_wp2
  exact hK
 case body =>
  rintro l pre x W ⟨⟨v,hv,hrow,hnil⟩,hB⟩ hlt;have hc:=hv.cell
  gi_wp2_with (gi_at_builtin;refine wpListIn_append_own _ rfl _ _ 22 rfl w.heap.size 3 i0 (.int .i64 0) 1 8 underlying22 hi hz0 hz1 hz2 rfl (by decide) _ _ _ rfl (hrow.alloc _) ⟨W.heap.size,0,none⟩ 1 1 [.int .i64 x] rfl rfl (cell_one_new _ _ _) (by simp[Value.oneCell']) (by unfold maxLen;omega) (by omega) (by have:=hB.size;simp;omega) ?_;intro v' w1 hown' hgrow _;obtain⟨g',cap',rfl⟩:=ownsRow_succ hown';obtain⟨hv1,hv2,hr2,hk2,hb2⟩:=hv.appended (by decide) hrow hB.size (agP _) hown' hgrow;have hc1:=hv1.cell;have hf1:=hv1.frozen)
  exact⟨hk2.from _,hb2,⟨_,hv2,by simpa using hr2,by simp⟩,hB.trans hb2⟩
 case done =>
  rintro D ys W hD rfl ⟨⟨v,hv,hrow,hnil⟩,hB⟩ hK;have hc:=hv.cell
  gi_wp2
  refine⟨by simp,.inl ⟨_,_,rfl,run_takeDeferred hK,?_⟩⟩;exact⟨_,results_tmp rfl _ _ _,v,rfl,ownsRow_putObj hrow _ hK rfl,hnil,hB.trans (belowK_b (w:=w) (agP _) W D _ _ (by simp at hD;omega) hK rfl rfl)⟩
 case stop =>
  rintro D c pre W _ _ h _;exact h.elim
set_option maxHeartbeats 1000000 in
theorem collect_in (F:Fence) (n:Nat) (h2:F.fn 132) (h3:F.fn 145) (h7:F.fn 134) (hro:F.round=none) (hn:4<=n) (Bs Bo:Nat) (sv:Value) (zs:List Int) (hreach:zs.length*8<=140737488351232) (w:World)
  (hBs:Bs<w.heap.size) (hc:w.cell? ⟨Bs,Bo,none⟩=some sv) (hI:Ints w.heap.size w sv zs) :
  CallsIn F n prog 132 #[.func (.func 134) #[] #[.pointer (some ⟨Bs,Bo,none⟩)]] w fun e W'=>∃v,e=.returned v∧W'.ownsRow w.heap.size 3 1 v zs.length (zs.map (Value.int .i64))∧(v=.slice none 0 0↔zs=[])∧Below w.heap.size w W':=by
 have h1:1<=n:=by omega
 refine callsIn_of_wp func132 rfl h2 ?_ hro;simp only[ntmps132,aib,List.length_cons,List.length_nil,Nat.reduceAdd,Nat.reduceSub,ajQ,Array.replicate_zero,ajS,ajT,List.nil_append,List.cons_append]
 gi_wp2_with (gi_at_call 145;refine (appendSeq_in F (n-1) h3 h7 hro (by omega) Bs Bo sv zs hreach _ hBs hc hI).mono ?_;rintro e w' ⟨v,rfl,hrow,hnil,hb⟩)
 go_ret
 exact⟨v,rfl,hrow,hnil,hb⟩
theorem abz (a:Option Addr) (len cap:Nat) (w:World) :
  Calls prog 102 #[.slice a len cap] w fun e w'=>e=.returned (.func (.func 134) #[] #[.pointer (some ⟨w.heap.size,0,none⟩)])∧w'=w.alloc (.cells #[.slice a len cap] 22):=by
 go_enter func102,ntmps102
 go_wp2
 go_ret
 exact⟨rfl,rfl⟩
set_option maxHeartbeats 1000000 in
theorem abr (Bs Bo:Nat) (sv:Value) (zs:List Int) (hreach:zs.length*8<=140737488351232) (w:World) (hBs:Bs<w.heap.size) (hc:w.cell? ⟨Bs,Bo,none⟩=some sv) (hI:Ints w.heap.size w sv zs) :
  Calls prog 101 #[.func (.func 134) #[] #[.pointer (some ⟨Bs,Bo,none⟩)]] w fun e w'=>∃v,e=.returned v∧Below w.heap.size w w' ∧
   ((zs=[]∧v=.slice none 0 0)∨∃g cap cs,v=.slice (some ⟨g,0,none⟩) zs.length cap∧w.heap.size<=g∧w'.heap[g]? = some (.cells cs 3 (0,0))∧zs.length<=cap∧cap<=maxLen∧cs.size=cap∧∀j,j<zs.length->cs.getD j undef=.int .i64 ((nN zs).getD j 0)):=by
 refine (callsIn_wide (n:=6)).1 ?_;have hN:(1:Nat)<=6:=by omega
 have cC:=collect_in Fence.wide 5 trivial trivial trivial rfl (by omega) Bs Bo sv zs hreach w hBs hc hI;refine callsIn_of_wp func101 rfl trivial ?_ rfl;simp only[ntmps101,aib,List.length_cons,List.length_nil,Nat.reduceAdd,Nat.reduceSub,ajQ,Array.replicate_zero,ajS,ajT,List.nil_append,List.cons_append];have hf1:Fence.wide.fn 132:=trivial;have hf2:Fence.wide.fn 133:=trivial;have cS:adV prog 133:=fun blk off cap zs w hH hb hl=>Any.slices_Sort_int Tryz.Tw blk off cap zs w hH hb hl
 by_cases hz:zs=[]
 ·subst hz
  gi_wp2_with (first
   | (gi_at_call 132;refine cC.mono ?_;clear cC;rintro e w' ⟨v,rfl,hrow,hnil,hb⟩;obtain rfl:v=.slice none 0 0:=hnil.2 rfl)
   | (gi_at_call 133;refine (callsIn_wide.2 (Any.slices_Sort_int_none Tryz.Tw _ _ _)).mono ?_;rintro e2 w2 ⟨rfl,rfl⟩))
  go_ret
  first|exact⟨_,rfl,hb,.inl rfl⟩|exact⟨_,rfl,hb,.inl ⟨rfl,rfl⟩⟩
 ·gi_wp2_with (gi_at_call 132;refine cC.mono ?_;clear cC;rintro e w' ⟨v,rfl,hrow,hnil,hb⟩;obtain⟨g,cap,cur,rfl,k1,k2,k3,k4,k5,k6⟩:∃g cap cur,v=.slice (some ⟨g,0,none⟩) zs.length cap∧w.heap.size<=g∧w'.heap[g]? = some (.cells cur 3 (0,0))∧zs.length<=cap∧cap<=maxLen∧cur.size=cap*1∧cur.toList.take (zs.length*1)=zs.map (Value.int .i64):=hrow.2.resolve_left (fun hv=>hz (hnil.1 hv.1)))
  rw[Nat.mul_one]at k5 k6;have hcur:∀j,j<zs.length->cur[j]? = some (.int .i64 (zs.getD j 0)):=by
   intro j hj;have:(cur.toList.take zs.length)[j]? = (zs.map (Value.int .i64))[j]?:=by rw[k6]
   rw[ag5,if_pos hj,agM,ahH]at this;rw[this];simp[List.getD,hj]
  have hH:Go.Sort.Holds (Value.int .i64) w' g 0 zs.toArray:=by
   intro j hj;simp only[aib]at hj;refine⟨?_,by simp[World.frozen?,k2]⟩;simp only[World.cell?,k2,ahE];rw[hcur j hj];simp[List.getD,hj]
  have hlt:g<w'.heap.size:=(agT.1 k2).1
  gi_wp2_with (gi_at_call 133;refine (callsIn_wide.2 (cS g 0 cap zs w' hH hlt (by omega))).mono ?_;rintro e2 w2 ⟨rfl,q,os,rfl⟩)
  go_ret
  refine⟨_,rfl,?_,.inr ⟨g,cap,Go.Sort.putCells (Value.int .i64) 0 (nN zs).toArray cur,rfl,k1,?_,k3,k4,?_,fun j hj =>?_⟩⟩
  ·refine⟨hb.os,hb.tape,hb.output,agR hb.size (by simp[Go.Sort.grow,Go.Sort.ahead]),fun k hk =>?_⟩;have hk':k<w'.heap.size:=agS hk hb.size;rw[Go.Sort.heap_grow_old _ _ (by simpa [Go.Sort.ahead] using hk'),EF (by omega)];exact hb.block k hk
  ·rw[Go.Sort.heap_grow_old _ _ (by simpa [Go.Sort.ahead] using hlt)];exact ON k2
  ·simp[Go.Sort.putCells,k5]
  ·rw[Kj (by omega),if_pos (by rw[oG];omega),ahB]
theorem Wm:bX prog 102 (dV (dT (mS (eI .i64))) KL (fun r =>.clean (.clo 134 0 [.ip [.sl false false r.length (ab (eI .i64) r)]]))) where
 callable:=⟨_,func102,by kernel_rfl,by kernel_rfl⟩
 calls lent ds rk out hg:=by
  obtain⟨rfl,rfl,l,r,rfl,hr,rfl⟩:=qY hg;cases hr;intro w M vs hM O;have Y:vs.size=1:=O.size;rw[aak Y];have hu:=O.at_ 0 _ rfl;generalize vs.getD 0 undef=u at *;have X:RP w M (.sl false false l.length (ab (eI .i64) l)) u:=hu;obtain⟨A,c,rfl,-⟩:=Sk X;refine (abz A l.length c w).mono fun e w' ⟨he,hw⟩ =>?_;subst hw;have Z:Below w.heap.size w (w.alloc (.cells #[.slice A l.length c] 22)):=(Below.refl _ w).alloc (agP _) _;have hk:∀b,b<w.heap.size->¬M b->b<(w.alloc (.cells #[.slice A l.length c] 22)).heap.size∧¬M b∧(w.alloc (.cells #[.slice A l.length c] 22)).heap[b]? = w.heap[b]?:=fun b h1 h2=>⟨by simp;omega,h2,Z.block b h1⟩;refine⟨_,he,Z,RP.clo _ 0 _ [.pointer (some ⟨w.heap.size,0,none⟩)] rfl fun j x U =>?_⟩;cases j with
  | succ j=>simp at U
  | zero =>
   simp only[List.getElem?_cons_zero,agY]at U;subst U;refine RP.ip _ ⟨w.heap.size,0,none⟩ (fun _ =>.slice A l.length c) (fun _=>⟨w.heap.size,0,rfl,by simp,fun h=>by have:=hM _ h;omega,fun j U =>?_⟩) (fun j x U =>?_) (fun x hx =>?_)
   ·simp only[List.length_cons,List.length_nil]at U;have:j=0:=by omega
    subst this;exact (aR (heap_alloc_new w _) (j:=0) (by simp)).trans rfl
   ·cases j with
    | succ j=>simp at U
    | zero =>
     simp only[List.getElem?_cons_zero,agY]at U;subst U;exact X.keep hk
   ·simp only[ahc]at hx;subst hx;rfl
theorem V6:bX prog 101 (dV (dT (Ju 134 0 (dT (UX (jW (eI .i64)))))) BV (fun r =>.fresh 3 1 r.length (ab (eI .i64) r))) where
 callable:=⟨_,func101,by kernel_rfl,by kernel_rfl⟩
 calls lent ds rk out hg:=by
  obtain⟨rfl,rfl,l,r,rfl,hr,rfl⟩:=qY hg;unfold BV at hr;split at hr;rotate_left
  ·cases hr
  rename_i X;cases hr;intro w M vs hM U;have ae:vs.size=1:=U.size;rw[aak ae];have hu:=U.at_ 0 _ rfl;generalize vs.getD 0 undef=u at *;have ag:RP w M (.clo 134 0 [.ip [.sl false false l.length (ab (eI .i64) l)]]) u:=hu;cases ag with
  | clo f kk xs us h1 h2 =>
   have hp:=h2 0 _ rfl;have ah:us=[us.getD 0 undef]:=by
    match us,h1 with
    | [x],_=>rfl
   rw[ah];generalize us.getD 0 undef=q at *;cases hp with
   | ip xs ad Z h6 h7 h8 =>
    obtain⟨b,o,rfl,hb,al,Y⟩:=h6 (by simp);have O:=Y 0 (by simp);rw[aho]at O;have hs:=h7 0 _ rfl;have hI:Ints w.heap.size w (Z 0) l:=by
     obtain⟨A,c,hA,k1,k2,k3,k4⟩:=Sk hs;rw[hA]
     by_cases hl:l=[]
     ·subst hl;exact .inl ⟨A,c,rfl,rfl⟩
     ·obtain⟨b',o',rfl,ai,an,aj⟩:=k4 hl;exact .inr ⟨b',o',c,rfl,ai,fun j hj=>by rw[aj j hj];simp[List.getD]⟩
    refine (abr b o (Z 0) l X w hb O hI).mono fun e w' ⟨v,he,ak,hv⟩ =>?_;refine⟨v,he,ak,?_⟩;rcases hv with⟨rfl,rfl⟩|⟨g,cap,cs,rfl,k1,k2,k3,k4,k5,k6⟩
    ·refine .inr ⟨?_,?_,none,rfl⟩
     ·rw[IK];rfl
     ·rw[IK];rfl
    ·refine .inl ⟨(g,0),cap,cs,by rw[oG],.inl k1,k2,by rw[oG];exact k3,k4,by simp only;omega,by rw[n5,oG];simp only;omega,fun j d hj =>?_⟩;have aa:=(ahi.1 hj).1;rw[n5,oG]at aa;rw[tG,agN]at hj;obtain⟨z,hz,rfl⟩:=hj;simp only[ahE];rw[k6 j aa];have:(nN l).getD j 0=z:=by simp[List.getD,hz]
     rw[this];exact⟨rfl,.int _ _⟩
end Go.Proofs.YtoioidmblipblaaGreat.Am
