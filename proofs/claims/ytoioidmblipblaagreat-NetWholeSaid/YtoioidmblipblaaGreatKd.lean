import Derived.Test.YtoioidmblipblaaGreatKc
set_option linter.unusedSimpArgs false
set_option linter.unusedVariables false
noncomputable section
open Go.Proofs.Tryz
namespace Go.Proofs.YtoioidmblipblaaGreat.Am
open Go.RowKit
inductive W where
 | code (c:Code)
 | blk (id:Nat)
section
variable (T:Nat->Option Ty) (Γ:Env) (N F:Nat)
def dh:List W->Kt->Kt
 | [],Q=>Q
 | .code c::ws,Q=>fun x t h e=>aeu x (PW T Γ N F c t h e (dh ws Q)) (dh ws Q x t h e)
 | .blk id::ws,Q=>fun x t h e=>W8 id x t h e (dh ws Q)
def kc (ops l:List Oper) (ws:List W) (Q:Kt) (t:Nat->D) (h:Nat->Option Row) (e:Nat):Prop :=
 E6 T Γ N e ops l t h fun t h=>dh T Γ N F ws Q .normal t h (e+1)
def kK (ops l:List Oper) (ws:List W) (Q:Kt) (t:Nat->D) (h:Nat->Option Row) (e:Nat) (fs:List jZ):Prop :=
 runK T Γ N e ops l t h fs fun t h fs=>C8 ops.toArray fs=true∧dh T Γ N F ws Q .normal t h (e+1)
def oA (o:Oper) (ops l:List Oper) (ws:List W) (Q:Kt) (t:Nat->D) (h:Nat->Option Row) (e:Nat):Prop :=
 PU T Γ e o t h fun t E=>kc T Γ N F ops l ws Q (eN t o.dst E.val) (aO h E.hw) e
def oB (o:Oper) (ops l:List Oper) (ws:List W) (Q:Kt) (t:Nat->D) (h:Nat->Option Row) (e:Nat) (fs:List jZ):Prop :=
 PU T Γ e o t h fun t E=>kK T Γ N F ops l ws Q (eN t o.dst E.val) (aO h E.hw) e (fs++[⟨bq o (ev t),E.hw.isEmpty⟩])
def vJ (d:D) (g:Nat) (want:Bool) (o:Oper) (ops l:List Oper) (ws:List W) (Q:Kt) (t:Nat->D) (h:Nat->Option Row) (e:Nat):Prop :=
 wpS d t g (fun t=>if want then oA T Γ N F o ops l ws Q t h e else kc T Γ N F ops l ws Q (eN t o.dst .skp) h e) (fun t=>if want then kc T Γ N F ops l ws Q (eN t o.dst .skp) h e else oA T Γ N F o ops l ws Q t h e) (fun t=>kc T Γ N F ops l ws Q (eN t o.dst .skp) h e)
def vK (d:D) (g:Nat) (want:Bool) (o:Oper) (ops l:List Oper) (ws:List W) (Q:Kt) (t:Nat->D) (h:Nat->Option Row) (e:Nat) (fs:List jZ):Prop :=
 wpS d t g (fun t=>if want then oB T Γ N F o ops l ws Q t h e fs else kK T Γ N F ops l ws Q (eN t o.dst .skp) h e (fs++[⟨[],true⟩])) (fun t=>if want then kK T Γ N F ops l ws Q (eN t o.dst .skp) h e (fs++[⟨[],true⟩]) else oB T Γ N F o ops l ws Q t h e fs) (fun t=>kK T Γ N F ops l ws Q (eN t o.dst .skp) h e (fs++[⟨[],true⟩]))
def Ff (x y:Option bF) (dst:Option Nat) (ops l:List Oper) (ws:List W) (Q:Kt) (t:Nat->D) (h:Nat->Option Row) (e:Nat):Prop :=
 pt (or2 h x y) fun E=>kc T Γ N F ops l ws Q (eN t dst E.val) (aO h E.hw) e
def Fg (x y:Option bF) (dst:Option Nat) (O:List Nat) (ops l:List Oper) (ws:List W) (Q:Kt) (t:Nat->D) (h:Nat->Option Row) (e:Nat) (fs:List jZ):Prop :=
 pt (or2 h x y) fun E=>kK T Γ N F ops l ws Q (eN t dst E.val) (aO h E.hw) e (fs++[⟨O,E.hw.isEmpty⟩])
def yy (x:Option bF) (dst:Option Nat) (ops l:List Oper) (ws:List W) (Q:Kt) (t:Nat->D) (h:Nat->Option Row) (e:Nat):Prop:=Ff T Γ N F x none dst ops l ws Q t h e
def yz (x:Option bF) (dst:Option Nat) (O:List Nat) (ops l:List Oper) (ws:List W) (Q:Kt) (t:Nat->D) (h:Nat->Option Row) (e:Nat) (fs:List jZ):Prop:=Fg T Γ N F x none dst O ops l ws Q t h e fs
def F8 (y:Option bF) (dst:Option Nat) (ops l:List Oper) (ws:List W) (Q:Kt) (t:Nat->D) (h:Nat->Option Row) (e:Nat):Prop :=
 pt y fun E=>kc T Γ N F ops l ws Q (eN t dst E.val) (aO h E.hw) e
def F9 (y:Option bF) (dst:Option Nat) (O:List Nat) (ops l:List Oper) (ws:List W) (Q:Kt) (t:Nat->D) (h:Nat->Option Row) (e:Nat) (fs:List jZ):Prop :=
 pt y fun E=>kK T Γ N F ops l ws Q (eN t dst E.val) (aO h E.hw) e (fs++[⟨O,E.hw.isEmpty⟩])
def KM (d:D) (g:Nat) (x y:Code) (ws:List W) (Q:Kt) (t:Nat->D) (h:Nat->Option Row) (e:Nat):Prop :=
 R6 d t g (fun t=>dh T Γ N F (.code x::ws) Q .normal t h e) (fun t=>dh T Γ N F (.code y::ws) Q .normal t h e)
def YT (d:D) (g:Nat) (a b:Operand) (dst:Option Nat) (ops l:List Oper) (ws:List W) (Q:Kt) (t:Nat->D) (h:Nat->Option Row) (e:Nat):Prop :=
 R6 d t g (fun t=>kc T Γ N F ops l ws Q (eN t dst (ev t a)) h e) (fun t=>kc T Γ N F ops l ws Q (eN t dst (ev t b)) h e)
def YU (d:D) (g:Nat) (a b:Operand) (dst:Option Nat) (ops l:List Oper) (ws:List W) (Q:Kt) (t:Nat->D) (h:Nat->Option Row) (e:Nat) (fs:List jZ):Prop :=
 R6 d t g (fun t=>kK T Γ N F ops l ws Q (eN t dst (ev t a)) h e (fs++[⟨[],true⟩])) (fun t=>kK T Γ N F ops l ws Q (eN t dst (ev t b)) h e (fs++[⟨[],true⟩]))
def T8 (b:Code) (ws:List W) (Q:Kt) (t:Nat->D) (h:Nat->Option Row) (e:Nat):Prop:=PW T Γ N F (.loop b) t h e (dh T Γ N F ws Q)
end
theorem HW {n:Nat} (h:n<=1000000):n<=maxLen:=agE h (by decide)
theorem IA {z:List D} : mA 0 z=[]:=ajz
theorem Iz {n:Nat} {z:List D} : mA (n+1) z=z++mA n z:=by simp[mA,List.replicate_succ]
theorem HA {N:Nat} : fits N none=true:=ajz
theorem HB {N i:Nat} : fits N (some i)=decide (i<N):=ajz
def tv:List Oper->Nat->Nat
 | [],_=>0
 | o::_,0=>o.dst.getD 0
 | _::l,j+1=>tv l j
def xW:List Oper->Nat->Bool
 | [],_=>false
 | o::_,0=>o.dst.isSome
 | _::l,j+1=>xW l j
theorem C4:∀(l:List Oper) (j:Nat),xW l j=true->(l[j]?).bind (·.dst)=some (tv l j)
 | [],j,h=>by simp[xW]at h
 | o::l,0,h=>by
  simp only[xW]at h;simp only[List.getElem?_cons_zero,Option.bind_some,tv];cases O:o.dst with
  | none=>rw[O]at h;cases h
  | some d=>rfl
 | o::l,j+1,h=>by simpa [tv] using C4 l j h
theorem C6 {d:Nat} {op:Op} {ty:Nat} {pos:String} {af:Array Edge} {gd:Option (Nat×Bool)} {l:List Oper} : tv (⟨some d,op,ty,pos,af,gd⟩::l) 0=d:=ajz
theorem C5 {o:Oper} {l:List Oper} {j:Nat} : tv (o::l) (j+1)=tv l j:=ajz
theorem DR {d:Nat} {op:Op} {ty:Nat} {pos:String} {af:Array Edge} {gd:Option (Nat×Bool)} {l:List Oper} : xW (⟨some d,op,ty,pos,af,gd⟩::l) 0=true:=ajz
theorem DQ {o:Oper} {l:List Oper} {j:Nat} : xW (o::l) (j+1)=xW l j:=ajz
section
variable {dst:Option Nat} {ty:Nat} {pos:String} {af:Array Edge} {gd:Option (Nat×Bool)} {vs:Operand->D}
def yi (vs:Operand->D):List Operand->List Nat
 | []=>[]
 | x::l=>nm (vs x)++yi vs l
theorem fO (vs:Operand->D):∀l:List Operand,(l.flatMap fun x=>nm (vs x))=yi vs l
 | []=>Eq.trans rfl rfl
 | x::l=>by rw[aic,fO vs l];exact Eq.trans rfl rfl
theorem TQ:yi vs []=[]:=ajz
theorem Of {x:Operand} {l:List Operand} : yi vs (x::l)=nm (vs x)++yi vs l:=ajz
theorem A9 {o:BinOp} {O z:Nat} {x y:Operand} : bq ⟨dst,.binOp o O x y z,ty,pos,af,gd⟩ vs=(yi vs [x,y]++dst.toList).map rt:=by rw[<- fO];rfl
theorem Fm {o:UnOp} {O:Nat} {x:Operand} : bq ⟨dst,.unOp o O x,ty,pos,af,gd⟩ vs=(yi vs [x]++dst.toList).map rt:=by rw[<- fO];rfl
theorem yC {x:Operand} : bq ⟨dst,.assign x,ty,pos,af,gd⟩ vs=(yi vs [x]++dst.toList).map rt:=by rw[<- fO];rfl
theorem Fl {O:Nat} {x:Operand} : bq ⟨dst,.load O x,ty,pos,af,gd⟩ vs=(yi vs [x]++dst.toList).map rt:=by rw[<- fO];rfl
theorem Be {O:Nat} {x y:Operand} : bq ⟨dst,.store O x y,ty,pos,af,gd⟩ vs=(yi vs [x,y]++dst.toList).map rt:=by rw[<- fO];rfl
theorem uu {x:Operand} : bq ⟨dst,.nilCheck x,ty,pos,af,gd⟩ vs=(yi vs [x]++dst.toList).map rt:=by rw[<- fO];rfl
theorem sR {O i:Nat} {x:Operand} : bq ⟨dst,.fieldAddr O x i,ty,pos,af,gd⟩ vs=(yi vs [x]++dst.toList).map rt:=by rw[<- fO];rfl
theorem Bb {O i:Nat} {x:Operand} : bq ⟨dst,.field O x i,ty,pos,af,gd⟩ vs=(yi vs [x]++dst.toList).map rt:=by rw[<- fO];rfl
theorem sS {O:Nat} {x i:Operand} : bq ⟨dst,.indexAddr O x i,ty,pos,af,gd⟩ vs=(yi vs [x,i]++dst.toList).map rt:=by rw[<- fO];rfl
theorem Bc {O:Nat} {x i:Operand} : bq ⟨dst,.index O x i,ty,pos,af,gd⟩ vs=(yi vs [x,i]++dst.toList).map rt:=by rw[<- fO];rfl
theorem sT {O:Nat} {x y:Operand} : bq ⟨dst,.makeSlice O x y,ty,pos,af,gd⟩ vs=(yi vs [x,y]++dst.toList).map rt:=by rw[<- fO];rfl
theorem A8 {O:Nat} : bq ⟨dst,.alloc O,ty,pos,af,gd⟩ vs=(yi vs []++dst.toList).map rt:=by rw[<- fO];rfl
theorem Jc {O:Nat} {x:Operand} : bq ⟨dst,.box O x,ty,pos,af,gd⟩ vs=(yi vs [x]++dst.toList).map rt:=by rw[<- fO];rfl
theorem we {O:Nat} : bq ⟨dst,.makeMap O none,ty,pos,af,gd⟩ vs=(yi vs []++dst.toList).map rt:=by rw[<- fO];rfl
theorem yE {O:Nat} {m i:Operand} {ok:Bool} : bq ⟨dst,.lookup O m i ok,ty,pos,af,gd⟩ vs=(yi vs [m,i]++dst.toList).map rt:=by rw[<- fO];rfl
theorem sU {O:Nat} {m i x:Operand} : bq ⟨dst,.mapUpdate O m i x,ty,pos,af,gd⟩ vs=(yi vs [m,i,x]++dst.toList).map rt:=by rw[<- fO];rfl
theorem yD {O:Nat} {m i x:Operand} : bq ⟨dst,.insert O m i x,ty,pos,af,gd⟩ vs=(yi vs [m,i,x]++dst.toList).map rt:=by rw[<- fO];rfl
theorem wb {a b:Nat} {x:Operand} : bq ⟨dst,.convert a b x,ty,pos,af,gd⟩ vs=(yi vs [x]++dst.toList).map rt:=by rw[<- fO];rfl
theorem wc {x:Operand} {i:Nat} : bq ⟨dst,.extract x i,ty,pos,af,gd⟩ vs=(yi vs [x]++dst.toList).map rt:=by rw[<- fO];rfl
theorem Ba {U:Nat} {O:List (Nat×Operand)} : bq ⟨dst,.build U O.toArray,ty,pos,af,gd⟩ vs=(yi vs (O.map (·.2))++dst.toList).map rt:=by rw[<- fO];rfl
theorem rn {U len:Nat} {O:List (Nat×Operand)} : bq ⟨dst,.buildSlice U len O.toArray,ty,pos,af,gd⟩ vs=(yi vs (O.map (·.2))++dst.toList).map rt:=by rw[<- fO];rfl
theorem Bd {Y:Nat} {x:Operand} {O U X:Option Operand} : bq ⟨dst,.slice Y x O U X,ty,pos,af,gd⟩ vs=(yi vs (x::(O.toList++(U.toList++X.toList)))++dst.toList).map rt:=by
 rw[<- fO];cases O<;>cases U<;>cases X<;>rfl
theorem Fk {x:Operand} {l:List Operand} {O:Array Nat} : bq ⟨dst,.call ⟨.value x,l.toArray,O⟩,ty,pos,af,gd⟩ vs=(yi vs (x::l)++dst.toList).map rt:=by
 rw[<- fO];simp[bq,gu,Op.operands,Call.operands]
theorem wa {x:Builtin} {l:List Operand} {O:Array Nat} : bq ⟨dst,.call ⟨.builtin x,l.toArray,O⟩,ty,pos,af,gd⟩ vs=(yi vs l++dst.toList).map rt:=by
 rw[<- fO];simp[bq,gu,Op.operands,Call.operands]
end
section
variable {T:Nat->Option Ty} {ty e:Nat} {dst:Option Nat} {h:Nat->Option Row}
theorem SB {k:IntKind} {n:Int} : bS T ty e dst h (.int k n)=some ⟨.int k n,[]⟩:=ajz
theorem La {b:Bool} : bS T ty e dst h (.bool b)=some ⟨.bool b,[]⟩:=ajz
theorem SF {b:ByteArray} : bS T ty e dst h (.str b)=some ⟨.str b,[]⟩:=ajz
theorem W5 {O:Bool} {n:Nat} {xs:List D} : bS T ty e dst h (.sl false O n xs)=some ⟨.sl false O n xs,[]⟩:=ajz
theorem SE {x v o:Nat} : bS T ty e dst h (.ptr x v o)=some ⟨.ptr x v o,[]⟩:=ajz
theorem W1 {xs:List D} : bS T ty e dst h (.ip xs)=some ⟨.ip xs,[]⟩:=ajz
theorem Sz {xs:List D} : bS T ty e dst h (.agg xs)=some ⟨.agg xs,[]⟩:=ajz
theorem SG {xs:List D} : bS T ty e dst h (.tup xs)=some ⟨.tup xs,[]⟩:=ajz
theorem W0 {f:Nat} : bS T ty e dst h (.fn f)=some ⟨.fn f,[]⟩:=ajz
theorem W2 {x v:Nat} : bS T ty e dst h (.mp x v)=some ⟨.mp x v,[]⟩:=ajz
theorem SC {ks:List cr} {vs:List D} : bS T ty e dst h (.mpc ks vs)=some ⟨.mpc ks vs,[]⟩:=ajz
theorem W4 {x v y:Nat} : bS T ty e dst h (.pm x v y)=some ⟨.pm x v y,[]⟩:=ajz
theorem BQ {f O:Nat} {xs:List D} : bS T ty e dst h (.clo f O xs)=some ⟨.clo f O xs,[]⟩:=ajz
def acJ (b:Bool) (T:Nat->Option Ty) (ty e d:Nat) (h:Nat->Option Row) (x:D):Option bF:=if b then bS T ty e (some d) h x else im h x
theorem Gs {d:Nat} {x:D} : acJ true T ty e d h x=bS T ty e (some d) h x:=ajz
theorem Ct {d:Nat} {x:D} : acJ false T ty e d h x=im h x:=ajz
theorem abN {q:Nat->Bool} {d:Nat} {x:D} : qv T q ty e (some d) h x=acJ (q d) T ty e d h x:=ajz
theorem Sw {k:IntKind} {n:Int} : im h (.int k n)=some ⟨.int k n,[]⟩:=ajz
theorem K4 {b:Bool} : im h (.bool b)=some ⟨.bool b,[]⟩:=ajz
theorem Sx {b:ByteArray} : im h (.str b)=some ⟨.str b,[]⟩:=ajz
theorem Su {xs:List D} : im h (.agg xs)=some ⟨.agg (xs.map canon),[]⟩:=ajz
theorem WJ {a b:Bool} {n:Nat} {xs:List D} : im h (.sl a b n xs)=some ⟨.sl false false n xs,[]⟩:=ajz
theorem SH:bS T ty e dst h .und=some ⟨.und,[]⟩:=ajz
def aaw (e d y s o n:Nat) (r:Row):Bool->Option bF
 | true=>some ⟨.buf y r.v s o n,[]⟩
 | false=>some ⟨.buf d e s o n,[(y,none),(d,some { r with v:=e })]⟩
theorem Cs {d y s o n:Nat} {r:Row} : aaw e d y s o n r false=some ⟨.buf d e s o n,[(y,none),(d,some { r with v:=e })]⟩:=ajz
def acI (y v s o n:Nat):Option Row->Option bF
 | some _=>some ⟨.buf y v s o n,[]⟩
 | none=>some ⟨.und,[]⟩
theorem Gn {y v s o n:Nat} {r:Row} : acI y v s o n (some r)=some ⟨.buf y v s o n,[]⟩:=ajz
def WZ (e:Nat) (dst:Option Nat) (y s o n:Nat) (w:Option bF):Option Row->Option bF
 | some r=>match dst with|some d=>aaw e d y s o n r r.fz|none=>w
 | none=>w
theorem Gq {d y s o n:Nat} {r:Row} {w:Option bF} : WZ e (some d) y s o n w (some r)=aaw e d y s o n r r.fz:=ajz
theorem Gp {d y s o n:Nat} {w:Option bF} : WZ e (some d) y s o n w none=w:=ajz
theorem SA {d y v s o n:Nat} : bS T ty e (some d) h (.buf y v s o n)=WZ e (some d) y s o n (acI y v s o n (mX h y v)) (live h y v):=by
 simp only[bS];cases O:live h y v with
 | none=>simp only[WZ];cases mX h y v<;>simp[acI]
 | some r =>
  obtain⟨_,U⟩:=cq O;simp only[WZ];cases X:r.fz<;>simp[aaw,U,X]
def aax (e:Nat) (dst:Option Nat) (T:Nat->Option Ty):Option Ty->Option bF
 | some τ =>
  match dst with
  | some d=>match τ.ds with
   | .slice el=>match T el with|some φ=>some ⟨.buf d e φ.size 0 0,[(d,some ⟨e,el,[],false,true,false⟩)]⟩|none=>none
   | _=>none
  | none=>none
 | none=>none
theorem Gr {d el b c:Nat} {z:List Value} {q:Bool} {φ:Ty} (O:T el=some φ):aax e (some d) T (some ⟨.slice el,b,c,z,q⟩)=some ⟨.buf d e φ.size 0 0,[(d,some ⟨e,el,[],false,true,false⟩)]⟩:=by simp only[aax,O]
theorem SD:bS T ty e dst h (.sl true true 0 [])=aax e dst T (T ty):=by
 unfold bS aax;cases dst<;>cases T ty<;>rfl
end
def okD (x:Option D):Option bF:=match x with|some d=>some ⟨d,[]⟩|none=>none
theorem Oy (d:D):okD (some d)=some ⟨d,[]⟩:=ajz
def w7 (x:Option Ty) (f:Ty->Option bF):Option bF:=match x with|some τ=>f τ|none=>none
theorem OJ (τ:Ty) (f:Ty->Option bF):w7 (some τ) f=f τ:=ajz
def acK (x:Option (List D×List Nat)) (h:Nat->Option Row) (ty d e:Nat):Option bF :=
 match x with
 | some (cs,fr)=>if fr.contains d=false then some ⟨.ptr d e 0,iF h fr++[(d,some ⟨e,ty,cs,false,false,false⟩)]⟩ else none
 | none=>none
theorem Gv (cs:List D) (fr:List Nat) (h:Nat->Option Row) (ty d e:Nat):acK (some (cs,fr)) h ty d e=if fr.contains d=false then some ⟨.ptr d e 0,iF h fr++[(d,some ⟨e,ty,cs,false,false,false⟩)]⟩ else none:=ajz
def aa9 (d e:Nat):Option Nat->D
 | some y =>.pm d e y
 | none =>.ptr d e 0
theorem Ix {d e y:Nat} : aa9 d e (some y)=.pm d e y:=ajz
theorem Iw {d e:Nat} : aa9 d e none=.ptr d e 0:=ajz
def Cq (x:Option Ty) (ty d e:Nat) (y:Option Nat):Option bF :=
 match x with
 | some τ=>if (τ.zero.map lN).all ba then some ⟨aa9 d e y,[(d,some ⟨e,ty,τ.zero.map lN,false,false,false⟩)]⟩ else none
 | none=>none
theorem Aa (τ:Ty) (ty d e:Nat) (y:Option Nat):Cq (some τ) ty d e y=if (τ.zero.map lN).all ba then some ⟨aa9 d e y,[(d,some ⟨e,ty,τ.zero.map lN,false,false,false⟩)]⟩ else none:=ajz
def VK (T:Nat->Option Ty) (x:Option Ty) (ty e d:Nat):Option bF:=match x with|some τ=>ml T ty τ e d|none=>none
theorem YB {T:Nat->Option Ty} {τ φ:Ty} {b:Bool} {ty e d:Nat} (hm:D9 T τ=some (b,φ)) (O:ty<900000):VK T (some τ) ty e d=some ⟨.mp d e,[(d,some ⟨e,ty,[.mpc [] []],false,true,true⟩)]⟩:=by simp only[VK,ml,hm];rw[if_neg (by omega)]
def Xs (x y:Option Ty) (d:D):Option bF :=
 match x,y,d with
 | some τ,some _,.int _ n=>(match τ.ds with | .int k=>some ⟨.int k (k.wrap n),[]⟩|_=>none)
 | _,_,_=>none
theorem GS (k:IntKind) (b c:Nat) (z:List Value) (q:Bool) (σ:Ty) (k':IntKind) (n:Int):Xs (some ⟨.int k,b,c,z,q⟩) (some σ) (.int k' n)=some ⟨.int k (k.wrap n),[]⟩:=ajz
def aaQ (d:D) (i:Nat):Option bF:=match d with | .tup xs=>(match xs[i]? with|some d=>some ⟨d,[]⟩|none=>none)|_=>none
theorem MA (xs:List D) (i:Nat):aaQ (.tup xs) i=okD xs[i]?:=by simp only[aaQ,okD]
section
variable {T:Nat->Option Ty} {Γ:Env} {N F e:Nat} {ws:List W} {Q:Kt} {t:Nat->D} {h:Nat->Option Row}
theorem cK {x:Ex} : dh T Γ N F [] Q x t h e=Q x t h e:=ajz
theorem IK:dh T Γ N F (.code .skip::ws) Q .normal t h e=dh T Γ N F ws Q .normal t h e:=ajz
theorem O4 {a b:Code} : dh T Γ N F (.code (.seq a b)::ws) Q .normal t h e=dh T Γ N F (.code a :: .code b::ws) Q .normal t h e:=ajz
theorem O3:dh T Γ N F (.code .ret::ws) Q .normal t h e=dh T Γ N F ws Q .ret t h e:=ajz
theorem II {id:Nat} : dh T Γ N F (.code (.exit id)::ws) Q .normal t h e=dh T Γ N F ws Q (.exit id) t h e:=ajz
theorem E7 {id:Nat} {b:Code} : dh T Γ N F (.code (.block id b)::ws) Q .normal t h e=dh T Γ N F (.code b :: .blk id::ws) Q .normal t h e:=ajz
theorem IJ {b:Code} : dh T Γ N F (.code (.loop b)::ws) Q .normal t h e=T8 T Γ N F b ws Q t h e:=ajz
theorem bg {c:Code} : dh T Γ N F (.code c::ws) Q .ret t h e=dh T Γ N F ws Q .ret t h e:=ajz
theorem aY {c:Code} {n:Nat} : dh T Γ N F (.code c::ws) Q (.exit n) t h e=dh T Γ N F ws Q (.exit n) t h e:=ajz
theorem sP {id:Nat} : dh T Γ N F (.blk id::ws) Q .normal t h e=dh T Γ N F ws Q .normal t h e:=ajz
theorem bk {id:Nat} : dh T Γ N F (.blk id::ws) Q .ret t h e=dh T Γ N F ws Q .ret t h e:=ajz
theorem v7 {id n:Nat} : dh T Γ N F (.blk id::ws) Q (.exit n) t h e=if n=id then dh T Γ N F ws Q .normal t h e else dh T Γ N F ws Q (.exit n) t h e:=ajz
theorem A5 {i:Nat} {ops:List Oper} : dh T Γ N F (.code (.region i ops.toArray false)::ws) Q .normal t h e=kc T Γ N F ops ops ws Q t h e:=ajz
theorem Fa {i:Nat} {ops:List Oper} : dh T Γ N F (.code (.region i ops.toArray true)::ws) Q .normal t h e=kK T Γ N F ops ops ws Q t h e []:=ajz
theorem IH {g:Nat} {x y:Code} : dh T Γ N F (.code (.cond (.tmp g) x y)::ws) Q .normal t h e=KM T Γ N F (t g) g x y ws Q t h e:=ajz
theorem E9 {x y:Code} : dh T Γ N F (.code (.cond (.const (.bool true)) x y)::ws) Q .normal t h e=dh T Γ N F (.code x::ws) Q .normal t h e:=ajz
theorem E8 {x y:Code} : dh T Γ N F (.code (.cond (.const (.bool false)) x y)::ws) Q .normal t h e=dh T Γ N F (.code y::ws) Q .normal t h e:=ajz
theorem Je {g:Nat} {x y:Code} (O:t g=.bool true):KM T Γ N F (.bool true) g x y ws Q t h e=dh T Γ N F (.code x::ws) Q .normal t h e:=yH O
theorem Fp {g:Nat} {x y:Code} (O:t g=.bool false):KM T Γ N F (.bool false) g x y ws Q t h e=dh T Γ N F (.code y::ws) Q .normal t h e:=vw O
theorem Wa {b:Bool} {g:Nat} {x y:Code} : KM T Γ N F (.bool b) g x y ws Q t h e=br b (dh T Γ N F (.code x::ws) Q .normal (bI t g (.bool true)) h e) (dh T Γ N F (.code y::ws) Q .normal (bI t g (.bool false)) h e):=by
 unfold KM;rw[aag];cases b<;>simp[br]
variable {ops l:List Oper} {dst:Option Nat} {op:Op} {ty:Nat} {pos:String} {af:Array Edge} {gd:Option (Nat×Bool)} {fs:List jZ}
theorem O1:kc T Γ N F ops [] ws Q t h e=dh T Γ N F ws Q .normal t h (e+1):=ajz
theorem IF (O:fits N dst=true):kc T Γ N F ops (⟨dst,op,ty,pos,af,none⟩::l) ws Q t h e=oA T Γ N F ⟨dst,op,ty,pos,af,none⟩ ops l ws Q t h e:=by
 simp only[kc,E6,wpG,O,true_and,oA]
theorem E4 {j:Nat} {want:Bool} (O:fits N dst=true) (U:xW ops j=true):kc T Γ N F ops (⟨dst,op,ty,pos,af,some (j,want)⟩::l) ws Q t h e=vJ T Γ N F (t (tv ops j)) (tv ops j) want ⟨dst,op,ty,pos,af,none⟩ ops l ws Q t h e:=by
 simp only[kc,E6,wpG,O,true_and,C4 ops j U,sg,vJ];cases want<;>rfl
theorem PF {g:Nat} {want:Bool} {o:Oper} : vJ T Γ N F .skp g want o ops l ws Q t h e=kc T Γ N F ops l ws Q (eN t o.dst .skp) h e:=ajz
theorem Jf {g:Nat} {o:Oper} (O:t g=.bool true):vJ T Γ N F (.bool true) g true o ops l ws Q t h e=oA T Γ N F o ops l ws Q t h e:=(yK O).trans (if_pos rfl)
theorem Fq {g:Nat} {o:Oper} (O:t g=.bool false):vJ T Γ N F (.bool false) g true o ops l ws Q t h e=kc T Γ N F ops l ws Q (eN t o.dst .skp) h e:=(vx O).trans (if_pos rfl)
theorem Fs {g:Nat} {o:Oper} (O:t g=.bool true):vJ T Γ N F (.bool true) g false o ops l ws Q t h e=kc T Γ N F ops l ws Q (eN t o.dst .skp) h e:=(yK O).trans (if_neg (by decide))
theorem Bf {g:Nat} {o:Oper} (O:t g=.bool false):vJ T Γ N F (.bool false) g false o ops l ws Q t h e=oA T Γ N F o ops l ws Q t h e:=(vx O).trans (if_neg (by decide))
theorem Wb {b:Bool} {g:Nat} {o:Oper} : vJ T Γ N F (.bool b) g true o ops l ws Q t h e=br b (oA T Γ N F o ops l ws Q (bI t g (.bool true)) h e) (kc T Γ N F ops l ws Q (eN (bI t g (.bool false)) o.dst .skp) h e):=by
 unfold vJ;rw[yJ];cases b<;>simp[br]
theorem RV {b:Bool} {g:Nat} {o:Oper} : vJ T Γ N F (.bool b) g false o ops l ws Q t h e=br b (kc T Γ N F ops l ws Q (eN (bI t g (.bool true)) o.dst .skp) h e) (oA T Γ N F o ops l ws Q (bI t g (.bool false)) h e):=by
 unfold vJ;rw[yJ];cases b<;>simp[br]
theorem O2:kK T Γ N F ops [] ws Q t h e fs=(C8 ops.toArray fs=true∧dh T Γ N F ws Q .normal t h (e+1)):=ajz
theorem IG (O:fits N dst=true):kK T Γ N F ops (⟨dst,op,ty,pos,af,none⟩::l) ws Q t h e fs=oB T Γ N F ⟨dst,op,ty,pos,af,none⟩ ops l ws Q t h e fs:=by
 simp only[kK,runK,wpG,O,true_and,oB]
theorem E5 {j:Nat} {want:Bool} (O:fits N dst=true) (U:xW ops j=true):kK T Γ N F ops (⟨dst,op,ty,pos,af,some (j,want)⟩::l) ws Q t h e fs=vK T Γ N F (t (tv ops j)) (tv ops j) want ⟨dst,op,ty,pos,af,none⟩ ops l ws Q t h e fs:=by
 simp only[kK,runK,wpG,O,true_and,C4 ops j U,sg,vK];cases want<;>rfl
theorem PG {g:Nat} {want:Bool} {o:Oper} : vK T Γ N F .skp g want o ops l ws Q t h e fs=kK T Γ N F ops l ws Q (eN t o.dst .skp) h e (fs++[⟨[],true⟩]):=ajz
theorem Jg {g:Nat} {o:Oper} (O:t g=.bool true):vK T Γ N F (.bool true) g true o ops l ws Q t h e fs=oB T Γ N F o ops l ws Q t h e fs:=(yK O).trans (if_pos rfl)
theorem Ft {g:Nat} {o:Oper} (O:t g=.bool false):vK T Γ N F (.bool false) g true o ops l ws Q t h e fs=kK T Γ N F ops l ws Q (eN t o.dst .skp) h e (fs++[⟨[],true⟩]):=(vx O).trans (if_pos rfl)
theorem Fu {g:Nat} {o:Oper} (O:t g=.bool true):vK T Γ N F (.bool true) g false o ops l ws Q t h e fs=kK T Γ N F ops l ws Q (eN t o.dst .skp) h e (fs++[⟨[],true⟩]):=(yK O).trans (if_neg (by decide))
theorem Bg {g:Nat} {o:Oper} (O:t g=.bool false):vK T Γ N F (.bool false) g false o ops l ws Q t h e fs=oB T Γ N F o ops l ws Q t h e fs:=(vx O).trans (if_neg (by decide))
theorem Wc {b:Bool} {g:Nat} {o:Oper} : vK T Γ N F (.bool b) g true o ops l ws Q t h e fs=br b (oB T Γ N F o ops l ws Q (bI t g (.bool true)) h e fs) (kK T Γ N F ops l ws Q (eN (bI t g (.bool false)) o.dst .skp) h e (fs++[⟨[],true⟩])):=by
 unfold vK;rw[yJ];cases b<;>simp[br]
theorem RW {b:Bool} {g:Nat} {o:Oper} : vK T Γ N F (.bool b) g false o ops l ws Q t h e fs=br b (kK T Γ N F ops l ws Q (eN (bI t g (.bool true)) o.dst .skp) h e (fs++[⟨[],true⟩])) (oB T Γ N F o ops l ws Q (bI t g (.bool false)) h e fs):=by
 unfold vK;rw[yJ];cases b<;>simp[br]
theorem Pk {d:D} {hw:List (Nat×Option Row)} : yy T Γ N F (some ⟨d,hw⟩) dst ops l ws Q t h e=kc T Γ N F ops l ws Q (eN t dst d) (aO h (jW h hw)) e:=ajz
theorem Pt {d:D} {hw:List (Nat×Option Row)} {O:List Nat} : yz T Γ N F (some ⟨d,hw⟩) dst O ops l ws Q t h e fs=kK T Γ N F ops l ws Q (eN t dst d) (aO h (jW h hw)) e (fs++[⟨O,(jW h hw).isEmpty⟩]):=ajz
theorem Ui {c:Prop} [Decidable c] {E:bF} : yy T Γ N F (if c then some E else none) dst ops l ws Q t h e=(c∧yy T Γ N F (some E) dst ops l ws Q t h e):=by
 by_cases O:c<;>simp[O,yy,Ff,or2,pt]
theorem Un {c:Prop} [Decidable c] {E:bF} {O:List Nat} : yz T Γ N F (if c then some E else none) dst O ops l ws Q t h e fs=(c∧yz T Γ N F (some E) dst O ops l ws Q t h e fs):=by
 by_cases U:c<;>simp[U,yz,Fg,or2,pt]
theorem IV {E:bF} {y:Option bF} : Ff T Γ N F (some E) y dst ops l ws Q t h e=yy T Γ N F (some E) dst ops l ws Q t h e:=ajz
theorem I5 {E:bF} {y:Option bF} {O:List Nat} : Fg T Γ N F (some E) y dst O ops l ws Q t h e fs=yz T Γ N F (some E) dst O ops l ws Q t h e fs:=ajz
theorem IU {y:Option bF} : Ff T Γ N F none y dst ops l ws Q t h e=F8 T Γ N F y dst ops l ws Q t h e:=ajz
theorem I4 {y:Option bF} {O:List Nat} : Fg T Γ N F none y dst O ops l ws Q t h e fs=F9 T Γ N F y dst O ops l ws Q t h e fs:=ajz
theorem Uh {x:Option bF} : Ff T Γ N F x none dst ops l ws Q t h e=yy T Γ N F x dst ops l ws Q t h e:=ajz
theorem Um {x:Option bF} {O:List Nat} : Fg T Γ N F x none dst O ops l ws Q t h e fs=yz T Γ N F x dst O ops l ws Q t h e fs:=ajz
theorem IW {d:D} {hw:List (Nat×Option Row)} : F8 T Γ N F (some ⟨d,hw⟩) dst ops l ws Q t h e=kc T Γ N F ops l ws Q (eN t dst d) (aO h hw) e:=ajz
theorem I6 {d:D} {hw:List (Nat×Option Row)} {O:List Nat} : F9 T Γ N F (some ⟨d,hw⟩) dst O ops l ws Q t h e fs=kK T Γ N F ops l ws Q (eN t dst d) (aO h hw) e (fs++[⟨O,hw.isEmpty⟩]):=ajz
theorem Pj {c:Prop} [Decidable c] {E:bF} : F8 T Γ N F (if c then some E else none) dst ops l ws Q t h e=(c∧F8 T Γ N F (some E) dst ops l ws Q t h e):=by
 by_cases O:c<;>simp[O,F8,pt]
theorem Ps {c:Prop} [Decidable c] {E:bF} {O:List Nat} : F9 T Γ N F (if c then some E else none) dst O ops l ws Q t h e fs=(c∧F9 T Γ N F (some E) dst O ops l ws Q t h e fs):=by
 by_cases U:c<;>simp[U,F9,pt]
theorem ER {g:Nat} {a b:Operand} (O:t g=.bool true):YT T Γ N F (.bool true) g a b dst ops l ws Q t h e=kc T Γ N F ops l ws Q (eN t dst (ev t a)) h e:=yH O
theorem A0 {g:Nat} {a b:Operand} (O:t g=.bool false):YT T Γ N F (.bool false) g a b dst ops l ws Q t h e=kc T Γ N F ops l ws Q (eN t dst (ev t b)) h e:=vw O
theorem ES {g:Nat} {a b:Operand} (O:t g=.bool true):YU T Γ N F (.bool true) g a b dst ops l ws Q t h e fs=kK T Γ N F ops l ws Q (eN t dst (ev t a)) h e (fs++[⟨[],true⟩]):=yH O
theorem A1 {g:Nat} {a b:Operand} (O:t g=.bool false):YU T Γ N F (.bool false) g a b dst ops l ws Q t h e fs=kK T Γ N F ops l ws Q (eN t dst (ev t b)) h e (fs++[⟨[],true⟩]):=vw O
theorem L7 {c:Nat} {a b:Operand} : oA T Γ N F ⟨dst,.pick (.tmp c) a b,ty,pos,af,gd⟩ ops l ws Q t h e=YT T Γ N F (t c) c a b dst ops l ws Q t h e:=ajz
theorem Md {c:Nat} {a b:Operand} : oB T Γ N F ⟨dst,.pick (.tmp c) a b,ty,pos,af,gd⟩ ops l ws Q t h e fs=YU T Γ N F (t c) c a b dst ops l ws Q t h e fs:=ajz
theorem xC {x y:Option bF} (U:∀c a b,op ≠ .pick c a b) (hm:gA T Γ e ⟨dst,op,ty,pos,af,gd⟩ (ev t)=none) (O:lT Γ e h dst (gX (ev t) op)=none) (X:lS T Γ e ⟨dst,op,ty,pos,af,gd⟩ (ev t) (EH h)=x) (Y:tB T Γ e ⟨dst,op,ty,pos,af,gd⟩ (ev t) h=y):oA T Γ N F ⟨dst,op,ty,pos,af,gd⟩ ops l ws Q t h e=Ff T Γ N F x y dst ops l ws Q t h e:=by
 subst X;subst Y;unfold oA Ff PU nX;rw[hm];simp only;rw[O];cases op<;>first|rfl|exact absurd rfl (U _ _ _)
theorem xF {x y:Option bF} (U:∀c a b,op ≠ .pick c a b) (hm:gA T Γ e ⟨dst,op,ty,pos,af,gd⟩ (ev t)=none) (O:lT Γ e h dst (gX (ev t) op)=none) (X:lS T Γ e ⟨dst,op,ty,pos,af,gd⟩ (ev t) (EH h)=x) (Y:tB T Γ e ⟨dst,op,ty,pos,af,gd⟩ (ev t) h=y):oB T Γ N F ⟨dst,op,ty,pos,af,gd⟩ ops l ws Q t h e fs=Fg T Γ N F x y dst (bq ⟨dst,op,ty,pos,af,gd⟩ (ev t)) ops l ws Q t h e fs:=by
 subst X;subst Y;unfold oB Fg PU nX;rw[hm];simp only;rw[O];cases op<;>first|rfl|exact absurd rfl (U _ _ _)
theorem eU {x:Option bF} (U:∀c a b,op ≠ .pick c a b) (X:lS T Γ e ⟨dst,op,ty,pos,af,gd⟩ (ev t) (EH h)=x) (hm:gA T Γ e ⟨dst,op,ty,pos,af,gd⟩ (ev t)=none:=by rfl) (Y:tB T Γ e ⟨dst,op,ty,pos,af,gd⟩ (ev t) h=none:=by rfl) (O:lT Γ e h dst (gX (ev t) op)=none:=by first|rfl|(cases dst<;>rfl)):oA T Γ N F ⟨dst,op,ty,pos,af,gd⟩ ops l ws Q t h e=yy T Γ N F x dst ops l ws Q t h e:=xC U hm O X Y
theorem eV {x:Option bF} (U:∀c a b,op ≠ .pick c a b) (X:lS T Γ e ⟨dst,op,ty,pos,af,gd⟩ (ev t) (EH h)=x) (hm:gA T Γ e ⟨dst,op,ty,pos,af,gd⟩ (ev t)=none:=by rfl) (Y:tB T Γ e ⟨dst,op,ty,pos,af,gd⟩ (ev t) h=none:=by rfl) (O:lT Γ e h dst (gX (ev t) op)=none:=by first|rfl|(cases dst<;>rfl)):oB T Γ N F ⟨dst,op,ty,pos,af,gd⟩ ops l ws Q t h e fs=yz T Γ N F x dst (bq ⟨dst,op,ty,pos,af,gd⟩ (ev t)) ops l ws Q t h e fs:=xF U hm O X Y
theorem L6 {x:Operand} : oA T Γ N F ⟨dst,.move x,ty,pos,af,gd⟩ ops l ws Q t h e=kc T Γ N F ops l ws Q (eN t dst (ev t x)) h e:=(eU (fun _ _ _ O=>by cases O) rfl).trans rfl
theorem Mc {x:Operand} : oB T Γ N F ⟨dst,.move x,ty,pos,af,gd⟩ ops l ws Q t h e fs=kK T Γ N F ops l ws Q (eN t dst (ev t x)) h e (fs++[⟨[],true⟩]):=(eV (fun _ _ _ O=>by cases O) rfl).trans rfl
theorem GX {o:BinOp} {O z:Nat} {x y:Operand} : oA T Γ N F ⟨dst,.binOp o O x y z,ty,pos,af,gd⟩ ops l ws Q t h e=yy T Γ N F (okD (yR T O o (ev t x) (ev t y))) dst ops l ws Q t h e:=eU (fun _ _ _ U=>by cases U) (by simp only[lS];first|rfl|(cases yR T O o (ev t x) (ev t y)<;>rfl))
theorem G5 {o:BinOp} {O z:Nat} {x y:Operand} : oB T Γ N F ⟨dst,.binOp o O x y z,ty,pos,af,gd⟩ ops l ws Q t h e fs=yz T Γ N F (okD (yR T O o (ev t x) (ev t y))) dst (bq ⟨dst,.binOp o O x y z,ty,pos,af,gd⟩ (ev t)) ops l ws Q t h e fs:=eV (fun _ _ _ U=>by cases U) (by simp only[lS];first|rfl|(cases yR T O o (ev t x) (ev t y)<;>rfl))
theorem L8 {o:UnOp} {O:Nat} {x:Operand} : oA T Γ N F ⟨dst,.unOp o O x,ty,pos,af,gd⟩ ops l ws Q t h e=yy T Γ N F (okD (Gb o (ev t x))) dst ops l ws Q t h e:=eU (fun _ _ _ U=>by cases U) (by simp only[lS];first|rfl|(cases Gb o (ev t x)<;>rfl))
theorem Me {o:UnOp} {O:Nat} {x:Operand} : oB T Γ N F ⟨dst,.unOp o O x,ty,pos,af,gd⟩ ops l ws Q t h e fs=yz T Γ N F (okD (Gb o (ev t x))) dst (bq ⟨dst,.unOp o O x,ty,pos,af,gd⟩ (ev t)) ops l ws Q t h e fs:=eV (fun _ _ _ U=>by cases U) (by simp only[lS];first|rfl|(cases Gb o (ev t x)<;>rfl))
theorem CU {x:Operand} : oA T Γ N F ⟨dst,.assign x,ty,pos,af,gd⟩ ops l ws Q t h e=yy T Γ N F (qv T Γ.own ty e dst (EH h) (ev t x)) dst ops l ws Q t h e:=eU (fun _ _ _ O=>by cases O) rfl
theorem CX {x:Operand} : oB T Γ N F ⟨dst,.assign x,ty,pos,af,gd⟩ ops l ws Q t h e fs=yz T Γ N F (qv T Γ.own ty e dst (EH h) (ev t x)) dst (bq ⟨dst,.assign x,ty,pos,af,gd⟩ (ev t)) ops l ws Q t h e fs:=eV (fun _ _ _ O=>by cases O) rfl
theorem xD {f:Nat} {first caps:List Operand} : oA T Γ N F ⟨dst,.makeFunc (.func f) first.toArray caps.toArray,ty,pos,af,gd⟩ ops l ws Q t h e=yy T Γ N F (if (first.map (ev t)++caps.map (ev t)).all jl then some ⟨.clo f first.length (first.map (ev t)++caps.map (ev t)),[]⟩ else none) dst ops l ws Q t h e:=eU (fun _ _ _ O=>by cases O) rfl
theorem xG {f:Nat} {first caps:List Operand} : oB T Γ N F ⟨dst,.makeFunc (.func f) first.toArray caps.toArray,ty,pos,af,gd⟩ ops l ws Q t h e fs=yz T Γ N F (if (first.map (ev t)++caps.map (ev t)).all jl then some ⟨.clo f first.length (first.map (ev t)++caps.map (ev t)),[]⟩ else none) dst (bq ⟨dst,.makeFunc (.func f) first.toArray caps.toArray,ty,pos,af,gd⟩ (ev t)) ops l ws Q t h e fs:=eV (fun _ _ _ O=>by cases O) rfl
theorem L4 {O:Nat} {x:Operand} : oA T Γ N F ⟨dst,.load O x,ty,pos,af,gd⟩ ops l ws Q t h e=Ff T Γ N F (w7 (T O) fun τ=>mS τ (EH h) (ev t x)) (w7 (T O) fun τ=>tA τ h (ev t x)) dst ops l ws Q t h e:=xC (fun _ _ _ U=>by cases U) rfl (by cases dst<;>rfl) (by simp only[lS];first|rfl|(cases T O<;>rfl)) (by simp only[tB];first|rfl|(cases T O<;>rfl))
theorem Ma {O:Nat} {x:Operand} : oB T Γ N F ⟨dst,.load O x,ty,pos,af,gd⟩ ops l ws Q t h e fs=Fg T Γ N F (w7 (T O) fun τ=>mS τ (EH h) (ev t x)) (w7 (T O) fun τ=>tA τ h (ev t x)) dst (bq ⟨dst,.load O x,ty,pos,af,gd⟩ (ev t)) ops l ws Q t h e fs:=xF (fun _ _ _ U=>by cases U) rfl (by cases dst<;>rfl) (by simp only[lS];first|rfl|(cases T O<;>rfl)) (by simp only[tB];first|rfl|(cases T O<;>rfl))
theorem G3 {O:Nat} {x y:Operand} : oA T Γ N F ⟨dst,.store O x y,ty,pos,af,gd⟩ ops l ws Q t h e=Ff T Γ N F (w7 (T O) fun τ=>dy τ (EH h) (ev t x) (ev t y)) (w7 (T O) fun τ=>tC τ e h (ev t x) (ev t y)) dst ops l ws Q t h e:=xC (fun _ _ _ U=>by cases U) rfl (by cases dst<;>rfl) (by simp only[lS];first|rfl|(cases T O<;>rfl)) (by simp only[tB];first|rfl|(cases T O<;>rfl))
theorem Hb {O:Nat} {x y:Operand} : oB T Γ N F ⟨dst,.store O x y,ty,pos,af,gd⟩ ops l ws Q t h e fs=Fg T Γ N F (w7 (T O) fun τ=>dy τ (EH h) (ev t x) (ev t y)) (w7 (T O) fun τ=>tC τ e h (ev t x) (ev t y)) dst (bq ⟨dst,.store O x y,ty,pos,af,gd⟩ (ev t)) ops l ws Q t h e fs:=xF (fun _ _ _ U=>by cases U) rfl (by cases dst<;>rfl) (by simp only[lS];first|rfl|(cases T O<;>rfl)) (by simp only[tB];first|rfl|(cases T O<;>rfl))
theorem xE {x:Operand} : oA T Γ N F ⟨dst,.nilCheck x,ty,pos,af,gd⟩ ops l ws Q t h e=yy T Γ N F (jr (EH h) (ev t x)) dst ops l ws Q t h e:=eU (fun _ _ _ O=>by cases O) rfl
theorem xH {x:Operand} : oB T Γ N F ⟨dst,.nilCheck x,ty,pos,af,gd⟩ ops l ws Q t h e fs=yz T Γ N F (jr (EH h) (ev t x)) dst (bq ⟨dst,.nilCheck x,ty,pos,af,gd⟩ (ev t)) ops l ws Q t h e fs:=eV (fun _ _ _ O=>by cases O) rfl
theorem vN {O i:Nat} {x:Operand} : oA T Γ N F ⟨dst,.fieldAddr O x i,ty,pos,af,gd⟩ ops l ws Q t h e=yy T Γ N F (w7 (T O) fun τ=>ef T τ (EH h) i (ev t x)) dst ops l ws Q t h e:=eU (fun _ _ _ U=>by cases U) (by simp only[lS];first|rfl|(cases T O<;>rfl))
theorem vR {O i:Nat} {x:Operand} : oB T Γ N F ⟨dst,.fieldAddr O x i,ty,pos,af,gd⟩ ops l ws Q t h e fs=yz T Γ N F (w7 (T O) fun τ=>ef T τ (EH h) i (ev t x)) dst (bq ⟨dst,.fieldAddr O x i,ty,pos,af,gd⟩ (ev t)) ops l ws Q t h e fs:=eV (fun _ _ _ U=>by cases U) (by simp only[lS];first|rfl|(cases T O<;>rfl))
theorem GZ {O i:Nat} {x:Operand} : oA T Γ N F ⟨dst,.field O x i,ty,pos,af,gd⟩ ops l ws Q t h e=yy T Γ N F (w7 (T O) fun τ=>lv T τ i (ev t x)) dst ops l ws Q t h e:=eU (fun _ _ _ U=>by cases U) (by simp only[lS];first|rfl|(cases T O<;>rfl))
theorem G7 {O i:Nat} {x:Operand} : oB T Γ N F ⟨dst,.field O x i,ty,pos,af,gd⟩ ops l ws Q t h e fs=yz T Γ N F (w7 (T O) fun τ=>lv T τ i (ev t x)) dst (bq ⟨dst,.field O x i,ty,pos,af,gd⟩ (ev t)) ops l ws Q t h e fs:=eV (fun _ _ _ U=>by cases U) (by simp only[lS];first|rfl|(cases T O<;>rfl))
theorem vO {O:Nat} {x i:Operand} : oA T Γ N F ⟨dst,.indexAddr O x i,ty,pos,af,gd⟩ ops l ws Q t h e=yy T Γ N F (w7 (T O) fun τ=>bN T τ (EH h) (ev t x) (ev t i)) dst ops l ws Q t h e:=eU (fun _ _ _ U=>by cases U) (by simp only[lS];first|rfl|(cases T O<;>rfl))
theorem vS {O:Nat} {x i:Operand} : oB T Γ N F ⟨dst,.indexAddr O x i,ty,pos,af,gd⟩ ops l ws Q t h e fs=yz T Γ N F (w7 (T O) fun τ=>bN T τ (EH h) (ev t x) (ev t i)) dst (bq ⟨dst,.indexAddr O x i,ty,pos,af,gd⟩ (ev t)) ops l ws Q t h e fs:=eV (fun _ _ _ U=>by cases U) (by simp only[lS];first|rfl|(cases T O<;>rfl))
theorem G0 {O:Nat} {x i:Operand} : oA T Γ N F ⟨dst,.index O x i,ty,pos,af,gd⟩ ops l ws Q t h e=yy T Γ N F (w7 (T O) fun τ=>gr T τ (ev t x) (ev t i)) dst ops l ws Q t h e:=eU (fun _ _ _ U=>by cases U) (by simp only[lS];first|rfl|(cases T O<;>rfl))
theorem G8 {O:Nat} {x i:Operand} : oB T Γ N F ⟨dst,.index O x i,ty,pos,af,gd⟩ ops l ws Q t h e fs=yz T Γ N F (w7 (T O) fun τ=>gr T τ (ev t x) (ev t i)) dst (bq ⟨dst,.index O x i,ty,pos,af,gd⟩ (ev t)) ops l ws Q t h e fs:=eV (fun _ _ _ U=>by cases U) (by simp only[lS];first|rfl|(cases T O<;>rfl))
theorem G1 {O:Nat} {x:Operand} {U X Y:Option Operand} : oA T Γ N F ⟨dst,.slice O x U X Y,ty,pos,af,gd⟩ ops l ws Q t h e=yy T Γ N F (w7 (T O) fun τ=>cV T τ (EH h) (ev t x) (U.map (ev t)) (X.map (ev t)) (Y.map (ev t))) dst ops l ws Q t h e:=eU (fun _ _ _ Z=>by cases Z) (by simp only[lS];first|rfl|(cases T O<;>rfl))
theorem G9 {O:Nat} {x:Operand} {U X Y:Option Operand} : oB T Γ N F ⟨dst,.slice O x U X Y,ty,pos,af,gd⟩ ops l ws Q t h e fs=yz T Γ N F (w7 (T O) fun τ=>cV T τ (EH h) (ev t x) (U.map (ev t)) (X.map (ev t)) (Y.map (ev t))) dst (bq ⟨dst,.slice O x U X Y,ty,pos,af,gd⟩ (ev t)) ops l ws Q t h e fs:=eV (fun _ _ _ Z=>by cases Z) (by simp only[lS];first|rfl|(cases T O<;>rfl))
theorem GY {O:Nat} {U:List (Nat×Operand)} : oA T Γ N F ⟨dst,.build O U.toArray,ty,pos,af,gd⟩ ops l ws Q t h e=yy T Γ N F (w7 (T O) fun τ=>oW Γ.own T τ (EH h) dst (U.map fun p=>(p.1,ev t p.2))) dst ops l ws Q t h e:=eU (fun _ _ _ X=>by cases X) (by simp only[lS];first|rfl|(cases T O<;>rfl))
theorem G6 {O:Nat} {U:List (Nat×Operand)} : oB T Γ N F ⟨dst,.build O U.toArray,ty,pos,af,gd⟩ ops l ws Q t h e fs=yz T Γ N F (w7 (T O) fun τ=>oW Γ.own T τ (EH h) dst (U.map fun p=>(p.1,ev t p.2))) dst (bq ⟨dst,.build O U.toArray,ty,pos,af,gd⟩ (ev t)) ops l ws Q t h e fs:=eV (fun _ _ _ X=>by cases X) (by simp only[lS];first|rfl|(cases T O<;>rfl))
theorem tq {O len d:Nat} {U:List (Nat×Operand)} : oA T Γ N F ⟨some d,.buildSlice O len U.toArray,ty,pos,af,gd⟩ ops l ws Q t h e=yy T Γ N F (w7 (T O) fun τ=>ee T τ (EH h) e d len (U.map fun p=>(p.1,ev t p.2))) (some d) ops l ws Q t h e:=eU (fun _ _ _ X=>by cases X) (by simp only[lS];first|rfl|(cases T O<;>rfl))
theorem tr {O len d:Nat} {U:List (Nat×Operand)} : oB T Γ N F ⟨some d,.buildSlice O len U.toArray,ty,pos,af,gd⟩ ops l ws Q t h e fs=yz T Γ N F (w7 (T O) fun τ=>ee T τ (EH h) e d len (U.map fun p=>(p.1,ev t p.2))) (some d) (bq ⟨some d,.buildSlice O len U.toArray,ty,pos,af,gd⟩ (ev t)) ops l ws Q t h e fs:=eV (fun _ _ _ X=>by cases X) (by simp only[lS];first|rfl|(cases T O<;>rfl))
def Ec (T:Nat->Option Ty) (e d O:Nat) (x y:D):Option (Nat×Nat×Nat)->Option bF
 | some p=>(match T O with|some τ=>yM T τ e d p.1 p.2.1 p.2.2 x y|none=>none)
 | none=>none
theorem H6 {d O:Nat} {x y:D} : Ec T e d O x y none=none:=ajz
theorem H7 {d O:Nat} {x y:D} {p:Nat×Nat×Nat} {τ:Ty} (U:T O=some τ):Ec T e d O x y (some p)=yM T τ e d p.1 p.2.1 p.2.2 x y:=by simp only[Ec,U]
def stM (y x:Option bF) (dst:Option Nat) (ops l:List Oper) (ws:List W) (Q:Kt) (t:Nat->D) (h:Nat->Option Row) (e:Nat):Prop :=
 match y with
 | some E=>F8 T Γ N F (some E) dst ops l ws Q t h e
 | none=>yy T Γ N F x dst ops l ws Q t h e
def Zl (y x:Option bF) (dst:Option Nat) (O:List Nat) (ops l:List Oper) (ws:List W) (Q:Kt) (t:Nat->D) (h:Nat->Option Row) (e:Nat) (fs:List jZ):Prop :=
 match y with
 | some E=>F9 T Γ N F (some E) dst O ops l ws Q t h e fs
 | none=>yz T Γ N F x dst O ops l ws Q t h e fs
theorem vP {O d:Nat} {x y:Operand} : oA T Γ N F ⟨some d,.makeSlice O x y,ty,pos,af,gd⟩ ops l ws Q t h e=stM (T:=T) (Γ:=Γ) (N:=N) (F:=F) (Ec T e d O (ev t x) (ev t y) (Γ.nst d)) (w7 (T O) fun τ=>pY T τ e d (ev t x) (ev t y)) (some d) ops l ws Q t h e:=by
 have hm:gA T Γ e ⟨some d,.makeSlice O x y,ty,pos,af,gd⟩ (ev t)=Ec T e d O (ev t x) (ev t y) (Γ.nst d):=by
  unfold gA Ec;simp only;cases Γ.nst d<;>rfl
 cases U:Ec T e d O (ev t x) (ev t y) (Γ.nst d) with
 | none=>exact eU (fun _ _ _ X=>by cases X) (by simp only[lS];first|rfl|(cases T O<;>rfl)) (hm.trans U)
 | some E=>unfold oA PU nX;rw[hm,U];rfl
theorem vT {O d:Nat} {x y:Operand} : oB T Γ N F ⟨some d,.makeSlice O x y,ty,pos,af,gd⟩ ops l ws Q t h e fs=Zl (T:=T) (Γ:=Γ) (N:=N) (F:=F) (Ec T e d O (ev t x) (ev t y) (Γ.nst d)) (w7 (T O) fun τ=>pY T τ e d (ev t x) (ev t y)) (some d) (bq ⟨some d,.makeSlice O x y,ty,pos,af,gd⟩ (ev t)) ops l ws Q t h e fs:=by
 have hm:gA T Γ e ⟨some d,.makeSlice O x y,ty,pos,af,gd⟩ (ev t)=Ec T e d O (ev t x) (ev t y) (Γ.nst d):=by
  unfold gA Ec;simp only;cases Γ.nst d<;>rfl
 cases U:Ec T e d O (ev t x) (ev t y) (Γ.nst d) with
 | none=>exact eV (fun _ _ _ X=>by cases X) (by simp only[lS];first|rfl|(cases T O<;>rfl)) (hm.trans U)
 | some E=>unfold oB PU nX;rw[hm,U];rfl
theorem Pn {x:Option bF} : stM (T:=T) (Γ:=Γ) (N:=N) (F:=F) none x dst ops l ws Q t h e=yy T Γ N F x dst ops l ws Q t h e:=ajz
theorem IX {x:Option bF} {O:List Nat} : Zl (T:=T) (Γ:=Γ) (N:=N) (F:=F) none x dst O ops l ws Q t h e fs=yz T Γ N F x dst O ops l ws Q t h e fs:=ajz
theorem Po {x:Option bF} {E:bF} : stM (T:=T) (Γ:=Γ) (N:=N) (F:=F) (some E) x dst ops l ws Q t h e=F8 T Γ N F (some E) dst ops l ws Q t h e:=ajz
theorem IY {x:Option bF} {O:List Nat} {E:bF} : Zl (T:=T) (Γ:=Γ) (N:=N) (F:=F) (some E) x dst O ops l ws Q t h e fs=F9 T Γ N F (some E) dst O ops l ws Q t h e fs:=ajz
theorem Uj {x:Option bF} {c:Prop} [Decidable c] {E:bF} (O:c):stM (T:=T) (Γ:=Γ) (N:=N) (F:=F) (if c then some E else none) x dst ops l ws Q t h e=F8 T Γ N F (some E) dst ops l ws Q t h e:=by rw[if_pos O];rfl
theorem Pm {x:Option bF} {O:List Nat} {c:Prop} [Decidable c] {E:bF} (U:c):Zl (T:=T) (Γ:=Γ) (N:=N) (F:=F) (if c then some E else none) x dst O ops l ws Q t h e fs=F9 T Γ N F (some E) dst O ops l ws Q t h e fs:=by rw[if_pos U];rfl
def WR (T:Nat->Option Ty) (e d O:Nat):Option (Nat×Nat×Nat)->Option bF
 | some p=>(match T O with|some τ=>mkA τ O e d p.1 p.2.1 p.2.2|none=>none)
 | none=>none
theorem K5 {d O:Nat} : WR T e d O none=none:=ajz
theorem K6 {d O:Nat} {p:Nat×Nat×Nat} {τ:Ty} (U:T O=some τ):WR T e d O (some p)=mkA τ O e d p.1 p.2.1 p.2.2:=by simp only[WR,U]
theorem GW {O d:Nat} : oA T Γ N F ⟨some d,.alloc O,ty,pos,af,gd⟩ ops l ws Q t h e=stM (T:=T) (Γ:=Γ) (N:=N) (F:=F) (WR T e d O (Γ.nst d)) (Cq (T O) O d e (Γ.hint d)) (some d) ops l ws Q t h e:=by
 have hm:gA T Γ e ⟨some d,.alloc O,ty,pos,af,gd⟩ (ev t)=WR T e d O (Γ.nst d):=by
  unfold gA WR;simp only;cases Γ.nst d<;>rfl
 cases U:WR T e d O (Γ.nst d) with
 | none=>exact eU (fun _ _ _ X=>by cases X) (by simp only[lS];cases T O with|none=>rfl|some τ=>(dsimp only[Cq];cases Γ.hint d<;>rfl)) (hm.trans U)
 | some E=>unfold oA PU nX;rw[hm,U];rfl
theorem G4 {O d:Nat} : oB T Γ N F ⟨some d,.alloc O,ty,pos,af,gd⟩ ops l ws Q t h e fs=Zl (T:=T) (Γ:=Γ) (N:=N) (F:=F) (WR T e d O (Γ.nst d)) (Cq (T O) O d e (Γ.hint d)) (some d) (bq ⟨some d,.alloc O,ty,pos,af,gd⟩ (ev t)) ops l ws Q t h e fs:=by
 have hm:gA T Γ e ⟨some d,.alloc O,ty,pos,af,gd⟩ (ev t)=WR T e d O (Γ.nst d):=by
  unfold gA WR;simp only;cases Γ.nst d<;>rfl
 cases U:WR T e d O (Γ.nst d) with
 | none=>exact eV (fun _ _ _ X=>by cases X) (by simp only[lS];cases T O with|none=>rfl|some τ=>(dsimp only[Cq];cases Γ.hint d<;>rfl)) (hm.trans U)
 | some E=>unfold oB PU nX;rw[hm,U];rfl
theorem Ap {O d:Nat} : oA T Γ N F ⟨some d,.makeMap O none,ty,pos,af,gd⟩ ops l ws Q t h e=yy T Γ N F (VK T (T O) O e d) (some d) ops l ws Q t h e:=eU (fun _ _ _ U=>by cases U) (by simp only[lS];first|rfl|(cases T O<;>rfl))
theorem Au {O d:Nat} : oB T Γ N F ⟨some d,.makeMap O none,ty,pos,af,gd⟩ ops l ws Q t h e fs=yz T Γ N F (VK T (T O) O e d) (some d) (bq ⟨some d,.makeMap O none,ty,pos,af,gd⟩ (ev t)) ops l ws Q t h e fs:=eV (fun _ _ _ U=>by cases U) (by simp only[lS];first|rfl|(cases T O<;>rfl))
theorem CW {O:Nat} {m i:Operand} {ok:Bool} : oA T Γ N F ⟨dst,.lookup O m i ok,ty,pos,af,gd⟩ ops l ws Q t h e=yy T Γ N F (w7 (T O) fun τ=>gm T τ (EH h) (ev t m) (ev t i) ok) dst ops l ws Q t h e:=eU (fun _ _ _ U=>by cases U) (by simp only[lS];first|rfl|(cases T O<;>rfl))
theorem CZ {O:Nat} {m i:Operand} {ok:Bool} : oB T Γ N F ⟨dst,.lookup O m i ok,ty,pos,af,gd⟩ ops l ws Q t h e fs=yz T Γ N F (w7 (T O) fun τ=>gm T τ (EH h) (ev t m) (ev t i) ok) dst (bq ⟨dst,.lookup O m i ok,ty,pos,af,gd⟩ (ev t)) ops l ws Q t h e fs:=eV (fun _ _ _ U=>by cases U) (by simp only[lS];first|rfl|(cases T O<;>rfl))
theorem vQ {O:Nat} {m i x:Operand} : oA T Γ N F ⟨dst,.mapUpdate O m i x,ty,pos,af,gd⟩ ops l ws Q t h e=yy T Γ N F (w7 (T O) fun τ=>cN T τ (EH h) (ev t m) (ev t i) (ev t x)) dst ops l ws Q t h e:=eU (fun _ _ _ U=>by cases U) (by simp only[lS];first|rfl|(cases T O<;>rfl))
theorem vU {O:Nat} {m i x:Operand} : oB T Γ N F ⟨dst,.mapUpdate O m i x,ty,pos,af,gd⟩ ops l ws Q t h e fs=yz T Γ N F (w7 (T O) fun τ=>cN T τ (EH h) (ev t m) (ev t i) (ev t x)) dst (bq ⟨dst,.mapUpdate O m i x,ty,pos,af,gd⟩ (ev t)) ops l ws Q t h e fs:=eV (fun _ _ _ U=>by cases U) (by simp only[lS];first|rfl|(cases T O<;>rfl))
theorem CV {O:Nat} {m i x:Operand} : oA T Γ N F ⟨dst,.insert O m i x,ty,pos,af,gd⟩ ops l ws Q t h e=yy T Γ N F (w7 (T O) fun τ=>cN T τ (EH h) (ev t m) (ev t i) (ev t x)) dst ops l ws Q t h e:=eU (fun _ _ _ U=>by cases U) (by simp only[lS];first|rfl|(cases T O<;>rfl))
theorem CY {O:Nat} {m i x:Operand} : oB T Γ N F ⟨dst,.insert O m i x,ty,pos,af,gd⟩ ops l ws Q t h e fs=yz T Γ N F (w7 (T O) fun τ=>cN T τ (EH h) (ev t m) (ev t i) (ev t x)) dst (bq ⟨dst,.insert O m i x,ty,pos,af,gd⟩ (ev t)) ops l ws Q t h e fs:=eV (fun _ _ _ U=>by cases U) (by simp only[lS];first|rfl|(cases T O<;>rfl))
theorem S4 {O d:Nat} {x:Operand} : oA T Γ N F ⟨some d,.box O x,ty,pos,af,gd⟩ ops l ws Q t h e=yy T Γ N F (acK (eT (EH h) (ev t x)) (EH h) O d e) (some d) ops l ws Q t h e:=eU (fun _ _ _ U=>by cases U) (by simp only[lS];first|rfl|(cases eT (EH h) (ev t x)<;>rfl))
theorem S5 {O d:Nat} {x:Operand} : oB T Γ N F ⟨some d,.box O x,ty,pos,af,gd⟩ ops l ws Q t h e fs=yz T Γ N F (acK (eT (EH h) (ev t x)) (EH h) O d e) (some d) (bq ⟨some d,.box O x,ty,pos,af,gd⟩ (ev t)) ops l ws Q t h e fs:=eV (fun _ _ _ U=>by cases U) (by simp only[lS];first|rfl|(cases eT (EH h) (ev t x)<;>rfl))
theorem An {a b:Nat} {x:Operand} : oA T Γ N F ⟨dst,.convert a b x,ty,pos,af,gd⟩ ops l ws Q t h e=yy T Γ N F (Xs (T b) (T a) (ev t x)) dst ops l ws Q t h e:=eU (fun _ _ _ O=>by cases O) rfl
theorem Ar {a b:Nat} {x:Operand} : oB T Γ N F ⟨dst,.convert a b x,ty,pos,af,gd⟩ ops l ws Q t h e fs=yz T Γ N F (Xs (T b) (T a) (ev t x)) dst (bq ⟨dst,.convert a b x,ty,pos,af,gd⟩ (ev t)) ops l ws Q t h e fs:=eV (fun _ _ _ O=>by cases O) rfl
theorem Ao {x:Nat} {i:Nat} : oA T Γ N F ⟨dst,.extract (.tmp x) i,ty,pos,af,gd⟩ ops l ws Q t h e=yy T Γ N F (aaQ (t x) i) dst ops l ws Q t h e:=eU (fun _ _ _ O=>by cases O) rfl
theorem As {x:Nat} {i:Nat} : oB T Γ N F ⟨dst,.extract (.tmp x) i,ty,pos,af,gd⟩ ops l ws Q t h e fs=yz T Γ N F (aaQ (t x) i) dst (bq ⟨dst,.extract (.tmp x) i,ty,pos,af,gd⟩ (ev t)) ops l ws Q t h e fs:=eV (fun _ _ _ O=>by cases O) rfl
def cnL (Γ:Env) (e:Nat) (h:Nat->Option Row) (g:Nat) (args:List D):Option (Nat×(Nat->Nat->Nat->Nat->List D->List D->Option (D×List D)))->Option bF
 | some _=>qM Γ e h g args
 | none=>none
theorem LX {g:Nat} {args:List D} : cnL Γ e h g args none=none:=ajz
theorem LY {g:Nat} {args:List D} {p:Nat×(Nat->Nat->Nat->Nat->List D->List D->Option (D×List D))} : cnL Γ e h g args (some p)=qM Γ e h g args:=ajz
theorem XR {g:Nat} {args:List D} : AG Γ e h (some (.fn g,args))=cnL Γ e h g args (Γ.nx.lnd g):=by
 cases O:Γ.nx.lnd g with
 | some p=>rfl
 | none =>
  show qM Γ e h g args=none;cases U:qM Γ e h g args with
  | none=>rfl
  | some E =>
   obtain⟨_,_,_,_,_,_,_,_,_,_,_,_,_,_,_,_,h1,_⟩:=rT U;rw[O]at h1;cases h1
theorem S7 {f k:Nat} {xs args:List D} : AG Γ e h (some (.clo f k xs,args))=none:=ajz
theorem XQ {d g:Nat} {args:List D} : lT Γ e h (some d) (some (.fn g,args))=Dh e d h args (Γ.nx.res g):=ajz
theorem S6 {dst:Option Nat} {f k:Nat} {xs args:List D} : lT Γ e h dst (some (.clo f k xs,args))=none:=by cases dst<;>rfl
theorem Mi {q:Option (D×List D)} : lT Γ e h none q=none:=ajz
theorem Mj {d:Nat} {args:List D} : Dh e d h args none=none:=ajz
theorem Mk {d:Nat} {args:List D} {p:List D->Option (Nat×Nat×Nat×Nat×Nat×List D)} : Dh e d h args (some p)=GG p e d (bx (EH h) args):=ajz
theorem Lo {d:Nat} {agx:List D} {p:List D->Option (Nat×Nat×Nat×Nat×Nat×List D)} : GG p e d (some (agx,[]))=JB e d (p agx):=ajz
theorem GH {d ty O s S n:Nat} {cs:List D} (U:d<1000000):JB e d (some (ty,O,s,S,n,cs))=some ⟨.buf d e S 0 n,[(d,some ⟨e,ty,[.nr O s (4*e+2) cs],false,true,true⟩)]⟩:=if_pos (by rw[cv];exact U)
def stC (y0 x y:Option bF) (dst:Option Nat) (ops l:List Oper) (ws:List W) (Q:Kt) (t:Nat->D) (h:Nat->Option Row) (e:Nat):Prop :=
 match y0 with
 | some E=>F8 T Γ N F (some E) dst ops l ws Q t h e
 | none=>Ff T Γ N F x y dst ops l ws Q t h e
def adu (y0 x y:Option bF) (dst:Option Nat) (O:List Nat) (ops l:List Oper) (ws:List W) (Q:Kt) (t:Nat->D) (h:Nat->Option Row) (e:Nat) (fs:List jZ):Prop :=
 match y0 with
 | some E=>F9 T Γ N F (some E) dst O ops l ws Q t h e fs
 | none=>Fg T Γ N F x y dst O ops l ws Q t h e fs
theorem Pg {x y:Option bF} : stC (T:=T) (Γ:=Γ) (N:=N) (F:=F) none x y dst ops l ws Q t h e=Ff T Γ N F x y dst ops l ws Q t h e:=ajz
theorem IS {x y:Option bF} {O:List Nat} : adu (T:=T) (Γ:=Γ) (N:=N) (F:=F) none x y dst O ops l ws Q t h e fs=Fg T Γ N F x y dst O ops l ws Q t h e fs:=ajz
theorem Ph {x y:Option bF} {E:bF} : stC (T:=T) (Γ:=Γ) (N:=N) (F:=F) (some E) x y dst ops l ws Q t h e=F8 T Γ N F (some E) dst ops l ws Q t h e:=ajz
theorem IT {x y:Option bF} {O:List Nat} {E:bF} : adu (T:=T) (Γ:=Γ) (N:=N) (F:=F) (some E) x y dst O ops l ws Q t h e fs=F9 T Γ N F (some E) dst O ops l ws Q t h e fs:=ajz
theorem L3 {x:Operand} {agx:List Operand} {O:Array Nat} : oA T Γ N F ⟨dst,.call ⟨.value x,agx.toArray,O⟩,ty,pos,af,gd⟩ ops l ws Q t h e=stC (T:=T) (Γ:=Γ) (N:=N) (F:=F) (lT Γ e h dst (some (ev t x,agx.map (ev t)))) (ij Γ (EH h) e dst (ev t x) (agx.map (ev t))) (AG Γ e h (some (ev t x,agx.map (ev t)))) dst ops l ws Q t h e:=by
 have U:gX (ev t) (.call ⟨.value x,agx.toArray,O⟩)=some (ev t x,agx.map (ev t)):=rfl;cases X:lT Γ e h dst (some (ev t x,agx.map (ev t))) with
 | none=>exact xC (fun _ _ _ Y=>by cases Y) rfl (by rw[U];exact X) rfl rfl
 | some E=>unfold oA PU nX;simp only[gA,U,X];rfl
theorem L9 {x:Operand} {agx:List Operand} {O:Array Nat} : oB T Γ N F ⟨dst,.call ⟨.value x,agx.toArray,O⟩,ty,pos,af,gd⟩ ops l ws Q t h e fs=adu (T:=T) (Γ:=Γ) (N:=N) (F:=F) (lT Γ e h dst (some (ev t x,agx.map (ev t)))) (ij Γ (EH h) e dst (ev t x) (agx.map (ev t))) (AG Γ e h (some (ev t x,agx.map (ev t)))) dst (bq ⟨dst,.call ⟨.value x,agx.toArray,O⟩,ty,pos,af,gd⟩ (ev t)) ops l ws Q t h e fs:=by
 have U:gX (ev t) (.call ⟨.value x,agx.toArray,O⟩)=some (ev t x,agx.map (ev t)):=rfl;cases X:lT Γ e h dst (some (ev t x,agx.map (ev t))) with
 | none=>exact xF (fun _ _ _ Y=>by cases Y) rfl (by rw[U];exact X) rfl rfl
 | some E=>unfold oB PU nX;simp only[gA,U,X];rfl
theorem Al {x:Builtin} {agx:List Operand} {O:List Nat} : oA T Γ N F ⟨dst,.call ⟨.builtin x,agx.toArray,O.toArray⟩,ty,pos,af,gd⟩ ops l ws Q t h e=yy T Γ N F (cB T (EH h) e dst x O (agx.map (ev t))) dst ops l ws Q t h e:=eU (fun _ _ _ U=>by cases U) rfl
theorem Aq {x:Builtin} {agx:List Operand} {O:List Nat} : oB T Γ N F ⟨dst,.call ⟨.builtin x,agx.toArray,O.toArray⟩,ty,pos,af,gd⟩ ops l ws Q t h e fs=yz T Γ N F (cB T (EH h) e dst x O (agx.map (ev t))) dst (bq ⟨dst,.call ⟨.builtin x,agx.toArray,O.toArray⟩,ty,pos,af,gd⟩ (ev t)) ops l ws Q t h e fs:=eV (fun _ _ _ U=>by cases U) rfl
theorem bJ {o:Array Oper} {A:Prop} (h1:C8 o fs=true) (h2:A):C8 o fs=true∧A:=⟨h1,h2⟩
theorem al {b:Bool} {g:Nat} {x y:Code} (h1:b=true->dh T Γ N F (.code x::ws) Q .normal (bI t g (.bool true)) h e) (h2:b=false->dh T Γ N F (.code y::ws) Q .normal (bI t g (.bool false)) h e):KM T Γ N F (.bool b) g x y ws Q t h e:=by rw[Wa];exact⟨h1,h2⟩
theorem eJ {b:Bool} {g:Nat} {o:Oper} (h1:b=true->oA T Γ N F o ops l ws Q (bI t g (.bool true)) h e) (h2:b=false->kc T Γ N F ops l ws Q (eN (bI t g (.bool false)) o.dst .skp) h e):vJ T Γ N F (.bool b) g true o ops l ws Q t h e:=by rw[Wb];exact⟨h1,h2⟩
theorem aR {b:Bool} {g:Nat} {o:Oper} (h1:b=true->kc T Γ N F ops l ws Q (eN (bI t g (.bool true)) o.dst .skp) h e) (h2:b=false->oA T Γ N F o ops l ws Q (bI t g (.bool false)) h e):vJ T Γ N F (.bool b) g false o ops l ws Q t h e:=by rw[RV];exact⟨h1,h2⟩
theorem UI {b:Bool} {g:Nat} {o:Oper} (h1:b=true->oB T Γ N F o ops l ws Q (bI t g (.bool true)) h e fs) (h2:b=false->kK T Γ N F ops l ws Q (eN (bI t g (.bool false)) o.dst .skp) h e (fs++[⟨[],true⟩])):vK T Γ N F (.bool b) g true o ops l ws Q t h e fs:=by rw[Wc];exact⟨h1,h2⟩
theorem uv {b:Bool} {g:Nat} {o:Oper} (h1:b=true->kK T Γ N F ops l ws Q (eN (bI t g (.bool true)) o.dst .skp) h e (fs++[⟨[],true⟩])) (h2:b=false->oB T Γ N F o ops l ws Q (bI t g (.bool false)) h e fs):vK T Γ N F (.bool b) g false o ops l ws Q t h e fs:=by rw[RW];exact⟨h1,h2⟩
def XY (mode:Mode) (T:Nat->Option Ty) (lent:Option (D×Row)) (rs:List ResultVar) (r:RK×Option Row):Kt:=fun x t h e=>acS mode T lent rs x t h e r
theorem AI {mode:Mode} {lent:Option (D×Row)} {rs:List ResultVar} {r:RK×Option Row} : XY mode T lent rs r .normal t h e=(fF mode T lent rs ⟨t,EH h,e⟩=some r):=ajz
theorem cJ {mode:Mode} {lent:Option (D×Row)} {rs:List ResultVar} {r:RK×Option Row} : XY mode T lent rs r .ret t h e=(fF mode T lent rs ⟨t,EH h,e⟩=some r):=ajz
def abS (T:Nat->Option Ty) (ty O s:Nat) (rs:List ResultVar) (r:D×List D):Kt:=fun x t h e =>
 match x with
 | .exit _=>False
 | _=>Vj T ty O s rs ⟨t,h,e⟩=some r
theorem xS {ty O s:Nat} {rs:List ResultVar} {r:D×List D} : abS T ty O s rs r .normal t h e=(Vj T ty O s rs ⟨t,h,e⟩=some r):=ajz
theorem cc {ty O s:Nat} {rs:List ResultVar} {r:D×List D} : abS T ty O s rs r .ret t h e=(Vj T ty O s rs ⟨t,h,e⟩=some r):=ajz
def abR (rs:List ResultVar) (r:Nat×Nat×Nat×Nat×Nat×List D):Kt:=fun x t h e =>
 match x with
 | .exit _=>False
 | _=>Vi rs ⟨t,h,e⟩=some r
theorem xR {rs:List ResultVar} {r:Nat×Nat×Nat×Nat×Nat×List D} : abR rs r .normal t h e=(Vi rs ⟨t,h,e⟩=some r):=ajz
theorem ca {rs:List ResultVar} {r:Nat×Nat×Nat×Nat×Nat×List D} : abR rs r .ret t h e=(Vi rs ⟨t,h,e⟩=some r):=ajz
theorem Te {ty O s:Nat} {rs:List ResultVar} : Vj T ty O s rs ⟨t,h,e⟩=Mt ty O s (sr T ⟨t,EH h,e⟩ rs) (h 0):=ajz
theorem Mu {ty O s nv:Nat} {lst:Bool} {ds cs:List D} : Mt ty O s (some (ds,[])) (some ⟨0,ty,[.nr O s nv cs],false,lst,true⟩)=some (kJ ds,cs):=by
 simp[Mt,XX]
theorem Tc {i:Nat} : Vi [.tmp i] ⟨t,h,e⟩=Tb h (t i):=ajz
theorem Hl {x v S n:Nat} : Tb h (.buf x v S 0 n)=Mr x v S n (h x):=ajz
theorem Ms {x v S n ty O s nv:Nat} {lst:Bool} {cs:List D} (U:x<1000000):Mr x v S n (some ⟨v,ty,[.nr O s nv cs],false,lst,true⟩)=some (ty,O,s,S,n,cs):=by
 have:x<PK:=by rw[cv];exact U
 simp[Mr,XW,this]
theorem aH {mode:Mode} {fn:Func} {c:Code} {n:Nat} {rs:List ResultVar} {args:List D} {r:RK×Option Row} (X:fn.body=some c) (U:fn.ntmps=n) (Y:fn.results=rs.toArray) (hw:dh T Γ n F [.code c] (XY mode T none rs r) .normal (FI args) TS 0) (O:n<=1000000:=by exact ais rfl):jY mode T Γ F fn none args=some r:=by
 refine R8 ?_ (by rw[U];exact O);unfold wpf;rw[X,U,Y];exact hw
theorem O0 (r:Row) (i:Nat):mC r i=if i=0 then some r else none:=ajz
theorem Fz {mode:Mode} {fn:Func} {c:Code} {n:Nat} {rs:List ResultVar} {d0:D} {ty:Nat} {cells:List D} {fz lst:Bool} {args:List D} {r:RK×Option Row} (X:fn.body=some c) (U:fn.ntmps=n) (Y:fn.results=rs.toArray)
  (hw:dh T Γ n F [.code c] (XY mode T (some (d0,⟨0,ty,cells,fz,lst,false⟩)) rs r) .normal (FI (d0::args)) (mC ⟨0,ty,cells,fz,lst,false⟩) 1) (O:n<=1000000:=by exact ais rfl):jY mode T Γ F fn (some (d0,⟨0,ty,cells,fz,lst,false⟩)) args=some r:=by
 refine R8 ?_ (by rw[U];exact O);unfold wpf;rw[X,U,Y];exact hw
end
section
variable {h:Nat->Option Row} {k x o v ty fz' nv s n e:Nat} {cs xs:List D} {fz lst:Bool}
theorem Wv (hk:k<2000000):EH h k=(h k).map (BM k):=qK (by rw[cv];exact hk)
theorem abz (O:x<1000000):EH h (NK x o)=(h x).bind fun r=>p7 r o:=qJ (by rw[cv];exact O)
theorem IN:BM k ⟨v,ty,cs,fz,lst,false⟩=⟨v,ty,cs,fz,lst,false⟩:=ajz
theorem Ue {ks:List cr} : BM k ⟨v,ty,[.mpc ks xs],fz,lst,true⟩=⟨v,ty,[.mpc ks xs],fz,lst,true⟩:=ajz
theorem Y7 {y:Nat} : BM k ⟨v,ty,[.ph y s n],fz,lst,true⟩=⟨v,ty,[.ph y s n],fz,lst,true⟩:=ajz
theorem Y6 {t:Nat} : BM k ⟨v,ty,[.nr t s nv cs],fz,lst,true⟩=⟨v,ty,cs.mapIdx (pO k s),fz,lst,true⟩:=ajz
theorem Oe {t:Nat} : p7 ⟨v,ty,[.nr t s nv cs],fz,lst,true⟩ o=Ef t nv fz (cs.drop o).head?:=ajz
theorem Od:Ef ty nv fz (some (.nx n xs))=some ⟨nv,ty,xs,fz,true,false⟩:=ajz
theorem acs (O:x<1000000):rt (NK x o)=x:=sO (by rw[cv];exact O)
theorem HI:jW h []=[]:=ajz
theorem HH {r:Option Row} {l:List (Nat×Option Row)} (hk:k<2000000):jW h ((k,r)::l)=(k,Eg r)::jW (bI h k (Eg r)) l:=by
 have h1:rt k=k:=gQ (by rw[cv];exact hk);have h2:yp h k r=Eg r:=if_pos (by rw[cv];exact hk);simp only[jW,h1,h2]
theorem ME {r:Option Row} {l:List (Nat×Option Row)} (U:x<1000000):jW h ((NK x o,r)::l)=(x,(h x).map (ET o r))::jW (bI h x ((h x).map (ET o r))) l:=by
 have O:x<PK:=by rw[cv];exact U
 have h1:rt (NK x o)=x:=sO O;have h2:yp h (NK x o) r=(h x).map (ET o r):=by
  unfold yp;rw[if_neg (by have:=eS x o;omega),rH o O,Ch o O]
 simp only[jW,h1,h2]
theorem Ii:Eg none=none:=ajz
theorem Eh:Eg (some ⟨v,ty,cs,fz,lst,false⟩)=some ⟨v,ty,cs,fz,lst,false⟩:=ajz
theorem Og {ks:List cr} : Eg (some ⟨v,ty,[.mpc ks xs],fz,lst,true⟩)=some ⟨v,ty,[.mpc ks xs],fz,lst,true⟩:=ajz
theorem TR {y:Nat} : Eg (some ⟨v,ty,[.ph y s n],fz,lst,true⟩)=some ⟨v,ty,[.ph y s n],fz,lst,true⟩:=ajz
theorem T3 {t:Nat} {r:Option Row} : ET o r ⟨v,ty,[.nr t s nv cs],fz,lst,true⟩=⟨v,ty,zN t s nv fz cs o r (cs.drop o).head?,fz,lst,true⟩:=ajz
theorem Ub {t v':Nat} {O:List D} : zN t s nv fz cs o (some ⟨v',t,O,fz,true,false⟩) (some (.nx n xs))=if v'=nv then [.nr t s nv (putCells cs o [.nx n O])] else [.nr t s nv (putCells cs o [.und])]:=by
 by_cases U:v'=nv<;>simp[zN,Iu,U]
def lvN (x v:Nat):Option Row->Option (Row×Nat×Nat×Nat×List D)
 | some r=>if r.v=v∧r.fz=false∧r.mp=true∧x<1000000 then nrO r r.cells else none
 | none=>none
theorem NN:fJ h x v=lvN x v (h x):=by
 unfold fJ lvN;rw[cv];cases h x<;>rfl
theorem Ys {t:Nat} (O:x<1000000):lvN x v (some ⟨v,ty,[.nr t s nv cs],false,lst,true⟩)=some (⟨v,ty,[.nr t s nv cs],false,lst,true⟩,t,s,nv,cs):=by
 simp only[lvN,true_and,O,and_self,if_true,nrO]
def ac2 (τ:Ty) (x o:Nat):Option (Row×Nat×Nat×Nat×List D)->Option bF
 | some (r,ty,s,nv,cs)=>DY τ x s nv o cs (cs.drop o).head?
 | none=>none
theorem TC {τ:Ty} : oZ τ h (.ptr x v o)=ac2 τ x o (fJ h x v):=by
 simp only[oZ,ac2];cases fJ h x v<;>rfl
theorem HU {τ:Ty} {r:Row} {t:Nat} : ac2 τ x o (some (r,t,s,nv,cs))=DY τ x s nv o cs (cs.drop o).head?:=ajz
theorem TA {ds:Ds} {b:Nat} {z:List Value} {q:Bool} : DY ⟨ds,1,b,z,q⟩ x s nv o cs (some (.nx n xs))=if ds.oD=false then some ⟨.buf (NK x o) nv s 0 n,[]⟩ else none:=by
 simp only[DY,true_and]
def VB (τ:Ty) (o:Nat) (cs:List D):Option bF :=
 if o+τ.size<=cs.length∧((cs.drop o).take τ.size).all fa=true then okD (jw τ ((cs.drop o).take τ.size)) else none
theorem NC {τ:Ty} {O:IntKind} {i:Int} : DY τ x s nv o cs (some (.int O i))=VB τ o cs:=ajz
theorem HV {τ:Ty} {b:Bool} : DY τ x s nv o cs (some (.bool b))=VB τ o cs:=ajz
theorem ND {τ:Ty} {b:ByteArray} : DY τ x s nv o cs (some (.str b))=VB τ o cs:=ajz
theorem TB {τ:Ty} {a b:Bool} : DY τ x s nv o cs (some (.sl a b n xs))=VB τ o cs:=ajz
def abm (τ:Ty) (e:Nat) (h:Nat->Option Row) (x o:Nat) (d:D):Option (Row×Nat×Nat×Nat×List D)->Option bF
 | some (r,ty,s,nv,cs)=>if o+τ.size<=cs.length∧0<τ.size then vG τ e h x r ty s nv cs o d else none
 | none=>none
theorem Ul {τ:Ty} {d:D} : mm τ e h (.ptr x v o) d=abm τ e h x o d (fJ h x v):=by
 simp only[mm,abm];cases fJ h x v<;>rfl
theorem I0 {ds:Ds} {m b:Nat} {z:List Value} {q:Bool} {d:D} {r:Row} {t:Nat} (hm:0<m) (O:o+m<=cs.length):abm ⟨ds,m,b,z,q⟩ e h x o d (some (r,t,s,nv,cs))=vG ⟨ds,m,b,z,q⟩ e h x r t s nv cs o d:=by
 simp only[abm,hm,O,and_self,if_true]
theorem I1 {ds:Ds} {b:Nat} {z:List Value} {q:Bool} {r:Row} {t:Nat} : vG ⟨ds,1,b,z,q⟩ e h x r t s nv cs o (.buf (NK x o) nv s 0 n)=zQ x r t s nv cs o n (cs.drop o).head?:=by
 simp only[vG,and_self,if_true]
theorem IQ {ds:Ds} {r:Row} {t O:Nat} : zQ x r t s nv cs o n (some (.nx O xs))=if n*s<=xs.length then some ⟨.und,[(x,some ⟨r.v,r.ty,[.nr t s nv (putCells cs o [.nx n (xs.take (n*s))])],false,r.lst,true⟩)]⟩ else none:=ajz
def adv (x:Nat) (r:Row) (ty s:Nat) (cs:List D) (o y n:Nat) (b:Option Nat):Option Row->Option bF
 | some q=>if q.fz=false∧q.lst=true∧q.ty=ty∧q.cells.length=n*s then zR x r ty s cs o y n q b else none
 | none=>none
theorem I3 {ds:Ds} {b y O:Nat} {z:List Value} {q:Bool} {r:Row} {t:Nat} (U:y<1000000):vG ⟨ds,1,b,z,q⟩ e h x r t s nv cs o (.buf y O s 0 n)=adv x r t s cs o y n (bump nv e) (live h y O):=by
 have h1:¬y=NK x o:=by have:=eS x o;rw[cv]at this;omega
 have h2:y<PK:=by rw[cv];exact U
 simp only[vG,and_self,if_true,h1,if_false,h2];cases live h y O<;>rfl
theorem IZ {r q:Row} {t O y:Nat} (U:q.fz=false∧q.lst=true∧q.ty=t∧q.cells.length=n*s):adv x r t s cs o y n (some O) (some q)=some ⟨.und,[(y,none),(x,some ⟨r.v,r.ty,[.nr t s O (putCells cs o [.nx n q.cells])],false,r.lst,true⟩)]⟩:=by
 simp only[adv,U,and_self,if_true,zR]
theorem Pq {τ:Ty} {r:Row} {t:Nat} {O:IntKind} {i:Int} : vG τ e h x r t s nv cs o (.int O i)=zS τ x r t s nv cs o (some [.int O i]):=ajz
theorem I2 {τ:Ty} {r:Row} {t:Nat} {b:Bool} : vG τ e h x r t s nv cs o (.bool b)=zS τ x r t s nv cs o (some [.bool b]):=ajz
theorem Pr {τ:Ty} {r:Row} {t:Nat} {b:ByteArray} : vG τ e h x r t s nv cs o (.str b)=zS τ x r t s nv cs o (some [.str b]):=ajz
theorem Uk {τ:Ty} {r:Row} {t:Nat} {a b:Bool} : vG τ e h x r t s nv cs o (.sl a b n xs)=zS τ x r t s nv cs o (some [.sl a b n xs]):=ajz
theorem Pp {τ:Ty} {r:Row} {t:Nat} : vG τ e h x r t s nv cs o (.agg xs)=zS τ x r t s nv cs o (some xs):=ajz
theorem I7 {τ:Ty} {r:Row} {t:Nat} {O:List D} : zS τ x r t s nv cs o (some O)=if O.length=τ.size∧O.all fa=true then some ⟨.und,[(x,some ⟨r.v,r.ty,[.nr t s nv (putCells cs o (O.map canon))],false,r.lst,true⟩)]⟩ else none:=ajz
theorem BR (O:nv<=4*e):bump nv e=some (4*e+1):=if_pos O
theorem Xa (O:nv=4*e+2):bump nv e=some (4*e+3):=by unfold bump;rw[if_neg (by omega),if_pos O]
theorem OM {E:bF} {y:Option bF} : orE (some E) y=some E:=ajz
theorem OL {y:Option bF} : orE none y=y:=ajz
def Vy (τ:Ty) (x o:Nat):Option (Row×Nat×Nat×Nat×List D)->Option bF
 | some (r,ty,s,nv,cs)=>if r.lst=false∧o=0∧cs.length=τ.size∧1<τ.size∧cs.all (Bz s)=true then Q1 x r ty s nv (mD τ.size 0 cs) (jw τ (cs.map We)) else none
 | none=>none
theorem Tz {τ:Ty} : tA τ h (.ptr x v o)=orE (Vy τ x o (fJ h x v)) (oZ τ h (.ptr x v o)):=by
 simp only[tA,oY];cases fJ h x v<;>rfl
theorem HS {τ:Ty} : Vy τ x o none=none:=ajz
theorem Yl {τ:Ty} {v' ty:Nat} {cells:List D} {fz mp:Bool} {t:Nat} : Vy τ x o (some (⟨v',ty,cells,fz,true,mp⟩,t,s,nv,cs))=none:=by simp[Vy]
theorem Ym {τ:Ty} {v' ty:Nat} {cells:List D} {fz mp:Bool} {t:Nat} : Vy τ x o (some (⟨v',ty,cells,fz,false,mp⟩,t,s,nv,cs))=if o=0∧cs.length=τ.size∧1<τ.size∧cs.all (Bz s)=true then Q1 x ⟨v',ty,cells,fz,false,mp⟩ t s nv (mD τ.size 0 cs) (jw τ (cs.map We)) else none:=by
 simp only[Vy,true_and]
theorem HT {r:Row} {t:Nat} {d:D} : Q1 x r t s nv cs (some d)=some ⟨d,[(x,some ⟨r.v,r.ty,[.nr t s nv cs],false,r.lst,true⟩)]⟩:=ajz
def V6 (τ:Ty) (e x o:Nat) (d:D):Option (Row×Nat×Nat×Nat×List D)->Option bF
 | some (r,ty,s,nv,cs)=>if r.lst=false∧o=0∧cs.length=τ.size then Rv τ.size e x r ty s nv cs d else none
 | none=>none
theorem Ug {τ:Ty} {d:D} : tC τ e h (.ptr x v o) d=orE (V6 τ e x o d (fJ h x v)) (mm τ e h (.ptr x v o) d):=by
 simp only[tC,pe];cases fJ h x v<;>rfl
theorem I9 {τ:Ty} {d:D} : V6 τ e x o d none=none:=ajz
theorem Zm {τ:Ty} {d:D} {v' ty:Nat} {cells:List D} {fz mp:Bool} {t:Nat} : V6 τ e x o d (some (⟨v',ty,cells,fz,true,mp⟩,t,s,nv,cs))=none:=by simp[V6]
theorem Zn {τ:Ty} {d:D} {v' ty:Nat} {cells:List D} {fz mp:Bool} {t:Nat} : V6 τ e x o d (some (⟨v',ty,cells,fz,false,mp⟩,t,s,nv,cs))=if o=0∧cs.length=τ.size then Rv τ.size e x ⟨v',ty,cells,fz,false,mp⟩ t s nv cs d else none:=by
 simp only[V6,true_and]
theorem Pw {O t:Nat} {r:Row} : Rv O e x r t s nv cs (.agg xs)=if xs.length=O then stZ x r t s (bump nv e) (rp cs xs) else none:=ajz
theorem Pv {r:Row} {t O:Nat} {cs':List D} : stZ x r t s (some O) (some cs')=some ⟨.und,[(x,some ⟨r.v,r.ty,[.nr t s O cs'],false,r.lst,true⟩)]⟩:=ajz
def aby:Option D->Option (List D)->Option (List D)
 | some y,some O=>some (y::O)
 | _,_=>none
theorem Jl {y:D} {O:List D} : aby (some y) (some O)=some (y::O):=ajz
theorem Jm:rp [] []=some []:=ajz
theorem FC {c x:D} {cs xs:List D} : rp (c::cs) (x::xs)=aby (Gg c x) (rp cs xs):=by
 simp only[rp];cases Gg c x<;>cases rp cs xs<;>rfl
theorem UT:Gg (.nx n xs) (.sl true true 0 [])=some (.nx 0 []):=ajz
theorem UR {k k':IntKind} {i j:Int} : Gg (.int k i) (.int k' j)=some (.int k' j):=ajz
theorem PT {a b:D} : mD 2 0 [a,b]=[We a,We b]:=ajz
theorem UJ {k:IntKind} {i:Int} : We (.int k i)=.int k i:=ajz
theorem Z6:We (.nx n xs)=.sl false false n xs:=ajz
theorem TV {k:IntKind} {i:Int} : Bz s (.int k i)=true:=ajz
theorem YJ:Bz s (.nx n xs)=(xs.length==n*s):=ajz
theorem YK {a b:Bool} : Bz s (.sl a b n xs)=true:=ajz
theorem Z7 {a b:Bool} : We (.sl a b n xs)=.sl a b n xs:=ajz
theorem US {m:Nat} {O:List D} : Gg (.nx n xs) (.sl false false m O)=none:=ajz
theorem UU {a b c d:Bool} {m:Nat} {O:List D} : Gg (.sl a b n xs) (.sl c d m O)=some (.sl false false m O):=ajz
theorem Jk {O:Option (List D)} : aby none O=none:=ajz
theorem PX {y:Option D} : aby y none=none:=by cases y<;>rfl
theorem Pu {r:Row} {t:Nat} {b:Option Nat} : stZ x r t s b none=none:=by cases b<;>rfl
end
section
variable {Γ:Env} {g d:Nat} {p:Nat×Nat×Nat}
theorem Tl {f:Nat} {l:Bool} {G:Option (D×Row)->List D->Option (RK×Option Row)} : (Am.ext Γ f l G).nst g=Γ.nst g:=ajz
theorem Nu:(Am.keep d Γ).nst g=Γ.nst g:=ajz
theorem Ng {y:Nat} : (Am.vY d y Γ).nst g=Γ.nst g:=ajz
theorem No {f:Nat} : (Am.DU f p Γ).nst g=Γ.nst g:=ajz
theorem M9 {f:Nat} {q:Grow} : (Am.DO f q Γ).nst g=Γ.nst g:=ajz
theorem Ie:bm.nst g=none:=ajz
theorem Ov:(Am.vF d p Γ).nst g=if g=d then some p else Γ.nst g:=ajz
theorem Ek:(Am.vF d p Γ).lends g=Γ.lends g:=ajz
theorem Ox {l:Option (D×Row)} {agx:List D} : (Am.vF d p Γ).sem g l agx=Γ.sem g l agx:=ajz
theorem Ow:(Am.vF d p Γ).own g=Γ.own g:=ajz
theorem Im:(Am.vF d p Γ).hint g=Γ.hint g:=ajz
theorem Ou:(Am.vF d p Γ).ins g=Γ.ins g:=ajz
theorem Ot:(Am.vF d p Γ).grw g=Γ.grw g:=ajz
theorem X0 {f:Nat} {l:Bool} {G:Option (D×Row)->List D->Option (RK×Option Row)} : (Am.ext Γ f l G).nx=Γ.nx:=ajz
theorem Tv:(Am.keep d Γ).nx=Γ.nx:=ajz
theorem Ts {y:Nat} : (Am.vY d y Γ).nx=Γ.nx:=ajz
theorem Tt {f:Nat} : (Am.DU f p Γ).nx=Γ.nx:=ajz
theorem Tp {f:Nat} {q:Grow} : (Am.DO f q Γ).nx=Γ.nx:=ajz
theorem TT:(Am.vF d p Γ).nx=Γ.nx:=ajz
theorem Ic:bm.nx.lnd g=none:=ajz
theorem Ih:bm.nx.res g=none:=ajz
end
section
variable {Γ:Env} {g d f:Nat} {p:Nat×(Nat->Nat->Nat->Nat->List D->List D->Option (D×List D))}
theorem NS:(Am.Bw f p Γ).nx.lnd g=if g=f then some p else Γ.nx.lnd g:=ajz
theorem NV:(Am.Bw f p Γ).nx.res g=Γ.nx.res g:=ajz
theorem D4:(Am.Bw f p Γ).lends g=Γ.lends g:=ajz
theorem NW {l:Option (D×Row)} {agx:List D} : (Am.Bw f p Γ).sem g l agx=Γ.sem g l agx:=ajz
theorem NU:(Am.Bw f p Γ).own g=Γ.own g:=ajz
theorem HZ:(Am.Bw f p Γ).hint g=Γ.hint g:=ajz
theorem NR:(Am.Bw f p Γ).ins g=Γ.ins g:=ajz
theorem NQ:(Am.Bw f p Γ).grw g=Γ.grw g:=ajz
theorem NT:(Am.Bw f p Γ).nst g=Γ.nst g:=ajz
end
section
variable {Γ:Env} {g d f:Nat} {p:List D->Option (Nat×Nat×Nat×Nat×Nat×List D)}
theorem Oo:(Am.By f p Γ).nx.res g=if g=f then some p else Γ.nx.res g:=ajz
theorem Ol:(Am.By f p Γ).nx.lnd g=Γ.nx.lnd g:=ajz
theorem Ej:(Am.By f p Γ).lends g=Γ.lends g:=ajz
theorem Oq {l:Option (D×Row)} {agx:List D} : (Am.By f p Γ).sem g l agx=Γ.sem g l agx:=ajz
theorem On:(Am.By f p Γ).own g=Γ.own g:=ajz
theorem Il:(Am.By f p Γ).hint g=Γ.hint g:=ajz
theorem Oj:(Am.By f p Γ).ins g=Γ.ins g:=ajz
theorem Oi:(Am.By f p Γ).grw g=Γ.grw g:=ajz
theorem Om:(Am.By f p Γ).nst g=Γ.nst g:=ajz
end
section
variable {Γ:Env} {h:Nat->Option Row} {e x v o g:Nat} {rest:List D}
def Qh (Γ:Env) (e:Nat) (h:Nat->Option Row) (g x o:Nat) (rest:List D):Option (Row×Nat×Nat×Nat×List D)->Option bF
 | some (r,ty,s,nv,cs)=>CG e x r ty s nv cs o (Γ.nx.lnd g) (bx (EH h) rest)
 | none=>none
theorem GI:qM Γ e h g (.ptr x v o::rest)=Qh Γ e h g x o rest (fJ h x v):=by
 simp only[qM,Qh];cases fJ h x v<;>rfl
theorem Ah {r:Row} {ty s nv:Nat} {cs:List D} : Qh Γ e h g x o rest (some (r,ty,s,nv,cs))=CG e x r ty s nv cs o (Γ.nx.lnd g) (bx (EH h) rest):=ajz
theorem Af {r:Row} {ty s nv:Nat} {cs agx:List D} {p:Nat×(Nat->Nat->Nat->Nat->List D->List D->Option (D×List D))} : CG e x r ty s nv cs o (some p) (some (agx,[]))=JC x r ty s o p.1 (bump nv e) (p.2 r.ty ty s o cs agx):=ajz
theorem Ag {r:Row} {ty s O k:Nat} {d:D} {cs':List D} : JC x r ty s o k (some O) (some (d,cs'))=if ((cs'.drop o).take k).all (Bz s)=true then some ⟨d,[(x,some ⟨r.v,r.ty,[.nr ty s O (mD k o cs')],false,r.lst,true⟩)]⟩ else none:=ajz
end
end Go.Proofs.YtoioidmblipblaaGreat.Am
namespace Go.Proofs.YtoioidmblipblaaGreat.P
open Go.RowKit
def FU:Nat:=1000000000000000000000000
def nK {σ ρ:Type} (body:σ->Option (σ⊕ρ)):Nat->σ->Option ρ
 | 0,_=>none
 | n+1,s =>
  match body s with
  | some (.inl O)=>nK body n O
  | some (.inr r)=>some r
  | none=>none
def aS {σ ρ:Type} (body:σ->Option (σ⊕ρ)) (s:σ):Option ρ:=nK body FU s
theorem Yh {σ ρ:Type} {body:σ->Option (σ⊕ρ)} (I:σ->Prop) (μ:σ->Nat) (Q:ρ->Prop)
  (O:∀s,I s->(∃U,body s=some (.inl U)∧I U∧μ U<μ s)∨(∃r,body s=some (.inr r)∧Q r)):∀(n:Nat) (s:σ),I s->μ s<n->∃r,nK body n s=some r∧Q r:=by
 intro n
 induction n with
 | zero=>intro s _ h;omega
 | succ n X =>
  intro s Y Z;rcases O s Y with⟨U,h1,h2,h3⟩|⟨r,h1,h2⟩
  ·obtain⟨r,h4,h5⟩:=X U h2 (by omega);exact⟨r,by simp only[nK,h1];exact h4,h5⟩
  ·exact⟨r,by simp only[nK,h1],h2⟩
theorem qW {σ ρ:Type} {body:σ->Option (σ⊕ρ)} (I:σ->Prop) (μ:σ->Nat) (Q:ρ->Prop) {s:σ} (X:I s) (Y:μ s<FU)
  (O:∀s,I s->(∃U,body s=some (.inl U)∧I U∧μ U<μ s)∨(∃r,body s=some (.inr r)∧Q r)):∃r,aS body s=some r∧Q r:=Yh I μ Q O FU s X Y
def idx {α:Type} (l:List α) (i:Int):Option α:=if 0<=i∧i<l.length then l[i.toNat]? else none
def Fc {α:Type} (l:List α) (a b:Int):Option (List α):=if 0<=a∧a<=b∧b<=l.length then some ((l.drop a.toNat).take (b.toNat-a.toNat)) else none
def H5 {α:Type} (bytes:Nat) (n c:Int) (z:α):Option (List α):=if 0<=n∧n<=c∧c<=maxLen∧c.toNat*bytes<=140737488355328 then some (List.replicate n.toNat z) else none
def mh {α:Type} (bytes:Nat) (l m:List α):Option (List α):=if l.length+m.length<=maxLen∧(l.length+m.length)*bytes<=140737488355328 then some (l++m) else none
def adZ {α:Type} (l:List α):List (Bool×α):=l.map fun x=>(false,x)
def yS (k:IntKind) (x y:Int):Option Int:=if y=0 then none else some (k.wrap (x.tdiv y))
def Ed (_:IntKind) (x y:Int):Option Int:=if y=0 then none else some (x.tmod y)
def F6 (k:IntKind) (x y:Int):Option Int:=if y<0 then none else some (k.wrap (x*2 ^ (min y.toNat k.bits)))
def BL (k:IntKind) (x y:Int):Option Int:=if y<0 then none else some (x.fdiv (2 ^ (min y.toNat k.bits)))
def j0 (op:BinOp) (k:IntKind) (x y:Int):Int :=
 let a:=BitVec.ofInt k.bits x
 let b:=BitVec.ofInt k.bits y
 match op with
 | .and=>k.wrap (a &&& b).toNat
 | .or=>k.wrap (a ||| b).toNat
 | .xor=>k.wrap (a ^^^ b).toNat
 | _=>k.wrap (a &&& ~~~b).toNat
def fm {κ α:Type} [DecidableEq κ] (z:α):List (κ×α)->κ->α
 | [],_=>z
 | (k,v)::m,n=>if k=n then v else fm z m n
def lh {κ α:Type} [DecidableEq κ]:List (κ×α)->κ->Bool
 | [],_=>false
 | (k,_)::m,n=>k==n||lh m n
def pB {κ α:Type} [DecidableEq κ]:List (κ×α)->κ->α->List (κ×α)
 | [],n,v=>[(n,v)]
 | (k,x)::m,n,v=>if k=n then (k,v)::m else (k,x)::pB m n v
def nL (l:List Int):List Int:=l.mergeSort fun x y=>decide (x<=y)
theorem oH (l:List Int):(nL l).length=l.length:=List.length_mergeSort l
theorem IP:nL []=[]:=by simp[nL]
theorem ae {α β:Type} {o:Option α} {f:α->Option β} {r:β} (h:o.bind f=some r):∃a,o=some a∧f a=some r:=by
 cases o with
 | none=>cases h
 | some a=>exact⟨a,rfl,h⟩
theorem ad4 {α:Type} {b:Bool} {x y r:α} (O:b=true) (h:(if b=true then x else y)=r):x=r:=by rw[if_pos O]at h;exact h
theorem ad3 {α:Type} {b:Bool} {x y r:α} (O:b=false) (h:(if b=true then x else y)=r):y=r:=by rw[O]at h;simpa using h
theorem ai {a b:Prop} (x:a) (y:b):a∧b:=⟨x,y⟩
theorem sp {α:Type} {b:Bool} {P1 P2 Q:Prop} {x y r:α} (k:(b=true->P1)->(b=false->P2)->Q) (h:(if b=true then x else y)=r) (h1:b=true->x=r->P1) (h2:b=false->y=r->P2):Q:=k (fun O=>h1 O (ad4 O h)) fun O=>h2 O (ad3 O h)
end Go.Proofs.YtoioidmblipblaaGreat.P
namespace Go.Proofs.YtoioidmblipblaaGreat.Am
open Go.RowKit Go.Proofs.YtoioidmblipblaaGreat.P
structure jf (α:Type) where
 cells:α->List D
 size:Nat
 len:∀x,(cells x).length=size
 pos:0<size
 inj:∀x y,cells x=cells y->x=y
def ab {α:Type} (e:jf α):List α->List D
 | []=>[]
 | x::l=>e.cells x++ab e l
section
variable {α β:Type} (e:jf α)
theorem xQ:ab e []=[]:=rfl
theorem bj (x:α) (l:List α):ab e (x::l)=e.cells x++ab e l:=rfl
theorem js:∀l m:List α,ab e (l++m)=ab e l++ab e m
 | [],m=>rfl
 | x::l,m=>by rw[aiC,bj,bj,js l m,ah0]
theorem bR:∀l:List α,(ab e l).length=l.length*e.size
 | []=>by simp[ab]
 | x::l=>by rw[bj,ahO,bR l,e.len,ag2,ahB];omega
theorem u3:∀(l:List α) (i:Nat),(ab e l).drop (i*e.size)=ab e (l.drop i)
 | l,0=>by simp
 | [],i+1=>by simp[ab]
 | x::l,i+1=>by
  rw[bj,aiD,<- u3 l i,ait,e.len,aiu (by rw[e.len,ahB];omega),air];congr 1;rw[ahB];omega
theorem gB:∀(l:List α) (i:Nat),(ab e l).take (i*e.size)=ab e (l.take i)
 | l,0=>by simp[ab]
 | [],i+1=>by simp[ab]
 | x::l,i+1=>by
  rw[bj,aiE,bj,ah3,e.len,ah5 (by rw[e.len,ahB];omega),<- gB l i];congr 2;rw[ahB];omega
theorem tD:∀l m:List α,ab e l=ab e m->l=m
 | [],[],_=>rfl
 | [],y::m,h=>by
  have:=congrArg List.length h;have O:=e.pos;rw[bj,ahO,e.len]at this;simp[ab]at this;omega
 | x::l,[],h=>by
  have:=congrArg List.length h;have O:=e.pos;rw[bj,ahO,e.len]at this;simp[ab]at this;omega
 | x::l,y::m,h=>by
  rw[bj,bj]at h;obtain⟨h1,h2⟩:=List.append_inj h (by rw[e.len,e.len]);rw[e.inj _ _ h1,tD l m h2]
theorem Mq:∀(n:Nat) (x:α),mA n (e.cells x)=ab e (List.replicate n x)
 | 0,x=>by simp[mA,ab]
 | n+1,x=>by rw[ahz,bj,<- Mq n x];simp[mA,List.replicate_succ]
end
def eI (k:IntKind):jf Int:=⟨fun n=>[.int k n],1,fun _=>rfl,by decide,fun x y h=>by simpa using h⟩
def abQ:jf Bool:=⟨fun n=>[.bool n],1,fun _=>rfl,by decide,fun x y h=>by simpa using h⟩
def XS:jf ByteArray:=⟨fun n=>[.str n],1,fun _=>rfl,by decide,fun x y h=>by simpa using h⟩
def jk {α:Type} (e:jf α):jf (List α):=⟨fun l=>[.sl false false l.length (ab e l)],1,fun _=>rfl,by decide,fun x y h=>by
 simp only[ag0,D.sl.injEq,true_and,and_true]at h;exact tD e _ _ h.2⟩
def lR {α β:Type} (e:jf α) (f:jf β):jf (α×β):=⟨fun x=>e.cells x.1++f.cells x.2,e.size+f.size,fun x=>by rw[ahO,e.len,f.len],agF e.pos (Nat.le_add_right _ _),fun x y h=>by
 obtain⟨h1,h2⟩:=List.append_inj h (by rw[e.len,e.len]);exact Prod.ext (e.inj _ _ h1) (f.inj _ _ h2)⟩
def Bp {α β:Type} (e:jf β) (f:α->β) (hf:∀x y,f x=f y->x=y):jf α:=⟨fun x=>e.cells (f x),e.size,fun x=>e.len _,e.pos,fun x y h=>hf _ _ (e.inj _ _ h)⟩
structure Arg (α:Type) where
 d:α->D
 inj:∀x y,d x=d y->x=y
def aI (k:IntKind):Arg Int:=⟨fun n =>.int k n,fun x y h=>by simpa using h⟩
def abI:Arg Bool:=⟨fun n =>.bool n,fun x y h=>by simpa using h⟩
def afG:Arg ByteArray:=⟨fun n =>.str n,fun x y h=>by simpa using h⟩
def mP {α:Type} (e:jf α):Arg (List α):=⟨fun l =>.sl false false l.length (ab e l),fun x y h=>by
 simp only[D.sl.injEq,true_and]at h;exact tD e _ _ h.2⟩
def bC {α:Type} (e:jf α):Arg α:=⟨fun x =>.agg (e.cells x),fun x y h=>e.inj _ _ (by simpa using h)⟩
theorem adS (k:IntKind) (n:Int):(aI k).d n=.int k n:=ajz
theorem Sr (n:Bool):abI.d n=.bool n:=ajz
theorem WI (n:ByteArray):afG.d n=.str n:=ajz
theorem abL {α:Type} (e:jf α) (l:List α):(mP e).d l=.sl false false l.length (ab e l):=ajz
theorem WG {α:Type} (e:jf α) (x:α):(bC e).d x=.agg (e.cells x):=ajz
theorem xJ (k:IntKind) (n:Int):(eI k).cells n=[.int k n]:=ajz
theorem Aw (n:Bool):abQ.cells n=[.bool n]:=ajz
theorem Da (n:ByteArray):XS.cells n=[.str n]:=ajz
theorem Hg {α:Type} (e:jf α) (l:List α):(jk e).cells l=[.sl false false l.length (ab e l)]:=ajz
structure jn (α:Type) where
 ds:α->List D
 inj:∀x y,ds x=ds y->x=y
def as0:jn Unit:=⟨fun _=>[],fun _ _ _=>rfl⟩
def dS {α:Type} (a:Arg α):jn α:=⟨fun x=>[a.d x],fun x y h=>a.inj _ _ (by simpa using h)⟩
def iD {α β:Type} (a:Arg α) (b:jn β):jn (α×β):=⟨fun x=>a.d x.1::b.ds x.2,fun x y h=>by
 simp only[ag0]at h;exact Prod.ext (a.inj _ _ h.1) (b.inj _ _ h.2)⟩
def dW {α β:Type} (A:jn α) (F:α->Option β) (R:β->RK):Option (D×Row)->List D->Option (RK×Option Row):=fun lent ds =>
 match lent with
 | none=>open Classical in if h:∃a,A.ds a=ds then (F (Classical.choose h)).map fun r=>(R r,none) else none
 | some _=>none
theorem cU {α β:Type} (A:jn α) (F:α->Option β) (R:β->RK) (a:α):dW A F R none (A.ds a)=(F a).map fun r=>(R r,none):=by
 have h:∃b,A.ds b=A.ds a:=⟨a,rfl⟩;simp only[dW];rw[dif_pos h,A.inj _ _ (Classical.choose_spec h)]
theorem qY {α β:Type} {A:jn α} {F:α->Option β} {R:β->RK} {lent:Option (D×Row)} {ds:List D} {rk:RK} {out:Option Row} (h:dW A F R lent ds=some (rk,out)):lent=none∧out=none∧∃a r,ds=A.ds a∧F a=some r∧rk=R r:=by
 unfold dW at h;split at h
 ·split at h
  ·rename_i he;rw[agA]at h;obtain⟨r,h1,h2⟩:=h;simp only[Prod.mk.injEq]at h2;obtain⟨rfl,rfl⟩:=h2;exact⟨rfl,rfl,_,r,(Classical.choose_spec he).symm,h1,rfl⟩
  ·cases h
 ·cases h
structure bW (P:Program) (f:FuncId) (G:Option (D×Row)->List D->Option (RK×Option Row)):Prop where
 calls:∀lent agx rk out,G lent agx=some (rk,out)->qt P f lent agx rk out
 callable:dX P f
theorem bW.of {P:Program} {T:Nat->Option Ty} {Γ:Env} (X:ig P T) (Y:bH P Γ) (hm:P.follows .mixedOrders=true) {α β:Type} {A:jn α} {F:α->Option β} {R:β->RK} {mode:Mode} {f:FuncId} {fn:Func} (U:P.funcs[f]? = some fn) (O:(match fn.body with|some c=>codeOk c|none=>true)=true)
  (Z:(fn.name == "runtime.NumGoroutine")=false∧fn.body.isNone=false) (hn:∀a,(A.ds a).length<=fn.ntmps) (h:∀a r,F a=some r->jY mode T Γ FU fn none (A.ds a)=some (R r,none)):bW P f (dW A F R) where
 calls lent agx rk out hg:=by
  obtain⟨rfl,rfl,a,r,rfl,hr,rfl⟩:=qY hg;exact jF X Y hm U O (hn a) rfl (h a r hr)
 callable:=⟨fn,U,Z⟩
theorem bH.add {P:Program} {Γ:Env} (O:bH P Γ) {f:Nat} {G:Option (D×Row)->List D->Option (RK×Option Row)} (h:bW P f G) (l:Bool):bH P (Am.ext Γ f l G):=O.ext h.calls h.callable
section
variable {T:Nat->Option Ty} {Γ:Env} {N e:Nat} {ws:List W} {Q:Kt} {t:Nat->D} {h:Nat->Option Row}
def LK {σ ρ:Type} (Rel:σ->(Nat->D)->(Nat->Option Row)->Nat->Prop) (O:ρ->Ex->(Nat->D)->(Nat->Option Row)->Nat->Prop) (c:σ⊕ρ):Kt:=fun x t h e =>
 match x with
 | .normal=>∃U,c=.inl U∧Rel U t h e
 | x=>∃o,c=.inr o∧O o x t h e
theorem iu {σ ρ:Type} {Rel:σ->(Nat->D)->(Nat->Option Row)->Nat->Prop} {O:ρ->Ex->(Nat->D)->(Nat->Option Row)->Nat->Prop} {U:σ} (k:Rel U t h e):LK Rel O (.inl U) .normal t h e:=⟨U,rfl,k⟩
theorem jv {σ ρ:Type} {Rel:σ->(Nat->D)->(Nat->Option Row)->Nat->Prop} {O:ρ->Ex->(Nat->D)->(Nat->Option Row)->Nat->Prop} {o:ρ} {n:Nat} (k:O o (.exit n) t h e):LK Rel O (.inr o) (.exit n) t h e:=⟨o,rfl,k⟩
theorem rq {σ ρ:Type} {Rel:σ->(Nat->D)->(Nat->Option Row)->Nat->Prop} {O:ρ->Ex->(Nat->D)->(Nat->Option Row)->Nat->Prop} {o:ρ} (k:O o .ret t h e):LK Rel O (.inr o) .ret t h e:=⟨o,rfl,k⟩
theorem aB {σ ρ:Type} {body:σ->Option (σ⊕ρ)} {b:Code} (Rel:σ->(Nat->D)->(Nat->Option Row)->Nat->Prop) (O:ρ->Ex->(Nat->D)->(Nat->Option Row)->Nat->Prop) {s0:σ} {out:ρ} (hL:aS body s0=some out) (h0:Rel s0 t h e)
  (Y:∀s t h e,Rel s t h e->∀c,body s=some c->dh T Γ N FU [.code b] (LK Rel O c) .normal t h e)
  (U:∀x t h e,O out x t h e->dh T Γ N FU ws Q x t h e):T8 T Γ N FU b ws Q t h e:=by
 have key:∀(n:Nat) (s:σ) (t:Nat->D) (h:Nat->Option Row) (e:Nat),Rel s t h e->nK body n s=some out->∃x Z,iter (fQ T Γ N FU b) n ⟨t,h,e⟩=some (x,Z)∧dh T Γ N FU ws Q x Z.t Z.h Z.e:=by
  intro n
  induction n with
  | zero=>intro s t h e _ X;cases X
  | succ n ih =>
   intro s t h e hR X;simp only[nK]at X;cases hb:body s with
   | none=>rw[hb]at X;cases X
   | some c =>
    rw[hb]at X;obtain⟨x,s1,h1,h2⟩:=KU _ _ _ _ _ (show PW T Γ N FU b t h e (LK Rel O c) from Y s t h e hR c hb);simp only[iter,h1];cases x with
    | normal =>
     obtain⟨Z,rfl,h4⟩:=h2;exact ih Z s1.t s1.h s1.e h4 X
    | exit m =>
     obtain⟨o,rfl,h4⟩:=h2;simp only[agL]at X;subst X;exact⟨_,_,rfl,U _ _ _ _ h4⟩
    | ret =>
     obtain⟨o,rfl,h4⟩:=h2;simp only[agL]at X;subst X;exact⟨_,_,rfl,U _ _ _ _ h4⟩
 exact key FU s0 t h e h0 hL
theorem yG {d:D} {g:Nat} {A B A' B':(Nat->D)->Prop} (hk:R6 d t g A B) (h1:∀t,A t->A' t) (h2:∀t,B t->B' t):R6 d t g A' B':=by
 cases d with
 | bool b=>exact⟨fun O=>h1 _ (hk.1 O),fun O=>h2 _ (hk.2 O)⟩
 | _=>exact hk
theorem FA {d:D} {g:Nat} {A B S A' B' S':(Nat->D)->Prop} (hk:wpS d t g A B S) (h1:∀t,A t->A' t) (h2:∀t,B t->B' t) (h3:∀t,S t->S' t):wpS d t g A' B' S':=by
 unfold wpS at hk ⊢;split at hk
 ·exact h3 _ hk
 ·exact yG hk h1 h2
theorem En {α:Type} {x:Option α} {K K':α->Prop} (hk:pt x K) (h1:∀a,K a->K' a):pt x K':=by
 cases x with
 | none=>exact hk
 | some a=>exact h1 a hk
theorem PV {ops:List Oper} {gd:Option (Nat×Bool)} {A B A' B':(Nat->D)->Prop} (hk:wpG ops t gd A B) (h1:∀t,A t->A' t) (h2:∀t,B t->B' t):wpG ops t gd A' B':=by
 unfold wpG at hk ⊢;split
 ·exact h1 _ hk
 ·rename_i j want;refine En hk fun g O=>FA O ?_ ?_ h2
  ·intro t U;cases want<;>simp_all
  ·intro t U;cases want<;>simp_all
theorem yI {o:Oper} {K K':(Nat->D)->bF->Prop} (hk:PU T Γ e o t h K) (h1:∀t E,K t E->K' t E):PU T Γ e o t h K':=by
 unfold PU at hk ⊢;split
 ·rename_i O;rw[O]at hk;exact yG hk (fun _ h=>h1 _ _ h) (fun _ h=>h1 _ _ h)
 ·rename_i U;split at hk
  ·rename_i c a b O;exact absurd O (U _ _ _)
  ·exact En hk (fun _ h=>h1 _ _ h)
theorem vp {ops:List Oper} {K K':(Nat->D)->(Nat->Option Row)->Prop} (h1:∀t h,K t h->K' t h):∀(l:List Oper) (t:Nat->D) (h:Nat->Option Row),E6 T Γ N e ops l t h K->E6 T Γ N e ops l t h K'
 | [],t,h,hk=>h1 _ _ hk
 | o::l,t,h,hk=>by
  unfold E6 at hk ⊢;exact⟨hk.1,PV hk.2 (fun t O=>yI O fun t E U=>vp h1 l _ _ U) (fun t O=>vp h1 l _ _ O)⟩
theorem vk {ops:List Oper} {K K':(Nat->D)->(Nat->Option Row)->List jZ->Prop} (h1:∀t h fs,K t h fs->K' t h fs):∀(l:List Oper) (t:Nat->D) (h:Nat->Option Row) (fs:List jZ),runK T Γ N e ops l t h fs K->runK T Γ N e ops l t h fs K'
 | [],t,h,fs,hk=>h1 _ _ _ hk
 | o::l,t,h,fs,hk=>by
  unfold runK at hk ⊢;exact⟨hk.1,PV hk.2 (fun t O=>yI O fun t E U=>vk h1 l _ _ _ U) (fun t O=>vk h1 l _ _ _ O)⟩
theorem aak {ops:Array Oper} {draw:Bool} {K K':(Nat->D)->(Nat->Option Row)->Prop} (hk:wpR T Γ N ops draw t h e K) (h1:∀t h,K t h->K' t h):wpR T Γ N ops draw t h e K':=by
 unfold wpR at hk ⊢;cases draw with
 | true=>exact vk (fun t h fs O=>⟨O.1,h1 _ _ O.2⟩) _ _ _ _ hk
 | false=>exact vp h1 _ _ _ hk
theorem Wm {F:Nat} : ∀(c:Code) (t:Nat->D) (h:Nat->Option Row) (e:Nat) (K K':Kt),PW T Γ N F c t h e K->(∀x t h e,K x t h e->K' x t h e)->PW T Γ N F c t h e K':=by
 intro c
 induction c with
 | skip=>intro t h e K K' hk hm;exact hm _ _ _ _ hk
 | region i ops draw=>intro t h e K K' hk hm;exact aak hk fun t h hh=>hm _ _ _ _ hh
 | seq a b U X =>
  intro t h e K K' hk hm;refine U _ _ _ _ _ hk fun x t h e O =>?_;cases x with
  | normal=>exact X _ _ _ _ _ O hm
  | exit n=>exact hm _ _ _ _ O
  | ret=>exact hm _ _ _ _ O
 | cond c x y ihx ihy =>
  intro t h e K K' hk hm;unfold PW at hk ⊢;cases c with
  | tmp g=>exact yG hk (fun t Y=>ihx _ _ _ _ _ Y hm) (fun t Y=>ihy _ _ _ _ _ Y hm)
  | const v =>
   cases v with
   | bool b =>
    cases b with
    | true=>exact ihx _ _ _ _ _ hk hm
    | false=>exact ihy _ _ _ _ _ hk hm
   | _=>exact hk
  | _=>exact hk
 | block id b ih =>
  intro t h e K K' hk hm;refine ih _ _ _ _ _ hk fun x t h e O =>?_;cases x with
  | normal=>exact hm _ _ _ _ O
  | ret=>exact hm _ _ _ _ O
  | exit n =>
   unfold W8 at O ⊢;simp only at O ⊢;split at O
   ·rename_i Z;rw[if_pos Z];exact hm _ _ _ _ O
   ·rename_i Z;rw[if_neg Z];exact hm _ _ _ _ O
 | loop b ih =>
  intro t h e K K' hk hm;obtain⟨x,s,h1,h2⟩:=hk;exact⟨x,s,h1,hm _ _ _ _ h2⟩
 | exit id=>intro t h e K K' hk hm;exact hm _ _ _ _ hk
 | ret=>intro t h e K K' hk hm;exact hm _ _ _ _ hk
 | _=>intro t h e K K' hk;exact hk.elim
def CK {σ:Type} (J:σ->(Nat->D)->(Nat->Option Row)->Nat->Prop) (P:σ->Prop) (R:Kt):Kt:=fun x t h e =>
 match x with
 | .normal=>∃s,P s∧J s t h e
 | x=>R x t h e
theorem an {σ:Type} {J:σ->(Nat->D)->(Nat->Option Row)->Nat->Prop} {P:σ->Prop} {R:Kt} : CK J P R .normal t h e = ∃s,P s∧J s t h e:=ajz
end
section
variable {h:Nat->Option Row}
theorem GL {k:IntKind} {n:Int} : canon (.int k n)=.int k n:=ajz
theorem CM {b:Bool} : canon (.bool b)=.bool b:=ajz
theorem GN {b:ByteArray} : canon (.str b)=.str b:=ajz
theorem Lu {a b:Bool} {n:Nat} {xs:List D} : canon (.sl a b n xs)=.sl false false n xs:=ajz
theorem CI {k:IntKind} {n:Int} : fL (.int k n)=.int k n:=ajz
theorem Ai {b:Bool} : fL (.bool b)=.bool b:=ajz
theorem CL {b:ByteArray} : fL (.str b)=.str b:=ajz
theorem GK {a b:Bool} {n:Nat} {xs:List D} : fL (.sl a b n xs)=.sl false false n xs:=ajz
theorem CH {xs:List D} : fL (.agg xs)=.agg (xs.map canon):=ajz
def clB (x s o n:Nat):Option Row->Option (D×List Nat)
 | some r=>if o+n*s<=r.cells.length then some (.sl false false n ((r.cells.drop o).take (n*s)),[x]) else none
 | none=>none
theorem LM {x s o n:Nat} {r:Row} : clB x s o n (some r)=if o+n*s<=r.cells.length then some (.sl false false n ((r.cells.drop o).take (n*s)),[x]) else none:=ajz
def clP (x o:Nat):Option Row->Option (D×List Nat)
 | some r=>if o<=r.cells.length then some (.ip (r.cells.drop o),[x]) else none
 | none=>none
theorem LS {x o:Nat} {r:Row} : clP x o (some r)=if o<=r.cells.length then some (.ip (r.cells.drop o),[x]) else none:=ajz
theorem LD {k:IntKind} {n:Int} : bQ h (.int k n)=some (.int k n,[]):=ajz
theorem GP {b:Bool} : bQ h (.bool b)=some (.bool b,[]):=ajz
theorem LI {b:ByteArray} : bQ h (.str b)=some (.str b,[]):=ajz
theorem S0 {a b:Bool} {n:Nat} {xs:List D} : bQ h (.sl a b n xs)=some (.sl false false n xs,[]):=ajz
theorem Lx {xs:List D} : bQ h (.agg xs)=some (.agg (xs.map canon),[]):=ajz
theorem SY {xs:List D} : bQ h (.ip xs)=some (.ip xs,[]):=ajz
theorem SX {f:Nat} : bQ h (.fn f)=some (.fn f,[]):=ajz
theorem LA {x v s o n:Nat} : bQ h (.buf x v s o n)=clB x s o n (live h x v):=by
 simp only[bQ,aX,dH];cases live h x v with
 | none=>rfl
 | some r=>by_cases O:o+n*s<=r.cells.length<;>simp[clB,O,canon]
theorem LH {x v o:Nat} : bQ h (.ptr x v o)=clP x o (live h x v):=by
 simp only[bQ,aX];cases live h x v with
 | none=>rfl
 | some r=>simp only[clP]
theorem Xv {k:IntKind} {n:Int} : eT h (.int k n)=some ([.int k n],[]):=ajz
theorem S2 {b:Bool} : eT h (.bool b)=some ([.bool b],[]):=ajz
theorem Xw {b:ByteArray} : eT h (.str b)=some ([.str b],[]):=ajz
theorem abP {a b:Bool} {n:Nat} {xs:List D} : eT h (.sl a b n xs)=some ([.sl a b n xs],[]):=ajz
theorem Xt {xs:List D} : eT h (.agg xs)=some (xs,[]):=ajz
def cvB:Option (D×List Nat)->Option (List D×List Nat)
 | some (d,fr)=>some ([d],fr)
 | none=>none
theorem L1 {d:D} {fr:List Nat} : cvB (some (d,fr))=some ([d],fr):=ajz
theorem Xu {x v s o n:Nat} : eT h (.buf x v s o n)=cvB (clB x s o n (live h x v)):=by
 simp only[eT,dH];cases live h x v with
 | none=>rfl
 | some r=>by_cases O:o+n*s<=r.cells.length<;>simp[clB,cvB,O]
def clF (h:Nat->Option Row):Option (D×List Nat)->Option bF
 | some (d,fr)=>some ⟨d,iF h fr⟩
 | none=>none
theorem LO {d:D} {fr:List Nat} : clF h (some (d,fr))=some ⟨d,iF h fr⟩:=ajz
theorem Sv {x v s o n:Nat} : im h (.buf x v s o n)=clF h (clB x s o n (live h x v)):=by
 simp only[im,oV,dH];cases live h x v with
 | none=>rfl
 | some r=>by_cases O:o+n*s<=r.cells.length<;>simp[clB,clF,O,canon,fL]
variable {Γ:Env} {f g e:Nat} {l:Bool} {G:Option (D×Row)->List D->Option (RK×Option Row)} {lent:Option (D×Row)} {agx:List D} {dst:Option Nat} {fr:List Nat}
theorem Hw:(Am.ext Γ f l G).lends g=if g=f then l else Γ.lends g:=ajz
theorem Tn:(Am.ext Γ f l G).sem g lent agx=if g=f then G lent agx else Γ.sem g lent agx:=ajz
theorem Tm {d:Nat} : (Am.ext Γ f l G).own d=Γ.own d:=ajz
theorem Ig {d:Nat} : bm.own d=true:=ajz
theorem Nv {d i:Nat} : (Am.keep d Γ).own i=(i != d&&Γ.own i):=ajz
theorem DW {d i:Nat} : (Am.keep d Γ).lends i=Γ.lends i:=ajz
theorem Nw {d i:Nat} : (Am.keep d Γ).sem i lent agx=Γ.sem i lent agx:=ajz
def Bm (lends:Bool) (Γ:Env) (h:Nat->Option Row) (e:Nat) (dst:Option Nat) (g:Nat) (args:List D):Option bF :=
 if lends then
  match args with
  | .buf x v s o n::rest=>oU Γ h e dst g x v (.buf 0 0 s o n) rest
  | .ptr x v o::rest=>oU Γ h e dst g x v (.ptr 0 0 o) rest
  | .mp x v::rest=>oU Γ h e dst g x v (.mp 0 0) rest
  | _=>none
 else td Γ h e dst g args
def aaC (p:Option (Nat×Nat×Nat)) (Γ:Env) (h:Nat->Option Row) (e:Nat) (dst:Option Nat) (g:Nat) (args:List D):Option bF :=
 match p with
 | some p=>sI h e dst p args
 | none =>
  match Γ.grw g with
  | some p=>sH h p args
  | none=>Bm (Γ.lends g) Γ h e dst g args
def acM (p:Option Grow) (Γ:Env) (h:Nat->Option Row) (e:Nat) (dst:Option Nat) (g:Nat) (args:List D):Option bF :=
 match p with
 | some p=>sH h p args
 | none=>Bm (Γ.lends g) Γ h e dst g args
theorem GC {args:List D} : aaC none Γ h e dst g args=acM (Γ.grw g) Γ h e dst g args:=ajz
theorem Gz {args:List D} : acM none Γ h e dst g args=Bm (Γ.lends g) Γ h e dst g args:=ajz
theorem GA {p:Grow} {args:List D} : acM (some p) Γ h e dst g args=sH h p args:=ajz
theorem Ti {f:Nat} {l:Bool} {G:Option (D×Row)->List D->Option (RK×Option Row)} : (Am.ext Γ f l G).grw g=Γ.grw g:=ajz
theorem Ns {d:Nat} : (Am.keep d Γ).grw g=Γ.grw g:=ajz
theorem Nd {d y:Nat} : (Am.vY d y Γ).grw g=Γ.grw g:=ajz
theorem Nl {f:Nat} {p:Nat×Nat×Nat} : (Am.DU f p Γ).grw g=Γ.grw g:=ajz
theorem Ia:bm.grw g=none:=ajz
theorem M7 {f:Nat} {p:Grow} : (Am.DO f p Γ).grw g=if g=f then some p else Γ.grw g:=ajz
theorem M8 {f:Nat} {p:Grow} : (Am.DO f p Γ).ins g=Γ.ins g:=ajz
theorem DP {f:Nat} {p:Grow} : (Am.DO f p Γ).lends g=Γ.lends g:=ajz
theorem Nb {f:Nat} {p:Grow} {l:Option (D×Row)} {agx:List D} : (Am.DO f p Γ).sem g l agx=Γ.sem g l agx:=ajz
theorem Na {f:Nat} {p:Grow} {d:Nat} : (Am.DO f p Γ).own d=Γ.own d:=ajz
theorem HM {f:Nat} {p:Grow} {d:Nat} : (Am.DO f p Γ).hint d=Γ.hint d:=ajz
def lvP (v:Nat):Option Row->Option (Row×Nat×Nat×Nat)
 | some r=>if r.v=v∧r.mp=true then (match r.cells with | [.ph y s n]=>some (r,y,s,n)|_=>none) else none
 | none=>none
theorem NO {x v:Nat} : kR h x v=lvP v (h x):=by
 unfold kR lvP;cases h x<;>rfl
theorem N0 {v ty y s n:Nat} {fz lst:Bool} : lvP v (some ⟨v,ty,[.ph y s n],fz,lst,true⟩)=some (⟨v,ty,[.ph y s n],fz,lst,true⟩,y,s,n):=by simp[lvP]
def Xd (p:Grow) (y k:Nat) (rest:List D):Option (Row×Nat×Nat×Nat)->Option Row->Option bF
 | some (O,k',s,n),some r =>
   if k'=k∧k=PK+y∧y<PK∧O.fz=false∧r.mp=false∧r.fz=false∧r.lst=true∧s=p.k∧r.ty=p.ty∧r.cells.length=n*p.k∧(n+1)*p.bytes<=140737488355328 then
    match p.sem r.cells rest with
    | some cs=>some ⟨.int .i64 (n:Int),[(k,some ⟨r.v,p.ty,r.cells++cs,false,true,false⟩),(y,some ⟨O.v,O.ty,[.ph k p.k (n+1)],false,false,true⟩)]⟩
    | none=>none
   else none
 | _,_=>none
theorem SM {p:Grow} {y v k:Nat} {rest:List D} : sH h p (.pm y v k::rest)=Xd p y k rest (kR h y v) (h k):=ajz
def abO (k y v ty O ty' k' n:Nat) (cells:List D):Option (List D)->Option bF
 | some cs=>some ⟨.int .i64 (n:Int),[(k,some ⟨O,ty',cells++cs,false,true,false⟩),(y,some ⟨v,ty,[.ph k k' (n+1)],false,false,true⟩)]⟩
 | none=>none
theorem Cx {ty' k' O:Nat} {sem:List D->List D->Option (List D)} {y k:Nat} {rest:List D} {v ty s n X U:Nat} {cells:List D} : Xd ⟨ty',k',O,sem⟩ y k rest (some (⟨v,ty,[.ph k s n],false,false,true⟩,k,s,n)) (some ⟨X,U,cells,false,true,false⟩) =
  if k=1000000+y∧y<1000000∧s=k'∧U=ty'∧cells.length=n*k'∧(n+1)*O<=140737488355328 then abO k y v ty X ty' k' n cells (sem cells rest) else none:=by
 simp only[Xd,PK,true_and];cases sem cells rest<;>rfl
theorem Cy {k y v ty O ty' k' n:Nat} {cells cs:List D} : abO k y v ty O ty' k' n cells (some cs)=some ⟨.int .i64 (n:Int),[(k,some ⟨O,ty',cells++cs,false,true,false⟩),(y,some ⟨v,ty,[.ph k k' (n+1)],false,false,true⟩)]⟩:=ajz
theorem GD {p:Nat×Nat×Nat} {args:List D} : aaC (some p) Γ h e dst g args=sI h e dst p args:=ajz
theorem Tj {f:Nat} {l:Bool} {G:Option (D×Row)->List D->Option (RK×Option Row)} : (Am.ext Γ f l G).ins g=Γ.ins g:=ajz
theorem Nt {d:Nat} : (Am.keep d Γ).ins g=Γ.ins g:=ajz
theorem Nf {d y:Nat} : (Am.vY d y Γ).ins g=Γ.ins g:=ajz
theorem Ib:bm.ins g=none:=ajz
theorem Nn {f:Nat} {p:Nat×Nat×Nat} : (Am.DU f p Γ).ins g=if g=f then some p else Γ.ins g:=ajz
theorem DV {f:Nat} {p:Nat×Nat×Nat} : (Am.DU f p Γ).lends g=Γ.lends g:=ajz
theorem Nq {f:Nat} {p:Nat×Nat×Nat} {l:Option (D×Row)} {agx:List D} : (Am.DU f p Γ).sem g l agx=Γ.sem g l agx:=ajz
theorem Np {f:Nat} {p:Nat×Nat×Nat} {d:Nat} : (Am.DU f p Γ).own d=Γ.own d:=ajz
theorem HP {f:Nat} {p:Nat×Nat×Nat} {d:Nat} : (Am.DU f p Γ).hint d=Γ.hint d:=ajz
def Xe (ty k O x y s U o o' n m:Nat) (i:Int) (e:Nat) (d:Nat):Option Row->Option Row->Option bF
 | some r,some r' =>
   if r.fz=false∧r'.fz=false∧r.lst=true∧r'.lst=true∧x≠y∧s=k∧U=k∧r.ty=ty∧r'.ty=ty∧o=0∧o'=0∧r.cells.length=n*k∧r'.cells.length=m*k∧0<=i∧i<=n∧0<m∧(n+m)*O<=140737488355328 then
    some ⟨.buf d e k 0 (n+m),[(y,none),(x,none),(d,some ⟨e,ty,r.cells.take (i.toNat*k)++(r'.cells++r.cells.drop (i.toNat*k)),false,true,false⟩)]⟩
   else none
 | _,_=>none
theorem SN {ty k O x v s o n y v' U o' m d:Nat} {i:Int} : sI h e (some d) (ty,k,O) [.buf x v s o n,.int .i64 i,.buf y v' U o' m]=Xe ty k O x y s U o o' n m i e d (live h x v) (live h y v'):=by
 simp only[sI,Xe];cases live h x v with
 | none=>rfl
 | some r=>cases live h y v'<;>rfl
theorem Cz {ty k O x y s U o o' n m : Nat} {i : Int} {d : Nat} {r r' : Row} : Xe ty k O x y s U o o' n m i e d (some r) (some r') = if r.fz = false ∧ r'.fz = false ∧ r.lst = true ∧ r'.lst = true ∧ x ≠ y ∧ s = k ∧ U = k ∧ r.ty = ty ∧ r'.ty = ty ∧ o = 0 ∧ o' = 0 ∧ r.cells.length = n * k ∧ r'.cells.length = m * k ∧ 0 <= i ∧ i <= n ∧ 0 < m ∧ (n + m) * O <= 140737488355328 then
        some ⟨.buf d e k 0 (n + m), [(y, none), (x, none), (d, some ⟨e, ty, r.cells.take (i.toNat * k) ++ (r'.cells ++ r.cells.drop (i.toNat * k)), false, true, false⟩)]⟩
      else none := Eq.trans rfl rfl
theorem SP {args:List D} : ij Γ h e dst (.fn g) args=aaC (Γ.ins g) Γ h e dst g args:=by
 simp only[ij,aaC,Bm];cases Γ.ins g with
 | none=>cases Γ.grw g<;>rfl
 | some p=>rfl
def U5 (h:Nat->Option Row) (e:Nat) (dst:Option Nat) (fr:List Nat):Option (RK×Option Row)->Option bF
 | some (.clean r,_)=>some ⟨r,if gx r then [] else iF h fr⟩
 | some (.fresh ty s n cells,_) =>
  match dst with
  | some d=>if fr.contains d=false then some ⟨.buf d e s 0 n,(if pg cells then [] else iF h fr)++[(d,some ⟨e,ty,cells,false,true,false⟩)]⟩ else none
  | none=>none
 | _=>none
def aaB (Γ:Env) (h:Nat->Option Row) (e:Nat) (dst:Option Nat) (g:Nat):Option (List D×List Nat)->Option bF
 | some (agx,fr)=>U5 h e dst fr (Γ.sem g none agx)
 | none=>none
theorem GF {args:List D} : Bm false Γ h e dst g args=aaB Γ h e dst g (bx h args):=by
 simp only[Bm,ahc,if_false,td,aaB];cases bx h args with
 | none=>rfl
 | some p =>
  obtain⟨agx,fr⟩:=p;simp only;cases hs:Γ.sem g none agx with
  | none=>rfl
  | some q =>
   obtain⟨rk,o⟩:=q;cases rk<;>rfl
theorem Gy:aaB Γ h e dst g (some (agx,fr))=U5 h e dst fr (Γ.sem g none agx):=ajz
def X7 (h:Nat->Option Row) (fr:List Nat):Bool->List (Nat×Option Row)
 | true=>[]
 | false=>iF h fr
theorem HJ:X7 h fr true=[]:=ajz
theorem DA:X7 h fr false=iF h fr:=ajz
theorem MH {b:Bool} : X7 h [] b=[]:=by cases b<;>rfl
theorem CD {r:D} {o:Option Row} : U5 h e dst fr (some (.clean r,o))=some ⟨r,X7 h fr (gx r)⟩:=by
 simp only[U5];cases gx r<;>rfl
theorem To:iF h []=[]:=ajz
theorem MI {x:Nat} : iF h (x::fr)=(x,(h x).map qU)::iF h fr:=ajz
theorem Ya {v ty:Nat} {cells:List D} {lst mp:Bool} : qU ⟨v,ty,cells,true,lst,mp⟩=⟨v,ty,cells,true,lst,mp⟩:=ajz
theorem X8 {v ty:Nat} {cells:List D} {lst mp:Bool} : qU ⟨v,ty,cells,false,lst,mp⟩=⟨v,ty,cells,true,true,mp⟩:=ajz
theorem GQ:bx h []=some ([],[]):=ajz
def caC (p:Option (D×List Nat)) (q:Option (List D×List Nat)):Option (List D×List Nat) :=
 match p,q with
 | some (X,fr),some (O,U)=>some (X::O,fr++U)
 | _,_=>none
theorem Lg {d:D} {fr O:List Nat} {ds:List D} : caC (some (d,fr)) (some (ds,O))=some (d::ds,fr++O):=ajz
theorem CN {d:D} {ds:List D} : bx h (d::ds)=caC (bQ h d) (bx h ds):=by
 simp only[bx];cases bQ h d with
 | none=>rfl
 | some p=>cases bx h ds<;>rfl
variable {T:Nat->Option Ty} {s:St} {rs:List ResultVar} {r:ResultVar}
theorem OY:sr T s []=some ([],[]):=ajz
theorem ID:sr T s (r::rs)=caC (OW T s r) (sr T s rs):=by
 simp only[sr];cases OW T s r with
 | none=>rfl
 | some p=>cases sr T s rs<;>rfl
theorem OX {t:Nat->D} {i:Nat} : OW T ⟨t,h,e⟩ (.tmp i)=bQ h (t i):=ajz
def adm (T:Nat->Option Ty) (h:Nat->Option Row) (d:D) (τ:Option Ty):Option (D×List Nat) :=
 match τ,d with
 | some τ,.ptr x v o=>match dQ τ h (.ptr x v o) with|some E=>some (fL E.val,[])|none=>none
 | _,_=>none
theorem IB {t:Nat->D} {i ty:Nat} : OW T ⟨t,h,e⟩ (.cell i ty)=adm T h (t i) (T ty):=ajz
def adn:Option bF->Option (D×List Nat)
 | some E=>some (fL E.val,[])
 | none=>none
theorem IC {d:D} {w:List (Nat×Option Row)} : adn (some ⟨d,w⟩)=some (fL d,[]):=ajz
theorem OV {τ:Ty} {x v o:Nat} : adm T h (.ptr x v o) (some τ)=adn (dQ τ h (.ptr x v o)):=by
 simp only[adm,adn]
def acR (p:Option (List D×List Nat)):Option (RK×Option Row) :=
 match p with
 | some (ds,_)=>some (.clean (kJ ds),none)
 | none=>none
theorem Hk {ds:List D} {fr:List Nat} : acR (some (ds,fr))=some (.clean (kJ ds),none):=ajz
theorem Dn:fF .clean T none rs s=acR (sr T s rs):=by
 simp only[fF,pf,jI,YI,acR];cases sr T s rs<;>rfl
theorem CE {ty sz n d:Nat} {cells:List D} {o:Option Row} : U5 h e (some d) fr (some (.fresh ty sz n cells,o))=if fr.contains d=false then some ⟨.buf d e sz 0 n,X7 h fr (pg cells)++[(d,some ⟨e,ty,cells,false,true,false⟩)]⟩ else none:=by
 simp only[U5];cases pg cells<;>rfl
theorem yX {k:IntKind} : ∀l:List Int,pg (ab (eI k) l)=true
 | []=>rfl
 | x::l=>by
  have:=yX (k:=k) l;simp only[bj,xJ,List.cons_append,List.nil_append,pg,gx,this,Bool.and_self]
theorem Dp {ty sz i:Nat} {t:Nat->D} : fF (.fresh ty sz) T none [.tmp i] ⟨t,h,e⟩=mn ty sz h (t i):=ajz
theorem Dr {i:Nat} {t:Nat->D} : fF .tight T none [.tmp i] ⟨t,h,e⟩=u5 (t i):=ajz
theorem XZ {nl O:Bool} {n:Nat} {xs:List D} : u5 (.sl nl O n xs)=some (.clean (.sl nl O n xs),none):=ajz
theorem S9 {ty sz x v o n:Nat} : mn ty sz h (.buf x v sz o n)=u4 ty sz o n (live h x v):=by simp[mn]
theorem XU {ty sz:Nat} {nl O:Bool} {xs:List D} : mn ty sz h (.sl nl O 0 xs)=if O=true then some (.fresh ty sz 0 [],none) else none:=ajz
theorem Mn {ty sz o n:Nat} {r:Row} : u4 ty sz o n (some r)=if r.fz=false∧r.ty=ty∧o+n*sz<=r.cells.length then some (.fresh ty sz n ((r.cells.drop o).take (n*sz)),none) else none:=ajz
theorem EY {d:D} : kJ [d]=d:=ajz
theorem EZ {d O:D} {ds:List D} : kJ (d::O::ds)=.tup (d::O::ds):=ajz
end
theorem S8 (k:IntKind):(eI k).size=1:=ajz
theorem C9:abQ.size=1:=ajz
theorem Hh:XS.size=1:=ajz
theorem Mm {α:Type} (e:jf α):(jk e).size=1:=ajz
section
variable {α:Type} (E:jf α) {l m:List α} {x x' z:α} {i a b n c:Int} {B:Nat}
theorem J7 (h:P.idx l i=some x):0<=i∧i<l.length:=by
 unfold P.idx at h;split at h
 ·assumption
 ·cases h
theorem Yg (h:P.idx l i=some x):l[i.toNat]? = some x:=by
 unfold P.idx at h;split at h
 ·exact h
 ·cases h
theorem BU (h:P.idx l i=some x):(ab E l).drop (i.toNat*E.size)=E.cells x++ab E (l.drop (i.toNat+1)):=by
 have h':=Yg h;obtain⟨O,rfl⟩:=ag5.1 h';rw[u3,aiF O];rfl
theorem sd (h:P.idx l i=some x):i.toNat*E.size+E.size<=l.length*E.size:=by
 have h':=J7 h;have:i.toNat+1<=l.length:=by omega
 have:=ahp E.size this
 rwa [ahB]at this
theorem bo (h:P.idx l i=some x):(0<=i∧i<l.length)∧(ab E l).drop (i.toNat*E.size)=E.cells x++ab E (l.drop (i.toNat+1))∧i.toNat*E.size+E.size<=l.length*E.size:=⟨J7 h,BU E h,sd E h⟩
theorem Y3:∀(l:List α) (i:Nat) (x:α),l[i]? = some x->∀x',ab E (l.set i x')=(ab E l).take (i*E.size)++E.cells x'++(ab E l).drop (i*E.size+E.size)
 | [],i,x,h,x'=>by simp at h
 | y::l,0,x,h,x'=>by
  rw[List.set_cons_zero,bj,bj,aiy,aiG,air,ahr,ait,E.len,ahQ,ah6,aiu (by rw[E.len];exact agC _),air]
 | y::l,i+1,x,h,x'=>by
  have U:=Y3 l i x (by simpa using h) x';rw[List.set_cons_succ,bj,bj,U,ahB];have O:=E.len y;have X:(E.cells y++ab E l).take (i*E.size+E.size)=E.cells y++(ab E l).take (i*E.size):=by rw[ah3,O,ah5 (by omega),aiv]
  have Y:(E.cells y++ab E l).drop (i*E.size+E.size+E.size)=(ab E l).drop (i*E.size+E.size):=by
   rw[ait,O,aiu (by omega),air,aiv]
  rw[X,Y];simp only[ah0]
theorem fW (fo:Nat) (cs:List D) (h:P.idx l i=some x) (X:E.cells x'=putCells (E.cells x) fo cs) (Y:fo+cs.length<=E.size):putCells (ab E l) (i.toNat*E.size+fo) cs=ab E (l.set i.toNat x'):=by
 have h':=Yg h;rw[Y3 E l i.toNat x h' x',X];have he:=BU E h;have hf:=sd E h;have hl:=bR E l;have Z:=E.len x;have O:ab E l=(ab E l).take (i.toNat*E.size)++(E.cells x++(ab E l).drop (i.toNat*E.size+E.size)):=by
  have h1:=aix (i.toNat*E.size) (ab E l);have h2:(ab E l).drop (i.toNat*E.size+E.size)=ab E (l.drop (i.toNat+1)):=by
   rw[<- aiw,he,ait,Z,ahQ,ah6,aiu (by omega),air]
  rw[h2,<- he,h1]
 generalize (ab E l).drop (i.toNat*E.size+E.size)=r at *;generalize ht:(ab E l).take (i.toNat*E.size)=p at *;have U:p.length=i.toNat*E.size:=by rw[<- ht];simp;omega
 unfold putCells;rw[O];have e1:(p++(E.cells x++r)).take (i.toNat*E.size+fo)=p++(E.cells x).take fo:=by
  rw[ah3,U,ah5 (by omega),ah2,ah4 (by omega)]
 have e2:(p++(E.cells x++r)).drop (i.toNat*E.size+fo+cs.length)=(E.cells x).drop (fo+cs.length)++r:=by
  rw[agX,ait,U,aiu (by omega),ah2,air,ah1 (by omega)]
 rw[e1,e2];simp only[ah0]
theorem YX (h:P.idx l i=some x):putCells (ab E l) (i.toNat*E.size) (E.cells x')=ab E (l.set i.toNat x'):=by
 have:=fW E (x':=x') 0 (E.cells x') h (by unfold putCells;simp[E.len]) (by rw[E.len];omega);simpa using this
theorem YA (h:H5 B n c z=some m):m=List.replicate n.toNat z∧0<=n∧n<=c∧c<=maxLen∧c.toNat*B<=140737488355328:=by
 unfold H5 at h;split at h
 ·cases h;exact⟨rfl,by assumption⟩
 ·cases h
theorem mk_one (h:H5 B n n z=some m):0<=n∧n.toNat=m.length∧m.length<=maxLen∧mA m.length (E.cells z)=ab E m∧m.length*B<=140737488355328:=by
 obtain⟨rfl,h1,_,h3,h4⟩:=YA h;refine⟨h1,by simp,by simp;omega,by rw[Mq];simp,by simpa using h4⟩
theorem zO (h:Fc l a b=some m):0<=a∧0<=b∧a.toNat<=b.toNat∧b.toNat<=l.length∧b.toNat-a.toNat=m.length∧(List.take (m.length*E.size) (List.drop (a.toNat*E.size) (ab E l))=ab E m):=by
 unfold Fc at h;split at h
 ·rename_i U;cases h;have O:((l.drop a.toNat).take (b.toNat-a.toNat)).length=b.toNat-a.toNat:=by simp;omega
  refine⟨U.1,by omega,by omega,by omega,O.symm,?_⟩;rw[O,u3,gB]
 ·cases h
theorem adt (h:Fc l a b=some m):0<=a∧0<=b∧(a.toNat<=b.toNat∧b.toNat<=l.length)∧b.toNat-a.toNat=m.length∧(List.take (m.length*E.size) (List.drop (a.toNat*E.size) (ab E l))=ab E m):=by
 obtain⟨h1,h2,h3,h4,h5,h6⟩:=zO E h;exact⟨h1,h2,⟨h3,h4⟩,h5,h6⟩
theorem Y8 (h:Fc l a (l.length:Int)=some m):0<=a∧0<=a∧a.toNat<=l.length∧l.length-a.toNat=m.length∧(List.take (m.length*E.size) (List.drop (a.toNat*E.size) (ab E l))=ab E m):=by
 obtain⟨h1,h2,h3,h4,h5,h6⟩:=zO E h;simp only[Int.toNat_natCast]at h3 h5;exact⟨h1,h1,h3,h5,h6⟩
theorem KA (h:Fc l 0 b=some m):0<=b∧0<=b∧m.length<=l.length∧b.toNat=m.length∧(List.take (m.length*E.size) (ab E l)=ab E m):=by
 obtain⟨h1,h2,h3,h4,h5,h6⟩:=zO E h;have O:b.toNat=m.length:=by simpa using h5
 refine⟨h2,h2,by omega,O,by simpa using h6⟩
theorem yP {n:List α} (h:mh B l m=some n):n=l++m∧n.length<=maxLen∧n.length*B<=140737488355328:=by
 unfold mh at h;split at h
 ·rename_i O;cases h;exact⟨rfl,by rw[ahO];exact O.1,by rw[ahO];exact O.2⟩
 ·cases h
theorem iJ {n:List α} (h:mh B l [x]=some n):l.length+1=n.length∧ab E l++E.cells x=ab E n∧n.length<=maxLen∧n.length*B<=140737488355328:=by
 obtain⟨rfl,h1,h2⟩:=yP h;exact⟨by simp,by rw[js];simp[ab],h1,h2⟩
theorem BP {n:List α} (h:mh B [] l=some n):n=l∧l.length<=maxLen∧l.length*B<=140737488355328:=by
 obtain⟨rfl,h1,h2⟩:=yP h;exact⟨rfl,h1,h2⟩
theorem aav {n:List α} (h:mh B l m=some n):l.length+m.length=n.length∧ab E l++ab E m=ab E n∧n.length<=maxLen∧n.length*B<=140737488355328:=by
 obtain⟨rfl,h1,h2⟩:=yP h;exact⟨by simp,by rw[js],h1,h2⟩
end
theorem rV {k:IntKind} {x y z:Int} (h:yS k x y=some z):¬y=0∧k.wrap (x.tdiv y)=z:=by
 unfold yS at h;split at h
 ·cases h
 ·cases h;exact⟨by assumption,rfl⟩
theorem yd {k:IntKind} {x y z:Int} (h:Ed k x y=some z):¬y=0∧x.tmod y=z:=by
 unfold Ed at h;split at h
 ·cases h
 ·cases h;exact⟨by assumption,rfl⟩
theorem B6 {k:IntKind} {x y z:Int} (h:F6 k x y=some z):¬y<0∧k.wrap (x*2 ^ (min y.toNat k.bits))=z:=by
 unfold F6 at h;split at h
 ·cases h
 ·cases h;exact⟨by assumption,rfl⟩
theorem vt {k:IntKind} {x y z:Int} (h:BL k x y=some z):¬y<0∧x.fdiv (2 ^ (min y.toNat k.bits))=z:=by
 unfold BL at h;split at h
 ·cases h
 ·cases h;exact⟨by assumption,rfl⟩
theorem SJ (op:BinOp) (k:IntKind) (x y:Int):Cu op k x y=j0 op k x y:=ajz
theorem qt.emp {P:Program} {f:FuncId} {rk:RK} {out:Option Row} (h1:qt P f none [.sl true true 0 []] rk out) (h2:qt P f none [.sl true false 0 []] rk out):qt P f none [.sl false false 0 []] rk out:=by
 intro w M vs Y O;have Z:=O.2 0 _ rfl;generalize hu:vs.getD 0 undef=u at Z;cases Z with
 | sl A c nl tight n xs us k1 k2 k3 X k5 k6 k7 k8 =>
  cases A with
  | none =>
   refine h1 w M vs Y ⟨O.1,fun j d U =>?_,O.tab⟩;cases j with
   | zero=>cases U;rw[hu];exact .sl none c true true 0 [] us k1 k2 (fun _=>⟨fun _=>⟨rfl,(X rfl).2⟩,fun h=>by cases h⟩) X (fun _=>(X rfl).2) k6 k7 k8
   | succ j=>simp at U
  | some A =>
   refine h2 w M vs Y ⟨O.1,fun j d U =>?_,O.tab⟩;cases j with
   | zero=>cases U;rw[hu];exact .sl (some A) c true false 0 [] us k1 k2 (fun _=>⟨(fun h=>by cases h),fun _ h=>by cases h⟩) X (fun h=>by cases h) k6 k7 k8
   | succ j=>simp at U
theorem bW.ad9 {P:Program} {T:Nat->Option Ty} {Γ:Env} (X:ig P T) (Y:bH P Γ) (hm:P.follows .mixedOrders=true) {α β:Type} {E:jf α} {F:List α->Option β} {R:β->RK} {mode:Mode} {f:FuncId} {fn:Func} (U:P.funcs[f]? = some fn) (O:(match fn.body with|some c=>codeOk c|none=>true)=true)
  (hc:(fn.name == "runtime.NumGoroutine")=false∧fn.body.isNone=false) (Z:1<=fn.ntmps)
  (h0:∀r,F []=some r->jY mode T Γ FU fn none [.sl true true 0 []]=some (R r,none))
  (h1:∀r,F []=some r->jY mode T Γ FU fn none [.sl true false 0 []]=some (R r,none))
  (h2:∀l r,0<l.length->F l=some r->jY mode T Γ FU fn none [.sl false false l.length (ab E l)]=some (R r,none)):bW P f (dW (dS (mP E)) F R) where
 calls lent agx rk out hg:=by
  obtain⟨rfl,rfl,l,r,rfl,hr,rfl⟩:=qY hg;cases l with
  | nil=>exact qt.emp (jF X Y hm U O Z rfl (h0 r hr)) (jF X Y hm U O Z rfl (h1 r hr))
  | cons x l=>exact jF X Y hm U O Z rfl (h2 (x::l) r (by simp) hr)
 callable:=⟨fn,U,hc⟩
theorem acG {w:World} {M:Nat->Prop} {k:IntKind} {n:Int} {u:Value} (h:RP w M (.int k n) u):u=.int k n:=by cases h;rfl
theorem aac {vs:Array Value} (h:vs.size=1):vs = #[vs.getD 0 undef]:=by
 apply Array.ext
 ·simp[h]
 ·intro i h1 h2;have:i=0:=by omega
  subst this;simp[ahP h1]
theorem vm1:type_of% (ai @Jz<|ai @Cw<|ai @IK<|ai @O4<|ai @O3<|ai @II<|ai @E7<|ai @IJ<|ai @bg<|ai @aY<|ai @sP<|ai @bk<|ai @v7<|ai @A5<|ai @Fa<|ai @IH<|ai @Je<|ai @Fp<|ai @O1<|ai @IF<|ai @E4<|ai @Jf<|ai @Fq<|ai @Fs<|ai @Bf<|ai @O2<|ai @IG<|ai @E5<|ai @Jg<|ai @Ft<|ai @Fu<|ai @Bg<|ai @Pk<|ai @Pt<|ai @Ui<|ai @Un<|ai @ER<|ai @A0<|ai @ES<|ai @A1<|ai @L7<|ai @Md<|ai @L6<|ai @Mc<|ai @CU<|ai @CX<|ai @GX<|ai @G5<|ai @L8<|ai @Me<|ai @L4<|@Ma):=⟨@Jz,@Cw,@IK,@O4,@O3,@II,@E7,@IJ,@bg,@aY,@sP,@bk,@v7,@A5,@Fa,@IH,@Je,@Fp,@O1,@IF,@E4,@Jf,@Fq,@Fs,@Bf,@O2,@IG,@E5,@Jg,@Ft,@Fu,@Bg,@Pk,@Pt,@Ui,@Un,@ER,@A0,@ES,@A1,@L7,@Md,@L6,@Mc,@CU,@CX,@GX,@G5,@L8,@Me,@L4,@Ma⟩
theorem vm2:type_of% (ai @G3<|ai @Hb<|ai @xE<|ai @xH<|ai @vN<|ai @vR<|ai @GZ<|ai @G7<|ai @vO<|ai @vS<|ai @G0<|ai @G8<|ai @G1<|ai @G9<|ai @GY<|ai @G6<|ai @tq<|ai @tr<|ai @vP<|ai @vT<|ai @GW<|ai @G4<|ai @S4<|ai @S5<|ai @An<|ai @Ar<|ai @Ao<|ai @As<|ai @L3<|ai @L9<|ai @Al<|ai @Aq<|ai @Oy<|ai @OJ<|ai @Gv<|ai @Aa<|ai @GS<|ai @MA<|ai @C6<|ai @C5<|ai @DR<|ai @DQ<|ai @cK<|ai @AI<|ai @cJ<|ai @sg<|ai @UL<|ai @K9<|ai @Gm<|ai @Gl<|ai @Ij<|@HA):=⟨@G3,@Hb,@xE,@xH,@vN,@vR,@GZ,@G7,@vO,@vS,@G0,@G8,@G1,@G9,@GY,@G6,@tq,@tr,@vP,@vT,@GW,@G4,@S4,@S5,@An,@Ar,@Ao,@As,@L3,@L9,@Al,@Aq,@Oy,@OJ,@Gv,@Aa,@GS,@MA,@C6,@C5,@DR,@DQ,@cK,@AI,@cJ,@sg,@UL,@K9,@Gm,@Gl,@Ij,@HA⟩
theorem vm3:type_of% (ai @HB<|ai @A9<|ai @Fm<|ai @Fl<|ai @Be<|ai @uu<|ai @sR<|ai @Bb<|ai @sS<|ai @Bc<|ai @sT<|ai @A8<|ai @Jc<|ai @wb<|ai @wc<|ai @Ba<|ai @rn<|ai @Bd<|ai @Fk<|ai @wa<|ai @yC<|ai @TQ<|ai @Of<|ai @IA<|ai @Iz<|ai @HW<|ai @SB<|ai @La<|ai @SF<|ai @W5<|ai @SE<|ai @W1<|ai @Sz<|ai @SG<|ai @W0<|ai @BQ<|ai @SH<|ai @SA<|ai @Gq<|ai @Cs<|ai @SD<|ai @Gr<|ai @GL<|ai @CM<|ai @GN<|ai @Lu<|ai @CI<|ai @Ai<|ai @CL<|ai @GK<|ai @CH<|@LM):=⟨@HB,@A9,@Fm,@Fl,@Be,@uu,@sR,@Bb,@sS,@Bc,@sT,@A8,@Jc,@wb,@wc,@Ba,@rn,@Bd,@Fk,@wa,@yC,@TQ,@Of,@IA,@Iz,@HW,@SB,@La,@SF,@W5,@SE,@W1,@Sz,@SG,@W0,@BQ,@SH,@SA,@Gq,@Cs,@SD,@Gr,@GL,@CM,@GN,@Lu,@CI,@Ai,@CL,@GK,@CH,@LM⟩
theorem vm4:type_of% (ai @LS<|ai @LD<|ai @GP<|ai @LI<|ai @S0<|ai @Lx<|ai @SY<|ai @SX<|ai @LA<|ai @LH<|ai @Xv<|ai @S2<|ai @Xw<|ai @abP<|ai @Xt<|ai @Xu<|ai @L1<|ai @Hw<|ai @Tn<|ai @SP<|ai @GF<|ai @Gy<|ai @CD<|ai @HJ<|ai @DA<|ai @MH<|ai @To<|ai @MI<|ai @GQ<|ai @CN<|ai @Lg<|ai @OY<|ai @ID<|ai @OX<|ai @IB<|ai @OV<|ai @IC<|ai @Dn<|ai @Hk<|ai @CE<|ai @yX<|ai @Dp<|ai @Dr<|ai @XZ<|ai @S9<|ai @XU<|ai @Mn<|ai @EY<|ai @EZ<|ai @SJ<|ai @xQ<|@bj):=⟨@LS,@LD,@GP,@LI,@S0,@Lx,@SY,@SX,@LA,@LH,@Xv,@S2,@Xw,@abP,@Xt,@Xu,@L1,@Hw,@Tn,@SP,@GF,@Gy,@CD,@HJ,@DA,@MH,@To,@MI,@GQ,@CN,@Lg,@OY,@ID,@OX,@IB,@OV,@IC,@Dn,@Hk,@CE,@yX,@Dp,@Dr,@XZ,@S9,@XU,@Mn,@EY,@EZ,@SJ,@xQ,@bj⟩
theorem vmk:type_of% (And.intro (@PF)<|@PG):=⟨@PF,@PG⟩
theorem vmc:type_of% (ai @true_and<|ai @and_true<|ai @ahc<|ai @agI<|ai @ahs<|ai @aiD<|ai @ah6<|ai @aiE<|ai @aiG<|ai @ag2<|ai @ag3<|ai @List.contains_nil.{0}<|ai @air<|ai @aiC<|ai @aiB<|ai @ag1<|ai @ahM<|ai @decide_true<|ai @decide_false<|ai @beq_self_eq_true.{0}<|ai @List.isEmpty_nil.{0}<|ai @List.isEmpty_cons.{0}<|ai @Option.map_none.{0,0}<|ai @agK<|ai @ahI<|ai @List.all_nil.{0}<|ai @Option.isSome_some.{0}<|ai @Bool.and_true<|ai @ah8<|ai @aiH<|ai @Bool.and_self<|ai @ah7<|ai @aiI<|ai @and_self<|ai @ahr<|ai @ahb<|ai @aiy<|ai @aho<|ai @agD<|ai @agC<|ai @agL<|ai @Nat.le_zero_eq<|ai @aiJ<|ai @Bool.or_self<|ai @Bool.or_true<|ai @Bool.true_or<|ai @Bool.or_false<|ai @ahH<|@aiK):=⟨@true_and,@and_true,@ahc,@agI,@ahs,@aiD,@ah6,@aiE,@aiG,@ag2,@ag3,@List.contains_nil.{0},@air,@aiC,@aiB,@ag1,@ahM,@decide_true,@decide_false,@beq_self_eq_true.{0},@List.isEmpty_nil.{0},@List.isEmpty_cons.{0},@Option.map_none.{0,0},@agK,@ahI,@List.all_nil.{0},@Option.isSome_some.{0},@Bool.and_true,@ah8,@aiH,@Bool.and_self,@ah7,@aiI,@and_self,@ahr,@ahb,@aiy,@aho,@agD,@agC,@agL,@Nat.le_zero_eq,@aiJ,@Bool.or_self,@Bool.or_true,@Bool.true_or,@Bool.or_false,@ahH,@aiK⟩
theorem vm5:type_of% (ai @E9<|ai @E8<|ai @abN<|ai @Gs<|ai @Ct<|ai @Sw<|ai @K4<|ai @Sx<|ai @WJ<|ai @Su<|ai @Sv<|ai @LO<|ai @Tm<|ai @Ig<|ai @Nv<|ai @DW<|@Nw):=⟨@E9,@E8,@abN,@Gs,@Ct,@Sw,@K4,@Sx,@WJ,@Su,@Sv,@LO,@Tm,@Ig,@Nv,@DW,@Nw⟩
theorem vmu:type_of% (ai @wY.eq_1<|ai @wY.eq_2<|ai @ev.eq_1<|ai @ev.eq_2<|ai @ev.eq_3<|ai @ev.eq_4<|ai @lN.eq_1<|ai @lN.eq_2<|ai @lN.eq_3<|ai @lN.eq_4<|ai @lN.eq_5<|ai @lN.eq_6<|ai @eN.eq_1<|ai @eN.eq_2<|ai @yR.eq_1<|ai @yR.eq_2<|ai @yR.eq_3<|ai @ku.eq_1<|ai @ku.eq_2<|ai @ku.eq_3<|ai @fT.eq_1<|ai @fT.eq_2<|ai @fT.eq_3<|ai @fT.eq_4<|ai @fT.eq_5<|ai @fT.eq_6<|ai @fT.eq_7<|ai @fT.eq_8<|ai @fT.eq_9<|ai @fT.eq_10<|ai @fT.eq_11<|ai @fT.eq_12<|ai @fT.eq_13<|ai @fT.eq_14<|ai @fT.eq_15<|ai @fT.eq_16<|ai @Gb.eq_1<|ai @Gb.eq_2<|ai @Gb.eq_3<|ai @Gb.eq_4<|ai @Gb.eq_5<|ai @Gb.eq_6<|ai @aa5.eq_1<|ai @aO.eq_1<|ai @aO.eq_2<|ai @ef.eq_1<|ai @ef.eq_2<|ai @ef.eq_3<|ai @dQ.eq_1<|ai @dQ.eq_2<|ai @dQ.eq_3<|ai @live.eq_1<|ai @jw.eq_1<|ai @jw.eq_2<|ai @Ds.oD.eq_1<|ai @Ds.oD.eq_2<|ai @Ds.oD.eq_3<|ai @cB.eq_1<|ai @cB.eq_2<|ai @cB.eq_3<|ai @cB.eq_4<|ai @cB.eq_5<|ai @cB.eq_6<|ai @gx.eq_1<|ai @gx.eq_2<|ai @gx.eq_3<|ai @gx.eq_4<|ai @gx.eq_5<|ai @gx.eq_6<|ai @pg.eq_1<|ai @pg.eq_2<|ai @xY.eq_1<|ai @xY.eq_2<|ai @xY.eq_3<|ai @xY.eq_4<|ai @alive.eq_1<|ai @alive.eq_2<|ai @alive.eq_3<|ai @nm.eq_1<|ai @nm.eq_2<|ai @gF.eq_1<|ai @gF.eq_2<|ai @gF.eq_3<|ai @gF.eq_4<|ai @gF.eq_5<|ai @gF.eq_6<|ai @di.eq_1<|ai @di.eq_2<|ai @qf.eq_1<|ai @jr.eq_1<|ai @jr.eq_2<|ai @jr.eq_3<|ai @lv.eq_1<|ai @lv.eq_2<|ai @Iv.eq_1<|ai @bN.eq_1<|ai @bN.eq_2<|ai @bN.eq_3<|ai @bN.eq_4<|ai @gr.eq_1<|ai @gr.eq_2<|ai @gr.eq_3<|ai @cV.eq_1<|ai @cV.eq_2<|ai @cV.eq_3<|ai @cV.eq_4<|ai @cV.eq_5<|ai @cV.eq_6<|ai @fc.eq_1<|ai @iE.eq_1<|ai @iE.eq_2<|ai @fieldAt.eq_1<|ai @ee.eq_1<|ai @pY.eq_1<|ai @iW.eq_1<|ai @content.eq_1<|ai @content.eq_2<|ai @content.eq_3<|ai @putCells.eq_1<|ai @Wq.eq_1<|ai @Wq.eq_2<|ai @Wq.eq_3<|ai @Wq.eq_4<|ai @PZ.eq_1<|ai @PZ.eq_2<|ai @PZ.eq_3<|ai @PZ.eq_4<|ai @Tf.eq_1<|ai @Tf.eq_2<|ai @Tf.eq_3<|ai @fi.eq_1<|ai @fi.eq_2<|ai @fi.eq_3<|ai @kindOk.eq_1<|ai @kindOk.eq_2<|ai @kindOk.eq_3<|ai @kindOk.eq_4<|ai @kh.eq_1<|ai @kh.eq_2<|ai @kh.eq_3<|ai @kh.eq_4<|ai @nt.eq_1<|ai @nt.eq_2<|ai @nt.eq_3<|ai @nt.eq_4<|ai @nt.eq_5<|ai @nt.eq_6<|ai @nt.eq_7<|ai @nt.eq_8<|ai @sB.eq_1<|ai @sB.eq_2<|ai @sB.eq_3<|ai @ba.eq_1<|ai @ba.eq_2<|ai @ba.eq_3<|ai @ba.eq_4<|ai @ba.eq_5<|ai @ba.eq_6<|ai @ba.eq_7<|ai @nc.eq_1<|ai @nc.eq_2<|ai @s9.eq_1<|ai @s9.eq_2<|ai @s9.eq_3<|@s9.eq_4):=⟨@wY.eq_1,@wY.eq_2,@ev.eq_1,@ev.eq_2,@ev.eq_3,@ev.eq_4,@lN.eq_1,@lN.eq_2,@lN.eq_3,@lN.eq_4,@lN.eq_5,@lN.eq_6,@eN.eq_1,@eN.eq_2,@yR.eq_1,@yR.eq_2,@yR.eq_3,@ku.eq_1,@ku.eq_2,@ku.eq_3,@fT.eq_1,@fT.eq_2,@fT.eq_3,@fT.eq_4,@fT.eq_5,@fT.eq_6,@fT.eq_7,@fT.eq_8,@fT.eq_9,@fT.eq_10,@fT.eq_11,@fT.eq_12,@fT.eq_13,@fT.eq_14,@fT.eq_15,@fT.eq_16,@Gb.eq_1,@Gb.eq_2,@Gb.eq_3,@Gb.eq_4,@Gb.eq_5,@Gb.eq_6,@aa5.eq_1,@aO.eq_1,@aO.eq_2,@ef.eq_1,@ef.eq_2,@ef.eq_3,@dQ.eq_1,@dQ.eq_2,@dQ.eq_3,@live.eq_1,@jw.eq_1,@jw.eq_2,@Ds.oD.eq_1,@Ds.oD.eq_2,@Ds.oD.eq_3,@cB.eq_1,@cB.eq_2,@cB.eq_3,@cB.eq_4,@cB.eq_5,@cB.eq_6,@gx.eq_1,@gx.eq_2,@gx.eq_3,@gx.eq_4,@gx.eq_5,@gx.eq_6,@pg.eq_1,@pg.eq_2,@xY.eq_1,@xY.eq_2,@xY.eq_3,@xY.eq_4,@alive.eq_1,@alive.eq_2,@alive.eq_3,@nm.eq_1,@nm.eq_2,@gF.eq_1,@gF.eq_2,@gF.eq_3,@gF.eq_4,@gF.eq_5,@gF.eq_6,@di.eq_1,@di.eq_2,@qf.eq_1,@jr.eq_1,@jr.eq_2,@jr.eq_3,@lv.eq_1,@lv.eq_2,@Iv.eq_1,@bN.eq_1,@bN.eq_2,@bN.eq_3,@bN.eq_4,@gr.eq_1,@gr.eq_2,@gr.eq_3,@cV.eq_1,@cV.eq_2,@cV.eq_3,@cV.eq_4,@cV.eq_5,@cV.eq_6,@fc.eq_1,@iE.eq_1,@iE.eq_2,@fieldAt.eq_1,@ee.eq_1,@pY.eq_1,@iW.eq_1,@content.eq_1,@content.eq_2,@content.eq_3,@putCells.eq_1,@Wq.eq_1,@Wq.eq_2,@Wq.eq_3,@Wq.eq_4,@PZ.eq_1,@PZ.eq_2,@PZ.eq_3,@PZ.eq_4,@Tf.eq_1,@Tf.eq_2,@Tf.eq_3,@fi.eq_1,@fi.eq_2,@fi.eq_3,@kindOk.eq_1,@kindOk.eq_2,@kindOk.eq_3,@kindOk.eq_4,@kh.eq_1,@kh.eq_2,@kh.eq_3,@kh.eq_4,@nt.eq_1,@nt.eq_2,@nt.eq_3,@nt.eq_4,@nt.eq_5,@nt.eq_6,@nt.eq_7,@nt.eq_8,@sB.eq_1,@sB.eq_2,@sB.eq_3,@ba.eq_1,@ba.eq_2,@ba.eq_3,@ba.eq_4,@ba.eq_5,@ba.eq_6,@ba.eq_7,@nc.eq_1,@nc.eq_2,@s9.eq_1,@s9.eq_2,@s9.eq_3,@s9.eq_4⟩
theorem aff:type_of% (ai @GC<|ai @Gz<|ai @GA<|ai @Ti<|ai @Ns<|ai @Nd<|ai @Nl<|ai @Ia<|ai @M7<|ai @M8<|ai @DP<|ai @Nb<|ai @Na<|ai @HM<|ai @NO<|ai @N0<|ai @SM<|ai @Cx<|ai @Cy<|ai @GD<|ai @Tj<|ai @Nt<|ai @Nf<|ai @Ib<|ai @Nn<|ai @DV<|ai @Nq<|ai @Np<|ai @HP<|ai @SN<|@Cz):=⟨@GC,@Gz,@GA,@Ti,@Ns,@Nd,@Nl,@Ia,@M7,@M8,@DP,@Nb,@Na,@HM,@NO,@N0,@SM,@Cx,@Cy,@GD,@Tj,@Nt,@Nf,@Ib,@Nn,@DV,@Nq,@Np,@HP,@SN,@Cz⟩
section
variable {T:Nat->Option Ty} {Γ:Env} {N F e:Nat} {Q Q':Kt} {t:Nat->D} {h:Nat->Option Row}
theorem iz (hm:∀x t h e,Q x t h e->Q' x t h e):∀(ws:List W) (x:Ex) (t:Nat->D) (h:Nat->Option Row) (e:Nat),dh T Γ N F ws Q x t h e->dh T Γ N F ws Q' x t h e
 | [],x,t,h,e,hk=>hm _ _ _ _ hk
 | .code c::ws,x,t,h,e,hk=>by
  unfold dh at hk ⊢;cases x with
  | normal=>exact Wm c t h e _ _ hk (fun x t h e U=>iz hm ws x t h e U)
  | exit n=>exact iz hm ws _ t h e hk
  | ret=>exact iz hm ws _ t h e hk
 | .blk id::ws,x,t,h,e,hk=>by
  unfold dh W8 at hk ⊢;cases x with
  | normal=>exact iz hm ws _ t h e hk
  | exit n =>
   simp only at hk ⊢;split at hk
   ·rename_i O;rw[if_pos O];exact iz hm ws _ t h e hk
   ·rename_i O;rw[if_neg O];exact iz hm ws _ t h e hk
  | ret=>exact iz hm ws _ t h e hk
theorem pE:∀(ws:List W) (k:Nat),dh T Γ N F ws Q=dh T Γ N F (ws.take k) (dh T Γ N F (ws.drop k) Q)
 | ws,0=>by simp[dh]
 | [],k+1=>by simp[dh]
 | .code c::ws,k+1=>by
  rw[aiE,aiD];funext x t h e;unfold dh;rw[pE ws k]
 | .blk id::ws,k+1=>by
  rw[aiE,aiD];funext x t h e;unfold dh;rw[pE ws k]
variable {σ:Type} {ops l:List Oper} {ws:List W} {dst:Option Nat} {fs:List jZ} {d:D} {g:Nat}
theorem sG {J:σ->(Nat->D)->(Nat->Option Row)->Nat->Prop} {P:σ->Prop} {R:Kt} (O:∀s t h e,J s t h e->P s->R .normal t h e):∀x t h e,CK J P R x t h e->R x t h e:=by
 intro x t h e U;cases x with
 | normal=>obtain⟨s,h1,h2⟩:=U;exact O s t h e h2 h1
 | exit n=>exact U
 | ret=>exact U
theorem vl (hm:∀x t h e,Q x t h e->Q' x t h e) (hk:kc T Γ N F ops l ws Q t h e):kc T Γ N F ops l ws Q' t h e:=vp (fun t h O=>iz hm ws _ _ _ _ O) _ _ _ hk
theorem vo (hm:∀x t h e,Q x t h e->Q' x t h e) (hk:kK T Γ N F ops l ws Q t h e fs):kK T Γ N F ops l ws Q' t h e fs:=vk (fun t h fs O=>⟨O.1,iz hm ws _ _ _ _ O.2⟩) _ _ _ _ hk
theorem su (k:Nat):kc T Γ N F ops l ws Q t h e=kc T Γ N F ops l (ws.take k) (dh T Γ N F (ws.drop k) Q) t h e:=by unfold kc;rw[pE ws k]
theorem sw (k:Nat):kK T Γ N F ops l ws Q t h e fs=kK T Γ N F ops l (ws.take k) (dh T Γ N F (ws.drop k) Q) t h e fs:=by unfold kK;rw[pE ws k]
theorem G2 (k:Nat) {o:Oper} : oA T Γ N F o ops l ws Q t h e=oA T Γ N F o ops l (ws.take k) (dh T Γ N F (ws.drop k) Q) t h e:=by
 unfold oA;congr 1;funext t E;rw[su k]
theorem Ha (k:Nat) {o:Oper} : oB T Γ N F o ops l ws Q t h e fs=oB T Γ N F o ops l (ws.take k) (dh T Γ N F (ws.drop k) Q) t h e fs:=by
 unfold oB;congr 1;funext t E;rw[sw k]
theorem L5 {o:Oper} (hm:∀x t h e,Q x t h e->Q' x t h e) (hk:oA T Γ N F o ops l ws Q t h e):oA T Γ N F o ops l ws Q' t h e:=yI hk fun _ _ O=>vl hm O
theorem Mb {o:Oper} (hm:∀x t h e,Q x t h e->Q' x t h e) (hk:oB T Γ N F o ops l ws Q t h e fs):oB T Γ N F o ops l ws Q' t h e fs:=yI hk fun _ _ O=>vo hm O
variable (k:Nat) (J:σ->(Nat->D)->(Nat->Option Row)->Nat->Prop) (P:σ->Prop)
theorem ki {x y:Code} (O:∀s t h e,J s t h e->P s->dh T Γ N F (ws.drop k) Q .normal t h e) (X:KM T Γ N F d g x y (ws.take k) (CK J P (dh T Γ N F (ws.drop k) Q)) t h e):KM T Γ N F d g x y ws Q t h e:=by
 unfold KM at X ⊢;have Y:∀c:Code,dh T Γ N F (.code c::ws) Q=dh T Γ N F (.code c::ws.take k) (dh T Γ N F (ws.drop k) Q):=fun c=>pE (.code c::ws) (k+1);rw[Y,Y];exact yG X (fun _ U=>iz (sG O) _ _ _ _ _ U) (fun _ U=>iz (sG O) _ _ _ _ _ U)
theorem bA {want:Bool} {o:Oper} (O:∀s t h e,J s t h e->P s->dh T Γ N F (ws.drop k) Q .normal t h e) (X:vJ T Γ N F d g want o ops l (ws.take k) (CK J P (dh T Γ N F (ws.drop k) Q)) t h e):vJ T Γ N F d g want o ops l ws Q t h e:=by
 unfold vJ at X ⊢;refine FA X (fun t U =>?_) (fun t U =>?_) (fun t U =>?_)
 ·cases want
  ·simp only[ahc,if_false]at U ⊢;rw[su k];exact vl (sG O) U
  ·simp only[if_true]at U ⊢;rw[G2 k];exact L5 (sG O) U
 ·cases want
  ·simp only[ahc,if_false]at U ⊢;rw[G2 k];exact L5 (sG O) U
  ·simp only[if_true]at U ⊢;rw[su k];exact vl (sG O) U
 ·rw[su k];exact vl (sG O) U
theorem Z4 {want:Bool} {o:Oper} (O:∀s t h e,J s t h e->P s->dh T Γ N F (ws.drop k) Q .normal t h e) (X:vK T Γ N F d g want o ops l (ws.take k) (CK J P (dh T Γ N F (ws.drop k) Q)) t h e fs):vK T Γ N F d g want o ops l ws Q t h e fs:=by
 unfold vK at X ⊢;refine FA X (fun t U =>?_) (fun t U =>?_) (fun t U =>?_)
 ·cases want
  ·simp only[ahc,if_false]at U ⊢;rw[sw k];exact vo (sG O) U
  ·simp only[if_true]at U ⊢;rw[Ha k];exact Mb (sG O) U
 ·cases want
  ·simp only[ahc,if_false]at U ⊢;rw[Ha k];exact Mb (sG O) U
  ·simp only[if_true]at U ⊢;rw[sw k];exact vo (sG O) U
 ·rw[sw k];exact vo (sG O) U
end
def mkW {α β γ:Type} (ty:Nat) (E:jf γ) (A:jn α) (F:List γ->α->Option (List γ×β)) (R:β->RK):Option (D×Row)->List D->Option (RK×Option Row):=fun lent ds =>
 match lent with
 | some (.buf 0 0 s o n,⟨0,ty',cells,false,true,false⟩)=>open Classical in
  if h:ty'=ty∧s=E.size∧∃p:List D×List γ×List D×α,cells=p.1++(ab E p.2.1++p.2.2.1)∧o=p.1.length∧n=p.2.1.length∧ds=A.ds p.2.2.2 then
   (F (Classical.choose h.2.2).2.1 (Classical.choose h.2.2).2.2.2).map fun r=>(R r.2,some ⟨0,ty,(Classical.choose h.2.2).1++(ab E r.1++(Classical.choose h.2.2).2.2.1),false,true,false⟩)
  else none
 | _=>none
theorem UO {γ:Type} {E:jf γ} {p O q U:List D} {l l':List γ} (h:p++(ab E l++q)=O++(ab E l'++U)) (X:p.length=O.length) (Y:l.length=l'.length):p=O∧l=l'∧q=U:=by
 obtain⟨h1,h2⟩:=List.append_inj h X;obtain⟨h3,h4⟩:=List.append_inj h2 (by rw[bR,bR,Y]);exact⟨h1,tD E _ _ h3,h4⟩
theorem Yz {α β γ:Type} (ty:Nat) (E:jf γ) (A:jn α) (F:List γ->α->Option (List γ×β)) (R:β->RK) (pre post:List D) (l:List γ) (a:α) :
  mkW ty E A F R (some (.buf 0 0 E.size pre.length l.length,⟨0,ty,pre++(ab E l++post),false,true,false⟩)) (A.ds a)=(F l a).map fun r=>(R r.2,some ⟨0,ty,pre++(ab E r.1++post),false,true,false⟩):=by
 have h:ty=ty∧E.size=E.size∧∃p:List D×List γ×List D×α,pre++(ab E l++post)=p.1++(ab E p.2.1++p.2.2.1)∧pre.length=p.1.length∧l.length=p.2.1.length∧A.ds a=A.ds p.2.2.2:=⟨rfl,rfl,(pre,l,post,a),rfl,rfl,rfl,rfl⟩;simp only[mkW];rw[dif_pos h];obtain⟨h1,h2,h3,h4⟩:=Classical.choose_spec h.2.2;obtain⟨O,U,X⟩:=UO h1 h2 h3;rw[<- A.inj _ _ h4,<- O,<- U,<- X]
theorem N9 {α β γ:Type} {ty:Nat} {E:jf γ} {A:jn α} {F:List γ->α->Option (List γ×β)} {R:β->RK} {lent:Option (D×Row)} {ds:List D} {rk:RK} {out:Option Row} (h:mkW ty E A F R lent ds=some (rk,out)) :
  ∃pre l post a l' r,lent=some (.buf 0 0 E.size pre.length l.length,⟨0,ty,pre++(ab E l++post),false,true,false⟩)∧ds=A.ds a∧F l a=some (l',r)∧rk=R r∧out=some ⟨0,ty,pre++(ab E l'++post),false,true,false⟩:=by
 unfold mkW at h;split at h
 ·split at h
  ·rename_i he;obtain⟨rfl,rfl,he⟩:=he;rw[agA]at h;obtain⟨⟨l',r⟩,h1,h2⟩:=h;simp only[Prod.mk.injEq]at h2;obtain⟨rfl,rfl⟩:=h2;obtain⟨g1,g2,g3,g4⟩:=Classical.choose_spec he;refine⟨_,_,_,_,l',r,?_,g4,h1,rfl,rfl⟩;rw[<- g1,<- g2,<- g3]
  ·cases h
 ·cases h
theorem bW.ad7 {P:Program} {T:Nat->Option Ty} {Γ:Env} (X:ig P T) (Y:bH P Γ) (hm:P.follows .mixedOrders=true) {α β γ:Type} {ty:Nat} {E:jf γ} {A:jn α} {F:List γ->α->Option (List γ×β)} {R:β->RK} {mode:Mode} {f:FuncId} {fn:Func} (U:P.funcs[f]? = some fn) (O:(match fn.body with|some c=>codeOk c|none=>true)=true)
  (Z:(fn.name == "runtime.NumGoroutine")=false∧fn.body.isNone=false) (hn:∀a,(A.ds a).length+1<=fn.ntmps)
  (h:∀pre post l a l' r,F l a=some (l',r)->jY mode T Γ FU fn (some (.buf 0 0 E.size pre.length l.length,⟨0,ty,pre++(ab E l++post),false,true,false⟩)) (A.ds a)=some (R r,some ⟨0,ty,pre++(ab E l'++post),false,true,false⟩)):bW P f (mkW ty E A F R) where
 calls lent agx rk out hg:=by
  obtain⟨pre,l,post,a,l',r,rfl,rfl,hr,rfl,rfl⟩:=N9 hg;exact jF X Y hm U O (hn a) rfl (h pre post l a l' r hr)
 callable:=⟨fn,U,Z⟩
def mkE {α γ:Type} (ty:Nat) (E:jf γ) (A:jn α) (F:List γ->α->Option (List γ)):Option (D×Row)->List D->Option (RK×Option Row):=fun lent ds =>
 match lent with
 | some (.buf 0 0 s o n,⟨0,ty',cells,false,true,false⟩)=>open Classical in
  if h:ty'=ty∧s=E.size∧∃p:List D×List γ×List D×α,cells=p.1++(ab E p.2.1++p.2.2.1)∧o=p.1.length∧n=p.2.1.length∧ds=A.ds p.2.2.2 then
   (F (Classical.choose h.2.2).2.1 (Classical.choose h.2.2).2.2.2).map fun r=>(.fresh ty E.size r.length (ab E r),none)
  else none
 | _=>none
theorem ac8 {α γ:Type} (ty:Nat) (E:jf γ) (A:jn α) (F:List γ->α->Option (List γ)) (pre post:List D) (l:List γ) (a:α) :
  mkE ty E A F (some (.buf 0 0 E.size pre.length l.length,⟨0,ty,pre++(ab E l++post),false,true,false⟩)) (A.ds a)=(F l a).map fun r=>(.fresh ty E.size r.length (ab E r),none):=by
 have h:ty=ty∧E.size=E.size∧∃p:List D×List γ×List D×α,pre++(ab E l++post)=p.1++(ab E p.2.1++p.2.2.1)∧pre.length=p.1.length∧l.length=p.2.1.length∧A.ds a=A.ds p.2.2.2:=⟨rfl,rfl,(pre,l,post,a),rfl,rfl,rfl,rfl⟩;simp only[mkE];rw[dif_pos h];obtain⟨h1,h2,h3,h4⟩:=Classical.choose_spec h.2.2;obtain⟨U,O,X⟩:=UO h1 h2 h3;rw[<- A.inj _ _ h4,<- O]
theorem Yv {α γ:Type} {ty:Nat} {E:jf γ} {A:jn α} {F:List γ->α->Option (List γ)} {lent:Option (D×Row)} {ds:List D} {rk:RK} {out:Option Row} (h:mkE ty E A F lent ds=some (rk,out)) :
  ∃pre l post a r,lent=some (.buf 0 0 E.size pre.length l.length,⟨0,ty,pre++(ab E l++post),false,true,false⟩)∧ds=A.ds a∧F l a=some r∧rk=.fresh ty E.size r.length (ab E r)∧out=none:=by
 unfold mkE at h;split at h
 ·split at h
  ·rename_i he;obtain⟨rfl,rfl,he⟩:=he;rw[agA]at h;obtain⟨r,h1,h2⟩:=h;simp only[Prod.mk.injEq]at h2;obtain⟨rfl,rfl⟩:=h2;obtain⟨g1,g2,g3,g4⟩:=Classical.choose_spec he;refine⟨(Classical.choose he).1,(Classical.choose he).2.1,(Classical.choose he).2.2.1,(Classical.choose he).2.2.2,r,?_,g4,h1,rfl,rfl⟩;rw[<- g1,<- g2,<- g3]
  ·cases h
 ·cases h
theorem bW.ad6 {P:Program} {T:Nat->Option Ty} {Γ:Env} (X:ig P T) (Y:bH P Γ) (hm:P.follows .mixedOrders=true) {α γ:Type} {ty:Nat} {E:jf γ} {A:jn α} {F:List γ->α->Option (List γ)} {f:FuncId} {fn:Func} (U:P.funcs[f]? = some fn) (O:(match fn.body with|some c=>codeOk c|none=>true)=true)
  (Z:(fn.name == "runtime.NumGoroutine")=false∧fn.body.isNone=false) (hn:∀a,(A.ds a).length+1<=fn.ntmps)
  (h:∀pre post l a r,F l a=some r->jY (.fresh ty E.size) T Γ FU fn (some (.buf 0 0 E.size pre.length l.length,⟨0,ty,pre++(ab E l++post),false,true,false⟩)) (A.ds a)=some (.fresh ty E.size r.length (ab E r),none)):bW P f (mkE ty E A F) where
 calls lent agx rk out hg:=by
  obtain⟨pre,l,post,a,r,rfl,rfl,hr,rfl,rfl⟩:=Yv hg;exact jF X Y hm U O (hn a) rfl (h pre post l a r hr)
 callable:=⟨fn,U,Z⟩
theorem bW.zero {P:Program} {f:FuncId} {fn:Func} (U:P.funcs[f]? = some fn) (X:(fn.name == "runtime.NumGoroutine")=false∧fn.body.isNone=false) {α β:Type} {A:jn α} {F:α->Option β} {R:β->RK} (Y:∀a,F a=none):bW P f (dW A F R) where
 calls lent agx rk out Z:=by
  obtain⟨rfl,rfl,a,r,rfl,O,rfl⟩:=qY Z;rw[Y]at O;cases O
 callable:=⟨fn,U,X⟩
section
variable {h:Nat->Option Row} {Γ:Env} {g e x v d:Nat} {dst:Option Nat} {fr:List Nat} {agx rest:List D} {d0:D} {T:Nat->Option Ty} {rs:List ResultVar}
def GB (h:Nat->Option Row) (e:Nat) (dst:Option Nat) (x v:Nat) (fr:List Nat):Option (RK×Option Row)->Option bF
 | some (.clean c,some O)=>some ⟨c,iF h fr++[(x,some { O with v:=v })]⟩
 | some (.same s o n,some O)=>some ⟨.buf x v s o n,iF h fr++[(x,some { O with v:=v })]⟩
 | some (.fresh ty s n cells,none) =>
  match dst with
  | some d=>if fr.contains d=false then some ⟨.buf d e s 0 n,iF h fr++[(x,none),(d,some ⟨e,ty,cells,false,true,false⟩)]⟩ else none
  | none=>none
 | _=>none
def Xf (Γ:Env) (h:Nat->Option Row) (e:Nat) (dst:Option Nat) (g x v:Nat) (d0:D) (r:Row):Option (List D×List Nat)->Option bF
 | some (agx,fr)=>if fr.contains x=false then GB h e dst x v fr (Γ.sem g (some (d0,r)) agx) else none
 | none=>none
def Li (Γ:Env) (h:Nat->Option Row) (e:Nat) (dst:Option Nat) (g x v:Nat) (d0:D) (rest:List D):Option Row->Option bF
 | some r=>if r.fz=false then Xf Γ h e dst g x v d0 { r with v:=0 } (bx h rest) else none
 | none=>none
theorem Lj {s o n:Nat} : Bm true Γ h e dst g (.buf x v s o n::rest)=Li Γ h e dst g x v (.buf 0 0 s o n) rest (live h x v):=by
 simp only[Bm,if_true,oU,xZ];cases live h x v with
 | none=>rfl
 | some r =>
  simp only[Li];cases bx h rest with
  | none=>rfl
  | some p=>rfl
def lvR (v:Nat):Option Row->Option Row
 | some r=>if r.v=v∧r.mp=true∧qX r=true then some r else none
 | none=>none
theorem N1 {v ty:Nat} {ks:List cr} {vs:List D} {fz lst:Bool} (O:ty<900000):lvR v (some ⟨v,ty,[.mpc ks vs],fz,lst,true⟩)=some ⟨v,ty,[.mpc ks vs],fz,lst,true⟩:=by simp[lvR,qX,O]
theorem SO:Bm true Γ h e dst g (.mp x v::rest)=Li Γ h e dst g x v (.mp 0 0) rest (lvR v (h x)):=by
 simp only[Bm,if_true,oU,xZ];have:wW h x v=lvR v (h x):=by unfold wW lvR;cases h x<;>rfl
 rw[this];cases lvR v (h x) with
 | none=>rfl
 | some r =>
  simp only[Li];cases bx h rest with
  | none=>rfl
  | some p=>rfl
theorem xt {c:D} {v' ty:Nat} {cells:List D} {fz lst:Bool} : GB h e dst x v fr (some (.clean c,some ⟨v',ty,cells,fz,lst,true⟩))=some ⟨c,iF h fr++[(x,some ⟨v,ty,cells,fz,lst,true⟩)]⟩:=ajz
theorem CA {r:Row} : Li Γ h e dst g x v d0 rest (some r)=if r.fz=false then Xf Γ h e dst g x v d0 { r with v:=0 } (bx h rest) else none:=ajz
theorem CB {r:Row} : Xf Γ h e dst g x v d0 r (some (agx,fr))=if fr.contains x=false then GB h e dst x v fr (Γ.sem g (some (d0,r)) agx) else none:=ajz
theorem Ab {c:D} {v' ty:Nat} {cells:List D} {fz lst:Bool} : GB h e dst x v fr (some (.clean c,some ⟨v',ty,cells,fz,lst,false⟩))=some ⟨c,iF h fr++[(x,some ⟨v,ty,cells,fz,lst,false⟩)]⟩:=ajz
theorem CC {s o n v' ty:Nat} {cells:List D} {fz lst:Bool} : GB h e dst x v fr (some (.same s o n,some ⟨v',ty,cells,fz,lst,false⟩))=some ⟨.buf x v s o n,iF h fr++[(x,some ⟨v,ty,cells,fz,lst,false⟩)]⟩:=ajz
theorem Ac {s n ty:Nat} {cells:List D} : GB h e (some d) x v fr (some (.fresh ty s n cells,none))=if fr.contains d=false then some ⟨.buf d e s 0 n,iF h fr++[(x,none),(d,some ⟨e,ty,cells,false,true,false⟩)]⟩ else none:=ajz
theorem AH {ty sz i:Nat} {t:Nat->D} {l:D×Row} : fF (.fresh ty sz) T (some l) [.tmp i] ⟨t,h,e⟩=mn ty sz h (t i):=ajz
def adX (y v s o:Nat):Option Row->Option Ty->Option (Nat×Nat)->Option bF
 | some _,some φ,some (l,k)=>if φ.size=s∧0<s then some ⟨.buf y v s (o+l*s) (k-l),[]⟩ else none
 | _,_,_=>none
theorem Hq {y v s o l k:Nat} {r:Row} {φ:Ty} : adX y v s o (some r) (some φ) (some (l,k))=if φ.size=s∧0<s then some ⟨.buf y v s (o+l*s) (k-l),[]⟩ else none:=ajz
theorem Th {el b c y v s o n:Nat} {z:List Value} {q:Bool} {O U:Option D} : cV T ⟨.slice el,b,c,z,q⟩ h (.buf y v s o n) O U none=adX y v s o (live h y v) (T el) (s9 n O U):=by
 simp only[cV];cases live h y v with
 | none=>rfl
 | some r =>
  simp only;cases T el with
  | none=>rfl
  | some φ =>
   cases s9 n O U with
   | none=>rfl
   | some p=>rfl
def acT (ty:Nat):Option (List D×List Nat)->Option Row->Option (RK×Option Row)
 | some (ds,fr),some r=>if r.v=0∧r.fz=false∧r.ty=ty∧r.mp=false∧fr.contains 0=false then some (.clean (kJ ds),some r) else none
 | _,_=>none
theorem Hm {ty:Nat} {ds:List D} {r:Row} : acT ty (some (ds,fr)) (some r)=if r.v=0∧r.fz=false∧r.ty=ty∧r.mp=false∧fr.contains 0=false then some (.clean (kJ ds),some r) else none:=ajz
theorem Hn {t:Nat->D} {ty v:Nat} {cells:List D} {fz lst:Bool} : fF .clean T (some (d0,⟨v,ty,cells,fz,lst,false⟩)) rs ⟨t,h,e⟩=acT ty (sr T ⟨t,h,e⟩ rs) (h 0):=by
 simp only[fF,pf,jI,YI,acT];cases sr T ⟨t,h,e⟩ rs with
 | none=>rfl
 | some p =>
  obtain⟨ds,fr⟩:=p;cases h 0 with
  | none=>rfl
  | some r =>
   simp only
   by_cases h1:r.v=0∧r.fz=false∧r.ty=ty∧r.mp=false
   ·rw[if_pos ⟨h1.1,h1.2.1,h1.2.2.1,h1.2.2.2,sf h1.2.2.2⟩];simp only[ahe]
    by_cases h2:fr.contains 0=false
    ·rw[if_pos h2,if_pos ⟨h1.1,h1.2.1,h1.2.2.1,h1.2.2.2,h2⟩]
    ·rw[if_neg h2,if_neg (fun O=>h2 O.2.2.2.2)]
   ·rw[if_neg (fun O=>h1 ⟨O.1,O.2.1,O.2.2.1,O.2.2.2.1⟩),if_neg (fun O=>h1 ⟨O.1,O.2.1,O.2.2.1,O.2.2.2.1⟩)]
def Td (ty:Nat):Option (List D×List Nat)->Option Row->Option (RK×Option Row)
 | some (ds,fr),some r=>if r.v=0∧r.fz=false∧r.ty=ty∧(r.mp=true∧qX r=true)∧fr.contains 0=false then some (.clean (kJ ds),some r) else none
 | _,_=>none
theorem Dm {ty:Nat} {ds:List D} {ks:List cr} {vs:List D} {lst:Bool} (O:ty<900000):Td ty (some (ds,fr)) (some ⟨0,ty,[.mpc ks vs],false,lst,true⟩)=if fr.contains 0=false then some (.clean (kJ ds),some ⟨0,ty,[.mpc ks vs],false,lst,true⟩) else none:=by
 simp[Td,qX,O]
theorem Dq {t:Nat->D} {ty v:Nat} {cells:List D} {fz lst:Bool} : fF .clean T (some (d0,⟨v,ty,cells,fz,lst,true⟩)) rs ⟨t,h,e⟩=Td ty (sr T ⟨t,h,e⟩ rs) (h 0):=by
 simp only[fF,pf,jI,YI,Td];cases sr T ⟨t,h,e⟩ rs with
 | none=>rfl
 | some p =>
  obtain⟨ds,fr⟩:=p;cases h 0 with
  | none=>rfl
  | some r =>
   simp only
   by_cases h1:r.v=0∧r.fz=false∧r.ty=ty∧(r.mp=true∧qX r=true)
   ·rw[if_pos h1];simp only[ahe]
    by_cases h2:fr.contains 0=false
    ·rw[if_pos h2,if_pos ⟨h1.1,h1.2.1,h1.2.2.1,h1.2.2.2,h2⟩]
    ·rw[if_neg h2,if_neg (fun O=>h2 O.2.2.2.2)]
   ·rw[if_neg h1,if_neg (fun O=>h1 ⟨O.1,O.2.1,O.2.2.1,O.2.2.2.1⟩)]
def aaM (ty:Nat):D->Option Row->Option (RK×Option Row)
 | .buf 0 0 s o n,some r=>if r.v=0∧r.fz=false∧r.ty=ty∧r.mp=false then some (.same s o n,some r) else none
 | _,_=>none
theorem Mv {ty s o n:Nat} {r:Row} : aaM ty (.buf 0 0 s o n) (some r)=if r.v=0∧r.fz=false∧r.ty=ty∧r.mp=false then some (.same s o n,some r) else none:=ajz
theorem Ho {t:Nat->D} {ty v i:Nat} {cells:List D} {fz lst:Bool} : fF .same T (some (d0,⟨v,ty,cells,fz,lst,false⟩)) [.tmp i] ⟨t,h,e⟩=aaM ty (t i) (h 0):=by
 simp only[fF,BT,jI];generalize t i=q;cases q with
 | buf a b s o n =>
  cases h 0 with
  | none=>rcases a with _|a<;>rcases b with _|b<;>rfl
  | some r =>
   simp only;have U:(r.v=0∧r.fz=false∧r.ty=ty∧r.mp=false∧qX r=true)↔(r.v=0∧r.fz=false∧r.ty=ty∧r.mp=false):=⟨fun O=>⟨O.1,O.2.1,O.2.2.1,O.2.2.2.1⟩,fun O=>⟨O.1,O.2.1,O.2.2.1,O.2.2.2,sf O.2.2.2⟩⟩
   by_cases h1:r.v=0∧r.fz=false∧r.ty=ty∧r.mp=false
   ·rcases a with _|a<;>rcases b with _|b<;>simp[aaM,h1,sf h1.2.2.2]
   ·rcases a with _|a<;>rcases b with _|b<;>simp only[aaM,U,h1,if_false]<;>rfl
 | _=>rfl
end
section
variable {α:Type} (E:jf α) {l m u x:List α} {y y':α} {i a b:Int} {pre post:List D}
theorem abw (h:Fc l a b=some x):ab E (l.take a.toNat)++(ab E x++ab E (l.drop b.toNat))=ab E l:=by
 unfold Fc at h;split at h
 ·rename_i O;cases h;rw[<- js,<- js];congr 1;have e:l.drop b.toNat=(l.drop a.toNat).drop (b.toNat-a.toNat):=by rw[aiw];congr 1;omega
  rw[e,aix,aix]
 ·cases h
theorem abx (h:Fc l a b=some x):(ab E (l.take a.toNat)).length=a.toNat*E.size:=by
 unfold Fc at h;split at h
 ·rw[bR,agV,ahR (by omega)]
 ·cases h
theorem acz (h:Fc l a b=some x):x.length=b.toNat-a.toNat:=by
 unfold Fc at h;split at h
 ·cases h;simp;omega
 ·cases h
theorem abv:ab E (l.take i.toNat)++(ab E u++ab E (l.drop b.toNat))=ab E (l.take i.toNat++(u++l.drop b.toNat)):=by rw[js,js]
theorem Ye (h:P.idx l i=some y):(pre++(ab E l++post)).drop (pre.length+i.toNat*E.size)=E.cells y++(ab E (l.drop (i.toNat+1))++post):=by
 rw[<- aiw,List.drop_left,ah1 (by rw[bR];have:=sd E h;omega),BU E h,ah0]
theorem Yf (h:P.idx l i=some y):pre.length+i.toNat*E.size+E.size<=(pre++(ab E l++post)).length:=by
 have:=sd E h;rw[ahO,ahO,bR];omega
theorem Nj (h:P.idx l i=some y):(0<=i∧i<l.length)∧(pre++(ab E l++post)).drop (pre.length+i.toNat*E.size)=E.cells y++(ab E (l.drop (i.toNat+1))++post)∧pre.length+i.toNat*E.size+E.size<=(pre++(ab E l++post)).length:=⟨J7 h,Ye E h,Yf E h⟩
theorem OT (h:P.idx l i=some y):putCells (pre++(ab E l++post)) (pre.length+i.toNat*E.size) (E.cells y')=pre++(ab E (l.set i.toNat y')++post):=by
 have h1:=YX E (x':=y') h;have X:=sd E h;have Y:=bR E l;unfold putCells at h1 ⊢;rw[<- h1,E.len];have O:(pre++(ab E l++post)).take (pre.length+i.toNat*E.size)=pre++(ab E l).take (i.toNat*E.size):=by
  rw[ah3,ah5 (by omega),ah2,ah4 (by omega)]
 have U:(pre++(ab E l++post)).drop (pre.length+i.toNat*E.size+E.size)=(ab E l).drop (i.toNat*E.size+E.size)++post:=by
  rw[agX,ait,aiu (by omega),ah2,air,ah1 (by omega)]
 rw[O,U];simp only[ah0]
theorem aaf (h:Fc l a b=some x) (hu:u.length=x.length):(l.take a.toNat++(u++l.drop b.toNat)).length=l.length:=by
 have O:=acz h;unfold Fc at h;split at h
 ·simp only[ahO,agV,agW];omega
 ·cases h
theorem abk (h:Fc l 0 b=some x):pre.length+x.length*E.size<=(pre++(ab E l++post)).length∧((pre++(ab E l++post)).drop pre.length).take (x.length*E.size)=ab E x:=by
 obtain⟨h1,h2,h3,h4,h5⟩:=KA E h;have:=ahp E.size h3;refine⟨by rw[ahO,ahO,bR];omega,?_⟩;rw[List.drop_left,ah4 (by rw[bR];exact this),h5]
end
section
variable {h:Nat->Option Row} {Γ:Env} {e:Nat} {dst:Option Nat}
def caP:Option (D×List Nat)->Option (List D×List Nat)->Option (List D×List Nat)
 | some (d,fr),some (ds,O)=>some (d::ds,fr++O)
 | _,_=>none
theorem Lh {d:D} {ds:List D} {fr O:List Nat} : caP (some (d,fr)) (some (ds,O))=some (d::ds,fr++O):=ajz
theorem Lw:dq h []=some ([],[]):=ajz
theorem GO {d:D} {ds:List D} : dq h (d::ds)=caP (aX h d) (dq h ds):=by
 simp only[dq];cases aX h d with
 | none=>rfl
 | some x=>cases dq h ds<;>rfl
theorem SR {k:IntKind} {n:Int} : aX h (.int k n)=some (.int k n,[]):=ajz
theorem Lv {b:Bool} : aX h (.bool b)=some (.bool b,[]):=ajz
theorem SV {b:ByteArray} : aX h (.str b)=some (.str b,[]):=ajz
theorem Xo {a b:Bool} {n:Nat} {xs:List D} : aX h (.sl a b n xs)=some (.sl false false n xs,[]):=ajz
theorem SQ {xs:List D} : aX h (.agg xs)=some (.agg (xs.map canon),[]):=ajz
theorem Xk {f:Nat} : aX h (.fn f)=some (.fn f,[]):=ajz
def clC (f k:Nat):Option (List D×List Nat)->Option (D×List Nat)
 | some (O,fr)=>some (.clo f k O,fr)
 | none=>none
theorem LN {f k:Nat} {O:List D} {fr:List Nat} : clC f k (some (O,fr))=some (.clo f k O,fr):=ajz
theorem LC {f k:Nat} {xs:List D} : bQ h (.clo f k xs)=clC f k (dq h xs):=by
 simp only[bQ];cases dq h xs<;>rfl
theorem Ls {g k:Nat} {caps args:List D} : ij Γ h e dst (.clo g k caps) args=if caps.all jl then Bm false Γ h e dst g (caps.take k++(args++caps.drop k)) else none:=by
 simp only[ij,Bm,ahc,if_false]
theorem TX {k:IntKind} {n:Int} : jl (.int k n)=true:=ajz
theorem OI {b:Bool} : jl (.bool b)=true:=ajz
theorem T0 {b:ByteArray} : jl (.str b)=true:=ajz
theorem YP {a b:Bool} {n:Nat} {xs:List D} : jl (.sl a b n xs)=true:=ajz
theorem TW {xs:List D} : jl (.agg xs)=true:=ajz
theorem YL {f:Nat} : jl (.fn f)=true:=ajz
end
theorem EX:kJ []=.tup []:=ajz
def aFn (f:Nat):Arg Unit:=⟨fun _ =>.fn f,fun _ _ _=>rfl⟩
theorem abJ {f:Nat} {x:Unit} : (aFn f).d x=.fn f:=ajz
def Jy {α:Type} (f k:Nat) (a:jn α):Arg α:=⟨fun x =>.clo f k (a.ds x),fun x y h=>a.inj _ _ (by simpa using h)⟩
theorem WH {α:Type} {f k:Nat} {a:jn α} {x:α} : (Jy f k a).d x=.clo f k (a.ds x):=ajz
theorem vm7:type_of% (ai @Lh<|ai @Lw<|ai @GO<|ai @SR<|ai @Lv<|ai @SV<|ai @Xo<|ai @SQ<|ai @Xk<|ai @LN<|ai @LC<|ai @Ls<|ai @TX<|ai @OI<|ai @T0<|ai @YP<|ai @TW<|ai @YL<|ai @EX<|ai @xD<|ai @xG<|@BQ):=⟨@Lh,@Lw,@GO,@SR,@Lv,@SV,@Xo,@SQ,@Xk,@LN,@LC,@Ls,@TX,@OI,@T0,@YP,@TW,@YL,@EX,@xD,@xG,@BQ⟩
theorem vm6:type_of% (ai @O0<|ai @ahG<|ai @Th<|ai @Hq<|ai @Ac<|ai @AH<|ai @Lj<|ai @SO<|ai @N1<|ai @xt<|ai @Dm<|ai @Dq<|ai @CA<|ai @CB<|ai @Ab<|ai @CC<|ai @Hm<|ai @Hn<|ai @Mv<|@Ho):=⟨@O0,@ahG,@Th,@Hq,@Ac,@AH,@Lj,@SO,@N1,@xt,@Dm,@Dq,@CA,@CB,@Ab,@CC,@Hm,@Hn,@Mv,@Ho⟩
section
variable {T:Nat->Option Ty} {h:Nat->Option Row} {τ:Ty} {q:Nat->Bool}
theorem Yo {x v o:Nat} : mS τ h (.ptr x v o)=nD τ h x v o (live h x v):=ajz
theorem abZ {xs:List D} : mS τ h (.ip xs)=dQ τ h (.ip xs):=ajz
theorem abX {x v o v' ty:Nat} {c:List D} {fz:Bool} : nD τ h x v o (some ⟨v',ty,c,fz,true,false⟩)=dQ τ h (.ptr x v o):=by
 simp only[nD,ah7,Bool.and_false,ahc,if_false]
theorem abY {x v o v' ty:Nat} {c:List D} {lst:Bool} : nD τ h x v o (some ⟨v',ty,c,false,lst,false⟩)=dQ τ h (.ptr x v o):=by
 simp only[nD,aiH,ahc,if_false]
def ldA:Option D->Option bF->Option bF
 | some d,_=>some ⟨d,[]⟩
 | none,E=>E
theorem NB {d:D} {E:Option bF} : ldA (some d) E=some ⟨d,[]⟩:=ajz
theorem NA {E:Option bF} : ldA none E=E:=ajz
theorem abW {x v o v' ty:Nat} {c:List D} : nD τ h x v o (some ⟨v',ty,c,true,false,false⟩)=if o+τ.size<=c.length then ldA (Qd τ.ds.oD ((c.drop o).take τ.size)) (dQ τ h (.ptr x v o)) else none:=by
 simp only[nD,aiI,Bool.and_self,if_true];cases Qd τ.ds.oD ((c.drop o).take τ.size)<;>rfl
theorem WT {x v s o n:Nat} : Qd true [.ali x v s o n]=some (.box1 x v s o n):=ajz
theorem WS {x v s o n:Nat} : Qd false [.ali x v s o n]=some (.buf x v s o n):=ajz
theorem Ut {p:D} {k:IntKind} {n:Int} : dy τ h p (.int k n)=di τ h p (.int k n):=ajz
theorem Pz {p:D} {b:Bool} : dy τ h p (.bool b)=di τ h p (.bool b):=ajz
theorem Uv {p:D} {b:ByteArray} : dy τ h p (.str b)=di τ h p (.str b):=ajz
theorem Zs {p:D} {a b:Bool} {n:Nat} {xs:List D} : dy τ h p (.sl a b n xs)=di τ h p (.sl a b n xs):=ajz
theorem Uu {p:D} {x v o:Nat} : dy τ h p (.ptr x v o)=di τ h p (.ptr x v o):=ajz
theorem Zp {p:D} {xs:List D} : dy τ h p (.ip xs)=di τ h p (.ip xs):=ajz
theorem Ur {p:D} {x v s o n:Nat} : dy τ h p (.buf x v s o n)=di τ h p (.buf x v s o n):=ajz
theorem Up {p:D} {xs:List D} : dy τ h p (.agg xs)=di τ h p (.agg xs):=ajz
theorem Zo {p:D} {f:Nat} : dy τ h p (.fn f)=di τ h p (.fn f):=ajz
theorem Us {p:D} {f k:Nat} {xs:List D} : dy τ h p (.clo f k xs)=di τ h p (.clo f k xs):=ajz
theorem Uw {p:D}  : dy τ h p (.und)=di τ h p (.und):=ajz
def aeD (τ:Ty) (x o y O s U n:Nat):Option Row->Option bF
 | some r=>if τ.size=1∧o=0∧r.cells.length=1∧r.fz=false∧r.lst=false then some ⟨.und,[(x,some ⟨r.v,r.ty,[.ali y O s U n],true,false,false⟩)]⟩ else none
 | none=>none
theorem Ja {x o y O s U n:Nat} {r:Row} : aeD τ x o y O s U n (some r)=if τ.size=1∧o=0∧r.cells.length=1∧r.fz=false∧r.lst=false then some ⟨.und,[(x,some ⟨r.v,r.ty,[.ali y O s U n],true,false,false⟩)]⟩ else none:=ajz
theorem Uq {x v o y O s U n:Nat} : dy τ h (.ptr x v o) (.box1 y O s U n)=aeD τ x o y O s U n (live h x v):=by
 simp only[dy];cases live h x v<;>rfl
def Lc (b:Bool) (T:Nat->Option Ty) (τ:Ty) (h:Nat->Option Row) (O:List (Nat×D)):Option bF :=
 if b then fc T τ h O else
  match τ.ds,O with
  | .struct fs,[(0,.buf x v s o n)]=>if (alive h (.buf x v s o n))∧(fs.all fun f=>(T f.1).isSome)∧fieldAt T fs 0=some (0,1)∧τ.zero.length=1 then some ⟨.box1 x v s o n,[]⟩ else none
  | .struct fs,[(0,.box1 x v s o n)]=>if (alive h (.buf x v s o n))∧(fs.all fun f=>(T f.1).isSome)∧fieldAt T fs 0=some (0,1)∧τ.zero.length=1 then some ⟨.box1 x v s o n,[]⟩ else none
  | _,_=>cE (fc T τ h O)
theorem SK {d:Nat} {O:List (Nat×D)} : oW q T τ h (some d) O=Lc (q d) T τ h O:=ajz
theorem Gt:Lc false T τ h []=cE (fc T τ h []):=by
 unfold Lc;rw[if_neg (by simp)];cases τ.ds<;>rfl
theorem Xb {cs:List D} {hw:List (Nat×Option Row)} : cE (some ⟨.agg cs,hw⟩)=some ⟨.agg (cs.map canon),hw⟩:=ajz
theorem Gu {O:List (Nat×D)} : Lc true T τ h O=fc T τ h O:=ajz
def W6 (T:Nat->Option Ty) (h:Nat->Option Row) (O x v s o n:Nat):Ds->Option bF
 | .struct fs=>if (alive h (.buf x v s o n))∧(fs.all fun f=>(T f.1).isSome)∧fieldAt T fs 0=some (0,1)∧O=1 then some ⟨.box1 x v s o n,[]⟩ else none
 | _=>none
theorem W7 {O x v s o n:Nat} {fs:List (Nat×Nat)} : W6 T h O x v s o n (.struct fs)=if (alive h (.buf x v s o n))∧(fs.all fun f=>(T f.1).isSome)∧fieldAt T fs 0=some (0,1)∧O=1 then some ⟨.box1 x v s o n,[]⟩ else none:=ajz
theorem Ld {x v s o n:Nat} : Lc false T τ h [(0,.box1 x v s o n)]=W6 T h τ.zero.length x v s o n τ.ds:=by
 unfold Lc W6 fc;rw[if_neg (by simp)];cases τ.ds<;>rfl
theorem Cv {x v s o n:Nat} : Lc false T τ h [(0,.buf x v s o n)]=W6 T h τ.zero.length x v s o n τ.ds:=by
 unfold Lc W6 fc;rw[if_neg (by simp)];cases τ.ds<;>rfl
def clX:Option (D×List Nat)->Option (D×List Nat)
 | some (d,fr)=>some (.agg [d],fr)
 | none=>none
theorem LV {d:D} {fr:List Nat} : clX (some (d,fr))=some (.agg [d],fr):=ajz
theorem Ly {x v s o n:Nat} : bQ h (.box1 x v s o n)=clX (clB x s o n (live h x v)):=by
 simp only[bQ,aX,dH];cases live h x v with
 | none=>rfl
 | some r=>by_cases O:o+n*s<=r.cells.length<;>simp[clB,clX,O,canon]
theorem YF {x v s o n:Nat} : nm (.box1 x v s o n)=[x]:=ajz
theorem Gk {x v s o n:Nat} : alive h (.buf x v s o n)=(mX h x v).isSome:=ajz
theorem Hy {fs:List (Nat×Nat)} {O off:Nat} : fieldAt T ((O,off)::fs) 0=(T O).map fun φ=>(off,φ.size):=by
 simp only[fieldAt,List.getElem?_cons_zero];cases T O<;>rfl
end
theorem vm8:type_of% (ai @Yo<|ai @abZ<|ai @abX<|ai @abY<|ai @NB<|ai @NA<|ai @abW<|ai @WT<|ai @WS<|ai @Ut<|ai @Pz<|ai @Uv<|ai @Zs<|ai @Uu<|ai @Zp<|ai @Ur<|ai @Up<|ai @Zo<|ai @Us<|ai @Uw<|ai @Uq<|ai @Ja<|ai @SK<|ai @Gu<|ai @W7<|ai @Cv<|ai @Gt<|ai @Ld<|ai @Xb<|ai @LV<|ai @Ly<|ai @YF<|ai @Gk<|@Hy):=⟨@Yo,@abZ,@abX,@abY,@NB,@NA,@abW,@WT,@WS,@Ut,@Pz,@Uv,@Zs,@Uu,@Zp,@Ur,@Up,@Zo,@Us,@Uw,@Uq,@Ja,@SK,@Gu,@W7,@Cv,@Gt,@Ld,@Xb,@LV,@Ly,@YF,@Gk,@Hy⟩
theorem afh:type_of% (ai @Wv<|ai @abz<|ai @IN<|ai @Ue<|ai @Y7<|ai @Y6<|ai @Oe<|ai @Od<|ai @acs<|ai @HI<|ai @HH<|ai @ME<|ai @Ii<|ai @Eh<|ai @Og<|ai @TR<|ai @T3<|ai @Ub<|ai @NN<|ai @Ys<|ai @TC<|ai @HU<|ai @TA<|ai @NC<|ai @HV<|ai @ND<|ai @TB<|ai @Ul<|ai @I0<|ai @I1<|ai @IQ<|ai @I3<|ai @IZ<|ai @Pq<|ai @I2<|ai @Pr<|ai @Uk<|ai @Pp<|ai @I7<|ai @OM<|ai @OL<|ai @Tz<|ai @HS<|ai @Yl<|ai @Ym<|ai @HT<|ai @Ug<|ai @I9<|ai @Zm<|ai @Zn<|ai @Pw<|ai @Pv<|ai @Jl<|ai @Jm<|ai @FC<|ai @UT<|ai @UR<|ai @PT<|ai @UJ<|ai @Z6<|ai @TV<|ai @YJ<|ai @YK<|ai @Z7<|ai @US<|ai @UU<|ai @Jk<|ai @PX<|ai @Pu<|@BR):=⟨@Wv,@abz,@IN,@Ue,@Y7,@Y6,@Oe,@Od,@acs,@HI,@HH,@ME,@Ii,@Eh,@Og,@TR,@T3,@Ub,@NN,@Ys,@TC,@HU,@TA,@NC,@HV,@ND,@TB,@Ul,@I0,@I1,@IQ,@I3,@IZ,@Pq,@I2,@Pr,@Uk,@Pp,@I7,@OM,@OL,@Tz,@HS,@Yl,@Ym,@HT,@Ug,@I9,@Zm,@Zn,@Pw,@Pv,@Jl,@Jm,@FC,@UT,@UR,@PT,@UJ,@Z6,@TV,@YJ,@YK,@Z7,@US,@UU,@Jk,@PX,@Pu,@BR⟩
theorem afi:type_of% (ai @Tl<|ai @Nu<|ai @Ng<|ai @No<|ai @M9<|ai @Ie<|ai @Ov<|ai @Ek<|ai @Ox<|ai @Ow<|ai @Im<|ai @Ou<|ai @Ot<|ai @IV<|ai @I5<|ai @IU<|ai @I4<|ai @Uh<|ai @Um<|ai @IW<|ai @I6<|ai @Pj<|ai @Ps<|ai @H6<|ai @H7<|ai @K5<|ai @K6<|ai @Pn<|ai @IX<|ai @Po<|ai @IY<|ai @Uj<|ai @Pm<|ai @Gp<|ai @Gn<|@mX.eq_1):=⟨@Tl,@Nu,@Ng,@No,@M9,@Ie,@Ov,@Ek,@Ox,@Ow,@Im,@Ou,@Ot,@IV,@I5,@IU,@I4,@Uh,@Um,@IW,@I6,@Pj,@Ps,@H6,@H7,@K5,@K6,@Pn,@IX,@Po,@IY,@Uj,@Pm,@Gp,@Gn,@mX.eq_1⟩
theorem afj:type_of% (ai @X0<|ai @Tv<|ai @Ts<|ai @Tt<|ai @Tp<|ai @TT<|ai @Ic<|ai @Ih<|ai @NS<|ai @NV<|ai @D4<|ai @NW<|ai @NU<|ai @HZ<|ai @NR<|ai @NQ<|ai @NT<|ai @Oo<|ai @Ol<|ai @Ej<|ai @Oq<|ai @On<|ai @Il<|ai @Oj<|ai @Oi<|ai @Om<|ai @GI<|ai @Ah<|ai @Af<|ai @Ag<|ai @LX<|ai @LY<|ai @XR<|ai @S7<|ai @XQ<|ai @S6<|ai @Mi<|ai @Mj<|ai @Mk<|ai @Lo<|ai @GH<|ai @Pg<|ai @IS<|ai @Ph<|ai @IT<|ai @xS<|ai @cc<|ai @xR<|ai @ca<|ai @Te<|ai @Mu<|ai @Tc<|ai @Hl<|@Ms):=⟨@X0,@Tv,@Ts,@Tt,@Tp,@TT,@Ic,@Ih,@NS,@NV,@D4,@NW,@NU,@HZ,@NR,@NQ,@NT,@Oo,@Ol,@Ej,@Oq,@On,@Il,@Oj,@Oi,@Om,@GI,@Ah,@Af,@Ag,@LX,@LY,@XR,@S7,@XQ,@S6,@Mi,@Mj,@Mk,@Lo,@GH,@Pg,@IS,@Ph,@IT,@xS,@cc,@xR,@ca,@Te,@Mu,@Tc,@Hl,@Ms⟩
theorem v:type_of% (ai @vmc<|ai @vmk<|ai @vm1<|ai @vm2<|ai @vm3<|ai @vm4<|ai @vm5<|ai @vm6<|ai @vm7<|ai @vm8<|ai @aff<|ai @afh<|ai @afi<|ai @afj<|ai @vmu<|ai @Option.toList_some.{0}<|@Option.toList_none.{0}):=⟨@vmc,@vmk,@vm1,@vm2,@vm3,@vm4,@vm5,@vm6,@vm7,@vm8,@aff,@afh,@afi,@afj,@vmu,@Option.toList_some.{0},@Option.toList_none.{0}⟩
class vM (κ:Type) where
 k:κ->cr
 inj:∀x y,k x=k y->x=y
instance:vM Int:=⟨fun n=>(n,none),fun x y h=>by simpa using h⟩
instance:vM (Int×Int):=⟨fun p=>(p.1,some p.2),fun x y h=>by
 obtain⟨a,b⟩:=x;obtain⟨c,d⟩:=y;simpa using h⟩
def dK {κ α:Type} [vM κ]:List (κ×α)->List cr
 | []=>[]
 | (k,_)::m=>vM.k k::dK m
def fC {κ α:Type} (A:Arg α):List (κ×α)->List D
 | []=>[]
 | (_,v)::m=>A.d v::fC A m
theorem N8 {κ α:Type} {A:Arg α} : fC A ([]:List (κ×α))=[]:=ajz
section
variable {κ α:Type} [vM κ] {A:Arg α}
theorem Ny (k n:κ):vM.k k=vM.k n↔k=n:=⟨vM.inj _ _,fun h=>by rw[h]⟩
theorem N6:dK ([]:List (κ×α))=[]:=ajz
theorem D8 [DecidableEq κ] (n:κ):∀m:List (κ×α),(dK m).contains (vM.k n)=lh m n
 | []=>rfl
 | (k,v)::m=>by
  have:=D8 n m;simp only[dK,ahG,lh,this];congr 1
  by_cases h:k=n
  ·subst h;rw[beq_self_eq_true,beq_self_eq_true]
  ·rw[beq_eq_false_iff_ne.2 h,beq_eq_false_iff_ne.2 (fun e=>h (vM.inj _ _ e.symm))]
theorem N5:∀m:List (κ×α),(dK m).length=m.length
 | []=>rfl
 | (k,v)::m=>by simp[dK,N5 m]
theorem H0 [DecidableEq κ] (z:α) (n:κ):∀m:List (κ×α),pr (A.d z) (dK m) (fC A m) (vM.k n)=A.d (fm z m n)
 | []=>rfl
 | (k,v)::m=>by
  simp only[dK,fC,pr,fm,H0 z n m,Ny]
  by_cases h:k=n<;>simp[h]
theorem OQ [DecidableEq κ] (n:κ) (v:α):∀m:List (κ×α),xb (dK m) (vM.k n)=dK (pB m n v)
 | []=>rfl
 | (k,x)::m=>by
  have O:=OQ n v m;unfold xb at O ⊢;simp only[dK,pB,ahG]
  by_cases h:k=n
  ·subst h;simp[dK]
  ·have h1:(vM.k n==vM.k k)=false:=by simpa [Ny] using Ne.symm h
   rw[h1,ahH,if_neg h];simp only[dK];rw[<- O];cases (dK m).contains (vM.k n)<;>rfl
theorem OS [DecidableEq κ] (n:κ) (v:α):∀m:List (κ×α),BG (dK m) (fC A m) (vM.k n) (A.d v)=fC A (pB m n v)
 | []=>rfl
 | (k,x)::m=>by
  have O:=OS n v m;unfold BG at O ⊢;simp only[dK,fC,pB,ahG]
  by_cases h:k=n
  ·subst h;simp[fC,ahF]
  ·have h1:(vM.k n==vM.k k)=false:=by simpa [Ny] using Ne.symm h
   have h2:(vM.k k==vM.k n)=false:=by simpa [Ny] using h
   rw[h1,ahH,if_neg h];simp only[fC,ahF,h2,cond_false];rw[<- O];cases (dK m).contains (vM.k n)<;>rfl
theorem map_inj:∀ {m O:List (κ×α)},dK m=dK O->fC A m=fC A O->m=O
 | [],[],_,_=>rfl
 | [],(k,v)::O,h,_=>by simp[dK]at h
 | (k,v)::m,[],h,_=>by simp[dK]at h
 | (k,v)::m,(k',v')::O,h,g=>by
  simp only[dK,ag0,Ny]at h;simp only[fC,ag0]at g;rw[h.1,A.inj _ _ g.1,map_inj h.2 g.2]
end
theorem HQ {α:Type} {n:Int} {m:List (Int×α)} : lz false (n,none) (dK m)=true:=by
 unfold lz;simp only[ahd];refine⟨rfl,?_⟩
 induction m with
 | nil=>rfl
 | cons p m O=>simp only[dK,List.all_cons,ahd];exact⟨rfl,O⟩
theorem HR {α:Type} {a b:Int} {m:List ((Int×Int)×α)} : lz true (a,some b) (dK m)=true:=by
 unfold lz;simp only[ahd];refine⟨rfl,?_⟩
 induction m with
 | nil=>rfl
 | cons p m O=>simp only[dK,List.all_cons,ahd];exact⟨rfl,O⟩
def aMp {κ α:Type} [vM κ] (A:Arg α):Arg (List (κ×α)):=⟨fun m =>.mpc (dK m) (fC A m),fun x y h=>by
 simp only[D.mpc.injEq]at h;exact map_inj h.1 h.2⟩
theorem abK {κ α:Type} [vM κ] (A:Arg α) (m:List (κ×α)):(aMp A).d m=.mpc (dK m) (fC A m):=ajz
def eMp {κ α:Type} [vM κ] (A:Arg α):jf (List (κ×α)):=⟨fun m=>[.mpc (dK m) (fC A m)],1,fun _=>rfl,by decide,fun x y h=>by
 simp only[ag0,D.mpc.injEq,and_true]at h;exact map_inj h.1 h.2⟩
theorem Ml {κ α:Type} [vM κ] (A:Arg α):(eMp A:jf (List (κ×α))).size=1:=ajz
def mkM {κ ν α β:Type} [vM κ] (ty:Nat) (V:Arg ν) (A:jn α) (F:List (κ×ν)->α->Option (List (κ×ν)×β)) (R:β->RK):Option (D×Row)->List D->Option (RK×Option Row):=fun lent ds =>
 match lent with
 | some (.mp 0 0,⟨0,ty',[.mpc ks vs],false,true,true⟩)=>open Classical in
  if h:ty'=ty∧∃p:List (κ×ν)×α,ks=dK p.1∧vs=fC V p.1∧ds=A.ds p.2 then
   (F (Classical.choose h.2).1 (Classical.choose h.2).2).map fun r=>(R r.2,some ⟨0,ty,[.mpc (dK r.1) (fC V r.1)],false,true,true⟩)
  else none
 | _=>none
theorem ac9 {κ ν α β:Type} [vM κ] (ty:Nat) (V:Arg ν) (A:jn α) (F:List (κ×ν)->α->Option (List (κ×ν)×β)) (R:β->RK) (l:List (κ×ν)) (a:α) :
  mkM ty V A F R (some (.mp 0 0,⟨0,ty,[.mpc (dK l) (fC V l)],false,true,true⟩)) (A.ds a)=(F l a).map fun r=>(R r.2,some ⟨0,ty,[.mpc (dK r.1) (fC V r.1)],false,true,true⟩):=by
 have h:ty=ty∧∃p:List (κ×ν)×α,dK l=dK p.1∧fC V l=fC V p.1∧A.ds a=A.ds p.2:=⟨rfl,(l,a),rfl,rfl,rfl⟩;simp only[mkM];rw[dif_pos h];obtain⟨h1,h2,h3⟩:=Classical.choose_spec h.2;rw[<- A.inj _ _ h3,<- map_inj h1 h2]
theorem Yy {κ ν α β:Type} [vM κ] {ty:Nat} {V:Arg ν} {A:jn α} {F:List (κ×ν)->α->Option (List (κ×ν)×β)} {R:β->RK} {lent:Option (D×Row)} {ds:List D} {rk:RK} {out:Option Row} (h:mkM ty V A F R lent ds=some (rk,out)) :
  ∃l a l' r,lent=some (.mp 0 0,⟨0,ty,[.mpc (dK l) (fC V l)],false,true,true⟩)∧ds=A.ds a∧F l a=some (l',r)∧rk=R r∧out=some ⟨0,ty,[.mpc (dK l') (fC V l')],false,true,true⟩:=by
 unfold mkM at h;split at h
 ·split at h
  ·rename_i he;obtain⟨rfl,he⟩:=he;rw[agA]at h;obtain⟨⟨l',r⟩,h1,h2⟩:=h;simp only[Prod.mk.injEq]at h2;obtain⟨rfl,rfl⟩:=h2;obtain⟨g1,g2,g3⟩:=Classical.choose_spec he;refine⟨_,_,l',r,?_,g3,h1,rfl,rfl⟩;rw[<- g1,<- g2]
  ·cases h
 ·cases h
theorem bW.Yp {P:Program} {T:Nat->Option Ty} {Γ:Env} (X:ig P T) (Y:bH P Γ) (hm:P.follows .mixedOrders=true) {κ ν α β:Type} [vM κ] {ty:Nat} {V:Arg ν} {A:jn α} {F:List (κ×ν)->α->Option (List (κ×ν)×β)} {R:β->RK} {f:FuncId} {fn:Func} (U:P.funcs[f]? = some fn) (O:(match fn.body with|some c=>codeOk c|none=>true)=true)
  (Z:(fn.name == "runtime.NumGoroutine")=false∧fn.body.isNone=false) (hn:∀a,(A.ds a).length+1<=fn.ntmps)
  (h:∀l a l' r,F l a=some (l',r)->jY .clean T Γ FU fn (some (.mp 0 0,⟨0,ty,[.mpc (dK l) (fC V l)],false,true,true⟩)) (A.ds a)=some (R r,some ⟨0,ty,[.mpc (dK l') (fC V l')],false,true,true⟩)):bW P f (mkM ty V A F R) where
 calls lent agx rk out hg:=by
  obtain⟨l,a,l',r,rfl,rfl,hr,rfl,rfl⟩:=Yy hg;exact jF X Y hm U O (hn a) rfl (h l a l' r hr)
 callable:=⟨fn,U,Z⟩
theorem PR {T:Nat->Option Ty} {Γ:Env} {F:Nat} {mode:Mode} {fn:Func} {c:Code} {n:Nat} {rs:List ResultVar} {d0:D} {ty:Nat} {cells:List D} {fz lst:Bool} {args:List D} {r:RK×Option Row} (X:fn.body=some c) (U:fn.ntmps=n) (Y:fn.results=rs.toArray)
  (hw:dh T Γ n F [.code c] (XY mode T (some (d0,⟨0,ty,cells,fz,lst,true⟩)) rs r) .normal (FI (d0::args)) (mC ⟨0,ty,cells,fz,lst,true⟩) 1) (O:n<=1000000:=by exact ais rfl):jY mode T Γ F fn (some (d0,⟨0,ty,cells,fz,lst,true⟩)) args=some r:=by
 refine R8 ?_ (by rw[U];exact O);unfold wpf;rw[X,U,Y];exact hw
def UZ {α:Type} (e:jf α):Arg α:=⟨fun x =>.ip (e.cells x),fun x y h=>e.inj _ _ (by simpa using h)⟩
theorem Ss {α:Type} (e:jf α) (x:α):(UZ e).d x=.ip (e.cells x):=ajz
section
variable {T:Nat->Option Ty} {h:Nat->Option Row} {Γ:Env} {e:Nat} {dst:Option Nat}
def lvM (v:Nat):Option Row->Option (List cr×List D)
 | some r=>if r.v=v∧r.mp=true∧r.ty<900000 then (match r.cells with | [.mpc ks vs]=>some (ks,vs)|_=>none) else none
 | none=>none
theorem NM {x v:Nat} : gL h x v=lvM v (h x):=by
 unfold gL lvM;cases h x<;>rfl
theorem NZ {v ty:Nat} {ks:List cr} {vs:List D} {fz lst:Bool} (O:ty<900000):lvM v (some ⟨v,ty,[.mpc ks vs],fz,lst,true⟩)=some (ks,vs):=by simp[lvM,O]
def lkK (ks:List cr) (n:cr):Bool:=ks.contains n
theorem TE {α:Type} {m:List (Int×α)} {n:Int} : lkK (dK m) (n,none)=lh m n:=D8 n m
theorem TF {α:Type} {m:List ((Int×Int)×α)} {a b:Int} : lkK (dK m) (a,some b)=lh m (a,b):=D8 (a,b) m
def lkE (b ok:Bool) (z:D) (n:cr):Option (List cr×List D)->Option bF
 | some (ks,vs)=>if lz b n ks=true then some ⟨if ok then .tup [pr z ks vs n,.bool (lkK ks n)] else pr z ks vs n,[]⟩ else none
 | none=>none
theorem acg {b:Bool} {z:D} {n:cr} {ks:List cr} {vs:List D} : lkE b true z n (some (ks,vs))=if lz b n ks=true then some ⟨.tup [pr z ks vs n,.bool (lkK ks n)],[]⟩ else none:=ajz
theorem acf {b:Bool} {z:D} {n:cr} {ks:List cr} {vs:List D} : lkE b false z n (some (ks,vs))=if lz b n ks=true then some ⟨pr z ks vs n,[]⟩ else none:=ajz
def UQ (T:Nat->Option Ty) (τ:Ty) (b:Bool) (d:D):Prop:=∃φ z,D9 T τ=some (b,φ)∧jw φ (φ.zero.map lN)=some z∧(φ.zero.map lN).all ba=true∧fL z=d
theorem ac5 {τ:Ty} {b:Bool} {d:D} (O:UQ T τ b d) {m i:D} {n:cr} {ok:Bool} (U:Vu i=some n):gm T τ h m i ok=lkE b ok d n (mapOf h m):=by
 obtain⟨φ,z,h1,h2,h3,rfl⟩:=O;simp only[gm,h1,U,lkE,lkK];cases mapOf h m with
 | none=>rfl
 | some p=>obtain⟨ks,vs⟩:=p;simp only[h2,h3,and_true]
theorem N7 {x v:Nat} : mapOf h (.mp x v)=gL h x v:=ajz
theorem H4 {ks:List cr} {vs:List D} : mapOf h (.mpc ks vs)=some (ks,vs):=ajz
def muR (b:Bool) (h:Nat->Option Row) (y:Nat) (n:cr) (d:D) (fr:List Nat) (ks:List cr) (vs:List D):Option Row->Option bF
 | some r=>if lz b n ks=true∧r.fz=false∧fr.contains y=false then some ⟨.und,iF h fr++[(y,some ⟨r.v,r.ty,[.mpc (xb ks n) (BG ks vs n d)],false,true,true⟩)]⟩ else none
 | none=>none
theorem Oc {b:Bool} {y v ty:Nat} {n:cr} {d:D} {fr:List Nat} {ks:List cr} {vs:List D} {cells:List D} {lst mp:Bool} : muR b h y n d fr ks vs (some ⟨v,ty,cells,false,lst,mp⟩)=if lz b n ks=true then (if fr.contains y=false then some ⟨.und,iF h fr++[(y,some ⟨v,ty,[.mpc (xb ks n) (BG ks vs n d)],false,true,true⟩)]⟩ else none) else none:=by
 simp only[muR,true_and]
 by_cases h1:lz b n ks=true<;>simp[h1]
def muM (b:Bool) (h:Nat->Option Row) (y:Nat) (n:cr) (d:D) (fr:List Nat):Option (List cr×List D)->Option bF
 | some (ks,vs)=>muR b h y n d fr ks vs (h y)
 | none=>none
theorem Ob {b:Bool} {y:Nat} {n:cr} {d:D} {fr:List Nat} {ks:List cr} {vs:List D} : muM b h y n d fr (some (ks,vs))=muR b h y n d fr ks vs (h y):=ajz
def muE (b:Bool) (h:Nat->Option Row) (y v:Nat) (n:cr):Option (D×List Nat)->Option bF
 | some (d,fr)=>muM b h y n d fr (gL h y v)
 | none=>none
theorem Oa {b:Bool} {y v:Nat} {n:cr} {d:D} {fr:List Nat} : muE b h y v n (some (d,fr))=muM b h y n d fr (gL h y v):=ajz
theorem ade {τ:Ty} {b:Bool} {d:D} (O:UQ T τ b d) {y v:Nat} {n:cr} {i x:D} (U:Vu i=some n):cN T τ h (.mp y v) i x=muE b h y v n (sY h x):=by
 obtain⟨φ,z,h1,_⟩:=O;simp only[cN,h1,U];cases sY h x with
 | none=>rfl
 | some p =>
  obtain⟨d,fr⟩:=p;simp only[muE];cases X:gL h y v with
  | none=>simp only[muM];cases h y<;>rfl
  | some q =>
   obtain⟨ks,vs⟩:=q;simp only[muM];cases h y<;>rfl
def lnE:Option (List cr×List D)->Option bF
 | some (ks,_)=>some ⟨.int .i64 (ks.length:Nat),[]⟩
 | none=>none
theorem NP {ks:List cr} {vs:List D} : lnE (some (ks,vs))=some ⟨.int .i64 (ks.length:Nat),[]⟩:=ajz
theorem H3 {κ α:Type} [vM κ] {m:List (κ×α)} : (dK m).length=m.length:=N5 m
theorem PN {k:IntKind} {n:Int} : sY h (.int k n)=some (.int k n,[]):=ajz
theorem Ji {b:Bool} : sY h (.bool b)=some (.bool b,[]):=ajz
theorem PM {xs:List D} : sY h (.agg xs)=some (.agg (xs.map canon),[]):=ajz
theorem aa2 {τ:Ty} {b:Bool} {d:D} (X:UQ T τ b d) {ty O:Nat} (U:ty<900000):VK T (some τ) ty e O=some ⟨.mp O e,[(O,some ⟨e,ty,[.mpc [] []],false,true,true⟩)]⟩:=by
 obtain⟨φ,z,h1,_⟩:=X;exact YB h1 U
def ldP (τ:Ty) (h:Nat->Option Row) (x v y:Nat):Option Row->Option bF
 | some r=>match r.cells with
  | [.alm y' v']=>if r.fz=true∧r.lst=false∧τ.size=1∧τ.ds.oD=false then some ⟨.mp y' v',[]⟩ else none
  | _=>none
 | none=>o0 τ h x v y (kR h x v)
theorem ab0 {τ:Ty} {x v y:Nat} : mS τ h (.pm x v y)=ldP τ h x v y (live h x v):=by
 simp only[mS];cases live h x v with
 | none=>rfl
 | some r =>
  obtain⟨v',ty,cells,fz,lst,mp⟩:=r;rcases cells with _|⟨c,_|⟨O,cs⟩⟩<;>rfl
theorem NF {τ:Ty} {x v y:Nat} : ldP τ h x v y none=o0 τ h x v y (kR h x v):=ajz
def ldQ (τ:Ty) (h:Nat->Option Row) (x y s n:Nat):Option Row->Option bF
 | some r=>if y=1000000+x∧r.mp=false∧r.lst=true∧r.cells.length=n*s∧τ.size=1 then some ⟨if τ.ds.oD then .agg [.sl false false n r.cells] else .sl false false n r.cells,iF h [y]⟩ else none
 | none=>none
theorem Yn {τ:Ty} {r:Row} {x v y s n:Nat} : o0 τ h x v y (some (r,y,s,n))=ldQ τ h x y s n (h y):=by
 simp only[o0,ldQ,PK];cases h y with
 | none=>rfl
 | some q=>simp
theorem NH {ty b:Nat} {ds:Ds} {z:List Value} {q:Bool} {x y s n O:Nat} {cells:List D} {fz:Bool} : ldQ ⟨ds,1,b,z,q⟩ h x y s n (some ⟨O,ty,cells,fz,true,false⟩)=if y=1000000+x∧cells.length=n*s then some ⟨if ds.oD then .agg [.sl false false n cells] else .sl false false n cells,iF h [y]⟩ else none:=by
 simp[ldQ]
def acX (T:Nat->Option Ty) (x v k:Nat):Option (Row×Nat×Nat×Nat)->Option (Nat×Nat)->Option bF
 | some _,some (O,0)=>match T O with|some φ=>if φ.size=0 then none else some ⟨.pm x v k,[]⟩|none=>none
 | _,_=>none
theorem HG {T:Nat->Option Ty} {x v k O:Nat} {r:Row×Nat×Nat×Nat} : acX T x v k (some r) (some (O,0))=match T O with|some φ=>if φ.size=0 then none else some ⟨.pm x v k,[]⟩|none=>none:=ajz
theorem X3 {T:Nat->Option Ty} {b c:Nat} {z:List Value} {q:Bool} {fs:List (Nat×Nat)} {x v k i:Nat} : ef T ⟨.struct fs,b,c,z,q⟩ h i (.pm x v k)=acX T x v k (kR h x v) fs[i]?:=by
 simp only[ef,acX];cases kR h x v with
 | none=>rfl
 | some r=>simp only;generalize fs[i]? = z;rcases z with _|⟨O,_|off⟩<;>first|rfl|(simp;done)|(simp only;cases T O<;>rfl)
def Uo (x y s O n k : Nat) : Option Row -> Option Row -> Option bF
  | some r, some q => if O = 0 ∧ r.cells.length = 1 ∧ r.fz = false ∧ r.lst = false ∧ q.fz = false ∧ q.lst = true ∧ q.cells.length = n * s ∧ x ≠ y ∧ k = 1000000 + x ∧ x < 1000000 then
          some ⟨.und, [(y, none), (k, some ⟨0, q.ty, q.cells, false, true, false⟩), (x, some ⟨r.v, r.ty, [.ph k s n], false, false, true⟩)]⟩ else none
  | _, _ => none
theorem Zr {ds:Ds} {b:Nat} {z:List Value} {q:Bool} {x v y O s U n k:Nat} : dy ⟨ds,1,b,z,q⟩ h (.pm x v k) (.box1 y O s U n)=Uo x y s U n k (live h x v) (live h y O):=by
 simp only[dy,Uo,PK,true_and];cases live h x v with
 | none=>rfl
 | some r=>cases live h y O<;>rfl
theorem Fh {x y s O n k v ty U ty':Nat} {c:D} {cells:List D} : Uo x y s O n k (some ⟨v,ty,[c],false,false,false⟩) (some ⟨U,ty',cells,false,true,false⟩)=if O=0∧cells.length=n*s∧¬x=y∧k=1000000+x∧x<1000000 then
  some ⟨.und,[(y,none),(k,some ⟨0,ty',cells,false,true,false⟩),(x,some ⟨v,ty,[.ph k s n],false,false,true⟩)]⟩ else none:=by
 simp[Uo]
theorem NG {v ty y' v':Nat} {b k el:Nat} {z:List Value} {q mp:Bool} {O v0 y0:Nat} : ldP ⟨.map k el,1,b,z,q⟩ h O v0 y0 (some ⟨v,ty,[.alm y' v'],true,false,mp⟩)=some ⟨.mp y' v',[]⟩:=by
 simp[ldP,Ds.oD]
def abn (τ:Ty) (x y y' v':Nat) (m:Bool):Option Row->Option bF
 | some r=>if τ.size=1∧y'=y∧r.cells.length=1∧r.fz=false∧r.lst=false∧m then some ⟨.und,[(x,some ⟨r.v,r.ty,[.alm y' v'],true,false,false⟩)]⟩ else none
 | none=>none
theorem Zq {τ:Ty} {x v y y' v':Nat} : dy τ h (.pm x v y) (.mp y' v')=abn τ x y y' v' (gL h y v').isSome (live h x v):=by
 simp only[dy,abn];cases live h x v<;>rfl
theorem I8 {x y v' v ty:Nat} {c:D} {b:Nat} {ds:Ds} {z:List Value} {q mp:Bool} : abn ⟨ds,1,b,z,q⟩ x y y v' true (some ⟨v,ty,[c],false,false,mp⟩)=some ⟨.und,[(x,some ⟨v,ty,[.alm y v'],true,false,false⟩)]⟩:=by
 simp[abn]
theorem ack {x v:Nat} : nm (.mp x v)=[x]:=ajz
theorem YG {ks:List cr} {vs:List D} : nm (.mpc ks vs)=[]:=ajz
theorem acm {x v y:Nat} : nm (.pm x v y)=[x,y]:=ajz
def clM (x:Nat):Option (List cr×List D)->Option (D×List Nat)
 | some (ks,vs)=>some (.mpc ks vs,[x])
 | none=>none
theorem LP {x:Nat} {ks:List cr} {vs:List D} : clM x (some (ks,vs))=some (.mpc ks vs,[x]):=ajz
theorem SZ {x v:Nat} : bQ h (.mp x v)=clM x (gL h x v):=by
 simp only[bQ,aX,clM];cases gL h x v<;>rfl
theorem LG {ks:List cr} {vs:List D} : bQ h (.mpc ks vs)=some (.mpc ks vs,[]):=ajz
theorem Xm {x v:Nat} : aX h (.mp x v)=clM x (gL h x v):=by
 simp only[aX,clM];cases gL h x v<;>rfl
theorem SS {ks:List cr} {vs:List D} : aX h (.mpc ks vs)=some (.mpc ks vs,[]):=ajz
theorem Xl {xs:List D} : aX h (.ip xs)=some (.ip xs,[]):=ajz
theorem SU {x v o:Nat} : aX h (.ptr x v o)=clP x o (live h x v):=by
 simp only[aX];cases live h x v with
 | none=>rfl
 | some r=>simp only[clP]
def clN (x y:Nat):Option (List cr×List D)->Option (D×List Nat)
 | some (ks,vs)=>some (.ip [.mpc ks vs],[x,y])
 | none=>none
theorem LQ {x y:Nat} {ks:List cr} {vs:List D} : clN x y (some (ks,vs))=some (.ip [.mpc ks vs],[x,y]):=ajz
def clQ (h:Nat->Option Row) (x y:Nat):Option Row->Option (D×List Nat)
 | some r=>match r.cells with
  | [.alm y' v']=>if r.fz=true∧r.lst=false∧y'=y then clN x y (gL h y v') else none
  | _=>none
 | none=>none
theorem LU {x y v' v ty:Nat} {mp:Bool} : clQ h x y (some ⟨v,ty,[.alm y v'],true,false,mp⟩)=clN x y (gL h y v'):=by
 simp[clQ]
theorem Xn {x v y:Nat} : aX h (.pm x v y)=clQ h x y (live h x v):=by
 simp only[aX];cases live h x v with
 | none=>rfl
 | some r =>
  obtain⟨v',ty,cells,fz,lst,mp⟩:=r;rcases cells with _|⟨c,_|⟨O,cs⟩⟩<;>rfl
theorem TZ {x v o:Nat} : jl (.ptr x v o)=true:=ajz
theorem YO {x v y:Nat} : jl (.pm x v y)=true:=ajz
theorem YM {xs:List D} : jl (.ip xs)=true:=ajz
theorem YN {x v:Nat} : jl (.mp x v)=true:=ajz
theorem TY {ks:List cr} {vs:List D} : jl (.mpc ks vs)=true:=ajz
theorem X9 {v ty:Nat} {cells:List D} {fz mp:Bool} : qU ⟨v,ty,cells,fz,true,mp⟩=⟨v,ty,cells,true,true,mp⟩:=by cases fz<;>rfl
theorem Tr {d:Nat} : bm.hint d=none:=ajz
theorem Nc {f:Nat} {l:Bool} {G:Option (D×Row)->List D->Option (RK×Option Row)} {d:Nat} : (Am.ext Γ f l G).hint d=Γ.hint d:=ajz
theorem HO {d i:Nat} : (Am.keep d Γ).hint i=Γ.hint i:=ajz
theorem HN {d y i:Nat} : (Am.vY d y Γ).hint i=if i=d then some y else Γ.hint i:=ajz
theorem Nh {d y i:Nat} : (Am.vY d y Γ).own i=Γ.own i:=ajz
theorem DS {d y i:Nat} : (Am.vY d y Γ).lends i=Γ.lends i:=ajz
theorem Ni {d y i:Nat} {lent:Option (D×Row)} {agx:List D} : (Am.vY d y Γ).sem i lent agx=Γ.sem i lent agx:=ajz
theorem HE {ks:List cr} {vs:List D} : gx (.mpc ks vs)=false:=ajz
theorem GM {ks:List cr} {vs:List D} : canon (.mpc ks vs)=.mpc ks vs:=ajz
theorem CJ {ks:List cr} {vs:List D} : fL (.mpc ks vs)=.mpc ks vs:=ajz
end
structure sV {α:Type} (E:jf α) (C:List D) (o:Nat) (l:List α):Prop where
 fit:o+l.length*E.size<=C.length
 eq:(C.drop o).take (l.length*E.size)=ab E l
theorem sV.self {α:Type} (E:jf α) (l:List α):sV E (ab E l) 0 l:=⟨by rw[bR];omega,by rw[ah6,<- bR,aiL]⟩
theorem sV.split {α:Type} {E:jf α} {C:List D} {o:Nat} {l:List α} (F:sV E C o l):C.drop o=ab E l++C.drop (o+l.length*E.size):=by
 rw[<- aiw]
 conv=>lhs;rw[<- aix (l.length*E.size) (C.drop o)]
 rw[F.eq]
theorem sV.idx {α:Type} {E:jf α} {C:List D} {o:Nat} {l:List α} {i:Int} {x:α} (F:sV E C o l) (h:P.idx l i=some x):o+i.toNat*E.size+E.size<=C.length∧∃rest,C.drop (o+i.toNat*E.size)=E.cells x++rest:=by
 have h1:=sd E h;have h2:=F.fit;refine⟨by omega,ab E (l.drop (i.toNat+1))++C.drop (o+l.length*E.size),?_⟩;rw[<- aiw,F.split,ah1 (by rw[bR];omega),BU E h,ah0]
theorem sV.tail {α:Type} {E:jf α} {C:List D} {o:Nat} {l m:List α} {a:Int} (F:sV E C o l) (h:Fc l a (l.length:Int)=some m):sV E C (o+a.toNat*E.size) m:=by
 obtain⟨h1,h2,h3,h4,h5⟩:=Y8 E h;have h6:=F.fit;have h7:a.toNat*E.size+m.length*E.size=l.length*E.size:=by rw[<- ahS];congr 1;omega
 refine⟨by omega,?_⟩;rw[<- aiw,F.split,ah1 (by rw[bR];omega),ah4 (by rw[agW,bR];omega),h5]
theorem afk:type_of% (ai @N6<|ai @N8<|ai @NM<|ai @NZ<|ai @TE<|ai @TF<|ai @HQ<|ai @HR<|ai @NP<|ai @H3<|ai @acg<|ai @acf<|ai @N7<|ai @H4<|ai @Oc<|ai @Ob<|ai @Oa<|ai @PN<|ai @Ji<|ai @PM<|ai @ab0<|ai @NG<|ai @Zq<|ai @I8<|ai @ack<|ai @YG<|@acm):=⟨@N6,@N8,@NM,@NZ,@TE,@TF,@HQ,@HR,@NP,@H3,@acg,@acf,@N7,@H4,@Oc,@Ob,@Oa,@PN,@Ji,@PM,@ab0,@NG,@Zq,@I8,@ack,@YG,@acm⟩
theorem afl:type_of% (ai @LP<|ai @SZ<|ai @LG<|ai @Xm<|ai @SS<|ai @Xl<|ai @SU<|ai @LQ<|ai @LU<|ai @Xn<|ai @TZ<|ai @YO<|ai @YM<|ai @YN<|ai @TY<|ai @Ya<|ai @X8<|ai @X9<|ai @Tr<|ai @Nc<|ai @HO<|ai @HN<|ai @Nh<|ai @DS<|ai @Ni<|ai @Ix<|ai @Iw<|ai @HE<|ai @GM<|ai @CJ<|ai @Ml<|@Ss):=⟨@LP,@SZ,@LG,@Xm,@SS,@Xl,@SU,@LQ,@LU,@Xn,@TZ,@YO,@YM,@YN,@TY,@Ya,@X8,@X9,@Tr,@Nc,@HO,@HN,@Nh,@DS,@Ni,@Ix,@Iw,@HE,@GM,@CJ,@Ml,@Ss⟩
theorem afm:type_of% (ai @Ap<|ai @Au<|ai @CW<|ai @CZ<|ai @vQ<|ai @vU<|ai @CV<|ai @CY<|ai @we<|ai @yE<|ai @sU<|ai @yD<|ai @W2<|ai @SC<|@W4):=⟨@Ap,@Au,@CW,@CZ,@vQ,@vU,@CV,@CY,@we,@yE,@sU,@yD,@W2,@SC,@W4⟩
theorem bW.ofB {P:Program} {T:Nat->Option Ty} {Γ:Env} (U:ig P T) (X:bH P Γ) (hm:P.follows .mixedOrders=true) {α β:Type} {A:jn α} {F:α->Option β} {R:β->RK} {mode:Mode} {f:FuncId} {fn:Func} (Y:P.funcs[f]? = some fn)
  (O:((match fn.body with|some c=>codeOk c|none=>true)&&(!(fn.name == "runtime.NumGoroutine") && !fn.body.isNone))=true) (Z:∀a,Nat.ble (A.ds a).length fn.ntmps=true) (h:∀a r,F a=some r->jY mode T Γ FU fn none (A.ds a)=some (R r,none)):bW P f (dW A F R):=by
 rw[ahd,ahd]at O;exact bW.of U X hm Y O.1 ⟨by simpa using O.2.1,by simpa using O.2.2⟩ (fun a=>ais (Z a)) h
theorem WY {α β:Type} (a:Arg α) (b:jn β) (x:α×β):(iD a b).ds x=a.d x.1::b.ds x.2:=ajz
theorem WX {α:Type} (a:Arg α) (x:α):(dS a).ds x=[a.d x]:=ajz
theorem WW (x:Unit):as0.ds x=[]:=ajz
theorem gR:type_of% (ai @WY<|ai @WX<|ai @WW<|ai @adS<|ai @Sr<|ai @WI<|ai @abL<|ai @WG<|ai @abJ<|ai @WH<|ai @abK<|@Ss):=⟨@WY,@WX,@WW,@adS,@Sr,@WI,@abL,@WG,@abJ,@WH,@abK,@Ss⟩
theorem afg:type_of% (ai @NF<|ai @Yn<|ai @NH<|ai @Zr<|ai @Fh<|ai @HG<|@X3):=⟨@NF,@Yn,@NH,@Zr,@Fh,@HG,@X3⟩
theorem vi:type_of% (ai @afk<|ai @afl<|ai @afg<|@afm):=⟨@afk,@afl,@afg,@afm⟩
def adR (P:Program) (f:FuncId):Prop:=∀(blk off cap:Nat) (zs:List Int) (w:World),Go.Sort.Holds (Value.int .i64) w blk off zs.toArray->blk<w.heap.size->zs.length<4611686018427387904 ->
 Calls P f #[.slice (some ⟨blk,off,none⟩) zs.length cap] w fun e w'=>e=.returned (.tuple #[])∧∃n os,w'=Go.Sort.grow (Go.Sort.putRow (Value.int .i64) (Go.Sort.ahead w n) blk off (nL zs).toArray) os
theorem tE (k:IntKind):∀(l:List Int) (j:Nat),(ab (eI k) l)[j]? = l[j]?.map fun n =>.int k n
 | [],j=>by simp[ab]
 | x::l,0=>by simp[ab,eI]
 | x::l,j+1=>by
  have:=tE k l j;simp only[ab,xJ,List.cons_append,List.nil_append,List.getElem?_cons_succ];exact this
theorem nY (k:IntKind) (l:List Int):(ab (eI k) l).length=l.length:=by rw[bR];show l.length*1=_;omega
theorem OR {w:World} {b off:Nat} {d:List Int} {cs:Array Value} {ty:Nat} {fr:Nat×Nat} (h:w.heap[b]? = some (.cells cs ty fr)):(Go.Sort.putRow (Value.int .i64) w b off d.toArray).heap[b]? = some (.cells (Go.Sort.putCells (Value.int .i64) off d.toArray cs) ty fr):=by
 simp[Go.Sort.putRow,Go.Sort.mapBlock,agM,h,Go.Sort.onCells]
theorem EU {w:World} {b c off:Nat} {d:List Int} (h:c≠b):(Go.Sort.putRow (Value.int .i64) w b off d.toArray).heap[c]? = w.heap[c]?:=by
 simp[Go.Sort.putRow,Go.Sort.mapBlock,agM,Ne.symm h]
theorem Kn {off:Nat} {d:List Int} {cs:Array Value} {k:Nat} (hk:k<cs.size):(Go.Sort.putCells (Value.int .i64) off d.toArray cs).getD k undef=if off<=k∧k<off+d.length then .int .i64 (d.getD (k-off) 0) else cs.getD k undef:=by
 have h1:(Go.Sort.putCells (Value.int .i64) off d.toArray cs)[k]? = some (if off<=k∧k<off+d.length then .int .i64 (d.getD (k-off) 0) else cs[k]):=by
  simp only[Go.Sort.putCells,Array.getElem?_mapIdx,ahP hk,Option.map_some,ahY];congr 1;split
  ·rename_i O;congr 1;have:k-off<d.length:=by omega
   simp[List.getD,this]
  ·rfl
 rw[agH,h1];simp[agH,hk]
end Go.Proofs.YtoioidmblipblaaGreat.Am
namespace Go.Proofs.YtoioidmblipblaaGreat.P
open Go.RowKit
theorem wrap64 {x:Int} (h1 : -9223372036854775808<=x) (h2:x<9223372036854775808):IntKind.i64.wrap x=x:=by
 have key:IntKind.i64.wrap x=if x % 18446744073709551616>=9223372036854775808 then x % 18446744073709551616-18446744073709551616 else x % 18446744073709551616:=by
  unfold IntKind.wrap
  by_cases h:x % 18446744073709551616>=9223372036854775808
  ·rw[if_pos h];exact if_pos (by simpa [IntKind.bits,IntKind.signed] using h)
  ·rw[if_neg h];exact if_neg (by simpa [IntKind.bits,IntKind.signed] using h)
 rw[key];split<;>omega
theorem Nk {α:Type} {l:List α} {i:Int} {x:α} (O:0<=i) (h:l[i.toNat]? = some x):P.idx l i=some x:=by
 have:=(ag5.1 h).1;unfold P.idx;rw[if_pos ⟨O,by omega⟩,h]
theorem cj {α:Type} {l:List α} {i:Nat} (h:i<l.length):P.idx l (i:Int)=some (l[i]):=Nk (by omega) (by simp[h])
theorem Kz {α:Type} {l:List α} {i:Nat} (h:i<=l.length):Fc l 0 (i:Int)=some (l.take i):=by
 unfold Fc;rw[if_pos ⟨by omega,by omega,by omega⟩];simp
end Go.Proofs.YtoioidmblipblaaGreat.P
namespace Go.Proofs.YtoioidmblipblaaGreat.Am
open Go.RowKit Go.Deep Go.ChangeShapes Go.WideShapes
def Co (T:Nat->Option Ty):Nat->Nat->List D->Prop
 | 0,_,_=>False
 | n+1,t,xs =>
  match T t with
  | none=>False
  | some τ=>xs.length=τ.size ∧
   match τ.ds with
   | .int k=>∃i,xs=[.int k i]∧(Lit.int k i).wf=true
   | .bool=>∃b,xs=[.bool b]
   | .str=>∃s:ByteArray,xs=[.str s]∧s.size<=140737488351232
   | .slice e=>∃len O φ,xs=[.sl false false len O]∧len*φ.bytes<=140737488351232∧T e=some φ∧O.length=len*φ.size∧∀i,i<len->Co T n e ((O.drop (i*φ.size)).take φ.size)
   | .struct fs=>∀f∈fs,∃φ,T f.1=some φ∧Co T n f.1 ((xs.drop f.2).take φ.size)
   | .arr m e=>∃φ,T e=some φ∧∀i,i<m->Co T n e ((xs.drop (i*φ.size)).take φ.size)
   | .map _ _=>False
   | .other=>False
def AQ (T:Nat->Option Ty):Nat->List (Nat×Nat)->Nat->Bool
 | o,[],z=>o==z
 | o,(O,off)::fs,z=>off==o&&match T O with|some φ=>AQ T (o+φ.size) fs z|none=>false
def VN (T:Nat->Option Ty):Nat->Nat->Bool
 | 0,_=>false
 | n+1,t =>
  match T t with
  | none=>false
  | some τ =>
   match τ.ds with
   | .int _ | .bool | .str=>τ.size==1
   | .slice e=>τ.size==1&&VN T n e&&(match T e with|some φ=>decide (0<φ.size)|none=>false)
   | .struct fs=>AQ T 0 fs τ.size&&fs.all fun f=>VN T n f.1
   | .arr m e=>VN T n e&&(match T e with|some φ=>τ.size==m*φ.size|none=>false)
   | .map _ _=>false
   | .other=>false
def lU (w:World) (M:Nat->Prop) (xs:List D) (cs:List Value):Prop:=xs.length=cs.length∧∀(j:Nat) (x:D),xs[j]? = some x->ba x=true∧∃v,cs[j]? = some v∧RP w M x v
theorem lU.append {w:World} {M:Nat->Prop} {xs X:List D} {cs ds:List Value} (h:lU w M xs cs) (k:lU w M X ds):lU w M (xs++X) (cs++ds):=by
 refine⟨by simp[h.1,k.1],fun j x U =>?_⟩;rw[ahj]at U ⊢;rw[<- h.1];split at U
 ·rename_i O;rw[if_pos O];exact h.2 j x U
 ·rename_i O;rw[if_neg O];exact k.2 _ x U
theorem Dx {α:Type} (s:Nat):∀(ls:List (List α)),(∀l∈ls,l.length=s)->∀(i:Nat) (l:List α),ls[i]? = some l->(ls.flatten.drop (i*s)).take s=l
 | [],_,i,l,h=>by simp at h
 | a::ls,hl,0,l,h=>by
  simp only[List.getElem?_cons_zero,agL]at h;subst h;have:a.length=s:=hl a (by simp);simp[this]
 | a::ls,hl,i+1,l,h=>by
  have O:a.length=s:=hl a (by simp);rw[List.flatten_cons,ait,aiu (by rw[O,ahB];omega),air,O,ahB,aiv];exact Dx s ls (fun x U=>hl x (aie _ U)) i l h
theorem mT {α:Type} (s:Nat):∀(ls:List (List α)),(∀l∈ls,l.length=s)->ls.flatten.length=ls.length*s
 | [],_=>by simp
 | a::ls,hl=>by
  rw[List.flatten_cons,ahO,mT s ls (fun x O=>hl x (aie _ O)),hl a (by simp),ag2,ahB];omega
section
variable {H:Type} {enc:TypeId×Value->H} {P:Program} {w:World} {base:Nat} {spare:Nat->Bool} {held:Bool} {T:Nat->Option Ty}
theorem eP.bytesOf {P:Program} {t:Nat} {τ:Ty} (h:eP P t τ):P.bytesOf t=τ.bytes:=by
 have:=h.info;unfold Program.bytesOf;cases O:P.info? t with
 | none=>rw[O]at this;simp at this
 | some i=>rw[O]at this;simp only[Option.map_some,agL,Prod.mk.injEq]at this;simp[this.2.1]
def Reach (P:Program) (t:Nat) (d:DataW H):Prop:=∀k∈d.weights P t,k<=140737488351232
theorem zK {e:TypeId} : ∀(l:List (DataW H)) (j:Nat) (d:DataW H),l[j]? = some d->∀k∈d.weights P e,k∈DataW.weightsAll P e l
 | x::l,0,d,h,k,hk=>by
  simp only[List.getElem?_cons_zero,agL]at h;subst h;simp only[DataW.weightsAll,ahU];exact .inl hk
 | x::l,j+1,d,h,k,hk=>by
  simp only[DataW.weightsAll,ahU];exact .inr (zK l j d (by simpa using h) k hk)
 | [],j,d,h,k,hk=>by simp at h
theorem eP.cells {P:Program} {t:Nat} {τ:Ty} (h:eP P t τ):P.cellsOf t=τ.size:=by
 have:=h.info;unfold Program.cellsOf;cases O:P.info? t with
 | none=>rw[O]at this;simp at this
 | some i=>rw[O]at this;simp only[Option.map_some,agL,Prod.mk.injEq]at this;simp[this.1]
theorem Tx {T:Nat->Option Ty} {w:World} {M:Nat->Prop} {cs:List Value} : ∀(fs:List (Nat×Nat)) (o z:Nat) (f:Nat×Nat->List D),AQ T o fs z=true->cs.length=z ->
  (∀p∈fs,∃φ,T p.1=some φ∧lU w M (f p) ((cs.drop p.2).take φ.size))->o<=z->∃xs,lU w M xs (cs.drop o)∧∀p∈fs,∃φ,T p.1=some φ∧o<=p.2∧(xs.drop (p.2-o)).take φ.size=f p
 | [],o,z,f,O,U,_,_=>by
  simp only[AQ,beq_iff_eq]at O;refine⟨[],⟨by rw[agW,U,O];simp,fun j x hj=>by simp at hj⟩,fun p hp=>by simp at hp⟩
 | (X,off)::fs,o,z,f,O,U,hp,aa=>by
  simp only[AQ,ahd,beq_iff_eq]at O;obtain⟨rfl,O⟩:=O;obtain⟨φ,hφ,hR⟩:=hp (X,off) (by simp);simp only[hφ]at O;have hz:off+φ.size<=z:=by
   have:∀(fs:List (Nat×Nat)) (o:Nat),AQ T o fs z=true->o<=z:=by
    intro fs
    induction fs with
    | nil=>intro o h;simp only[AQ,beq_iff_eq]at h;omega
    | cons p fs ih =>
     intro o h;obtain⟨a,b⟩:=p;simp only[AQ,ahd]at h;have h2:=h.2;split at h2
     ·have:=ih _ h2;omega
     ·cases h2
   exact this fs _ O
  obtain⟨xs,hx,Y⟩:=Tx fs (off+φ.size) z f O U (fun p h=>hp p (aie _ h)) hz;have Z:(f (X,off)).length=φ.size:=by
   rw[hR.1,agV,agW,U];omega
  refine⟨f (X,off)++xs,?_,fun p h =>?_⟩
  ·have:=hR.append hx;rw[<- aiw,aix]at this;exact this
  ·rcases agJ.1 h with rfl|h
   ·exact⟨φ,hφ,agC _,by simp only[ahQ,ah6];rw[ah4 (by omega),ah5 (by omega)]⟩
   ·obtain⟨ψ,h1,h2,h3⟩:=Y p h;refine⟨ψ,h1,by omega,?_⟩;rw[ait,aiu (by omega),air,Z];have:p.2-off-φ.size=p.2-(off+φ.size):=by omega
    rw[this,h3]
theorem lU.one {w:World} {M:Nat->Prop} {x:D} {v:Value} (U:ba x=true) (h:RP w M x v):lU w M [x] [v]:=by
 refine⟨rfl,fun j y O =>?_⟩
 match j,O with
 | 0,O=>simp only[List.getElem?_cons_zero,agL]at O;subst O;exact⟨U,v,rfl,h⟩
 | j+1,O=>simp at O
theorem lU.flat {w:World} {M:Nat->Prop} {cs:List Value} {s:Nat} : ∀(ls:List (List D)) (o:Nat),(∀(i:Nat) l,ls[i]? = some l->lU w M l ((cs.drop (o+i*s)).take s))->(∀l∈ls,l.length=s)->lU w M ls.flatten ((cs.drop o).take (ls.length*s))
 | [],o,_,_=>⟨by simp,fun j x O=>by simp at O⟩
 | a::ls,o,h,hl=>by
  have U:=h 0 a rfl;have h1:=lU.flat ls (o+s) (fun i l X=>by
   have:=h (i+1) l (by simpa using X);rw[ahB]at this;rw[show o+s+i*s=o+(i*s+s) by omega];exact this) (fun l Y=>hl l (aie _ Y))
  have:=U.append h1;rw[aiy,ahb]at this;rw[List.flatten_cons,ag2,ahB,Nat.add_comm (ls.length*s) s,List.take_add,aiw];exact this
theorem acL (hT:ig P T) {M:Nat->Prop} (hM:∀b,base<=b->b<w.heap.size->¬M b):∀(n t fuel:Nat) (cs:List Value) (x:DataW H×List MemPlace),VN T n t=true->DataW.trod enc P w base spare held fuel t cs=some x->Reach P t x.1->∃xs,Co T n t xs∧lU w M xs cs:=by
 intro n
 induction n with
 | zero=>intro t fuel cs x h;cases h
 | succ n ih =>
  intro t fuel cs x O h hw;unfold VN at O;unfold Co;cases hτ:T t with
  | none=>rw[hτ]at O;cases O
  | some τ =>
   rw[hτ]at O;simp only at O ⊢;obtain⟨d,hd,hc⟩:=under hT hτ;cases aa:τ.ds with
   | int k =>
    rw[aa]at O hc;simp only[beq_iff_eq]at O;have Z:=xz hc;subst Z;obtain⟨i,rfl,_,hw⟩:=DataW.trod_int hd h;exact⟨[.int k i],⟨by rw[O];rfl,i,rfl,hw⟩,.one rfl (.int k i)⟩
   | bool =>
    rw[aa]at O hc;simp only[beq_iff_eq]at O;have Z:=uY hc;subst Z;obtain⟨b,rfl,_⟩:=DataW.trod_bool hd h;exact⟨[.bool b],⟨by rw[O];rfl,b,rfl⟩,.one rfl (.bool b)⟩
   | str =>
    rw[aa]at O hc;simp only[beq_iff_eq]at O;have Z:=qP hc;subst Z;obtain⟨s,rfl,rfl,hs⟩:=DataW.trod_string hd h;have aE:s.size<=140737488351232:=by
     have:=hw s.data.toList.length (by simp[DataW.weights]);simpa using this
    exact⟨[.str s],⟨by rw[O];rfl,s,rfl,aE⟩,.one rfl (.str s)⟩
   | map _ _=>rw[aa]at O;cases O
   | other=>rw[aa]at O;cases O
   | struct fs =>
    rw[aa]at O hc;simp only[ahd,agN]at O;obtain⟨F,rfl,hF⟩:=gJ hc;obtain⟨ys,m,_,rfl,hlen,aF,hf⟩:=DataW.trod_struct hd h;have ai:∀(i:Nat) (f:Field) y,F[i]? = some f->ys[i]? = some y->Reach P f.type y.1:=by
     intro i f y aG ar k hk;apply hw k;simp only[DataW.weights,hd];exact DataW.weights_mem_each (j:=i) (t:=f.type) (d:=y.1) (by rw[agz,ahu,aG];rfl) (by simp[ar]) k hk
    rw[(hT t τ hτ).cells]at hlen;have Y:∀p:Nat×Nat,∃zs,p∈fs->∃φ,T p.1=some φ∧Co T n p.1 zs∧lU w M zs ((cs.drop p.2).take φ.size):=by
     intro p
     by_cases hp:p∈fs
     ·have ab:=O.2 p hp;rw[<- hF]at hp;obtain⟨f,aH,rfl⟩:=agB.1 hp;obtain⟨i,U⟩:=List.mem_iff_getElem?.1 aH;have h1:=hf i f (by simpa using U);simp only at ab ⊢;cases hφ:T f.type with
      | none=>cases n with
       | zero=>cases ab
       | succ n=>simp only[VN,hφ]at ab;cases ab
      | some φ =>
       rw[(hT _ φ hφ).cells]at h1;have ag:i<ys.length:=by
        have:=(ag5.1 U).1;simp only[Array.length_toList]at this;omega
       rw[agP ag]at h1;obtain⟨zs,aj,ah⟩:=ih _ _ _ _ ab h1 (ai i f _ (by simpa using U) (agP ag));exact⟨zs,fun _=>⟨φ,rfl,aj,ah⟩⟩
     ·exact⟨[],fun h=>(hp h).elim⟩
    obtain⟨f,X⟩:=Classical.axiomOfChoice Y;obtain⟨xs,hx,an⟩:=Tx fs 0 τ.size f O.1 hlen (fun p hp=>by obtain⟨φ,a,_,b⟩:=X p hp;exact⟨φ,a,b⟩) (agD _);rw[ah6]at hx;refine⟨xs,⟨by rw[hx.1,hlen],fun p hp =>?_⟩,hx⟩;obtain⟨φ,h1,_,h3⟩:=an p hp;obtain⟨ψ,g1,g2,_⟩:=X p hp;rw[h1]at g1;cases g1;rw[aho]at h3;exact⟨φ,h1,by rw[h3];exact g2⟩
   | arr m e =>
    rw[aa]at O hc;simp only[ahd]at O;have Z:=xy hc;subst Z;obtain⟨ys,k,_,rfl,hlen,aF,hf⟩:=DataW.trod_array hd h;have ai:∀(i:Nat) y,ys[i]? = some y->Reach P e y.1:=by
     intro i y ar k hk;apply hw k;simp only[DataW.weights,hd];exact zK _ i y.1 (by simp[ar]) k hk
    rw[(hT t τ hτ).cells]at hlen;obtain⟨av,ad⟩:=O;split at ad
    ·rename_i φ hφ;simp only[beq_iff_eq]at ad;have Y:∀i:Nat,∃zs,i<m->Co T n e zs∧lU w M zs ((cs.drop (i*φ.size)).take φ.size):=by
      intro i
      by_cases U:i<m
      ·have h1:=hf i U;rw[(hT _ φ hφ).cells,agP (by omega)]at h1;obtain⟨zs,aj,ah⟩:=ih _ _ _ _ av h1 (ai i _ (agP (by omega)));exact⟨zs,fun _=>⟨aj,ah⟩⟩
      ·exact⟨[],fun h=>(U h).elim⟩
     obtain⟨f,X⟩:=Classical.axiomOfChoice Y;have ak:∀l∈(List.range m).map f,l.length=φ.size:=by
      intro l hl;obtain⟨i,U,rfl⟩:=agB.1 hl;have U:=ain.1 U;rw[(X i U).2.1,agV,agW,hlen,ad];have:(i+1)*φ.size<=m*φ.size:=ahp _ U;rw[ahB]at this;omega
     have aw:∀(i:Nat) l,((List.range m).map f)[i]? = some l->i<m∧l=f i:=by
      intro i l hl;rw[agz,agA]at hl;obtain⟨j,hj,rfl⟩:=hl;obtain⟨ax,ay⟩:=ag5.1 hj;simp only[ag7]at ax;simp only[ag8]at ay;exact⟨ax,by rw[ay]⟩
     have al:lU w M ((List.range m).map f).flatten ((cs.drop 0).take (((List.range m).map f).length*φ.size)):=by
      refine lU.flat _ 0 (fun i l hl =>?_) ak;obtain⟨U,rfl⟩:=aw i l hl;rw[ahr];exact (X i U).2
     rw[ag6,ag7,ah6,ah5 (by omega)]at al;refine⟨_,⟨by rw[al.1,hlen],φ,hφ,fun i U =>?_⟩,al⟩;have ag:((List.range m).map f)[i]? = some (f i):=by simp[U]
     rw[Dx φ.size _ ak i _ ag];exact (X i U).1
    ·cases ad
   | slice e =>
    rw[aa]at O hc;simp only[ahd,beq_iff_eq]at O;have Z:=fM hc;subst Z;obtain⟨⟨Y,az⟩,ae⟩:=O;split at ae
    ·rename_i φ hφ;simp only[decide_eq_true_eq]at ae;rcases open_slice hd h with⟨rfl,_⟩|⟨a,len,cap,m,k,D',Pl,rfl,hb,hl,hm,aI,rfl,U⟩
     ·refine⟨[.sl false false 0 []],⟨by rw[Y];rfl,0,[],φ,rfl,by omega,hφ,by simp,fun i U=>by omega⟩,.one rfl ?_⟩;exact .sl none 0 false false 0 [] (fun _=>undef) (agC _) (agD _) (fun h=>by cases h) (fun _=>⟨rfl,rfl⟩) (fun h=>by cases h) (fun h=>(h rfl).elim) (fun j x hj=>by simp at hj) (fun x hx=>by simp at hx)
     ·have aQ:len<=m:=by rw[aI];split<;>omega
      have aJ:len*φ.bytes<=140737488351232:=by
       have h1:=hw ((((List.range len).map D').length+((List.range (m-len)).map fun j=>D' (len+j)).length)*P.bytesOf e) (by simp[DataW.weights,hd]);rw[(hT _ φ hφ).bytesOf]at h1;simp only[ag6,ag7]at h1;exact agE (ahp _ (by omega)) h1
      have ai:∀i,i<len->Reach P e (D' i):=by
       intro i ag k hk;apply hw k;simp only[DataW.weights,hd,agJ,ahU];exact .inr (.inl (zK _ i (D' i) (by simp[ag]) k hk))
      have au:∀i:Nat,∃zs,i<len->Co T n e zs∧zs.length=φ.size∧∀(j:Nat) z,zs[j]? = some z->ba z=true∧∃v,w.cell? (a.add (i*φ.size+j))=some v∧RP w M z v:=by
       intro i
       by_cases aA:i<len
       ·obtain⟨cs',aB,aK⟩:=U i (by omega);rw[(hT _ φ hφ).cells]at aB;obtain⟨_,g1,g2⟩:=World.cells?_some aB;obtain⟨zs,aj,ah⟩:=ih _ _ _ _ az aK (ai i aA);refine⟨zs,fun _=>⟨aj,by rw[ah.1,g1],fun j z hj =>?_⟩⟩;obtain⟨p1,v,p2,p3⟩:=ah.2 j z hj;refine⟨p1,v,?_,p3⟩;have aL:j<φ.size:=by rw[<- g1];exact (ag5.1 p2).1
        rw[<- Go.Deep.add_add,g2 j aL,p2]
       ·exact⟨[],fun h=>(aA h).elim⟩
      obtain⟨f,X⟩:=Classical.axiomOfChoice au;have ak:∀l∈(List.range len).map f,l.length=φ.size:=by
       intro l hl;obtain⟨i,U,rfl⟩:=agB.1 hl;exact (X i (ain.1 U)).2.1
      have aC:((List.range len).map f).flatten.length=len*φ.size:=by rw[mT φ.size _ ak];simp
      have aq:∀i,i<len->(((List.range len).map f).flatten.drop (i*φ.size)).take φ.size=f i:=fun i U=>Dx φ.size _ ak i (f i) (by simp[U]);have ao:∀(p:Nat) z,((List.range len).map f).flatten[p]? = some z->ba z=true∧∃v,w.cell? (a.add p)=some v∧RP w M z v:=by
       intro p z hp;have aM:=(ag5.1 hp).1;rw[aC]at aM;have hq:p / φ.size<len:=aiz (by rwa [ahC]);have hr:p % φ.size<φ.size:=ahy _ ae;have he:p / φ.size*φ.size+p % φ.size=p:=Nat.div_add_mod' p φ.size;have hz:(f (p / φ.size))[p % φ.size]? = some z:=by
        rw[<- aq _ hq,agS,if_pos hr,agT,he];exact hp
       have:=(X _ hq).2.2 _ z hz;rw[he]at this;exact this
      refine⟨[.sl false false len ((List.range len).map f).flatten],⟨by rw[Y];rfl,len,_,φ,rfl,aJ,hφ,aC,fun i U=>by rw[aq i U];exact (X i U).1⟩,.one rfl ?_⟩;refine .sl (some a) cap false false len _ (fun j=>(w.cell? (a.add j)).getD undef) hl hm (fun h=>by cases h) (fun h=>by cases h) (fun h=>by cases h) (fun aN =>?_) (fun j z hj =>?_) (fun z hz =>?_)
      ·have h0:0<((List.range len).map f).flatten.length:=aiA.2 aN;obtain⟨_,v,hv,_⟩:=ao 0 _ (agP h0);obtain⟨b,o,sp⟩:=a;have aO:sp=none:=by
        unfold World.cell? at hv;split at hv
        ·split at hv
         ·cases hv
         ·rename_i h;simpa [Addr.add] using h
        ·cases hv
       subst aO;have aD:b<w.heap.size:=by
        unfold World.cell? at hv;split at hv
        ·rename_i hh;exact (agG.1 hh).1
        ·cases hv
       refine⟨b,o,rfl,aD,hM b hb aD,fun j hj =>?_⟩;obtain⟨_,v,hv,_⟩:=ao j _ (agP hj);have ha:Addr.add ⟨b,o,none⟩ j=⟨b,o+j,none⟩:=by
        unfold Addr.add;split
        ·rename_i h0;rw[h0];rfl
        ·rfl
       have aP:w.cell? ⟨b,o+j,none⟩=some v:=by rw[<- ha];exact hv
       rw[aP];simp only[hv,Option.getD_some]
      ·obtain⟨_,v,hv,hr⟩:=ao j z hj;rw[hv];exact hr
      ·obtain⟨j,hj⟩:=List.mem_iff_getElem?.1 hz;exact (ao j z hj).1
    ·cases ae
def Bh (T:Nat->Option Ty) (n t:Nat) (d:D):Prop :=
 match T t with
 | some τ=>if τ.ds.oD then ∃xs,d=.agg xs∧Co T n t xs else Co T n t [d]
 | none=>False
theorem lU.agg {w:World} {M:Nat->Prop} {xs:List D} {cs:Array Value} (h:lU w M xs cs.toList):RP w M (.agg xs) (.agg cs):=by
 have:=RP.agg (w:=w) (M:=M) xs cs.toList h.1.symm (fun j x O=>by
  obtain⟨_,v,h1,h2⟩:=h.2 j x O;simp only[List.getD,h1,Option.getD_some];exact h2) (fun x U=>by
  obtain⟨j,O⟩:=List.mem_iff_getElem?.1 U;exact (h.2 j x O).1)
 simpa using this
theorem lU.single {w:World} {M:Nat->Prop} {xs:List D} {v:Value} (h:lU w M xs [v]):∃x,xs=[x]∧RP w M x v:=by
 match xs,h with
 | [],h=>have:=h.1;simp at this
 | [x],h=>obtain⟨_,u,h1,h2⟩:=h.2 0 x rfl;simp only[List.getElem?_cons_zero,agL]at h1;subst h1;exact⟨x,rfl,h2⟩
 | x::y::xs,h=>have:=h.1;simp at this
theorem aaz (hT:ig P T) {M:Nat->Prop} (hM:∀b,base<=b->b<w.heap.size->¬M b) {n t b0:Nat} {v:Value} {d:DataW H} {ps:List MemPlace} (U:VN T n t=true) (Z:Value.okWide P w .any b0 t v) (h:DataW.Trod enc P w base spare held t v d ps) (hw:Reach P t d) :
  ∃x,Bh T n t x∧RP w M x v:=by
 obtain⟨fuel,h⟩:=h;obtain⟨xs,h1,h2⟩:=acL hT hM n t fuel _ _ U h hw;unfold Bh;cases n with
 | zero=>cases U
 | succ n =>
 cases hτ:T t with
 | none=>simp only[VN,hτ]at U;cases U
 | some τ =>
  simp only;obtain⟨d',hd,Y⟩:=under hT hτ;cases X:τ.ds with
  | int k =>
   rw[X]at Y;have O:=xz Y;subst O;obtain⟨i,rfl⟩:=okWide_int hd Z;obtain⟨x,rfl,hx⟩:=lU.single (v := .int k i) h2;exact⟨x,by simpa [Ds.oD] using h1,hx⟩
  | bool =>
   rw[X]at Y;have O:=uY Y;subst O;obtain⟨i,rfl⟩:=okWide_bool hd Z;obtain⟨x,rfl,hx⟩:=lU.single (v := .bool i) h2;exact⟨x,by simpa [Ds.oD] using h1,hx⟩
  | str =>
   rw[X]at Y;have O:=qP Y;subst O;obtain⟨i,rfl⟩:=okWide_string hd Z;obtain⟨x,rfl,hx⟩:=lU.single (v := .string i) h2;exact⟨x,by simpa [Ds.oD] using h1,hx⟩
  | slice e =>
   rw[X]at Y;have O:=fM Y;subst O;obtain⟨a,len,cap,rfl⟩:=okWide_slice hd Z;obtain⟨x,rfl,hx⟩:=lU.single (v := .slice a len cap) h2;exact⟨x,by simpa [Ds.oD] using h1,hx⟩
  | struct fs =>
   rw[X]at Y;obtain⟨F,rfl,_⟩:=gJ Y;obtain⟨cs,rfl,_⟩:=okWide_struct hd Z;exact⟨.agg xs,by simpa [Ds.oD] using h1,lU.agg h2⟩
  | arr m e =>
   rw[X]at Y;have O:=xy Y;subst O;have:∃cs,v=.agg cs:=by
    unfold Value.okWide at Z;rw[hd]at Z;obtain⟨cs,h,_⟩:=Z;exact⟨cs,h⟩
   obtain⟨cs,rfl⟩:=this;exact⟨.agg xs,by simpa [Ds.oD] using h1,lU.agg h2⟩
  | map _ _=>simp only[VN,hτ,X]at U;cases U
  | other=>simp only[VN,hτ,X]at U;cases U
theorem Gw (hT:ig P T) {M:Nat->Prop} (hM:∀b,base<=b->b<w.heap.size->¬M b) {n b0:Nat} : ∀(U:List TypeId) (vs:List Value) (ds:List (DataW H)) (Z:List MemPlace),DataW.TrodAll enc P w base spare held U vs ds Z ->
  (∀(j:Nat) t v,U[j]? = some t->vs[j]? = some v->Value.okWide P w .any b0 t v)->(∀t∈U,VN T n t=true)->(∀k∈DataW.weightsEach P U ds,k<=140737488351232) ->
  ∃X:List D,X.length=vs.length∧(∀(j:Nat) x,X[j]? = some x->∃v,vs[j]? = some v∧RP w M x v)∧X.length=U.length∧∀(j:Nat) t,U[j]? = some t->∃x,X[j]? = some x∧Bh T n t x
 | [],[],[],Z,_,_,_,_=>⟨[],rfl,fun j x O=>by simp at O,rfl,fun j t O=>by simp at O⟩
 | t::U,v::vs,d::ds,Z,h,hv,hok,hw=>by
  obtain⟨p,q,h1,h2,_⟩:=h;obtain⟨x,aa,ab⟩:=aaz hT hM (hok t (by simp)) (hv 0 t v rfl rfl) h1 (fun k hk=>hw k (by simp only[DataW.weightsEach,ahU];exact .inl hk));obtain⟨X,g1,g2,g3,g4⟩:=Gw hT hM U vs ds q h2 (fun j Y v' a b=>hv (j+1) Y v' (by simpa using a) (by simpa using b)) (fun Y ht=>hok Y (aie _ ht)) (fun k hk=>hw k (by simp only[DataW.weightsEach,ahU];exact .inr hk));refine⟨x::X,by simp[g1],fun j y O =>?_,by simp[g3],fun j Y O =>?_⟩
  ·cases j with
   | zero=>simp only[List.getElem?_cons_zero,agL]at O;subst O;exact⟨v,rfl,ab⟩
   | succ j=>simpa using g2 j y (by simpa using O)
  ·cases j with
   | zero=>simp only[List.getElem?_cons_zero,agL]at O;subst O;exact⟨x,rfl,aa⟩
   | succ j=>simpa using g4 j Y (by simpa using O)
 | [],[],_::_,_,h,_,_,_=>h.elim
 | [],_::_,_,_,h,_,_,_=>h.elim
 | _::_,[],_,_,h,_,_,_=>h.elim
 | _::_,_::_,[],_,h,_,_,_=>h.elim
end
end Go.Proofs.YtoioidmblipblaaGreat.Am
namespace Go.Proofs.YtoioidmblipblaaGreat.Am
open Go.RowKit Go.Deep Go.ChangeShapes Go.WideShapes Go.ChangeAt
section
variable {H:Type} {enc:TypeId×Value->H} {P:Program}
theorem F3 {f:Func} {s:ChangeSpec} {apart fresh handsOn again:Bool} {W W':World} {args:Array Value} {v:Value} {ds gs:List (DataW H)} {before pa pv:List MemPlace}
  (hW:DataW.Whole enc P f.params.toList s.vars apart W args.toList ds gs before)
  (Z:∀(b:Nat) (sp:Nat->Bool) (hd:Bool),DataW.TrodAll enc P W' b sp hd f.resultTypes.toList (v.resultList f.resultTypes.size) (s.fn H (ds++gs)).results [])
  (O:∀sp:Nat->Bool,(∀p∈before,sp p.block=true)->DataW.TrodAll enc P W' 0 sp true f.params.toList args.toList (s.fn H (ds++gs)).args pa)
  (U:∀sp:Nat->Bool,(∀p∈before,sp p.block=true)->DataW.TrodVars enc P W' sp s.vars (s.fn H (ds++gs)).vars pv)
  (Y:before=pa++pv) (hb:Below W.heap.size W W')
  (ad:∀(j:Nat) (t:TypeId) (r:Value),f.resultTypes[j]? = some t->(v.resultList f.resultTypes.size)[j]? = some r->Value.okWide P W' .any 0 t r) :
  s.post enc P f apart fresh handsOn again W args v W':=by
 have aa:∀p∈before,p.block<W.heap.size:=fun p X=>hW.lt p X;have hold:∀p∈before,(fun b=>decide (b<W.heap.size)) p.block=true:=fun p X=>by simpa using aa p X
 refine⟨ds,gs,before,[],pa,pv,hW,Z _ _ _,O _ hold,U _ hold,World.keptBut_mono (fun p X=>⟨X,?_⟩) (hb.frame (·∈before)),fun _ =>?_⟩
 ·rw[Y,ahU]at X;exact Or.inr X
 ·obtain⟨_,_,_,_,_,hz,hn⟩:=hW;refine⟨ad,_,_,([]++pa)++pv,⟨[]++pa,pv,trodAll_append (O _ (fun _ _=>rfl)) (Z _ _ _),U _ (fun _ _=>rfl),rfl,?_,?_⟩,?_⟩
  ·intro b off X;have ab:MemPlace.cell b off∈before:=by rw[Y];simpa using X
   rw[hb.frozen (aa _ ab)];exact hz b off ab
  ·intro ha;have:=hn ha;rw[Y]at this;simpa using this
  ·intro p X _;rw[Y];simpa using X
theorem wg (hl:laidOutB P=true) {W W':World} {U:Nat->Bool} : ∀ {X:List TypeId} {vs:List Value} {ds:List (DataW H)} {Y:List MemPlace},(∀t∈X,P.readableRec t=true∧t<P.types.size)->DataW.TrodAll enc P W 0 (fun _=>true) true X vs ds Y ->
  (∀p∈Y,W.sameAt W' p)->(∀p∈Y,U p.block=true)->DataW.TrodAll enc P W' 0 U true X vs ds Y
 | [],[],[],_,_,h,_,_=>h
 | t::X,v::vs,d::ds,_,hr,⟨p,q,h1,h2,e⟩,hs,hp=>by
  subst e;have Z:=hr t (by simp);exact⟨p,q,WideElems.Trod_stays hl Z.1 Z.2 h1 (fun x O=>hs x (agQ _ O)) (fun x O=>hp x (agQ _ O)),
   wg hl (fun t Z=>hr t (aie _ Z)) h2 (fun x O=>hs x (agR _ O)) (fun x O=>hp x (agR _ O)),rfl⟩
end
theorem YZ {H:Type} {enc:TypeId×Value->H} {C:Checked} {T:Nat->Option Ty} {f:FuncId} {fn:Func} {s:ChangeSpec} {apart fresh handsOn again:Bool} {tb n:Nat} (hT:ig C.prog T)
  (hl:laidOutB C.prog=true) (hr:(fn.params.toList.all fun t=>C.prog.readableRec t&&decide (t<C.prog.types.size)&&VN T n t)=true)
  (O:fn.resultTypes = #[tb]) (X:C.prog.underlying tb=some .bool) (hv:s.vars=[])
  (hs:∀ds:List (DataW H),ds.length=fn.params.toList.length->(s.fn H ds).results=[.lit (.bool true)]∧(s.fn H ds).args=ds∧(s.fn H ds).vars=[])
  (law:∀Y:List D,Y.length=fn.params.toList.length->(∀(j:Nat) t,fn.params.toList[j]? = some t->∃x,Y[j]? = some x∧Bh T n t x)->P3 C.prog f Y (.bool true))
  {W:World} {base:Nat} {args:Array Value} {ds gs:List (DataW H)} {before:List MemPlace}
  (hval:∀(j:Nat) t v,fn.params[j]? = some t->args[j]? = some v->Value.okWide C.prog W .any base t v) (hW:DataW.Whole enc C.prog fn.params.toList s.vars apart W args.toList ds gs before)
  (U:(DataW.weightsEach C.prog (fn.params.toList++s.plain.varTypes C.prog) (ds++gs)).all (·<=reachBytes)=true) (Z:UY W (fun _=>False)) :
  Calls C.prog f args W fun e W'=>∃v,e=.returned v∧s.post enc C.prog fn apart fresh handsOn again W args v W':=by
 have aa:=hW;obtain⟨p,q,hA,hV,rfl,hfz,ah⟩:=hW;rw[hv]at hV;obtain⟨rfl,rfl⟩:=trodVars_none hV;simp only[agN,ahd,decide_eq_true_eq]at hr;obtain⟨Y,h1,h2,h3,h4⟩:=Gw (P:=C.prog) hT (M:=fun _=>False) (fun b _ _ h=>h) (n:=n) (b0:=base) fn.params.toList args.toList ds p hA
  (fun j t v a b=>hval j t v (by simpa using a) (by simpa using b)) (fun t ht=>(hr t ht).2) (fun k hk=>by
   rw[agN]at U;have ab:s.plain.varTypes C.prog=[]:=by unfold ChangeSpec.plain;simp only[hv];rfl
   rw[ab,aiB,aiB]at U;have h:=U k hk;rw[decide_eq_true_eq]at h;exact h)
 refine (law Y h3 h4 W (fun _=>False) args (fun b h=>h.elim) ⟨by simpa using h1.symm,fun j x hj =>?_,Z⟩).mono fun e W' hG =>?_
 ·obtain⟨v,g1,g2⟩:=h2 j x hj;have ad:args[j]? = some v:=by simpa using g1
  rw[agH,ad];exact g2
 ·obtain⟨v,rfl,hb,ae⟩:=hG;have ag:RP W' (fun _=>False) (.bool true) v:=ae;cases ag;have hlen:ds.length=fn.params.toList.length:=by
   have:∀ {ts:List TypeId} {vs:List Value} {ds:List (DataW H)} {ps:List MemPlace},DataW.TrodAll enc C.prog W 0 (fun _=>true) true ts vs ds ps->ds.length=ts.length:=by
    intro ts
    induction ts with
    | nil=>intro vs ds ps h;cases vs<;>cases ds<;>first|rfl|exact h.elim
    | cons t ts ih =>
     intro vs ds ps h;cases vs with
     | nil=>exact h.elim
     | cons v vs=>cases ds with
      | nil=>exact h.elim
      | cons d ds=>obtain⟨_,_,_,h2,_⟩:=h;simp[ih h2]
   exact this hA
  obtain⟨e1,e2,e3⟩:=hs ds hlen;refine⟨_,rfl,F3 (pa:=p) (pv:=[]) aa ?_ ?_ ?_ (by simp) hb ?_⟩
  ·intro b sp hd;rw[aiB,e1,O];exact trodAll_mk1 ⟨1,by simp[DataW.trod,X,Value.cells]⟩
  ·intro sp hsp;rw[aiB,e2];refine wg hl (fun t ht=>(hr t ht).1) hA (fun x hx=>hb.same (aa.lt x (by simpa using hx))) (fun x hx=>hsp x (by simpa using hx))
  ·intro sp _;rw[aiB,e3,hv];rfl
  ·exact ok_one O rfl (by simp[Value.okWide,X,Cell.okWide,Cell.ok])
theorem Rq {H:Type} {enc:TypeId×Value->H} {C:Checked} {os:Os} {T:Nat->Option Ty} {f:FuncId} {fn:Func} {s:ChangeSpec} {conds:List PathCond} {apart fresh handsOn again:Bool} {tb n:Nat}
  (hT:ig C.prog T) (own:ownKnob C.prog.godebug=none) (started:os.Started) (O:C.prog.inits.idxOf? f=none) (Y:C.prog.funcs[f]? = some fn)
  (witness:∃(w:World) (tape:Tape) (i:Input),w.os=os∧(w.forCall tape i).Shaped C.prog∧i.vars=[]∧Input.okWide C.prog (w.forCall tape i) .any w.heap.size f i ∧
   s.pre6 enc C.prog fn conds apart (w.forCall tape i).memory i.args∧({} : Assume).holds C.prog (lone (Frame.enter C.prog f i.args .normal) [] (w.forCall tape i)))
  (hl:laidOutB C.prog=true) (hr:(fn.params.toList.all fun t=>C.prog.readableRec t&&decide (t<C.prog.types.size)&&VN T n t)=true)
  (U:fn.resultTypes = #[tb]) (Z:C.prog.underlying tb=some .bool) (hv:s.vars=[])
  (hs:∀ds:List (DataW H),ds.length=fn.params.toList.length->(s.fn H ds).results=[.lit (.bool true)]∧(s.fn H ds).args=ds∧(s.fn H ds).vars=[])
  (law:∀ar:List D,ar.length=fn.params.toList.length->(∀(j:Nat) t,fn.params.toList[j]? = some t->∃x,ar[j]? = some x∧Bh T n t x)->P3 C.prog f ar (.bool true)) (aa:Zw=none:=by rfl) :
  ReturnsInHanded {} C os f .any (s.pre6 enc C.prog fn conds apart) (s.post enc C.prog fn apart fresh handsOn again):=by
 apply returnsInHanded_of_change_sized own started O Y witness;intro W base args ds gs before X hW _ ab _;exact YZ hT hl hr U Z hv hs law X hW ab (fun b hb=>by rw[aa]at hb;cases hb)
end Go.Proofs.YtoioidmblipblaaGreat.Am
namespace Go.Proofs.YtoioidmblipblaaGreat.Am
open Go.RowKit
theorem adT {T:Nat->Option Ty} {n t:Nat} {O:List D} (h:O.length=[t].length) (hs:∀(j:Nat) u,[t][j]? = some u->∃x,O[j]? = some x∧Bh T n u x):∃a,O=[a]∧Bh T n t a:=by
 match O,h with
 | [a],_=>obtain⟨x,h1,h2⟩:=hs 0 t rfl;cases h1;exact⟨a,rfl,h2⟩
section
variable {T:Nat->Option Ty} {n t:Nat} {τ:Ty} {d:D}
theorem Qf {fs:List (Nat×Nat)} (h:Bh T n t d) (O:T t=some τ) (U:τ.ds=.struct fs):∃xs,d=.agg xs∧Co T n t xs:=by
 simp only[Bh,O,U,Ds.oD,if_true]at h;exact h
theorem abo {k:IntKind} {xs:List D} (h:Co T (n+1) t xs) (O:T t=some τ) (U:τ.ds=.int k):∃i,xs=[.int k i]∧(Lit.int k i).wf=true:=by
 simp only[Co,O,U]at h;exact h.2
theorem abp {xs:List D} (h:Co T (n+1) t xs) (O:T t=some τ) (U:τ.ds=.str):∃s:ByteArray,xs=[.str s]∧s.size<=140737488351232:=by
 simp only[Co,O,U]at h;exact h.2
theorem Wd {e:Nat} {φ:Ty} {xs:List D} (h:Co T (n+1) t xs) (U:T t=some τ) (X:τ.ds=.slice e) (Y:T e=some φ) :
  ∃len O,xs=[.sl false false len O]∧len*φ.bytes<=140737488351232∧O.length=len*φ.size∧∀i,i<len->Co T n e ((O.drop (i*φ.size)).take φ.size):=by
 simp only[Co,U,X]at h;obtain⟨_,len,O,ψ,h1,h3,h4,h5,h6⟩:=h;rw[Y]at h4;cases h4;exact⟨len,O,h1,h3,h5,h6⟩
theorem RX {fs:List (Nat×Nat)} {xs:List D} (h:Co T (n+1) t xs) (O:T t=some τ) (U:τ.ds=.struct fs):xs.length=τ.size∧∀f∈fs,∃φ,T f.1=some φ∧Co T n f.1 ((xs.drop f.2).take φ.size):=by
 simp only[Co,O,U]at h;exact h
end
end Go.Proofs.YtoioidmblipblaaGreat.Am
namespace Go.Proofs.YtoioidmblipblaaGreat.Am
open Go.RowKit Go.Proofs.YtoioidmblipblaaGreat.P
def Bj {α:Type} (T:Nat->Option Ty) (n t:Nat) (E:jf α) (ok:α->Prop):Prop:=(∃φ,T t=some φ∧φ.size=E.size)∧∀xs,Co T n t xs->∃x,xs=E.cells x∧ok x
section
variable {T:Nat->Option Ty} {n t:Nat} {τ:Ty}
theorem opI {k:IntKind} (O:T t=some τ) (U:τ.ds=.int k) (hs:τ.size=1):Bj T (n+1) t (eI k) (fun i=>(Lit.int k i).wf=true):=⟨⟨τ,O,hs⟩,fun _ h=>abo h O U⟩
theorem aed (O:T t=some τ) (U:τ.ds=.str) (hs:τ.size=1):Bj T (n+1) t XS (fun s=>s.size<=140737488351232):=⟨⟨τ,O,hs⟩,fun _ h=>abp h O U⟩
theorem acu {α:Type} (E:jf α) (ok:α->Prop):∀(len:Nat) (O:List D),O.length=len*E.size->(∀i,i<len->∃x,(O.drop (i*E.size)).take E.size=E.cells x∧ok x)->∃l:List α,l.length=len∧O=ab E l∧∀x∈l,ok x
 | 0,O,Y,_=>⟨[],rfl,by simpa [ab] using Y,fun x X=>by simp at X⟩
 | len+1,O,Y,h=>by
  obtain⟨x,X,Z⟩:=h 0 (by omega);obtain⟨l,h1,h2,h3⟩:=acu E ok len (O.drop E.size) (by rw[agW,Y,ahB];omega) (fun i hi=>by
   obtain⟨y,U,aa⟩:=h (i+1) (by omega);refine⟨y,?_,aa⟩;rw[aiw];rw[ahB,Nat.add_comm]at U;exact U)
  rw[aiy,ah6]at X;refine⟨x::l,by simp[h1],?_,fun y U =>?_⟩
  ·rw[bj,<- h2,<- X,aix]
  ·rcases agJ.1 U with rfl|U
   ·exact Z
   ·exact h3 y U
theorem Rl {α:Type} {E:jf α} {ok:α->Prop} {e:Nat} (O:T t=some τ) (Y:τ.ds=.slice e) (hs:τ.size=1) {B:Nat} (U:(T e).map (·.bytes)=some B) (he:Bj T n e E ok):Bj T (n+1) t (jk E) (fun l=>l.length*B<=140737488351232∧∀x∈l,ok x):=by
 obtain⟨⟨φ,X,Z⟩,hx⟩:=he;have hb:φ.bytes=B:=by rw[X]at U;simpa using U
 refine⟨⟨τ,O,hs⟩,fun xs h =>?_⟩;obtain⟨len,ys,h1,h2,h3,h4⟩:=Wd h O Y X;rw[Z]at h3 h4;rw[hb]at h2;obtain⟨l,k1,k2,k3⟩:=acu E ok len ys h3 fun i hi=>hx _ (h4 i hi);subst k1 k2;exact⟨l,h1,h2,k3⟩
def OpF {α:Type} (T:Nat->Option Ty) (n:Nat) (fs:List (Nat×Nat)) (o:Nat) (E:jf α) (ok:α->Prop):Prop :=
 ∀xs:List D,xs.length=o+E.size->(∀f∈fs,∃φ,T f.1=some φ∧Co T n f.1 ((xs.drop f.2).take φ.size))->∃x,xs.drop o=E.cells x∧ok x
theorem OK {α:Type} {E:jf α} {ok:α->Prop} {O o:Nat} (h:Bj T n O E ok):OpF T n [(O,o)] o E ok:=by
 obtain⟨⟨φ,U,Z⟩,X⟩:=h;intro xs hl Y;obtain⟨ψ,h1,h2⟩:=Y (O,o) (by simp);cases U.symm.trans h1;rw[ah5 (by rw[agW];omega)]at h2;exact X _ h2
theorem zF {α β:Type} {E:jf α} {ok:α->Prop} {U:jf β} {O:β->Prop} {X o o':Nat} {fs:List (Nat×Nat)} (h:Bj T n X E ok) (ho:o'=o+E.size) (h':OpF T n fs o' U O):OpF T n ((X,o)::fs) o (lR E U) (fun x=>ok x.1∧O x.2):=by
 subst ho;obtain⟨⟨φ,hφ,hz⟩,hx⟩:=h;intro xs hl hf;obtain⟨ψ,h1,h2⟩:=hf (X,o) (by simp);cases hφ.symm.trans h1;obtain⟨x,Y,Z⟩:=hx _ h2;obtain⟨y,aa,ab⟩:=h' xs (by rw[hl];show o+(E.size+U.size)=_;omega) fun f ad=>hf f (aie _ ad);refine⟨(x,y),?_,Z,ab⟩;show xs.drop o=E.cells x++U.cells y;rw[<- Y,<- aa,<- hz,<- aiw,aix]
theorem opS {α β:Type} {E:jf β} {ok:β->Prop} {f:α->β} {X:∀x y,f x=f y->x=y} {g:β->α} {fs:List (Nat×Nat)} (O:T t=some τ) (Y:τ.ds=.struct fs) (hs:τ.size=E.size) (U:∀y,f (g y)=y) (h:OpF T n fs 0 E ok):Bj T (n+1) t (Bp E f X) (fun x=>ok (f x)):=by
 refine⟨⟨τ,O,hs⟩,fun xs Z =>?_⟩;obtain⟨h1,h2⟩:=RX Z O Y;obtain⟨y,h3,h4⟩:=h xs (by rw[h1,hs,ahr]) h2;refine⟨g y,?_,?_⟩
 ·show xs=E.cells (f (g y));rw[U,<- h3,ah6]
 ·show ok (f (g y));rw[U];exact h4
def OpA {α:Type} (T:Nat->Option Ty) (n t:Nat) (A:Arg α) (ok:α->Prop):Prop:=∀d,Bh T n t d->∃x,d=A.d x∧ok x
theorem oaS {α:Type} {E:jf α} {ok:α->Prop} {fs:List (Nat×Nat)} (O:T t=some τ) (U:τ.ds=.struct fs) (X:Bj T n t E ok):OpA T n t (bC E) ok:=fun d h=>by
 obtain⟨xs,rfl,h1⟩:=Qf h O U;obtain⟨x,h1,h2⟩:=X.2 _ h1;exact⟨x,by rw[h1];rfl,h2⟩
def acF {α:Type} (T:Nat->Option Ty) (n:Nat) (U:List Nat) (A:jn α) (ok:α->Prop):Prop:=∀O:List D,O.length=U.length->(∀(j:Nat) u,U[j]? = some u->∃x,O[j]? = some x∧Bh T n u x)->∃x,O=A.ds x∧ok x
theorem afR {α:Type} {A:Arg α} {ok:α->Prop} (h:OpA T n t A ok):acF T n [t] (dS A) ok:=fun Y O hs=>by
 obtain⟨a,rfl,U⟩:=adT O hs;obtain⟨x,rfl,X⟩:=h a U;exact⟨x,rfl,X⟩
theorem ac1 {P:Program} {f:FuncId} {α:Type} {A:jn α} {F:α->Option Bool} {ok:α->Prop} {U:List Nat} (X:acF T n U A ok) (Y:bW P f (dW A F (fun r =>.clean (.bool r)))) (h:∀x,ok x->F x=some true) (O:List D) (Z:O.length=U.length)
  (hs:∀(j:Nat) u,U[j]? = some u->∃x,O[j]? = some x∧Bh T n u x):P3 P f O (.bool true):=by
 obtain⟨x,rfl,hx⟩:=X O Z hs;refine Y.calls none _ _ none ?_;rw[cU,h x hx];rfl
end
end Go.Proofs.YtoioidmblipblaaGreat.Am
namespace Go.Proofs.YtoioidmblipblaaGreat.P
open Go.RowKit
def KP (l:List Int):Option (List Int):=some l
def B7 (l:List Int):Option (List Int):=if l.length*8<=140737488351232 then some (nL l) else none
end Go.Proofs.YtoioidmblipblaaGreat.P
namespace Go.Proofs
open Go.Shelf
def Tryz.Nz:Go.Shelf.Ren:=⟨fun|189=>133|125=>74|257=>146|128=>116|129=>117|294=>148|295=>149|296=>150|297=>151|298=>152|299=>153|216=>154|300=>155|301=>156|328=>157|329=>137|330=>138|331=>158|332=>159|215=>118|343=>160|n=>n,fun|28=>22|3=>3|46=>109|0=>0|51=>138|53=>140|4=>4|183=>131|182=>130|131=>135|5=>5|9=>9|218=>146|222=>150|228=>158|229=>159|n=>n,fun|n=>n⟩
theorem Tryz.Tw:Go.Proofs.Lays.n189 prog Tryz.Nz:={
 mixed:=by kernel_rfl
 f125:=Tryz.func74.trans (congrArg some (by kernel_rfl))
 f128:=Tryz.func116.trans (congrArg some (by kernel_rfl))
 f129:=Tryz.func117.trans (congrArg some (by kernel_rfl))
 f189:=Tryz.func133.trans (congrArg some (by kernel_rfl))
 f215:=Tryz.func118.trans (congrArg some (by kernel_rfl))
 f216:=Tryz.func154.trans (congrArg some (by kernel_rfl))
 f257:=Tryz.func146.trans (congrArg some (by kernel_rfl))
 f294:=Tryz.func148.trans (congrArg some (by kernel_rfl))
 f295:=Tryz.func149.trans (congrArg some (by kernel_rfl))
 f296:=Tryz.func150.trans (congrArg some (by kernel_rfl))
 f297:=Tryz.func151.trans (congrArg some (by kernel_rfl))
 f298:=Tryz.func152.trans (congrArg some (by kernel_rfl))
 f299:=Tryz.func153.trans (congrArg some (by kernel_rfl))
 f300:=Tryz.func155.trans (congrArg some (by kernel_rfl))
 f301:=Tryz.func156.trans (congrArg some (by kernel_rfl))
 f328:=Tryz.func157.trans (congrArg some (by kernel_rfl))
 f329:=Tryz.func137.trans (congrArg some (by kernel_rfl))
 f330:=Tryz.func138.trans (congrArg some (by kernel_rfl))
 f331:=Tryz.func158.trans (congrArg some (by kernel_rfl))
 f332:=Tryz.func159.trans (congrArg some (by kernel_rfl))
 f343:=Tryz.func160.trans (congrArg some (by kernel_rfl))
 t0:=underlying0
 a0:=isAgg0
 z0:=sizeOf0
 v0:=zeroValue0
 t3:=underlying3
 a3:=isAgg3
 z3:=sizeOf3
 v3:=zeroValue3
 t4:=underlying4
 a4:=isAgg4
 z4:=sizeOf4
 v4:=zeroValue4
 t5:=underlying5
 a5:=isAgg5
 z5:=sizeOf5
 v5:=zeroValue5
 t9:=underlying9
 a9:=isAgg9
 z9:=sizeOf9
 v9:=zeroValue9
 t28:=underlying22
 a28:=isAgg22
 z28:=sizeOf22
 v28:=zeroValue22
 t46:=underlying109
 a46:=isAgg109
 z46:=sizeOf109
 v46:=zeroValue109
 t51:=underlying138
 a51:=isAgg138
 z51:=sizeOf138
 v51:=zeroValue138
 t53:=underlying140
 a53:=isAgg140
 z53:=sizeOf140
 v53:=zeroValue140
 t131:=underlying135
 a131:=isAgg135
 z131:=sizeOf135
 v131:=zeroValue135
 t182:=underlying130
 a182:=isAgg130
 z182:=sizeOf130
 v182:=zeroValue130
 t183:=underlying131
 a183:=isAgg131
 z183:=sizeOf131
 v183:=zeroValue131
 t218:=underlying146
 a218:=isAgg146
 z218:=sizeOf146
 v218:=zeroValue146
 t222:=underlying150
 a222:=isAgg150
 z222:=sizeOf150
 v222:=zeroValue150
 t228:=underlying158
 a228:=isAgg158
 z228:=sizeOf158
 v228:=zeroValue158
 t229:=underlying159
 a229:=isAgg159
 z229:=sizeOf159
 v229:=zeroValue159 }
def Tryz.Ru:Go.Shelf.Ren:=⟨fun|6=>42|15=>74|14=>73|28=>116|29=>117|20=>108|21=>109|22=>110|23=>111|24=>112|25=>113|26=>114|27=>115|46=>136|47=>137|48=>138|49=>139|50=>140|57=>147|n=>n,fun|22=>26|24=>65|25=>79|3=>3|39=>109|0=>0|53=>138|55=>140|4=>4|46=>131|45=>130|50=>135|5=>5|9=>9|66=>146|70=>150|76=>158|77=>159|n=>n,fun|n=>n⟩
theorem Tryz.Zj:Go.Proofs.SlLaysF0.n6 prog Tryz.Ru:={
 mixed:=by kernel_rfl
 f6:=⟨Tryz.f42.name,by decide,Tryz.func42.trans (congrArg some (by kernel_rfl))⟩
 f14:=⟨Tryz.f73.name,by decide,Tryz.func73.trans (congrArg some (by kernel_rfl))⟩
 f15:=Tryz.func74.trans (congrArg some (by kernel_rfl))
 f20:=⟨Tryz.f108.name,by decide,Tryz.func108.trans (congrArg some (by kernel_rfl))⟩
 f21:=⟨Tryz.f109.name,by decide,Tryz.func109.trans (congrArg some (by kernel_rfl))⟩
 f22:=⟨Tryz.f110.name,by decide,Tryz.func110.trans (congrArg some (by kernel_rfl))⟩
 f23:=⟨Tryz.f111.name,by decide,Tryz.func111.trans (congrArg some (by kernel_rfl))⟩
 f24:=⟨Tryz.f112.name,by decide,Tryz.func112.trans (congrArg some (by kernel_rfl))⟩
 f25:=⟨Tryz.f113.name,by decide,Tryz.func113.trans (congrArg some (by kernel_rfl))⟩
 f26:=⟨Tryz.f114.name,by decide,Tryz.func114.trans (congrArg some (by kernel_rfl))⟩
 f27:=⟨Tryz.f115.name,by decide,Tryz.func115.trans (congrArg some (by kernel_rfl))⟩
 f28:=Tryz.func116.trans (congrArg some (by kernel_rfl))
 f29:=Tryz.func117.trans (congrArg some (by kernel_rfl))
 f46:=⟨Tryz.f136.name,by decide,Tryz.func136.trans (congrArg some (by kernel_rfl))⟩
 f47:=Tryz.func137.trans (congrArg some (by kernel_rfl))
 f48:=Tryz.func138.trans (congrArg some (by kernel_rfl))
 f49:=⟨Tryz.f139.name,by decide,Tryz.func139.trans (congrArg some (by kernel_rfl))⟩
 f50:=⟨Tryz.f140.name,by decide,Tryz.func140.trans (congrArg some (by kernel_rfl))⟩
 f57:=⟨Tryz.f147.name,by decide,Tryz.func147.trans (congrArg some (by kernel_rfl))⟩
 t0:=underlying0
 a0:=isAgg0
 z0:=sizeOf0
 v0:=zeroValue0
 t3:=underlying3
 a3:=isAgg3
 z3:=sizeOf3
 v3:=zeroValue3
 t4:=underlying4
 a4:=isAgg4
 z4:=sizeOf4
 v4:=zeroValue4
 t5:=underlying5
 a5:=isAgg5
 z5:=sizeOf5
 v5:=zeroValue5
 t9:=underlying9
 a9:=isAgg9
 z9:=sizeOf9
 v9:=zeroValue9
 t22:=underlying26
 a22:=isAgg26
 z22:=sizeOf26
 v22:=zeroValue26
 t25:=underlying79
 a25:=isAgg79
 z25:=sizeOf79
 v25:=zeroValue79
 t39:=underlying109
 a39:=isAgg109
 z39:=sizeOf109
 v39:=zeroValue109
 t45:=underlying130
 a45:=isAgg130
 z45:=sizeOf130
 v45:=zeroValue130
 t46:=underlying131
 a46:=isAgg131
 z46:=sizeOf131
 v46:=zeroValue131
 t50:=underlying135
 a50:=isAgg135
 z50:=sizeOf135
 v50:=zeroValue135
 t53:=underlying138
 a53:=isAgg138
 z53:=sizeOf138
 v53:=zeroValue138
 t55:=underlying140
 a55:=isAgg140
 z55:=sizeOf140
 v55:=zeroValue140
 t66:=underlying146
 a66:=isAgg146
 z66:=sizeOf146
 v66:=zeroValue146
 t70:=underlying150
 a70:=isAgg150
 z70:=sizeOf150
 v70:=zeroValue150
 t76:=underlying158
 a76:=isAgg158
 z76:=sizeOf158
 v76:=zeroValue158
 t77:=underlying159
 a77:=isAgg159
 z77:=sizeOf159
 v77:=zeroValue159 }
end Go.Proofs
namespace Go.Proofs.YtoioidmblipblaaGreat.Am
open Go.RowKit Go.Proofs.YtoioidmblipblaaGreat.P
theorem Sl {w:World} {M:Nat->Prop} {k:IntKind} {l:List Int} {u:Value} (h:RP w M (.sl false false l.length (ab (eI k) l)) u) :
  ∃A c,u=.slice A l.length c∧l.length<=c∧c<=maxLen∧(A=none->l.length=0∧c=0)∧(l≠[]->∃b o,A=some ⟨b,o,none⟩∧b<w.heap.size∧¬M b∧∀j,j<l.length->w.cell? ⟨b,o+j,none⟩=some (.int k (l.getD j 0))):=by
 cases h with
 | sl A c nl tight n xs us h1 h2 h3 h4 h5 h6 h7 h8 =>
  refine⟨A,c,rfl,h1,h2,h4,fun X =>?_⟩;have O:ab (eI k) l≠[]:=by
   intro he;have:=congrArg List.length he;rw[nY]at this;exact X (ahX this)
  obtain⟨b,o,rfl,Y,Z,hc⟩:=h6 O;refine⟨b,o,rfl,Y,Z,fun j U =>?_⟩;rw[hc j (by rw[nY];exact U)];have hg:(ab (eI k) l)[j]? = some (.int k (l.getD j 0)):=by rw[tE];simp[List.getD,U]
  rw[acG (h7 j _ hg)]
end Go.Proofs.YtoioidmblipblaaGreat.Am
namespace Go.Proofs.YtoioidmblipblaaGreat.Am
open Go.RowKit Go.Shelf Go.Proofs.YtoioidmblipblaaGreat.P
attribute [local go_sem] Oper.semAt_some
def upto (f:Nat->Int) (k:Nat):List Int:=(List.range k).map f
theorem Jh (f:Nat->Int) (k:Nat):upto f (k+1)=upto f k++[f k]:=by simp[upto,aju]
theorem PJ (f:Nat->Int) (k:Nat):(upto f k).length=k:=by simp[upto]
theorem Z9 (zs:List Int):upto (fun j=>zs[j]?.getD 0) zs.length=zs:=by
 apply List.ext_getElem
 ·simp[upto]
 ·intro i h1 h2;simp[upto,h2]
theorem Wf (zs:List Int) {k:Nat} (hk:k<=zs.length):upto (fun j=>zs[j]?.getD 0) k=zs.take k:=by
 apply List.ext_getElem
 ·simp[upto,hk]
 ·intro i h1 h2;have:i<zs.length:=by simp[upto]at h1;omega
  simp[upto,this]
set_option maxRecDepth 100000 in
set_option maxHeartbeats 2000000 in
theorem R1 (F:Fence) (n:Nat) (h7:F.fn 134) (hro:F.round=none) (hn:1<=n) (l Bs Bo n₀ b off len cap:Nat) (zs:List Int) (hreach:len*8<=140737488351232) (hb:b<n₀) (J Jx:List Int->World->Prop)
  (hY:∀pre x W,J pre W->pre.length<len->YieldAt F (n-1) prog l #[.int .i64 x] W fun e W' =>
   (e=.returned (.bool true)∧J (pre++[x]) W'∧Below n₀ W W')∨(e=.returned (.bool false)∧Jx (pre++[x]) W'))
  (W:World) (hBs:W.cell? ⟨Bs,Bo,none⟩=some (.slice (some ⟨b,off,none⟩) len cap)) (hc:∀j,j<len->W.cell? ⟨b,off+j,none⟩=some (.int .i64 (zs[j]?.getD 0))) (h0:J [] W) :
  CallsIn F n prog 134 #[.func (.yield l) #[] #[],.pointer (some ⟨Bs,Bo,none⟩)] W fun e W'=>(∃v,e=.returned v) ∧
   ((∃ys,ys=upto (fun j=>zs[j]?.getD 0) len∧J ys W')∨(∃pre,(∃k,k<=len∧pre=upto (fun j=>zs[j]?.getD 0) k)∧Jx pre W')):=by
 refine callsIn_of_wp func134 rfl h7 ?_ hro;simp only[ntmps134,ahY,List.length_cons,List.length_nil,Nat.reduceAdd,Nat.reduceSub,ajv,Array.replicate_zero,ajx,ajy,List.nil_append,List.cons_append]
 gi_wp2
 gi_loopw [7] (fun i wr=>∃k:Nat,k<=len∧i=.int .i64 k∧J (upto (fun j=>zs[j]?.getD 0) k) wr∧Below n₀ W wr)
  (fun i _=>len-(intOf i).toNat)
 case atStart=>exact⟨0,agD _,rfl,h0,Below.refl _ _⟩
 case round =>
  obtain⟨k,hk,rfl,hJs,hnx⟩:=hrel;have hcx:k<len->wr.cell? ⟨b,off+k,none⟩=some (.int .i64 (zs[k]?.getD 0)):=fun h=>(hnx.cell (p:=⟨b,off+k,none⟩) hb).trans (hc k h)
  by_cases hlt:k<len
  ·obtain⟨fn,tmps,assign,body,hy,hR⟩:=hY _ (zs[k]?.getD 0) wr hJs (by rw[PJ];exact hlt);have hcx':=hcx hlt
   gi_wp2
   apply hR.mono;rintro e W3 (⟨rfl,hJ3,hk3⟩|⟨rfl,hJx3⟩)
   ·gi_wp2
    go_roundw
    case rel=>exact⟨k+1,by omega,by simp,by rw[Jh];exact hJ3,hnx.trans hk3⟩
    case measure=>simp[intOf];omega
   ·gi_wp2
    refine bodyPost_ret (results_none rfl _ _ _) rfl ?_;exact⟨⟨_,rfl⟩,.inr ⟨_,⟨k+1,by omega,(Jh _ _).symm⟩,hJx3⟩⟩
  ·obtain rfl:k=len:=by omega
   gi_wp2
   go_end0
   exact⟨⟨_,rfl⟩,.inl ⟨_,rfl,hJs⟩⟩
set_option maxRecDepth 100000 in
set_option maxHeartbeats 1000000 in
theorem Fy (F:Fence) (n:Nat) (h7:F.fn 134) (hro:F.round=none) (l Bs Bo cap:Nat) (A:Option Addr) (J:List Int->World->Prop) (W:World) (hBs:W.cell? ⟨Bs,Bo,none⟩=some (.slice A 0 cap)) (h0:J [] W) :
  CallsIn F n prog 134 #[.func (.yield l) #[] #[],.pointer (some ⟨Bs,Bo,none⟩)] W fun e W'=>(∃v,e=.returned v)∧J [] W':=by
 refine callsIn_of_wp func134 rfl h7 ?_ hro;simp only[ntmps134,ahY,List.length_cons,List.length_nil,Nat.reduceAdd,Nat.reduceSub,ajv,Array.replicate_zero,ajx,ajy,List.nil_append,List.cons_append]
 gi_wp2
 gi_loopw [7] (fun i wr=>i=.int .i64 0∧J [] wr) (fun _ _=>0)
 case atStart=>exact⟨rfl,h0⟩
 case round =>
  obtain⟨rfl,hJs⟩:=hrel
  gi_wp2
  go_end0
  exact⟨⟨_,rfl⟩,hJs⟩
def Ints (X:Nat) (W:World) (U:Value) (O:List Int):Prop :=
 (∃A c,U=.slice A 0 c∧O=[])∨∃b off cap,U=.slice (some ⟨b,off,none⟩) O.length cap∧b<X∧∀j,j<O.length->W.cell? ⟨b,off+j,none⟩=some (.int .i64 (O[j]?.getD 0))
theorem Ints.below {O:Nat} {A B:World} (h:Below O A B) {U:Value} {X:List Int} : Ints O A U X->Ints O B U X
 | .inl e =>.inl e
 | .inr ⟨b,off,cap,e,Y,Z⟩ =>.inr ⟨b,off,cap,e,Y,fun j hj=>(h.cell (p:=⟨b,off+j,none⟩) Y).trans (Z j hj)⟩
theorem KQ (F:Fence) (n:Nat) (h7:F.fn 134) (Y:F.round=none) (hn:1<=n) (X Z n₀:Nat) (sv:Value) (O:List Int) (U:O.length*8<=140737488351232) (w:World) (ab:X<w.heap.size) (ad:n₀<=w.heap.size)
  (hc:w.cell? ⟨X,Z,none⟩=some sv) (hI:Ints n₀ w sv O) :
  SeqStopsK F n prog 134 #[.pointer (some ⟨X,Z,none⟩)] (fun x:Int=>#[Value.int .i64 x]) (Below n₀) (fun ys=>ys=O) (fun pre=>pre <+: O) O.length w:=fun l J Jx W hW _ _ hY h0=>by
 have aa:=(hW.cell (p:=⟨X,Z,none⟩) ab).trans hc;rcases hI.below (hW.mono ad) with⟨A,c,rfl,rfl⟩|⟨b,off,cap,rfl,hb,ae⟩
 ·exact (Fy F n h7 Y l X Z _ _ J W aa h0).mono fun e W' ⟨he,hj⟩=>⟨he,.inl ⟨_,rfl,hj⟩⟩
 ·refine (R1 F n h7 Y hn l X Z n₀ b off O.length cap O U hb J Jx hY W aa ae h0).mono ?_;rintro e W' ⟨he,⟨ys,rfl,hj⟩|⟨pre,⟨k,hk,rfl⟩,hj⟩⟩
  ·exact⟨he,.inl ⟨_,Z9 O,hj⟩⟩
  ·exact⟨he,.inr ⟨_,by rw[Wf O hk];exact List.take_prefix _ _,hj⟩⟩
theorem ad0:(Tryz.prog.info? 3).map (fun i=>(i.zero,i.size,i.bytes))=some (some (.int .i64 0),1,8):=by kernel_rfl
set_option maxRecDepth 100000 in
set_option maxHeartbeats 2000000 in
theorem appendSeq_in (F:Fence) (n:Nat) (h3:F.fn 145) (h7:F.fn 134) (hro:F.round=none) (hn:3<=n) (Bs Bo:Nat) (sv:Value) (zs:List Int) (hreach:zs.length*8<=140737488351232) (w:World)
  (hBs:Bs<w.heap.size) (hc:w.cell? ⟨Bs,Bo,none⟩=some sv) (hI:Ints w.heap.size w sv zs) :
  CallsIn F n prog 145 #[.slice none 0 0,.func (.func 134) #[] #[.pointer (some ⟨Bs,Bo,none⟩)]] w fun e W'=>∃v,e=.returned v∧W'.ownsRow w.heap.size 3 1 v zs.length (zs.map (Value.int .i64))∧(v=.slice none 0 0↔zs=[])∧Below w.heap.size w W':=by
 have h1:1<=n:=by omega
 obtain⟨i0,hi,hz0,hz1,hz2⟩:=info_parts ad0;refine callsIn_of_wp_marks func145 rfl h3 ?_ hro;simp only[ntmps145,ahY,List.length_cons,List.length_nil,Nat.reduceAdd,Nat.reduceSub,ajv,Array.replicate_zero,ajx,ajy,List.nil_append,List.cons_append]
 gi_wp2
 have bO:=Boxed.new w 22 (.slice none 0 0);have hB0:Below w.heap.size w (w.alloc (.cells #[.slice none 0 0] 22)):=(Below.refl _ w).alloc (agC _) _;refine wpIn_rangeFunc_ownG hro h1 (gf:=134) (lb:=#[.pointer (some ⟨Bs,Bo,none⟩)]) rfl h7 (enters_of func134 (by kernel_rfl) rfl)
  (KQ F (n-1) h7 hro (by omega) Bs Bo w.heap.size sv zs hreach _ (by simp;omega) (by simp) ((hB0.cell (p:=⟨Bs,Bo,none⟩) hBs).trans hc) (hI.below hB0)) belowK_t (belowK_b (by simp)) (Below.refl _ _) (fun _=>rfl)
  (fun pre W=>(∃v,Boxed W w.heap.size 22 v∧W.ownsRow w.heap.size 3 1 v pre.length (pre.map (Value.int .i64))∧(v=.slice none 0 0↔pre=[]))∧Below w.heap.size w W)
  (fun _ _ _=>False)
  (OwnFrom.and (Own.from (holdsRow_own w.heap.size w.heap.size 22 3 1 (fun pre=>pre.length) (fun pre=>pre.map (Value.int .i64)) (fun pre v=>v=.slice none 0 0↔pre=[])) _) (ownFrom_below (agC _) (by simp)))
  (fun _ _ _ _ _ hs _ _=>hs)
  ⟨⟨_,bO,World.ownsRow_nil _ _ _ _,by simp⟩,hB0⟩
  (fun x=>{ tmps:=#[.slice none 0 0,.func (.func 134) #[] #[.pointer (some ⟨Bs,Bo,none⟩)],.pointer (some ⟨w.heap.size,0,none⟩),undef,.slice none 0 0,.int .i64 x,.func (.func 134) #[] #[.pointer (some ⟨Bs,Bo,none⟩)],.int .i64 x,undef,undef,undef,undef,undef],defers:=[] }) ?assign ?body ?done ?stop
 case assign =>
  intro l x W K hK
  gi_wp2
  exact hK
 case body =>
  rintro l pre x W ⟨⟨v,hv,hrow,hnil⟩,hB⟩ hlt;have hc:=hv.cell
  gi_wp2_with (gi_at_builtin;refine wpListIn_append_own _ rfl _ _ 22 rfl w.heap.size 3 i0 (.int .i64 0) 1 8 underlying22 hi hz0 hz1 hz2 rfl (by decide) _ _ _ rfl (hrow.alloc _) ⟨W.heap.size,0,none⟩ 1 1 [.int .i64 x] rfl rfl (cell_one_new _ _ _) (by simp[Value.oneCell']) (by unfold maxLen;omega) (by omega) (by have:=hB.size;simp;omega) ?_;intro v' w1 hown' hgrow _;obtain⟨g',cap',rfl⟩:=ownsRow_succ hown';obtain⟨hv1,hv2,hr2,hk2,hb2⟩:=hv.appended (by decide) hrow hB.size (agC _) hown' hgrow;have hc1:=hv1.cell;have hf1:=hv1.frozen)
  exact⟨hk2.from _,hb2,⟨_,hv2,by simpa using hr2,by simp⟩,hB.trans hb2⟩
 case done =>
  rintro D ys W hD rfl ⟨⟨v,hv,hrow,hnil⟩,hB⟩ hK;have hc:=hv.cell
  gi_wp2
  refine⟨by simp,.inl ⟨_,_,rfl,run_takeDeferred hK,?_⟩⟩;exact⟨_,results_tmp rfl _ _ _,v,rfl,ownsRow_putObj hrow _ hK rfl,hnil,hB.trans (belowK_b (w:=w) (agC _) W D _ _ (by simp at hD;omega) hK rfl rfl)⟩
 case stop =>
  rintro D c pre W _ _ h _;exact h.elim
set_option maxHeartbeats 1000000 in
theorem collect_in (F:Fence) (n:Nat) (h2:F.fn 132) (h3:F.fn 145) (h7:F.fn 134) (hro:F.round=none) (hn:4<=n) (Bs Bo:Nat) (sv:Value) (zs:List Int) (hreach:zs.length*8<=140737488351232) (w:World)
  (hBs:Bs<w.heap.size) (hc:w.cell? ⟨Bs,Bo,none⟩=some sv) (hI:Ints w.heap.size w sv zs) :
  CallsIn F n prog 132 #[.func (.func 134) #[] #[.pointer (some ⟨Bs,Bo,none⟩)]] w fun e W'=>∃v,e=.returned v∧W'.ownsRow w.heap.size 3 1 v zs.length (zs.map (Value.int .i64))∧(v=.slice none 0 0↔zs=[])∧Below w.heap.size w W':=by
 have h1:1<=n:=by omega
 refine callsIn_of_wp func132 rfl h2 ?_ hro;simp only[ntmps132,ahY,List.length_cons,List.length_nil,Nat.reduceAdd,Nat.reduceSub,ajv,Array.replicate_zero,ajx,ajy,List.nil_append,List.cons_append]
 gi_wp2_with (gi_at_call 145;refine (appendSeq_in F (n-1) h3 h7 hro (by omega) Bs Bo sv zs hreach _ hBs hc hI).mono ?_;rintro e w' ⟨v,rfl,hrow,hnil,hb⟩)
 go_ret
 exact⟨v,rfl,hrow,hnil,hb⟩
theorem abu (a:Option Addr) (len cap:Nat) (w:World) :
  Calls prog 102 #[.slice a len cap] w fun e w'=>e=.returned (.func (.func 134) #[] #[.pointer (some ⟨w.heap.size,0,none⟩)])∧w'=w.alloc (.cells #[.slice a len cap] 22):=by
 go_enter func102,ntmps102
 go_wp2
 go_ret
 exact⟨rfl,rfl⟩
set_option maxHeartbeats 1000000 in
theorem abl (Bs Bo:Nat) (sv:Value) (zs:List Int) (hreach:zs.length*8<=140737488351232) (w:World) (hBs:Bs<w.heap.size) (hc:w.cell? ⟨Bs,Bo,none⟩=some sv) (hI:Ints w.heap.size w sv zs) :
  Calls prog 101 #[.func (.func 134) #[] #[.pointer (some ⟨Bs,Bo,none⟩)]] w fun e w'=>∃v,e=.returned v∧Below w.heap.size w w' ∧
   ((zs=[]∧v=.slice none 0 0)∨∃g cap cs,v=.slice (some ⟨g,0,none⟩) zs.length cap∧w.heap.size<=g∧w'.heap[g]? = some (.cells cs 3 (0,0))∧zs.length<=cap∧cap<=maxLen∧cs.size=cap∧∀j,j<zs.length->cs.getD j undef=.int .i64 ((nL zs).getD j 0)):=by
 refine (callsIn_wide (n:=6)).1 ?_;have hN:(1:Nat)<=6:=by omega
 have cC:=collect_in Fence.wide 5 trivial trivial trivial rfl (by omega) Bs Bo sv zs hreach w hBs hc hI;refine callsIn_of_wp func101 rfl trivial ?_ rfl;simp only[ntmps101,ahY,List.length_cons,List.length_nil,Nat.reduceAdd,Nat.reduceSub,ajv,Array.replicate_zero,ajx,ajy,List.nil_append,List.cons_append];have hf1:Fence.wide.fn 132:=trivial;have hf2:Fence.wide.fn 133:=trivial;have cS:adR prog 133:=fun blk off cap zs w hH hb hl=>Any.slices_Sort_int Tryz.Tw blk off cap zs w hH hb hl
 by_cases hz:zs=[]
 ·subst hz
  gi_wp2_with (first
   | (gi_at_call 132;refine cC.mono ?_;clear cC;rintro e w' ⟨v,rfl,hrow,hnil,hb⟩;obtain rfl:v=.slice none 0 0:=hnil.2 rfl)
   | (gi_at_call 133;refine (callsIn_wide.2 (Any.slices_Sort_int_none Tryz.Tw _ _ _)).mono ?_;rintro e2 w2 ⟨rfl,rfl⟩))
  go_ret
  first|exact⟨_,rfl,hb,.inl rfl⟩|exact⟨_,rfl,hb,.inl ⟨rfl,rfl⟩⟩
 ·gi_wp2_with (gi_at_call 132;refine cC.mono ?_;clear cC;rintro e w' ⟨v,rfl,hrow,hnil,hb⟩;obtain⟨g,cap,cur,rfl,k1,k2,k3,k4,k5,k6⟩:∃g cap cur,v=.slice (some ⟨g,0,none⟩) zs.length cap∧w.heap.size<=g∧w'.heap[g]? = some (.cells cur 3 (0,0))∧zs.length<=cap∧cap<=maxLen∧cur.size=cap*1∧cur.toList.take (zs.length*1)=zs.map (Value.int .i64):=hrow.2.resolve_left (fun hv=>hz (hnil.1 hv.1)))
  rw[Nat.mul_one]at k5 k6;have hcur:∀j,j<zs.length->cur[j]? = some (.int .i64 (zs.getD j 0)):=by
   intro j hj;have:(cur.toList.take zs.length)[j]? = (zs.map (Value.int .i64))[j]?:=by rw[k6]
   rw[agS,if_pos hj,agz,ahu]at this;rw[this];simp[List.getD,hj]
  have hH:Go.Sort.Holds (Value.int .i64) w' g 0 zs.toArray:=by
   intro j hj;simp only[ahY]at hj;refine⟨?_,by simp[World.frozen?,k2]⟩;simp only[World.cell?,k2,ahr];rw[hcur j hj];simp[List.getD,hj]
  have hlt:g<w'.heap.size:=(agG.1 k2).1
  gi_wp2_with (gi_at_call 133;refine (callsIn_wide.2 (cS g 0 cap zs w' hH hlt (by omega))).mono ?_;rintro e2 w2 ⟨rfl,q,os,rfl⟩)
  go_ret
  refine⟨_,rfl,?_,.inr ⟨g,cap,Go.Sort.putCells (Value.int .i64) 0 (nL zs).toArray cur,rfl,k1,?_,k3,k4,?_,fun j hj =>?_⟩⟩
  ·refine⟨hb.os,hb.tape,hb.output,agE hb.size (by simp[Go.Sort.grow,Go.Sort.ahead]),fun k hk =>?_⟩;have hk':k<w'.heap.size:=agF hk hb.size;rw[Go.Sort.heap_grow_old _ _ (by simpa [Go.Sort.ahead] using hk'),EU (by omega)];exact hb.block k hk
  ·rw[Go.Sort.heap_grow_old _ _ (by simpa [Go.Sort.ahead] using hlt)];exact OR k2
  ·simp[Go.Sort.putCells,k5]
  ·rw[Kn (by omega),if_pos (by rw[oH];omega),aho]
theorem Wi:bW prog 102 (dW (dS (mP (eI .i64))) KP (fun r =>.clean (.clo 134 0 [.ip [.sl false false r.length (ab (eI .i64) r)]]))) where
 callable:=⟨_,func102,by kernel_rfl,by kernel_rfl⟩
 calls lent ds rk out hg:=by
  obtain⟨rfl,rfl,l,r,rfl,hr,rfl⟩:=qY hg;cases hr;intro w M vs hM O;have Y:vs.size=1:=O.size;rw[aac Y];have hu:=O.at_ 0 _ rfl;generalize vs.getD 0 undef=u at *;have X:RP w M (.sl false false l.length (ab (eI .i64) l)) u:=hu;obtain⟨A,c,rfl,-⟩:=Sl X;refine (abu A l.length c w).mono fun e w' ⟨he,hw⟩ =>?_;subst hw;have Z:Below w.heap.size w (w.alloc (.cells #[.slice A l.length c] 22)):=(Below.refl _ w).alloc (agC _) _;have hk:∀b,b<w.heap.size->¬M b->b<(w.alloc (.cells #[.slice A l.length c] 22)).heap.size∧¬M b∧(w.alloc (.cells #[.slice A l.length c] 22)).heap[b]? = w.heap[b]?:=fun b h1 h2=>⟨by simp;omega,h2,Z.block b h1⟩;refine⟨_,he,Z,RP.clo _ 0 _ [.pointer (some ⟨w.heap.size,0,none⟩)] rfl fun j x U =>?_⟩;cases j with
  | succ j=>simp at U
  | zero =>
   simp only[List.getElem?_cons_zero,agL]at U;subst U;refine RP.ip _ ⟨w.heap.size,0,none⟩ (fun _ =>.slice A l.length c) (fun _=>⟨w.heap.size,0,rfl,by simp,fun h=>by have:=hM _ h;omega,fun j U =>?_⟩) (fun j x U =>?_) (fun x hx =>?_)
   ·simp only[List.length_cons,List.length_nil]at U;have:j=0:=by omega
    subst this;exact (aT (heap_alloc_new w _) (j:=0) (by simp)).trans rfl
   ·cases j with
    | succ j=>simp at U
    | zero =>
     simp only[List.getElem?_cons_zero,agL]at U;subst U;exact X.keep hk
   ·simp only[agZ]at hx;subst hx;rfl
theorem V3:bW prog 101 (dW (dS (Jy 134 0 (dS (UZ (jk (eI .i64)))))) B7 (fun r =>.fresh 3 1 r.length (ab (eI .i64) r))) where
 callable:=⟨_,func101,by kernel_rfl,by kernel_rfl⟩
 calls lent ds rk out hg:=by
  obtain⟨rfl,rfl,l,r,rfl,hr,rfl⟩:=qY hg;unfold B7 at hr;split at hr;rotate_left
  ·cases hr
  rename_i X;cases hr;intro w M vs hM U;have ae:vs.size=1:=U.size;rw[aac ae];have hu:=U.at_ 0 _ rfl;generalize vs.getD 0 undef=u at *;have ag:RP w M (.clo 134 0 [.ip [.sl false false l.length (ab (eI .i64) l)]]) u:=hu;cases ag with
  | clo f kk xs us h1 h2 =>
   have hp:=h2 0 _ rfl;have ah:us=[us.getD 0 undef]:=by
    match us,h1 with
    | [x],_=>rfl
   rw[ah];generalize us.getD 0 undef=q at *;cases hp with
   | ip xs ad Z h6 h7 h8 =>
    obtain⟨b,o,rfl,hb,al,Y⟩:=h6 (by simp);have O:=Y 0 (by simp);rw[ahb]at O;have hs:=h7 0 _ rfl;have hI:Ints w.heap.size w (Z 0) l:=by
     obtain⟨A,c,hA,k1,k2,k3,k4⟩:=Sl hs;rw[hA]
     by_cases hl:l=[]
     ·subst hl;exact .inl ⟨A,c,rfl,rfl⟩
     ·obtain⟨b',o',rfl,ai,an,aj⟩:=k4 hl;exact .inr ⟨b',o',c,rfl,ai,fun j hj=>by rw[aj j hj];simp[List.getD]⟩
    refine (abl b o (Z 0) l X w hb O hI).mono fun e w' ⟨v,he,ak,hv⟩ =>?_;refine⟨v,he,ak,?_⟩;rcases hv with⟨rfl,rfl⟩|⟨g,cap,cs,rfl,k1,k2,k3,k4,k5,k6⟩
    ·refine .inr ⟨?_,?_,none,rfl⟩
     ·rw[IP];rfl
     ·rw[IP];rfl
    ·refine .inl ⟨(g,0),cap,cs,by rw[oH],.inl k1,k2,by rw[oH];exact k3,k4,by simp only;omega,by rw[nY,oH];simp only;omega,fun j d hj =>?_⟩;have aa:=(ag5.1 hj).1;rw[nY,oH]at aa;rw[tE,agA]at hj;obtain⟨z,hz,rfl⟩:=hj;simp only[ahr];rw[k6 j aa];have:(nL l).getD j 0=z:=by simp[List.getD,hz]
     rw[this];exact⟨rfl,.int _ _⟩
end Go.Proofs.YtoioidmblipblaaGreat.Am
